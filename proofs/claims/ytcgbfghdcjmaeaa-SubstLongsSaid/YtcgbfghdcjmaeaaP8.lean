/- This file proves what the typed functions compute that ask whether a term is canonical; without any condition. -/
import Derived.Test.YtcgbfghdcjmaeaaP7
import Derived.Test.YtcgbfghdcjmaeaaQ3
set_option linter.unusedVariables false
set_option linter.unusedSimpArgs false
namespace Go.Proofs.Ytcgbfghdcjmaeaa.Ev

theorem rdSm_get {l : List Sm} {n : Int} {x : Sm} (h : l[n.toNat]? = some x) : rdEl lay Key.sm l n = x := by
  show (l[n.toNat]?).getD (⟨[], 0⟩ : Sm) = x
  rw [h]; rfl

/-- The body within so many binders, and its context. -/
def peel : List Sm → Tm → List Sm → Option (List Sm × Tm)
  | ctx, t, [] => some (ctx, t)
  | ctx, ⟨op, head, n, l⟩, a :: tys => if op = 3 then match l with | [b] => peel (ctx ++ [a]) b tys | _ => none else none

theorem peel_fit {cs : List Sm} {c : Int} : ∀ (tys : List Sm) (ctx : List Sm) (t : Tm) (d : Int), Form t d →
    (Can cs ctx.reverse t tys c ↔ ∃ ctx' t', peel ctx t tys = some (ctx', t') ∧ Can cs ctx'.reverse t' [] c)
  | [], ctx, t, d, hF => by
    constructor
    · intro h; exact ⟨ctx, t, rfl, h⟩
    · rintro ⟨ctx', t', h1, h2⟩
      cases h1; exact h2
  | a :: tys, ctx, ⟨op, head, n, l⟩, d, hF => by
    simp only [Form] at hF
    constructor
    · intro h
      cases h with
      | lam hb =>
        rename_i b
        have hb' : Can cs (ctx ++ [a]).reverse b tys c := by simpa using hb
        simp only [FormL] at hF
        simpa [peel] using (peel_fit tys (ctx ++ [a]) b (d + 1) hF.2.2.1).1 hb'
    · rintro ⟨ctx', t', h1, h2⟩
      unfold peel at h1
      by_cases ho : op = 3
      · subst ho
        rw [if_pos rfl] at h1
        have hn := hF.2.1
        simp only [nodeOk] at hn
        have hh : head = 0 ∧ n = 0 := by omega
        obtain ⟨rfl, rfl⟩ := hh
        match l, h1 with
        | [b], h1 =>
          simp only [FormL] at hF
          have := (peel_fit tys (ctx ++ [a]) b (d + 1) hF.2.2.1).2 ⟨ctx', t', h1, h2⟩
          exact .lam (by simpa using this)
      · rw [if_neg ho] at h1; cases h1

theorem peel_size : ∀ (tys ctx : List Sm) (t : Tm) (ctx' : List Sm) (t' : Tm) (d : Int), Form t d → peel ctx t tys = some (ctx', t') → ctx'.length = ctx.length + tys.length ∧ t'.size + tys.length = t.size ∧ Form t' (d + tys.length)
  | [], ctx, t, ctx', t', d, hF, h => by
    simp only [peel, Option.some.injEq, Prod.mk.injEq] at h
    obtain ⟨rfl, rfl⟩ := h
    simpa using hF
  | a :: tys, ctx, ⟨op, head, n, l⟩, ctx', t', d, hF, h => by
    simp only [Form] at hF
    unfold peel at h
    by_cases ho : op = 3
    · subst ho
      rw [if_pos rfl] at h
      match l, h with
      | [b], h =>
        simp only [FormL] at hF
        obtain ⟨h1, h2, h3⟩ := peel_size tys (ctx ++ [a]) b ctx' t' (d + 1) hF.2.2.1 h
        simp only [List.length_append, List.length_cons, List.length_nil] at h1
        simp only [Tm.size, sizeL, List.length_cons]
        refine ⟨by omega, by omega, ?_⟩
        rw [show d + ((tys.length + 1 : Nat) : Int) = d + 1 + tys.length by omega]
        exact h3
    · rw [if_neg ho] at h; cases h

noncomputable def fitB (cs ctx : List Sm) (t : Tm) (s : Sm) : Bool := by classical exact decide (Can cs ctx.reverse t s.args s.con)
theorem fitB_iff {cs ctx : List Sm} {t : Tm} {s : Sm} : fitB cs ctx t s = true ↔ Can cs ctx.reverse t s.args s.con := by simp [fitB]
theorem fitB_no {cs ctx : List Sm} {t : Tm} {s : Sm} (h : ¬ Can cs ctx.reverse t s.args s.con) : fitB cs ctx t s = false := by
  cases hb : fitB cs ctx t s with
  | false => rfl
  | true => exact absurd (fitB_iff.1 hb) h

theorem s23a (cs : List Sm) (s : Sm) : ∀ (tys pre : List Sm) (ctx : List Sm) (t : Tm) (i d : Int), s.args = pre ++ tys → i = (pre.length : Int) → i + t.size ≤ 2000 → (ctx.length : Int) + t.size ≤ 2000 → Form t d →
    Evt fun k => ∀ ρ K0 K1, (Tabs k).l23_2_0 ρ cs ctx s.args (s.args.length : Int) i t s K0 K1 = match peel ctx t tys with | none => K0 false | some (ctx', t') => K1 cs ctx' t' s := by
  intro tys
  induction tys with
  | nil =>
    intro pre ctx t i d hs hi _ _ _
    refine Evt.step0 fun k ρ K0 K1 => ?_
    show Gl23_2_0 (Tabs k) ρ _ _ _ _ _ _ _ K0 K1 = _
    simp only [Gl23_2_0, endL hs hi, cond_false, Tm.eta, Sm.eta, peel]
  | cons a tys ih =>
    intro pre ctx t i d hs hi h1 h2 hF
    obtain ⟨m1, m2, m3⟩ := midSm hs hi
    obtain ⟨op, head, n, l⟩ := t
    by_cases ho : op = 3
    rotate_left
    · refine Evt.step0 fun k ρ K0 K1 => ?_
      show Gl23_2_0 (Tabs k) ρ _ _ _ _ _ _ _ K0 K1 = _
      simp only [Gl23_2_0, m1, m2, cond_true, Bool.and_true, show (op != 3) = true by simp [ho], peel, ho, if_false]
    subst ho
    have hlen : ∃ b, l = [b] := by
      simp only [Form, nodeOk] at hF
      exact List.length_eq_one_iff.1 (by omega)
    obtain ⟨b, rfl⟩ := hlen
    simp only [Tm.size, sizeL] at h1 h2
    have hFb : Form b (d + 1) := by simp only [Form, FormL] at hF; exact hF.2.2.1
    have g1 := ih (pre ++ [a]) (ctx ++ [a]) b (i + 1) (d + 1) (nextL hs) (nextI hi) (by omega) (by simp only [List.length_append, List.length_cons, List.length_nil]; omega) hFb
    have hr0 : rdEl lay Key.tm ([b] : List Tm) (0 : Int) = b := rdTm0 b []
    have e1 : decide ((List.length ([] : List Sm) + List.length ctx) * 32 ≤ 140737488355328) = true := by simp only [decide_eq_true_eq, List.length_nil]; omega
    have e2 : decide ((List.length ([] ++ ctx) + List.length [a]) * 32 ≤ 140737488355328) = true := by simp only [decide_eq_true_eq, List.nil_append, List.length_cons, List.length_nil]; omega
    refine g1.step fun k hk ρ K0 K1 => ?_
    show Gl23_2_0 (Tabs k) ρ _ _ _ _ _ _ _ K0 K1 = _
    simp only [Gl23_2_0, m1, m2, m3, cond_true, cond_false, Bool.and_true, show ((3 : Int) != 3) = false by rfl, show ((([b] : List Tm).length : Int) != 1) = false by rfl, Sm.eta, e1, e2, hr0, Tm.eta, show decide ((0 : Int) ≤ 0) = true by rfl, show decide ((0 : Int) < (([b] : List Tm).length : Int)) = true by rfl, W_id (show -9223372036854775808 ≤ i + 1 by omega) (by omega), peel, if_true]
    exact hk ρ K0 K1

theorem s23 (cs : List Sm) : ∀ (N : Nat) (t : Tm) (ctx : List Sm) (s : Sm) (d : Int), t.size ≤ N → t.size ≤ 600 → (ctx.length : Int) + t.size ≤ 1200 → Form t d → Evt fun k => ∀ ρ K, (Tabs k).c23_0 ρ cs ctx t s K = K (fitB cs ctx t s)
  | 0, t, ctx, s, d, h, _, _, _ => by have := t.size_pos; omega
  | N + 1, t, ctx, s, d, hN, h6, hc, hF => by
    have g1 := s23a cs s s.args [] ctx t 0 d rfl rfl (by omega) (by omega) hF
    have hiff := peel_fit (cs := cs) (c := s.con) s.args ctx t d hF
    cases hp : peel ctx t s.args with
    | none =>
      rw [hp] at g1
      have hno : fitB cs ctx t s = false := fitB_no fun h => by
        obtain ⟨_, _, h1, _⟩ := hiff.1 h
        rw [hp] at h1; cases h1
      refine g1.step fun k hk ρ K => ?_
      show Gc23_0 (Tabs k) ρ _ _ _ _ K = _
      simp only [Gc23_0, Tm.eta, Sm.eta, hk, hno]
    | some q =>
      obtain ⟨ctx', t'⟩ := q
      rw [hp] at g1
      obtain ⟨z1, z2, z3⟩ := peel_size s.args ctx t ctx' t' d hF hp
      have hfit : Can cs ctx.reverse t s.args s.con ↔ Can cs ctx'.reverse t' [] s.con := by
        rw [hiff]
        constructor
        · rintro ⟨a, b, h1, h2⟩
          rw [hp] at h1; cases h1; exact h2
        · intro h; exact ⟨ctx', t', hp, h⟩
      obtain ⟨op, head, n, l⟩ := t'
      -- a head without a type, or of another one
      have bad : (∀ h, op = 4 → headTy cs ctx'.reverse head n = some h → h.con = s.con → l.length = h.args.length → False) →
          fitB cs ctx t s = false := fun hb => fitB_no fun h => by
        cases hfit.1 h with
        | app he hcn hl _ => exact hb _ rfl he hcn hl
      simp only at g1
      have hlen0 : 0 ≤ n ∧ n ≤ 9999 := z3.n
      -- the Args
      have args : ∀ h : Sm, headTy cs ctx'.reverse head n = some h → h.con = s.con → l.length = h.args.length → op = 4 → ∃ r : Bool, fitB cs ctx t s = r ∧
          Evt fun k => ∀ ρ K0 K1, (Tabs k).l23_23_0 ρ cs ctx' (l.length : Int) 0 ⟨op, head, n, l⟩ s h K0 K1 = cond r K1 (K0 false) := by
        intro h he hcn hl ho
        subst ho
        have loop : ∀ (post pre l : List Tm) (tpre tpost : List Sm) (i : Int), l = pre ++ post → h.args = tpre ++ tpost → i = (pre.length : Int) → pre.length = tpre.length → post.length = tpost.length → (∀ x ∈ post, x.size ≤ N ∧ x.size ≤ 600 ∧ (ctx'.length : Int) + x.size ≤ 1200 ∧ ∃ d, Form x d) → l.length ≤ 2000 →
            ∃ r : Bool, (r = true ↔ ∀ (j : Nat) (x : Tm) (a : Sm), post[j]? = some x → tpost[j]? = some a → Can cs ctx'.reverse x a.args a.con) ∧
              Evt fun k => ∀ ρ K0 K1, (Tabs k).l23_23_0 ρ cs ctx' (l.length : Int) i ⟨4, head, n, l⟩ s h K0 K1 = cond r K1 (K0 false) := by
          intro post
          induction post with
          | nil =>
            intro pre l tpre tpost i hl ht hi hpp hll _ _
            refine ⟨true, by simp, Evt.step0 fun k ρ K0 K1 => ?_⟩
            show Gl23_23_0 (Tabs k) ρ _ _ _ _ _ _ _ K0 K1 = _
            simp only [Gl23_23_0, endL hl hi, cond_false, cond_true]
          | cons x r ih =>
            intro pre l tpre tpost i hl ht hi hpp hll hx hl2
            cases tpost with
            | nil => simp at hll
            | cons a tpost =>
            obtain ⟨m1, m2, m3⟩ := midTm hl hi
            obtain ⟨n1, n2, n3⟩ := midSm ht (i := i) (by rw [hi, hpp])
            have hlen := lenL hl hi
            simp only [List.length_cons] at hlen hll
            obtain ⟨x1, x2, x3, dx, x4⟩ := hx x (List.mem_cons_self ..)
            have g1 := s23 cs N x ctx' a dx x1 x2 x3 x4
            obtain ⟨q, q1, q2⟩ := ih (pre ++ [x]) l (tpre ++ [a]) tpost (i + 1) (nextL hl) (nextL ht) (nextI hi) (by simp [hpp]) (by omega) (fun y hy => hx y (List.mem_cons_of_mem _ hy)) hl2
            refine ⟨fitB cs ctx' x a && q, ?_, (g1.and q2).step fun k hk ρ K0 K1 => ?_⟩
            · rw [Bool.and_eq_true, fitB_iff, q1]
              constructor
              · rintro ⟨h1, h2⟩ j y b hy hb
                cases j with
                | zero => simp at hy hb; subst hy; subst hb; exact h1
                | succ j => exact h2 j y b (by simpa using hy) (by simpa using hb)
              · intro h
                exact ⟨h 0 x a rfl rfl, fun j y b hy hb => h (j + 1) y b (by simpa using hy) (by simpa using hb)⟩
            · show Gl23_23_0 (Tabs k) ρ _ _ _ _ _ _ _ K0 K1 = _
              simp only [Gl23_23_0, m1, m2, m3, n1, n2, n3, cond_true, Bool.and_true, Tm.eta, Sm.eta, hk.1, W_id (show -9223372036854775808 ≤ i + 1 by omega) (by omega), hk.2]
              cases fitB cs ctx' x a <;> rfl
        have hsl := sizeL_len l
        simp only [Tm.size] at z2
        simp only [Form] at z3
        obtain ⟨r, r1, r2⟩ := loop l [] l [] h.args 0 rfl rfl rfl rfl hl (fun x hx => by
          have := sizeL_mem hx
          exact ⟨by omega, by omega, by omega, _, FormL_mem.1 z3.2.2 x hx⟩) (by omega)
        refine ⟨r, ?_, r2⟩
        rw [Bool.eq_iff_iff, r1, fitB_iff, hfit]
        constructor
        · intro hf
          cases hf with
          | app he' _ _ ha => rw [he] at he'; cases he'; exact ha
        · intro ha; exact .app he hcn hl ha
      by_cases ho : op = 4
      rotate_left
      · refine g1.step fun k hk ρ K => ?_
        show Gc23_0 (Tabs k) ρ _ _ _ _ K = _
        simp only [Gc23_0, Tm.eta, Sm.eta, hk, show (op != 4) = true by simp [ho], cond_true, bad fun h h1 => absurd h1 ho]
      subst ho
      have hneg : ¬ n < 0 := by omega
      -- what follows a head's type
      have tail : ∀ h : Sm, headTy cs ctx'.reverse head n = some h → Evt fun k => ∀ (ρ : Type) (K : Bool → Option ρ), cond (h.con != s.con) (K false) (cond ((h.args.length : Int) != (l.length : Int)) (K false) ((Tabs k).l23_23_0 ρ cs ctx' (l.length : Int) 0 ⟨4, head, n, l⟩ s h (fun r10 => K r10) (K true))) = K (fitB cs ctx t s) := by
        intro h he
        by_cases c1 : h.con = s.con
        · by_cases c2 : l.length = h.args.length
          · obtain ⟨r, r1, r2⟩ := args h he c1 c2 rfl
            refine r2.mono fun k hk ρ K => ?_
            have hk' : ∀ K0 K1, (Tabs k).l23_23_0 ρ cs ctx' (l.length : Int) 0 ⟨4, head, n, l⟩ s h K0 K1 = cond r K1 (K0 false) := hk ρ
            rw [hk', r1, c1, ← c2]
            simp only [bne_self_eq_false, cond_false]
            cases r <;> rfl
          · refine .pure fun k ρ K => ?_
            have e : ((h.args.length : Int) != (l.length : Int)) = true := by simp; omega
            rw [e, bad fun h' _ he' _ hl' => by rw [he] at he'; cases he'; exact c2 hl']
            cases h.con != s.con <;> rfl
        · refine .pure fun k ρ K => ?_
          have e : (h.con != s.con) = true := by simp [c1]
          rw [e, bad fun h' _ he' hc' _ => by rw [he] at he'; cases he'; exact c1 hc']
          rfl
      have none_bad : headTy cs ctx'.reverse head n = none → fitB cs ctx t s = false := fun hn => bad fun h _ he _ _ => by rw [hn] at he; cases he
      obtain ⟨x0, hx0⟩ : ∃ x0 : Sm, rdEl lay Key.sm cs n = x0 := ⟨_, rfl⟩
      have hcon : head ≠ 1 → Evt fun k => ∀ (ρ : Type) (K : Bool → Option ρ), (bif head == 2 then bif decide (n < (cs.length : Int)) then bif decide (0 ≤ n) && decide (n < (cs.length : Int)) then cond (x0.con != s.con) (K false) (cond ((x0.args.length : Int) != (l.length : Int)) (K false) ((Tabs k).l23_23_0 ρ cs ctx' (l.length : Int) 0 ⟨4, head, n, l⟩ s x0 (fun r10 => K r10) (K true))) else none else K false else K false) = K (fitB cs ctx t s) := by
        intro h1
        by_cases h2 : head = 2
        · by_cases h3 : n < (cs.length : Int)
          · obtain ⟨x, hx⟩ : ∃ x, cs[n.toNat]? = some x := ⟨_, List.getElem?_eq_getElem (by omega)⟩
            have hr : x0 = x := hx0.symm.trans (rdSm_get hx)
            have he : headTy cs ctx'.reverse head n = some x := by unfold headTy; rw [if_neg hneg, if_neg h1, if_pos h2]; exact hx
            refine (tail x he).mono fun k hk ρ K => ?_
            have e3 : decide (0 ≤ n) = true := decide_eq_true hlen0.1
            simp only [hr, show (head == 2) = true by simp [h2], h3, decide_true, e3, cond_true, Bool.and_true]
            exact hk ρ K
          · refine .pure fun k ρ K => ?_
            have he : headTy cs ctx'.reverse head n = none := by unfold headTy; rw [if_neg hneg, if_neg h1, if_pos h2]; exact List.getElem?_eq_none (by omega)
            simp only [show (head == 2) = true by simp [h2], h3, decide_false, cond_true, cond_false, none_bad he]
        · refine .pure fun k ρ K => ?_
          have he : headTy cs ctx'.reverse head n = none := by unfold headTy; rw [if_neg hneg, if_neg h1, if_neg h2]
          simp only [show (head == 2) = false by simp [h2], cond_false, none_bad he]
      by_cases h1 : head = 1
      · by_cases h3 : n < (ctx'.length : Int)
        · obtain ⟨x, hx⟩ : ∃ x, ctx'.reverse[n.toNat]? = some x := ⟨_, List.getElem?_eq_getElem (by simp; omega)⟩
          have he : headTy cs ctx'.reverse head n = some x := by unfold headTy; rw [if_neg hneg, if_pos h1]; exact hx
          rw [List.getElem?_reverse (by omega)] at hx
          have hw : IntKind.wrap .i64 (IntKind.wrap .i64 ((ctx'.length : Int) - 1) - n) = (ctx'.length : Int) - 1 - n := by
            rw [W_id (show -9223372036854775808 ≤ (ctx'.length : Int) - 1 by omega) (by omega), W_id (by omega) (by omega)]
          have hr : rdEl lay Key.sm ctx' ((ctx'.length : Int) - 1 - n) = x := by
            have : ((ctx'.length : Int) - 1 - n).toNat = ctx'.length - 1 - n.toNat := by omega
            exact rdSm_get (by rw [this]; exact hx)
          refine (g1.and (tail x he)).step fun k hk ρ K => ?_
          show Gc23_0 (Tabs k) ρ _ _ _ _ K = _
          have e1 : decide ((0 : Int) ≤ (ctx'.length : Int) - 1 - n) = true := decide_eq_true (by omega)
          have e2 : decide ((ctx'.length : Int) - 1 - n < (ctx'.length : Int)) = true := decide_eq_true (by omega)
          simp only [Gc23_0, Tm.eta, Sm.eta, hk.1, show ((4 : Int) != 4) = false by rfl, cond_false, hneg, decide_false, show (head == 1) = true by simp [h1], cond_true, h3, decide_true, hw, e1, e2, Bool.and_true, hr]
          exact hk.2 ρ K
        · have he : headTy cs ctx'.reverse head n = none := by unfold headTy; rw [if_neg hneg, if_pos h1]; exact List.getElem?_eq_none (by simp; omega)
          refine g1.step fun k hk ρ K => ?_
          show Gc23_0 (Tabs k) ρ _ _ _ _ K = _
          simp only [Gc23_0, Tm.eta, Sm.eta, hk, show ((4 : Int) != 4) = false by rfl, cond_false, hneg, decide_false, show (head == 1) = true by simp [h1], cond_true, h3, show (head == 2) = false by simp [h1], none_bad he]
      · refine (g1.and (hcon h1)).step fun k hk ρ K => ?_
        show Gc23_0 (Tabs k) ρ _ _ _ _ K = _
        simp only [Gc23_0, Tm.eta, Sm.eta, hk.1, show ((4 : Int) != 4) = false by rfl, cond_false, hneg, decide_false, show (head == 1) = false by simp [h1], hx0]
        exact hk.2 ρ K

/-! ### A typed term -/

theorem s22a (a4 a5 : List Sm) (a6 a7 a8 : Int) (a9 : List Tm) (a10 : List Sm) (a11 : Int) : ∀ (post pre l : List Sm) (i : Int), l = pre ++ post → i = (pre.length : Int) → l.length ≤ 2000 →
    Evt fun k => ∀ ρ K0 K1, (Tabs k).l22_4_0 ρ l (l.length : Int) i a4 a5 a6 a7 a8 a9 a10 a11 K0 K1 = cond (post.all smB) (K1 a4 a5 a6 a7 a8 a9 a10 a11) (K0 false) := by
  intro post
  induction post with
  | nil =>
    intro pre l i hl hi _
    refine Evt.step0 fun k ρ K0 K1 => ?_
    show Gl22_4_0 (Tabs k) ρ _ _ _ _ _ _ _ _ _ _ _ K0 K1 = _
    simp only [Gl22_4_0, endL hl hi, cond_false, List.all_nil, cond_true]
  | cons x r ih =>
    intro pre l i hl hi hlen
    obtain ⟨m1, m2, m3⟩ := midSm hl hi
    have hlen2 := lenL hl hi
    refine ((s19 x).and (ih (pre ++ [x]) l (i + 1) (nextL hl) (nextI hi) hlen)).step fun k hk ρ K0 K1 => ?_
    show Gl22_4_0 (Tabs k) ρ _ _ _ _ _ _ _ _ _ _ _ K0 K1 = _
    simp only [Gl22_4_0, m1, m2, m3, cond_true, Bool.and_true, Sm.eta, hk.1, W_id (show -9223372036854775808 ≤ i + 1 by omega) (by omega), hk.2, List.all_cons]
    cases smB x <;> rfl

theorem s22b (a4 a5 : List Sm) (a6 a7 a8 : Int) (a9 : List Tm) (a10 : List Sm) (a11 : Int) : ∀ (post pre l : List Sm) (i : Int), l = pre ++ post → i = (pre.length : Int) → l.length ≤ 2000 →
    Evt fun k => ∀ ρ K0 K1, (Tabs k).l22_10_0 ρ l (l.length : Int) i a4 a5 a6 a7 a8 a9 a10 a11 K0 K1 = cond (post.all smB) (K1 a4 a5 a6 a7 a8 a9 a10 a11) (K0 false) := by
  intro post
  induction post with
  | nil =>
    intro pre l i hl hi _
    refine Evt.step0 fun k ρ K0 K1 => ?_
    show Gl22_10_0 (Tabs k) ρ _ _ _ _ _ _ _ _ _ _ _ K0 K1 = _
    simp only [Gl22_10_0, endL hl hi, cond_false, List.all_nil, cond_true]
  | cons x r ih =>
    intro pre l i hl hi hlen
    obtain ⟨m1, m2, m3⟩ := midSm hl hi
    have hlen2 := lenL hl hi
    refine ((s19 x).and (ih (pre ++ [x]) l (i + 1) (nextL hl) (nextI hi) hlen)).step fun k hk ρ K0 K1 => ?_
    show Gl22_10_0 (Tabs k) ρ _ _ _ _ _ _ _ _ _ _ _ K0 K1 = _
    simp only [Gl22_10_0, m1, m2, m3, cond_true, Bool.and_true, Sm.eta, hk.1, W_id (show -9223372036854775808 ≤ i + 1 by omega) (by omega), hk.2, List.all_cons]
    cases smB x <;> rfl

structure Right (cs ctx : List Sm) (t : Tm) (s : Sm) : Prop where
  cs20 : cs.length ≤ 20
  ctx20 : ctx.length ≤ 20
  pr : Proper t
  sm : Small s
  css : ∀ a ∈ cs, Small a
  ctxs : ∀ a ∈ ctx, Small a
  fit : Can cs ctx.reverse t s.args s.con

noncomputable def rightB (cs ctx : List Sm) (t : Tm) (s : Sm) : Bool := by classical exact decide (Right cs ctx t s)
theorem rightB_iff {cs ctx : List Sm} {t : Tm} {s : Sm} : rightB cs ctx t s = true ↔ Right cs ctx t s := by simp [rightB]

theorem s22 (cs ctx : List Sm) (t : Tm) (s : Sm) : Evt fun k => ∀ ρ K, (Tabs k).c22_0 ρ cs ctx t.op t.head t.n t.args s.args s.con K = K (rightB cs ctx t s) := by
  have no : ¬ Right cs ctx t s → rightB cs ctx t s = false := fun h => by
    cases hb : rightB cs ctx t s with
    | false => rfl
    | true => exact absurd (rightB_iff.1 hb) h
  by_cases h1 : cs.length ≤ 20
  rotate_left
  · refine Evt.step0 fun k ρ K => ?_
    show Gc22_0 (Tabs k) ρ _ _ _ _ _ _ _ _ K = _
    have : (cs.length : Int) > 20 := by omega
    simp only [Gc22_0, this, decide_true, cond_true, no fun h => h1 h.cs20]
  by_cases h2 : ctx.length ≤ 20
  rotate_left
  · refine Evt.step0 fun k ρ K => ?_
    show Gc22_0 (Tabs k) ρ _ _ _ _ _ _ _ _ K = _
    have e1 : ¬ (cs.length : Int) > 20 := by omega
    have : (ctx.length : Int) > 20 := by omega
    simp only [Gc22_0, e1, this, decide_true, decide_false, cond_true, cond_false, no fun h => h2 h.ctx20]
  have e1 : ¬ (cs.length : Int) > 20 := by omega
  have e2 : ¬ (ctx.length : Int) > 20 := by omega
  by_cases h3 : Proper t
  rotate_left
  · refine (s18 t).step fun k hk ρ K => ?_
    show Gc22_0 (Tabs k) ρ _ _ _ _ _ _ _ _ K = _
    simp only [Gc22_0, e1, e2, decide_false, cond_true, cond_false, Tm.eta, hk, prB_no h3, Bool.not_false, no fun h => h3 h.pr]
  by_cases h4 : Small s
  rotate_left
  · refine ((s18 t).and (s19 s)).step fun k hk ρ K => ?_
    show Gc22_0 (Tabs k) ρ _ _ _ _ _ _ _ _ K = _
    simp only [Gc22_0, e1, e2, decide_false, cond_true, cond_false, Tm.eta, Sm.eta, hk.1, hk.2, prB_ok h3, smB_no h4, Bool.not_false, Bool.not_true, no fun h => h4 h.sm]
  have hsz := h3.1
  refine ((s18 t).and ((s19 s).and ((s22a cs ctx t.op t.head t.n t.args s.args s.con cs [] cs 0 rfl rfl (by omega)).and ((s22b cs ctx t.op t.head t.n t.args s.args s.con ctx [] ctx 0 rfl rfl (by omega)).and (s23 cs t.size t ctx s 1 (Nat.le_refl _) hsz (by omega) h3.2))))).step fun k hk ρ K => ?_
  show Gc22_0 (Tabs k) ρ _ _ _ _ _ _ _ _ K = _
  simp only [Gc22_0, e1, e2, decide_false, cond_true, cond_false, Tm.eta, Sm.eta, hk.1, hk.2.1, prB_ok h3, smB_ok h4, Bool.not_true, hk.2.2.1, hk.2.2.2.1, hk.2.2.2.2]
  cases h5 : cs.all smB with
  | false =>
    rw [no fun h => ?_]; · rfl
    have : cs.all smB = true := List.all_eq_true.2 fun x hx => smB_ok (h.css x hx)
    rw [h5] at this; cases this
  | true =>
    cases h6 : ctx.all smB with
    | false =>
      rw [no fun h => ?_]; · rfl
      have : ctx.all smB = true := List.all_eq_true.2 fun x hx => smB_ok (h.ctxs x hx)
      rw [h6] at this; cases this
    | true =>
      simp only [cond_true]
      congr 1
      rw [Bool.eq_iff_iff, fitB_iff, rightB_iff]
      exact ⟨fun h => ⟨h1, h2, h3, h4, fun a ha => smB_iff.1 (List.all_eq_true.1 h5 a ha), fun a ha => smB_iff.1 (List.all_eq_true.1 h6 a ha), h⟩, fun h => h.fit⟩

/-! ### Contexts -/

theorem u64_range (x : Int) : 0 ≤ IntKind.wrap .u64 x ∧ IntKind.wrap .u64 x < 18446744073709551616 := by
  simp only [IntKind.wrap, IntKind.signed, IntKind.bits]
  simp
  omega
theorem u64_id {x : Int} (h : 0 ≤ x) (h' : x < 18446744073709551616) : IntKind.wrap .u64 x = x := by
  simp only [IntKind.wrap, IntKind.signed, IntKind.bits]
  simp
  omega
/-- A number modulo a length. -/
theorem mod_range (x : Int) {m : Int} (h : 0 < m) : 0 ≤ Int.tmod (IntKind.wrap .u64 x) m ∧ Int.tmod (IntKind.wrap .u64 x) m < m := by
  have := (u64_range x).1
  exact ⟨Int.tmod_nonneg m this, Int.tmod_lt_of_pos _ h⟩

theorem s24 (ctx : List Sm) (n : Int) (h0 : 0 ≤ n) (h1 : n < ctx.length) (h2 : ctx.length ≤ 2000) : Evt fun k => ∀ ρ K, (Tabs k).c24_0 ρ ctx n K = K (ctx.take (ctx.length - 1 - n.toNat)) := by
  refine Evt.step0 fun k ρ K => ?_
  show Gc24_0 (Tabs k) ρ _ _ K = _
  have hw : IntKind.wrap .i64 (IntKind.wrap .i64 ((ctx.length : Int) - 1) - n) = (ctx.length : Int) - 1 - n := by
    rw [W_id (show -9223372036854775808 ≤ (ctx.length : Int) - 1 by omega) (by omega), W_id (by omega) (by omega)]
  have e1 : decide ((0 : Int) ≤ (ctx.length : Int) - 1 - n) = true := decide_eq_true (by omega)
  have e2 : decide ((ctx.length : Int) - 1 - n ≤ (ctx.length : Int)) = true := decide_eq_true (by omega)
  simp only [Gc24_0, hw, e1, e2, show decide ((0 : Int) ≤ 0) = true by rfl, Bool.and_true, cond_true]
  rw [show ((ctx.length : Int) - 1 - n).toNat = ctx.length - 1 - n.toNat by omega]
  simp

theorem s25 (ctx : List Sm) (n : Int) (h0 : 0 ≤ n) (h1 : n < ctx.length) (h2 : ctx.length ≤ 2000) : Evt fun k => ∀ ρ K, (Tabs k).c25_0 ρ ctx n K = K (ctx.take (ctx.length - 1 - n.toNat) ++ ctx.drop (ctx.length - n.toNat)) := by
  refine Evt.step0 fun k ρ K => ?_
  show Gc25_0 (Tabs k) ρ _ _ K = _
  have hw : IntKind.wrap .i64 (IntKind.wrap .i64 ((ctx.length : Int) - 1) - n) = (ctx.length : Int) - 1 - n := by
    rw [W_id (show -9223372036854775808 ≤ (ctx.length : Int) - 1 by omega) (by omega), W_id (by omega) (by omega)]
  have hw2 : IntKind.wrap .i64 ((ctx.length : Int) - 1 - n + 1) = (ctx.length : Int) - n := by rw [W_id (by omega) (by omega)]; omega
  have e1 : decide ((0 : Int) ≤ (ctx.length : Int) - 1 - n) = true := decide_eq_true (by omega)
  have e2 : decide ((ctx.length : Int) - 1 - n ≤ (ctx.length : Int)) = true := decide_eq_true (by omega)
  have e3 : decide ((0 : Int) ≤ (ctx.length : Int) - n) = true := decide_eq_true (by omega)
  have e4 : decide ((ctx.length : Int) - n ≤ (ctx.length : Int)) = true := decide_eq_true (by omega)
  have e5 : decide ((ctx.length : Int) ≤ (ctx.length : Int)) = true := decide_eq_true (Int.le_refl _)
  have t1 : ((ctx.length : Int) - 1 - n).toNat = ctx.length - 1 - n.toNat := by omega
  have t2 : ((ctx.length : Int) - n).toNat = ctx.length - n.toNat := by omega
  have b1 : decide ((List.length ([] : List Sm) + List.length (List.drop (Int.toNat 0) (List.take (ctx.length - 1 - n.toNat) ctx))) * 32 ≤ 140737488355328) = true := by
    simp only [decide_eq_true_eq, List.length_nil, List.length_drop, List.length_take]; omega
  have b2 : decide ((List.length (([] : List Sm) ++ List.drop (Int.toNat 0) (List.take (ctx.length - 1 - n.toNat) ctx)) + List.length (List.drop (ctx.length - n.toNat) (List.take (Int.toNat (ctx.length : Int)) ctx))) * 32 ≤ 140737488355328) = true := by
    simp only [decide_eq_true_eq, List.nil_append, List.length_drop, List.length_take]; omega
  simp only [Gc25_0, hw, hw2, e1, e2, e3, e4, e5, show decide ((0 : Int) ≤ 0) = true by rfl, Bool.and_true, cond_true, t1, t2, b1, b2]
  simp

/-- The context before a variable, and without it, as lists from the variable 0 on. -/
theorem rev_before (ctx : List Sm) (n : Nat) (h : n < ctx.length) : (ctx.take (ctx.length - 1 - n)).reverse = ctx.reverse.drop (n + 1) := by
  rw [List.reverse_take]
  congr 1; omega
theorem rev_without (ctx : List Sm) (n : Nat) (h : n < ctx.length) : (ctx.take (ctx.length - 1 - n) ++ ctx.drop (ctx.length - n)).reverse = ctx.reverse.take n ++ ctx.reverse.drop (n + 1) := by
  rw [List.reverse_append, rev_before ctx n h, List.reverse_drop]
  congr 2; omega
theorem rev_split (ctx : List Sm) (n : Nat) (a : Sm) (h : n < ctx.length) (ha : ctx[ctx.length - 1 - n]? = some a) : ctx.reverse = ctx.reverse.take n ++ a :: ctx.reverse.drop (n + 1) := by
  have h1 : ctx.reverse[n]? = some a := by rw [List.getElem?_reverse h]; exact ha
  have h2 : n < ctx.reverse.length := by simpa using h
  have h3 : ctx.reverse[n] = a := by rw [List.getElem?_eq_getElem h2] at h1; exact Option.some.inj h1
  conv => lhs; rw [← List.take_append_drop n ctx.reverse, List.drop_eq_getElem_cons h2, h3]

end Go.Proofs.Ytcgbfghdcjmaeaa.Ev
