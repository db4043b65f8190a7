/- This file proves that substitution keeps canonical terms of simple types such; without any condition. -/
import Derived.Test.YtcgbfghdcjmaeaaQ0
set_option linter.unusedVariables false
set_option linter.unusedSimpArgs false
namespace Go.Proofs.Ytcgbfghdcjmaeaa.Ev

/-- The simple type of a head; the context's first one is that of the variable 0. -/
def headTy (cons Γ : List Sm) (head n : Int) : Option Sm :=
  if n < 0 then none else if head = 1 then Γ[n.toNat]? else if head = 2 then cons[n.toNat]? else none

/-- A canonical term of a simple type. -/
inductive Can (cons : List Sm) : List Sm → Tm → List Sm → Int → Prop
  | lam {Γ : List Sm} {b : Tm} {a : Sm} {as : List Sm} {c : Int} : Can cons (a :: Γ) b as c → Can cons Γ ⟨3, 0, 0, [b]⟩ (a :: as) c
  | app {Γ : List Sm} {head n : Int} {l : List Tm} {h : Sm} {c : Int} : headTy cons Γ head n = some h → h.con = c → l.length = h.args.length →
      (∀ (i : Nat) (x : Tm) (a : Sm), l[i]? = some x → h.args[i]? = some a → Can cons Γ x a.args a.con) → Can cons Γ ⟨4, head, n, l⟩ [] c

def CanL (cons Γ : List Sm) (l : List Tm) (as : List Sm) : Prop := l.length = as.length ∧ ∀ (i : Nat) (x : Tm) (a : Sm), l[i]? = some x → as[i]? = some a → Can cons Γ x a.args a.con

theorem CanL.cons_iff {cons Γ : List Sm} {x : Tm} {l : List Tm} {a : Sm} {as : List Sm} : CanL cons Γ (x :: l) (a :: as) ↔ Can cons Γ x a.args a.con ∧ CanL cons Γ l as := by
  constructor
  · rintro ⟨h1, h2⟩
    refine ⟨h2 0 x a rfl rfl, by simpa using h1, fun i y b hy hb => h2 (i + 1) y b (by simpa using hy) (by simpa using hb)⟩
  · rintro ⟨h1, h2, h3⟩
    refine ⟨by simp [h2], fun i y b hy hb => ?_⟩
    cases i with
    | zero => simp at hy hb; subst hy; subst hb; exact h1
    | succ i => exact h3 i y b (by simpa using hy) (by simpa using hb)

theorem mvL_map (by_ frm i : Int) {op : Int} (h : op = 4) : ∀ l : List Tm, mvL by_ frm op i l = l.map (mv by_ frm)
  | [] => rfl
  | x :: r => by
    have := mvL_map by_ frm (i + 1) h r
    simp only [mvL, List.map_cons, this]
    rw [show under op i = 0 by simp [under, h], Int.add_zero]

theorem mv_lam (by_ frm head n : Int) (b : Tm) : mv by_ frm ⟨3, head, n, [b]⟩ = ⟨3, head, n, [mv by_ (frm + 1) b]⟩ := by
  simp [mv, mvL, under]

theorem mv_app (by_ frm head n : Int) (l : List Tm) : mv by_ frm ⟨4, head, n, l⟩ = ⟨4, head, if head = 1 ∧ frm ≤ n then n + by_ else n, l.map (mv by_ frm)⟩ := by
  simp [mv, mvL_map by_ frm 0 rfl l]

theorem headTy_nonneg {cons Γ : List Sm} {head n : Int} {h : Sm} (he : headTy cons Γ head n = some h) : 0 ≤ n := by
  unfold headTy at he
  split at he
  · cases he
  · omega

/-- More variables between. -/
theorem Can.weaken {cons Γ2 Δ : List Sm} {Γ : List Sm} {t : Tm} {as : List Sm} {c : Int} (h : Can cons Γ t as c) : ∀ Γ1 : List Sm, Γ = Γ1 ++ Γ2 → Can cons (Γ1 ++ (Δ ++ Γ2)) (mv Δ.length Γ1.length t) as c := by
  induction h with
  | lam _ ih =>
    rename_i a as c _
    intro Γ1 hΓ
    subst hΓ
    rw [mv_lam]
    have := ih (a :: Γ1) rfl
    refine .lam ?_
    simpa using this
  | app he hc hl _ ih =>
    rename_i head n l h c _
    intro Γ1 hΓ
    subst hΓ
    rw [mv_app]
    refine .app (h := h) ?_ hc (by simpa using hl) fun i x a hx ha => ?_
    · have hn := headTy_nonneg he
      unfold headTy at he ⊢
      have h0 : ¬ n < 0 := by omega
      simp only [h0, if_false] at he
      by_cases h1 : head = 1
      · simp only [h1, if_true, true_and] at he ⊢
        by_cases h2 : (Γ1.length : Int) ≤ n
        · simp only [h2, if_true]
          rw [if_neg (by omega)]
          rw [List.getElem?_append_right (by omega)] at he
          rw [List.getElem?_append_right (by omega), List.getElem?_append_right (by omega), ← he]
          congr 1; omega
        · simp only [h2, if_false, h0]
          rw [List.getElem?_append_left (by omega)] at he ⊢
          exact he
      · simp only [h1, false_and, if_false, h0] at he ⊢
        exact he
    · rw [List.getElem?_map] at hx
      obtain ⟨y, hy, rfl⟩ := Option.map_eq_some_iff.1 hx
      exact ih i y a hy ha Γ1 rfl

theorem putL_app {p : Tm → Int → Int → Rs Tm} {cons Γ Γ' : List Sm} {n : Int} (hp : ∀ x as k c, Can cons Γ x as k → match p x n c with | (.error e, _) => e = 5 | (.ok y, _) => Can cons Γ' y as k) :
    ∀ (l : List Tm) (as : List Sm) (i c : Int), CanL cons Γ l as → match putL p 4 n i l c with | (.error e, _) => e = 5 | (.ok m, _) => CanL cons Γ' m as
  | [], as, i, c, h => by
    have : as = [] := List.length_eq_zero_iff.1 h.1.symm
    subst this
    exact ⟨rfl, by simp⟩
  | x :: r, [], i, c, h => by have := h.1; simp at this
  | x :: r, a :: as, i, c, h => by
    obtain ⟨h1, h2⟩ := CanL.cons_iff.1 h
    have hu : under 4 i = 0 := by simp [under]
    have g1 := hp x a.args a.con c h1
    simp only [putL, hu, Int.add_zero]
    revert g1
    generalize p x n c = q
    rcases q with ⟨e | y, c1⟩
    · intro g1; exact g1
    · intro g1
      have g2 := putL_app hp r as (i + 1) c1 h2
      dsimp only
      revert g2
      generalize putL p 4 n (i + 1) r c1 = q
      rcases q with ⟨e | m, c2⟩
      · intro g2; exact g2
      · intro g2; exact CanL.cons_iff.2 ⟨g1, g2⟩

theorem appL_fit {p : Tm → Tm → Sm → Int → Rs Tm} {cons Γ : List Sm} (hp : ∀ b x a as k c, Can cons (a :: Γ) b as k → Can cons Γ x a.args a.con → match p b x a c with | (.error e, _) => e = 5 | (.ok y, _) => Can cons Γ y as k) :
    ∀ (l : List Tm) (tys : List Sm) (f : Tm) (k c : Int), Can cons Γ f tys k → CanL cons Γ l tys → match appL p f l tys c with | (.error e, _) => e = 5 | (.ok y, _) => Can cons Γ y [] k
  | [], tys, f, k, c, hf, hl => by
    have : tys = [] := List.length_eq_zero_iff.1 hl.1.symm
    subst this
    exact hf
  | x :: r, [], f, k, c, hf, hl => by have := hl.1; simp at this
  | x :: r, a :: as, f, k, c, hf, hl => by
    obtain ⟨h1, h2⟩ := CanL.cons_iff.1 hl
    cases hf with
    | lam hb =>
      rename_i b
      have g1 := hp b x a as k c hb h1
      simp only [appL, if_true]
      revert g1
      generalize p b x a c = q
      rcases q with ⟨e | y, c1⟩
      · intro g1; exact g1
      · intro g1
        exact appL_fit hp r as y k c1 g1 h2

theorem whole_fit {cons Γ : List Sm} {t : Tm} {as : List Sm} {k : Int} (c : Int) (h : Can cons Γ t as k) : match (whole t, c) with | (.error e, _) => e = 5 | (.ok y, _) => Can cons Γ y as k := by
  by_cases hp : Proper t
  · rw [whole_ok hp]; exact h
  · rw [whole_no hp]

/-- What is substituted is a canonical term again. -/
theorem put_fit {cons Γ2 : List Sm} : ∀ (g : Nat) (Γ1 : List Sm) (t : Tm) (s : Tm) (a : Sm) (as : List Sm) (k c : Int), Can cons (Γ1 ++ a :: Γ2) t as k → Can cons Γ2 s a.args a.con →
    match put g t Γ1.length s a c with | (.error e, _) => e = 5 | (.ok y, _) => Can cons (Γ1 ++ Γ2) y as k
  | 0, Γ1, t, s, a, as, k, c, ht, hs => by simp [put]
  | g + 1, Γ1, t, s, a, as, k, c, ht, hs => by
    rw [put]
    by_cases hgt : c + 1 > 20000
    · rw [if_pos hgt]
    · rw [if_neg hgt]
      cases ht with
      | lam hb =>
        rename_i b a' as'
        have g1 := put_fit g (a' :: Γ1) b s a as' k (c + 1) hb hs
        have hu : under 3 0 = 1 := by simp [under]
        have hlen : ((a' :: Γ1).length : Int) = (Γ1.length : Int) + 1 := by simp
        rw [hlen] at g1
        simp only [putL, hu]
        revert g1
        generalize put g b ((Γ1.length : Int) + 1) s a (c + 1) = q
        rcases q with ⟨e | y, c1⟩
        · intro g1; exact g1
        · intro g1
          have hl : less 3 0 0 Γ1.length = 0 := by simp [less]
          simp only [hl, show ((3 : Int) = 4) = False by simp, false_and, if_false]
          exact whole_fit c1 (.lam g1)
      | app he hc hlen hargs =>
        rename_i head nn l h
        have g1 := putL_app (p := fun x m c => put g x m s a c) (n := (Γ1.length : Int)) (Γ' := Γ1 ++ Γ2) (fun x as k c hx => put_fit g Γ1 x s a as k c hx hs) l h.args 0 (c + 1) ⟨hlen, hargs⟩
        simp only
        revert g1
        generalize putL (fun x m c => put g x m s a c) 4 (Γ1.length : Int) 0 l (c + 1) = q
        rcases q with ⟨e | m, c1⟩
        · intro g1; exact g1
        · intro g1
          have hn := headTy_nonneg he
          have h0 : ¬ nn < 0 := by omega
          simp only
          by_cases hit : head = 1 ∧ nn = Γ1.length
          · obtain ⟨rfl, rfl⟩ := hit
            have hha : h = a := by
              unfold headTy at he
              simp only [h0, if_false, if_true, Int.toNat_natCast] at he
              rw [List.getElem?_append_right (Nat.le_refl _)] at he
              simpa using he.symm
            subst hha
            simp only [and_self, if_true]
            have hw := hs.weaken (Δ := Γ1) [] rfl
            simp only [List.nil_append, List.length_nil] at hw
            by_cases hm : Proper (mv Γ1.length 0 s)
            · rw [whole_ok hm]
              have := appL_fit (p := fun b x a c => put g b 0 x a c) (cons := cons) (Γ := Γ1 ++ Γ2) (fun b x a as k c hb hx => put_fit (Γ2 := Γ1 ++ Γ2) g [] b x a as k c hb hx) m h.args (mv Γ1.length 0 s) h.con c1 hw g1
              rw [← hc]
              exact this
            · rw [whole_no hm]
          · simp only [true_and, hit, if_false]
            refine whole_fit c1 (.app (h := h) ?_ hc g1.1 g1.2)
            unfold headTy less at *
            simp only [h0, if_false, true_and] at he ⊢
            by_cases h1 : head = 1
            · have h2 : nn ≠ Γ1.length := fun h => hit ⟨h1, h⟩
              simp only [h1, if_true, true_and] at he ⊢
              by_cases h3 : (Γ1.length : Int) < nn
              · simp only [h3, if_true]
                rw [if_neg (by omega)]
                rw [List.getElem?_append_right (by omega)] at he
                rw [List.getElem?_append_right (by omega), ← he]
                rw [show nn.toNat - Γ1.length = (nn - 1).toNat - Γ1.length + 1 by omega, List.getElem?_cons_succ]
              · simp only [h3, if_false, h0]
                rw [List.getElem?_append_left (by omega)] at he ⊢
                exact he
            · simp only [h1, false_and, if_false, h0] at he ⊢
              exact he

end Go.Proofs.Ytcgbfghdcjmaeaa.Ev
