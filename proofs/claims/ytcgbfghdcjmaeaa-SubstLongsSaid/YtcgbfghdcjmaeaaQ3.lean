/- This file proves that the long form of a variable, put for another one, renames it; without any condition. -/
import Derived.Test.YtcgbfghdcjmaeaaQ2
set_option linter.unusedVariables false
set_option linter.unusedSimpArgs false
namespace Go.Proofs.Ytcgbfghdcjmaeaa.Ev

/-! ### Renamings -/

def up (f : Int → Int) : Int → Int := fun i => if i < 1 then i else f (i - 1) + 1
def upB (u : Int) (f : Int → Int) : Int → Int := if u = 1 then up f else f

mutual
def rn (f : Int → Int) : Tm → Tm
  | ⟨op, head, n, l⟩ => ⟨op, head, if op = 4 ∧ head = 1 then f n else n, rnL f op 0 l⟩
def rnL (f : Int → Int) (op i : Int) : List Tm → List Tm
  | [] => []
  | x :: r => rn (upB (under op i) f) x :: rnL f op (i + 1) r
end

def mvF (d k : Int) : Int → Int := fun i => if k ≤ i then i + d else i
/-- The variable n becomes n + j, the ones above it go down. -/
def reF (n j : Int) : Int → Int := fun i => if i = n then n + j else if n < i then i - 1 else i

theorem up_mvF {d k : Int} (h : 0 ≤ k) : up (mvF d k) = mvF d (k + 1) := by
  funext i; simp only [up, mvF]; split <;> split <;> (try split) <;> omega
theorem up_reF {n j : Int} (h : 0 ≤ n) : up (reF n j) = reF (n + 1) j := by
  funext i; simp only [up, reF]; split <;> split <;> (try split) <;> (try split) <;> omega
theorem under_cases (op i : Int) : under op i = 0 ∨ under op i = 1 := by unfold under; split <;> (try split) <;> omega

theorem upB_mvF {d k op i : Int} (h : 0 ≤ k) : upB (under op i) (mvF d k) = mvF d (k + under op i) := by
  rcases under_cases op i with hu | hu
  · rw [hu]; simp [upB]
  · rw [hu]; simp only [upB, if_true]; exact up_mvF h
theorem upB_reF {n j op i : Int} (h : 0 ≤ n) : upB (under op i) (reF n j) = reF (n + under op i) j := by
  rcases under_cases op i with hu | hu
  · rw [hu]; simp [upB]
  · rw [hu]; simp only [upB, if_true]; exact up_reF h

mutual
theorem mv_rn (d : Int) : ∀ (t : Tm) (k : Int), 0 ≤ k → mv d k t = rn (mvF d k) t
  | ⟨op, head, n, l⟩, k, h => by
    simp only [mv, rn, mvL_rnL d l op 0 k h, Tm.mk.injEq, true_and, and_true, mvF]
    by_cases hc : op = 4 ∧ head = 1
    · simp only [hc.1, hc.2, true_and, and_self, if_true]
    · have : ∀ q : Prop, ¬ (op = 4 ∧ head = 1 ∧ q) := fun q h => hc ⟨h.1, h.2.1⟩
      simp only [this, hc, if_false]
theorem mvL_rnL (d : Int) : ∀ (l : List Tm) (op i k : Int), 0 ≤ k → mvL d k op i l = rnL (mvF d k) op i l
  | [], op, i, k, h => rfl
  | x :: r, op, i, k, h => by
    have hu := under_nonneg op i
    simp only [mvL, rnL, mv_rn d x (k + under op i) (by omega), mvL_rnL d r op (i + 1) k h, upB_mvF h]
end

/-- Numbers that stand in terms stay such. -/
def Keeps (f : Int → Int) : Prop := ∀ i, 0 ≤ i → 0 ≤ f i

theorem Keeps.up {f : Int → Int} (h : Keeps f) : Keeps (up f) := by
  intro i hi
  unfold Ev.up
  split
  · exact hi
  · have := h (i - 1) (by omega); omega
theorem Keeps.upB {f : Int → Int} (h : Keeps f) (u : Int) : Keeps (upB u f) := by
  unfold Ev.upB; split
  · exact h.up
  · exact h

mutual
/-- All variables' numbers are 0 or more. -/
def Nn : Tm → Prop
  | ⟨op, head, n, l⟩ => 0 ≤ n ∧ NnL l
def NnL : List Tm → Prop
  | [] => True
  | x :: r => Nn x ∧ NnL r
end

theorem NnL_mem : ∀ {l : List Tm}, NnL l ↔ ∀ x ∈ l, Nn x
  | [] => by simp [NnL]
  | x :: r => by simp [NnL, NnL_mem (l := r)]

theorem up_up {f g : Int → Int} {h : Int → Int} (hg : Keeps g) (he : ∀ i, 0 ≤ i → f (g i) = h i) : ∀ i, 0 ≤ i → up f (up g i) = up h i := by
  intro i hi
  unfold up
  by_cases h1 : i < 1
  · simp only [h1, if_true]
  · simp only [h1, if_false]
    have := hg (i - 1) (by omega)
    rw [if_neg (by omega), show g (i - 1) + 1 - 1 = g (i - 1) by omega, he (i - 1) (by omega)]

theorem upB_upB {f g h : Int → Int} (u : Int) (hg : Keeps g) (he : ∀ i, 0 ≤ i → f (g i) = h i) : ∀ i, 0 ≤ i → upB u f (upB u g i) = upB u h i := by
  unfold upB
  split
  · exact up_up hg he
  · exact he

mutual
theorem rn_rn : ∀ (t : Tm) (f g h : Int → Int), Nn t → Keeps g → (∀ i, 0 ≤ i → f (g i) = h i) → rn f (rn g t) = rn h t
  | ⟨op, head, n, l⟩, f, g, h, ht, hg, he => by
    simp only [Nn] at ht
    simp only [rn, rnL_rnL l op 0 f g h ht.2 hg he, Tm.mk.injEq, true_and, and_true]
    by_cases hc : op = 4 ∧ head = 1
    · simp only [hc, and_self, if_true]; exact he n ht.1
    · simp only [hc, if_false]
theorem rnL_rnL : ∀ (l : List Tm) (op i : Int) (f g h : Int → Int), NnL l → Keeps g → (∀ i, 0 ≤ i → f (g i) = h i) → rnL f op i (rnL g op i l) = rnL h op i l
  | [], op, i, f, g, h, ht, hg, he => rfl
  | x :: r, op, i, f, g, h, ht, hg, he => by
    simp only [NnL] at ht
    simp only [rnL, rn_rn x _ _ _ ht.1 (hg.upB _) (upB_upB _ hg he), rnL_rnL r op (i + 1) f g h ht.2 hg he]
end

mutual
theorem rn_congr : ∀ (t : Tm) (f g : Int → Int), Nn t → (∀ i, 0 ≤ i → f i = g i) → rn f t = rn g t
  | ⟨op, head, n, l⟩, f, g, ht, he => by
    simp only [Nn] at ht
    simp only [rn, rnL_congr l op 0 f g ht.2 he, he n ht.1]
theorem rnL_congr : ∀ (l : List Tm) (op i : Int) (f g : Int → Int), NnL l → (∀ i, 0 ≤ i → f i = g i) → rnL f op i l = rnL g op i l
  | [], op, i, f, g, ht, he => rfl
  | x :: r, op, i, f, g, ht, he => by
    simp only [NnL] at ht
    have : ∀ j, 0 ≤ j → upB (under op i) f j = upB (under op i) g j := by
      intro j hj
      unfold upB
      split
      · simp only [up]
        split
        · rfl
        · rw [he _ (by omega)]
      · exact he j hj
    simp only [rnL, rn_congr x _ _ ht.1 this, rnL_congr r op (i + 1) f g ht.2 he]
end

theorem rnL_map (f : Int → Int) (i : Int) {op : Int} (h : op = 4) : ∀ l : List Tm, rnL f op i l = l.map (rn f)
  | [] => rfl
  | x :: r => by
    have := rnL_map f (i + 1) h r
    simp only [rnL, List.map_cons, this]
    rw [show under op i = 0 by simp [under, h]]
    simp [upB]

theorem rn_app (f : Int → Int) (head n : Int) (l : List Tm) : rn f ⟨4, head, n, l⟩ = ⟨4, head, if head = 1 then f n else n, l.map (rn f)⟩ := by
  simp [rn, rnL_map f 0 rfl l]
theorem rn_lam (f : Int → Int) (head n : Int) (b : Tm) : rn f ⟨3, head, n, [b]⟩ = ⟨3, head, n, [rn (up f) b]⟩ := by
  simp [rn, rnL, under, upB]

theorem Can.nn {cons Γ : List Sm} {t : Tm} {as : List Sm} {c : Int} (h : Can cons Γ t as c) : Nn t := by
  induction h with
  | lam _ ih => simp only [Nn, NnL]; exact ⟨by omega, ih, trivial⟩
  | app he hc hl _ ih =>
    rename_i Γ head n l h c _
    simp only [Nn]
    refine ⟨headTy_nonneg he, NnL_mem.2 fun x hx => ?_⟩
    obtain ⟨i, hi⟩ := List.getElem?_of_mem hx
    obtain ⟨a, ha⟩ : ∃ a, h.args[i]? = some a := by
      have := (List.getElem?_eq_some_iff.1 hi).1
      exact ⟨_, List.getElem?_eq_getElem (by omega)⟩
    exact ih i x a hi ha

/-- Renamed canonical terms are canonical. -/
theorem Can.rn {cons Γ : List Sm} {t : Tm} {as : List Sm} {c : Int} (h : Can cons Γ t as c) : ∀ (f : Int → Int) (Γ' : List Sm), Keeps f → (∀ (i : Nat) (h : Sm), Γ[i]? = some h → Γ'[(f i).toNat]? = some h) → Can cons Γ' (rn f t) as c := by
  induction h with
  | lam _ ih =>
    rename_i Γ b a as c _
    intro f Γ' hk hf
    rw [rn_lam]
    refine .lam (ih (up f) (a :: Γ') hk.up fun i h hi => ?_)
    cases i with
    | zero =>
      have : up f ((0 : Nat) : Int) = 0 := by simp [up]
      rw [this]; simpa using hi
    | succ i =>
      have e : up f ((i + 1 : Nat) : Int) = f i + 1 := by
        unfold up
        rw [if_neg (by omega)]
        congr 2; omega
      have h0 := hk i (by omega)
      rw [e, show (f i + 1).toNat = (f i).toNat + 1 by omega, List.getElem?_cons_succ]
      exact hf i h (by simpa using hi)
  | app he hc hl _ ih =>
    rename_i Γ head n l h c _
    intro f Γ' hk hf
    rw [rn_app]
    have hn := headTy_nonneg he
    refine .app (h := h) ?_ hc (by simpa using hl) fun i x a hx ha => ?_
    · unfold headTy at he ⊢
      have h0 : ¬ n < 0 := by omega
      simp only [h0, if_false] at he
      by_cases h1 : head = 1
      · simp only [h1, if_true] at he ⊢
        have := hk n hn
        rw [if_neg (by omega)]
        have := hf n.toNat h he
        rwa [show ((n.toNat : Nat) : Int) = n by omega] at this
      · simp only [h1, if_false, h0] at he ⊢
        exact he
    · rw [List.getElem?_map] at hx
      obtain ⟨y, hy, rfl⟩ := Option.map_eq_some_iff.1 hx
      exact ih i y a hy ha f Γ' hk hf

/-! ### Long forms -/

def lams : Nat → Tm → Tm
  | 0, t => t
  | k + 1, t => ⟨3, 0, 0, [lams k t]⟩

mutual
def lng (head n : Int) : Sm → Tm
  | ⟨args, con⟩ => lams args.length ⟨4, head, if head = 1 then n + args.length else n, lngL ((args.length : Int) - 1) args⟩
def lngL (j : Int) : List Sm → List Tm
  | [] => []
  | a :: r => lng 1 j a :: lngL (j - 1) r
end

theorem lngL_length (j : Int) : ∀ l : List Sm, (lngL j l).length = l.length
  | [] => rfl
  | a :: r => by simp [lngL, lngL_length (j - 1) r]

theorem lams_in (k : Nat) (t : Tm) : lams k ⟨3, 0, 0, [t]⟩ = lams (k + 1) t := by
  induction k with
  | zero => rfl
  | succ k ih => simp only [lams] at ih ⊢; rw [ih]

theorem H.lams {s : Tm} {a : Sm} {t u : Tm} : ∀ (k : Nat) {n : Int}, H t (n + k) s a u → H (lams k t) n s a (lams k u)
  | 0, n, h => by simpa [Ev.lams] using h
  | k + 1, n, h => by
    have h1 := H.lams k (n := n + 1) (by rw [show n + 1 + (k : Int) = n + ((k + 1 : Nat) : Int) by omega]; exact h)
    have h2 : HL 3 n s a 0 [Ev.lams k t] [Ev.lams k u] := .cons (by rw [show under 3 0 = 1 by simp [under]]; exact h1) .nil
    have := H.node (head := 0) (nn := 0) h2 (by omega)
    rw [show less 3 0 0 n = 0 by simp [less]] at this
    exact this

theorem rn_lams (f : Int → Int) : ∀ (k : Nat) (t : Tm), rn f (lams k t) = lams k (rn (Nat.repeat up k f) t)
  | 0, t => rfl
  | k + 1, t => by
    have h : ∀ (k : Nat) (f : Int → Int), Nat.repeat up k (up f) = up (Nat.repeat up k f) := by
      intro k
      induction k with
      | zero => intro f; rfl
      | succ k ih => intro f; simp only [Nat.repeat, ih]
    simp only [lams, rn_lam, rn_lams (up f) k t, Nat.repeat, h]

theorem rep_mvF {d k : Int} (h : 0 ≤ k) : ∀ r : Nat, Nat.repeat up r (mvF d k) = mvF d (k + r)
  | 0 => by simp [Nat.repeat]
  | r + 1 => by
    simp only [Nat.repeat, rep_mvF h r]
    rw [up_mvF (by omega)]
    congr 1; omega
theorem rep_reF {n j : Int} (h : 0 ≤ n) : ∀ r : Nat, Nat.repeat up r (reF n j) = reF (n + r) j
  | 0 => by simp [Nat.repeat]
  | r + 1 => by
    simp only [Nat.repeat, rep_reF h r]
    rw [up_reF (by omega)]
    congr 1; omega

mutual
/-- A long form of a lower variable stays. -/
theorem lng_low (s : Tm) (b : Sm) : ∀ (a : Sm) (j n : Int), 0 ≤ n → j < n → H (lng 1 j a) n s b (lng 1 j a)
  | ⟨args, con⟩, j, n, h0, h => by
    simp only [lng, if_true]
    refine H.lams _ ?_
    have h1 := lngL_low s b args ((args.length : Int) - 1) (n + args.length) 0 (by omega) (by omega)
    have := H.node (head := 1) (nn := j + args.length) h1 (by omega)
    refine cast ?_ this
    congr 2
    simp [less]; omega
theorem lngL_low (s : Tm) (b : Sm) : ∀ (l : List Sm) (j n i : Int), 0 ≤ n → j < n → HL 4 n s b i (lngL j l) (lngL j l)
  | [], j, n, i, h0, h => .nil
  | a :: r, j, n, i, h0, h => by
    simp only [lngL]
    refine .cons ?_ (lngL_low s b r (j - 1) n (i + 1) h0 (by omega))
    rw [show under 4 i = 0 by simp [under], Int.add_zero]
    exact lng_low s b a j n h0 h
end

mutual
/-- The shift of a long form. -/
theorem lng_mv (d : Int) : ∀ (a : Sm) (j k : Int), 0 ≤ k → mv d k (lng 1 j a) = lng 1 (if k ≤ j then j + d else j) a
  | ⟨args, con⟩, j, k, h => by
    simp only [lng, if_true]
    rw [mv_rn d _ k h, rn_lams, rep_mvF h, rn_app, if_pos rfl]
    congr 1
    have := lngL_mv d args ((args.length : Int) - 1) (k + args.length) (by omega) (by omega)
    simp only [Tm.mk.injEq, true_and]
    refine ⟨?_, this⟩
    simp only [mvF]; split <;> split <;> omega
theorem lngL_mv (d : Int) : ∀ (l : List Sm) (j k : Int), 0 ≤ k → j < k → (lngL j l).map (rn (mvF d k)) = lngL j l
  | [], j, k, h, h2 => rfl
  | a :: r, j, k, h, h2 => by
    simp only [lngL, List.map_cons]
    rw [← mv_rn d _ k h, lng_mv d a j k h, if_neg (by omega), lngL_mv d r (j - 1) k h (by omega)]
end

mutual
theorem mv_zero : ∀ (t : Tm) (k : Int), mv 0 k t = t
  | ⟨op, head, n, l⟩, k => by simp only [mv, mvL_zero l op 0 k, Int.add_zero, ite_self]
theorem mvL_zero : ∀ (l : List Tm) (op i k : Int), mvL 0 k op i l = l
  | [], op, i, k => rfl
  | x :: r, op, i, k => by simp only [mvL, mv_zero x, mvL_zero r]
end

theorem keeps_reF {n j : Int} (hn : 0 ≤ n) (hj : 0 ≤ j) : Keeps (reF n j) := by
  intro i hi; unfold reF; split <;> (try split) <;> omega
theorem keeps_mvF {d k : Int} (hd : 0 ≤ d) : Keeps (mvF d k) := by
  intro i hi; unfold mvF; split <;> omega

theorem re_ctx {Γ1 Γ2 : List Sm} {a : Sm} {j : Int} (hj : 0 ≤ j) (hja : Γ2[j.toNat]? = some a) (i : Nat) (q : Sm) (hq : (Γ1 ++ a :: Γ2)[i]? = some q) : (Γ1 ++ Γ2)[(reF (Γ1.length : Int) j i).toNat]? = some q := by
  by_cases c1 : i < Γ1.length
  · rw [show (reF (Γ1.length : Int) j i).toNat = i by unfold reF; rw [if_neg (by omega), if_neg (by omega)]; omega]
    rw [List.getElem?_append_left c1] at hq ⊢
    exact hq
  · by_cases c2 : i = Γ1.length
    · subst c2
      rw [List.getElem?_append_right (Nat.le_refl _)] at hq
      have hq' : a = q := by simpa using hq
      subst hq'
      rw [show (reF (Γ1.length : Int) j (Γ1.length : Nat)).toNat = Γ1.length + j.toNat by simp [reF]; omega]
      rw [List.getElem?_append_right (by omega), show Γ1.length + j.toNat - Γ1.length = j.toNat by omega]
      exact hja
    · rw [show (reF (Γ1.length : Int) j i).toNat = i - 1 by unfold reF; rw [if_neg (by omega), if_pos (by omega)]; omega]
      rw [List.getElem?_append_right (by omega)] at hq ⊢
      rw [show i - Γ1.length = i - 1 - Γ1.length + 1 by omega, List.getElem?_cons_succ] at hq
      exact hq

/-- What is put for a variable's long form. -/
def PB (a : Sm) : Prop := ∀ (cons Γ : List Sm) (s : Tm) (n : Int), 0 ≤ n → Can cons Γ s a.args a.con → H (lng 1 n a) n s a (mv n 0 s)
/-- A variable's long form that is put for another one. -/
def PR (a : Sm) : Prop := ∀ (cons Γ1 Γ2 : List Sm) (t : Tm) (as : List Sm) (c j : Int), 0 ≤ j → Γ2[j.toNat]? = some a → Can cons (Γ1 ++ a :: Γ2) t as c → H t Γ1.length (lng 1 j a) a (rn (reF Γ1.length j) t)

theorem eta_spine {cons Γ : List Sm} {N : Int} (hN : 0 ≤ N) : ∀ (tys : List Sm) (l ds : List Tm), (∀ a ∈ tys, PB a) → CanL cons Γ l tys →
    HA (lams tys.length ⟨4, 1, N + tys.length, ds.map (mv tys.length 0) ++ lngL ((tys.length : Int) - 1) tys⟩) l tys ⟨4, 1, N, ds ++ l⟩
  | [], l, ds, _, hl => by
    have : l = [] := List.length_eq_zero_iff.1 hl.1
    subst this
    have e : ds.map (mv (([] : List Sm).length : Int) 0) = ds := by
      have : ∀ t : Tm, mv (([] : List Sm).length : Int) 0 t = t := fun t => mv_zero t 0
      rw [show (mv (([] : List Sm).length : Int) 0) = id from funext this]; simp
    simp only [List.length_nil, lams, lngL, List.append_nil]
    simp only [List.length_nil] at e
    rw [e]
    simp only [Int.natCast_zero, Int.add_zero]
    exact .nil
  | a :: tys, [], ds, _, hl => by have := hl.1; simp at this
  | a :: tys, x :: l, ds, hB, hl => by
    obtain ⟨hx, hl⟩ := CanL.cons_iff.1 hl
    have ih := eta_spine hN tys l (ds ++ [x]) (fun b hb => hB b (List.mem_cons_of_mem _ hb)) hl
    have hk : ((a :: tys).length : Int) = (tys.length : Int) + 1 := by simp
    have hds : ∀ (ds : List Tm) (rest rest' : List Tm) (i : Int), (∀ i, HL 4 tys.length x a i rest rest') → HL 4 tys.length x a i (ds.map (mv ((tys.length : Int) + 1) 0) ++ rest) (ds.map (mv tys.length 0) ++ rest') := by
      intro ds
      induction ds with
      | nil => intro rest rest' i h; exact h i
      | cons d ds ihd =>
        intro rest rest' i h
        refine .cons ?_ (ihd rest rest' (i + 1) h)
        rw [show under 4 i = 0 by simp [under], Int.add_zero]
        have := H.room x a d ((tys.length : Int) + 1) 0 tys.length (by omega) (by omega)
        rwa [show (tys.length : Int) + 1 - 1 = tys.length by omega] at this
    have hbody : H ⟨4, 1, N + ((a :: tys).length : Int), ds.map (mv ((a :: tys).length : Int) 0) ++ lngL (((a :: tys).length : Int) - 1) (a :: tys)⟩ (0 + (tys.length : Int)) x a
        ⟨4, 1, N + (tys.length : Int), (ds ++ [x]).map (mv tys.length 0) ++ lngL ((tys.length : Int) - 1) tys⟩ := by
      rw [hk, Int.zero_add]
      have hrest : ∀ i, HL 4 tys.length x a i (lng 1 (tys.length : Int) a :: lngL ((tys.length : Int) - 1) tys) (mv tys.length 0 x :: lngL ((tys.length : Int) - 1) tys) := by
        intro i
        refine .cons ?_ (lngL_low x a tys _ _ _ (by omega) (by omega))
        rw [show under 4 i = 0 by simp [under], Int.add_zero]
        exact hB a (List.mem_cons_self ..) cons Γ x tys.length (by omega) hx
      have := H.node (head := 1) (nn := N + ((tys.length : Int) + 1)) (hds ds _ _ 0 hrest) (by omega)
      have e1 : less 4 1 (N + ((tys.length : Int) + 1)) tys.length = N + tys.length := by
        unfold less; rw [if_pos ⟨rfl, rfl, by omega⟩]; omega
      rw [e1] at this
      simp only [lngL, List.map_append, List.map_cons, List.map_nil, List.append_assoc, List.singleton_append]
      rw [show (tys.length : Int) + 1 - 1 = tys.length by omega]
      exact this
    have hlam := H.lams tys.length (n := 0) hbody
    have e : lams (a :: tys).length ⟨4, 1, N + ((a :: tys).length : Int), ds.map (mv ((a :: tys).length : Int) 0) ++ lngL (((a :: tys).length : Int) - 1) (a :: tys)⟩ = ⟨3, 0, 0, [lams tys.length ⟨4, 1, N + ((a :: tys).length : Int), ds.map (mv ((a :: tys).length : Int) 0) ++ lngL (((a :: tys).length : Int) - 1) (a :: tys)⟩]⟩ := rfl
    rw [e]
    rw [List.append_assoc] at ih
    exact .cons hlam ih

theorem rn_head {f : Int → Int} {n : Int} {l : List Tm} : rn f ⟨4, 1, n, l⟩ = ⟨4, 1, f n, l.map (rn f)⟩ := by rw [rn_app, if_pos rfl]

/-- Renaming, at a type whose Args' long forms are as they should. -/
theorem pr_of {a : Sm} (hB : ∀ x ∈ a.args, PB x) : PR a := by
  intro cons Γ1 Γ2 t as c j hj hja h
  have main : ∀ {Γ : List Sm} {t : Tm} {as : List Sm} {c : Int}, Can cons Γ t as c → ∀ Γ1, Γ = Γ1 ++ a :: Γ2 → H t Γ1.length (lng 1 j a) a (rn (reF Γ1.length j) t) := by
    intro Γ t as c h
    induction h with
    | lam _ ih =>
      rename_i Γ b a' as c _
      intro Γ1 hΓ
      subst hΓ
      have h1 := ih (a' :: Γ1) rfl
      have e : ((a' :: Γ1).length : Int) = (Γ1.length : Int) + 1 := by simp
      rw [e] at h1
      rw [rn_lam, up_reF (by omega)]
      have h2 : HL 3 Γ1.length (lng 1 j a) a 0 [b] [rn (reF ((Γ1.length : Int) + 1) j) b] := .cons (by rw [show under 3 0 = 1 by simp [under]]; exact h1) .nil
      have := H.node (head := 0) (nn := 0) h2 (by omega)
      simpa [less] using this
    | app he hc hl hfit ih =>
      rename_i Γ head nn l a0 c
      intro Γ1 hΓ
      subst hΓ
      have hlist : ∀ (l : List Tm) (i : Int), (∀ x ∈ l, H x Γ1.length (lng 1 j a) a (rn (reF Γ1.length j) x)) → HL 4 Γ1.length (lng 1 j a) a i l (l.map (rn (reF Γ1.length j))) := by
        intro l
        induction l with
        | nil => intro i _; exact .nil
        | cons x r ihr =>
          intro i hx
          refine .cons ?_ (ihr (i + 1) fun y hy => hx y (List.mem_cons_of_mem _ hy))
          rw [show under 4 i = 0 by simp [under], Int.add_zero]
          exact hx x (List.mem_cons_self ..)
      have hL := hlist l 0 (fun x hx => by
        obtain ⟨i, hi⟩ := List.getElem?_of_mem hx
        obtain ⟨b, hb⟩ : ∃ b, a0.args[i]? = some b := by
          have := (List.getElem?_eq_some_iff.1 hi).1
          exact ⟨_, List.getElem?_eq_getElem (by omega)⟩
        exact ih i x b hi hb Γ1 rfl)
      have hn := headTy_nonneg he
      have h0 : ¬ nn < 0 := by omega
      rw [rn_app]
      by_cases hit : head = 1 ∧ nn = Γ1.length
      · obtain ⟨rfl, rfl⟩ := hit
        have hha : a0 = a := by
          unfold headTy at he
          simp only [h0, if_false, if_true, Int.toNat_natCast] at he
          rw [List.getElem?_append_right (Nat.le_refl _)] at he
          simpa using he.symm
        subst hha
        rw [if_pos rfl, show reF (Γ1.length : Int) j Γ1.length = Γ1.length + j by simp [reF]]
        refine .hit hL ?_
        rw [lng_mv _ _ _ _ (by omega), if_pos hj]
        have hfl : CanL cons (Γ1 ++ Γ2) (l.map (rn (reF Γ1.length j))) a0.args := by
          refine ⟨by simpa using hl, fun i x b hx hb => ?_⟩
          rw [List.getElem?_map] at hx
          obtain ⟨y, hy, rfl⟩ := Option.map_eq_some_iff.1 hx
          exact Can.rn (hfit i y b hy hb) _ _ (keeps_reF (by omega) hj) (re_ctx hj hja)
        have := eta_spine (N := j + Γ1.length) (by omega) a0.args (l.map (rn (reF Γ1.length j))) [] hB hfl
        rw [show (Γ1.length : Int) + j = j + Γ1.length by omega]
        obtain ⟨args, con⟩ := a0
        simpa [lng] using this
      · have := H.node (head := head) (nn := nn) hL (by rintro ⟨_, b, c⟩; exact hit ⟨b, c⟩)
        refine cast ?_ this
        congr 2
        unfold less reF
        by_cases h1 : head = 1
        · have h2 : nn ≠ Γ1.length := fun h => hit ⟨h1, h⟩
          simp only [h1, true_and, if_true]
          rw [if_neg h2]
        · simp only [h1, false_and, and_false, if_false]
  exact main h Γ1 rfl

theorem Can.strip {cons : List Sm} : ∀ {as Γ : List Sm} {s : Tm} {c : Int}, Can cons Γ s as c → ∃ sb, s = lams as.length sb ∧ Can cons (as.reverse ++ Γ) sb [] c
  | [], Γ, s, c, h => ⟨s, rfl, h⟩
  | a :: as, Γ, s, c, h => by
    cases h with
    | lam hb =>
      obtain ⟨sb, rfl, h2⟩ := Can.strip hb
      exact ⟨sb, rfl, by simpa using h2⟩

/-- What is left of a body when the long forms of the variables have been put in. -/
def res : Nat → Tm → Tm
  | 0, X => X
  | r + 1, X => res r (rn (reF r r) X)

theorem spineB {cons : List Sm} {con : Int} : ∀ (tys Δ : List Sm) (X : Tm), (∀ a ∈ tys, PR a) → Can cons Δ (lams tys.length X) tys con → (∀ (p : Nat) (a : Sm), tys[p]? = some a → Δ[tys.length - 1 - p]? = some a) →
    HA (lams tys.length X) (lngL ((tys.length : Int) - 1) tys) tys (res tys.length X)
  | [], Δ, X, _, _, _ => .nil
  | a :: tys, Δ, X, hR, hF, hΔ => by
    have h0 := hΔ 0 a rfl
    simp only [List.length_cons, Nat.add_sub_cancel, Nat.sub_zero] at h0
    cases hF with
    | lam hb =>
      have h1 := hR a (List.mem_cons_self ..) cons [] Δ (lams tys.length X) tys con tys.length (by omega) (by simpa using h0) hb
      simp only [List.length_nil, Int.natCast_zero] at h1
      have hre : rn (reF 0 (tys.length : Int)) (lams tys.length X) = lams tys.length (rn (reF (tys.length : Int) tys.length) X) := by
        rw [rn_lams, rep_reF (Int.le_refl 0), Int.zero_add]
      have h2 : Can cons Δ (lams tys.length (rn (reF (tys.length : Int) tys.length) X)) tys con := by
        rw [← hre]
        exact Can.rn hb _ _ (keeps_reF (Int.le_refl 0) (by omega)) (re_ctx (Γ1 := []) (by omega) (by simpa using h0))
      have h3 := spineB tys Δ (rn (reF (tys.length : Int) tys.length) X) (fun x hx => hR x (List.mem_cons_of_mem _ hx)) h2 (fun p b hb => by
        have := hΔ (p + 1) b (by simpa using hb)
        simp only [List.length_cons] at this
        rwa [show tys.length + 1 - 1 - (p + 1) = tys.length - 1 - p by omega] at this)
      rw [hre] at h1
      have e1 : ((a :: tys).length : Int) - 1 = tys.length := by simp
      simp only [lngL, e1]
      exact .cons h1 h3

theorem pb_of {a : Sm} (hR : ∀ x ∈ a.args, PR x) : PB a := by
  obtain ⟨as, con⟩ := a
  intro cons Γ s n hn hF
  obtain ⟨sb, rfl, hsb⟩ := hF.strip
  simp only at hF hsb hR
  have hnn := hsb.nn
  have e1 : mv n 0 (lams as.length sb) = lams as.length (rn (mvF n as.length) sb) := by
    rw [mv_rn n _ 0 (Int.le_refl 0), rn_lams, rep_mvF (Int.le_refl 0), Int.zero_add]
  rw [e1]
  simp only [lng, if_true]
  refine H.lams _ (.hit (lngL_low _ _ as _ _ 0 (by omega) (by omega)) ?_)
  have e2 : mv (n + as.length) 0 (lams as.length sb) = lams as.length (rn (mvF (n + as.length) as.length) sb) := by
    rw [mv_rn _ _ 0 (Int.le_refl 0), rn_lams, rep_mvF (Int.le_refl 0), Int.zero_add]
  rw [e2]
  have hw := Can.weaken (Δ := as.reverse ++ List.replicate n.toNat (⟨[], 0⟩ : Sm)) (Γ2 := Γ) hF [] rfl
  have e3 : ((as.reverse ++ List.replicate n.toNat (⟨[], 0⟩ : Sm)).length : Int) = n + as.length := by simp; omega
  simp only [List.nil_append, List.length_nil, e3, Int.natCast_zero] at hw
  rw [e2] at hw
  have h := spineB as _ _ hR hw (fun p b hb => by
    have hp := (List.getElem?_eq_some_iff.1 hb).1
    rw [List.append_assoc, List.getElem?_append_left (by simp; omega), List.getElem?_reverse (by omega)]
    rw [show as.length - 1 - (as.length - 1 - p) = p by omega]
    exact hb)
  refine cast ?_ h
  congr 1
  -- the renamings together
  have key : ∀ r : Nat, r ≤ as.length → ∀ f : Int → Int, Keeps f → (∀ i, 0 ≤ i → f i = if i < r then i else if i < as.length then i + r else i + n + r) → res r (rn f sb) = rn (mvF n as.length) sb := by
    intro r
    induction r with
    | zero =>
      intro _ f hk hf
      simp only [res]
      refine rn_congr sb _ _ hnn fun i hi => ?_
      rw [hf i hi]; unfold mvF
      split <;> (try split) <;> (try split) <;> omega
    | succ r ih =>
      intro hr f hk hf
      simp only [res]
      rw [rn_rn sb (reF r r) f (fun i => reF r r (f i)) hnn hk (fun _ _ => rfl)]
      refine ih (by omega) _ (fun i hi => keeps_reF (by omega) (by omega) _ (hk i hi)) fun i hi => ?_
      rw [hf i hi]; unfold reF
      repeat' split
      all_goals omega
  refine key as.length (Nat.le_refl _) _ (keeps_mvF (by omega)) fun i hi => ?_
  unfold mvF
  repeat' split
  all_goals omega

theorem pbr : ∀ (N : Nat) (a : Sm), a.size ≤ N → PB a ∧ PR a
  | 0, a, h => by have := a.size_pos; omega
  | N + 1, a, h => by
    have ih : ∀ x ∈ a.args, PB x ∧ PR x := fun x hx => pbr N x (by have := Sm.arg_size hx; omega)
    exact ⟨pb_of fun x hx => (ih x hx).2, pr_of fun x hx => (ih x hx).1⟩

/-- What the program renames by a long form. -/
theorem put_renames {cons Γ1 Γ2 : List Sm} {a : Sm} {t u : Tm} {as : List Sm} {k c c' j : Int} {g : Nat} (hj : 0 ≤ j) (hja : Γ2[j.toNat]? = some a) (ht : Can cons (Γ1 ++ a :: Γ2) t as k) (h : put g t Γ1.length (lng 1 j a) a c = (.ok u, c')) : u = rn (reF Γ1.length j) t :=
  H.det ⟨g, put_hs _ _ _ _ _ _ _ _ h⟩ ((pbr a.size a (Nat.le_refl _)).2 cons Γ1 Γ2 t as k j hj hja ht)

/-- A long form is canonical. -/
theorem lng_fit {cons : List Sm} : ∀ (a : Sm) (Γ : List Sm) (j : Int), 0 ≤ j → Γ[j.toNat]? = some a → Can cons Γ (lng 1 j a) a.args a.con := by
  intro a
  refine Sm.ind (p := fun a => ∀ (Γ : List Sm) (j : Int), 0 ≤ j → Γ[j.toNat]? = some a → Can cons Γ (lng 1 j a) a.args a.con) ?_ a
  intro args con ih Γ j hj hΓ
  simp only [lng, if_true]
  have lam_in : ∀ (as Γ : List Sm) (b : Tm), Can cons (as.reverse ++ Γ) b [] con → Can cons Γ (lams as.length b) as con := by
    intro as
    induction as with
    | nil => intro Γ b h; exact h
    | cons a as iha =>
      intro Γ b h
      exact .lam (iha (a :: Γ) b (by simpa using h))
  refine lam_in args Γ _ (.app (h := ⟨args, con⟩) ?_ rfl (lngL_length _ _) fun i x a hx ha => ?_)
  · unfold headTy
    rw [if_neg (by omega), if_pos rfl, List.getElem?_append_right (by simp; omega)]
    rw [show (j + (args.length : Int)).toNat - args.reverse.length = j.toNat by simp; omega]
    exact hΓ
  · have hget : ∀ (l : List Sm) (j : Int) (i : Nat) (x : Tm) (a : Sm), (lngL j l)[i]? = some x → l[i]? = some a → x = lng 1 (j - i) a := by
      intro l
      induction l with
      | nil => intro j i x a h1 h2; simp at h2
      | cons b r ihr =>
        intro j i x a h1 h2
        simp only [lngL] at h1
        cases i with
        | zero => simp at h1 h2; subst h2; rw [← h1]; simp
        | succ i =>
          simp at h1 h2
          rw [ihr (j - 1) i x a h1 h2]
          congr 1; omega
    have hi := (List.getElem?_eq_some_iff.1 ha).1
    simp only at ha hi
    rw [hget args _ i x a hx ha]
    refine ih a (List.mem_of_getElem? ha) (args.reverse ++ Γ) _ (by omega) ?_
    rw [show ((args.length : Int) - 1 - i).toNat = args.length - 1 - i by omega, List.getElem?_append_left (by simp; omega), List.getElem?_reverse (by omega)]
    rw [show args.length - 1 - (args.length - 1 - i) = i by omega]
    exact ha

end Go.Proofs.Ytcgbfghdcjmaeaa.Ev
