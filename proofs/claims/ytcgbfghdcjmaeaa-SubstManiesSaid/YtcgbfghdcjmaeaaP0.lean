/- This file proves plain lemmas for the tables of layer 4: what holds from some level on, numbers that do not wrap, elements of lists; without any condition. -/
import Derived.Test.YtcgbfghdcjmaeaaD4
set_option linter.unusedVariables false
set_option linter.unusedSimpArgs false
namespace Go.Proofs.Ytcgbfghdcjmaeaa.Ev

/-- From some level on. -/
def Evt (p : Nat → Prop) : Prop := ∃ k0, ∀ k, k0 ≤ k → p k

theorem Evt.pure {p : Nat → Prop} (h : ∀ k, p k) : Evt p := ⟨0, fun k _ => h k⟩

theorem Evt.and {p q : Nat → Prop} (h : Evt p) (h' : Evt q) : Evt fun k => p k ∧ q k := by
  obtain ⟨a, ha⟩ := h
  obtain ⟨b, hb⟩ := h'
  exact ⟨max a b, fun k hk => ⟨ha k (by omega), hb k (by omega)⟩⟩

theorem Evt.mono {p q : Nat → Prop} (h : Evt p) (hq : ∀ k, p k → q k) : Evt q := by
  obtain ⟨a, ha⟩ := h
  exact ⟨a, fun k hk => hq k (ha k hk)⟩

/-- One level more. -/
theorem Evt.step {p q : Nat → Prop} (h : Evt p) (hq : ∀ k, p k → q (k + 1)) : Evt q := by
  obtain ⟨a, ha⟩ := h
  refine ⟨a + 1, fun k hk => ?_⟩
  cases k with
  | zero => omega
  | succ k => exact hq k (ha k (by omega))

theorem Evt.step0 {q : Nat → Prop} (hq : ∀ k, q (k + 1)) : Evt q := Evt.step (p := fun _ => True) (.pure fun _ => trivial) fun k _ => hq k

theorem Evt.all {α : Type} {p : α → Nat → Prop} : ∀ {l : List α}, (∀ x ∈ l, Evt (p x)) → Evt fun k => ∀ x ∈ l, p x k
  | [], _ => .pure fun _ _ h => by cases h
  | x :: l, h => by
    refine ((h x (List.mem_cons_self ..)).and (Evt.all (l := l) fun y hy => h y (List.mem_cons_of_mem _ hy))).mono fun k hk y hy => ?_
    rcases List.mem_cons.1 hy with rfl | hy
    · exact hk.1
    · exact hk.2 y hy

theorem Evt.get {p : Nat → Prop} (h : Evt p) : ∃ k, p k := by
  obtain ⟨a, ha⟩ := h
  exact ⟨a, ha a (Nat.le_refl _)⟩

/-- From a level on that is written out. -/
theorem Evt.of_add {p : Nat → Prop} (n : Nat) (h : ∀ k, p (k + n)) : Evt p := ⟨n, fun k hk => by have := h (k - n); rwa [Nat.sub_add_cancel hk] at this⟩

theorem W_id {x : Int} (h : -9223372036854775808 ≤ x) (h' : x ≤ 9223372036854775807) : IntKind.wrap .i64 x = x := by
  simp only [IntKind.wrap, IntKind.signed, IntKind.bits]
  simp
  omega

theorem rdEl_mid {S : Sig} {L : Lay S} {k : S.K} (pre : List (S.El k)) (x : S.El k) (post : List (S.El k)) {n : Int} (h : n = (pre.length : Int)) : rdEl L k (pre ++ x :: post) n = x := by
  subst h
  simp [rdEl, List.getD]

theorem rdEl_zero {S : Sig} {L : Lay S} {k : S.K} (x : S.El k) (post : List (S.El k)) : rdEl L k (x :: post) 0 = x := rdEl_mid [] x post rfl

theorem rdTm (pre : List Tm) (x : Tm) (post : List Tm) : rdEl lay Key.tm (pre ++ x :: post) (pre.length : Int) = x := rdEl_mid (S := sig) (L := lay) (k := Key.tm) pre x post rfl
theorem rdSm (pre : List Sm) (x : Sm) (post : List Sm) : rdEl lay Key.sm (pre ++ x :: post) (pre.length : Int) = x := rdEl_mid (S := sig) (L := lay) (k := Key.sm) pre x post rfl
theorem rdInt (pre : List Int) (x : Int) (post : List Int) : rdEl lay Key.int (pre ++ x :: post) (pre.length : Int) = x := rdEl_mid (S := sig) (L := lay) (k := Key.int) pre x post rfl
theorem rdTm0 (x : Tm) (post : List Tm) : rdEl lay Key.tm (x :: post : List Tm) (0 : Int) = x := rdTm [] x post
theorem rdSm0 (x : Sm) (post : List Sm) : rdEl lay Key.sm (x :: post : List Sm) (0 : Int) = x := rdSm [] x post

theorem midTm {l pre : List Tm} {x : Tm} {r : List Tm} {i : Int} (hl : l = pre ++ x :: r) (hi : i = (pre.length : Int)) : decide (0 ≤ i) = true ∧ decide (i < (l.length : Int)) = true ∧ rdEl lay Key.tm l i = x := by
  subst hl; subst hi
  exact ⟨by simp, by simp; omega, rdTm pre x r⟩
theorem midSm {l pre : List Sm} {x : Sm} {r : List Sm} {i : Int} (hl : l = pre ++ x :: r) (hi : i = (pre.length : Int)) : decide (0 ≤ i) = true ∧ decide (i < (l.length : Int)) = true ∧ rdEl lay Key.sm l i = x := by
  subst hl; subst hi
  exact ⟨by simp, by simp; omega, rdSm pre x r⟩
theorem midInt {l pre : List Int} {x : Int} {r : List Int} {i : Int} (hl : l = pre ++ x :: r) (hi : i = (pre.length : Int)) : decide (0 ≤ i) = true ∧ decide (i < (l.length : Int)) = true ∧ rdEl lay Key.int l i = x := by
  subst hl; subst hi
  exact ⟨by simp, by simp; omega, rdInt pre x r⟩
theorem endL {α : Type} {l pre : List α} {i : Int} (hl : l = pre ++ []) (hi : i = (pre.length : Int)) : decide (i < (l.length : Int)) = false := by
  subst hl; subst hi; simp
theorem nextL {α : Type} {l pre : List α} {x : α} {r : List α} (hl : l = pre ++ x :: r) : l = (pre ++ [x]) ++ r := by simp [hl]
theorem nextI {α : Type} {pre : List α} {x : α} {i : Int} (hi : i = (pre.length : Int)) : i + 1 = ((pre ++ [x]).length : Int) := by simp [hi]
theorem lenL {α : Type} {l pre post : List α} {i : Int} (hl : l = pre ++ post) (hi : i = (pre.length : Int)) : (l.length : Int) = i + post.length := by subst hl; subst hi; simp

end Go.Proofs.Ytcgbfghdcjmaeaa.Ev
