/- This file proves plain lemmas for the tables of layer 4: what holds from some level on, numbers that do not wrap, elements of lists; without any condition. -/
import Derived.Test.YtcgbfghdcjmaeaaD4
set_option linter.unusedVariables false
set_option linter.unusedSimpArgs false
namespace Go.Proofs.Ytcgbfghdcjmaeaa.Ev

/-- From some level on. -/
def Evt (p : Nat → Prop) : Prop := ∃ k0, ∀ k, k0 ≤ k → p k

theorem Evt.pure {p : Nat → Prop} (h : ∀ k, p k) : Evt p := ⟨0, fun k _ => h k⟩

theorem Evt.and {p q : Nat → Prop} (h : Evt p) (h' : Evt q) : Evt fun k => p k ∧ q k := by
  obtain ⟨a, ha⟩ := h
  obtain ⟨b, hb⟩ := h'
  exact ⟨max a b, fun k hk => ⟨ha k (by omega), hb k (by omega)⟩⟩

theorem Evt.mono {p q : Nat → Prop} (h : Evt p) (hq : ∀ k, p k → q k) : Evt q := by
  obtain ⟨a, ha⟩ := h
  exact ⟨a, fun k hk => hq k (ha k hk)⟩

/-- One level more. -/
theorem Evt.step {p q : Nat → Prop} (h : Evt p) (hq : ∀ k, p k → q (k + 1)) : Evt q := by
  obtain ⟨a, ha⟩ := h
  refine ⟨a + 1, fun k hk => ?_⟩
  cases k with
  | zero => omega
  | succ k => exact hq k (ha k (by omega))

theorem Evt.step0 {q : Nat → Prop} (hq : ∀ k, q (k + 1)) : Evt q := Evt.step (p := fun _ => True) (.pure fun _ => trivial) fun k _ => hq k

theorem Evt.all {α : Type} {p : α → Nat → Prop} : ∀ {l : List α}, (∀ x ∈ l, Evt (p x)) → Evt fun k => ∀ x ∈ l, p x k
  | [], _ => .pure fun _ _ h => by cases h
  | x :: l, h => by
    refine ((h x (List.mem_cons_self ..)).and (Evt.all (l := l) fun y hy => h y (List.mem_cons_of_mem _ hy))).mono fun k hk y hy => ?_
    rcases List.mem_cons.1 hy with rfl | hy
    · exact hk.1
    · exact hk.2 y hy

theorem Evt.get {p : Nat → Prop} (h : Evt p) : ∃ k, p k := by
  obtain ⟨a, ha⟩ := h
  exact ⟨a, ha a (Nat.le_refl _)⟩

/-- From a level on that is written out. -/
theorem Evt.of_add {p : Nat → Prop} (n : Nat) (h : ∀ k, p (k + n)) : Evt p := ⟨n, fun k hk => by have := h (k - n); rwa [Nat.sub_add_cancel hk] at this⟩

theorem W_id {x : Int} (h : -9223372036854775808 ≤ x) (h' : x ≤ 9223372036854775807) : IntKind.wrap .i64 x = x := by
  simp only [IntKind.wrap, IntKind.signed, IntKind.bits]
  simp
  omega

theorem rdEl_mid {S : Sig} {L : Lay S} {k : S.K} (pre : List (S.El k)) (x : S.El k) (post : List (S.El k)) {n : Int} (h : n = (pre.length : Int)) : rdEl L k (pre ++ x :: post) n = x := by
  subst h
  simp [rdEl, List.getD]

theorem rdEl_zero {S : Sig} {L : Lay S} {k : S.K} (x : S.El k) (post : List (S.El k)) : rdEl L k (x :: post) 0 = x := rdEl_mid [] x post rfl

theorem rdTm (pre : List Tm) (x : Tm) (post : List Tm) : rdEl lay Key.tm (pre ++ x :: post) (pre.length : Int) = x := rdEl_mid (S := sig) (L := lay) (k := Key.tm) pre x post rfl
theorem rdSm (pre : List Sm) (x : Sm) (post : List Sm) : rdEl lay Key.sm (pre ++ x :: post) (pre.length : Int) = x := rdEl_mid (S := sig) (L := lay) (k := Key.sm) pre x post rfl
theorem rdInt (pre : List Int) (x : Int) (post : List Int) : rdEl lay Key.int (pre ++ x :: post) (pre.length : Int) = x := rdEl_mid (S := sig) (L := lay) (k := Key.int) pre x post rfl
theorem rdTm0 (x : Tm) (post : List Tm) : rdEl lay Key.tm (x :: post : List Tm) (0 : Int) = x := rdTm [] x post
theorem rdSm0 (x : Sm) (post : List Sm) : rdEl lay Key.sm (x :: post : List Sm) (0 : Int) = x := rdSm [] x post

theorem midTm {l pre : List Tm} {x : Tm} {r : List Tm} {i : Int} (hl : l = pre ++ x :: r) (hi : i = (pre.length : Int)) : decide (0 ≤ i) = true ∧ decide (i < (l.length : Int)) = true ∧ rdEl lay Key.tm l i = x := by
  subst hl; subst hi
  exact ⟨by simp, by simp; omega, rdTm pre x r⟩
theorem midSm {l pre : List Sm} {x : Sm} {r : List Sm} {i : Int} (hl : l = pre ++ x :: r) (hi : i = (pre.length : Int)) : decide (0 ≤ i) = true ∧ decide (i < (l.length : Int)) = true ∧ rdEl lay Key.sm l i = x := by
  subst hl; subst hi
  exact ⟨by simp, by simp; omega, rdSm pre x r⟩
theorem midInt {l pre : List Int} {x : Int} {r : List Int} {i : Int} (hl : l = pre ++ x :: r) (hi : i = (pre.length : Int)) : decide (0 ≤ i) = true ∧ decide (i < (l.length : Int)) = true ∧ rdEl lay Key.int l i = x := by
  subst hl; subst hi
  exact ⟨by simp, by simp; omega, rdInt pre x r⟩
theorem endL {α : Type} {l pre : List α} {i : Int} (hl : l = pre ++ []) (hi : i = (pre.length : Int)) : decide (i < (l.length : Int)) = false := by
  subst hl; subst hi; simp
theorem nextL {α : Type} {l pre : List α} {x : α} {r : List α} (hl : l = pre ++ x :: r) : l = (pre ++ [x]) ++ r := by simp [hl]
theorem nextI {α : Type} {pre : List α} {x : α} {i : Int} (hi : i = (pre.length : Int)) : i + 1 = ((pre ++ [x]).length : Int) := by simp [hi]
theorem lenL {α : Type} {l pre post : List α} {i : Int} (hl : l = pre ++ post) (hi : i = (pre.length : Int)) : (l.length : Int) = i + post.length := by subst hl; subst hi; simp

theorem Tm.eta (t : Tm) : (⟨t.op, t.head, t.n, t.args⟩ : Tm) = t := by cases t; rfl
theorem Sm.eta (t : Sm) : (⟨t.args, t.con⟩ : Sm) = t := by cases t; rfl

theorem Tm.ind {p : Tm → Prop} (h : ∀ op head n args, (∀ x ∈ args, p x) → p ⟨op, head, n, args⟩) (t : Tm) : p t := by
  refine Tm.rec (motive_1 := p) (motive_2 := fun l => ∀ x ∈ l, p x) (fun op head n args ih => h op head n args ih) (fun x hx => by cases hx) (fun a l ha hl x hx => ?_) t
  rcases List.mem_cons.1 hx with rfl | hx
  · exact ha
  · exact hl x hx

theorem Sm.ind {p : Sm → Prop} (h : ∀ args con, (∀ x ∈ args, p x) → p ⟨args, con⟩) (t : Sm) : p t := by
  refine Sm.rec (motive_1 := p) (motive_2 := fun l => ∀ x ∈ l, p x) (fun args con ih => h args con ih) (fun x hx => by cases hx) (fun a l ha hl x hx => ?_) t
  rcases List.mem_cons.1 hx with rfl | hx
  · exact ha
  · exact hl x hx

mutual
def Tm.size : Tm → Nat
  | ⟨_, _, _, args⟩ => 1 + sizeL args
def sizeL : List Tm → Nat
  | [] => 0
  | x :: r => x.size + sizeL r
end

/-- What a node of a term must be. -/
def nodeOk (op head n : Int) (k : Nat) : Prop :=
  (op = 1 ∧ head = 0 ∧ n = 0 ∧ k = 0) ∨ (op = 2 ∧ head = 0 ∧ n = 0 ∧ k = 2) ∨ (op = 3 ∧ head = 0 ∧ n = 0 ∧ k = 1) ∨ (op = 4 ∧ 1 ≤ head ∧ head ≤ 3 ∧ 0 ≤ n ∧ n ≤ 9999)

instance (op head n : Int) (k : Nat) : Decidable (nodeOk op head n k) := by unfold nodeOk; infer_instance

mutual
def Form : Tm → Int → Prop
  | ⟨op, head, n, args⟩, d => d ≤ 40 ∧ nodeOk op head n args.length ∧ FormL args (d + 1)
def FormL : List Tm → Int → Prop
  | [], _ => True
  | x :: r, d => Form x d ∧ FormL r d
end

/-- A proper term. -/
def Proper (t : Tm) : Prop := t.size ≤ 600 ∧ Form t 1

theorem Tm.size_pos (t : Tm) : 1 ≤ t.size := by cases t; simp [Tm.size]

theorem sizeL_len : ∀ l : List Tm, l.length ≤ sizeL l
  | [] => by simp [sizeL]
  | x :: r => by have := sizeL_len r; have := x.size_pos; simp [sizeL]; omega

theorem sizeL_append : ∀ l m : List Tm, sizeL (l ++ m) = sizeL l + sizeL m
  | [], m => by simp [sizeL]
  | x :: r, m => by simp [sizeL, sizeL_append r m]; omega

theorem FormL_append : ∀ {l m : List Tm} {d : Int}, FormL (l ++ m) d ↔ FormL l d ∧ FormL m d
  | [], m, d => by simp [FormL]
  | x :: r, m, d => by simp [FormL, FormL_append (l := r), and_assoc]

theorem FormL_mem : ∀ {l : List Tm} {d : Int}, FormL l d ↔ ∀ x ∈ l, Form x d
  | [], d => by simp [FormL]
  | x :: r, d => by simp [FormL, FormL_mem (l := r)]

/-- How many variables a term binds in one of its Args. -/
def under (op i : Int) : Int := if op = 3 then 1 else if op = 2 ∧ i = 1 then 1 else 0

theorem under_nonneg (op i : Int) : 0 ≤ under op i ∧ under op i ≤ 1 := by unfold under; split <;> (try split) <;> omega

mutual
/-- The shift. -/
def mv (by_ frm : Int) : Tm → Tm
  | ⟨op, head, n, args⟩ => ⟨op, head, if op = 4 ∧ head = 1 ∧ frm ≤ n then n + by_ else n, mvL by_ frm op 0 args⟩
def mvL (by_ frm op i : Int) : List Tm → List Tm
  | [] => []
  | x :: r => mv by_ (frm + under op i) x :: mvL by_ frm op (i + 1) r
end

mutual
/-- Whether a shift makes a number too great. -/
def grt (by_ frm : Int) : Tm → Bool
  | ⟨op, head, n, args⟩ => (decide (op = 4 ∧ head = 1 ∧ frm ≤ n ∧ 9999 < n + by_)) || grtL by_ frm op 0 args
def grtL (by_ frm op i : Int) : List Tm → Bool
  | [] => false
  | x :: r => grt by_ (frm + under op i) x || grtL by_ frm op (i + 1) r
end

mutual
theorem mv_size (by_ frm : Int) : ∀ t : Tm, (mv by_ frm t).size = t.size
  | ⟨op, head, n, args⟩ => by simp only [mv, Tm.size, mvL_size by_ frm op 0 args]
theorem mvL_size (by_ frm op i : Int) : ∀ l : List Tm, sizeL (mvL by_ frm op i l) = sizeL l
  | [] => rfl
  | x :: r => by simp only [mvL, sizeL, mv_size by_ (frm + under op i) x, mvL_size by_ frm op (i + 1) r]
end

theorem mvL_length (by_ frm op : Int) : ∀ (l : List Tm) (i : Int), (mvL by_ frm op i l).length = l.length
  | [], _ => rfl
  | x :: r, i => by simp [mvL, mvL_length by_ frm op r]

mutual
theorem form_mv {by_ : Int} (h : 0 ≤ by_) : ∀ (t : Tm) (frm d : Int), Form t d → (Form (mv by_ frm t) d ↔ grt by_ frm t = false)
  | ⟨op, head, n, args⟩, frm, d, hF => by
    simp only [Form] at hF
    simp only [mv, Form, mvL_length, grt, Bool.or_eq_false_iff, decide_eq_false_iff_not, formL_mv h args frm op 0 (d + 1) hF.2.2]
    have := hF.1
    have h2 := hF.2.1
    simp only [nodeOk] at h2 ⊢
    by_cases hc : op = 4 ∧ head = 1 ∧ frm ≤ n
    · simp only [if_pos hc]
      constructor
      · rintro ⟨_, a, b⟩; exact ⟨by omega, b⟩
      · rintro ⟨a, b⟩; exact ⟨this, by omega, b⟩
    · simp only [if_neg hc]
      constructor
      · rintro ⟨_, a, b⟩; exact ⟨by omega, b⟩
      · rintro ⟨a, b⟩; exact ⟨this, by omega, b⟩
theorem formL_mv {by_ : Int} (h : 0 ≤ by_) : ∀ (l : List Tm) (frm op i d : Int), FormL l d → (FormL (mvL by_ frm op i l) d ↔ grtL by_ frm op i l = false)
  | [], frm, op, i, d, _ => by simp [mvL, FormL, grtL]
  | x :: r, frm, op, i, d, hF => by
    simp only [FormL] at hF
    simp only [mvL, FormL, grtL, Bool.or_eq_false_iff, form_mv h x (frm + under op i) d hF.1, formL_mv h r frm op (i + 1) d hF.2]
end

theorem proper_mv {by_ : Int} (h : 0 ≤ by_) {t : Tm} (ht : Proper t) (frm : Int) : Proper (mv by_ frm t) ↔ grt by_ frm t = false := by
  unfold Proper
  rw [mv_size, form_mv h t frm 1 ht.2]
  exact ⟨fun h => h.2, fun h => ⟨ht.1, h⟩⟩

mutual
theorem Form.mono : ∀ {t : Tm} {d d' : Int}, d' ≤ d → Form t d → Form t d'
  | ⟨op, head, n, args⟩, d, d', h, hF => by
    simp only [Form] at hF ⊢
    exact ⟨by omega, hF.2.1, FormL.mono (by omega) hF.2.2⟩
theorem FormL.mono : ∀ {l : List Tm} {d d' : Int}, d' ≤ d → FormL l d → FormL l d'
  | [], d, d', h, hF => by simp only [FormL]
  | x :: r, d, d', h, hF => by
    simp only [FormL] at hF ⊢
    exact ⟨Form.mono h hF.1, FormL.mono h hF.2⟩
end

theorem sizeL_mem : ∀ {l : List Tm} {x : Tm}, x ∈ l → x.size ≤ sizeL l
  | y :: r, x, h => by
    simp only [sizeL]
    rcases List.mem_cons.1 h with rfl | h
    · omega
    · have := sizeL_mem h; omega

theorem Proper.arg {t : Tm} (h : Proper t) {x : Tm} (hx : x ∈ t.args) : Proper x := by
  cases t with
  | mk op head n args =>
    obtain ⟨h1, h2⟩ := h
    simp only [Tm.size] at h1
    simp only [Form] at h2
    have := sizeL_mem hx
    exact ⟨by simp only at this; omega, Form.mono (by omega) (FormL_mem.1 h2.2.2 x hx)⟩

/-- What is proper, as a Bool. -/
noncomputable def prB (t : Tm) : Bool := by classical exact decide (Proper t)
theorem prB_iff {t : Tm} : prB t = true ↔ Proper t := by simp [prB]
theorem prB_ok {t : Tm} (h : Proper t) : prB t = true := prB_iff.2 h
theorem prB_no {t : Tm} (h : ¬ Proper t) : prB t = false := by
  cases hb : prB t with
  | false => rfl
  | true => exact absurd (prB_iff.1 hb) h

end Go.Proofs.Ytcgbfghdcjmaeaa.Ev
