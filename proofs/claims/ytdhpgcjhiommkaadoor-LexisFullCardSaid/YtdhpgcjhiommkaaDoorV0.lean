/- This file proves plain lemmas of layer 1: bytes at positions, separators, words; what holds from some level on; without any condition. -/
import Derived.Test.YtdhpgcjhiommkaaDoorG9
import Derived.Test.YtdhpgcjhiommkaaDoorEvN
set_option linter.unusedVariables false
set_option linter.unusedSimpArgs false
namespace Go.Proofs.YtdhpgcjhiommkaaDoor.Ev

/-- From some level on. -/
def Evt (p : Nat → Prop) : Prop := ∃ k0, ∀ k, k0 ≤ k → p k

theorem Evt.pure {p : Nat → Prop} (h : ∀ k, p k) : Evt p := ⟨0, fun k _ => h k⟩

theorem Evt.and {p q : Nat → Prop} (h : Evt p) (h' : Evt q) : Evt fun k => p k ∧ q k := by
  obtain ⟨a, ha⟩ := h
  obtain ⟨b, hb⟩ := h'
  exact ⟨max a b, fun k hk => ⟨ha k (by omega), hb k (by omega)⟩⟩

theorem Evt.mono {p q : Nat → Prop} (h : Evt p) (hq : ∀ k, p k → q k) : Evt q := by
  obtain ⟨a, ha⟩ := h
  exact ⟨a, fun k hk => hq k (ha k hk)⟩

/-- One level more. -/
theorem Evt.step {p q : Nat → Prop} (h : Evt p) (hq : ∀ k, p k → q (k + 1)) : Evt q := by
  obtain ⟨a, ha⟩ := h
  refine ⟨a + 1, fun k hk => ?_⟩
  cases k with
  | zero => omega
  | succ k => exact hq k (ha k (by omega))

theorem Evt.step0 {q : Nat → Prop} (hq : ∀ k, q (k + 1)) : Evt q := Evt.step (p := fun _ => True) (.pure fun _ => trivial) fun k _ => hq k

theorem Evt.get {p : Nat → Prop} (h : Evt p) : ∃ k, p k := by
  obtain ⟨a, ha⟩ := h
  exact ⟨a, ha a (Nat.le_refl _)⟩

theorem W_id {x : Int} (h : -9223372036854775808 ≤ x) (h' : x ≤ 9223372036854775807) : IntKind.wrap .i64 x = x := by
  simp only [IntKind.wrap, IntKind.signed, IntKind.bits]
  simp
  omega

/-- A string of these bytes. -/
abbrev mk (l : List UInt8) : ByteArray := ⟨l.toArray⟩

theorem mk_size (l : List UInt8) : (mk l).size = l.length := by simp [ByteArray.size]
theorem mk_list (l : List UInt8) : (mk l).data.toList = l := by simp
theorem mk_of (s : ByteArray) : s = mk s.data.toList := by obtain ⟨⟨l⟩⟩ := s; rfl
theorem mk_toList (l : List UInt8) : (mk l).toList = l := by rw [ByteArray.toList_eq]
theorem strEq_mk (a b : List UInt8) : strEq (mk a) (mk b) = (a == b) := by simp only [strEq, mk_toList]
theorem mk_extract (l : List UInt8) (i j : Nat) : ByteArray.extract (mk l) i j = mk ((l.take j).drop i) := by
  apply ByteArray.ext
  simp only [ByteArray.data_extract]
  rw [List.extract_toArray]
  rw [List.extract_eq_take_drop, List.drop_take]
theorem mk_append (a b : List UInt8) : mk a ++ mk b = mk (a ++ b) := by
  apply ByteArray.ext
  simp [ByteArray.data_append]

/-- Where a rest begins. -/
def pos (l r : List UInt8) : Int := (l.length : Int) - r.length

section
variable {l r : List UInt8} {c : UInt8}

theorem suf_le (h : r <:+ l) : r.length ≤ l.length := h.length_le
theorem pos_ge (h : r <:+ l) : decide ((0 : Int) ≤ pos l r) = true := by
  have := suf_le h; unfold pos; simp; omega
theorem pos_le (h : r <:+ l) : decide (pos l r ≤ ((mk l).size : Int)) = true := by
  rw [mk_size]; unfold pos; simp; omega
theorem pos_lt (h : c :: r <:+ l) : decide (pos l (c :: r) < ((mk l).size : Int)) = true := by
  rw [mk_size]; unfold pos; simp; omega
theorem pos_end : decide (pos l [] < ((mk l).size : Int)) = false := by
  rw [mk_size]; unfold pos; simp
theorem pos_nil : pos l [] = ((mk l).size : Int) := by rw [mk_size]; unfold pos; simp
theorem pos_all : pos l l = 0 := by unfold pos; omega
theorem pos_next : pos l (c :: r) + 1 = pos l r := by unfold pos; simp; omega
theorem pos_bounds (h : r <:+ l) : 0 ≤ pos l r ∧ pos l r ≤ l.length := by
  have := suf_le h; unfold pos; omega
theorem pos_W (h : c :: r <:+ l) (hl : l.length ≤ 140737488355328) : IntKind.wrap .i64 (pos l (c :: r) + 1) = pos l r := by
  rw [pos_next]
  have := pos_bounds ((List.suffix_cons c r).trans h)
  exact W_id (by omega) (by omega)
theorem suf_tail (h : c :: r <:+ l) : r <:+ l := (List.suffix_cons c r).trans h
theorem bt_at (h : c :: r <:+ l) : bt (mk l) (pos l (c :: r)) = (c.toNat : Int) := by
  obtain ⟨p, rfl⟩ := h
  unfold bt pos
  have : (((p ++ c :: r).length : Int) - ((c :: r).length : Int)).toNat = p.length := by simp
  rw [this]
  simp [List.getD]

end

/-! ### Bytes -/

def smallB (b : Int) : Bool := decide (b ≥ 97) && decide (b ≤ 122)
def capB (b : Int) : Bool := decide (b ≥ 65) && decide (b ≤ 90)
def digB (b : Int) : Bool := decide (b ≥ 48) && decide (b ≤ 57)
def letB (b : Int) : Bool := smallB b || capB b
def nmB (b : Int) : Bool := letB b || (digB b || (b == 95 || b == 39))
def wsB (b : Int) : Bool := b == 32 || (b == 9 || (b == 10 || b == 13))
def nmC (c : UInt8) : Bool := nmB (c.toNat : Int)

def comm : List UInt8 → Bool
  | [] => true
  | d :: _ => wsB (d.toNat : Int) || (d.toNat : Int) == 37

/-- Behind separators and comments (true: in a comment). -/
def skip : List UInt8 → Bool → List UInt8
  | [], _ => []
  | c :: r, true => if ((c.toNat : Int) == 10) = true then skip r false else skip r true
  | c :: r, false => if wsB (c.toNat : Int) = true then skip r false else if ((c.toNat : Int) == 37 && comm r) = true then skip r true else c :: r

theorem skip_suffix : ∀ (r : List UInt8) (b : Bool), skip r b <:+ r
  | [], b => by cases b <;> exact List.suffix_refl _
  | c :: r, true => by
    simp only [skip]
    split
    · exact (skip_suffix r false).trans (List.suffix_cons c r)
    · exact (skip_suffix r true).trans (List.suffix_cons c r)
  | c :: r, false => by
    simp only [skip]
    split
    · exact (skip_suffix r false).trans (List.suffix_cons c r)
    · split
      · exact (skip_suffix r true).trans (List.suffix_cons c r)
      · exact List.suffix_refl _

/-- A comment, to the end of its line. -/
def line (r : List UInt8) : List UInt8 := r.dropWhile fun c => !((c.toNat : Int) == 10)

theorem line_suffix (r : List UInt8) : line r <:+ r := List.dropWhile_suffix _

theorem skip_line : ∀ r : List UInt8, skip (line r) false = skip r true
  | [] => rfl
  | c :: r => by
    unfold line
    rw [List.dropWhile_cons]
    cases h : ((c.toNat : Int) == 10) with
    | true =>
      have hw : wsB (c.toNat : Int) = true := by simp only [beq_iff_eq] at h; rw [h]; decide
      simp only [Bool.not_true, Bool.false_eq_true, if_false, skip, h, hw, if_true]
    | false =>
      simp only [Bool.not_false, if_true, skip, h, Bool.false_eq_true, if_false]
      exact skip_line r

def word (r : List UInt8) : List UInt8 := r.takeWhile nmC
def after (r : List UInt8) : List UInt8 := r.dropWhile nmC

theorem after_suffix (r : List UInt8) : after r <:+ r := List.dropWhile_suffix _
theorem word_after (r : List UInt8) : word r ++ after r = r := List.takeWhile_append_dropWhile
theorem after_eq (r : List UInt8) : after r = r.drop (word r).length := by
  have h : (word r ++ after r).drop (word r).length = after r := List.drop_left
  rw [word_after] at h
  exact h.symm
theorem word_all (r : List UInt8) : (word r).all nmC = true := List.all_takeWhile

theorem pos_after {l r : List UInt8} (h : r <:+ l) : pos l (after r) = pos l r + (word r).length := by
  have := congrArg List.length (word_after r)
  unfold pos
  simp at this
  omega

theorem extract_word {l r : List UInt8} (h : r <:+ l) : ByteArray.extract (mk l) (pos l r).toNat (pos l (after r)).toNat = mk (word r) := by
  rw [mk_extract]
  congr 1
  have e2 := pos_after h
  obtain ⟨p, rfl⟩ := h
  have e1 : pos (p ++ r) r = p.length := by unfold pos; simp
  rw [e2, e1]
  have : ((p.length : Int) + (word r).length).toNat = p.length + (word r).length := by omega
  rw [this]
  simp only [Int.toNat_natCast]
  rw [List.take_append]
  have h1 : List.take (p.length + (word r).length) p = p := List.take_of_length_le (by omega)
  rw [h1, Nat.add_sub_cancel_left, List.drop_append, Nat.sub_self, List.drop_length, List.nil_append, List.drop_zero]
  have h : (word r ++ after r).take (word r).length = word r := List.take_left
  rw [word_after] at h
  exact h

end Go.Proofs.YtdhpgcjhiommkaaDoor.Ev
