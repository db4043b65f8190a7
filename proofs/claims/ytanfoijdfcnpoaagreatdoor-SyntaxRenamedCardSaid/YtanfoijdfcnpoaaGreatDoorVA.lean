/- This file proves the laws of the scanner: bytes at positions, separators, words, names, numbers, tokens; what the scanner's functions do; without any condition. -/
import Derived.Test.YtanfoijdfcnpoaaGreatDoorG9
import Derived.Test.YtanfoijdfcnpoaaGreatDoorEvN
set_option linter.unusedVariables false
set_option linter.unusedSimpArgs false
namespace Go.Proofs.YtanfoijdfcnpoaaGreatDoor.Ev

/-- From some level on. -/
def Evt (p : Nat → Prop) : Prop := ∃ k0, ∀ k, k0 ≤ k → p k

theorem Evt.pure {p : Nat → Prop} (h : ∀ k, p k) : Evt p := ⟨0, fun k _ => h k⟩

theorem Evt.and {p q : Nat → Prop} (h : Evt p) (h' : Evt q) : Evt fun k => p k ∧ q k := by
  obtain ⟨a, ha⟩ := h
  obtain ⟨b, hb⟩ := h'
  exact ⟨max a b, fun k hk => ⟨ha k (by omega), hb k (by omega)⟩⟩

theorem Evt.mono {p q : Nat → Prop} (h : Evt p) (hq : ∀ k, p k → q k) : Evt q := by
  obtain ⟨a, ha⟩ := h
  exact ⟨a, fun k hk => hq k (ha k hk)⟩

/-- One level more. -/
theorem Evt.step {p q : Nat → Prop} (h : Evt p) (hq : ∀ k, p k → q (k + 1)) : Evt q := by
  obtain ⟨a, ha⟩ := h
  refine ⟨a + 1, fun k hk => ?_⟩
  cases k with
  | zero => omega
  | succ k => exact hq k (ha k (by omega))

theorem Evt.step0 {q : Nat → Prop} (hq : ∀ k, q (k + 1)) : Evt q := Evt.step (p := fun _ => True) (.pure fun _ => trivial) fun k _ => hq k

theorem Evt.get {p : Nat → Prop} (h : Evt p) : ∃ k, p k := by
  obtain ⟨a, ha⟩ := h
  exact ⟨a, ha a (Nat.le_refl _)⟩

theorem W_id {x : Int} (h : -9223372036854775808 ≤ x) (h' : x ≤ 9223372036854775807) : IntKind.wrap .i64 x = x := by
  simp only [IntKind.wrap, IntKind.signed, IntKind.bits]
  simp
  omega

/-- A string of these bytes. -/
abbrev mk (l : List UInt8) : ByteArray := ⟨l.toArray⟩

theorem mk_size (l : List UInt8) : (mk l).size = l.length := by simp [ByteArray.size]
theorem mk_list (l : List UInt8) : (mk l).data.toList = l := by simp
theorem mk_of (s : ByteArray) : s = mk s.data.toList := by obtain ⟨⟨l⟩⟩ := s; rfl
theorem mk_toList (l : List UInt8) : (mk l).toList = l := by rw [ByteArray.toList_eq]
theorem strEq_mk (a b : List UInt8) : strEq (mk a) (mk b) = (a == b) := by simp only [strEq, mk_toList]
theorem mk_extract (l : List UInt8) (i j : Nat) : ByteArray.extract (mk l) i j = mk ((l.take j).drop i) := by
  apply ByteArray.ext
  simp only [ByteArray.data_extract]
  rw [List.extract_toArray]
  rw [List.extract_eq_take_drop, List.drop_take]
theorem mk_append (a b : List UInt8) : mk a ++ mk b = mk (a ++ b) := by
  apply ByteArray.ext
  simp [ByteArray.data_append]

/-- Where a rest begins. -/
def pos (l r : List UInt8) : Int := (l.length : Int) - r.length

section
variable {l r : List UInt8} {c : UInt8}

theorem suf_le (h : r <:+ l) : r.length ≤ l.length := h.length_le
theorem pos_ge (h : r <:+ l) : decide ((0 : Int) ≤ pos l r) = true := by
  have := suf_le h; unfold pos; simp; omega
theorem pos_le (h : r <:+ l) : decide (pos l r ≤ ((mk l).size : Int)) = true := by
  rw [mk_size]; unfold pos; simp; omega
theorem pos_lt (h : c :: r <:+ l) : decide (pos l (c :: r) < ((mk l).size : Int)) = true := by
  rw [mk_size]; unfold pos; simp; omega
theorem pos_end : decide (pos l [] < ((mk l).size : Int)) = false := by
  rw [mk_size]; unfold pos; simp
theorem pos_nil : pos l [] = ((mk l).size : Int) := by rw [mk_size]; unfold pos; simp
theorem pos_all : pos l l = 0 := by unfold pos; omega
theorem pos_next : pos l (c :: r) + 1 = pos l r := by unfold pos; simp; omega
theorem pos_bounds (h : r <:+ l) : 0 ≤ pos l r ∧ pos l r ≤ l.length := by
  have := suf_le h; unfold pos; omega
theorem pos_W (h : c :: r <:+ l) (hl : l.length ≤ 140737488355328) : IntKind.wrap .i64 (pos l (c :: r) + 1) = pos l r := by
  rw [pos_next]
  have := pos_bounds ((List.suffix_cons c r).trans h)
  exact W_id (by omega) (by omega)
theorem suf_tail (h : c :: r <:+ l) : r <:+ l := (List.suffix_cons c r).trans h
theorem bt_at (h : c :: r <:+ l) : bt (mk l) (pos l (c :: r)) = (c.toNat : Int) := by
  obtain ⟨p, rfl⟩ := h
  unfold bt pos
  have : (((p ++ c :: r).length : Int) - ((c :: r).length : Int)).toNat = p.length := by simp
  rw [this]
  simp [List.getD]

end

/-! ### Bytes -/

def smallB (b : Int) : Bool := decide (b ≥ 97) && decide (b ≤ 122)
def capB (b : Int) : Bool := decide (b ≥ 65) && decide (b ≤ 90)
def digB (b : Int) : Bool := decide (b ≥ 48) && decide (b ≤ 57)
def letB (b : Int) : Bool := smallB b || capB b
def nmB (b : Int) : Bool := letB b || (digB b || (b == 95 || b == 39))
def wsB (b : Int) : Bool := b == 32 || (b == 9 || (b == 10 || b == 13))
def nmC (c : UInt8) : Bool := nmB (c.toNat : Int)

def comm : List UInt8 → Bool
  | [] => true
  | d :: _ => wsB (d.toNat : Int) || (d.toNat : Int) == 37

/-- Behind separators and comments (true: in a comment). -/
def skip : List UInt8 → Bool → List UInt8
  | [], _ => []
  | c :: r, true => if ((c.toNat : Int) == 10) = true then skip r false else skip r true
  | c :: r, false => if wsB (c.toNat : Int) = true then skip r false else if ((c.toNat : Int) == 37 && comm r) = true then skip r true else c :: r

theorem skip_suffix : ∀ (r : List UInt8) (b : Bool), skip r b <:+ r
  | [], b => by cases b <;> exact List.suffix_refl _
  | c :: r, true => by
    simp only [skip]
    split
    · exact (skip_suffix r false).trans (List.suffix_cons c r)
    · exact (skip_suffix r true).trans (List.suffix_cons c r)
  | c :: r, false => by
    simp only [skip]
    split
    · exact (skip_suffix r false).trans (List.suffix_cons c r)
    · split
      · exact (skip_suffix r true).trans (List.suffix_cons c r)
      · exact List.suffix_refl _

/-- A comment, to the end of its line. -/
def line (r : List UInt8) : List UInt8 := r.dropWhile fun c => !((c.toNat : Int) == 10)

theorem line_suffix (r : List UInt8) : line r <:+ r := List.dropWhile_suffix _

theorem skip_line : ∀ r : List UInt8, skip (line r) false = skip r true
  | [] => rfl
  | c :: r => by
    unfold line
    rw [List.dropWhile_cons]
    cases h : ((c.toNat : Int) == 10) with
    | true =>
      have hw : wsB (c.toNat : Int) = true := by simp only [beq_iff_eq] at h; rw [h]; decide
      simp only [Bool.not_true, Bool.false_eq_true, if_false, skip, h, hw, if_true]
    | false =>
      simp only [Bool.not_false, if_true, skip, h, Bool.false_eq_true, if_false]
      exact skip_line r

def word (r : List UInt8) : List UInt8 := r.takeWhile nmC
def after (r : List UInt8) : List UInt8 := r.dropWhile nmC

theorem after_suffix (r : List UInt8) : after r <:+ r := List.dropWhile_suffix _
theorem word_after (r : List UInt8) : word r ++ after r = r := List.takeWhile_append_dropWhile
theorem after_eq (r : List UInt8) : after r = r.drop (word r).length := by
  have h : (word r ++ after r).drop (word r).length = after r := List.drop_left
  rw [word_after] at h
  exact h.symm
theorem word_all (r : List UInt8) : (word r).all nmC = true := List.all_takeWhile

theorem pos_after {l r : List UInt8} (h : r <:+ l) : pos l (after r) = pos l r + (word r).length := by
  have := congrArg List.length (word_after r)
  unfold pos
  simp at this
  omega

theorem extract_word {l r : List UInt8} (h : r <:+ l) : ByteArray.extract (mk l) (pos l r).toNat (pos l (after r)).toNat = mk (word r) := by
  rw [mk_extract]
  congr 1
  have e2 := pos_after h
  obtain ⟨p, rfl⟩ := h
  have e1 : pos (p ++ r) r = p.length := by unfold pos; simp
  rw [e2, e1]
  have : ((p.length : Int) + (word r).length).toNat = p.length + (word r).length := by omega
  rw [this]
  simp only [Int.toNat_natCast]
  rw [List.take_append]
  have h1 : List.take (p.length + (word r).length) p = p := List.take_of_length_le (by omega)
  rw [h1, Nat.add_sub_cancel_left, List.drop_append, Nat.sub_self, List.drop_length, List.nil_append, List.drop_zero]
  have h : (word r ++ after r).take (word r).length = word r := List.take_left
  rw [word_after] at h
  exact h

end Go.Proofs.YtanfoijdfcnpoaaGreatDoor.Ev


/- This file proves what the functions of layer 1 do that look at bytes, separators and words; without any condition. -/
set_option linter.unusedVariables false
set_option linter.unusedSimpArgs false
namespace Go.Proofs.YtanfoijdfcnpoaaGreatDoor.Ev

theorem s93 : Evt fun k => ∀ (ρ : Type) b k0, (Tabs k).c93_0 ρ b k0 = k0 (smallB b) := Evt.step0 fun k ρ b k0 => by
  show Gc93_0 (Tabs k) ρ b k0 = _
  unfold Gc93_0 smallB
  cases decide (b ≥ 97) <;> rfl
theorem s97 : Evt fun k => ∀ (ρ : Type) b k0, (Tabs k).c97_0 ρ b k0 = k0 (smallB b) := Evt.step0 fun k ρ b k0 => by
  show Gc97_0 (Tabs k) ρ b k0 = _
  unfold Gc97_0 smallB
  cases decide (b ≥ 97) <;> rfl
theorem s107 : Evt fun k => ∀ (ρ : Type) b k0, (Tabs k).c107_0 ρ b k0 = k0 (capB b) := Evt.step0 fun k ρ b k0 => by
  show Gc107_0 (Tabs k) ρ b k0 = _
  unfold Gc107_0 capB
  cases decide (b ≥ 65) <;> rfl
theorem s109 : Evt fun k => ∀ (ρ : Type) b k0, (Tabs k).c109_0 ρ b k0 = k0 (digB b) := Evt.step0 fun k ρ b k0 => by
  show Gc109_0 (Tabs k) ρ b k0 = _
  unfold Gc109_0 digB
  cases decide (b ≥ 48) <;> rfl
theorem s82 : Evt fun k => ∀ (ρ : Type) b k0, (Tabs k).c82_0 ρ b k0 = k0 (letB b) := s97.step fun k h ρ b k0 => by
  show Gc82_0 (Tabs k) ρ b k0 = _
  unfold Gc82_0 letB capB
  rw [h]
  cases smallB b <;> cases decide (b ≥ 65) <;> rfl
theorem s132 : Evt fun k => ∀ (ρ : Type) b k0, (Tabs k).c132_0 ρ b k0 = k0 (nmB b) := (s93.and (s107.and s109)).step fun k ⟨h1, h2, h3⟩ ρ b k0 => by
  show Gc132_0 (Tabs k) ρ b k0 = _
  unfold Gc132_0 nmB letB
  simp only [h1, h2, h3]
  cases smallB b <;> cases capB b <;> cases digB b <;> cases (b == 95) <;> rfl
theorem s127 : Evt fun k => ∀ (ρ : Type) b k0, (Tabs k).c127_0 ρ b k0 = k0 (nmB b) := s82.step fun k h ρ b k0 => by
  show Gc127_0 (Tabs k) ρ b k0 = _
  unfold Gc127_0 nmB digB
  simp only [h]
  cases letB b <;> cases decide (b ≥ 48) <;> cases decide (b ≤ 57) <;> cases (b == 95) <;> rfl

/-! ### Separators and comments, in the reference -/

section
variable {l : List UInt8} (hl : l.length ≤ 140737488355328)
include hl

omit hl in
/-! ### Words -/

theorem s83_1 : ∀ {r : List UInt8}, r <:+ l → Evt fun k => ∀ (ρ : Type) k0, (Tabs k).l83_1_0 ρ (mk l) (pos l r) k0 = k0 (pos l (after r))
  | [], h => Evt.step0 fun k ρ k0 => by
    show Gl83_1_0 (Tabs k) ρ (mk l) (pos l []) k0 = _
    unfold Gl83_1_0
    simp only [pos_end, cond_false]; rfl
  | c :: r, h => (s127.and (s83_1 (suf_tail h))).step fun k ⟨h1, ih⟩ ρ k0 => by
    show Gl83_1_0 (Tabs k) ρ (mk l) (pos l (c :: r)) k0 = _
    unfold Gl83_1_0
    simp only [pos_ge h, pos_lt h, bt_at h, Bool.and_true, cond_true, pos_W h (by omega), h1, ih]
    unfold after
    rw [List.dropWhile_cons]
    show cond (nmC c) _ _ = _
    cases hc : nmC c <;> simp

theorem s83 {r : List UInt8} (h : r <:+ l) : Evt fun k => ∀ (ρ : Type) k0, (Tabs k).c83_0 ρ (mk l) (pos l r) k0 = k0 (pos l (after r)) := (s83_1 hl h).step fun k ih ρ k0 => by
  show Gc83_0 (Tabs k) ρ (mk l) (pos l r) k0 = _
  unfold Gc83_0
  exact ih ρ k0

theorem s106_2 : ∀ {r : List UInt8}, r <:+ l → Evt fun k => ∀ (ρ : Type) a b k0, (Tabs k).l106_2_0 ρ a (pos l r) (mk l) b k0 = k0 a (pos l (after r)) (mk l) b
  | [], h => Evt.step0 fun k ρ a b k0 => by
    show Gl106_2_0 (Tabs k) ρ a (pos l []) (mk l) b k0 = _
    unfold Gl106_2_0
    simp only [pos_end, cond_false]; rfl
  | c :: r, h => (s132.and (s106_2 (suf_tail h))).step fun k ⟨h1, ih⟩ ρ a b k0 => by
    show Gl106_2_0 (Tabs k) ρ a (pos l (c :: r)) (mk l) b k0 = _
    unfold Gl106_2_0
    simp only [pos_ge h, pos_lt h, bt_at h, Bool.and_true, cond_true, pos_W h (by omega), h1, ih]
    unfold after
    rw [List.dropWhile_cons]
    show cond (nmC c) _ _ = _
    cases hc : nmC c <;> simp

omit hl in
theorem word_bounds {r : List UInt8} (h : r <:+ l) : (decide ((0 : Int) ≤ pos l r) && (decide (pos l r ≤ pos l (after r)) && decide (pos l (after r) ≤ ((mk l).size : Int)))) = true := by
  have h2 := pos_le ((after_suffix r).trans h)
  rw [pos_ge h, h2]
  have := pos_after h
  simp; omega

/-- The word at a place (0), or behind it (1). -/
theorem s106_0 {r : List UInt8} (h : r <:+ l) : Evt fun k => ∀ (ρ : Type) k0, (Tabs k).c106_0 ρ 0 (mk l) (pos l r) k0 = k0 (mk (word r)) (mk l) (pos l r) := (s106_2 hl h).step fun k ih ρ k0 => by
  show Gc106_0 (Tabs k) ρ 0 (mk l) (pos l r) k0 = _
  unfold Gc106_0
  have hb := pos_bounds h
  have e : IntKind.wrap .i64 (pos l r + 0) = pos l r := by rw [Int.add_zero]; exact W_id (by omega) (by omega)
  simp only [e, ih, word_bounds h, cond_true, extract_word h]

theorem s106_1 {c : UInt8} {r : List UInt8} (h : c :: r <:+ l) : Evt fun k => ∀ (ρ : Type) k0, (Tabs k).c106_0 ρ 1 (mk l) (pos l (c :: r)) k0 = k0 (mk (word r)) (mk l) (pos l (c :: r)) := (s106_2 hl (suf_tail h)).step fun k ih ρ k0 => by
  show Gc106_0 (Tabs k) ρ 1 (mk l) (pos l (c :: r)) k0 = _
  unfold Gc106_0
  simp only [pos_W h (by omega), ih, word_bounds (suf_tail h), cond_true, extract_word (suf_tail h)]

/-- The byte behind a place. -/
theorem s102 {c : UInt8} {r : List UInt8} (h : c :: r <:+ l) : Evt fun k => ∀ (ρ : Type) k0, (Tabs k).c102_0 ρ 1 (mk l) (pos l (c :: r)) k0 = k0 (match r with | [] => 0 | d :: _ => (d.toNat : Int)) (mk l) (pos l (c :: r)) := Evt.step0 fun k ρ k0 => by
  show Gc102_0 (Tabs k) ρ 1 (mk l) (pos l (c :: r)) k0 = _
  unfold Gc102_0
  have hr := suf_tail h
  cases r with
  | nil => simp only [pos_W h (by omega), pos_nil]; simp
  | cons d r =>
    have hlt := pos_lt hr
    have hge : decide (pos l (d :: r) ≥ ((mk l).size : Int)) = false := by
      simp only [decide_eq_true_eq] at hlt
      simp only [decide_eq_false_iff_not]; omega
    simp only [pos_W h (by omega), hge, cond_false, pos_ge hr, hlt, Bool.and_self, cond_true, bt_at hr]

end
end Go.Proofs.YtanfoijdfcnpoaaGreatDoor.Ev


/- This file proves what the program's own scanner does with separators, and what names are, in the program and in the reference; without any condition. -/
set_option linter.unusedVariables false
set_option linter.unusedSimpArgs false
namespace Go.Proofs.YtanfoijdfcnpoaaGreatDoor.Ev

theorem s103 : Evt fun k => ∀ (ρ : Type) s b k0, (Tabs k).c103_0 ρ s b k0 = k0 (Lib.indexByte s.data.toList b.toNat.toUInt8) := Evt.step0 fun k ρ s b k0 => rfl

theorem line_index : ∀ r : List UInt8, (Lib.indexByte r 10 < 0 → line r = []) ∧ (¬ Lib.indexByte r 10 < 0 → Lib.indexByte r 10 + (line r).length = r.length)
  | [] => ⟨fun _ => rfl, fun h => absurd (by decide) h⟩
  | c :: r => by
    have ih := line_index r
    have hg := Lib.indexByte_ge r 10
    unfold Lib.indexByte line
    rw [List.dropWhile_cons]
    cases hc : (c == 10) with
    | true =>
      simp only [beq_iff_eq] at hc
      subst hc
      simp
    | false =>
      have hi : ((c.toNat : Int) == 10) = false := by
        simp only [beq_eq_false_iff_ne] at hc ⊢
        intro h
        exact hc (UInt8.toNat_inj.1 (by have : (c.toNat : Int) = 10 := h; have h2 : (10 : UInt8).toNat = 10 := rfl; omega))
      simp only [hi, Bool.not_false, if_true, Bool.false_eq_true, if_false]
      cases h1 : (Lib.indexByte r 10 == -1) with
      | true =>
        simp only [beq_iff_eq] at h1
        refine ⟨fun _ => ih.1 (by omega), fun h => absurd (by simp) h⟩
      | false =>
        simp only [beq_eq_false_iff_ne, ne_eq] at h1
        simp only [Bool.false_eq_true, if_false]
        refine ⟨fun h => by omega, fun h => ?_⟩
        have := ih.2 (by omega)
        unfold line at this
        simp only [List.length_cons]
        omega

section
variable {l : List UInt8} (hl : l.length ≤ 140737488355328)

theorem extract_rest {r : List UInt8} (h : r <:+ l) : ByteArray.extract (mk l) (pos l r).toNat ((mk l).size : Int).toNat = mk r := by
  rw [mk_extract, mk_size]
  obtain ⟨p, rfl⟩ := h
  have : (pos (p ++ r) r).toNat = p.length := by unfold pos; simp
  rw [this, Int.toNat_natCast, List.take_of_length_le (Nat.le_refl _), List.drop_left]

include hl

/-- From a comment's place to its line's end. -/
theorem cut23 {r : List UInt8} (h : r <:+ l) {C : Tab} (h38 : ∀ (ρ : Type) s b k0, C.c103_0 ρ s b k0 = k0 (Lib.indexByte s.data.toList b.toNat.toUInt8)) (ρ : Type) (k0 : ByteArray → Int → Option ρ) :
    cond (decide ((0 : Int) ≤ pos l r) && (decide (pos l r ≤ ((mk l).size : Int)) && decide (((mk l).size : Int) ≤ ((mk l).size : Int))))
      (C.c103_0 ρ (ByteArray.extract (mk l) (Int.toNat (pos l r)) (Int.toNat ((mk l).size : Int))) (10 : Int) (fun (r6 : Int) => cond (decide (r6 < (0 : Int))) (C.l65_0_0 ρ (mk l) (IntKind.wrap .i64 (pos l r + (IntKind.wrap .i64 (((mk l).size : Int) - pos l r)))) k0) (C.l65_0_0 ρ (mk l) (IntKind.wrap .i64 (pos l r + r6)) k0))) none =
    C.l65_0_0 ρ (mk l) (pos l (line r)) k0 := by
  rw [pos_ge h, pos_le h, extract_rest h, h38]
  have hb := pos_bounds h
  have hs : ((mk l).size : Int) = l.length := by rw [mk_size]
  obtain ⟨h1, h2⟩ := line_index r
  have hlen := (line_suffix r).length_le
  have hsuf := suf_le h
  have hg := Lib.indexByte_ge r 10
  simp only [mk_list, Int.le_refl, decide_true, Bool.and_self, cond_true]
  have e10 : (10 : Int).toNat.toUInt8 = (10 : UInt8) := rfl
  rw [e10]
  by_cases hn : Lib.indexByte r 10 < 0
  · simp only [hn, decide_true, cond_true]
    have e1 : IntKind.wrap .i64 (((mk l).size : Int) - pos l r) = ((mk l).size : Int) - pos l r := W_id (by omega) (by omega)
    have e2 : pos l r + (((mk l).size : Int) - pos l r) = ((mk l).size : Int) := by omega
    rw [h1 hn, e1, e2, W_id (by omega) (by omega), pos_nil]
  · simp only [hn, decide_false, cond_false]
    have := h2 hn
    have e2 : pos l r + Lib.indexByte r 10 = pos l (line r) := by unfold pos; omega
    rw [W_id (by omega) (by omega), e2]

theorem s65_0 : ∀ (n : Nat) {r : List UInt8}, r.length ≤ n → r <:+ l → Evt fun k => ∀ (ρ : Type) k0, (Tabs k).l65_0_0 ρ (mk l) (pos l r) k0 = k0 (mk l) (pos l (skip r false))
  | _, [], _, h => Evt.step0 fun k ρ k0 => by
    show Gl65_0_0 (Tabs k) ρ (mk l) (pos l []) k0 = _
    unfold Gl65_0_0
    simp only [pos_end, cond_false]; rfl
  | n + 1, c :: r, hn, h => by
    have hr := suf_tail h
    simp only [List.length_cons] at hn
    have hd : line (c :: r) <:+ l := (line_suffix _).trans h
    cases hw : wsB (c.toNat : Int) with
    | true =>
      refine (s65_0 n (by omega) hr).step fun k h3 ρ k0 => ?_
      show Gl65_0_0 (Tabs k) ρ (mk l) (pos l (c :: r)) k0 = _
      unfold Gl65_0_0
      simp only [pos_ge h, pos_lt h, bt_at h, Bool.and_true, cond_true, pos_W h (by omega), h3, skip, hw, if_true]
      simp only [wsB] at hw
      cases h32 : ((c.toNat : Int) == 32)
      · cases h9 : ((c.toNat : Int) == 9)
        · cases h10 : ((c.toNat : Int) == 10)
          · cases h13 : ((c.toNat : Int) == 13)
            · rw [h32, h9, h10, h13] at hw; cases hw
            · simp
          · simp
        · simp
      · simp
    | false =>
      have hw2 := hw
      simp only [wsB, Bool.or_eq_false_iff] at hw2
      obtain ⟨w1, w2, w3, w4⟩ := hw2
      cases h37 : ((c.toNat : Int) == 37) with
      | false =>
        refine Evt.step0 fun k ρ k0 => ?_
        show Gl65_0_0 (Tabs k) ρ (mk l) (pos l (c :: r)) k0 = _
        unfold Gl65_0_0
        simp only [pos_ge h, pos_lt h, bt_at h, Bool.and_true, cond_true, cond_false, w1, w2, w3, w4, h37, skip, hw, Bool.false_and, Bool.false_eq_true, if_false]
      | true =>
        cases hcm : comm r with
        | true =>
          have hnl : ((c.toNat : Int) == 10) = false := w3
          have hln : line (c :: r) = line r := by unfold line; rw [List.dropWhile_cons]; simp [hnl]
          have hlen : (line (c :: r)).length ≤ n := by rw [hln]; have := (line_suffix r).length_le; omega
          refine ((s102 hl h).and (s103.and (s65_0 n hlen hd))).step fun k ⟨h1, h2, h3⟩ ρ k0 => ?_
          show Gl65_0_0 (Tabs k) ρ (mk l) (pos l (c :: r)) k0 = _
          unfold Gl65_0_0
          simp only [pos_ge h, pos_lt h, bt_at h, Bool.and_true, cond_true, cond_false, w1, w2, w3, w4, h37, h1]
          have hsk : skip (c :: r) false = skip (line (c :: r)) false := by
            simp only [skip, hw, h37, hcm, Bool.and_self, if_true, Bool.false_eq_true, if_false]
            rw [hln, skip_line]
          rw [hsk, ← h3 ρ k0]
          rw [← cut23 hl h h2 ρ k0]
          have eC := cut23 hl h h2 ρ k0
          rw [pos_ge h, Bool.true_and] at eC ⊢
          cases r with
          | nil =>
            have e : (IntKind.wrap .i64 (pos l [c] + 1) == ((mk l).size : Int)) = true := by rw [pos_W h (by omega), pos_nil]; simp
            simp only [e, cond_true]
          | cons d r' =>
            have e : (IntKind.wrap .i64 (pos l (c :: d :: r') + 1) == ((mk l).size : Int)) = false := by
              rw [pos_W h (by omega)]
              have := pos_lt hr
              simp only [decide_eq_true_eq] at this
              simp only [beq_eq_false_iff_ne]; omega
            simp only [e, cond_false]
            simp only [comm, wsB] at hcm
            cases d32 : ((d.toNat : Int) == 32)
            · cases d9 : ((d.toNat : Int) == 9)
              · cases d13 : ((d.toNat : Int) == 13)
                · cases d10 : ((d.toNat : Int) == 10)
                  · cases d37 : ((d.toNat : Int) == 37)
                    · rw [d32, d9, d13, d10, d37] at hcm; cases hcm
                    · simp only [cond_true, cond_false]
                  · simp only [cond_true, cond_false]
                · simp only [cond_true, cond_false]
              · simp only [cond_true, cond_false]
            · simp only [cond_true, cond_false]
        | false =>
          refine (s102 hl h).step fun k h1 ρ k0 => ?_
          show Gl65_0_0 (Tabs k) ρ (mk l) (pos l (c :: r)) k0 = _
          unfold Gl65_0_0
          simp only [pos_ge h, pos_lt h, bt_at h, Bool.and_true, cond_true, cond_false, w1, w2, w3, w4, h37, h1]
          simp only [skip, hw, h37, hcm, Bool.and_false, Bool.false_eq_true, if_false]
          cases r with
          | nil => cases hcm
          | cons d r' =>
            have e : (IntKind.wrap .i64 (pos l (c :: d :: r') + 1) == ((mk l).size : Int)) = false := by
              rw [pos_W h (by omega)]
              have := pos_lt hr
              simp only [decide_eq_true_eq] at this
              simp only [beq_eq_false_iff_ne]; omega
            simp only [comm, wsB, Bool.or_eq_false_iff] at hcm
            obtain ⟨⟨d1, d2, d3, d4⟩, d5⟩ := hcm
            simp only [e, d1, d2, d3, d4, d5, cond_false]

theorem s65 {r : List UInt8} (h : r <:+ l) : Evt fun k => ∀ (ρ : Type) k0, (Tabs k).c65_0 ρ (mk l) (pos l r) k0 = k0 (mk l) (pos l (skip r false)) := (s65_0 hl r.length (Nat.le_refl _) h).step fun k ih ρ k0 => by
  show Gc65_0 (Tabs k) ρ (mk l) (pos l r) k0 = _
  unfold Gc65_0
  exact ih ρ k0

end

/-! ### Names -/

/-- Whether this is a name of a kind. -/
def nameL (first : Int → Bool) : List UInt8 → Bool
  | [] => false
  | c :: r => decide ((c :: r).length ≤ 16) && (first (c.toNat : Int) && (c :: r).all nmC)

theorem all_after : ∀ r : List UInt8, (after r == []) = r.all nmC
  | [] => rfl
  | c :: r => by
    unfold after
    rw [List.dropWhile_cons, List.all_cons]
    cases hc : nmC c
    · simp
    · simp only [if_true, Bool.true_and]; exact all_after r

theorem s92_4 (w : List UInt8) (hw : w.length ≤ 16) : ∀ {r : List UInt8}, r <:+ w → Evt fun k => ∀ (ρ : Type) k0 k1, (Tabs k).l92_4_0 ρ (mk w) ((mk w).size : Int) (pos w r) k0 k1 = cond (r.all nmC) k0 (k1 false)
  | [], h => Evt.step0 fun k ρ k0 k1 => by
    show Gl92_4_0 (Tabs k) ρ (mk w) _ (pos w []) k0 k1 = _
    unfold Gl92_4_0
    simp only [pos_end, cond_false]; rfl
  | c :: r, h => (s132.and (s92_4 w hw (suf_tail h))).step fun k ⟨h1, ih⟩ ρ k0 k1 => by
    show Gl92_4_0 (Tabs k) ρ (mk w) _ (pos w (c :: r)) k0 k1 = _
    unfold Gl92_4_0
    simp only [pos_ge h, pos_lt h, bt_at h, Bool.and_true, cond_true, pos_W h (by omega), h1, ih, List.all_cons]
    show cond (!nmC c) _ _ = _
    cases nmC c <;> simp

theorem bt_head (c : UInt8) (r : List UInt8) : bt (mk (c :: r)) 0 = (c.toNat : Int) := by
  have := bt_at (l := c :: r) (List.suffix_refl (c :: r))
  rwa [pos_all] at this

theorem size_pos (c : UInt8) (r : List UInt8) : decide ((0 : Int) < ((mk (c :: r)).size : Int)) = true := by rw [mk_size]; simp

theorem s92_0 (w : List UInt8) : Evt fun k => ∀ (ρ : Type) k0, (Tabs k).c92_0 ρ (mk w) k0 = k0 (nameL smallB w) := by
  cases w with
  | nil => exact Evt.step0 fun k ρ k0 => rfl
  | cons c r =>
    by_cases hw : (c :: r).length ≤ 16
    · have h := s92_4 _ hw (List.suffix_refl (c :: r))
      rw [pos_all] at h
      refine (s93.and h).step fun k ⟨h1, h2⟩ ρ k0 => ?_
      rw [show (Tabs (k + 1)).c92_0 = Gc92_0 (Tabs k) from rfl]
      unfold Gc92_0
      have e1 : decide (((mk (c :: r)).size : Int) < 1) = false := by rw [mk_size]; simp; omega
      have e2 : decide (((mk (c :: r)).size : Int) > 16) = false := by rw [mk_size]; simp at hw ⊢; omega
      simp only [e1, e2, cond_false, size_pos, bt_head, h1, h2, nameL, hw, decide_true, Bool.true_and]
      cases smallB (c.toNat : Int) <;> cases (c :: r).all nmC <;> rfl
    · refine Evt.step0 fun k ρ k0 => ?_
      rw [show (Tabs (k + 1)).c92_0 = Gc92_0 (Tabs k) from rfl]
      unfold Gc92_0
      have e1 : decide (((mk (c :: r)).size : Int) < 1) = false := by rw [mk_size]; simp; omega
      have e2 : decide (((mk (c :: r)).size : Int) > 16) = true := by rw [mk_size]; simp at hw ⊢; omega
      simp only [e1, e2, cond_false, cond_true, nameL, hw, decide_false, Bool.false_and]

theorem s92_1 (w : List UInt8) : Evt fun k => ∀ (ρ : Type) k0, (Tabs k).c92_1 ρ (mk w) k0 = k0 (nameL capB w) := by
  cases w with
  | nil => exact Evt.step0 fun k ρ k0 => rfl
  | cons c r =>
    by_cases hw : (c :: r).length ≤ 16
    · have h := s92_4 _ hw (List.suffix_refl (c :: r))
      rw [pos_all] at h
      refine (s107.and h).step fun k ⟨h1, h2⟩ ρ k0 => ?_
      rw [show (Tabs (k + 1)).c92_1 = Gc92_1 (Tabs k) from rfl]
      unfold Gc92_1
      have e1 : decide (((mk (c :: r)).size : Int) < 1) = false := by rw [mk_size]; simp; omega
      have e2 : decide (((mk (c :: r)).size : Int) > 16) = false := by rw [mk_size]; simp at hw ⊢; omega
      simp only [e1, e2, cond_false, size_pos, bt_head, h1, h2, nameL, hw, decide_true, Bool.true_and]
      cases capB (c.toNat : Int) <;> cases (c :: r).all nmC <;> rfl
    · refine Evt.step0 fun k ρ k0 => ?_
      rw [show (Tabs (k + 1)).c92_1 = Gc92_1 (Tabs k) from rfl]
      unfold Gc92_1
      have e1 : decide (((mk (c :: r)).size : Int) < 1) = false := by rw [mk_size]; simp; omega
      have e2 : decide (((mk (c :: r)).size : Int) > 16) = true := by rw [mk_size]; simp at hw ⊢; omega
      simp only [e1, e2, cond_false, cond_true, nameL, hw, decide_false, Bool.false_and]

theorem s54 (w : List UInt8) : Evt fun k => ∀ (ρ : Type) k0, (Tabs k).c54_0 ρ (mk w) k0 = k0 (nameL smallB w) := (s92_0 w).step fun k ih ρ k0 => by
  show Gc54_0 (Tabs k) ρ _ k0 = _
  unfold Gc54_0
  exact ih ρ k0
theorem s77 (w : List UInt8) : Evt fun k => ∀ (ρ : Type) k0, (Tabs k).c77_0 ρ (mk w) k0 = k0 (nameL capB w) := (s92_1 w).step fun k ih ρ k0 => by
  show Gc77_0 (Tabs k) ρ _ k0 = _
  unfold Gc77_0
  exact ih ρ k0

theorem s44 (w : List UInt8) : Evt fun k => ∀ (ρ : Type) k0, (Tabs k).c44_0 ρ (mk w) k0 = k0 (nameL letB w) := by
  cases w with
  | nil => exact Evt.step0 fun k ρ k0 => rfl
  | cons c r =>
    by_cases hw : (c :: r).length ≤ 16
    · have h := s83 (l := c :: r) (by omega) (List.suffix_refl (c :: r))
      rw [pos_all] at h
      refine (s82.and h).step fun k ⟨h1, h2⟩ ρ k0 => ?_
      show Gc44_0 (Tabs k) ρ _ k0 = _
      unfold Gc44_0
      have e1 : decide (((mk (c :: r)).size : Int) ≥ 1) = true := by rw [mk_size]; simp; omega
      have e2 : decide (((mk (c :: r)).size : Int) ≤ 16) = true := by rw [mk_size]; simp at hw ⊢; omega
      have e3 : (pos (c :: r) (after (c :: r)) == ((mk (c :: r)).size : Int)) = (c :: r).all nmC := by
        rw [← all_after, mk_size]
        cases ha : after (c :: r) with
        | nil => simp [pos]
        | cons d t => simp [pos]; omega
      simp only [e1, e2, cond_true, size_pos, bt_head, h1, h2, e3, nameL, hw, decide_true, Bool.true_and]
      cases letB (c.toNat : Int) <;> rfl
    · refine Evt.step0 fun k ρ k0 => ?_
      show Gc44_0 (Tabs k) ρ _ k0 = _
      unfold Gc44_0
      have e1 : decide (((mk (c :: r)).size : Int) ≥ 1) = true := by rw [mk_size]; simp; omega
      have e2 : decide (((mk (c :: r)).size : Int) ≤ 16) = false := by rw [mk_size]; simp at hw ⊢; omega
      simp only [e1, e2, cond_false, cond_true, nameL, hw, decide_false, Bool.false_and]

theorem not_small {b : Int} (h : smallB b = true) : capB b = false := by
  simp only [smallB, capB, Bool.and_eq_true, decide_eq_true_eq] at *
  simp; omega
end Go.Proofs.YtanfoijdfcnpoaaGreatDoor.Ev


/- This file proves that a number is the same in the program (Atoi, and Itoa back) and in the reference; without any condition. -/
set_option linter.unusedVariables false
set_option linter.unusedSimpArgs false
namespace Go.Proofs.YtanfoijdfcnpoaaGreatDoor.Ev

/-- The value of digits. -/
def dig10 (a : Int) : List UInt8 → Option Int
  | [] => some a
  | c :: r => if digB (c.toNat : Int) = true then dig10 (10 * a + ((c.toNat : Int) - 48)) r else none

def numV (w : List UInt8) : Bool :=
  match dig10 0 w with
  | some v => decide (v ≤ 10000)
  | none => false

def numOk : List UInt8 → Bool
  | [] => false
  | c :: t => decide ((c :: t).length ≤ 5) && (!((c.toNat : Int) == 48 && !(t == [])) && numV (c :: t))

theorem u8_sub {c : UInt8} (h : digB (c.toNat : Int) = true) : IntKind.wrap .u8 ((c.toNat : Int) - 48) = (c.toNat : Int) - 48 := by
  simp only [digB, Bool.and_eq_true, decide_eq_true_eq] at h
  simp only [IntKind.wrap, IntKind.signed, IntKind.bits]
  simp
  omega

/-! ### The program's way -/

def numP (w : List UInt8) : Bool :=
  match Lib.atoiAll w with
  | .ok v => decide (v ≥ 0) && (decide (v ≤ 10000) && (Lib.itoa v == w))
  | _ => false

theorem s111 (w : List UInt8) (hw : w.length ≤ 140737488355328) : Evt fun k => ∀ (ρ : Type) k0, (Tabs k).c111_0 ρ (mk w) k0 = k0 (numP w) := by
  have h65 : Evt fun k => ∀ (ρ : Type) s k0 k1, (Tabs k).c139_0 ρ s k0 k1 = toldAtoi s k0 k1 := Evt.step0 fun k ρ s k0 k1 => rfl
  have h66 : Evt fun k => ∀ (ρ : Type) s k0, (Tabs k).c95_0 ρ s k0 = toldItoa s k0 := Evt.step0 fun k ρ s k0 => rfl
  refine (h65.and h66).step fun k ⟨h1, h2⟩ ρ k0 => ?_
  rw [show (Tabs (k + 1)).c111_0 = Gc111_0 (Tabs k) from rfl]
  unfold Gc111_0
  have hs : decide ((mk w).size ≤ 140737488355328) = true := by rw [mk_size]; simp; omega
  simp only [h1, h2, toldAtoi, toldItoa, hs, cond_true, mk_list, numP]
  rcases ha : Lib.atoiAll w with v | _ | _
  · simp only
    by_cases h0 : v ≥ 0
    · by_cases h3 : v ≤ 10000
      · have b1 : decide (-9223372036854775808 ≤ v) = true := by simp; omega
        have b2 : decide (v ≤ 9223372036854775807) = true := by simp; omega
        simp only [h0, h3, decide_true, cond_true, b1, b2, Bool.and_self, Bool.true_and]
        rw [show (⟨(Lib.itoa v).toArray⟩ : ByteArray) = mk (Lib.itoa v) from rfl, strEq_mk]
      · simp [h0, h3]
    · simp [h0]
  · rfl
  · rfl

/-! ### Both are one -/

theorem dig10_append : ∀ (x y : List UInt8) (a : Int), dig10 a (x ++ y) = (dig10 a x).bind fun v => dig10 v y
  | [], y, a => rfl
  | c :: x, y, a => by
    simp only [List.cons_append, dig10]
    split
    · exact dig10_append x y _
    · rfl

theorem digit_of {d : Nat} (h : d < 10) : ((UInt8.ofNat (48 + d)).toNat : Int) = 48 + d := by
  have : (UInt8.ofNat (48 + d)).toNat = 48 + d := by
    rw [UInt8.toNat_ofNat']
    exact Nat.mod_eq_of_lt (by omega)
  omega

theorem dig10_digit {d : Nat} (h : d < 10) (a : Int) : dig10 a [UInt8.ofNat (48 + d)] = some (10 * a + d) := by
  have e := digit_of h
  simp only [dig10, digB, e]
  rw [if_pos (by simp; omega)]
  congr 1; omega

theorem decDigits_big {u : Nat} (h : ¬ u < 10) : Lib.decDigits u = Lib.decDigits (u / 10) ++ [UInt8.ofNat (48 + u % 10)] := by
  rw [Lib.decDigits, dif_neg h]

theorem dec_val (u : Nat) : dig10 0 (Lib.decDigits u) = some (u : Int) := by
  induction u using Nat.strongRecOn with
  | ind u ih =>
    by_cases h : u < 10
    · rw [Lib.decDigits_one h, dig10_digit h]; simp
    · rw [decDigits_big h, dig10_append, ih (u / 10) (by omega)]
      simp only [Option.bind_some]
      rw [dig10_digit (by omega)]
      congr 1; omega

theorem dec_len (k u : Nat) (h : u < 10 ^ (k + 1)) : (Lib.decDigits u).length ≤ k + 1 := by
  induction k generalizing u with
  | zero => rw [Lib.decDigits_one (by simpa using h)]; simp
  | succ k ih =>
    by_cases hu : u < 10
    · rw [Lib.decDigits_one hu]; simp
    · rw [decDigits_big hu, List.length_append]
      have := ih (u / 10) (by rw [Nat.pow_succ] at h; omega)
      simp; omega

theorem dec_head (u : Nat) (h : 0 < u) : ∃ c t, Lib.decDigits u = c :: t ∧ (c.toNat : Int) ≠ 48 := by
  induction u using Nat.strongRecOn with
  | ind u ih =>
    by_cases hu : u < 10
    · refine ⟨_, _, Lib.decDigits_one hu, ?_⟩
      rw [digit_of hu]; omega
    · obtain ⟨c, t, h1, h2⟩ := ih (u / 10) (by omega) (by omega)
      exact ⟨c, t ++ [UInt8.ofNat (48 + u % 10)], by rw [decDigits_big hu, h1]; rfl, h2⟩

theorem numOk_dec (u : Nat) (h : u ≤ 10000) : numOk (Lib.decDigits u) = true := by
  have hl := dec_len 4 u (by omega)
  have hv := dec_val u
  by_cases h0 : u = 0
  · subst h0
    rw [Lib.decDigits_one (by omega)]; rfl
  · obtain ⟨c, t, h1, h2⟩ := dec_head u (by omega)
    rw [h1] at hl hv ⊢
    have h3 : ((c.toNat : Int) == 48) = false := by simpa using h2
    simp only [numOk, hl, decide_true, h3, Bool.false_and, Bool.not_false, Bool.true_and, numV, hv]
    simp; omega

theorem dig_byte {c : UInt8} (h : digB (c.toNat : Int) = true) : ∃ d, d < 10 ∧ c = UInt8.ofNat (48 + d) ∧ c.toNat = 48 + d := by
  simp only [digB, Bool.and_eq_true, decide_eq_true_eq] at h
  refine ⟨c.toNat - 48, by omega, ?_, by omega⟩
  have : 48 + (c.toNat - 48) = c.toNat := by omega
  rw [this]; simp

theorem parse_dig : ∀ (w : List UInt8) (a : Nat) (v : Int), dig10 (a : Int) w = some v → (a + 1) * 10 ^ w.length ≤ 1000000 → ∃ u : Nat, v = u ∧ Lib.parseUint10 a w = .ok u
  | [], a, v, h, _ => by
    simp only [dig10, Option.some.injEq] at h
    exact ⟨a, h.symm, rfl⟩
  | c :: r, a, v, h, hb => by
    simp only [dig10] at h
    split at h
    · rename_i hd
      obtain ⟨d, h1, h2, h3⟩ := dig_byte hd
      have hp : 1 ≤ 10 ^ r.length := Nat.one_le_pow _ _ (by omega)
      have hb2 : (a + 1) * 10 * 10 ^ r.length ≤ 1000000 := by
        simp only [List.length_cons] at hb
        rw [Nat.pow_succ, ← Nat.mul_assoc] at hb
        rw [Nat.mul_assoc, Nat.mul_comm 10, ← Nat.mul_assoc]; exact hb
      have ha : (a + 1) * 10 ≤ 1000000 := Nat.le_trans (Nat.le_mul_of_pos_right _ hp) hb2
      have e : (10 * (a : Int) + ((c.toNat : Int) - 48)) = ((a * 10 + (c.toNat - 48) : Nat) : Int) := by omega
      rw [e] at h
      obtain ⟨u, h4, h5⟩ := parse_dig r _ v h (Nat.le_trans (Nat.mul_le_mul_right _ (by omega)) hb2)
      refine ⟨u, h4, ?_⟩
      simp only [Lib.parseUint10]
      rw [if_pos (by omega), if_neg (by omega), if_neg (by omega)]
      exact h5
    · cases h

theorem dec_of_dig : ∀ (n : Nat) (w : List UInt8) (u : Nat), w.length ≤ n → dig10 0 w = some (u : Int) → (∃ c t, w = c :: t ∧ ((c.toNat : Int) ≠ 48 ∨ t = [])) → Lib.decDigits u = w
  | 0, w, u, hn, _, ⟨c, t, hw, _⟩ => by subst hw; simp at hn
  | n + 1, w, u, hn, h, ⟨c, t, hw, hc⟩ => by
    rcases List.eq_nil_or_concat t with ht | ⟨x, d, ht⟩
    · subst ht; subst hw
      simp only [dig10] at h
      split at h
      · rename_i hd
        obtain ⟨d, h1, h2, h3⟩ := dig_byte hd
        have : u = d := by
          simp only [Option.some.injEq] at h
          omega
        subst this
        rw [Lib.decDigits_one h1, ← h2]
      · cases h
    · have hw2 : w = (c :: x) ++ [d] := by rw [hw, ht]; simp
      have hc48 : (c.toNat : Int) ≠ 48 := by
        rcases hc with hc | hc
        · exact hc
        · rw [hc] at ht; simp at ht
      rw [hw2, dig10_append] at h
      cases h1 : dig10 0 (c :: x) with
      | none => rw [h1] at h; cases h
      | some v1 =>
        rw [h1] at h
        simp only [Option.bind_some, dig10] at h
        split at h
        · rename_i hd
          obtain ⟨e, f1, f2, f3⟩ := dig_byte hd
          have hnn : ∀ (y : List UInt8) (a v : Int), 0 ≤ a → dig10 a y = some v → 0 ≤ v := by
            intro y
            induction y with
            | nil => intro a v ha hv; simp only [dig10, Option.some.injEq] at hv; omega
            | cons z y ih =>
              intro a v ha hv
              simp only [dig10] at hv
              split at hv
              · rename_i hz
                simp only [digB, Bool.and_eq_true, decide_eq_true_eq] at hz
                exact ih _ v (by omega) hv
              · cases hv
          have hv1 := hnn _ _ _ (Int.le_refl 0) h1
          obtain ⟨m, rfl⟩ := Int.eq_ofNat_of_zero_le hv1
          have hlen : (c :: x).length ≤ n := by
            rw [hw2] at hn; simp at hn ⊢; omega
          have ih := dec_of_dig n (c :: x) m hlen h1 ⟨c, x, rfl, .inl hc48⟩
          have hm : 0 < m := by
            rcases Nat.eq_zero_or_pos m with h0 | h0
            · exfalso
              subst h0
              rw [Lib.decDigits_one (by omega)] at ih
              simp at ih
              apply hc48
              rw [← ih.1]; rfl
            · exact h0
          simp only [Option.some.injEq] at h
          have hu : u = 10 * m + e := by omega
          have hbig : ¬ u < 10 := by omega
          rw [decDigits_big hbig, hw2]
          have q1 : u / 10 = m := by omega
          have q2 : u % 10 = e := by omega
          rw [q1, q2, ih, f2]
        · cases h

theorem num_eq (w : List UInt8) : numP w = numOk w := by
  rw [Bool.eq_iff_iff]
  constructor
  · intro h
    unfold numP at h
    split at h
    · rename_i v _
      simp only [Bool.and_eq_true, decide_eq_true_eq, beq_iff_eq] at h
      obtain ⟨h0, h1, h2⟩ := h
      obtain ⟨u, rfl⟩ := Int.eq_ofNat_of_zero_le h0
      rw [← h2]
      unfold Lib.itoa
      rw [if_neg (by omega)]
      exact numOk_dec _ (by omega)
    · cases h
  · intro h
    cases w with
    | nil => cases h
    | cons c t =>
      simp only [numOk, Bool.and_eq_true, decide_eq_true_eq] at h
      obtain ⟨h1, h2, h3⟩ := h
      unfold numV at h3
      split at h3
      · rename_i v hv
        simp only [decide_eq_true_eq] at h3
        have hb : ((0 : Nat) + 1) * 10 ^ (c :: t).length ≤ 1000000 := by
          have : 10 ^ (c :: t).length ≤ 10 ^ 5 := Nat.pow_le_pow_right (by omega) h1
          omega
        obtain ⟨u, rfl, hu⟩ := parse_dig (c :: t) 0 v (by simpa using hv) hb
        have hd : digB (c.toNat : Int) = true := by
          cases hd : digB (c.toNat : Int) with
          | true => rfl
          | false => simp only [dig10, hd, Bool.false_eq_true, if_false] at hv; cases hv
        obtain ⟨d, f1, f2, f3⟩ := dig_byte hd
        have hdec := dec_of_dig _ (c :: t) u (Nat.le_refl _) hv ⟨c, t, rfl, by
          simp only [Bool.not_eq_true', Bool.and_eq_false_iff, beq_eq_false_iff_ne, ne_eq, Bool.not_eq_false', beq_iff_eq] at h2
          exact h2⟩
        have ha : Lib.atoiAll (c :: t) = .ok (u : Int) := by
          unfold Lib.atoiAll
          simp only
          rw [if_neg (by omega)]
          unfold Lib.parseMag
          rw [if_neg (by simp), hu]
          simp only
          have hn : ¬ c.toNat = 45 := by omega
          rw [if_neg (by omega), if_neg (by omega), if_neg hn]
        unfold numP
        rw [ha]
        simp only
        unfold Lib.itoa
        rw [if_neg (by omega)]
        simp only [Int.toNat_natCast, hdec]
        simp; omega
      · cases h3

end Go.Proofs.YtanfoijdfcnpoaaGreatDoor.Ev


/- This file proves what token begins at a place, in the program and in the reference; without any condition. -/
set_option linter.unusedVariables false
set_option linter.unusedSimpArgs false
namespace Go.Proofs.YtanfoijdfcnpoaaGreatDoor.Ev

def signs : List UInt8 := [58, 46, 123, 125, 91, 93, 40, 41, 43, 42, 124, 61]

def byteAt : List UInt8 → Int
  | [] => 0
  | d :: _ => (d.toNat : Int)

/-- The kind and the text of the token that begins here, if one does. -/
def next (c : UInt8) (r : List UInt8) : Option (Int × List UInt8) :=
  let b : Int := (c.toNat : Int)
  bif smallB b then (bif nameL smallB (word (c :: r)) then some (1, word (c :: r)) else none)
  else bif capB b then (bif nameL capB (word (c :: r)) then some (2, word (c :: r)) else none)
  else bif digB b then (bif numOk (word (c :: r)) then some (6, word (c :: r)) else none)
  else bif b == 95 then (bif word (c :: r) == [95] then some (3, [95]) else none)
  else bif b == 37 then (bif nameL smallB (word r) then some (5, 37 :: word r) else none)
  else bif b == 45 then (bif byteAt r == 62 then some (4, [45, 62]) else some (4, [45]))
  else bif b == 60 then (bif byteAt r == 45 then some (4, [60, 45]) else none)
  else bif signs.contains c then some (4, [c]) else none

/-- How the program's rules hand a token over: none is kind 0 and no text. -/
def outP {ρ : Type} (o : Option (Int × List UInt8)) (K : Int → ByteArray → Option ρ) : Option ρ :=
  match o with
  | some x => K x.1 (mk x.2)
  | none => K 0 (mk [])

theorem outP_bif {ρ : Type} {b : Bool} {x y : Option (Int × List UInt8)} {K : Int → ByteArray → Option ρ} : outP (bif b then x else y) K = cond b (outP x K) (outP y K) := by cases b <;> rfl

theorem s66 : Evt fun k => ∀ (ρ : Type) b k0 k1 k2 k3 k4 k5 k6 k7, (Tabs k).c66_0 ρ b k0 k1 k2 k3 k4 k5 k6 k7 =
    cond (smallB b) (k0 b) (cond (capB b) (k1 b) (cond (digB b) (k2 b) (cond (b == 95) (k3 b) (cond (b == 37) (k4 b) (cond (b == 45) k5 (cond (b == 60) (k6 b) (k7 b))))))) :=
  (s93.and (s107.and s109)).step fun k ⟨h1, h2, h3⟩ ρ b k0 k1 k2 k3 k4 k5 k6 k7 => by
    rw [show (Tabs (k + 1)).c66_0 = Gc66_0 (Tabs k) from rfl]
    unfold Gc66_0
    simp only [h1, h2, h3]

theorem s104 : Evt fun k => ∀ (ρ : Type) a s b k0, (Tabs k).c104_0 ρ a s b k0 = cond b (k0 a s) (k0 0 (mk [])) := Evt.step0 fun k ρ a s b k0 => by
  rw [show (Tabs (k + 1)).c104_0 = Gc104_0 (Tabs k) from rfl]
  unfold Gc104_0
  cases b <;> rfl

section
variable {l : List UInt8} (hl : l.length ≤ 140737488355328)
include hl

theorem s105 {r : List UInt8} (h : r <:+ l) : Evt fun k => ∀ (ρ : Type) k0, (Tabs k).c105_0 ρ (mk l) (pos l r) k0 = outP (bif nameL smallB (word r) then some (1, word r) else none) (fun a s => k0 a s (mk l) (pos l r)) :=
  ((s106_0 hl h).and ((s54 (word r)).and s104)).step fun k ⟨h1, h2, h3⟩ ρ k0 => by
    rw [show (Tabs (k + 1)).c105_0 = Gc105_0 (Tabs k) from rfl]
    unfold Gc105_0
    simp only [h1, h2, h3, outP_bif]; rfl
theorem s108 {r : List UInt8} (h : r <:+ l) : Evt fun k => ∀ (ρ : Type) k0, (Tabs k).c108_0 ρ (mk l) (pos l r) k0 = outP (bif nameL capB (word r) then some (2, word r) else none) (fun a s => k0 a s (mk l) (pos l r)) :=
  ((s106_0 hl h).and ((s77 (word r)).and s104)).step fun k ⟨h1, h2, h3⟩ ρ k0 => by
    rw [show (Tabs (k + 1)).c108_0 = Gc108_0 (Tabs k) from rfl]
    unfold Gc108_0
    simp only [h1, h2, h3, outP_bif]; rfl
theorem word_le {r : List UInt8} (h : r <:+ l) : (word r).length ≤ 140737488355328 := by
  have := congrArg List.length (word_after r)
  have := suf_le h
  simp at *
  omega
theorem s110 {r : List UInt8} (h : r <:+ l) : Evt fun k => ∀ (ρ : Type) k0, (Tabs k).c110_0 ρ (mk l) (pos l r) k0 = outP (bif numOk (word r) then some (6, word r) else none) (fun a s => k0 a s (mk l) (pos l r)) :=
  ((s106_0 hl h).and ((s111 (word r) (word_le hl h)).and s104)).step fun k ⟨h1, h2, h3⟩ ρ k0 => by
    rw [show (Tabs (k + 1)).c110_0 = Gc110_0 (Tabs k) from rfl]
    unfold Gc110_0
    simp only [h1, h2, h3, outP_bif, num_eq]; rfl
theorem s112 {r : List UInt8} (h : r <:+ l) : Evt fun k => ∀ (ρ : Type) k0, (Tabs k).c112_0 ρ (mk l) (pos l r) k0 = outP (bif word r == [95] then some (3, [95]) else none) (fun a s => k0 a s (mk l) (pos l r)) :=
  ((s106_0 hl h).and s104).step fun k ⟨h1, h3⟩ ρ k0 => by
    rw [show (Tabs (k + 1)).c112_0 = Gc112_0 (Tabs k) from rfl]
    unfold Gc112_0
    simp only [h1, h3, outP_bif]
    rw [show (ByteArray.mk #[95]) = mk [95] from rfl, strEq_mk]; rfl
theorem s113 {c : UInt8} {r : List UInt8} (h : c :: r <:+ l) : Evt fun k => ∀ (ρ : Type) k0, (Tabs k).c113_0 ρ (mk l) (pos l (c :: r)) k0 = outP (bif nameL smallB (word r) then some (5, 37 :: word r) else none) (fun a s => k0 a s (mk l) (pos l (c :: r))) :=
  ((s106_1 hl h).and ((s54 (word r)).and s104)).step fun k ⟨h1, h2, h3⟩ ρ k0 => by
    rw [show (Tabs (k + 1)).c113_0 = Gc113_0 (Tabs k) from rfl]
    unfold Gc113_0
    have hw := word_le hl (suf_tail h)
    have hs : decide ((ByteArray.mk #[37]).size + (mk (word r)).size ≤ 9223372036854775807) = true := by
      have e1 : (ByteArray.mk #[37]).size = 1 := rfl
      rw [e1, mk_size (word r)]; simp; omega
    have ht : (ByteArray.mk #[37]) ++ mk (word r) = mk (37 :: word r) := mk_append [37] (word r)
    simp only [h1, h2, h3, hs, cond_true, ht, outP_bif]; rfl
theorem s114 {c : UInt8} {r : List UInt8} (h : c :: r <:+ l) : Evt fun k => ∀ (ρ : Type) k0, (Tabs k).c114_0 ρ (mk l) (pos l (c :: r)) k0 = outP (bif byteAt r == 62 then some (4, [45, 62]) else some (4, [45])) (fun a s => k0 a s (mk l) (pos l (c :: r))) :=
  (s102 hl h).step fun k h1 ρ k0 => by
    rw [show (Tabs (k + 1)).c114_0 = Gc114_0 (Tabs k) from rfl]
    unfold Gc114_0
    simp only [h1, outP_bif]
    cases r <;> rfl
theorem s115 {c : UInt8} {r : List UInt8} (h : c :: r <:+ l) : Evt fun k => ∀ (ρ : Type) k0, (Tabs k).c115_0 ρ (mk l) (pos l (c :: r)) k0 = outP (bif byteAt r == 45 then some (4, [60, 45]) else none) (fun a s => k0 a s (mk l) (pos l (c :: r))) :=
  ((s102 hl h).and s104).step fun k ⟨h1, h3⟩ ρ k0 => by
    rw [show (Tabs (k + 1)).c115_0 = Gc115_0 (Tabs k) from rfl]
    unfold Gc115_0
    simp only [h1, h3, outP_bif]
    cases r <;> rfl

end

theorem index_mem : ∀ (s : List UInt8) (c : UInt8), decide (Lib.indexByte s c ≥ 0) = s.contains c
  | [], c => rfl
  | d :: s, c => by
    have ih := index_mem s c
    have hg := Lib.indexByte_ge s c
    unfold Lib.indexByte
    cases hd : (d == c) with
    | true => simp only [beq_iff_eq] at hd; subst hd; simp
    | false =>
      have hcd : (c == d) = false := by
        simp only [beq_eq_false_iff_ne] at hd ⊢; exact fun e => hd e.symm
      simp only [Bool.false_eq_true, if_false, List.contains_cons, hcd, Bool.false_or, ← ih]
      cases h1 : (Lib.indexByte s c == -1) with
      | true => simp only [beq_iff_eq] at h1; rw [h1]; rfl
      | false =>
        simp only [beq_eq_false_iff_ne, ne_eq] at h1
        simp only [Bool.false_eq_true, if_false]
        have e1 : decide (Lib.indexByte s c + 1 ≥ 0) = true := by simp; omega
        have e2 : decide (Lib.indexByte s c ≥ 0) = true := by simp; omega
        rw [e1, e2]

theorem sign_text {c : UInt8} (h : signs.contains c = true) : Utf8.encode (IntKind.wrap .i32 (c.toNat : Int)) = mk [c] := by
  simp only [signs, List.contains_iff_mem, List.mem_cons, List.not_mem_nil, or_false] at h
  rcases h with rfl | rfl | rfl | rfl | rfl | rfl | rfl | rfl | rfl | rfl | rfl | rfl <;> decide +kernel

theorem s116 (s : ByteArray) (n : Int) (c : UInt8) : Evt fun k => ∀ (ρ : Type) k0, (Tabs k).c116_0 ρ s n (c.toNat : Int) k0 = outP (bif signs.contains c then some (4, [c]) else none) (fun a t => k0 a t s n (c.toNat : Int)) :=
  (s103.and s104).step fun k ⟨h1, h3⟩ ρ k0 => by
    rw [show (Tabs (k + 1)).c116_0 = Gc116_0 (Tabs k) from rfl]
    unfold Gc116_0
    have hc : (c.toNat : Int).toNat.toUInt8 = c := by simp
    simp only [h1, h3, outP_bif, hc]
    rw [show ([58, 46, 123, 125, 91, 93, 40, 41, 43, 42, 124, 61] : List UInt8) = signs from rfl, index_mem]
    cases h : signs.contains c with
    | true => rw [sign_text h]; rfl
    | false => rfl

/-! ### The reference -/

section
variable {l : List UInt8} (hl : l.length ≤ 140737488355328)
include hl

theorem take_two {r : List UInt8} (h : r <:+ l) (n : Nat) (hn : n ≤ 2) : IntKind.wrap .i64 (pos l r + (n : Int)) = pos l r + n := by
  have := pos_bounds h
  exact W_id (by omega) (by omega)

omit hl in
theorem extract_take {r : List UInt8} (h : r <:+ l) (n : Nat) {e : Int} (he : e = pos l r + n) : ByteArray.extract (mk l) (pos l r).toNat e.toNat = mk (r.take n) := by
  subst he
  rw [mk_extract]
  congr 1
  obtain ⟨p, rfl⟩ := h
  have e1 : pos (p ++ r) r = p.length := by unfold pos; simp
  rw [e1]
  have : ((p.length : Int) + (n : Int)).toNat = p.length + n := by omega
  rw [this, Int.toNat_natCast, List.take_append, List.take_of_length_le (by omega), Nat.add_sub_cancel_left, List.drop_append, Nat.sub_self, List.drop_length, List.nil_append, List.drop_zero]

/-- The sign that begins here. -/
def signR (c : UInt8) (r : List UInt8) : Option (Int × List UInt8) :=
  bif (c :: r).take 2 == [45, 62] then some (4, [45, 62])
  else bif (c :: r).take 2 == [60, 45] then some (4, [60, 45])
  else bif (c.toNat : Int) == 45 || signs.contains c then some (4, [c]) else none

omit hl in
theorem contains_int (c : UInt8) : signs.contains c = ((c.toNat : Int) == 58 || ((c.toNat : Int) == 46 || ((c.toNat : Int) == 123 || ((c.toNat : Int) == 125 || ((c.toNat : Int) == 91 || ((c.toNat : Int) == 93 || ((c.toNat : Int) == 40 || ((c.toNat : Int) == 41 || ((c.toNat : Int) == 43 || ((c.toNat : Int) == 42 || ((c.toNat : Int) == 124 || (c.toNat : Int) == 61))))))))))) := by
  have e : ∀ d : UInt8, (c == d) = ((c.toNat : Int) == (d.toNat : Int)) := by
    intro d
    rw [Bool.eq_iff_iff]
    simp only [beq_iff_eq]
    constructor
    · rintro rfl; rfl
    · intro h; exact UInt8.toNat_inj.1 (by omega)
  simp only [signs, List.contains_cons, List.contains_nil, Bool.or_false, e]
  rfl

end
end Go.Proofs.YtanfoijdfcnpoaaGreatDoor.Ev


/- This file proves that both scanners cut a source into the same tokens; without any condition. -/
set_option linter.unusedVariables false
set_option linter.unusedSimpArgs false
namespace Go.Proofs.YtanfoijdfcnpoaaGreatDoor.Ev

theorem word_ne {c : UInt8} {r : List UInt8} (h : nmC c = true) : word (c :: r) = c :: word r := by
  unfold word; rw [List.takeWhile_cons, h]; rfl

theorem nameL_len {f : Int → Bool} {w : List UInt8} (h : nameL f w = true) : w ≠ [] := by
  cases w with
  | nil => cases h
  | cons => simp
theorem numOk_len {w : List UInt8} (h : numOk w = true) : w ≠ [] := by
  cases w with
  | nil => cases h
  | cons => simp

/-- A token's text is not empty, and stands here. -/
theorem next_text {c : UInt8} {r : List UInt8} {x : Int × List UInt8} (h : next c r = some x) : x.2 ≠ [] ∧ ∃ t, c :: r = x.2 ++ t := by
  have wa : ∀ q : List UInt8, ∃ t, q = word q ++ t := fun q => ⟨after q, (word_after q).symm⟩
  unfold next at h
  simp only at h
  have one : ∀ {b : Bool} {y : Int × List UInt8}, (bif b then some y else none) = some x → b = true ∧ y = x := by
    intro b y hb; cases b
    · cases hb
    · exact ⟨rfl, by simpa using hb⟩
  cases h1 : smallB (c.toNat : Int) with
  | true =>
    rw [h1, cond_true] at h
    obtain ⟨h2, rfl⟩ := one h
    exact ⟨nameL_len h2, wa _⟩
  | false =>
    rw [h1, cond_false] at h
    cases h1 : capB (c.toNat : Int) with
    | true =>
      rw [h1, cond_true] at h
      obtain ⟨h2, rfl⟩ := one h
      exact ⟨nameL_len h2, wa _⟩
    | false =>
      rw [h1, cond_false] at h
      cases h1 : digB (c.toNat : Int) with
      | true =>
        rw [h1, cond_true] at h
        obtain ⟨h2, rfl⟩ := one h
        exact ⟨numOk_len h2, wa _⟩
      | false =>
        rw [h1, cond_false] at h
        have byt : ∀ {d : UInt8}, (c.toNat : Int) = (d.toNat : Int) → c = d := fun h => UInt8.toNat_inj.1 (by omega)
        cases h1 : ((c.toNat : Int) == 95) with
        | true =>
          rw [h1, cond_true] at h
          obtain ⟨h2, rfl⟩ := one h
          have : c = 95 := byt (by simpa using h1)
          subst this
          exact ⟨by simp, r, rfl⟩
        | false =>
          rw [h1, cond_false] at h
          cases h1 : ((c.toNat : Int) == 37) with
          | true =>
            rw [h1, cond_true] at h
            obtain ⟨h2, rfl⟩ := one h
            have : c = 37 := byt (by simpa using h1)
            subst this
            obtain ⟨t, ht⟩ := wa r
            refine ⟨by simp, t, ?_⟩
            show 37 :: r = 37 :: (word r ++ t)
            rw [← ht]
          | false =>
            rw [h1, cond_false] at h
            have b2 : ∀ {n : Int} {d : UInt8}, (byteAt r == n) = true → n = (d.toNat : Int) → n ≠ 0 → ∃ t, r = d :: t := by
              intro n d hb hn h0
              cases r with
              | nil => simp [byteAt] at hb; omega
              | cons e t =>
                simp only [byteAt, beq_iff_eq] at hb
                exact ⟨t, by rw [show e = d from UInt8.toNat_inj.1 (by omega)]⟩
            cases h1 : ((c.toNat : Int) == 45) with
            | true =>
              rw [h1, cond_true] at h
              have : c = 45 := byt (by simpa using h1)
              subst this
              cases h2 : (byteAt r == 62) with
              | true =>
                rw [h2] at h; cases h
                obtain ⟨t, rfl⟩ := b2 (d := 62) h2 rfl (by decide)
                exact ⟨by simp, t, rfl⟩
              | false => rw [h2] at h; cases h; exact ⟨by simp, r, rfl⟩
            | false =>
              rw [h1, cond_false] at h
              cases h1 : ((c.toNat : Int) == 60) with
              | true =>
                rw [h1, cond_true] at h
                obtain ⟨h2, rfl⟩ := one h
                have : c = 60 := byt (by simpa using h1)
                subst this
                obtain ⟨t, rfl⟩ := b2 (d := 45) h2 rfl (by decide)
                exact ⟨by simp, t, rfl⟩
              | false =>
                rw [h1, cond_false] at h
                obtain ⟨h2, rfl⟩ := one h
                exact ⟨by simp, r, rfl⟩

/-- The tokens of a rest, or where none begins. -/
def tk (N : Nat) : Nat → List UInt8 → List Tok ⊕ Int
  | 0, _ => .inl []
  | _ + 1, [] => .inl []
  | k + 1, c :: r =>
    match next c r with
    | none => .inr ((N : Int) - ((c :: r).length : Int))
    | some x =>
      match tk N k (skip ((c :: r).drop x.2.length) false) with
      | .inl ts => .inl (⟨x.1, mk x.2, (N : Int) - ((c :: r).length : Int)⟩ :: ts)
      | .inr p => .inr p

theorem big {n : Nat} (h : n ≤ 1000000) : n ≤ 140737488355328 := by omega

section
variable {l : List UInt8} (hl : l.length ≤ 1000000)

theorem drop_suffix {r : List UInt8} (n : Nat) (h : r <:+ l) : r.drop n <:+ l := (List.drop_suffix n r).trans h

theorem pos_drop {r : List UInt8} {n : Nat} (h : r <:+ l) (hn : n ≤ r.length) : pos l (r.drop n) = pos l r + n := by
  unfold pos; rw [List.length_drop]; omega

include hl

theorem app_fits {α : Type} {a : List α} {x : α} {r : List UInt8} (h : r <:+ l) (ha : a.length + r.length ≤ l.length) : decide ((a.length + [x].length) * 32 ≤ 140737488355328) = true := by
  simp; omega

/-- What the program does with a token that begins here. -/
theorem s28_6 : ∀ (n : Nat) {r : List UInt8} (acc : List Tok), r.length ≤ n → r <:+ l → acc.length + r.length ≤ l.length →
    Evt fun k => ∀ (ρ : Type) k0 k1, (Tabs k).l28_6_0 ρ (mk l) acc (mk l) (pos l r) k0 k1 =
      match tk l.length n r with | .inl ts => k0 (mk l) (acc ++ ts) | .inr p => k1 [] p 4
  | 0, [], acc, _, h, _ => Evt.step0 fun k ρ k0 k1 => by
    rw [show (Tabs (k + 1)).l28_6_0 = Gl28_6_0 (Tabs k) from rfl]
    unfold Gl28_6_0
    simp only [pos_end, cond_false, tk, List.append_nil]
  | n + 1, [], acc, _, h, _ => Evt.step0 fun k ρ k0 k1 => by
    rw [show (Tabs (k + 1)).l28_6_0 = Gl28_6_0 (Tabs k) from rfl]
    unfold Gl28_6_0
    simp only [pos_end, cond_false, tk, List.append_nil]
  | n + 1, c :: r, acc, hn, h, ha => by
    -- what is done with what a rule hands over
    have hcont : ∀ x : Int × List UInt8, next c r = some x → Evt fun k => ∀ (ρ : Type) k0 k1,
        (Tabs k).c65_0 ρ (mk l) (IntKind.wrap .i64 (pos l (c :: r) + ((mk x.2).size : Int))) (fun s p => (Tabs k).l28_6_0 ρ (mk l) (acc ++ [⟨x.1, mk x.2, pos l (c :: r)⟩]) s p k0 k1) =
        match tk l.length (n + 1) (c :: r) with | .inl ts => k0 (mk l) (acc ++ ts) | .inr p => k1 [] p 4 := by
      intro x hx
      obtain ⟨h1, t, h2⟩ := next_text hx
      have hlen : x.2.length ≤ (c :: r).length := by rw [h2]; simp
      have hpos : 0 < x.2.length := List.length_pos_iff.2 h1
      have hd := drop_suffix (l := l) x.2.length h
      have hs : skip ((c :: r).drop x.2.length) false <:+ l := (skip_suffix _ _).trans hd
      have hsl := (skip_suffix ((c :: r).drop x.2.length) false).length_le
      rw [List.length_drop] at hsl
      refine ((s65 (big hl) hd).and (s28_6 n (r := skip ((c :: r).drop x.2.length) false) (acc ++ [⟨x.1, mk x.2, pos l (c :: r)⟩]) (by omega) hs (by simp only [List.length_append, List.length_cons, List.length_nil]; omega))).mono fun k ⟨e1, e2⟩ ρ k0 k1 => ?_
      have hb := pos_bounds h
      have hp : IntKind.wrap .i64 (pos l (c :: r) + ((mk x.2).size : Int)) = pos l ((c :: r).drop x.2.length) := by
        rw [mk_size, pos_drop h hlen]
        have := pos_bounds hd
        rw [pos_drop h hlen] at this
        exact W_id (by omega) (by omega)
      rw [hp, e1, e2]
      simp only [tk, hx]
      cases tk l.length n (skip ((c :: r).drop x.2.length) false) with
      | inl ts => simp [pos]
      | inr p => rfl
    -- the branch that is taken
    have fin : ∀ {k : Nat} {ρ : Type} (k0 : ByteArray → List Tok → Option ρ) (k1 : List Tok → Int → Int → Option ρ) (o : Option (Int × List UInt8)), next c r = o →
        (∀ x : Int × List UInt8, next c r = some x → ∀ (ρ : Type) k0 k1,
          (Tabs k).c65_0 ρ (mk l) (IntKind.wrap .i64 (pos l (c :: r) + ((mk x.2).size : Int))) (fun s p => (Tabs k).l28_6_0 ρ (mk l) (acc ++ [⟨x.1, mk x.2, pos l (c :: r)⟩]) s p k0 k1) =
          match tk l.length (n + 1) (c :: r) with | .inl ts => k0 (mk l) (acc ++ ts) | .inr p => k1 [] p 4) →
        outP o (fun (r6 : Int) (r7 : ByteArray) => cond (strEq r7 (ByteArray.mk #[])) (k1 ([] : List Tok) (pos l (c :: r)) (4 : Int)) (cond (decide ((List.length acc + List.length [(⟨r6, r7, pos l (c :: r)⟩ : Tok)]) * 32 ≤ 140737488355328)) ((Tabs k).c65_0 ρ (mk l) (IntKind.wrap .i64 (pos l (c :: r) + (r7.size : Int))) (fun (r10 : ByteArray) (r11 : Int) => (Tabs k).l28_6_0 ρ (mk l) ((acc : List Tok) ++ ([(⟨r6, r7, pos l (c :: r)⟩ : Tok)] : List Tok)) r10 r11 k0 k1)) none)) =
        match tk l.length (n + 1) (c :: r) with | .inl ts => k0 (mk l) (acc ++ ts) | .inr p => k1 [] p 4 := by
      intro k ρ k0 k1 o ho hc
      cases o with
      | none =>
        simp only [outP, tk, ho]
        rw [show (ByteArray.mk #[]) = mk [] from rfl, strEq_mk]
        simp [pos]
      | some x =>
        obtain ⟨h1, t, h2⟩ := next_text ho
        simp only [outP]
        have he : strEq (mk x.2) (ByteArray.mk #[]) = false := by
          rw [show (ByteArray.mk #[]) = mk [] from rfl, strEq_mk]
          simpa using h1
        rw [he, app_fits hl h ha, hc x ho ρ k0 k1]
        rfl
    have hall : Evt fun k => ∀ x : Int × List UInt8, next c r = some x → ∀ (ρ : Type) k0 k1,
          (Tabs k).c65_0 ρ (mk l) (IntKind.wrap .i64 (pos l (c :: r) + ((mk x.2).size : Int))) (fun s p => (Tabs k).l28_6_0 ρ (mk l) (acc ++ [⟨x.1, mk x.2, pos l (c :: r)⟩]) s p k0 k1) =
          match tk l.length (n + 1) (c :: r) with | .inl ts => k0 (mk l) (acc ++ ts) | .inr p => k1 [] p 4 := by
      cases hx : next c r with
      | none => exact .pure fun k x h => by cases h
      | some y =>
        refine (hcont y hx).mono fun k h x e => ?_
        cases e
        exact h
    refine (hall.and (s66.and ((s105 (big hl) h).and ((s108 (big hl) h).and ((s110 (big hl) h).and ((s112 (big hl) h).and ((s113 (big hl) h).and ((s114 (big hl) h).and ((s115 (big hl) h).and (s116 (mk l) (pos l (c :: r)) c)))))))))).step fun k ⟨hc, e24, e40, e42, e44, e46, e47, e48, e49, e50⟩ ρ k0 k1 => ?_
    rw [show (Tabs (k + 1)).l28_6_0 = Gl28_6_0 (Tabs k) from rfl]
    unfold Gl28_6_0
    simp only [pos_ge h, pos_lt h, Bool.and_self, cond_true, bt_at h, e24, e40, e42, e44, e46, e47, e48, e49, e50]
    have hne : next c r = next c r := rfl
    conv at hne => lhs; unfold next
    simp only at hne
    cases h1 : smallB (c.toNat : Int) with
    | true =>
      rw [h1, cond_true] at hne
      simp only [cond_true]
      exact fin k0 k1 _ hne.symm hc
    | false =>
      rw [h1, cond_false] at hne
      simp only [cond_false]
      cases h1 : capB (c.toNat : Int) with
      | true =>
        rw [h1, cond_true] at hne
        simp only [cond_true]
        exact fin k0 k1 _ hne.symm hc
      | false =>
        rw [h1, cond_false] at hne
        simp only [cond_false]
        cases h1 : digB (c.toNat : Int) with
        | true =>
          rw [h1, cond_true] at hne
          simp only [cond_true]
          exact fin k0 k1 _ hne.symm hc
        | false =>
          rw [h1, cond_false] at hne
          simp only [cond_false]
          cases h1 : ((c.toNat : Int) == 95) with
          | true =>
            rw [h1, cond_true] at hne
            simp only [cond_true]
            exact fin k0 k1 _ hne.symm hc
          | false =>
            rw [h1, cond_false] at hne
            simp only [cond_false]
            cases h1 : ((c.toNat : Int) == 37) with
            | true =>
              rw [h1, cond_true] at hne
              simp only [cond_true]
              exact fin k0 k1 _ hne.symm hc
            | false =>
              rw [h1, cond_false] at hne
              simp only [cond_false]
              cases h1 : ((c.toNat : Int) == 45) with
              | true =>
                rw [h1, cond_true] at hne
                simp only [cond_true]
                exact fin k0 k1 _ hne.symm hc
              | false =>
                rw [h1, cond_false] at hne
                simp only [cond_false]
                cases h1 : ((c.toNat : Int) == 60) with
                | true =>
                  rw [h1, cond_true] at hne
                  simp only [cond_true]
                  exact fin k0 k1 _ hne.symm hc
                | false =>
                  rw [h1, cond_false] at hne
                  simp only [cond_false]
                  exact fin k0 k1 _ hne.symm hc

end
end Go.Proofs.YtanfoijdfcnpoaaGreatDoor.Ev


/- This file proves that the reference cuts a source into the same tokens as the program does; without any condition. -/
set_option linter.unusedVariables false
set_option linter.unusedSimpArgs false
namespace Go.Proofs.YtanfoijdfcnpoaaGreatDoor.Ev

def inR {ρ : Type} (o : Option (Int × List UInt8)) (p : Int) (tb : Tok) (K : Tok → Bool → Option ρ) : Option ρ :=
  match o with
  | some x => K ⟨x.1, mk x.2, p⟩ true
  | none => K tb false

theorem inR_bif {ρ : Type} (b : Bool) (n : Int) (w : List UInt8) (p : Int) (K : Tok → Bool → Option ρ) : inR (bif b then some (n, w) else none) p ⟨n, mk w, p⟩ K = K ⟨n, mk w, p⟩ b := by cases b <;> rfl

theorem nmC_of_let {c : UInt8} (h : letB (c.toNat : Int) = true) : nmC c = true := by unfold nmC nmB; rw [h]; rfl

theorem nameL_sub {f g : Int → Bool} {c : UInt8} {r : List UInt8} (hc : nmC c = true) (h : f (c.toNat : Int) = g (c.toNat : Int)) : nameL f (word (c :: r)) = nameL g (word (c :: r)) := by
  rw [word_ne hc]
  simp only [nameL, h]

theorem sign_eq (c : UInt8) (r : List UInt8) : (bif (c.toNat : Int) == 45 then (bif byteAt r == 62 then some (4, [45, 62]) else some (4, [45])) else bif (c.toNat : Int) == 60 then (bif byteAt r == 45 then some (4, [60, 45]) else none) else bif signs.contains c then some (4, [c]) else none) = signR c r := by
  have e : ∀ (c d : UInt8), (c == d) = ((c.toNat : Int) == (d.toNat : Int)) := by
    intro c d
    rw [Bool.eq_iff_iff]
    simp only [beq_iff_eq]
    constructor
    · rintro rfl; rfl
    · intro h; exact UInt8.toNat_inj.1 (by omega)
  have two : ∀ (a b : UInt8) (n : Int), (b.toNat : Int) = n → n ≠ 0 → ((c :: r).take 2 == [a, b]) = (((c.toNat : Int) == (a.toNat : Int)) && (byteAt r == n)) := by
    intro a b n hb h0
    cases r with
    | nil =>
      have : (byteAt [] == n) = false := by simp [byteAt]; omega
      rw [this, Bool.and_false]
      simp
    | cons d t =>
      simp only [List.take_succ_cons, List.take_zero, byteAt, ← hb]
      rw [← e, ← e]
      simp
  unfold signR
  rw [two 45 62 62 rfl (by decide), two 60 45 45 rfl (by decide)]
  have e45 : ((45 : UInt8).toNat : Int) = 45 := rfl
  have e60 : ((60 : UInt8).toNat : Int) = 60 := rfl
  rw [e45, e60]
  cases h1 : ((c.toNat : Int) == 45) with
  | true =>
    have hc : c = 45 := UInt8.toNat_inj.1 (by have : (c.toNat : Int) = 45 := by simpa using h1
                                              have h2 : (45 : UInt8).toNat = 45 := rfl
                                              omega)
    subst hc
    cases byteAt r == 62 <;> rfl
  | false =>
    cases h2 : ((c.toNat : Int) == 60) with
    | true =>
      have hc : c = 60 := UInt8.toNat_inj.1 (by have : (c.toNat : Int) = 60 := by simpa using h2
                                                have h2 : (60 : UInt8).toNat = 60 := rfl
                                                omega)
      subst hc
      cases byteAt r == 45 <;> rfl
    | false => rfl

section
variable {l : List UInt8} (hl : l.length ≤ 140737488355328)
include hl

end

section
variable {l : List UInt8} (hl : l.length ≤ 1000000)
include hl

end

/-! ### Whole sources -/

/-- The tokens of a source, the position and the error. -/
def toks (l : List UInt8) : List Tok × Int × Int :=
  bif decide (l.length ≤ 6000) then
    match tk l.length l.length (skip l false) with
    | .inl ts => (ts ++ [⟨7, mk [], (l.length : Int)⟩], 0, 0)
    | .inr p => ([], p, 4)
  else ([], 0, 5)

theorem tk_len (N : Nat) : ∀ (n : Nat) (r : List UInt8) (ts : List Tok), tk N n r = .inl ts → ts.length ≤ r.length
  | 0, r, ts, h => by simp only [tk, Sum.inl.injEq] at h; subst h; simp
  | n + 1, [], ts, h => by simp only [tk, Sum.inl.injEq] at h; subst h; simp
  | n + 1, c :: r, ts, h => by
    simp only [tk] at h
    cases hx : next c r with
    | none => rw [hx] at h; cases h
    | some x =>
      rw [hx] at h
      simp only at h
      obtain ⟨h1, t, h2⟩ := next_text hx
      have hpos : 0 < x.2.length := List.length_pos_iff.2 h1
      cases hk : tk N n (skip ((c :: r).drop x.2.length) false) with
      | inl us =>
        rw [hk] at h
        simp only [Sum.inl.injEq] at h
        subst h
        have := tk_len N n _ us hk
        have hsl := (skip_suffix ((c :: r).drop x.2.length) false).length_le
        rw [List.length_drop] at hsl
        simp only [List.length_cons] at *
        omega
      | inr p => rw [hk] at h; cases h

theorem size_big (l : List UInt8) : decide (((mk l).size : Int) > 6000) = !decide (l.length ≤ 6000) := by
  rw [mk_size]
  by_cases h : l.length ≤ 6000 <;> simp [h] <;> omega

theorem s28 (l : List UInt8) : Evt fun k => ∀ (ρ : Type) k0, (Tabs k).c28_0 ρ (mk l) k0 = k0 (toks l).1 (toks l).2.1 (toks l).2.2 := by
  by_cases h : l.length ≤ 6000
  · have hsk := skip_suffix l false
    have hle := hsk.length_le
    have h23 := s65 (l := l) (by omega) (List.suffix_refl l)
    rw [pos_all] at h23
    refine (h23.and (s28_6 (by omega) l.length [] hle hsk (by simpa using hle))).step fun k ⟨h1, h2⟩ ρ k0 => ?_
    rw [show (Tabs (k + 1)).c28_0 = Gc28_0 (Tabs k) from rfl]
    unfold Gc28_0
    simp only [size_big, h, decide_true, Bool.not_true, cond_false, cond_true, h1, h2, toks]
    cases ht : tk l.length l.length (skip l false) with
    | inl ts =>
      have := tk_len _ _ _ _ ht
      have hf : decide ((List.length ([] ++ ts) + List.length [(⟨7, ByteArray.mk #[], ((mk l).size : Int)⟩ : Tok)]) * 32 ≤ 140737488355328) = true := by simp; omega
      simp only [List.nil_append, mk_size] at hf ⊢
      rw [hf]; rfl
    | inr p => rfl
  · refine Evt.step0 fun k ρ k0 => ?_
    rw [show (Tabs (k + 1)).c28_0 = Gc28_0 (Tabs k) from rfl]
    unfold Gc28_0
    simp only [size_big, h, decide_false, Bool.not_false, cond_false, cond_true, toks]

end Go.Proofs.YtanfoijdfcnpoaaGreatDoor.Ev
