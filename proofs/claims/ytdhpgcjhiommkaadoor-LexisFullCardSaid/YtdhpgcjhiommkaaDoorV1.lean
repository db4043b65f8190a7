/- This file proves what the functions of layer 1 do that look at bytes, separators and words; without any condition. -/
import Derived.Test.YtdhpgcjhiommkaaDoorV0
set_option linter.unusedVariables false
set_option linter.unusedSimpArgs false
namespace Go.Proofs.YtdhpgcjhiommkaaDoor.Ev

theorem s28 : Evt fun k => ∀ (ρ : Type) b k0, (Tabs k).c28_0 ρ b k0 = k0 (smallB b) := Evt.step0 fun k ρ b k0 => by
  show Gc28_0 (Tabs k) ρ b k0 = _
  unfold Gc28_0 smallB
  cases decide (b ≥ 97) <;> rfl
theorem s31 : Evt fun k => ∀ (ρ : Type) b k0, (Tabs k).c31_0 ρ b k0 = k0 (smallB b) := Evt.step0 fun k ρ b k0 => by
  show Gc31_0 (Tabs k) ρ b k0 = _
  unfold Gc31_0 smallB
  cases decide (b ≥ 97) <;> rfl
theorem s29 : Evt fun k => ∀ (ρ : Type) b k0, (Tabs k).c29_0 ρ b k0 = k0 (capB b) := Evt.step0 fun k ρ b k0 => by
  show Gc29_0 (Tabs k) ρ b k0 = _
  unfold Gc29_0 capB
  cases decide (b ≥ 65) <;> rfl
theorem s43 : Evt fun k => ∀ (ρ : Type) b k0, (Tabs k).c43_0 ρ b k0 = k0 (digB b) := Evt.step0 fun k ρ b k0 => by
  show Gc43_0 (Tabs k) ρ b k0 = _
  unfold Gc43_0 digB
  cases decide (b ≥ 48) <;> rfl
theorem s53 : Evt fun k => ∀ (ρ : Type) b k0, (Tabs k).c53_0 ρ b k0 = k0 (letB b) := s31.step fun k h ρ b k0 => by
  show Gc53_0 (Tabs k) ρ b k0 = _
  unfold Gc53_0 letB capB
  rw [h]
  cases smallB b <;> cases decide (b ≥ 65) <;> rfl
theorem s56 : Evt fun k => ∀ (ρ : Type) b k0, (Tabs k).c56_0 ρ b k0 = k0 (nmB b) := (s28.and (s29.and s43)).step fun k ⟨h1, h2, h3⟩ ρ b k0 => by
  show Gc56_0 (Tabs k) ρ b k0 = _
  unfold Gc56_0 nmB letB
  simp only [h1, h2, h3]
  cases smallB b <;> cases capB b <;> cases digB b <;> cases (b == 95) <;> rfl
theorem s67 : Evt fun k => ∀ (ρ : Type) b k0, (Tabs k).c67_0 ρ b k0 = k0 (nmB b) := s53.step fun k h ρ b k0 => by
  show Gc67_0 (Tabs k) ρ b k0 = _
  unfold Gc67_0 nmB digB
  simp only [h]
  cases letB b <;> cases decide (b ≥ 48) <;> cases decide (b ≤ 57) <;> cases (b == 95) <;> rfl

/-! ### Separators and comments, in the reference -/

section
variable {l : List UInt8} (hl : l.length ≤ 140737488355328)
include hl

omit hl in
theorem s51 {r : List UInt8} (h : r <:+ l) : Evt fun k => ∀ (ρ : Type) k0, (Tabs k).c51_0 ρ (mk l) (pos l r) k0 = k0 (comm r) := Evt.step0 fun k ρ k0 => by
  show Gc51_0 (Tabs k) ρ (mk l) (pos l r) k0 = _
  unfold Gc51_0
  cases r with
  | nil => simp [pos_nil, comm]
  | cons c r =>
    have hne : (pos l (c :: r) == ((mk l).size : Int)) = false := by
      have := pos_lt h
      simp only [decide_eq_true_eq] at this
      simp only [beq_eq_false_iff_ne]; omega
    simp only [hne, pos_ge h, pos_lt h, bt_at h, Bool.and_true, cond_true, cond_false, comm, wsB]
    cases ((c.toNat : Int) == 32) <;> cases ((c.toNat : Int) == 9) <;> cases ((c.toNat : Int) == 10) <;> cases ((c.toNat : Int) == 13) <;> rfl

theorem s25_6 : ∀ {r : List UInt8}, r <:+ l → Evt fun k => ∀ (ρ : Type) k0, (Tabs k).l25_6_0 ρ (mk l) (pos l r) k0 = k0 (mk l) (pos l (line r))
  | [], h => Evt.step0 fun k ρ k0 => by
    show Gl25_6_0 (Tabs k) ρ (mk l) (pos l []) k0 = _
    unfold Gl25_6_0
    simp only [pos_end, cond_false]; rfl
  | c :: r, h => (s25_6 (suf_tail h)).step fun k ih ρ k0 => by
    show Gl25_6_0 (Tabs k) ρ (mk l) (pos l (c :: r)) k0 = _
    unfold Gl25_6_0
    simp only [pos_ge h, pos_lt h, bt_at h, Bool.and_true, cond_true, pos_W h (by omega), ih]
    unfold line
    rw [List.dropWhile_cons]
    cases hc : ((c.toNat : Int) == 10) with
    | true => simp [bne, hc]
    | false => simp [bne, hc]

theorem s25_1 : ∀ (n : Nat) {r : List UInt8}, r.length ≤ n → r <:+ l → Evt fun k => ∀ (ρ : Type) k0, (Tabs k).l25_1_0 ρ (mk l) (pos l r) k0 k0 = k0 (pos l (skip r false))
  | _, [], _, h => Evt.step0 fun k ρ k0 => by
    show Gl25_1_0 (Tabs k) ρ (mk l) (pos l []) k0 k0 = _
    unfold Gl25_1_0
    simp only [pos_end, cond_false]; rfl
  | n + 1, c :: r, hn, h => by
    have hr := suf_tail h
    simp only [List.length_cons] at hn
    have hd : line (c :: r) <:+ l := (line_suffix _).trans h
    cases hcm : ((c.toNat : Int) == 37 && comm r) with
    | true =>
      simp only [Bool.and_eq_true] at hcm
      obtain ⟨h37, hcm⟩ := hcm
      have hnl : ((c.toNat : Int) == 10) = false := by simp only [beq_iff_eq] at h37; rw [h37]; decide
      have hln : line (c :: r) = line r := by unfold line; rw [List.dropWhile_cons]; simp [hnl]
      have hlen : (line (c :: r)).length ≤ n := by rw [hln]; have := (line_suffix r).length_le; omega
      refine ((s51 hr).and ((s25_6 hl h).and (s25_1 n hlen hd))).step fun k ⟨h1, h2, h3⟩ ρ k0 => ?_
      show Gl25_1_0 (Tabs k) ρ (mk l) (pos l (c :: r)) k0 k0 = _
      unfold Gl25_1_0
      have hw : wsB (c.toNat : Int) = false := by simp only [beq_iff_eq] at h37; rw [h37]; decide
      have hw2 := hw
      simp only [wsB, Bool.or_eq_false_iff] at hw2
      obtain ⟨w1, w2, w3, w4⟩ := hw2
      simp only [pos_ge h, pos_lt h, bt_at h, Bool.and_true, cond_true, cond_false, pos_W h (by omega), w1, w2, w3, w4, h37, h1, hcm, h2, h3]
      simp only [skip, hw, h37, hcm, Bool.and_self, if_true, Bool.false_eq_true, if_false]
      rw [hln, skip_line]
    | false =>
      refine ((s51 hr).and (s25_1 n (by omega) hr)).step fun k ⟨h1, h3⟩ ρ k0 => ?_
      show Gl25_1_0 (Tabs k) ρ (mk l) (pos l (c :: r)) k0 k0 = _
      unfold Gl25_1_0
      simp only [pos_ge h, pos_lt h, bt_at h, Bool.and_true, cond_true, pos_W h (by omega), h1, h3, skip, wsB, hcm]
      cases h32 : ((c.toNat : Int) == 32)
      · cases h9 : ((c.toNat : Int) == 9)
        · cases h10 : ((c.toNat : Int) == 10)
          · cases h13 : ((c.toNat : Int) == 13)
            · cases h37 : ((c.toNat : Int) == 37)
              · simp
              · rw [h37, Bool.true_and] at hcm
                simp [hcm]
            · simp
          · simp
        · simp
      · simp

theorem s25 {r : List UInt8} (h : r <:+ l) : Evt fun k => ∀ (ρ : Type) k0, (Tabs k).c25_0 ρ (mk l) (pos l r) k0 = k0 (pos l (skip r false)) := (s25_1 hl r.length (Nat.le_refl _) h).step fun k ih ρ k0 => by
  show Gc25_0 (Tabs k) ρ (mk l) (pos l r) k0 = _
  unfold Gc25_0
  exact ih ρ k0

/-! ### Words -/

theorem s52_1 : ∀ {r : List UInt8}, r <:+ l → Evt fun k => ∀ (ρ : Type) k0, (Tabs k).l52_1_0 ρ (mk l) (pos l r) k0 = k0 (pos l (after r))
  | [], h => Evt.step0 fun k ρ k0 => by
    show Gl52_1_0 (Tabs k) ρ (mk l) (pos l []) k0 = _
    unfold Gl52_1_0
    simp only [pos_end, cond_false]; rfl
  | c :: r, h => (s67.and (s52_1 (suf_tail h))).step fun k ⟨h1, ih⟩ ρ k0 => by
    show Gl52_1_0 (Tabs k) ρ (mk l) (pos l (c :: r)) k0 = _
    unfold Gl52_1_0
    simp only [pos_ge h, pos_lt h, bt_at h, Bool.and_true, cond_true, pos_W h (by omega), h1, ih]
    unfold after
    rw [List.dropWhile_cons]
    show cond (nmC c) _ _ = _
    cases hc : nmC c <;> simp

theorem s52 {r : List UInt8} (h : r <:+ l) : Evt fun k => ∀ (ρ : Type) k0, (Tabs k).c52_0 ρ (mk l) (pos l r) k0 = k0 (pos l (after r)) := (s52_1 hl h).step fun k ih ρ k0 => by
  show Gc52_0 (Tabs k) ρ (mk l) (pos l r) k0 = _
  unfold Gc52_0
  exact ih ρ k0

theorem s41_2 : ∀ {r : List UInt8}, r <:+ l → Evt fun k => ∀ (ρ : Type) a b k0, (Tabs k).l41_2_0 ρ a (pos l r) (mk l) b k0 = k0 a (pos l (after r)) (mk l) b
  | [], h => Evt.step0 fun k ρ a b k0 => by
    show Gl41_2_0 (Tabs k) ρ a (pos l []) (mk l) b k0 = _
    unfold Gl41_2_0
    simp only [pos_end, cond_false]; rfl
  | c :: r, h => (s56.and (s41_2 (suf_tail h))).step fun k ⟨h1, ih⟩ ρ a b k0 => by
    show Gl41_2_0 (Tabs k) ρ a (pos l (c :: r)) (mk l) b k0 = _
    unfold Gl41_2_0
    simp only [pos_ge h, pos_lt h, bt_at h, Bool.and_true, cond_true, pos_W h (by omega), h1, ih]
    unfold after
    rw [List.dropWhile_cons]
    show cond (nmC c) _ _ = _
    cases hc : nmC c <;> simp

omit hl in
theorem word_bounds {r : List UInt8} (h : r <:+ l) : (decide ((0 : Int) ≤ pos l r) && (decide (pos l r ≤ pos l (after r)) && decide (pos l (after r) ≤ ((mk l).size : Int)))) = true := by
  have h2 := pos_le ((after_suffix r).trans h)
  rw [pos_ge h, h2]
  have := pos_after h
  simp; omega

/-- The word at a place (0), or behind it (1). -/
theorem s41_0 {r : List UInt8} (h : r <:+ l) : Evt fun k => ∀ (ρ : Type) k0, (Tabs k).c41_0 ρ 0 (mk l) (pos l r) k0 = k0 (mk (word r)) (mk l) (pos l r) := (s41_2 hl h).step fun k ih ρ k0 => by
  show Gc41_0 (Tabs k) ρ 0 (mk l) (pos l r) k0 = _
  unfold Gc41_0
  have hb := pos_bounds h
  have e : IntKind.wrap .i64 (pos l r + 0) = pos l r := by rw [Int.add_zero]; exact W_id (by omega) (by omega)
  simp only [e, ih, word_bounds h, cond_true, extract_word h]

theorem s41_1 {c : UInt8} {r : List UInt8} (h : c :: r <:+ l) : Evt fun k => ∀ (ρ : Type) k0, (Tabs k).c41_0 ρ 1 (mk l) (pos l (c :: r)) k0 = k0 (mk (word r)) (mk l) (pos l (c :: r)) := (s41_2 hl (suf_tail h)).step fun k ih ρ k0 => by
  show Gc41_0 (Tabs k) ρ 1 (mk l) (pos l (c :: r)) k0 = _
  unfold Gc41_0
  simp only [pos_W h (by omega), ih, word_bounds (suf_tail h), cond_true, extract_word (suf_tail h)]

/-- The byte behind a place. -/
theorem s37 {c : UInt8} {r : List UInt8} (h : c :: r <:+ l) : Evt fun k => ∀ (ρ : Type) k0, (Tabs k).c37_0 ρ 1 (mk l) (pos l (c :: r)) k0 = k0 (match r with | [] => 0 | d :: _ => (d.toNat : Int)) (mk l) (pos l (c :: r)) := Evt.step0 fun k ρ k0 => by
  show Gc37_0 (Tabs k) ρ 1 (mk l) (pos l (c :: r)) k0 = _
  unfold Gc37_0
  have hr := suf_tail h
  cases r with
  | nil => simp only [pos_W h (by omega), pos_nil]; simp
  | cons d r =>
    have hlt := pos_lt hr
    have hge : decide (pos l (d :: r) ≥ ((mk l).size : Int)) = false := by
      simp only [decide_eq_true_eq] at hlt
      simp only [decide_eq_false_iff_not]; omega
    simp only [pos_W h (by omega), hge, cond_false, pos_ge hr, hlt, Bool.and_self, cond_true, bt_at hr]

end
end Go.Proofs.YtdhpgcjhiommkaaDoor.Ev
