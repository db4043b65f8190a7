/- This file proves what the program's own scanner does with separators, and what names are, in the program and in the reference; without any condition. -/
import Derived.Test.YtdhpgcjhiommkaaDoorV1
set_option linter.unusedVariables false
set_option linter.unusedSimpArgs false
namespace Go.Proofs.YtdhpgcjhiommkaaDoor.Ev

theorem s38 : Evt fun k => ∀ (ρ : Type) s b k0, (Tabs k).c38_0 ρ s b k0 = k0 (Lib.indexByte s.data.toList b.toNat.toUInt8) := Evt.step0 fun k ρ s b k0 => rfl

theorem line_index : ∀ r : List UInt8, (Lib.indexByte r 10 < 0 → line r = []) ∧ (¬ Lib.indexByte r 10 < 0 → Lib.indexByte r 10 + (line r).length = r.length)
  | [] => ⟨fun _ => rfl, fun h => absurd (by decide) h⟩
  | c :: r => by
    have ih := line_index r
    have hg := Lib.indexByte_ge r 10
    unfold Lib.indexByte line
    rw [List.dropWhile_cons]
    cases hc : (c == 10) with
    | true =>
      simp only [beq_iff_eq] at hc
      subst hc
      simp
    | false =>
      have hi : ((c.toNat : Int) == 10) = false := by
        simp only [beq_eq_false_iff_ne] at hc ⊢
        intro h
        exact hc (UInt8.toNat_inj.1 (by have : (c.toNat : Int) = 10 := h; have h2 : (10 : UInt8).toNat = 10 := rfl; omega))
      simp only [hi, Bool.not_false, if_true, Bool.false_eq_true, if_false]
      cases h1 : (Lib.indexByte r 10 == -1) with
      | true =>
        simp only [beq_iff_eq] at h1
        refine ⟨fun _ => ih.1 (by omega), fun h => absurd (by simp) h⟩
      | false =>
        simp only [beq_eq_false_iff_ne, ne_eq] at h1
        simp only [Bool.false_eq_true, if_false]
        refine ⟨fun h => by omega, fun h => ?_⟩
        have := ih.2 (by omega)
        unfold line at this
        simp only [List.length_cons]
        omega

section
variable {l : List UInt8} (hl : l.length ≤ 140737488355328)

theorem extract_rest {r : List UInt8} (h : r <:+ l) : ByteArray.extract (mk l) (pos l r).toNat ((mk l).size : Int).toNat = mk r := by
  rw [mk_extract, mk_size]
  obtain ⟨p, rfl⟩ := h
  have : (pos (p ++ r) r).toNat = p.length := by unfold pos; simp
  rw [this, Int.toNat_natCast, List.take_of_length_le (Nat.le_refl _), List.drop_left]

include hl

/-- From a comment's place to its line's end. -/
theorem cut23 {r : List UInt8} (h : r <:+ l) {C : Tab} (h38 : ∀ (ρ : Type) s b k0, C.c38_0 ρ s b k0 = k0 (Lib.indexByte s.data.toList b.toNat.toUInt8)) (ρ : Type) (k0 : ByteArray → Int → Option ρ) :
    cond (decide ((0 : Int) ≤ pos l r) && (decide (pos l r ≤ ((mk l).size : Int)) && decide (((mk l).size : Int) ≤ ((mk l).size : Int))))
      (C.c38_0 ρ (ByteArray.extract (mk l) (Int.toNat (pos l r)) (Int.toNat ((mk l).size : Int))) (10 : Int) (fun (r6 : Int) => cond (decide (r6 < (0 : Int))) (C.l23_0_0 ρ (mk l) (IntKind.wrap .i64 (pos l r + (IntKind.wrap .i64 (((mk l).size : Int) - pos l r)))) k0) (C.l23_0_0 ρ (mk l) (IntKind.wrap .i64 (pos l r + r6)) k0))) none =
    C.l23_0_0 ρ (mk l) (pos l (line r)) k0 := by
  rw [pos_ge h, pos_le h, extract_rest h, h38]
  have hb := pos_bounds h
  have hs : ((mk l).size : Int) = l.length := by rw [mk_size]
  obtain ⟨h1, h2⟩ := line_index r
  have hlen := (line_suffix r).length_le
  have hsuf := suf_le h
  have hg := Lib.indexByte_ge r 10
  simp only [mk_list, Int.le_refl, decide_true, Bool.and_self, cond_true]
  have e10 : (10 : Int).toNat.toUInt8 = (10 : UInt8) := rfl
  rw [e10]
  by_cases hn : Lib.indexByte r 10 < 0
  · simp only [hn, decide_true, cond_true]
    have e1 : IntKind.wrap .i64 (((mk l).size : Int) - pos l r) = ((mk l).size : Int) - pos l r := W_id (by omega) (by omega)
    have e2 : pos l r + (((mk l).size : Int) - pos l r) = ((mk l).size : Int) := by omega
    rw [h1 hn, e1, e2, W_id (by omega) (by omega), pos_nil]
  · simp only [hn, decide_false, cond_false]
    have := h2 hn
    have e2 : pos l r + Lib.indexByte r 10 = pos l (line r) := by unfold pos; omega
    rw [W_id (by omega) (by omega), e2]

theorem s23_0 : ∀ (n : Nat) {r : List UInt8}, r.length ≤ n → r <:+ l → Evt fun k => ∀ (ρ : Type) k0, (Tabs k).l23_0_0 ρ (mk l) (pos l r) k0 = k0 (mk l) (pos l (skip r false))
  | _, [], _, h => Evt.step0 fun k ρ k0 => by
    show Gl23_0_0 (Tabs k) ρ (mk l) (pos l []) k0 = _
    unfold Gl23_0_0
    simp only [pos_end, cond_false]; rfl
  | n + 1, c :: r, hn, h => by
    have hr := suf_tail h
    simp only [List.length_cons] at hn
    have hd : line (c :: r) <:+ l := (line_suffix _).trans h
    cases hw : wsB (c.toNat : Int) with
    | true =>
      refine (s23_0 n (by omega) hr).step fun k h3 ρ k0 => ?_
      show Gl23_0_0 (Tabs k) ρ (mk l) (pos l (c :: r)) k0 = _
      unfold Gl23_0_0
      simp only [pos_ge h, pos_lt h, bt_at h, Bool.and_true, cond_true, pos_W h (by omega), h3, skip, hw, if_true]
      simp only [wsB] at hw
      cases h32 : ((c.toNat : Int) == 32)
      · cases h9 : ((c.toNat : Int) == 9)
        · cases h10 : ((c.toNat : Int) == 10)
          · cases h13 : ((c.toNat : Int) == 13)
            · rw [h32, h9, h10, h13] at hw; cases hw
            · simp
          · simp
        · simp
      · simp
    | false =>
      have hw2 := hw
      simp only [wsB, Bool.or_eq_false_iff] at hw2
      obtain ⟨w1, w2, w3, w4⟩ := hw2
      cases h37 : ((c.toNat : Int) == 37) with
      | false =>
        refine Evt.step0 fun k ρ k0 => ?_
        show Gl23_0_0 (Tabs k) ρ (mk l) (pos l (c :: r)) k0 = _
        unfold Gl23_0_0
        simp only [pos_ge h, pos_lt h, bt_at h, Bool.and_true, cond_true, cond_false, w1, w2, w3, w4, h37, skip, hw, Bool.false_and, Bool.false_eq_true, if_false]
      | true =>
        cases hcm : comm r with
        | true =>
          have hnl : ((c.toNat : Int) == 10) = false := w3
          have hln : line (c :: r) = line r := by unfold line; rw [List.dropWhile_cons]; simp [hnl]
          have hlen : (line (c :: r)).length ≤ n := by rw [hln]; have := (line_suffix r).length_le; omega
          refine ((s37 hl h).and (s38.and (s23_0 n hlen hd))).step fun k ⟨h1, h2, h3⟩ ρ k0 => ?_
          show Gl23_0_0 (Tabs k) ρ (mk l) (pos l (c :: r)) k0 = _
          unfold Gl23_0_0
          simp only [pos_ge h, pos_lt h, bt_at h, Bool.and_true, cond_true, cond_false, w1, w2, w3, w4, h37, h1]
          have hsk : skip (c :: r) false = skip (line (c :: r)) false := by
            simp only [skip, hw, h37, hcm, Bool.and_self, if_true, Bool.false_eq_true, if_false]
            rw [hln, skip_line]
          rw [hsk, ← h3 ρ k0]
          rw [← cut23 hl h h2 ρ k0]
          have eC := cut23 hl h h2 ρ k0
          rw [pos_ge h, Bool.true_and] at eC ⊢
          cases r with
          | nil =>
            have e : (IntKind.wrap .i64 (pos l [c] + 1) == ((mk l).size : Int)) = true := by rw [pos_W h (by omega), pos_nil]; simp
            simp only [e, cond_true]
          | cons d r' =>
            have e : (IntKind.wrap .i64 (pos l (c :: d :: r') + 1) == ((mk l).size : Int)) = false := by
              rw [pos_W h (by omega)]
              have := pos_lt hr
              simp only [decide_eq_true_eq] at this
              simp only [beq_eq_false_iff_ne]; omega
            simp only [e, cond_false]
            simp only [comm, wsB] at hcm
            cases d32 : ((d.toNat : Int) == 32)
            · cases d9 : ((d.toNat : Int) == 9)
              · cases d13 : ((d.toNat : Int) == 13)
                · cases d10 : ((d.toNat : Int) == 10)
                  · cases d37 : ((d.toNat : Int) == 37)
                    · rw [d32, d9, d13, d10, d37] at hcm; cases hcm
                    · simp only [cond_true, cond_false]
                  · simp only [cond_true, cond_false]
                · simp only [cond_true, cond_false]
              · simp only [cond_true, cond_false]
            · simp only [cond_true, cond_false]
        | false =>
          refine (s37 hl h).step fun k h1 ρ k0 => ?_
          show Gl23_0_0 (Tabs k) ρ (mk l) (pos l (c :: r)) k0 = _
          unfold Gl23_0_0
          simp only [pos_ge h, pos_lt h, bt_at h, Bool.and_true, cond_true, cond_false, w1, w2, w3, w4, h37, h1]
          simp only [skip, hw, h37, hcm, Bool.and_false, Bool.false_eq_true, if_false]
          cases r with
          | nil => cases hcm
          | cons d r' =>
            have e : (IntKind.wrap .i64 (pos l (c :: d :: r') + 1) == ((mk l).size : Int)) = false := by
              rw [pos_W h (by omega)]
              have := pos_lt hr
              simp only [decide_eq_true_eq] at this
              simp only [beq_eq_false_iff_ne]; omega
            simp only [comm, wsB, Bool.or_eq_false_iff] at hcm
            obtain ⟨⟨d1, d2, d3, d4⟩, d5⟩ := hcm
            simp only [e, d1, d2, d3, d4, d5, cond_false]

theorem s23 {r : List UInt8} (h : r <:+ l) : Evt fun k => ∀ (ρ : Type) k0, (Tabs k).c23_0 ρ (mk l) (pos l r) k0 = k0 (mk l) (pos l (skip r false)) := (s23_0 hl r.length (Nat.le_refl _) h).step fun k ih ρ k0 => by
  show Gc23_0 (Tabs k) ρ (mk l) (pos l r) k0 = _
  unfold Gc23_0
  exact ih ρ k0

end

/-! ### Names -/

/-- Whether this is a name of a kind. -/
def nameL (first : Int → Bool) : List UInt8 → Bool
  | [] => false
  | c :: r => decide ((c :: r).length ≤ 16) && (first (c.toNat : Int) && (c :: r).all nmC)

theorem all_after : ∀ r : List UInt8, (after r == []) = r.all nmC
  | [] => rfl
  | c :: r => by
    unfold after
    rw [List.dropWhile_cons, List.all_cons]
    cases hc : nmC c
    · simp
    · simp only [if_true, Bool.true_and]; exact all_after r

theorem s27_4 (w : List UInt8) (hw : w.length ≤ 16) : ∀ {r : List UInt8}, r <:+ w → Evt fun k => ∀ (ρ : Type) k0 k1, (Tabs k).l27_4_0 ρ (mk w) ((mk w).size : Int) (pos w r) k0 k1 = cond (r.all nmC) k0 (k1 false)
  | [], h => Evt.step0 fun k ρ k0 k1 => by
    show Gl27_4_0 (Tabs k) ρ (mk w) _ (pos w []) k0 k1 = _
    unfold Gl27_4_0
    simp only [pos_end, cond_false]; rfl
  | c :: r, h => (s56.and (s27_4 w hw (suf_tail h))).step fun k ⟨h1, ih⟩ ρ k0 k1 => by
    show Gl27_4_0 (Tabs k) ρ (mk w) _ (pos w (c :: r)) k0 k1 = _
    unfold Gl27_4_0
    simp only [pos_ge h, pos_lt h, bt_at h, Bool.and_true, cond_true, pos_W h (by omega), h1, ih, List.all_cons]
    show cond (!nmC c) _ _ = _
    cases nmC c <;> simp

theorem bt_head (c : UInt8) (r : List UInt8) : bt (mk (c :: r)) 0 = (c.toNat : Int) := by
  have := bt_at (l := c :: r) (List.suffix_refl (c :: r))
  rwa [pos_all] at this

theorem size_pos (c : UInt8) (r : List UInt8) : decide ((0 : Int) < ((mk (c :: r)).size : Int)) = true := by rw [mk_size]; simp

theorem s27_0 (w : List UInt8) : Evt fun k => ∀ (ρ : Type) k0, (Tabs k).c27_0 ρ (mk w) k0 = k0 (nameL smallB w) := by
  cases w with
  | nil => exact Evt.step0 fun k ρ k0 => rfl
  | cons c r =>
    by_cases hw : (c :: r).length ≤ 16
    · have h := s27_4 _ hw (List.suffix_refl (c :: r))
      rw [pos_all] at h
      refine (s28.and h).step fun k ⟨h1, h2⟩ ρ k0 => ?_
      rw [show (Tabs (k + 1)).c27_0 = Gc27_0 (Tabs k) from rfl]
      unfold Gc27_0
      have e1 : decide (((mk (c :: r)).size : Int) < 1) = false := by rw [mk_size]; simp; omega
      have e2 : decide (((mk (c :: r)).size : Int) > 16) = false := by rw [mk_size]; simp at hw ⊢; omega
      simp only [e1, e2, cond_false, size_pos, bt_head, h1, h2, nameL, hw, decide_true, Bool.true_and]
      cases smallB (c.toNat : Int) <;> cases (c :: r).all nmC <;> rfl
    · refine Evt.step0 fun k ρ k0 => ?_
      rw [show (Tabs (k + 1)).c27_0 = Gc27_0 (Tabs k) from rfl]
      unfold Gc27_0
      have e1 : decide (((mk (c :: r)).size : Int) < 1) = false := by rw [mk_size]; simp; omega
      have e2 : decide (((mk (c :: r)).size : Int) > 16) = true := by rw [mk_size]; simp at hw ⊢; omega
      simp only [e1, e2, cond_false, cond_true, nameL, hw, decide_false, Bool.false_and]

theorem s27_1 (w : List UInt8) : Evt fun k => ∀ (ρ : Type) k0, (Tabs k).c27_1 ρ (mk w) k0 = k0 (nameL capB w) := by
  cases w with
  | nil => exact Evt.step0 fun k ρ k0 => rfl
  | cons c r =>
    by_cases hw : (c :: r).length ≤ 16
    · have h := s27_4 _ hw (List.suffix_refl (c :: r))
      rw [pos_all] at h
      refine (s29.and h).step fun k ⟨h1, h2⟩ ρ k0 => ?_
      rw [show (Tabs (k + 1)).c27_1 = Gc27_1 (Tabs k) from rfl]
      unfold Gc27_1
      have e1 : decide (((mk (c :: r)).size : Int) < 1) = false := by rw [mk_size]; simp; omega
      have e2 : decide (((mk (c :: r)).size : Int) > 16) = false := by rw [mk_size]; simp at hw ⊢; omega
      simp only [e1, e2, cond_false, size_pos, bt_head, h1, h2, nameL, hw, decide_true, Bool.true_and]
      cases capB (c.toNat : Int) <;> cases (c :: r).all nmC <;> rfl
    · refine Evt.step0 fun k ρ k0 => ?_
      rw [show (Tabs (k + 1)).c27_1 = Gc27_1 (Tabs k) from rfl]
      unfold Gc27_1
      have e1 : decide (((mk (c :: r)).size : Int) < 1) = false := by rw [mk_size]; simp; omega
      have e2 : decide (((mk (c :: r)).size : Int) > 16) = true := by rw [mk_size]; simp at hw ⊢; omega
      simp only [e1, e2, cond_false, cond_true, nameL, hw, decide_false, Bool.false_and]

theorem s15 (w : List UInt8) : Evt fun k => ∀ (ρ : Type) k0, (Tabs k).c15_0 ρ (mk w) k0 = k0 (nameL smallB w) := (s27_0 w).step fun k ih ρ k0 => by
  show Gc15_0 (Tabs k) ρ _ k0 = _
  unfold Gc15_0
  exact ih ρ k0
theorem s16 (w : List UInt8) : Evt fun k => ∀ (ρ : Type) k0, (Tabs k).c16_0 ρ (mk w) k0 = k0 (nameL capB w) := (s27_1 w).step fun k ih ρ k0 => by
  show Gc16_0 (Tabs k) ρ _ k0 = _
  unfold Gc16_0
  exact ih ρ k0

theorem s30 (w : List UInt8) : Evt fun k => ∀ (ρ : Type) k0, (Tabs k).c30_0 ρ (mk w) k0 = k0 (nameL letB w) := by
  cases w with
  | nil => exact Evt.step0 fun k ρ k0 => rfl
  | cons c r =>
    by_cases hw : (c :: r).length ≤ 16
    · have h := s52 (l := c :: r) (by omega) (List.suffix_refl (c :: r))
      rw [pos_all] at h
      refine (s53.and h).step fun k ⟨h1, h2⟩ ρ k0 => ?_
      show Gc30_0 (Tabs k) ρ _ k0 = _
      unfold Gc30_0
      have e1 : decide (((mk (c :: r)).size : Int) ≥ 1) = true := by rw [mk_size]; simp; omega
      have e2 : decide (((mk (c :: r)).size : Int) ≤ 16) = true := by rw [mk_size]; simp at hw ⊢; omega
      have e3 : (pos (c :: r) (after (c :: r)) == ((mk (c :: r)).size : Int)) = (c :: r).all nmC := by
        rw [← all_after, mk_size]
        cases ha : after (c :: r) with
        | nil => simp [pos]
        | cons d t => simp [pos]; omega
      simp only [e1, e2, cond_true, size_pos, bt_head, h1, h2, e3, nameL, hw, decide_true, Bool.true_and]
      cases letB (c.toNat : Int) <;> rfl
    · refine Evt.step0 fun k ρ k0 => ?_
      show Gc30_0 (Tabs k) ρ _ k0 = _
      unfold Gc30_0
      have e1 : decide (((mk (c :: r)).size : Int) ≥ 1) = true := by rw [mk_size]; simp; omega
      have e2 : decide (((mk (c :: r)).size : Int) ≤ 16) = false := by rw [mk_size]; simp at hw ⊢; omega
      simp only [e1, e2, cond_false, cond_true, nameL, hw, decide_false, Bool.false_and]

theorem s17 (w : List UInt8) : Evt fun k => ∀ (ρ : Type) k0, (Tabs k).c17_0 ρ (mk w) k0 = k0 (nameL smallB w) := ((s30 w).and s31).step fun k ⟨h1, h2⟩ ρ k0 => by
  show Gc17_0 (Tabs k) ρ _ k0 = _
  unfold Gc17_0
  cases w with
  | nil => simp only [h1]; rfl
  | cons c r =>
    simp only [h1, h2, size_pos, bt_head, nameL, letB]
    cases decide ((c :: r).length ≤ 16) <;> cases (c :: r).all nmC <;> cases smallB (c.toNat : Int) <;> cases capB (c.toNat : Int) <;> rfl
theorem not_small {b : Int} (h : smallB b = true) : capB b = false := by
  simp only [smallB, capB, Bool.and_eq_true, decide_eq_true_eq] at *
  simp; omega
theorem s18 (w : List UInt8) : Evt fun k => ∀ (ρ : Type) k0, (Tabs k).c18_0 ρ (mk w) k0 = k0 (nameL capB w) := ((s30 w).and s31).step fun k ⟨h1, h2⟩ ρ k0 => by
  show Gc18_0 (Tabs k) ρ _ k0 = _
  unfold Gc18_0
  cases w with
  | nil => simp only [h1]; rfl
  | cons c r =>
    simp only [h1, h2, size_pos, bt_head, nameL, letB]
    cases hs : smallB (c.toNat : Int) with
    | true => rw [not_small hs]; cases decide ((c :: r).length ≤ 16) <;> cases (c :: r).all nmC <;> rfl
    | false => cases decide ((c :: r).length ≤ 16) <;> cases (c :: r).all nmC <;> cases capB (c.toNat : Int) <;> rfl

end Go.Proofs.YtdhpgcjhiommkaaDoor.Ev
