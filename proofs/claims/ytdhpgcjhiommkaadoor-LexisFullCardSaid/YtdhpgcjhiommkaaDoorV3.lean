/- This file proves that a number is the same in the program (Atoi, and Itoa back) and in the reference; without any condition. -/
import Derived.Test.YtdhpgcjhiommkaaDoorV2
set_option linter.unusedVariables false
set_option linter.unusedSimpArgs false
namespace Go.Proofs.YtdhpgcjhiommkaaDoor.Ev

/-- The value of digits. -/
def dig10 (a : Int) : List UInt8 → Option Int
  | [] => some a
  | c :: r => if digB (c.toNat : Int) = true then dig10 (10 * a + ((c.toNat : Int) - 48)) r else none

def numV (w : List UInt8) : Bool :=
  match dig10 0 w with
  | some v => decide (v ≤ 10000)
  | none => false

def numOk : List UInt8 → Bool
  | [] => false
  | c :: t => decide ((c :: t).length ≤ 5) && (!((c.toNat : Int) == 48 && !(t == [])) && numV (c :: t))

theorem u8_sub {c : UInt8} (h : digB (c.toNat : Int) = true) : IntKind.wrap .u8 ((c.toNat : Int) - 48) = (c.toNat : Int) - 48 := by
  simp only [digB, Bool.and_eq_true, decide_eq_true_eq] at h
  simp only [IntKind.wrap, IntKind.signed, IntKind.bits]
  simp
  omega

theorem s54_5 (w : List UInt8) (hw : w.length ≤ 5) : ∀ {r : List UInt8} {a : Int}, r <:+ w → 0 ≤ a → (a + 1) * 10 ^ r.length ≤ 100000 →
    Evt fun k => ∀ (ρ : Type) k0 k1, (Tabs k).l54_5_0 ρ (mk w) a (pos w r) k0 k1 = match dig10 a r with | some v => k1 v | none => k0 0 false
  | [], a, h, h0, hb => Evt.step0 fun k ρ k0 k1 => by
    show Gl54_5_0 (Tabs k) ρ (mk w) a (pos w []) k0 k1 = _
    unfold Gl54_5_0
    simp only [pos_end, cond_false]; rfl
  | c :: r, a, h, h0, hb => by
    have hr := suf_tail h
    cases hd : digB (c.toNat : Int) with
    | true =>
      have hd2 := hd
      simp only [digB, Bool.and_eq_true, decide_eq_true_eq] at hd2
      have hp : (1 : Int) ≤ 10 ^ r.length := by
        have := Nat.one_le_pow r.length 10 (by omega)
        exact_mod_cast this
      have hb2 : (a + 1) * 10 * 10 ^ r.length ≤ 100000 := by
        simp only [List.length_cons] at hb
        rw [Int.pow_succ, ← Int.mul_assoc] at hb
        rw [Int.mul_assoc, Int.mul_comm 10, ← Int.mul_assoc]; exact hb
      have hstep : (10 * a + ((c.toNat : Int) - 48) + 1) * 10 ^ r.length ≤ 100000 :=
        Int.le_trans (Int.mul_le_mul_of_nonneg_right (by omega) (by omega)) hb2
      have ha : (a + 1) * 10 ≤ 100000 := Int.le_trans (by
        have := Int.mul_le_mul_of_nonneg_left hp (show (0 : Int) ≤ (a + 1) * 10 by omega)
        omega) hb2
      refine (s54_5 w hw hr (a := 10 * a + ((c.toNat : Int) - 48)) (by omega) hstep).step fun k ih ρ k0 k1 => ?_
      show Gl54_5_0 (Tabs k) ρ (mk w) a (pos w (c :: r)) k0 k1 = _
      unfold Gl54_5_0
      have e1 : decide ((c.toNat : Int) < 48) = false := by simp; omega
      have e2 : decide ((c.toNat : Int) > 57) = false := by simp; omega
      have e3 : IntKind.wrap .i64 ((IntKind.wrap .i64 (10 * a)) + (IntKind.wrap .i64 (IntKind.wrap .u8 ((c.toNat : Int) - 48)))) = 10 * a + ((c.toNat : Int) - 48) := by
        rw [u8_sub hd, W_id (x := 10 * a) (by omega) (by omega), W_id (x := (c.toNat : Int) - 48) (by omega) (by omega), W_id (by omega) (by omega)]
      simp only [pos_ge h, pos_lt h, bt_at h, Bool.and_true, cond_true, cond_false, e1, e2, e3, pos_W h (by omega), ih, dig10, hd, if_true]
    | false =>
      refine Evt.step0 fun k ρ k0 k1 => ?_
      show Gl54_5_0 (Tabs k) ρ (mk w) a (pos w (c :: r)) k0 k1 = _
      unfold Gl54_5_0
      simp only [pos_ge h, pos_lt h, bt_at h, Bool.and_true, cond_true, cond_false, dig10, hd, Bool.false_eq_true, if_false]
      cases h1 : decide ((c.toNat : Int) < 48) with
      | true => rfl
      | false =>
        have e2 : decide ((c.toNat : Int) > 57) = true := by
          simp only [digB, Bool.and_eq_false_iff, decide_eq_false_iff_not] at hd
          simp only [decide_eq_false_iff_not] at h1
          simp only [decide_eq_true_eq]
          omega
        simp only [e2, cond_false, cond_true]

theorem s54 (w : List UInt8) : ∃ v, Evt fun k => ∀ (ρ : Type) k0, (Tabs k).c54_0 ρ (mk w) k0 = k0 v (numOk w) := by
  cases w with
  | nil => exact ⟨0, Evt.step0 fun k ρ k0 => rfl⟩
  | cons c t =>
    have e1 : decide (((mk (c :: t)).size : Int) < 1) = false := by rw [mk_size]; simp; omega
    by_cases hw : (c :: t).length ≤ 5
    · have e2 : decide (((mk (c :: t)).size : Int) > 5) = false := by rw [mk_size]; simp at hw ⊢; omega
      have hp : ((0 : Int) + 1) * 10 ^ (c :: t).length ≤ 100000 := by
        have : 10 ^ (c :: t).length ≤ 10 ^ 5 := Nat.pow_le_pow_right (by omega) hw
        have h2 : ((10 ^ (c :: t).length : Nat) : Int) ≤ ((10 ^ 5 : Nat) : Int) := by exact_mod_cast this
        simpa using h2
      have h := s54_5 (c :: t) hw (List.suffix_refl (c :: t)) (a := 0) (by omega) hp
      rw [pos_all] at h
      cases h48 : ((c.toNat : Int) == 48) && !(t == []) with
      | true =>
        refine ⟨0, Evt.step0 fun k ρ k0 => ?_⟩
        rw [show (Tabs (k + 1)).c54_0 = Gc54_0 (Tabs k) from rfl]
        unfold Gc54_0
        simp only [Bool.and_eq_true] at h48
        have e3 : decide (((mk (c :: t)).size : Int) > 1) = true := by
          rw [mk_size]
          cases t with
          | nil => simp at h48
          | cons d t => simp; omega
        simp only [e1, e2, e3, cond_false, cond_true, size_pos, bt_head, h48.1, numOk, hw, decide_true, Bool.true_and, h48.2, Bool.and_self, Bool.not_true, Bool.false_and]
        rfl
      | false =>
        refine ⟨(match dig10 0 (c :: t) with | some v => v | none => 0), h.step fun k ih ρ k0 => ?_⟩
        rw [show (Tabs (k + 1)).c54_0 = Gc54_0 (Tabs k) from rfl]
        unfold Gc54_0
        have fin : (match dig10 0 (c :: t) with | some v => k0 v (decide (v ≤ 10000)) | none => k0 0 false) = k0 (match dig10 0 (c :: t) with | some v => v | none => 0) (numOk (c :: t)) := by
          simp only [numOk, hw, decide_true, Bool.true_and, h48, Bool.not_false, numV]
          cases dig10 0 (c :: t) <;> rfl
        have dz : (decide ((0 : Int) ≤ 0)) = true := by decide
        simp only [e1, e2, cond_false, cond_true, dz, size_pos, Bool.and_self, bt_head, ih]
        rw [← fin]
        cases hc : ((c.toNat : Int) == 48) with
        | false => simp only [cond_false]
        | true =>
          rw [hc, Bool.true_and] at h48
          have ht : t = [] := by simpa using h48
          subst ht
          have e3 : decide (((mk [c]).size : Int) > 1) = false := by rw [mk_size]; simp
          simp only [e3, cond_true, cond_false]
    · refine ⟨0, Evt.step0 fun k ρ k0 => ?_⟩
      rw [show (Tabs (k + 1)).c54_0 = Gc54_0 (Tabs k) from rfl]
      unfold Gc54_0
      have e2 : decide (((mk (c :: t)).size : Int) > 5) = true := by rw [mk_size]; simp at hw ⊢; omega
      simp only [e1, e2, cond_false, cond_true, numOk, hw, decide_false, Bool.false_and]

/-! ### The program's way -/

def numP (w : List UInt8) : Bool :=
  match Lib.atoiAll w with
  | .ok v => decide (v ≥ 0) && (decide (v ≤ 10000) && (Lib.itoa v == w))
  | _ => false

theorem s45 (w : List UInt8) (hw : w.length ≤ 140737488355328) : Evt fun k => ∀ (ρ : Type) k0, (Tabs k).c45_0 ρ (mk w) k0 = k0 (numP w) := by
  have h65 : Evt fun k => ∀ (ρ : Type) s k0 k1, (Tabs k).c65_0 ρ s k0 k1 = toldAtoi s k0 k1 := Evt.step0 fun k ρ s k0 k1 => rfl
  have h66 : Evt fun k => ∀ (ρ : Type) s k0, (Tabs k).c66_0 ρ s k0 = toldItoa s k0 := Evt.step0 fun k ρ s k0 => rfl
  refine (h65.and h66).step fun k ⟨h1, h2⟩ ρ k0 => ?_
  rw [show (Tabs (k + 1)).c45_0 = Gc45_0 (Tabs k) from rfl]
  unfold Gc45_0
  have hs : decide ((mk w).size ≤ 140737488355328) = true := by rw [mk_size]; simp; omega
  simp only [h1, h2, toldAtoi, toldItoa, hs, cond_true, mk_list, numP]
  rcases ha : Lib.atoiAll w with v | _ | _
  · simp only
    by_cases h0 : v ≥ 0
    · by_cases h3 : v ≤ 10000
      · have b1 : decide (-9223372036854775808 ≤ v) = true := by simp; omega
        have b2 : decide (v ≤ 9223372036854775807) = true := by simp; omega
        simp only [h0, h3, decide_true, cond_true, b1, b2, Bool.and_self, Bool.true_and]
        rw [show (⟨(Lib.itoa v).toArray⟩ : ByteArray) = mk (Lib.itoa v) from rfl, strEq_mk]
      · simp [h0, h3]
    · simp [h0]
  · rfl
  · rfl

/-! ### Both are one -/

theorem dig10_append : ∀ (x y : List UInt8) (a : Int), dig10 a (x ++ y) = (dig10 a x).bind fun v => dig10 v y
  | [], y, a => rfl
  | c :: x, y, a => by
    simp only [List.cons_append, dig10]
    split
    · exact dig10_append x y _
    · rfl

theorem digit_of {d : Nat} (h : d < 10) : ((UInt8.ofNat (48 + d)).toNat : Int) = 48 + d := by
  have : (UInt8.ofNat (48 + d)).toNat = 48 + d := by
    rw [UInt8.toNat_ofNat']
    exact Nat.mod_eq_of_lt (by omega)
  omega

theorem dig10_digit {d : Nat} (h : d < 10) (a : Int) : dig10 a [UInt8.ofNat (48 + d)] = some (10 * a + d) := by
  have e := digit_of h
  simp only [dig10, digB, e]
  rw [if_pos (by simp; omega)]
  congr 1; omega

theorem decDigits_big {u : Nat} (h : ¬ u < 10) : Lib.decDigits u = Lib.decDigits (u / 10) ++ [UInt8.ofNat (48 + u % 10)] := by
  rw [Lib.decDigits, dif_neg h]

theorem dec_val (u : Nat) : dig10 0 (Lib.decDigits u) = some (u : Int) := by
  induction u using Nat.strongRecOn with
  | ind u ih =>
    by_cases h : u < 10
    · rw [Lib.decDigits_one h, dig10_digit h]; simp
    · rw [decDigits_big h, dig10_append, ih (u / 10) (by omega)]
      simp only [Option.bind_some]
      rw [dig10_digit (by omega)]
      congr 1; omega

theorem dec_len (k u : Nat) (h : u < 10 ^ (k + 1)) : (Lib.decDigits u).length ≤ k + 1 := by
  induction k generalizing u with
  | zero => rw [Lib.decDigits_one (by simpa using h)]; simp
  | succ k ih =>
    by_cases hu : u < 10
    · rw [Lib.decDigits_one hu]; simp
    · rw [decDigits_big hu, List.length_append]
      have := ih (u / 10) (by rw [Nat.pow_succ] at h; omega)
      simp; omega

theorem dec_head (u : Nat) (h : 0 < u) : ∃ c t, Lib.decDigits u = c :: t ∧ (c.toNat : Int) ≠ 48 := by
  induction u using Nat.strongRecOn with
  | ind u ih =>
    by_cases hu : u < 10
    · refine ⟨_, _, Lib.decDigits_one hu, ?_⟩
      rw [digit_of hu]; omega
    · obtain ⟨c, t, h1, h2⟩ := ih (u / 10) (by omega) (by omega)
      exact ⟨c, t ++ [UInt8.ofNat (48 + u % 10)], by rw [decDigits_big hu, h1]; rfl, h2⟩

theorem numOk_dec (u : Nat) (h : u ≤ 10000) : numOk (Lib.decDigits u) = true := by
  have hl := dec_len 4 u (by omega)
  have hv := dec_val u
  by_cases h0 : u = 0
  · subst h0
    rw [Lib.decDigits_one (by omega)]; rfl
  · obtain ⟨c, t, h1, h2⟩ := dec_head u (by omega)
    rw [h1] at hl hv ⊢
    have h3 : ((c.toNat : Int) == 48) = false := by simpa using h2
    simp only [numOk, hl, decide_true, h3, Bool.false_and, Bool.not_false, Bool.true_and, numV, hv]
    simp; omega

theorem dig_byte {c : UInt8} (h : digB (c.toNat : Int) = true) : ∃ d, d < 10 ∧ c = UInt8.ofNat (48 + d) ∧ c.toNat = 48 + d := by
  simp only [digB, Bool.and_eq_true, decide_eq_true_eq] at h
  refine ⟨c.toNat - 48, by omega, ?_, by omega⟩
  have : 48 + (c.toNat - 48) = c.toNat := by omega
  rw [this]; simp

theorem parse_dig : ∀ (w : List UInt8) (a : Nat) (v : Int), dig10 (a : Int) w = some v → (a + 1) * 10 ^ w.length ≤ 1000000 → ∃ u : Nat, v = u ∧ Lib.parseUint10 a w = .ok u
  | [], a, v, h, _ => by
    simp only [dig10, Option.some.injEq] at h
    exact ⟨a, h.symm, rfl⟩
  | c :: r, a, v, h, hb => by
    simp only [dig10] at h
    split at h
    · rename_i hd
      obtain ⟨d, h1, h2, h3⟩ := dig_byte hd
      have hp : 1 ≤ 10 ^ r.length := Nat.one_le_pow _ _ (by omega)
      have hb2 : (a + 1) * 10 * 10 ^ r.length ≤ 1000000 := by
        simp only [List.length_cons] at hb
        rw [Nat.pow_succ, ← Nat.mul_assoc] at hb
        rw [Nat.mul_assoc, Nat.mul_comm 10, ← Nat.mul_assoc]; exact hb
      have ha : (a + 1) * 10 ≤ 1000000 := Nat.le_trans (Nat.le_mul_of_pos_right _ hp) hb2
      have e : (10 * (a : Int) + ((c.toNat : Int) - 48)) = ((a * 10 + (c.toNat - 48) : Nat) : Int) := by omega
      rw [e] at h
      obtain ⟨u, h4, h5⟩ := parse_dig r _ v h (Nat.le_trans (Nat.mul_le_mul_right _ (by omega)) hb2)
      refine ⟨u, h4, ?_⟩
      simp only [Lib.parseUint10]
      rw [if_pos (by omega), if_neg (by omega), if_neg (by omega)]
      exact h5
    · cases h

theorem dec_of_dig : ∀ (n : Nat) (w : List UInt8) (u : Nat), w.length ≤ n → dig10 0 w = some (u : Int) → (∃ c t, w = c :: t ∧ ((c.toNat : Int) ≠ 48 ∨ t = [])) → Lib.decDigits u = w
  | 0, w, u, hn, _, ⟨c, t, hw, _⟩ => by subst hw; simp at hn
  | n + 1, w, u, hn, h, ⟨c, t, hw, hc⟩ => by
    rcases List.eq_nil_or_concat t with ht | ⟨x, d, ht⟩
    · subst ht; subst hw
      simp only [dig10] at h
      split at h
      · rename_i hd
        obtain ⟨d, h1, h2, h3⟩ := dig_byte hd
        have : u = d := by
          simp only [Option.some.injEq] at h
          omega
        subst this
        rw [Lib.decDigits_one h1, ← h2]
      · cases h
    · have hw2 : w = (c :: x) ++ [d] := by rw [hw, ht]; simp
      have hc48 : (c.toNat : Int) ≠ 48 := by
        rcases hc with hc | hc
        · exact hc
        · rw [hc] at ht; simp at ht
      rw [hw2, dig10_append] at h
      cases h1 : dig10 0 (c :: x) with
      | none => rw [h1] at h; cases h
      | some v1 =>
        rw [h1] at h
        simp only [Option.bind_some, dig10] at h
        split at h
        · rename_i hd
          obtain ⟨e, f1, f2, f3⟩ := dig_byte hd
          have hnn : ∀ (y : List UInt8) (a v : Int), 0 ≤ a → dig10 a y = some v → 0 ≤ v := by
            intro y
            induction y with
            | nil => intro a v ha hv; simp only [dig10, Option.some.injEq] at hv; omega
            | cons z y ih =>
              intro a v ha hv
              simp only [dig10] at hv
              split at hv
              · rename_i hz
                simp only [digB, Bool.and_eq_true, decide_eq_true_eq] at hz
                exact ih _ v (by omega) hv
              · cases hv
          have hv1 := hnn _ _ _ (Int.le_refl 0) h1
          obtain ⟨m, rfl⟩ := Int.eq_ofNat_of_zero_le hv1
          have hlen : (c :: x).length ≤ n := by
            rw [hw2] at hn; simp at hn ⊢; omega
          have ih := dec_of_dig n (c :: x) m hlen h1 ⟨c, x, rfl, .inl hc48⟩
          have hm : 0 < m := by
            rcases Nat.eq_zero_or_pos m with h0 | h0
            · exfalso
              subst h0
              rw [Lib.decDigits_one (by omega)] at ih
              simp at ih
              apply hc48
              rw [← ih.1]; rfl
            · exact h0
          simp only [Option.some.injEq] at h
          have hu : u = 10 * m + e := by omega
          have hbig : ¬ u < 10 := by omega
          rw [decDigits_big hbig, hw2]
          have q1 : u / 10 = m := by omega
          have q2 : u % 10 = e := by omega
          rw [q1, q2, ih, f2]
        · cases h

theorem num_eq (w : List UInt8) : numP w = numOk w := by
  rw [Bool.eq_iff_iff]
  constructor
  · intro h
    unfold numP at h
    split at h
    · rename_i v _
      simp only [Bool.and_eq_true, decide_eq_true_eq, beq_iff_eq] at h
      obtain ⟨h0, h1, h2⟩ := h
      obtain ⟨u, rfl⟩ := Int.eq_ofNat_of_zero_le h0
      rw [← h2]
      unfold Lib.itoa
      rw [if_neg (by omega)]
      exact numOk_dec _ (by omega)
    · cases h
  · intro h
    cases w with
    | nil => cases h
    | cons c t =>
      simp only [numOk, Bool.and_eq_true, decide_eq_true_eq] at h
      obtain ⟨h1, h2, h3⟩ := h
      unfold numV at h3
      split at h3
      · rename_i v hv
        simp only [decide_eq_true_eq] at h3
        have hb : ((0 : Nat) + 1) * 10 ^ (c :: t).length ≤ 1000000 := by
          have : 10 ^ (c :: t).length ≤ 10 ^ 5 := Nat.pow_le_pow_right (by omega) h1
          omega
        obtain ⟨u, rfl, hu⟩ := parse_dig (c :: t) 0 v (by simpa using hv) hb
        have hd : digB (c.toNat : Int) = true := by
          cases hd : digB (c.toNat : Int) with
          | true => rfl
          | false => simp only [dig10, hd, Bool.false_eq_true, if_false] at hv; cases hv
        obtain ⟨d, f1, f2, f3⟩ := dig_byte hd
        have hdec := dec_of_dig _ (c :: t) u (Nat.le_refl _) hv ⟨c, t, rfl, by
          simp only [Bool.not_eq_true', Bool.and_eq_false_iff, beq_eq_false_iff_ne, ne_eq, Bool.not_eq_false', beq_iff_eq] at h2
          exact h2⟩
        have ha : Lib.atoiAll (c :: t) = .ok (u : Int) := by
          unfold Lib.atoiAll
          simp only
          rw [if_neg (by omega)]
          unfold Lib.parseMag
          rw [if_neg (by simp), hu]
          simp only
          have hn : ¬ c.toNat = 45 := by omega
          rw [if_neg (by omega), if_neg (by omega), if_neg hn]
        unfold numP
        rw [ha]
        simp only
        unfold Lib.itoa
        rw [if_neg (by omega)]
        simp only [Int.toNat_natCast, hdec]
        simp; omega
      · cases h3

end Go.Proofs.YtdhpgcjhiommkaaDoor.Ev
