/- This file proves what LexisPlaces and LexisWalks answer, for strings that fit the machine. -/
import Derived.Test.YtdhpgcjhiommkaaDoorV7
set_option linter.unusedVariables false
set_option linter.unusedSimpArgs false
namespace Go.Proofs.YtdhpgcjhiommkaaDoor.Ev

def stp (q : Int × Int) (c : UInt8) : Int × Int := bif (c.toNat : Int) == 10 then (q.1 + 1, 1) else (q.1, q.2 + 1)
/-- The line and the column behind these bytes. -/
def lc (p : List UInt8) : Int × Int := p.foldl stp (1, 1)

theorem lc_snoc (p : List UInt8) (c : UInt8) : lc (p ++ [c]) = stp (lc p) c := by simp [lc, List.foldl_append]

theorem drop_cons {l : List UInt8} {n : Nat} (h : n < l.length) : ∃ c r, l.drop n = c :: r ∧ l[n]? = some c := by
  exact ⟨l[n], l.drop (n + 1), List.drop_eq_getElem_cons h, List.getElem?_eq_getElem h⟩

theorem take_snoc {l : List UInt8} {n : Nat} {c : UInt8} (h : l[n]? = some c) : l.take (n + 1) = l.take n ++ [c] := by
  rw [List.take_add_one, h]; rfl

theorem lc_bound (l : List UInt8) : ∀ n, n ≤ l.length → 1 ≤ (lc (l.take n)).1 ∧ (lc (l.take n)).1 ≤ n + 1 ∧ 1 ≤ (lc (l.take n)).2 ∧ (lc (l.take n)).2 ≤ n + 1
  | 0, _ => by simp [lc]
  | n + 1, h => by
    obtain ⟨c, r, hd, hc⟩ := drop_cons (l := l) (n := n) (by omega)
    have ih := lc_bound l n (by omega)
    rw [take_snoc hc, lc_snoc]
    unfold stp
    cases ((c.toNat : Int) == 10) <;> simp only [cond_true, cond_false] <;> omega

theorem byte10 (c : UInt8) : ((c.toNat : Int) == 10) = (c == 10) := by
  rw [Bool.eq_iff_iff]
  simp only [beq_iff_eq]
  constructor
  · intro h; exact UInt8.toNat_inj.1 (by have h2 : (10 : UInt8).toNat = 10 := rfl
                                         omega)
  · rintro rfl; rfl

theorem lc_count (l : List UInt8) : ∀ n, n ≤ l.length → (lc (l.take n)).1 = 1 + ((l.take n).count 10 : Nat)
  | 0, _ => by simp [lc]
  | n + 1, h => by
    obtain ⟨c, r, hd, hc⟩ := drop_cons (l := l) (n := n) (by omega)
    have ih := lc_count l n (by omega)
    rw [take_snoc hc, lc_snoc, List.count_append, List.count_cons, List.count_nil]
    unfold stp
    rw [byte10]
    cases (c == 10)
    · simp [ih]
    · simp [ih]; omega

theorem lc_last (l : List UInt8) : ∀ n, n ≤ l.length → (n : Int) - Lib.lastIdx (mk l) 10 n = (lc (l.take n)).2
  | 0, _ => by simp [lc, Lib.lastIdx]
  | n + 1, h => by
    obtain ⟨c, r, hd, hc⟩ := drop_cons (l := l) (n := n) (by omega)
    have ih := lc_last l n (by omega)
    have hg : (mk l).data[n]! = c := by
      show l.toArray[n]! = c
      rw [getElem!_def]
      simp [hc]
    rw [take_snoc hc, lc_snoc]
    unfold stp Lib.lastIdx
    rw [hg]
    by_cases h10 : (c.toNat : Int) = 10
    · rw [if_pos h10]
      have : ((c.toNat : Int) == 10) = true := by simpa using h10
      rw [this]; simp only [cond_true]; omega
    · rw [if_neg h10]
      have : ((c.toNat : Int) == 10) = false := by simpa using h10
      rw [this]; simp only [cond_false]; omega

/-- The line, the column and the error at a place. -/
def plc (l : List UInt8) (a : Int) : Int × Int × Int :=
  bif decide (a < 0) || decide (a > (l.length : Int)) then (0, 0, 2) else ((lc (l.take a.toNat)).1, (lc (l.take a.toNat)).2, 0)

section
variable {l : List UInt8} (hl : l.length ≤ 140737488355328)
include hl

theorem s21 (a : Int) : Evt fun k => ∀ (ρ : Type) k0, (Tabs k).c21_0 ρ (mk l) a k0 = k0 (plc l a).1 (plc l a).2.1 (plc l a).2.2 := by
  have h35 : Evt fun k => ∀ (ρ : Type) s t k0, (Tabs k).c35_0 ρ s t k0 = toldCount s t k0 := Evt.step0 fun k ρ s t k0 => rfl
  have h36 : Evt fun k => ∀ (ρ : Type) s b k0, (Tabs k).c36_0 ρ s b k0 = toldLastIndexByte s b k0 := Evt.step0 fun k ρ s t k0 => rfl
  refine (h35.and h36).step fun k ⟨h1, h2⟩ ρ k0 => ?_
  rw [show (Tabs (k + 1)).c21_0 = Gc21_0 (Tabs k) from rfl]
  unfold Gc21_0 plc
  rw [mk_size]
  by_cases h3 : a < 0
  · simp [h3]
  by_cases h4 : a > (l.length : Int)
  · simp [h3, h4]
  have h5 : 0 ≤ a := by omega
  have h6 : a ≤ (l.length : Int) := by omega
  obtain ⟨n, rfl⟩ := Int.eq_ofNat_of_zero_le h5
  have hn : n ≤ l.length := by omega
  have hx : ByteArray.extract (mk l) (Int.toNat 0) n = mk (l.take n) := by
    rw [mk_extract]; simp
  have hlen : (l.take n).length = n := by rw [List.length_take]; omega
  have hc : Lib.countByte (l.take n) 10 = (l.take n).count 10 := rfl
  have hli : (n : Int) - Lib.lastIndexByte (mk (l.take n)) 10 = (lc (l.take n)).2 := by
    have := lc_last (l.take n) n (by omega)
    rw [List.take_of_length_le (by omega : (l.take n).length ≤ n)] at this
    unfold Lib.lastIndexByte
    rw [mk_size, hlen]
    exact this
  have hcn := lc_count l n hn
  have hb := lc_bound l n hn
  have hsz : decide ((mk (l.take n)).size < 4611686018427387904) = true := by rw [mk_size, hlen]; simp; omega
  simp only [h3, h4, decide_false, cond_false, h5, h6, decide_true, Int.le_refl, Bool.and_self, Bool.or_self, cond_true, hx, h1, h2, toldCount, toldLastIndexByte, mk_list, hc, hsz, Int.toNat_natCast]
  rw [← hcn, W_id (by omega) (by omega), hli, W_id (by omega) (by omega)]

theorem s22_5 (m : Nat) (hm : m ≤ l.length) : ∀ (d n : Nat), n + d = m → Evt fun k => ∀ (ρ : Type) k0, (Tabs k).l22_5_0 ρ (mk l) (m : Int) (lc (l.take n)).1 (lc (l.take n)).2 (n : Int) k0 = k0 (lc (l.take m)).1 (lc (l.take m)).2
  | 0, n, h => Evt.step0 fun k ρ k0 => by
    have : n = m := by omega
    subst this
    rw [show (Tabs (k + 1)).l22_5_0 = Gl22_5_0 (Tabs k) from rfl]
    unfold Gl22_5_0
    simp
  | d + 1, n, h => by
    obtain ⟨c, r, hd, hc⟩ := drop_cons (l := l) (n := n) (by omega)
    have ih := s22_5 m hm d (n + 1) (by omega)
    refine ih.step fun k ih ρ k0 => ?_
    rw [show (Tabs (k + 1)).l22_5_0 = Gl22_5_0 (Tabs k) from rfl]
    unfold Gl22_5_0
    have hs : c :: r <:+ l := by rw [← hd]; exact List.drop_suffix n l
    have hp : pos l (c :: r) = (n : Int) := by rw [← hd]; unfold pos; rw [List.length_drop]; omega
    have hbt : bt (mk l) (n : Int) = (c.toNat : Int) := by rw [← hp]; exact bt_at hs
    have e1 : decide ((n : Int) < (m : Int)) = true := by simp; omega
    have e2 : decide ((0 : Int) ≤ (n : Int)) = true := by simp
    have e3 : decide ((n : Int) < ((mk l).size : Int)) = true := by rw [mk_size]; simp; omega
    have hb := lc_bound l n (by omega)
    have e4 : IntKind.wrap .i64 ((n : Int) + 1) = ((n + 1 : Nat) : Int) := by rw [W_id (by omega) (by omega)]; omega
    have e5 : IntKind.wrap .i64 ((lc (l.take n)).1 + 1) = (lc (l.take n)).1 + 1 := W_id (by omega) (by omega)
    have e6 : IntKind.wrap .i64 ((lc (l.take n)).2 + 1) = (lc (l.take n)).2 + 1 := W_id (by omega) (by omega)
    have hst : lc (l.take (n + 1)) = stp (lc (l.take n)) c := by rw [take_snoc hc, lc_snoc]
    simp only [e1, e2, e3, Bool.and_self, cond_true, hbt, e4, e5, e6]
    rw [hst] at ih
    unfold stp at ih
    cases h10 : ((c.toNat : Int) == 10) with
    | true => rw [h10] at ih; simp only [cond_true] at ih ⊢; exact ih ρ k0
    | false => rw [h10] at ih; simp only [cond_false] at ih ⊢; exact ih ρ k0

theorem s22 (a : Int) : Evt fun k => ∀ (ρ : Type) k0, (Tabs k).c22_0 ρ (mk l) a k0 = k0 (plc l a).1 (plc l a).2.1 (plc l a).2.2 := by
  by_cases h3 : a < 0
  · refine Evt.step0 fun k ρ k0 => ?_
    rw [show (Tabs (k + 1)).c22_0 = Gc22_0 (Tabs k) from rfl]
    unfold Gc22_0 plc
    simp [h3]
  by_cases h4 : a > (l.length : Int)
  · refine Evt.step0 fun k ρ k0 => ?_
    rw [show (Tabs (k + 1)).c22_0 = Gc22_0 (Tabs k) from rfl]
    unfold Gc22_0 plc
    rw [mk_size]
    simp [h3, h4]
  obtain ⟨n, rfl⟩ := Int.eq_ofNat_of_zero_le (by omega : 0 ≤ a)
  refine (s22_5 hl n (by omega) n 0 (by omega)).step fun k ih ρ k0 => ?_
  rw [show (Tabs (k + 1)).c22_0 = Gc22_0 (Tabs k) from rfl]
  unfold Gc22_0 plc
  rw [mk_size]
  simp only [h3, h4, decide_false, cond_false, Bool.or_self, Int.toNat_natCast]
  exact ih ρ _

end

theorem places_law (s : ByteArray) (n : Int) (h : s.size ≤ 140737488355328) : Evt fun k => ∀ (ρ : Type) K, (Tabs k).c9_0 ρ s n K = K true := by
  rw [mk_of s] at h ⊢
  generalize s.data.toList = l at *
  rw [mk_size] at h
  refine ((s21 h n).and ((s22 h n).and awake_ok)).step fun k ⟨h1, h2, h3⟩ ρ K => ?_
  rw [show (Tabs (k + 1)).c9_0 = Gc9_0 (Tabs k) from rfl]
  unfold Gc9_0
  simp only [h1, h2, h3, beq_self_eq_true, cond_true]

theorem plc_in {l : List UInt8} {n : Nat} (h : n ≤ l.length) : plc l (n : Int) = ((lc (l.take n)).1, (lc (l.take n)).2, 0) := by
  unfold plc
  have e1 : decide ((n : Int) < 0) = false := by simp
  have e2 : decide ((n : Int) > (l.length : Int)) = false := by simp; omega
  rw [e1, e2]; rfl

theorem walks_law (s : ByteArray) (n : Int) (h : s.size ≤ 140737488355328) : Evt fun k => ∀ (ρ : Type) K, (Tabs k).c10_0 ρ s n K = K true := by
  rw [mk_of s] at h ⊢
  generalize s.data.toList = l at *
  rw [mk_size] at h
  have h0 := s21 h ((0 : Nat) : Int)
  rw [plc_in (Nat.zero_le _)] at h0
  have hz : lc (l.take 0) = (1, 1) := rfl
  rw [hz] at h0
  by_cases hl : l = []
  · subst hl
    refine (h0.and awake_ok).step fun k ⟨h1, h2⟩ ρ K => ?_
    rw [show (Tabs (k + 1)).c10_0 = Gc10_0 (Tabs k) from rfl]
    unfold Gc10_0
    have e : (((mk []).size : Int) == 0) = true := by rw [mk_size]; rfl
    have h1' := h1 ρ
    simp only [Int.natCast_zero, Int.ofNat_eq_natCast] at h1'
    refine (h1' _).trans ?_
    simp only [bne_self_eq_false, cond_false, e, cond_true, h2]
  · have hpos : 0 < l.length := List.length_pos_iff.2 hl
    obtain ⟨m, hm, hmod⟩ : ∃ m : Nat, m < l.length ∧ IntKind.wrap .i64 (Int.tmod (IntKind.wrap .u64 n) (IntKind.wrap .u64 ((mk l).size : Int))) = (m : Int) := by
      have e1 : IntKind.wrap .u64 ((mk l).size : Int) = (l.length : Int) := by
        rw [mk_size]
        simp only [IntKind.wrap, IntKind.signed, IntKind.bits]
        simp
        omega
      have e2 : 0 ≤ IntKind.wrap .u64 n := by
        simp only [IntKind.wrap, IntKind.signed, IntKind.bits]
        simp
        omega
      rw [e1]
      have h1 := Int.tmod_nonneg (l.length : Int) e2
      have h2 := Int.tmod_lt_of_pos (IntKind.wrap .u64 n) (show (0 : Int) < (l.length : Int) by omega)
      obtain ⟨m, hm⟩ := Int.eq_ofNat_of_zero_le h1
      refine ⟨m, by omega, ?_⟩
      rw [hm]
      exact W_id (by omega) (by omega)
    have ha := s21 h ((m : Nat) : Int)
    have hb := s21 h ((m + 1 : Nat) : Int)
    rw [plc_in (by omega)] at ha hb
    obtain ⟨c, r, hd, hc⟩ := drop_cons (l := l) (n := m) hm
    have hst : lc (l.take (m + 1)) = stp (lc (l.take m)) c := by rw [take_snoc hc, lc_snoc]
    have hbd := lc_bound l m (by omega)
    refine (h0.and (ha.and (hb.and awake_ok))).step fun k ⟨h1, h2, h3, h4⟩ ρ K => ?_
    rw [show (Tabs (k + 1)).c10_0 = Gc10_0 (Tabs k) from rfl]
    unfold Gc10_0
    have e0 : (((mk l).size : Int) == 0) = false := by rw [mk_size]; simp; omega
    have e1 : (IntKind.wrap .u64 ((mk l).size : Int) == 0) = false := by
      have : IntKind.wrap .u64 ((mk l).size : Int) = (l.length : Int) := by
        rw [mk_size]
        simp only [IntKind.wrap, IntKind.signed, IntKind.bits]
        simp
        omega
      rw [this]; simp; omega
    have h1' := h1 ρ
    simp only [Int.natCast_zero, Int.ofNat_eq_natCast] at h1'
    refine (h1' _).trans ?_
    have hs : c :: r <:+ l := by rw [← hd]; exact List.drop_suffix m l
    have hp : pos l (c :: r) = (m : Int) := by rw [← hd]; unfold pos; rw [List.length_drop]; omega
    have hbt : bt (mk l) (m : Int) = (c.toNat : Int) := by rw [← hp]; exact bt_at hs
    have e2 : decide ((0 : Int) ≤ (m : Int)) = true := by simp
    have e3 : decide ((m : Int) < ((mk l).size : Int)) = true := by rw [mk_size]; simp; omega
    have e4 : IntKind.wrap .i64 ((m : Int) + 1) = ((m + 1 : Nat) : Int) := by rw [W_id (by omega) (by omega)]; omega
    have e5 : IntKind.wrap .i64 ((lc (l.take m)).1 + 1) = (lc (l.take m)).1 + 1 := W_id (by omega) (by omega)
    have e6 : IntKind.wrap .i64 ((lc (l.take m)).2 + 1) = (lc (l.take m)).2 + 1 := W_id (by omega) (by omega)
    simp only [bne_self_eq_false, cond_false, e0, e1, hmod, h2, e4, h3, e2, e3, Bool.and_self, cond_true, hbt, hst, stp, e5, e6]
    cases h10 : ((c.toNat : Int) == 10) with
    | true => simp only [cond_true, beq_self_eq_true, h4]
    | false => simp only [cond_false, beq_self_eq_true, cond_true, h4]

end Go.Proofs.YtdhpgcjhiommkaaDoor.Ev
