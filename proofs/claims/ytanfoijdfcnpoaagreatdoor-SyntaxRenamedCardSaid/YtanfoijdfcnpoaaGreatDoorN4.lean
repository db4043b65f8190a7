/- This file proves what the reference's Rename computes, and what SyntaxRenames answers; without any condition. -/
import Derived.Test.YtanfoijdfcnpoaaGreatDoorN3
import Derived.Test.YtanfoijdfcnpoaaGreatDoorR1
set_option linter.unusedVariables false
set_option linter.unusedSimpArgs false
namespace Go.Proofs.YtanfoijdfcnpoaaGreatDoor.Ev

/-! ### Digits -/

theorem one_K {ρ : Type} (n : Int) (f : ByteArray → Option ρ) : bytesK [n] f = f (mk [UInt8.ofNat n.toNat]) := rfl

theorem digK {ρ : Type} (u : Nat) (f : ByteArray → Option ρ) : bytesK [IntKind.wrap .u8 (IntKind.wrap .i64 ((48 : Int) + Int.tmod (u : Int) (10 : Int)))] f = f (mk [UInt8.ofNat (48 + u % 10)]) := by
  have h1 : Int.tmod (u : Int) 10 = ((u % 10 : Nat) : Int) := by rw [Int.tmod_eq_emod_of_nonneg (by omega)]; omega
  have h2 : IntKind.wrap .i64 ((48 : Int) + ((u % 10 : Nat) : Int)) = ((48 + u % 10 : Nat) : Int) := by rw [W_id (by omega) (by omega)]; omega
  have h3 : IntKind.wrap .u8 ((48 + u % 10 : Nat) : Int) = ((48 + u % 10 : Nat) : Int) % 256 := rfl
  rw [one_K, h1, h2, h3, show (((48 + u % 10 : Nat) : Int) % 256).toNat = 48 + u % 10 by omega]

theorem tdiv10 (u : Nat) (h : u ≤ 10000) : IntKind.wrap .i64 (Int.tdiv (u : Int) (10 : Int)) = ((u / 10 : Nat) : Int) := by
  rw [Int.tdiv_eq_ediv_of_nonneg (by omega), W_id (by omega) (by omega)]; omega

theorem catd_ok {x y : List UInt8} (h : x.length + y.length ≤ 1000000000) : decide ((mk x).size + (mk y).size ≤ 9223372036854775807) = true := by
  rw [mk_size, mk_size]; simp only [decide_eq_true_eq]; omega

theorem digits_loop (u : Nat) : u ≤ 10000 → Evt fun k => ∀ (w : List UInt8), w.length + u ≤ 20000 → ∀ (ρ : Type) k0, (Tabs k).l86_2_0 ρ (u : Int) (mk w) k0 = k0 (mk ((if u < 10 then [] else Lib.decDigits (u / 10)) ++ w)) := by
  induction u using Nat.strongRecOn with
  | ind u ih =>
    intro hu
    by_cases h : u < 10
    · refine Evt.step0 fun k w hw ρ k0 => ?_
      rw [show (Tabs (k + 1)).l86_2_0 = Gl86_2_0 (Tabs k) from rfl]
      have e : decide ((u : Int) ≥ 10) = false := by simp; omega
      simp only [Gl86_2_0, e, cond_false, h, if_true, List.nil_append]
    · refine (ih (u / 10) (by omega) (by omega)).step fun k h1 w hw ρ k0 => ?_
      rw [show (Tabs (k + 1)).l86_2_0 = Gl86_2_0 (Tabs k) from rfl]
      have e : decide ((u : Int) ≥ 10) = true := by simp; omega
      simp only [Gl86_2_0, e, cond_true, tdiv10 u hu, digK, show (((10 : Int)) == 0) = false from rfl, cond_false]
      rw [catd_ok (by simp; omega), cond_true, mk_append, h1 _ (by simp; omega)]
      congr 2
      simp only [h, if_false]
      by_cases h2 : u / 10 < 10
      · simp only [h2, if_true, List.nil_append]
        rw [Lib.decDigits_one h2, Nat.mod_eq_of_lt h2]
      · simp only [h2, if_false]
        rw [dec_big h2]; simp

theorem s_digits (u : Nat) (hu : u ≤ 10000) : Evt fun k => ∀ (ρ : Type) K, (Tabs k).c86_0 ρ (u : Int) K = K (mk (Lib.decDigits u)) := by
  refine (digits_loop u hu).step fun k h1 ρ K => ?_
  rw [show (Tabs (k + 1)).c86_0 = Gc86_0 (Tabs k) from rfl]
  simp only [Gc86_0, show (((10 : Int)) == 0) = false from rfl, cond_false, digK]
  rw [h1 _ (by simp; omega)]
  congr 2
  by_cases h : u < 10
  · simp only [h, if_true, List.nil_append]
    rw [Lib.decDigits_one h, Nat.mod_eq_of_lt h]
  · simp only [h, if_false]
    rw [dec_big h]

/-! ### The reference: renamed -/

theorem rfresh_loop (f t : ByteArray) (u : List ByteArray) (hu : u.length ≤ 1000) : ∀ (j n : Nat), n + j ≤ 9000 → frN (hasB u) j n < n + j →
    Evt fun k => ∀ (b1 b2 : Bool) (r1 r2 r3 r4 : Rw) (ρ : Type) K, (Tabs k).l46_9_0 ρ f t u b1 b2 (n : Int) r1 r2 r3 r4 K = K f t u b1 b2 (frN (hasB u) j n : Int) r1 r2 r3 r4
  | 0, n, hn, h => by simp only [frN] at h; omega
  | j + 1, n, hn, h => by
    have hlen := dec_len5 4 n (by omega)
    simp only [frN] at h ⊢
    cases hU : hasB u (mk (vn n)) with
    | false =>
      simp only [cond_false]
      refine ((s_digits n (by omega)).and (s_has (mk (vn n)) u (by omega))).step fun k ⟨h1, h2⟩ b1 b2 r1 r2 r3 r4 ρ K => ?_
      rw [show (Tabs (k + 1)).l46_9_0 = Gl46_9_0 (Tabs k) from rfl]
      unfold Gl46_9_0
      rw [show mk (vn n) = mk (118 :: Lib.decDigits n) from rfl] at h2 hU
      simp only [h1, catv_ok _ (show (Lib.decDigits n).length ≤ 1000 by omega), cond_true, catv, h2, hU, cond_false, Rw.eta]
    | true =>
      rw [hU] at h
      simp only [cond_true] at h ⊢
      refine ((s_digits n (by omega)).and ((s_has (mk (vn n)) u (by omega)).and (rfresh_loop f t u hu j (n + 1) (by omega) (by omega)))).step fun k ⟨h1, h2, h3⟩ b1 b2 r1 r2 r3 r4 ρ K => ?_
      rw [show (Tabs (k + 1)).l46_9_0 = Gl46_9_0 (Tabs k) from rfl]
      unfold Gl46_9_0
      have hw : IntKind.wrap .i64 ((n : Int) + 1) = ((n + 1 : Nat) : Int) := by rw [W_id (by omega) (by omega)]; omega
      rw [show mk (vn n) = mk (118 :: Lib.decDigits n) from rfl] at h2 hU
      simp only [h1, catv_ok _ (show (Lib.decDigits n).length ≤ 1000 by omega), cond_true, catv, h2, hU, Rw.eta, hw, h3]

theorem frR_le (u : List ByteArray) (hu : u.length ≤ 1000) : frR u < 1 + 2000 ∧ frR u ≤ 1001 := by
  obtain ⟨j, j1, j2, j3⟩ := fresh_ex u 1
  obtain ⟨a1, a2, a3, a4⟩ := frN_spec (hasB u) 2000 1
  have : frN (hasB u) 2000 1 ≤ j := by
    rcases Nat.lt_or_ge j (frN (hasB u) 2000 1) with q | q
    · rw [a3 j j1 q] at j3; cases j3
    · exact q
  unfold frR
  omega

theorem s_rFree (e : Xp) (h : e.sz ≤ 900) : Evt fun k => ∀ (ρ : Type) (k0 k1 : List ByteArray → Option ρ) (v : Option ρ), k0 (e.free [] []) = v → k1 (e.free [] []) = v → (Tabs k).c85_0 ρ e.rw k0 k1 = v :=
  (s_rfree e [] [] (by simp; omega) (by simp; omega)).step fun k h ρ k0 k1 v h0 h1 => by
    rw [show (Tabs (k + 1)).c85_0 = Gc85_0 (Tabs k) from rfl]
    simp only [Gc85_0, Rw.eta]
    exact h.1 ρ _ _ v h0 h1

theorem s_rnd (f t : ByteArray) : ∀ (e : Xp) (u : List ByteArray), u.length + e.sz ≤ 900 → Evt fun k => ∀ (ρ : Type) K, (Tabs k).c46_0 ρ e.rw f t u K = K (e.rnd f t u).1.rw (e.rnd f t u).2
  | .ty, u, h => Evt.step0 fun k ρ K => by
    rw [show (Tabs (k + 1)).c46_0 = Gc46_0 (Tabs k) from rfl]
    show Gc46_0 (Tabs k) ρ (⟨1, tNo, []⟩ : Rw) f t u K = _
    have el : ((((List.length ([] : List Rw) : Nat)) : Int) == 0) = true := rfl
    simp only [Gc46_0, el, cond_true]
    rfl
  | .hole, u, h => Evt.step0 fun k ρ K => by
    rw [show (Tabs (k + 1)).c46_0 = Gc46_0 (Tabs k) from rfl]
    show Gc46_0 (Tabs k) ρ (⟨3, tNo, []⟩ : Rw) f t u K = _
    have el : ((((List.length ([] : List Rw) : Nat)) : Int) == 0) = true := rfl
    simp only [Gc46_0, el, cond_true]
    rfl
  | .nm w, u, h => Evt.step0 fun k ρ K => by
    rw [show (Tabs (k + 1)).c46_0 = Gc46_0 (Tabs k) from rfl]
    show Gc46_0 (Tabs k) ρ (⟨2, mk w, []⟩ : Rw) f t u K = _
    have el : ((((List.length ([] : List Rw) : Nat)) : Int) == 0) = true := rfl
    simp only [Gc46_0, el, cond_true]
    rfl
  | .app a b, u, h => by
    simp only [Xp.sz] at h
    have hl := rnd_len f t a u
    refine ((s_rnd f t a u (by omega)).and (s_rnd f t b (a.rnd f t u).2 (by omega))).step fun k ⟨ha, hb⟩ ρ K => ?_
    rw [show (Tabs (k + 1)).c46_0 = Gc46_0 (Tabs k) from rfl]
    show Gc46_0 (Tabs k) ρ (⟨4, tNo, [a.rw, b.rw]⟩ : Rw) f t u K = _
    have el : ((((List.length [a.rw, b.rw] : Nat)) : Int) == 0) = false := rfl
    have i0 : (decide ((0 : Int) ≤ 0) && decide ((0 : Int) < ((List.length [a.rw, b.rw] : Nat) : Int))) = true := rfl
    have i1 : (decide ((0 : Int) ≤ 1) && decide ((1 : Int) < ((List.length [a.rw, b.rw] : Nat) : Int))) = true := rfl
    unfold Gc46_0
    dsimp only
    simp only [Int.reduceBEq, cond_false, el, i0, i1, cond_true, rdRw0, rdRw1, Rw.eta, ha, hb, Bool.not_false]
    rfl
  | .arr a b, u, h => by
    simp only [Xp.sz] at h
    have hl := rnd_len f t a u
    refine ((s_rnd f t a u (by omega)).and (s_rnd f t b (a.rnd f t u).2 (by omega))).step fun k ⟨ha, hb⟩ ρ K => ?_
    rw [show (Tabs (k + 1)).c46_0 = Gc46_0 (Tabs k) from rfl]
    show Gc46_0 (Tabs k) ρ (⟨6, tNo, [a.rw, b.rw]⟩ : Rw) f t u K = _
    have el : ((((List.length [a.rw, b.rw] : Nat)) : Int) == 0) = false := rfl
    have i0 : (decide ((0 : Int) ≤ 0) && decide ((0 : Int) < ((List.length [a.rw, b.rw] : Nat) : Int))) = true := rfl
    have i1 : (decide ((0 : Int) ≤ 1) && decide ((1 : Int) < ((List.length [a.rw, b.rw] : Nat) : Int))) = true := rfl
    unfold Gc46_0
    dsimp only
    simp only [Int.reduceBEq, cond_false, el, i0, i1, cond_true, rdRw0, rdRw1, Rw.eta, ha, hb, Bool.not_false]
    rfl
  | .bnd l w a b, u, h => by
    simp only [Xp.sz] at h
    have el : ((((List.length [a.rw, b.rw] : Nat)) : Int) == 0) = false := rfl
    have i0 : (decide ((0 : Int) ≤ 0) && decide ((0 : Int) < ((List.length [a.rw, b.rw] : Nat) : Int))) = true := rfl
    have i1 : (decide ((0 : Int) ≤ 1) && decide ((1 : Int) < ((List.length [a.rw, b.rw] : Nat) : Int))) = true := rfl
    have hfl := free_len b [] []
    simp only [List.length_nil, Nat.zero_add] at hfl
    cases hc : strEq (mk w) t && (!strEq f t && hasB (b.free [] []) f) with
    | false =>
      have hl := rnd_len f t a u
      refine ((s_rnd f t a u (by omega)).and ((s_rnd f t b (a.rnd f t u).2 (by omega)).and ((s_rFree b (by omega)).and (s_has f (b.free [] []) (by omega))))).step fun k ⟨ha, hb, hF, hH⟩ ρ K => ?_
      rw [show (Tabs (k + 1)).c46_0 = Gc46_0 (Tabs k) from rfl]
      cases l
      · show Gc46_0 (Tabs k) ρ (⟨5, mk w, [a.rw, b.rw]⟩ : Rw) f t u K = _
        unfold Gc46_0
        dsimp only
        simp only [Int.reduceBEq, cond_false, el, i0, i1, cond_true, rdRw0, rdRw1, Rw.eta, ha, hb, Xp.rnd, hc, Bool.not_true, Bool.not_false]
        cases h1 : strEq (mk w) t with
        | false => simp only [cond_false]; cases strEq (mk w) f <;> rfl
        | true =>
          cases h2 : strEq f t with
          | true => simp only [cond_true, Bool.not_true, cond_false]; cases strEq (mk w) f <;> rfl
          | false =>
            rw [h1, h2] at hc
            simp only [Bool.true_and, Bool.not_false] at hc
            simp only [cond_true, Bool.not_false]
            refine hF ρ _ _ _ ?_ ?_
            · simp only [hH, hc, cond_false]; cases strEq (mk w) f <;> rfl
            · simp only [hH, hc, cond_false]; cases strEq (mk w) f <;> rfl
      · show Gc46_0 (Tabs k) ρ (⟨7, mk w, [a.rw, b.rw]⟩ : Rw) f t u K = _
        unfold Gc46_0
        dsimp only
        simp only [Int.reduceBEq, cond_false, el, i0, i1, cond_true, rdRw0, rdRw1, Rw.eta, ha, hb, Xp.rnd, hc, Bool.not_true, Bool.not_false]
        cases h1 : strEq (mk w) t with
        | false => simp only [cond_false]; cases strEq (mk w) f <;> rfl
        | true =>
          cases h2 : strEq f t with
          | true => simp only [cond_true, Bool.not_true, cond_false]; cases strEq (mk w) f <;> rfl
          | false =>
            rw [h1, h2] at hc
            simp only [Bool.true_and, Bool.not_false] at hc
            simp only [cond_true, Bool.not_false]
            refine hF ρ _ _ _ ?_ ?_
            · simp only [hH, hc, cond_false]; cases strEq (mk w) f <;> rfl
            · simp only [hH, hc, cond_false]; cases strEq (mk w) f <;> rfl
    | true =>
      have h1 : strEq (mk w) t = true := by revert hc; cases strEq (mk w) t <;> simp
      have hc2 := hc
      rw [h1, Bool.true_and] at hc2
      have h2 : strEq f t = false := by revert hc2; cases strEq f t <;> simp
      have h3 := hc2
      rw [h2] at h3
      simp only [Bool.not_false, Bool.true_and] at h3
      have h4 : strEq (mk w) f = false := by rw [strEq_iff.1 h1, strEq_comm]; exact h2
      obtain ⟨q1, q2⟩ := frR_le u (by omega)
      have hlen := dec_len5 4 (frR u) (by omega)
      have hl := rnd_len f t a (u ++ [mk (vn (frR u))])
      simp only [List.length_append, List.length_cons, List.length_nil] at hl
      have e0 : decide ((List.length ([] : List ByteArray) + List.length u) * 16 ≤ 140737488355328) = true := by simp only [decide_eq_true_eq, List.length_nil]; omega
      have e1 : decide ((List.length u + List.length [mk (118 :: Lib.decDigits (frR u))]) * 16 ≤ 140737488355328) = true := by simp only [decide_eq_true_eq, List.length_cons, List.length_nil]; omega
      refine ((s_rnd f t a (u ++ [mk (vn (frR u))]) (by simp; omega)).and ((s_rnd f t b (a.rnd f t (u ++ [mk (vn (frR u))])).2 (by omega)).and ((s_rFree b (by omega)).and ((s_has f (b.free [] []) (by omega)).and
        ((rfresh_loop f t u (by omega) 2000 1 (by omega) q1).and ((s_digits (frR u) (by omega)).and (s_put t (mk (vn (frR u))) (b.rnd f t (a.rnd f t (u ++ [mk (vn (frR u))])).2).1))))))).step fun k ⟨ha, hb, hF, hH, hL, hD, hP⟩ ρ K => ?_
      rw [show (Tabs (k + 1)).c46_0 = Gc46_0 (Tabs k) from rfl]
      have hL' : ∀ (b1 b2 : Bool) (r1 r2 r3 r4 : Rw) (ρ : Type) K, (Tabs k).l46_9_0 ρ f t u b1 b2 1 r1 r2 r3 r4 K = K f t u b1 b2 (frR u : Int) r1 r2 r3 r4 := fun b1 b2 r1 r2 r3 r4 ρ K => hL b1 b2 r1 r2 r3 r4 ρ K
      rw [show mk (vn (frR u)) = mk (118 :: Lib.decDigits (frR u)) from rfl] at ha hb hP
      have hx : (Xp.bnd l w a b).rnd f t u = (.bnd l (118 :: Lib.decDigits (frR u)) (a.rnd f t (u ++ [mk (118 :: Lib.decDigits (frR u))])).1 ((b.rnd f t (a.rnd f t (u ++ [mk (118 :: Lib.decDigits (frR u))])).2).1.put t (mk (118 :: Lib.decDigits (frR u)))),
          (b.rnd f t (a.rnd f t (u ++ [mk (118 :: Lib.decDigits (frR u))])).2).2) := by
        simp only [Xp.rnd, hc, cond_true]; rfl
      rw [hx]
      cases l
      · show Gc46_0 (Tabs k) ρ (⟨5, mk w, [a.rw, b.rw]⟩ : Rw) f t u K = _
        unfold Gc46_0
        dsimp only
        simp only [Int.reduceBEq, cond_false, el, i0, i1, cond_true, rdRw0, rdRw1, Rw.eta, h1, h2, Bool.not_true, Bool.not_false]
        refine hF ρ _ _ _ ?_ ?_
        · simp only [hH, h3, cond_true, hL', hD, catv_ok _ (show (Lib.decDigits (frR u)).length ≤ 1000 by omega), catv, e0, e1, i0, i1, rdRw0, rdRw1, Rw.eta, List.nil_append, ha, hb, hP, h4, Bool.not_false, Bool.not_true, cond_false]
          rfl
        · simp only [hH, h3, cond_true, hL', hD, catv_ok _ (show (Lib.decDigits (frR u)).length ≤ 1000 by omega), catv, e0, e1, i0, i1, rdRw0, rdRw1, Rw.eta, List.nil_append, ha, hb, hP, h4, Bool.not_false, Bool.not_true, cond_false]
          rfl
      · show Gc46_0 (Tabs k) ρ (⟨7, mk w, [a.rw, b.rw]⟩ : Rw) f t u K = _
        unfold Gc46_0
        dsimp only
        simp only [Int.reduceBEq, cond_false, el, i0, i1, cond_true, rdRw0, rdRw1, Rw.eta, h1, h2, Bool.not_true, Bool.not_false]
        refine hF ρ _ _ _ ?_ ?_
        · simp only [hH, h3, cond_true, hL', hD, catv_ok _ (show (Lib.decDigits (frR u)).length ≤ 1000 by omega), catv, e0, e1, i0, i1, rdRw0, rdRw1, Rw.eta, List.nil_append, ha, hb, hP, h4, Bool.not_false, Bool.not_true, cond_false]
          rfl
        · simp only [hH, h3, cond_true, hL', hD, catv_ok _ (show (Lib.decDigits (frR u)).length ≤ 1000 by omega), catv, e0, e1, i0, i1, rdRw0, rdRw1, Rw.eta, List.nil_append, ha, hb, hP, h4, Bool.not_false, Bool.not_true, cond_false]
          rfl

theorem s_rRename (f t : ByteArray) (e : Xp) (h : e.sz ≤ 400) : Evt fun k => ∀ (ρ : Type) K, (Tabs k).c15_0 ρ e.rw f t K = K (((e.rnd f t (e.rnames [f, t])).1.put f t).rw) := by
  have hl := rnames_len e [f, t]
  simp only [List.length_cons, List.length_nil] at hl
  refine ((s_rnames e [f, t] (by simp; omega)).and ((s_rnd f t e (e.rnames [f, t]) (by omega)).and (s_put f t (e.rnd f t (e.rnames [f, t])).1))).step fun k ⟨h1, h2, h3⟩ ρ K => ?_
  rw [show (Tabs (k + 1)).c15_0 = Gc15_0 (Tabs k) from rfl]
  simp only [Gc15_0, Rw.eta, h1.1, h2, h3]

/-! ### Names, in both -/

theorem addN_has (o : List ByteArray) (y x : ByteArray) (hx : strEq x tNo = false) : hasB (addN o y) x = (hasB o x || strEq x y) := by
  unfold addN
  cases hy : strEq y tNo with
  | true =>
    have := strEq_iff.1 hy; subst this
    simp only [cond_true, hx, Bool.or_false]
  | false =>
    simp only [cond_false]
    cases hh : hasB o y with
    | false => simp only [cond_false, hasB_app, hasB_one]
    | true =>
      simp only [cond_true]
      cases hq : strEq x y with
      | false => simp
      | true => rw [strEq_iff.1 hq, hh]; rfl

theorem names_eqv : ∀ (e : Xp) (o : List (ByteArray × Bool)) (o' : List ByteArray) (x : ByteArray), strEq x tNo = false → mget false o x = hasB o' x → mget false (e.pnames o) x = hasB (e.rnames o') x
  | .ty, o, o', x, hx, h => by simp only [Xp.pnames, Xp.rnames, mget_mset, hx, cond_false, h]
  | .hole, o, o', x, hx, h => by simp only [Xp.pnames, Xp.rnames, mget_mset, hx, cond_false, h]
  | .nm w, o, o', x, hx, h => by
    simp only [Xp.pnames, Xp.rnames, mget_mset, addN_has _ _ _ hx, h]
    cases strEq x (mk w) <;> simp
  | .app a b, o, o', x, hx, h => by
    simp only [Xp.pnames, Xp.rnames]
    exact names_eqv b _ _ x hx (names_eqv a _ _ x hx (by rw [mget_mset, hx]; exact h))
  | .arr a b, o, o', x, hx, h => by
    simp only [Xp.pnames, Xp.rnames]
    exact names_eqv b _ _ x hx (names_eqv a _ _ x hx (by rw [mget_mset, hx]; exact h))
  | .bnd l w a b, o, o', x, hx, h => by
    simp only [Xp.pnames, Xp.rnames]
    exact names_eqv b _ _ x hx (names_eqv a _ _ x hx (by
      rw [mget_mset, addN_has _ _ _ hx, h]
      cases strEq x (mk w) <;> simp))

theorem addN_mono (o : List ByteArray) (y x : ByteArray) (h : hasB o x = true) : hasB (addN o y) x = true := by
  unfold addN
  cases strEq y tNo with
  | true => exact h
  | false =>
    simp only [cond_false]
    cases hasB o y with
    | true => exact h
    | false => simp only [cond_false, hasB_app, h, Bool.true_or]

theorem rnames_mono : ∀ (e : Xp) (o : List ByteArray) (x : ByteArray), hasB o x = true → hasB (e.rnames o) x = true
  | .ty, o, x, h => h
  | .hole, o, x, h => h
  | .nm w, o, x, h => addN_mono o _ x h
  | .app a b, o, x, h => rnames_mono b _ x (rnames_mono a _ x h)
  | .arr a b, o, x, h => rnames_mono b _ x (rnames_mono a _ x h)
  | .bnd l w a b, o, x, h => rnames_mono b _ x (rnames_mono a _ x (addN_mono o _ x h))

theorem vn_no (m : Nat) : strEq (mk (vn m)) tNo = false := by
  cases h : strEq (mk (vn m)) tNo with
  | false => rfl
  | true => have := congrArg (fun s : ByteArray => s.data.toList) (strEq_iff.1 h); simp [vn] at this

theorem PS0_eqv (f t : ByteArray) (e : Xp) : (PS0 f t e).eqv (e.rnames [f, t]) := by
  refine ⟨fun m => names_eqv e _ _ _ (vn_no m) ?_, fun m h1 h2 => ?_⟩
  · rw [mget_mset, mget_mset]
    show _ = (strEq (mk (vn m)) f || (strEq (mk (vn m)) t || false))
    cases strEq (mk (vn m)) f <;> cases strEq (mk (vn m)) t <;> rfl
  · have : m ≤ 0 := h2
    omega

/-- Nothing is renamed to itself. -/
theorem put_self (f : ByteArray) : ∀ e : Xp, e.put f f = e
  | .ty => rfl
  | .hole => rfl
  | .nm w => by
    simp only [Xp.put]
    cases h : strEq (mk w) f with
    | false => rfl
    | true => have := strEq_iff.1 h; subst this; simp
  | .app a b => by simp only [Xp.put, put_self f a, put_self f b]
  | .arr a b => by simp only [Xp.put, put_self f a, put_self f b]
  | .bnd l w a b => by
    simp only [Xp.put, put_self f a, put_self f b]
    cases strEq (mk w) f <;> rfl

theorem rnd_self (f : ByteArray) : ∀ (e : Xp) (u : List ByteArray), e.rnd f f u = (e, u)
  | .ty, u => rfl
  | .hole, u => rfl
  | .nm w, u => rfl
  | .app a b, u => by simp only [Xp.rnd, rnd_self f a, rnd_self f b]
  | .arr a b, u => by simp only [Xp.rnd, rnd_self f a, rnd_self f b]
  | .bnd l w a b, u => by
    have e : (!strEq f f && hasB (b.free [] []) f) = false := by rw [strEq_iff.2 rfl]; rfl
    simp only [Xp.rnd, e, Bool.and_false, cond_false, rnd_self f a, rnd_self f b]
    cases strEq (mk w) f <;> rfl

/-- Both ways are the same. -/
theorem rename_same (f t : ByteArray) (e : Xp) (h : e.sz ≤ 400) : e.renameP f t = (e.rnd f t (e.rnames [f, t])).1.put f t := by
  unfold Xp.renameP
  cases hq : strEq f t with
  | true =>
    have := strEq_iff.1 hq; subst this
    rw [rnd_self, put_self]; rfl
  | false =>
    have hl := rnames_len e [f, t]
    simp only [List.length_cons, List.length_nil] at hl
    exact (rn_out hq e [] [] (PS0 f t e) (e.rnames [f, t]) rfl .nil (PS0_eqv f t e)
      (rnames_mono e _ f (by show (strEq f f || _) = true; rw [strEq_iff.2 rfl]; rfl)) (rnames_mono e _ t (by show (strEq t f || (strEq t t || false)) = true; rw [strEq_iff.2 rfl]; simp)) (by omega)).1

/-! ### The names stay names -/

theorem xrw_ok : ∀ e : Xp, e.Nm → e.rw.Ok
  | .ty, _ => .mk 1 tNo [] (by show 0 ≤ _; omega) (by simp) (by simp)
  | .hole, _ => .mk 3 tNo [] (by show 0 ≤ _; omega) (by simp) (by simp)
  | .nm w, h => .mk 2 (mk w) [] (by rw [mk_size]; have := nm_len (w := w) h; omega) (by simp) (by simp)
  | .app a b, h => .mk 4 tNo [a.rw, b.rw] (by show 0 ≤ _; omega) (by simp) (fun x hx => by
    simp only [List.mem_cons, List.not_mem_nil, or_false] at hx
    rcases hx with rfl | rfl
    · exact xrw_ok a h.1
    · exact xrw_ok b h.2)
  | .arr a b, h => .mk 6 tNo [a.rw, b.rw] (by show 0 ≤ _; omega) (by simp) (fun x hx => by
    simp only [List.mem_cons, List.not_mem_nil, or_false] at hx
    rcases hx with rfl | rfl
    · exact xrw_ok a h.1
    · exact xrw_ok b h.2)
  | .bnd l w a b, h => .mk _ (mk w) [a.rw, b.rw] (by rw [mk_size]; have := nm_len (w := w) h.1; omega) (by simp) (fun x hx => by
    simp only [List.mem_cons, List.not_mem_nil, or_false] at hx
    rcases hx with rfl | rfl
    · exact xrw_ok a h.2.1
    · exact xrw_ok b h.2.2)

inductive NowM (t : ByteArray) : List (ByteArray × ByteArray) → Prop
  | nil : NowM t []
  | one (v : List UInt8) (h : nmOk v = true) : NowM t [(t, mk v)]

theorem NowM.del {t : ByteArray} {now : List (ByteArray × ByteArray)} (h : NowM t now) (w : ByteArray) : NowM t (mdel now w) := by
  cases h with
  | nil => exact .nil
  | one v hv =>
    simp only [mdel]
    cases strEq w t with
    | true => exact .nil
    | false => exact .one v hv

theorem NowM.set {t : ByteArray} {now : List (ByteArray × ByteArray)} (h : NowM t now) (v : List UInt8) (hv : nmOk v = true) : NowM t (mset (mdel now t) t (mk v)) := by
  cases h with
  | nil => exact .one v hv
  | one u _ => simp only [mdel, strEq_iff.2 rfl, cond_true, mset]; exact .one v hv

theorem rn_nm (f t : ByteArray) (ht : nmOk t.data.toList = true) : ∀ (e : Xp) (bd : List ByteArray) (now : List (ByteArray × ByteArray)) (s : PS), e.Nm → NowM t now → s.ok → s.u.length + e.sz ≤ 1000 → (e.rn f t bd now s).1.Nm
  | .ty, bd, now, s, h, hn, hs, hl => trivial
  | .hole, bd, now, s, h, hn, hs, hl => trivial
  | .nm w, bd, now, s, h, hn, hs, hl => by
    show nmOk (nmP f t bd now w) = true
    unfold nmP
    have h : nmOk w = true := h
    cases hasB bd (mk w) with
    | false =>
      simp only [cond_false]
      cases strEq (mk w) f with
      | true => exact ht
      | false => exact h
    | true =>
      simp only [cond_true]
      cases hn with
      | nil => simp only [mget, strEq_iff.2 rfl, cond_true, h]
      | one v hv =>
        simp only [mget]
        cases strEq (mk w) t with
        | true => cases hq : strEq (mk v) tNo <;> simp only [cond_true, cond_false, hq, h, mk_list, hv]
        | false => simp only [cond_false, strEq_iff.2 rfl, cond_true, h]
  | .app a b, bd, now, s, h, hn, hs, hl => by
    simp only [Xp.sz] at hl
    obtain ⟨a1, a2⟩ := rn_ok f t a bd now s hs
    exact ⟨rn_nm f t ht a bd now s h.1 hn hs (by omega), rn_nm f t ht b bd now _ h.2 hn a1 (by omega)⟩
  | .arr a b, bd, now, s, h, hn, hs, hl => by
    simp only [Xp.sz] at hl
    obtain ⟨a1, a2⟩ := rn_ok f t a bd now s hs
    exact ⟨rn_nm f t ht a bd now s h.1 hn hs (by omega), rn_nm f t ht b bd now _ h.2 hn a1 (by omega)⟩
  | .bnd l w a b, bd, now, s, h, hn, hs, hl => by
    simp only [Xp.sz] at hl
    simp only [Xp.rn]
    cases hc : strEq (mk w) t && hasB (b.free (bd ++ [mk w]) []) f with
    | false =>
      obtain ⟨a1, a2⟩ := rn_ok f t a bd now s hs
      exact ⟨h.1, rn_nm f t ht a bd now s h.2.1 hn hs (by omega), rn_nm f t ht b _ _ _ h.2.2 (hn.del _) a1 (by omega)⟩
    | true =>
      have hwt : mk w = t := by
        have : strEq (mk w) t = true := by revert hc; cases strEq (mk w) t <;> simp
        exact strEq_iff.1 this
      have hle := hs.le
      have hfo := hs.found (by omega)
      have hv : nmOk (vn s.m) = true := nmOk_vn (by omega)
      obtain ⟨a1, a2⟩ := rn_ok f t a bd now s.next hs.next
      have hnl := mset_len (mk (vn s.m)) true s.u
      have hne : s.next.u = mset s.u (mk (vn s.m)) true := rfl
      rw [hne] at a2
      exact ⟨hv, rn_nm f t ht a bd now s.next h.2.1 hn hs.next (by rw [hne]; omega), rn_nm f t ht b _ _ _ h.2.2 (by rw [hwt]; exact hn.set _ hv) a1 (by omega)⟩

theorem rename_nm (f t : ByteArray) (ht : nmOk t.data.toList = true) (e : Xp) (h : e.Nm) (hs : e.sz ≤ 400) : (e.renameP f t).Nm := by
  unfold Xp.renameP
  cases strEq f t with
  | true => exact h
  | false =>
    have hl := PS0_len f t e
    exact rn_nm f t ht e [] [] _ h .nil (PS0_ok f t e) (by omega)

/-! ### The law -/

theorem renames_law (r : Rw) (f t : ByteArray) (hok : r.Ok) : Evt fun k => ∀ (ρ : Type) K, (Tabs k).c4_0 ρ r f t K = K true := by
  cases hw : wellB r && (nmOk f.data.toList && nmOk t.data.toList) with
  | false =>
    refine ((s_RenameBad f t r hok hw).and ((s_well r hok).and ((s_isName f).and ((s_isName t).and ((s_rsame ⟨0, tNo, []⟩ ⟨0, tNo, []⟩ (Rw.Ok.mk 0 tNo [] (by show 0 ≤ _; omega) (by simp) (by simp))).and awake_ok))))).step fun k ⟨h1, h2, h3, h4, h5, h6⟩ ρ K => ?_
    rw [show (Tabs (k + 1)).c4_0 = Gc4_0 (Tabs k) from rfl]
    simp only [Gc4_0, Rw.eta, h1, h2, h3, h4, beq_self_eq_true, cond_true, h5, eqRw_refl, h6]
    cases q1 : wellB r with
    | false => simp only [Bool.not_false, cond_true]
    | true =>
      cases q2 : nmOk f.data.toList with
      | false => simp only [Bool.not_true, cond_false, Bool.not_false, cond_true]
      | true =>
        rw [q1, q2] at hw
        simp only [Bool.true_and] at hw
        simp only [Bool.not_true, cond_false, hw, Bool.not_false, cond_true]
  | true =>
    simp only [Bool.and_eq_true] at hw
    obtain ⟨hw, hf, ht⟩ := hw
    obtain ⟨e, rfl, hn, hs⟩ := well_xp hw
    have hsame := rename_same f t e hs
    have hR := s_rRename f t e hs
    rw [← hsame] at hR
    refine ((s_Rename f t e hok hs hw hf ht).and ((s_well e.rw hok).and ((s_isName f).and ((s_isName t).and ((s_rsame (e.renameP f t).rw (e.renameP f t).rw (xrw_ok _ (rename_nm f t ht e hn hs))).and (hR.and awake_ok)))))).step fun k ⟨h1, h2, h3, h4, h5, h6, h7⟩ ρ K => ?_
    rw [show (Tabs (k + 1)).c4_0 = Gc4_0 (Tabs k) from rfl]
    simp only [Gc4_0, Rw.eta, h1, h2, h3, h4, hw, hf, ht, Bool.not_true, cond_false, beq_self_eq_true, cond_true, h5, h6, eqRw_refl, h7]

end Go.Proofs.YtanfoijdfcnpoaaGreatDoor.Ev
