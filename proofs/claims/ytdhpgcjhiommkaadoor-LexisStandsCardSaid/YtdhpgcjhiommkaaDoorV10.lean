/- This file proves what LexisStands answers; without any condition. -/
import Derived.Test.YtdhpgcjhiommkaaDoorV7
set_option linter.unusedVariables false
set_option linter.unusedSimpArgs false
namespace Go.Proofs.YtdhpgcjhiommkaaDoor.Ev

theorem next_seven {c : UInt8} {r : List UInt8} {x : Int × List UInt8} (h : next c r = some x) : x.1 ≠ 7 := by
  have one : ∀ {b : Bool} {k : Int} {w : List UInt8}, k ≠ 7 → (bif b then some (k, w) else none) = some x → x.1 ≠ 7 := by
    intro b k w hk hb; cases b
    · cases hb
    · simp only [cond_true, Option.some.injEq] at hb; subst hb; exact hk
  unfold next at h
  simp only at h
  cases h1 : smallB (c.toNat : Int) with
  | true => rw [h1, cond_true] at h; exact one (by decide) h
  | false =>
  rw [h1, cond_false] at h
  cases h1 : capB (c.toNat : Int) with
  | true => rw [h1, cond_true] at h; exact one (by decide) h
  | false =>
  rw [h1, cond_false] at h
  cases h1 : digB (c.toNat : Int) with
  | true => rw [h1, cond_true] at h; exact one (by decide) h
  | false =>
  rw [h1, cond_false] at h
  cases h1 : ((c.toNat : Int) == 95) with
  | true => rw [h1, cond_true] at h; exact one (by decide) h
  | false =>
  rw [h1, cond_false] at h
  cases h1 : ((c.toNat : Int) == 37) with
  | true => rw [h1, cond_true] at h; exact one (by decide) h
  | false =>
  rw [h1, cond_false] at h
  cases h1 : ((c.toNat : Int) == 45) with
  | true =>
    rw [h1, cond_true] at h
    cases h2 : (byteAt r == 62) with
    | true => rw [h2] at h; exact one (b := true) (by decide) h
    | false => rw [h2] at h; exact one (b := true) (by decide) h
  | false =>
  rw [h1, cond_false] at h
  cases h1 : ((c.toNat : Int) == 60) with
  | true => rw [h1, cond_true] at h; exact one (by decide) h
  | false => rw [h1, cond_false] at h; exact one (by decide) h

theorem tk_err (N : Nat) : ∀ (n : Nat) (r : List UInt8) (p : Int), r.length ≤ N → tk N n r = .inr p → 0 ≤ p ∧ p < N
  | 0, r, p, _, h => by cases h
  | n + 1, [], p, _, h => by cases h
  | n + 1, c :: r, p, hN, h => by
    simp only [tk] at h
    cases hx : next c r with
    | none =>
      rw [hx] at h
      simp only [Sum.inr.injEq] at h
      subst h
      simp only [List.length_cons] at hN ⊢
      omega
    | some x =>
      rw [hx] at h
      simp only at h
      have hsl := (skip_suffix ((c :: r).drop x.2.length) false).length_le
      rw [List.length_drop] at hsl
      split at h
      · cases h
      · rename_i q hq
        simp only [Sum.inr.injEq] at h
        subst h
        exact tk_err N n _ q (by omega) hq

section
variable {l : List UInt8} (hl : l.length ≤ 6000)
include hl

/-- One token, and all behind it. -/
theorem s5_6 : ∀ (n : Nat) (r : List UInt8) (pre ts : List Tok) (b : Int) (all : List Tok), r.length ≤ n → r <:+ l → b ≤ pos l r → all = pre ++ (ts ++ [⟨7, mk [], (l.length : Int)⟩]) → all.length ≤ 100000 → tk l.length n r = .inl ts →
    Evt fun k => ∀ (ρ : Type) k0 k1, (Tabs k).l5_6_0 ρ (mk l) all 0 b all (all.length : Int) (pre.length : Int) k0 k1 = k1 (mk l) all 0
  | n, [], pre, ts, b, all, _, h, hb, ha, hle, ht => by
    have hts : ts = [] := by cases n <;> (simp only [tk, Sum.inl.injEq] at ht; exact ht.symm)
    subst hts
    have hN := pos_nil (l := l)
    rw [mk_size] at hN
    have hlen : (all.length : Int) = (pre.length : Int) + 1 := by rw [ha]; simp
    have hpl : pre.length ≤ 100000 := by omega
    have hlast : Evt fun k => ∀ (ρ : Type) b k0 k1, (Tabs k).l5_6_0 ρ (mk l) all 0 b all (all.length : Int) ((pre.length : Int) + 1) k0 k1 = k1 (mk l) all 0 := Evt.step0 fun k ρ b k0 k1 => by
      rw [show (Tabs (k + 1)).l5_6_0 = Gl5_6_0 (Tabs k) from rfl]
      unfold Gl5_6_0
      have e : decide ((pre.length : Int) + 1 < (all.length : Int)) = false := by simp; omega
      simp only [e, cond_false]
    refine hlast.step fun k ih ρ k0 k1 => ?_
    rw [show (Tabs (k + 1)).l5_6_0 = Gl5_6_0 (Tabs k) from rfl]
    unfold Gl5_6_0
    have hrd : rdEl lay Key.tok all (pre.length : Int) = ⟨7, mk [], (l.length : Int)⟩ := by rw [ha]; exact rdTok pre _ []
    have e1 : decide ((pre.length : Int) < (all.length : Int)) = true := by simp; omega
    have e2 : decide ((0 : Int) ≤ (pre.length : Int)) = true := by simp
    have e3 : decide ((l.length : Int) < b) = false := by simp; omega
    have e4 : IntKind.wrap .i64 ((l.length : Int) + ((mk []).size : Int)) = (l.length : Int) := by rw [mk_size]; simp only [List.length_nil]; rw [W_id (by omega) (by omega)]; omega
    have e5 : decide ((l.length : Int) > ((mk l).size : Int)) = false := by rw [mk_size]; simp
    have e6 : decide ((0 : Int) ≤ (l.length : Int)) = true := by simp
    have e7 : decide ((l.length : Int) ≤ (l.length : Int)) = true := by simp
    have e8 : decide ((l.length : Int) ≤ ((mk l).size : Int)) = true := by rw [mk_size]; simp
    have e9 : ByteArray.extract (mk l) (Int.toNat (l.length : Int)) (Int.toNat (l.length : Int)) = mk [] := by rw [mk_extract]; simp
    have e10 : strEq (mk []) (mk []) = true := by rw [strEq_mk]; rfl
    have e11 : IntKind.wrap .i64 ((all.length : Int) - 1) = (pre.length : Int) := by rw [W_id (by omega) (by omega)]; omega
    have e12 : IntKind.wrap .i64 ((pre.length : Int) + 1) = (pre.length : Int) + 1 := W_id (by omega) (by omega)
    have e13 : strEq (mk []) (ByteArray.mk #[]) = true := e10
    simp only [hrd, e1, e2, e3, e4, e5, e6, e7, e8, e9, e10, e11, e12, e13, Bool.and_self, cond_true, cond_false, Bool.not_true, beq_self_eq_true, bne_self_eq_false]
    exact ih ρ _ k0 k1
  | n + 1, c :: r, pre, ts, b, all, hn, h, hb, ha, hle, ht => by
    have ht2 := ht
    simp only [tk] at ht2
    cases hx : next c r with
    | none => rw [hx] at ht2; cases ht2
    | some x =>
      rw [hx] at ht2
      simp only at ht2
      obtain ⟨h1, t, h2⟩ := next_text hx
      have hlen : x.2.length ≤ (c :: r).length := by rw [h2]; simp
      have hpos : 0 < x.2.length := List.length_pos_iff.2 h1
      have hd := drop_suffix (l := l) x.2.length h
      have hs : skip ((c :: r).drop x.2.length) false <:+ l := (skip_suffix _ _).trans hd
      have hsl := (skip_suffix ((c :: r).drop x.2.length) false).length_le
      rw [List.length_drop] at hsl
      cases hk : tk l.length n (skip ((c :: r).drop x.2.length) false) with
      | inr p => rw [hk] at ht2; cases ht2
      | inl us =>
        rw [hk] at ht2
        simp only [Sum.inl.injEq] at ht2
        have hp0 := pos_drop h hlen
        have hpb : pos l ((c :: r).drop x.2.length) ≤ pos l (skip ((c :: r).drop x.2.length) false) := by
          unfold pos; rw [List.length_drop]; omega
        have hP : (l.length : Int) - ((c :: r).length : Int) = pos l (c :: r) := rfl
        rw [hP] at ht2
        have ha2 : all = pre ++ (⟨x.1, mk x.2, pos l (c :: r)⟩ :: (us ++ [⟨7, mk [], (l.length : Int)⟩])) := by rw [ha, ← ht2]; rfl
        have ha3 : all = (pre ++ [⟨x.1, mk x.2, pos l (c :: r)⟩]) ++ (us ++ [⟨7, mk [], (l.length : Int)⟩]) := by rw [ha2]; simp
        have ih := s5_6 n (skip ((c :: r).drop x.2.length) false) (pre ++ [⟨x.1, mk x.2, pos l (c :: r)⟩]) us (pos l ((c :: r).drop x.2.length)) all (by omega) hs hpb ha3 hle hk
        refine ih.step fun k ih ρ k0 k1 => ?_
        rw [show (Tabs (k + 1)).l5_6_0 = Gl5_6_0 (Tabs k) from rfl]
        unfold Gl5_6_0
        have hrd : rdEl lay Key.tok all (pre.length : Int) = ⟨x.1, mk x.2, pos l (c :: r)⟩ := by rw [ha2]; exact rdTok pre _ _
        have hal : (all.length : Int) = (pre.length : Int) + 1 + (us.length : Int) + 1 := by rw [ha2]; simp; omega
        have hbd := pos_bounds h
        have hbd2 := pos_bounds hd
        have e1 : decide ((pre.length : Int) < (all.length : Int)) = true := by simp only [decide_eq_true_eq]; omega
        have e2 : decide ((0 : Int) ≤ (pre.length : Int)) = true := by simp
        have e3 : decide (pos l (c :: r) < b) = false := by simp only [decide_eq_false_iff_not]; omega
        have e4 : IntKind.wrap .i64 (pos l (c :: r) + ((mk x.2).size : Int)) = pos l ((c :: r).drop x.2.length) := by rw [mk_size, hp0]; exact W_id (by omega) (by omega)
        have e5 : decide (pos l ((c :: r).drop x.2.length) > ((mk l).size : Int)) = false := by rw [mk_size]; simp only [decide_eq_false_iff_not]; omega
        have e6 : decide ((0 : Int) ≤ pos l (c :: r)) = true := pos_ge h
        have e7 : decide (pos l (c :: r) ≤ pos l ((c :: r).drop x.2.length)) = true := by simp only [decide_eq_true_eq]; omega
        have e8 : decide (pos l ((c :: r).drop x.2.length) ≤ ((mk l).size : Int)) = true := pos_le hd
        have e9 : ByteArray.extract (mk l) (Int.toNat (pos l (c :: r))) (Int.toNat (pos l ((c :: r).drop x.2.length))) = mk x.2 := by
          rw [extract_take h x.2.length hp0, h2, List.take_left]
        have e10 : strEq (mk x.2) (mk x.2) = true := by rw [strEq_mk]; simp
        have e11 : IntKind.wrap .i64 ((all.length : Int) - 1) = (all.length : Int) - 1 := W_id (by omega) (by omega)
        have e12 : IntKind.wrap .i64 ((pre.length : Int) + 1) = ((pre ++ [(⟨x.1, mk x.2, pos l (c :: r)⟩ : Tok)]).length : Int) := by rw [W_id (by omega) (by omega)]; simp
        have e13 : strEq (mk x.2) (ByteArray.mk #[]) = false := by
          rw [show (ByteArray.mk #[]) = mk [] from rfl, strEq_mk]; simpa using h1
        have e14 : (x.1 == 7) = false := by simp only [beq_eq_false_iff_ne]; exact next_seven hx
        have e15 : ((pre.length : Int) == (all.length : Int) - 1) = false := by simp only [beq_eq_false_iff_ne]; omega
        simp only [hrd, e1, e2, e3, e4, e5, e6, e7, e8, e9, e10, e11, e12, e13, e14, e15, Bool.and_self, cond_true, cond_false, Bool.not_true, bne_self_eq_false]
        exact ih ρ k0 k1

end

theorem stands_law (s : ByteArray) : Evt fun k => ∀ (ρ : Type) K, (Tabs k).c5_0 ρ s K = K true := by
  rw [mk_of s]
  generalize s.data.toList = l
  have h11 := s11 l
  by_cases h6 : l.length ≤ 6000
  · have hsk := skip_suffix l false
    have hle := hsk.length_le
    unfold toks at h11
    simp only [h6, decide_true, cond_true] at h11
    cases hk : tk l.length l.length (skip l false) with
    | inr p =>
      rw [hk] at h11
      obtain ⟨p0, p1⟩ := tk_err _ _ _ _ hle hk
      refine (h11.and awake_ok).step fun k ⟨h1, h2⟩ ρ K => ?_
      rw [show (Tabs (k + 1)).c5_0 = Gc5_0 (Tabs k) from rfl]
      unfold Gc5_0
      refine (h1 ρ _).trans ?_
      have e1 : decide (p ≥ (0 : Int)) = true := by simpa using p0
      have e2 : decide (p < ((mk l).size : Int)) = true := by rw [mk_size]; simpa using p1
      simp only [e1, e2, h2]
      rfl
    | inl ts =>
      rw [hk] at h11
      have htl := tk_len _ _ _ _ hk
      have hbd := pos_bounds hsk
      have hloop := s5_6 h6 l.length (skip l false) [] ts 0 (ts ++ [⟨7, mk [], (l.length : Int)⟩]) hle hsk hbd.1 rfl (by simp only [List.length_append, List.length_cons, List.length_nil]; omega) hk
      refine (h11.and (hloop.and awake_ok)).step fun k ⟨h1, h2, h3⟩ ρ K => ?_
      rw [show (Tabs (k + 1)).c5_0 = Gc5_0 (Tabs k) from rfl]
      unfold Gc5_0
      refine (h1 ρ _).trans ?_
      have e0 : ((0 : Int) != 0) = false := rfl
      simp only [e0, cond_false]
      have h2' := fun k0 k1 => h2 ρ k0 k1
      simp only [List.length_nil, Int.natCast_zero, Int.ofNat_eq_natCast] at h2'
      refine (h2' _ _).trans ?_
      have hal : ((ts ++ [(⟨7, mk [], (l.length : Int)⟩ : Tok)]).length : Int) = (ts.length : Int) + 1 := by simp
      have e1 : decide ((ts.length : Int) + 1 > 0) = true := by simp only [decide_eq_true_eq]; omega
      have e2 : IntKind.wrap .i64 ((ts.length : Int) + 1 - 1) = (ts.length : Int) := by rw [W_id (by omega) (by omega)]; omega
      have e3 : decide ((0 : Int) ≤ (ts.length : Int)) = true := by simp
      have e4 : decide ((ts.length : Int) < (ts.length : Int) + 1) = true := by simp only [decide_eq_true_eq]; omega
      have hrd : rdEl lay Key.tok (ts ++ [⟨7, mk [], (l.length : Int)⟩] : List Tok) (ts.length : Int) = ⟨7, mk [], (l.length : Int)⟩ := rdTok ts _ []
      have e5 : ((l.length : Int) == ((mk l).size : Int)) = true := by rw [mk_size]; simp
      simp only [hal, e1, e2, e3, e4, hrd, e5, Bool.and_self, cond_true, beq_self_eq_true, h3]
  · unfold toks at h11
    simp only [h6, decide_false, cond_false] at h11
    refine (h11.and awake_ok).step fun k ⟨h1, h2⟩ ρ K => ?_
    rw [show (Tabs (k + 1)).c5_0 = Gc5_0 (Tabs k) from rfl]
    unfold Gc5_0
    refine (h1 ρ _).trans ?_
    have e : decide (((mk l).size : Int) > (6000 : Int)) = true := by rw [size_big]; simp [h6]
    simp only [e, h2]
    rfl

end Go.Proofs.YtdhpgcjhiommkaaDoor.Ev
