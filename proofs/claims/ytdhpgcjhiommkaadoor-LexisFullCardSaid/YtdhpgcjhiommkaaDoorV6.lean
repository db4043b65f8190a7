/- This file proves that the reference cuts a source into the same tokens as the program does; without any condition. -/
import Derived.Test.YtdhpgcjhiommkaaDoorV5
set_option linter.unusedVariables false
set_option linter.unusedSimpArgs false
namespace Go.Proofs.YtdhpgcjhiommkaaDoor.Ev

def inR {ρ : Type} (o : Option (Int × List UInt8)) (p : Int) (tb : Tok) (K : Tok → Bool → Option ρ) : Option ρ :=
  match o with
  | some x => K ⟨x.1, mk x.2, p⟩ true
  | none => K tb false

theorem inR_bif {ρ : Type} (b : Bool) (n : Int) (w : List UInt8) (p : Int) (K : Tok → Bool → Option ρ) : inR (bif b then some (n, w) else none) p ⟨n, mk w, p⟩ K = K ⟨n, mk w, p⟩ b := by cases b <;> rfl

theorem nmC_of_let {c : UInt8} (h : letB (c.toNat : Int) = true) : nmC c = true := by unfold nmC nmB; rw [h]; rfl

theorem nameL_sub {f g : Int → Bool} {c : UInt8} {r : List UInt8} (hc : nmC c = true) (h : f (c.toNat : Int) = g (c.toNat : Int)) : nameL f (word (c :: r)) = nameL g (word (c :: r)) := by
  rw [word_ne hc]
  simp only [nameL, h]

theorem sign_eq (c : UInt8) (r : List UInt8) : (bif (c.toNat : Int) == 45 then (bif byteAt r == 62 then some (4, [45, 62]) else some (4, [45])) else bif (c.toNat : Int) == 60 then (bif byteAt r == 45 then some (4, [60, 45]) else none) else bif signs.contains c then some (4, [c]) else none) = signR c r := by
  have e : ∀ (c d : UInt8), (c == d) = ((c.toNat : Int) == (d.toNat : Int)) := by
    intro c d
    rw [Bool.eq_iff_iff]
    simp only [beq_iff_eq]
    constructor
    · rintro rfl; rfl
    · intro h; exact UInt8.toNat_inj.1 (by omega)
  have two : ∀ (a b : UInt8) (n : Int), (b.toNat : Int) = n → n ≠ 0 → ((c :: r).take 2 == [a, b]) = (((c.toNat : Int) == (a.toNat : Int)) && (byteAt r == n)) := by
    intro a b n hb h0
    cases r with
    | nil =>
      have : (byteAt [] == n) = false := by simp [byteAt]; omega
      rw [this, Bool.and_false]
      simp
    | cons d t =>
      simp only [List.take_succ_cons, List.take_zero, byteAt, ← hb]
      rw [← e, ← e]
      simp
  unfold signR
  rw [two 45 62 62 rfl (by decide), two 60 45 45 rfl (by decide)]
  have e45 : ((45 : UInt8).toNat : Int) = 45 := rfl
  have e60 : ((60 : UInt8).toNat : Int) = 60 := rfl
  rw [e45, e60]
  cases h1 : ((c.toNat : Int) == 45) with
  | true =>
    have hc : c = 45 := UInt8.toNat_inj.1 (by have : (c.toNat : Int) = 45 := by simpa using h1
                                              have h2 : (45 : UInt8).toNat = 45 := rfl
                                              omega)
    subst hc
    cases byteAt r == 62 <;> rfl
  | false =>
    cases h2 : ((c.toNat : Int) == 60) with
    | true =>
      have hc : c = 60 := UInt8.toNat_inj.1 (by have : (c.toNat : Int) = 60 := by simpa using h2
                                                have h2 : (60 : UInt8).toNat = 60 := rfl
                                                omega)
      subst hc
      cases byteAt r == 45 <;> rfl
    | false => rfl

section
variable {l : List UInt8} (hl : l.length ≤ 140737488355328)
include hl

theorem s26 {c : UInt8} {r : List UInt8} (h : c :: r <:+ l) : ∃ tb : Tok, Evt fun k => ∀ (ρ : Type) k0, (Tabs k).c26_0 ρ (mk l) (pos l (c :: r)) k0 = inR (next c r) (pos l (c :: r)) tb k0 := by
  have hw := word_bounds (l := l) h
  rw [pos_ge h, Bool.true_and] at hw
  have hx := extract_word h
  have hr := suf_tail h
  cases hlet : letB (c.toNat : Int) with
  | true =>
    have hnm := nmC_of_let hlet
    cases hs : smallB (c.toNat : Int) with
    | true =>
      refine ⟨⟨1, mk (word (c :: r)), pos l (c :: r)⟩, ((s52 hl h).and (s53.and (s31.and (s30 (word (c :: r)))))).step fun k ⟨h1, h2, h3, h4⟩ ρ k0 => ?_⟩
      rw [show (Tabs (k + 1)).c26_0 = Gc26_0 (Tabs k) from rfl]
      unfold Gc26_0
      simp only [h1, h2, h3, bt_at h, hlet, hs, pos_ge h, pos_lt h, Bool.and_self, Bool.true_and, hw, hx, cond_true, cond_false, Bool.not_true, h4, next, inR_bif]
      rw [nameL_sub (f := letB) (g := smallB) hnm (by rw [hlet, hs])]
    | false =>
      have hcap : capB (c.toNat : Int) = true := by unfold letB at hlet; rw [hs] at hlet; simpa using hlet
      refine ⟨⟨2, mk (word (c :: r)), pos l (c :: r)⟩, ((s52 hl h).and (s53.and (s31.and (s30 (word (c :: r)))))).step fun k ⟨h1, h2, h3, h4⟩ ρ k0 => ?_⟩
      rw [show (Tabs (k + 1)).c26_0 = Gc26_0 (Tabs k) from rfl]
      unfold Gc26_0
      simp only [h1, h2, h3, bt_at h, hlet, hs, hcap, pos_ge h, pos_lt h, Bool.and_self, Bool.true_and, hw, hx, cond_true, cond_false, Bool.not_false, h4, next, inR_bif]
      rw [nameL_sub (f := letB) (g := capB) hnm (by rw [hlet, hcap])]
  | false =>
    have hs : smallB (c.toNat : Int) = false := by unfold letB at hlet; simp only [Bool.or_eq_false_iff] at hlet; exact hlet.1
    have hcap : capB (c.toNat : Int) = false := by unfold letB at hlet; simp only [Bool.or_eq_false_iff] at hlet; exact hlet.2
    cases h95 : ((c.toNat : Int) == 95) with
    | true =>
      have e95 : (c.toNat : Int) = 95 := by simpa using h95
      have hc : c = 95 := UInt8.toNat_inj.1 (by have h2 : (95 : UInt8).toNat = 95 := rfl
                                                omega)
      have hd : digB (c.toNat : Int) = false := by rw [e95]; decide
      refine ⟨⟨3, mk [95], pos l (c :: r)⟩, ((s52 hl h).and s53).step fun k ⟨h1, h2⟩ ρ k0 => ?_⟩
      rw [show (Tabs (k + 1)).c26_0 = Gc26_0 (Tabs k) from rfl]
      unfold Gc26_0
      have hok : (pos l (after (c :: r)) == IntKind.wrap .i64 (pos l (c :: r) + 1)) = (word (c :: r) == [95]) := by
        rw [pos_W h (by omega), ← pos_next (l := l) (c := c) (r := r), pos_after h]
        have hnm : nmC c = true := by subst hc; decide
        rw [word_ne hnm]
        subst hc
        cases hwr : word r with
        | nil => simp
        | cons d t => simp; omega
      simp only [h1, h2, bt_at h, hlet, pos_ge h, pos_lt h, Bool.and_self, Bool.true_and, cond_true, cond_false, h95, hok, next, hs, hcap, hd, inR_bif]
    | false =>
      cases hd : digB (c.toNat : Int) with
      | true =>
        have hd2 := hd
        simp only [digB, Bool.and_eq_true] at hd2
        obtain ⟨v, hv⟩ := s54 (word (c :: r))
        refine ⟨⟨6, mk (word (c :: r)), pos l (c :: r)⟩, ((s52 hl h).and (s53.and hv)).step fun k ⟨h1, h2, h3⟩ ρ k0 => ?_⟩
        rw [show (Tabs (k + 1)).c26_0 = Gc26_0 (Tabs k) from rfl]
        unfold Gc26_0
        simp only [h1, h2, bt_at h, hlet, pos_ge h, pos_lt h, Bool.and_self, Bool.true_and, cond_true, cond_false, h95, hd2.1, hd2.2, hw, hx, h3, next, hs, hcap, hd, inR_bif]
      | false =>
        have hdig : ∀ {ρ : Type} (x y : Option ρ), cond (decide ((c.toNat : Int) ≥ 48)) (cond (decide ((c.toNat : Int) ≤ 57)) x y) y = y := by
          intro ρ x y
          unfold digB at hd
          cases h1 : decide ((c.toNat : Int) ≥ 48) with
          | false => rfl
          | true => rw [h1, Bool.true_and] at hd; rw [hd]; rfl
        cases h37 : ((c.toNat : Int) == 37) with
        | true =>
          have e37 : (c.toNat : Int) = 37 := by simpa using h37
          have hc : c = 37 := UInt8.toNat_inj.1 (by have h2 : (37 : UInt8).toNat = 37 := rfl
                                                    omega)
          refine ⟨⟨5, mk (37 :: word r), pos l (c :: r)⟩, ((s52 hl h).and (s53.and ((s52 hl hr).and (s17 (word r))))).step fun k ⟨h1, h2, h3, h4⟩ ρ k0 => ?_⟩
          rw [show (Tabs (k + 1)).c26_0 = Gc26_0 (Tabs k) from rfl]
          unfold Gc26_0
          have hw2 := word_bounds (l := l) hr
          have hpa := pos_after hr
          have hpn : pos l (c :: r) + 1 = pos l r := pos_next
          have hw3 : (decide (pos l (c :: r) ≤ pos l (after r)) && decide (pos l (after r) ≤ ((mk l).size : Int))) = true := by
            simp only [Bool.and_eq_true, decide_eq_true_eq] at hw2
            simp only [Bool.and_eq_true, decide_eq_true_eq]
            exact ⟨by omega, hw2.2.2⟩
          have hx2 : ByteArray.extract (mk l) (pos l (c :: r)).toNat (pos l (after r)).toNat = mk (37 :: word r) := by
            rw [extract_take h ((word r).length + 1) (by omega)]
            congr 1
            rw [List.take_succ_cons, hc]
            congr 1
            have h : (word r ++ after r).take (word r).length = word r := List.take_left
            rw [word_after] at h
            exact h
          simp only [h1, h2, bt_at h, hlet, pos_ge h, pos_lt h, Bool.and_self, Bool.true_and, cond_true, cond_false, h95, hdig, h37, pos_W h (by omega), h3, hw3, hw2, extract_word hr, hx2, h4, next, hs, hcap, hd, inR_bif]
        | false =>
          obtain ⟨tb, ht⟩ := s55 hl h
          refine ⟨tb, ((s52 hl h).and (s53.and ht)).step fun k ⟨h1, h2, h3⟩ ρ k0 => ?_⟩
          rw [show (Tabs (k + 1)).c26_0 = Gc26_0 (Tabs k) from rfl]
          unfold Gc26_0
          simp only [h1, h2, bt_at h, hlet, pos_ge h, pos_lt h, Bool.and_self, Bool.true_and, cond_true, cond_false, h95, hdig, h37, h3, next, hs, hcap, hd]
          rw [sign_eq]
          cases signR c r <;> rfl

end

section
variable {l : List UInt8} (hl : l.length ≤ 1000000)
include hl

theorem s12_5 : ∀ (n : Nat) {r : List UInt8} (acc : List Tok), r.length ≤ n → r <:+ l → acc.length + r.length ≤ l.length →
    Evt fun k => ∀ (ρ : Type) k0 k1, (Tabs k).l12_5_0 ρ (mk l) acc (pos l r) k0 k1 =
      match tk l.length n r with | .inl ts => k0 (mk l) (acc ++ ts) | .inr p => k1 [] p 4
  | 0, [], acc, _, h, _ => Evt.step0 fun k ρ k0 k1 => by
    rw [show (Tabs (k + 1)).l12_5_0 = Gl12_5_0 (Tabs k) from rfl]
    unfold Gl12_5_0
    simp only [pos_end, cond_false, tk, List.append_nil]
  | n + 1, [], acc, _, h, _ => Evt.step0 fun k ρ k0 k1 => by
    rw [show (Tabs (k + 1)).l12_5_0 = Gl12_5_0 (Tabs k) from rfl]
    unfold Gl12_5_0
    simp only [pos_end, cond_false, tk, List.append_nil]
  | n + 1, c :: r, acc, hn, h, ha => by
    obtain ⟨tb, h26⟩ := s26 (big hl) h
    cases hx : next c r with
    | none =>
      refine h26.step fun k h1 ρ k0 k1 => ?_
      rw [show (Tabs (k + 1)).l12_5_0 = Gl12_5_0 (Tabs k) from rfl]
      unfold Gl12_5_0
      simp only [pos_lt h, cond_true, h1, hx, inR, Bool.not_false, tk]
      rfl
    | some x =>
      obtain ⟨h1, t, h2⟩ := next_text hx
      have hlen : x.2.length ≤ (c :: r).length := by rw [h2]; simp
      have hpos : 0 < x.2.length := List.length_pos_iff.2 h1
      have hd := drop_suffix (l := l) x.2.length h
      have hs : skip ((c :: r).drop x.2.length) false <:+ l := (skip_suffix _ _).trans hd
      have hsl := (skip_suffix ((c :: r).drop x.2.length) false).length_le
      rw [List.length_drop] at hsl
      refine (h26.and ((s25 (big hl) hd).and (s12_5 n (r := skip ((c :: r).drop x.2.length) false) (acc ++ [⟨x.1, mk x.2, pos l (c :: r)⟩]) (by omega) hs (by simp only [List.length_append, List.length_cons, List.length_nil]; omega)))).step fun k ⟨h3, e1, e2⟩ ρ k0 k1 => ?_
      have hb := pos_bounds h
      have hp : IntKind.wrap .i64 (pos l (c :: r) + ((mk x.2).size : Int)) = pos l ((c :: r).drop x.2.length) := by
        rw [mk_size, pos_drop h hlen]
        have := pos_bounds hd
        rw [pos_drop h hlen] at this
        exact W_id (by omega) (by omega)
      rw [show (Tabs (k + 1)).l12_5_0 = Gl12_5_0 (Tabs k) from rfl]
      unfold Gl12_5_0
      simp only [pos_lt h, cond_true, h3, hx, inR, Bool.not_true, cond_false, app_fits hl h ha, hp, e1, e2, tk]
      cases tk l.length n (skip ((c :: r).drop x.2.length) false) with
      | inl ts => simp [pos]
      | inr p => rfl

end

/-! ### Whole sources -/

/-- The tokens of a source, the position and the error. -/
def toks (l : List UInt8) : List Tok × Int × Int :=
  bif decide (l.length ≤ 6000) then
    match tk l.length l.length (skip l false) with
    | .inl ts => (ts ++ [⟨7, mk [], (l.length : Int)⟩], 0, 0)
    | .inr p => ([], p, 4)
  else ([], 0, 5)

theorem tk_len (N : Nat) : ∀ (n : Nat) (r : List UInt8) (ts : List Tok), tk N n r = .inl ts → ts.length ≤ r.length
  | 0, r, ts, h => by simp only [tk, Sum.inl.injEq] at h; subst h; simp
  | n + 1, [], ts, h => by simp only [tk, Sum.inl.injEq] at h; subst h; simp
  | n + 1, c :: r, ts, h => by
    simp only [tk] at h
    cases hx : next c r with
    | none => rw [hx] at h; cases h
    | some x =>
      rw [hx] at h
      simp only at h
      obtain ⟨h1, t, h2⟩ := next_text hx
      have hpos : 0 < x.2.length := List.length_pos_iff.2 h1
      cases hk : tk N n (skip ((c :: r).drop x.2.length) false) with
      | inl us =>
        rw [hk] at h
        simp only [Sum.inl.injEq] at h
        subst h
        have := tk_len N n _ us hk
        have hsl := (skip_suffix ((c :: r).drop x.2.length) false).length_le
        rw [List.length_drop] at hsl
        simp only [List.length_cons] at *
        omega
      | inr p => rw [hk] at h; cases h

theorem size_big (l : List UInt8) : decide (((mk l).size : Int) > 6000) = !decide (l.length ≤ 6000) := by
  rw [mk_size]
  by_cases h : l.length ≤ 6000 <;> simp [h] <;> omega

theorem s11 (l : List UInt8) : Evt fun k => ∀ (ρ : Type) k0, (Tabs k).c11_0 ρ (mk l) k0 = k0 (toks l).1 (toks l).2.1 (toks l).2.2 := by
  by_cases h : l.length ≤ 6000
  · have hsk := skip_suffix l false
    have hle := hsk.length_le
    have h23 := s23 (l := l) (by omega) (List.suffix_refl l)
    rw [pos_all] at h23
    refine (h23.and (s11_6 (by omega) l.length [] hle hsk (by simpa using hle))).step fun k ⟨h1, h2⟩ ρ k0 => ?_
    rw [show (Tabs (k + 1)).c11_0 = Gc11_0 (Tabs k) from rfl]
    unfold Gc11_0
    simp only [size_big, h, decide_true, Bool.not_true, cond_false, cond_true, h1, h2, toks]
    cases ht : tk l.length l.length (skip l false) with
    | inl ts =>
      have := tk_len _ _ _ _ ht
      have hf : decide ((List.length ([] ++ ts) + List.length [(⟨7, ByteArray.mk #[], ((mk l).size : Int)⟩ : Tok)]) * 32 ≤ 140737488355328) = true := by simp; omega
      simp only [List.nil_append, mk_size] at hf ⊢
      rw [hf]; rfl
    | inr p => rfl
  · refine Evt.step0 fun k ρ k0 => ?_
    rw [show (Tabs (k + 1)).c11_0 = Gc11_0 (Tabs k) from rfl]
    unfold Gc11_0
    simp only [size_big, h, decide_false, Bool.not_false, cond_false, cond_true, toks]

theorem s12 (l : List UInt8) : Evt fun k => ∀ (ρ : Type) k0, (Tabs k).c12_0 ρ (mk l) k0 = k0 (toks l).1 (toks l).2.1 (toks l).2.2 := by
  by_cases h : l.length ≤ 6000
  · have hsk := skip_suffix l false
    have hle := hsk.length_le
    have h25 := s25 (l := l) (by omega) (List.suffix_refl l)
    rw [pos_all] at h25
    refine (h25.and (s12_5 (by omega) l.length [] hle hsk (by simpa using hle))).step fun k ⟨h1, h2⟩ ρ k0 => ?_
    rw [show (Tabs (k + 1)).c12_0 = Gc12_0 (Tabs k) from rfl]
    unfold Gc12_0
    simp only [size_big, h, decide_true, Bool.not_true, cond_false, cond_true, h1, h2, toks]
    cases ht : tk l.length l.length (skip l false) with
    | inl ts =>
      have := tk_len _ _ _ _ ht
      have hf : decide ((List.length ([] ++ ts) + List.length [(⟨7, ByteArray.mk #[], ((mk l).size : Int)⟩ : Tok)]) * 32 ≤ 140737488355328) = true := by simp; omega
      simp only [List.nil_append, mk_size] at hf ⊢
      rw [hf]; rfl
    | inr p => rfl
  · refine Evt.step0 fun k ρ k0 => ?_
    rw [show (Tabs (k + 1)).c12_0 = Gc12_0 (Tabs k) from rfl]
    unfold Gc12_0
    simp only [size_big, h, decide_false, Bool.not_false, cond_false, cond_true, toks]

end Go.Proofs.YtdhpgcjhiommkaaDoor.Ev
