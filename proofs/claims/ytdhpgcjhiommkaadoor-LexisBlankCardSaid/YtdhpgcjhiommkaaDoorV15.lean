/- This file proves plain lemmas on blanks and a comment that are put in before a token; without any condition. -/
import Derived.Test.YtdhpgcjhiommkaaDoorV12
set_option linter.unusedVariables false
set_option linter.unusedSimpArgs false
namespace Go.Proofs.YtdhpgcjhiommkaaDoor.Ev

/-- What is put in. -/
def inn (w : List UInt8) : List UInt8 := 9 :: 32 :: 37 :: 32 :: (w ++ [10, 13])

theorem skip_comment : ∀ (w B : List UInt8), (∀ b ∈ w, b ≠ 10) → skip (w ++ (10 :: 13 :: B)) true = skip B false
  | [], B, _ => by
    have h1 : (((10 : UInt8).toNat : Int) == 10) = true := by decide
    have h2 : wsB ((13 : UInt8).toNat : Int) = true := by decide
    simp only [List.nil_append, skip, h1, h2, if_true]
  | b :: w, B, h => by
    have hb : b ≠ 10 := h b (List.mem_cons_self ..)
    have h1 : ((b.toNat : Int) == 10) = false := by
      simp only [beq_eq_false_iff_ne]
      intro e
      exact hb (UInt8.toNat_inj.1 (by have h2 : (10 : UInt8).toNat = 10 := rfl
                                      omega))
    simp only [List.cons_append, skip, h1, Bool.false_eq_true, if_false]
    exact skip_comment w B fun x hx => h x (List.mem_cons_of_mem _ hx)

theorem inn_app (w B : List UInt8) : inn w ++ B = 9 :: 32 :: 37 :: 32 :: (w ++ (10 :: 13 :: B)) := by simp [inn]

theorem skip_in {w B : List UInt8} (hw : ∀ b ∈ w, b ≠ 10) (b : Bool) : skip (inn w ++ B) b = skip B false := by
  rw [inn_app]
  have h32 : ∀ b ∈ (32 :: w), b ≠ (10 : UInt8) := by
    intro b hb
    rcases List.mem_cons.1 hb with rfl | hb
    · decide
    · exact hw b hb
  have h3 := skip_comment (32 :: w) B h32
  rw [List.cons_append] at h3
  cases b with
  | false =>
    have e1 : wsB ((9 : UInt8).toNat : Int) = true := by decide
    have e2 : wsB ((32 : UInt8).toNat : Int) = true := by decide
    have e3 : wsB ((37 : UInt8).toNat : Int) = false := by decide
    have e4 : (((37 : UInt8).toNat : Int) == 37 && comm (32 :: (w ++ 10 :: 13 :: B))) = true := by
      have : comm (32 :: (w ++ 10 :: 13 :: B)) = true := by simp only [comm, e2, Bool.true_or]
      rw [this]; decide
    rw [← h3]
    conv => lhs; rw [skip, if_pos e1, skip, if_pos e2, skip, if_neg (by rw [e3]; decide), if_pos e4]
  | true =>
    have h4 := skip_comment (9 :: 32 :: 37 :: 32 :: w) B (by
      intro b hb
      rcases List.mem_cons.1 hb with rfl | hb
      · decide
      rcases List.mem_cons.1 hb with rfl | hb
      · decide
      rcases List.mem_cons.1 hb with rfl | hb
      · decide
      exact h32 b hb)
    exact h4

theorem tk_fuel (N : Nat) : ∀ (n m : Nat) (r : List UInt8), r.length ≤ n → r.length ≤ m → tk N n r = tk N m r
  | n, m, [], _, _ => by rw [tk_nil, tk_nil]
  | 0, m, c :: r, h, _ => by simp at h
  | n + 1, 0, c :: r, _, h => by simp at h
  | n + 1, m + 1, c :: r, h1, h2 => by
    simp only [tk]
    cases hx : next c r with
    | none => rfl
    | some x =>
      simp only
      obtain ⟨h3, t, h4⟩ := next_text hx
      have hpos : 0 < x.2.length := List.length_pos_iff.2 h3
      have hsl := (skip_suffix ((c :: r).drop x.2.length) false).length_le
      rw [List.length_drop] at hsl
      simp only [List.length_cons] at h1 h2 hsl
      rw [tk_fuel N n m _ (by omega) (by omega)]

/-- A token further on. -/
def far (d : Nat) (t : Tok) : Tok := ⟨t.kind, t.text, t.at_ + d⟩

theorem tk_shift (N d : Nat) : ∀ (n : Nat) (r : List UInt8) (ts : List Tok), tk N n r = .inl ts → tk (N + d) n r = .inl (ts.map (far d))
  | 0, r, ts, h => by
    simp only [tk, Sum.inl.injEq] at h ⊢
    subst h; rfl
  | n + 1, [], ts, h => by
    simp only [tk, Sum.inl.injEq] at h ⊢
    subst h; rfl
  | n + 1, c :: r, ts, h => by
    simp only [tk] at h ⊢
    cases hx : next c r with
    | none => rw [hx] at h; cases h
    | some x =>
      rw [hx] at h
      simp only at h ⊢
      cases hk : tk N n (skip ((c :: r).drop x.2.length) false) with
      | inr p => rw [hk] at h; cases h
      | inl us =>
        rw [hk] at h
        simp only [Sum.inl.injEq] at h
        subst h
        rw [tk_shift N d n _ us hk]
        simp only [List.map_cons, far]
        congr 3
        omega

/-- What stands behind a token may be put otherwise: its first byte stays, or becomes a tab. -/
def Alike (q q' : List UInt8) : Prop := q'.head? = q.head? ∨ q'.head? = some 9

theorem word_alike {q q' : List UInt8} (h : Alike q q') (hq : word q = []) : word q' = [] := by
  cases q' with
  | nil => rfl
  | cons d t =>
    have hd : nmC d = false := by
      rcases h with h | h
      · cases q with
        | nil => simp at h
        | cons e s =>
          simp only [List.head?_cons, Option.some.injEq] at h
          subst h
          cases hn : nmC d with
          | false => rfl
          | true => rw [word_ne hn] at hq; simp at hq
      · simp only [List.head?_cons, Option.some.injEq] at h
        subst h; decide
    unfold word
    rw [List.takeWhile_cons, hd]; rfl

theorem word_app {q : List UInt8} (hq : word q = []) : ∀ {w : List UInt8}, w.all nmC = true → word (w ++ q) = w
  | [], _ => hq
  | c :: r, h => by
    simp only [List.all_cons, Bool.and_eq_true] at h
    rw [List.cons_append, word_ne h.1, word_app hq h.2]

theorem word_rest {w q : List UInt8} (h : word (w ++ q) = w) : word q = [] := by
  have hw : w.all nmC = true := by rw [← h]; exact word_all _
  induction w with
  | nil => exact h
  | cons c r ih =>
    simp only [List.all_cons, Bool.and_eq_true] at hw
    rw [List.cons_append, word_ne hw.1] at h
    exact ih (by simpa using h) hw.2

theorem byte_alike {q q' : List UInt8} (h : Alike q q') {n : Int} (h0 : n ≠ 0) (h9 : n ≠ 9) (hq : byteAt q ≠ n) : byteAt q' ≠ n := by
  cases q' with
  | nil => exact fun e => h0 e.symm
  | cons d t =>
    rcases h with h | h
    · cases q with
      | nil => simp at h
      | cons e s =>
        simp only [List.head?_cons, Option.some.injEq] at h
        subst h; exact hq
    · simp only [List.head?_cons, Option.some.injEq] at h
      subst h
      exact fun e => h9 e.symm

theorem next_cong {c : UInt8} {w q q' : List UInt8} {k : Int} (h : next c (w ++ q) = some (k, c :: w)) (ha : Alike q q') : next c (w ++ q') = some (k, c :: w) := by
  have one : ∀ {b : Bool} {n : Int} {v : List UInt8}, (bif b then some (n, v) else none) = some (k, c :: w) → b = true ∧ n = k ∧ v = c :: w := by
    intro b n v hb; cases b
    · cases hb
    · simp only [cond_true, Option.some.injEq, Prod.mk.injEq] at hb; exact ⟨rfl, hb.1, hb.2⟩
  have fin : ∀ {v : List UInt8}, word (v ++ q) = v → word (v ++ q') = v := fun {v} hv => word_app (word_alike ha (word_rest hv)) (by
    have := word_all (v ++ q); rwa [hv] at this)
  unfold next at h ⊢
  simp only at h ⊢
  cases h1 : smallB (c.toNat : Int) with
  | true =>
    rw [h1, cond_true] at h
    obtain ⟨h2, rfl, h3⟩ := one h
    have h4 := fin (v := c :: w) h3
    rw [List.cons_append] at h4
    rw [cond_true, h4, ← h3, h2]; rfl
  | false =>
  rw [h1, cond_false] at h
  rw [cond_false]
  cases h1 : capB (c.toNat : Int) with
  | true =>
    rw [h1, cond_true] at h
    obtain ⟨h2, rfl, h3⟩ := one h
    have h4 := fin (v := c :: w) h3
    rw [List.cons_append] at h4
    rw [cond_true, h4, ← h3, h2]; rfl
  | false =>
  rw [h1, cond_false] at h
  rw [cond_false]
  cases h1 : digB (c.toNat : Int) with
  | true =>
    rw [h1, cond_true] at h
    obtain ⟨h2, rfl, h3⟩ := one h
    have h4 := fin (v := c :: w) h3
    rw [List.cons_append] at h4
    rw [cond_true, h4, ← h3, h2]; rfl
  | false =>
  rw [h1, cond_false] at h
  rw [cond_false]
  cases h1 : ((c.toNat : Int) == 95) with
  | true =>
    rw [h1, cond_true] at h
    obtain ⟨h2, rfl, h3⟩ := one h
    simp only [List.cons.injEq] at h3
    obtain ⟨rfl, rfl⟩ := h3
    have h4 := fin (v := [95]) (by simpa using h2)
    rw [cond_true, List.nil_append]
    rw [List.cons_append, List.nil_append] at h4
    rw [h4]; rfl
  | false =>
  rw [h1, cond_false] at h
  rw [cond_false]
  cases h1 : ((c.toNat : Int) == 37) with
  | true =>
    rw [h1, cond_true] at h
    obtain ⟨h2, rfl, h3⟩ := one h
    simp only [List.cons.injEq] at h3
    obtain ⟨rfl, h3⟩ := h3
    rw [cond_true, fin h3]
    rw [h3] at h2
    rw [h2]; rfl
  | false =>
  rw [h1, cond_false] at h
  rw [cond_false]
  cases h1 : ((c.toNat : Int) == 45) with
  | true =>
    rw [h1, cond_true] at h
    rw [cond_true]
    cases h2 : (byteAt (w ++ q) == 62) with
    | true =>
      rw [h2] at h
      simp only [cond_true, Option.some.injEq, Prod.mk.injEq, List.cons.injEq] at h
      obtain ⟨rfl, rfl, rfl⟩ := h
      rfl
    | false =>
      rw [h2] at h
      simp only [cond_false, Option.some.injEq, Prod.mk.injEq, List.cons.injEq] at h
      obtain ⟨rfl, rfl, rfl⟩ := h
      rw [List.nil_append] at h2 ⊢
      have h5 := byte_alike ha (n := 62) (by decide) (by decide) (by simpa using h2)
      have h6 : (byteAt q' == 62) = false := by simpa using h5
      rw [h6]; rfl
  | false =>
  rw [h1, cond_false] at h
  rw [cond_false]
  cases h1 : ((c.toNat : Int) == 60) with
  | true =>
    rw [h1, cond_true] at h
    rw [cond_true]
    obtain ⟨h2, rfl, h3⟩ := one h
    simp only [List.cons.injEq] at h3
    obtain ⟨rfl, rfl⟩ := h3
    rfl
  | false =>
    rw [h1, cond_false] at h
    rw [cond_false]
    obtain ⟨h2, rfl, h3⟩ := one h
    simp only [List.cons.injEq] at h3
    obtain ⟨_, rfl⟩ := h3
    rw [h2]; rfl

/-- Separators and comments, with something else behind them. -/
theorem skip_gap {z r1 : List UInt8} (hz : Alike r1 z) (hr : r1 = [] → ∀ b, skip z b = skip z false) : ∀ (g : List UInt8) (b : Bool), skip (g ++ r1) b = r1 → skip (g ++ z) b = skip z false
  | [], false, _ => rfl
  | [], true, h => by
    rw [List.nil_append] at h ⊢
    cases r1 with
    | nil => exact hr rfl true
    | cons d t =>
      exfalso
      simp only [skip] at h
      have hl : ∀ b, (skip t b).length ≤ t.length := fun b => (skip_suffix t b).length_le
      split at h
      · have := hl false; rw [h] at this; simp only [List.length_cons] at this; omega
      · have := hl true; rw [h] at this; simp only [List.length_cons] at this; omega
  | c :: g, true, h => by
    rw [List.cons_append] at h ⊢
    simp only [skip] at h ⊢
    split
    · rename_i hc; rw [if_pos hc] at h; exact skip_gap hz hr g false h
    · rename_i hc; rw [if_neg hc] at h; exact skip_gap hz hr g true h
  | c :: g, false, h => by
    rw [List.cons_append] at h ⊢
    simp only [skip] at h ⊢
    cases hw : wsB (c.toNat : Int) with
    | true => rw [hw, if_pos rfl] at h; rw [if_pos rfl]; exact skip_gap hz hr g false h
    | false =>
      rw [hw] at h
      simp only [Bool.false_eq_true, if_false] at h ⊢
      cases hc : ((c.toNat : Int) == 37 && comm (g ++ r1)) with
      | false =>
        rw [hc] at h
        simp only [Bool.false_eq_true, if_false] at h
        have := congrArg List.length h
        simp only [List.length_cons, List.length_append] at this
        omega
      | true =>
        rw [hc, if_pos rfl] at h
        have hcz : ((c.toNat : Int) == 37 && comm (g ++ z)) = true := by
          simp only [Bool.and_eq_true] at hc ⊢
          refine ⟨hc.1, ?_⟩
          cases g with
          | cons d t => exact hc.2
          | nil =>
            rw [List.nil_append] at h ⊢
            have hr1 : r1 = [] := by
              cases r1 with
              | nil => rfl
              | cons d t =>
                exfalso
                simp only [skip] at h
                have hl : ∀ b, (skip t b).length ≤ t.length := fun b => (skip_suffix t b).length_le
                split at h
                · have := hl false; rw [h] at this; simp only [List.length_cons] at this; omega
                · have := hl true; rw [h] at this; simp only [List.length_cons] at this; omega
            subst hr1
            cases z with
            | nil => rfl
            | cons d t =>
              rcases hz with hz | hz
              · simp at hz
              · simp only [List.head?_cons, Option.some.injEq] at hz
                subst hz; rfl
        rw [hcz, if_pos rfl]
        exact skip_gap hz hr g true h


/-- The tokens from the i-th on further on. -/
def sh (d : Nat) : Nat → List Tok → List Tok
  | 0, ts => ts.map (far d)
  | _ + 1, [] => []
  | i + 1, t :: ts => t :: sh d i ts

theorem next_37 {c : UInt8} {r : List UInt8} {k : Int} (h : next c r = some (k, [c])) : ((c.toNat : Int) == 37) = false := by
  cases hc : ((c.toNat : Int) == 37) with
  | false => rfl
  | true =>
    have e : c = 37 := UInt8.toNat_inj.1 (by have h1 : (c.toNat : Int) = 37 := by simpa using hc
                                             have h2 : (37 : UInt8).toNat = 37 := rfl
                                             omega)
    subst e
    have e2 : next 37 r = bif nameL smallB (word r) then some (5, 37 :: word r) else none := rfl
    rw [e2] at h
    cases hn : nameL smallB (word r) with
    | false => rw [hn] at h; cases h
    | true =>
      rw [hn] at h
      simp only [cond_true, Option.some.injEq, Prod.mk.injEq, List.cons.injEq, true_and] at h
      rw [h.2] at hn
      cases hn

theorem tk_blank (N : Nat) {w : List UInt8} (hw : ∀ b ∈ w, b ≠ 10) : ∀ (i n : Nat) (r : List UInt8) (ts : List Tok), r.length ≤ n → skip r false = r → tk N n r = .inl ts → i ≤ ts.length →
    ∃ s B, r = s ++ B ∧ ((ts ++ [⟨7, mk [], (N : Int)⟩])[i]?.map (·.at_)) = some ((N : Int) - (B.length : Int)) ∧
      ∀ n', (s ++ (inn w ++ B)).length ≤ n' → tk (N + (inn w).length) n' (skip (s ++ (inn w ++ B)) false) = .inl (sh (inn w).length i ts)
  | 0, n, r, ts, hn, hsk, ht, _ => by
    refine ⟨[], r, rfl, ?_, fun n' hn' => ?_⟩
    · cases r with
      | nil =>
        rw [tk_nil] at ht
        cases ht
        simp
      | cons c r =>
        cases n with
        | zero => simp at hn
        | succ n =>
          simp only [tk] at ht
          cases hx : next c r with
          | none => rw [hx] at ht; cases ht
          | some x =>
            rw [hx] at ht
            simp only at ht
            split at ht
            · simp only [Sum.inl.injEq] at ht
              subst ht
              simp
            · cases ht
    · rw [List.nil_append, skip_in hw, hsk]
      rw [List.nil_append, List.length_append] at hn'
      rw [tk_fuel _ n' n r (by omega) hn]
      exact tk_shift N _ n r ts ht
  | i + 1, n, [], ts, hn, hsk, ht, hi => by
    rw [tk_nil] at ht
    cases ht
    simp at hi
  | i + 1, 0, c :: r, ts, hn, hsk, ht, hi => by simp at hn
  | i + 1, n + 1, c :: r, ts, hn, hsk, ht, hi => by
    simp only [tk] at ht
    cases hx : next c r with
    | none => rw [hx] at ht; cases ht
    | some x =>
      rw [hx] at ht
      simp only at ht
      obtain ⟨h1, q, hq⟩ := next_text hx
      obtain ⟨k, x2⟩ := x
      simp only at h1 hq ht
      cases x2 with
      | nil => exact absurd rfl h1
      | cons c' w0 =>
        simp only [List.cons_append, List.cons.injEq] at hq
        obtain ⟨rfl, hq⟩ := hq
        have hd : (c :: r).drop (c :: w0).length = q := by
          rw [hq, ← List.cons_append, List.drop_left]
        rw [hd] at ht
        cases hk : tk N n (skip q false) with
        | inr p => rw [hk] at ht; cases ht
        | inl us =>
          rw [hk] at ht
          simp only [Sum.inl.injEq] at ht
          subst ht
          have hsl := (skip_suffix q false).length_le
          have hlq : r.length = w0.length + q.length := by rw [hq, List.length_append]
          have hss : skip (skip q false) false = skip q false := by
            have : ∀ (r : List UInt8) (b : Bool), skip (skip r b) false = skip r b := by
              intro r
              induction r with
              | nil => intro b; rfl
              | cons d t ih =>
                intro b
                cases b with
                | true => simp only [skip]; split <;> exact ih _
                | false =>
                  simp only [skip]
                  split
                  · exact ih _
                  · rename_i hw
                    split
                    · exact ih _
                    · rename_i hc
                      simp only [skip, if_neg hw, if_neg hc]
            exact this q false
          obtain ⟨s1, B, e1, e2, e3⟩ := tk_blank N hw i n (skip q false) us (by simp only [List.length_cons] at hn; omega) hss hk (by simpa using hi)
          obtain ⟨g, hg⟩ := skip_suffix q false
          -- what stands behind the gap now
          have hal : Alike (s1 ++ B) (s1 ++ (inn w ++ B)) := by
            cases s1 with
            | nil => exact .inr rfl
            | cons d t => exact .inl rfl
          have hgap : skip (g ++ (s1 ++ (inn w ++ B))) false = skip (s1 ++ (inn w ++ B)) false := by
            refine skip_gap (r1 := s1 ++ B) hal (fun he b => ?_) g false ?_
            · have h1 : s1 = [] := (List.append_eq_nil_iff.1 he).1
              have h2 : B = [] := (List.append_eq_nil_iff.1 he).2
              subst h1; subst h2
              rw [List.nil_append, skip_in hw, skip_in hw]
            · rw [← e1, hg]
          have hqa : q = g ++ (s1 ++ B) := by rw [← e1, hg]
          have hal2 : Alike q (g ++ (s1 ++ (inn w ++ B))) := by
            rw [hqa]
            cases g with
            | nil => exact hal
            | cons d t => exact .inl rfl
          have hnx : next c (w0 ++ (g ++ (s1 ++ (inn w ++ B)))) = some (k, c :: w0) := by
            rw [hq] at hx
            exact next_cong hx hal2
          have hsk2 : skip (c :: (w0 ++ (g ++ (s1 ++ (inn w ++ B))))) false = c :: (w0 ++ (g ++ (s1 ++ (inn w ++ B)))) := by
            obtain ⟨g1, g2⟩ := skip_head hsk
            have g3 : ((c.toNat : Int) == 37 && comm (w0 ++ (g ++ (s1 ++ (inn w ++ B))))) = false := by
              cases w0 with
              | nil => rw [next_37 hx, Bool.false_and]
              | cons d t => rw [hq] at g2; exact g2
            simp only [skip, g1, g3, Bool.false_eq_true, if_false]
          refine ⟨(c :: w0) ++ (g ++ s1), B, ?_, ?_, fun n' hn' => ?_⟩
          · rw [hq, hqa]; simp
          · simpa using e2
          · have hr' : ((c :: w0) ++ (g ++ s1)) ++ (inn w ++ B) = c :: (w0 ++ (g ++ (s1 ++ (inn w ++ B)))) := by simp
            rw [hr'] at hn' ⊢
            rw [hsk2]
            cases n' with
            | zero => simp at hn'
            | succ n' =>
              have hd2 : (c :: (w0 ++ (g ++ (s1 ++ (inn w ++ B))))).drop (c :: w0).length = g ++ (s1 ++ (inn w ++ B)) := by
                rw [← List.cons_append, List.drop_left]
              have h4 := e3 n' (by simp only [List.length_cons, List.length_append] at hn' ⊢; omega)
              simp only [tk, hnx, hd2, hgap, h4, sh]
              congr 3
              have : (r.length : Int) = w0.length + (g.length + (s1.length + B.length)) := by
                rw [hlq, hqa]; simp
              simp only [List.length_cons, List.length_append]
              omega

end Go.Proofs.YtdhpgcjhiommkaaDoor.Ev
