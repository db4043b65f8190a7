/- This file proves what the typed functions compute of long forms and renamed terms; without any condition. -/
import Derived.Test.YtcgbfghdcjmaeaaP8
set_option linter.unusedVariables false
set_option linter.unusedSimpArgs false
namespace Go.Proofs.Ytcgbfghdcjmaeaa.Ev

/-! ### Long forms -/

theorem s52c : ∀ (r : Nat) (i k : Int) (s : Sm) (a4 t : Tm), 0 ≤ i → k = i + r → k ≤ 2000 → Evt fun k' => ∀ ρ K, (Tabs k').l52_11_0 ρ k i s a4 t K = K s a4 (lams r t)
  | 0, i, k, s, a4, t, h0, h, h2 => by
    refine Evt.step0 fun k' ρ K => ?_
    show Gl52_11_0 (Tabs k') ρ _ _ _ _ _ K = _
    have : ¬ i < k := by omega
    simp only [Gl52_11_0, this, decide_false, cond_false, Tm.eta, Sm.eta, lams]
  | r + 1, i, k, s, a4, t, h0, h, h2 => by
    have h73 : Evt fun k => ∀ ρ K, (Tabs k).c73_0 ρ t K = K ⟨3, 0, 0, [t]⟩ := by
      refine Evt.step0 fun k ρ K => ?_
      show Gc73_0 (Tabs k) ρ _ K = _
      simp only [Gc73_0, Tm.eta]
    refine (h73.and (s52c r (i + 1) k s a4 ⟨3, 0, 0, [t]⟩ (by omega) (by omega) h2)).step fun k' hk ρ K => ?_
    show Gl52_11_0 (Tabs k') ρ _ _ _ _ _ K = _
    have : i < k := by omega
    simp only [Gl52_11_0, this, decide_true, cond_true, Tm.eta, Sm.eta, hk.1, W_id (show -9223372036854775808 ≤ i + 1 by omega) (by omega), hk.2, lams_in]

theorem s52 (s : Sm) : ∀ head n : Int, 0 ≤ n → n + s.size ≤ 20000 → s.size ≤ 600 → Evt fun k => ∀ ρ K, (Tabs k).c52_0 ρ head n s K = K (lng head n s) := by
  refine Sm.ind (p := fun s => ∀ head n : Int, 0 ≤ n → n + s.size ≤ 20000 → s.size ≤ 600 → Evt fun k => ∀ ρ K, (Tabs k).c52_0 ρ head n s K = K (lng head n s)) ?_ s
  intro args con ih head n hn h2 h6
  simp only [Sm.size] at h2 h6
  have hal := ssizeL_len args
  have loop : ∀ (post pre l : List Sm) (acc : List Tm) (i kk : Int) (a6 : Tm) (nn : Int), l = pre ++ post → i = (pre.length : Int) → acc.length = pre.length → kk = l.length → l.length ≤ 600 → (∀ x ∈ post, x ∈ args) →
      Evt fun k => ∀ ρ K, (Tabs k).l52_6_0 ρ kk l kk i ⟨args, con⟩ a6 ⟨4, head, nn, acc⟩ K = K kk ⟨args, con⟩ a6 ⟨4, head, nn, acc ++ lngL (kk - 1 - i) post⟩ := by
    intro post
    induction post with
    | nil =>
      intro pre l acc i kk a6 nn hl hi _ hkk _ _
      refine Evt.step0 fun k ρ K => ?_
      show Gl52_6_0 (Tabs k) ρ _ _ _ _ _ _ _ K = _
      rw [hkk]
      simp only [Gl52_6_0, endL hl hi, cond_false, Tm.eta, Sm.eta, lngL, List.append_nil]
    | cons x r ihl =>
      intro pre l acc i kk a6 nn hl hi ha hkk hl6 hx
      obtain ⟨m1, m2, m3⟩ := midSm hl hi
      have hlen := lenL hl hi
      simp only [List.length_cons] at hlen
      have hxs := ssizeL_mem (hx x (List.mem_cons_self ..))
      have g1 := ih x (hx x (List.mem_cons_self ..)) 1 (kk - 1 - i) (by omega) (by omega) (by omega)
      have g2 := ihl (pre ++ [x]) l (acc ++ [lng 1 (kk - 1 - i) x]) (i + 1) kk a6 nn (nextL hl) (nextI hi) (by simp [ha]) hkk hl6 (fun y hy => hx y (List.mem_cons_of_mem _ hy))
      have hc : decide ((List.length acc + List.length [lng 1 (kk - 1 - i) x]) * 48 ≤ 140737488355328) = true := by
        simp only [decide_eq_true_eq, List.length_cons, List.length_nil]; omega
      refine (g1.and g2).step fun k hk ρ K => ?_
      show Gl52_6_0 (Tabs k) ρ _ _ _ _ _ _ _ K = _
      have m2' : decide (i < kk) = true := by rw [hkk]; exact m2
      simp only [Gl52_6_0, m1, m2, m2', m3, cond_true, Bool.and_true, Tm.eta, Sm.eta, W_id (show -9223372036854775808 ≤ kk - 1 by omega) (by omega), W_id (show -9223372036854775808 ≤ kk - 1 - i by omega) (by omega), hk.1, hc, W_id (show -9223372036854775808 ≤ i + 1 by omega) (by omega), hk.2]
      simp only [lngL, List.append_assoc, List.singleton_append, show kk - 1 - i - 1 = kk - 1 - (i + 1) by omega]
  have g1 := fun nn => loop args [] args [] 0 args.length ⟨0, 0, 0, []⟩ nn rfl rfl rfl rfl (by omega) (fun x hx => hx)
  have g2 := fun nn => s52c args.length 0 args.length ⟨args, con⟩ ⟨0, 0, 0, []⟩ ⟨4, head, nn, lngL ((args.length : Int) - 1) args⟩ (by omega) (by omega) (by omega)
  refine ((g1 (if head = 1 then n + args.length else n)).and (g2 (if head = 1 then n + args.length else n))).step fun k hk ρ K => ?_
  show Gc52_0 (Tabs k) ρ _ _ _ K = _
  have hk1 := hk.1 ρ
  simp only [List.nil_append, Int.sub_zero] at hk1
  simp only [Gc52_0, lng, W_id (show -9223372036854775808 ≤ n + (args.length : Int) by omega) (by omega)]
  by_cases h1 : head = 1
  · simp only [h1, if_true] at hk1 hk ⊢
    simp only [beq_self_eq_true, cond_true, hk1, hk.2, Tm.eta, Sm.eta]
  · simp only [h1, if_false] at hk1 hk ⊢
    simp only [show (head == 1) = false by simp [h1], cond_false, hk1, hk.2, Tm.eta, Sm.eta]

theorem s61c : ∀ (r : Nat) (i k : Int) (s : Sm) (a4 t : Tm), 0 ≤ i → k = i + r → k ≤ 2000 → Evt fun k' => ∀ ρ K, (Tabs k').l61_11_0 ρ k i s a4 t K = K s a4 (lams r t)
  | 0, i, k, s, a4, t, h0, h, h2 => by
    refine Evt.step0 fun k' ρ K => ?_
    show Gl61_11_0 (Tabs k') ρ _ _ _ _ _ K = _
    have : ¬ i < k := by omega
    simp only [Gl61_11_0, this, decide_false, cond_false, Tm.eta, Sm.eta, lams]
  | r + 1, i, k, s, a4, t, h0, h, h2 => by
    refine (s61c r (i + 1) k s a4 ⟨3, 0, 0, [t]⟩ (by omega) (by omega) h2).step fun k' hk ρ K => ?_
    show Gl61_11_0 (Tabs k') ρ _ _ _ _ _ K = _
    have : i < k := by omega
    simp only [Gl61_11_0, this, decide_true, cond_true, Tm.eta, Sm.eta, W_id (show -9223372036854775808 ≤ i + 1 by omega) (by omega), hk, lams_in]

theorem s61 (s : Sm) : ∀ head n : Int, 0 ≤ n → n + s.size ≤ 20000 → s.size ≤ 600 → Evt fun k => ∀ ρ K, (Tabs k).c61_0 ρ head n s K = K (lng head n s) := by
  refine Sm.ind (p := fun s => ∀ head n : Int, 0 ≤ n → n + s.size ≤ 20000 → s.size ≤ 600 → Evt fun k => ∀ ρ K, (Tabs k).c61_0 ρ head n s K = K (lng head n s)) ?_ s
  intro args con ih head n hn h2 h6
  simp only [Sm.size] at h2 h6
  have hal := ssizeL_len args
  have loop : ∀ (post pre l : List Sm) (acc : List Tm) (i kk : Int) (a6 : Tm) (nn : Int), l = pre ++ post → i = (pre.length : Int) → acc.length = pre.length → kk = l.length → l.length ≤ 600 → (∀ x ∈ post, x ∈ args) →
      Evt fun k => ∀ ρ K, (Tabs k).l61_6_0 ρ kk i ⟨l, con⟩ a6 ⟨4, head, nn, acc⟩ K = K kk ⟨l, con⟩ a6 ⟨4, head, nn, acc ++ lngL (kk - 1 - i) post⟩ := by
    intro post
    induction post with
    | nil =>
      intro pre l acc i kk a6 nn hl hi _ hkk _ _
      refine Evt.step0 fun k ρ K => ?_
      show Gl61_6_0 (Tabs k) ρ _ _ _ _ _ K = _
      rw [hkk]
      simp only [Gl61_6_0, endL hl hi, cond_false, Tm.eta, Sm.eta, lngL, List.append_nil]
    | cons x r ihl =>
      intro pre l acc i kk a6 nn hl hi ha hkk hl6 hx
      obtain ⟨m1, m2, m3⟩ := midSm hl hi
      have hlen := lenL hl hi
      simp only [List.length_cons] at hlen
      have hxs := ssizeL_mem (hx x (List.mem_cons_self ..))
      have g1 := ih x (hx x (List.mem_cons_self ..)) 1 (kk - 1 - i) (by omega) (by omega) (by omega)
      have g2 := ihl (pre ++ [x]) l (acc ++ [lng 1 (kk - 1 - i) x]) (i + 1) kk a6 nn (nextL hl) (nextI hi) (by simp [ha]) hkk hl6 (fun y hy => hx y (List.mem_cons_of_mem _ hy))
      have hc : decide ((List.length acc + List.length [lng 1 (kk - 1 - i) x]) * 48 ≤ 140737488355328) = true := by
        simp only [decide_eq_true_eq, List.length_cons, List.length_nil]; omega
      refine (g1.and g2).step fun k hk ρ K => ?_
      show Gl61_6_0 (Tabs k) ρ _ _ _ _ _ K = _
      have m2' : decide (i < kk) = true := by rw [hkk]; exact m2
      simp only [Gl61_6_0, m1, m2, m2', m3, cond_true, Bool.and_true, Tm.eta, Sm.eta, W_id (show -9223372036854775808 ≤ kk - 1 by omega) (by omega), W_id (show -9223372036854775808 ≤ kk - 1 - i by omega) (by omega), hk.1, hc, W_id (show -9223372036854775808 ≤ i + 1 by omega) (by omega), hk.2]
      simp only [lngL, List.append_assoc, List.singleton_append, show kk - 1 - i - 1 = kk - 1 - (i + 1) by omega]
  have g1 := fun nn => loop args [] args [] 0 args.length ⟨0, 0, 0, []⟩ nn rfl rfl rfl rfl (by omega) (fun x hx => hx)
  have g2 := fun nn => s61c args.length 0 args.length ⟨args, con⟩ ⟨0, 0, 0, []⟩ ⟨4, head, nn, lngL ((args.length : Int) - 1) args⟩ (by omega) (by omega) (by omega)
  refine ((g1 (if head = 1 then n + args.length else n)).and (g2 (if head = 1 then n + args.length else n))).step fun k hk ρ K => ?_
  show Gc61_0 (Tabs k) ρ _ _ _ K = _
  have hk1 := hk.1 ρ
  simp only [List.nil_append, Int.sub_zero] at hk1
  simp only [Gc61_0, lng, W_id (show -9223372036854775808 ≤ n + (args.length : Int) by omega) (by omega)]
  by_cases h1 : head = 1
  · simp only [h1, if_true] at hk1 hk ⊢
    simp only [beq_self_eq_true, cond_true, hk1, hk.2, Tm.eta, Sm.eta]
  · simp only [h1, if_false] at hk1 hk ⊢
    simp only [show (head == 1) = false by simp [h1], cond_false, hk1, hk.2, Tm.eta, Sm.eta]

/-- What Long returns. -/
noncomputable def lngR (head n : Int) (s : Sm) : Tm × Int := by
  classical exact if 1 ≤ head ∧ head ≤ 3 ∧ (0 ≤ n ∧ n ≤ 9999) ∧ Small s then (if Proper (lng head n s) then (lng head n s, 0) else (tm0, 5)) else (tm0, 2)

theorem s28 (head n : Int) (s : Sm) : Evt fun k => ∀ ρ K, (Tabs k).c28_0 ρ head n s K = K (lngR head n s).1 (lngR head n s).2 := by
  by_cases h1 : head < 1
  · refine Evt.step0 fun k ρ K => ?_
    show Gc28_0 (Tabs k) ρ _ _ _ K = _
    have : ¬ (1 ≤ head ∧ head ≤ 3 ∧ (0 ≤ n ∧ n ≤ 9999) ∧ Small s) := by omega
    simp only [Gc28_0, h1, decide_true, cond_true, lngR, this, if_false, tm0]
  by_cases h2 : head > 3
  · refine Evt.step0 fun k ρ K => ?_
    show Gc28_0 (Tabs k) ρ _ _ _ K = _
    have : ¬ (1 ≤ head ∧ head ≤ 3 ∧ (0 ≤ n ∧ n ≤ 9999) ∧ Small s) := by omega
    simp only [Gc28_0, h1, h2, decide_true, decide_false, cond_true, cond_false, lngR, this, if_false, tm0]
  have hg : goodB [] [s] [n] = true ↔ (0 ≤ n ∧ n ≤ 9999) ∧ Small s := by rw [goodB_iff]; simp; exact and_comm
  cases hb : goodB [] [s] [n] with
  | false =>
    refine (s39 [] [s] [n] (by simp) (by simp)).step fun k hk ρ K => ?_
    show Gc28_0 (Tabs k) ρ _ _ _ K = _
    have : ¬ (1 ≤ head ∧ head ≤ 3 ∧ (0 ≤ n ∧ n ≤ 9999) ∧ Small s) := fun h => by
      have := hg.2 h.2.2
      rw [hb] at this; cases this
    simp only [Gc28_0, h1, h2, decide_false, cond_false, Sm.eta, hk, hb, Bool.not_false, cond_true, lngR, this, if_false, tm0]
  | true =>
    have h := hg.1 hb
    have hsz := h.2.1
    refine ((s39 [] [s] [n] (by simp) (by simp)).and ((s52 s head n h.1.1 (by omega) hsz).and (s53 (lng head n s)))).step fun k hk ρ K => ?_
    show Gc28_0 (Tabs k) ρ _ _ _ K = _
    have : 1 ≤ head ∧ head ≤ 3 ∧ (0 ≤ n ∧ n ≤ 9999) ∧ Small s := ⟨by omega, by omega, h⟩
    simp only [Gc28_0, h1, h2, decide_false, cond_false, Sm.eta, Tm.eta, hk.1, hb, Bool.not_true, hk.2.1, hk.2.2, lngR]
    rw [if_pos this]
    by_cases hp : Proper (lng head n s)
    · simp only [chk_ok hp, hp, if_true, bne_self_eq_false, cond_false]
    · simp only [chk_no hp, hp, if_false, tm0]; rfl

theorem s34 (head n : Int) (s : Sm) : Evt fun k => ∀ ρ K, (Tabs k).c34_0 ρ head n s K = K (lngR head n s).1 (lngR head n s).2 := by
  by_cases h1 : head < 1
  · refine Evt.step0 fun k ρ K => ?_
    show Gc34_0 (Tabs k) ρ _ _ _ K = _
    have : ¬ (1 ≤ head ∧ head ≤ 3 ∧ (0 ≤ n ∧ n ≤ 9999) ∧ Small s) := by omega
    simp only [Gc34_0, h1, decide_true, cond_true, lngR, this, if_false, tm0]
  by_cases h2 : head > 3
  · refine Evt.step0 fun k ρ K => ?_
    show Gc34_0 (Tabs k) ρ _ _ _ K = _
    have : ¬ (1 ≤ head ∧ head ≤ 3 ∧ (0 ≤ n ∧ n ≤ 9999) ∧ Small s) := by omega
    simp only [Gc34_0, h1, h2, decide_true, decide_false, cond_true, cond_false, lngR, this, if_false, tm0]
  have hnum : numB n = true ↔ 0 ≤ n ∧ n ≤ 9999 := by simp [numB]
  cases hn : numB n with
  | false =>
    refine (s42 n).step fun k hk ρ K => ?_
    show Gc34_0 (Tabs k) ρ _ _ _ K = _
    have : ¬ (1 ≤ head ∧ head ≤ 3 ∧ (0 ≤ n ∧ n ≤ 9999) ∧ Small s) := fun h => by
      have := hnum.2 h.2.2.1
      rw [hn] at this; cases this
    simp only [Gc34_0, h1, h2, decide_false, cond_false, hk, hn, Bool.not_false, cond_true, lngR, this, if_false, tm0]
  | true =>
  have hnr := hnum.1 hn
  by_cases hs : Small s
  rotate_left
  · refine ((s42 n).and (s19 s)).step fun k hk ρ K => ?_
    show Gc34_0 (Tabs k) ρ _ _ _ K = _
    have : ¬ (1 ≤ head ∧ head ≤ 3 ∧ (0 ≤ n ∧ n ≤ 9999) ∧ Small s) := fun h => hs h.2.2.2
    simp only [Gc34_0, h1, h2, decide_false, cond_false, hk.1, hn, Bool.not_true, Sm.eta, hk.2, smB_no hs, Bool.not_false, cond_true, lngR, this, if_false, tm0]
  have hsz := hs.1
  refine ((s42 n).and ((s19 s).and ((s61 s head n hnr.1 (by omega) hsz).and (s59 (lng head n s))))).step fun k hk ρ K => ?_
  show Gc34_0 (Tabs k) ρ _ _ _ K = _
  have : 1 ≤ head ∧ head ≤ 3 ∧ (0 ≤ n ∧ n ≤ 9999) ∧ Small s := ⟨by omega, by omega, hnr, hs⟩
  simp only [Gc34_0, h1, h2, decide_false, cond_false, hk.1, hn, Bool.not_true, Sm.eta, Tm.eta, hk.2.1, smB_ok hs, hk.2.2.1, hk.2.2.2, lngR]
  rw [if_pos this]
  by_cases hp : Proper (lng head n s)
  · simp only [whole_ok hp, hp, if_true]
  · simp only [whole_no hp, hp, if_false]

theorem lngR_size (head n : Int) (s : Sm) : (lngR head n s).1.size ≤ 600 := by
  unfold lngR
  split
  · split
    · rename_i h; exact h.1
    · exact tm0_size
  · exact tm0_size

/-! ### Short -/

def strip : Tm → Nat × Tm
  | ⟨op, head, n, [b]⟩ => if op = 3 then ((strip b).1 + 1, (strip b).2) else (0, ⟨op, head, n, [b]⟩)
  | t => (0, t)

theorem strip_lams (k : Nat) (head n : Int) (l : List Tm) : strip (lams k ⟨4, head, n, l⟩) = (k, ⟨4, head, n, l⟩) := by
  induction k with
  | zero =>
    unfold lams strip
    split
    · rename_i h; cases h; rfl
    · rfl
  | succ k ih => simp only [lams, strip, if_true, ih]

/-- The head of which a term is a long form. -/
def shp : Nat → Tm → Option (Int × Int)
  | 0, _ => none
  | g + 1, t =>
    let k := (strip t).1
    let b := (strip t).2
    if b.op = 4 ∧ b.args.length = k ∧ (b.head = 1 → (k : Int) ≤ b.n) ∧ ((List.range k).all fun i => match b.args[i]? with | some x => shp g x == some (1, (k : Int) - 1 - i) | none => false) = true then
      some (b.head, if b.head = 1 then b.n - k else b.n)
    else none

theorem strip_size : ∀ (t : Tm) (d : Int), Form t d → (strip t).1 + (strip t).2.size = t.size ∧ Form (strip t).2 (d + (strip t).1)
  | ⟨op, head, n, [b]⟩, d, h => by
    unfold strip
    by_cases ho : op = 3
    · rw [if_pos ho]
      simp only [Form, FormL] at h
      obtain ⟨h1, h2⟩ := strip_size b (d + 1) h.2.2.1
      simp only [Tm.size, sizeL]
      refine ⟨by omega, ?_⟩
      rw [show d + (((strip b).1 + 1 : Nat) : Int) = d + 1 + ((strip b).1 : Int) by omega]
      exact h2
    · rw [if_neg ho]; simpa using h
  | ⟨op, head, n, []⟩, d, h => by simpa [strip] using h
  | ⟨op, head, n, a :: b :: l⟩, d, h => by simpa [strip] using h

theorem s35a : ∀ (t : Tm) (i d : Int), 0 ≤ i → i + t.size ≤ 2000 → Form t d → Evt fun k => ∀ ρ K, (Tabs k).l35_4_0 ρ i t K = K (i + (strip t).1) (strip t).2
  | ⟨op, head, n, [b]⟩, i, d, hi, hsz, h => by
    unfold strip
    by_cases ho : op = 3
    · subst ho
      rw [if_pos rfl]
      simp only [Form, FormL] at h
      simp only [Tm.size, sizeL] at hsz
      have hb0 : rdEl lay Key.tm ([b] : List Tm) (0 : Int) = b := rdTm0 b []
      refine (s35a b (i + 1) (d + 1) (by omega) (by omega) h.2.2.1).step fun k hk ρ K => ?_
      rw [show (Tabs (k + 1)).l35_4_0 = Gl35_4_0 (Tabs k) from rfl]
      simp only [Gl35_4_0, beq_self_eq_true, cond_true, show decide ((0 : Int) ≤ 0) = true by rfl, show decide ((0 : Int) < (([b] : List Tm).length : Int)) = true by rfl, Bool.and_true, hb0, Tm.eta, W_id (show -9223372036854775808 ≤ i + 1 by omega) (by omega), hk]
      congr 1; omega
    · rw [if_neg ho]
      refine Evt.step0 fun k ρ K => ?_
      rw [show (Tabs (k + 1)).l35_4_0 = Gl35_4_0 (Tabs k) from rfl]
      simp only [Gl35_4_0, show (op == 3) = false by simp [ho], cond_false, Tm.eta]
      congr 1; simp
  | ⟨op, head, n, []⟩, i, d, hi, hsz, h => by
    have ho : op ≠ 3 := by rintro rfl; simp [Form, nodeOk] at h
    refine Evt.step0 fun k ρ K => ?_
    rw [show (Tabs (k + 1)).l35_4_0 = Gl35_4_0 (Tabs k) from rfl]
    simp only [Gl35_4_0, show (op == 3) = false by simp [ho], cond_false, Tm.eta, strip]
    congr 1; simp
  | ⟨op, head, n, a :: b :: l⟩, i, d, hi, hsz, h => by
    have ho : op ≠ 3 := by rintro rfl; simp [Form, nodeOk] at h
    refine Evt.step0 fun k ρ K => ?_
    rw [show (Tabs (k + 1)).l35_4_0 = Gl35_4_0 (Tabs k) from rfl]
    simp only [Gl35_4_0, show (op == 3) = false by simp [ho], cond_false, Tm.eta, strip]
    congr 1; simp

theorem s36a : ∀ (t : Tm) (i d : Int), 0 ≤ i → i + t.size ≤ 2000 → Form t d → Evt fun k => ∀ ρ K, (Tabs k).l36_2_0 ρ i t K = K (i + (strip t).1) (strip t).2
  | ⟨op, head, n, [b]⟩, i, d, hi, hsz, h => by
    unfold strip
    by_cases ho : op = 3
    · subst ho
      rw [if_pos rfl]
      simp only [Form, FormL] at h
      simp only [Tm.size, sizeL] at hsz
      have hb0 : rdEl lay Key.tm ([b] : List Tm) (0 : Int) = b := rdTm0 b []
      refine (s36a b (i + 1) (d + 1) (by omega) (by omega) h.2.2.1).step fun k hk ρ K => ?_
      rw [show (Tabs (k + 1)).l36_2_0 = Gl36_2_0 (Tabs k) from rfl]
      simp only [Gl36_2_0, beq_self_eq_true, cond_true, show decide ((0 : Int) ≤ 0) = true by rfl, show decide ((0 : Int) < (([b] : List Tm).length : Int)) = true by rfl, Bool.and_true, hb0, Tm.eta, W_id (show -9223372036854775808 ≤ i + 1 by omega) (by omega), hk]
      congr 1; omega
    · rw [if_neg ho]
      refine Evt.step0 fun k ρ K => ?_
      rw [show (Tabs (k + 1)).l36_2_0 = Gl36_2_0 (Tabs k) from rfl]
      simp only [Gl36_2_0, show (op == 3) = false by simp [ho], cond_false, Tm.eta]
      congr 1; simp
  | ⟨op, head, n, []⟩, i, d, hi, hsz, h => by
    have ho : op ≠ 3 := by rintro rfl; simp [Form, nodeOk] at h
    refine Evt.step0 fun k ρ K => ?_
    rw [show (Tabs (k + 1)).l36_2_0 = Gl36_2_0 (Tabs k) from rfl]
    simp only [Gl36_2_0, show (op == 3) = false by simp [ho], cond_false, Tm.eta, strip]
    congr 1; simp
  | ⟨op, head, n, a :: b :: l⟩, i, d, hi, hsz, h => by
    have ho : op ≠ 3 := by rintro rfl; simp [Form, nodeOk] at h
    refine Evt.step0 fun k ρ K => ?_
    rw [show (Tabs (k + 1)).l36_2_0 = Gl36_2_0 (Tabs k) from rfl]
    simp only [Gl36_2_0, show (op == 3) = false by simp [ho], cond_false, Tm.eta, strip]
    congr 1; simp

/-- Whether the Args from a place on are the long forms of the variables. -/
def spn (g : Nat) (k : Int) : Int → List Tm → Bool
  | _, [] => true
  | i, x :: r => (shp g x == some (1, k - 1 - i)) && spn g k (i + 1) r

theorem spn_range (g : Nat) (k : Int) : ∀ (l : List Tm) (i : Int), spn g k i l = ((List.range l.length).all fun j => match l[j]? with | some x => shp g x == some (1, k - 1 - (i + j)) | none => false)
  | [], i => rfl
  | x :: r, i => by
    rw [spn, spn_range g k r (i + 1), List.length_cons, List.range_succ_eq_map, List.all_cons, List.all_map]
    simp only [List.getElem?_cons_zero, Int.natCast_zero, Int.add_zero]
    congr 1
    congr 1
    funext j
    simp only [Function.comp, List.getElem?_cons_succ]
    rw [show i + 1 + (j : Int) = i + ((j + 1 : Nat) : Int) by omega]

theorem shp_eq (g : Nat) (t : Tm) : shp (g + 1) t = if (strip t).2.op = 4 ∧ (strip t).2.args.length = (strip t).1 ∧ ((strip t).2.head = 1 → ((strip t).1 : Int) ≤ (strip t).2.n) ∧ spn g (strip t).1 0 (strip t).2.args = true then
      some ((strip t).2.head, if (strip t).2.head = 1 then (strip t).2.n - (strip t).1 else (strip t).2.n) else none := by
  rw [shp]
  by_cases h : (strip t).2.args.length = (strip t).1
  · have : ((List.range (strip t).1).all fun i => match (strip t).2.args[i]? with | some x => shp g x == some (1, ((strip t).1 : Int) - 1 - i) | none => false) = spn g (strip t).1 0 (strip t).2.args := by
      rw [spn_range, h]
      simp
    rw [this]
  · simp [h]

def shr (o : Option (Int × Int)) : Int × Int × Int :=
  match o with
  | some (h, n) => (h, n, 0)
  | none => (0, 0, 6)

theorem s35 : ∀ (g : Nat) (t : Tm), t.size ≤ g → Proper t → Evt fun k => ∀ ρ K, (Tabs k).c35_0 ρ t K = K (shr (shp g t)).1 (shr (shp g t)).2.1 (shr (shp g t)).2.2
  | 0, t, h, _ => by have := t.size_pos; omega
  | g + 1, t, hg, ht => by
    have hsz := ht.1
    obtain ⟨z1, z2⟩ := strip_size t 1 ht.2
    have g1 := s35a t 0 1 (by omega) (by omega) ht.2
    obtain ⟨b, hb⟩ : ∃ b, b = (strip t).2 := ⟨_, rfl⟩
    obtain ⟨k, hk⟩ : ∃ k, k = (strip t).1 := ⟨_, rfl⟩
    rw [shp_eq]
    rw [← hb, ← hk] at g1 z1 z2 ⊢
    obtain ⟨op, head, n, l⟩ := b
    simp only at z1 z2 ⊢
    have hn := z2.n
    have hsl := sizeL_len l
    simp only [Tm.size] at z1
    have hbase := (s53 t).and g1
    rw [Int.zero_add] at hbase
    by_cases c1 : op = 4
    rotate_left
    · refine hbase.step fun k' hk' ρ K => ?_
      show Gc35_0 (Tabs k') ρ _ K = _
      simp only [Gc35_0, Tm.eta, hk'.1, chk_ok ht, bne_self_eq_false, cond_false, hk'.2, show (op != 4) = true by simp [c1], cond_true, c1, false_and, if_false, shr]
    by_cases c2 : l.length = k
    rotate_left
    · refine hbase.step fun k' hk' ρ K => ?_
      show Gc35_0 (Tabs k') ρ _ K = _
      have e : ((l.length : Int) != (k : Int)) = true := by simp; omega
      simp only [Gc35_0, Tm.eta, hk'.1, chk_ok ht, bne_self_eq_false, cond_false, hk'.2, show (op != 4) = false by simp [c1], e, cond_true, c2, false_and, and_false, if_false, shr]
    have e2 : ((l.length : Int) != (k : Int)) = false := by simp; omega
    -- the loop
    have loop : ∀ (post pre : List Tm) (i : Int), l = pre ++ post → i = (pre.length : Int) →
        Evt fun k' => ∀ ρ K0 K1, (Tabs k').l35_10_0 ρ k l (l.length : Int) i ⟨op, head, n, l⟩ K0 K1 = cond (spn g k i post) (K1 k ⟨op, head, n, l⟩) (K0 0 0 6) := by
      intro post
      induction post with
      | nil =>
        intro pre i hl hi
        refine Evt.step0 fun k' ρ K0 K1 => ?_
        show Gl35_10_0 (Tabs k') ρ _ _ _ _ _ K0 K1 = _
        simp only [Gl35_10_0, endL hl hi, cond_false, Tm.eta, spn, cond_true]
      | cons x r ih =>
        intro pre i hl hi
        obtain ⟨m1, m2, m3⟩ := midTm hl hi
        have hlen := lenL hl hi
        simp only [List.length_cons] at hlen
        have hx : x ∈ l := by rw [hl]; simp
        have hxs := sizeL_mem hx
        simp only [Form] at z2
        have hxp : Proper x := ⟨by omega, Form.mono (by omega) (FormL_mem.1 z2.2.2 x hx)⟩
        have q1 := s35 g x (by omega) hxp
        have q2 := ih (pre ++ [x]) (i + 1) (nextL hl) (nextI hi)
        refine (q1.and q2).step fun k' hk' ρ K0 K1 => ?_
        show Gl35_10_0 (Tabs k') ρ _ _ _ _ _ K0 K1 = _
        simp only [Gl35_10_0, m1, m2, m3, cond_true, Bool.and_true, Tm.eta, hk'.1, W_id (show -9223372036854775808 ≤ (k : Int) - 1 by omega) (by omega), W_id (show -9223372036854775808 ≤ (k : Int) - 1 - i by omega) (by omega), W_id (show -9223372036854775808 ≤ i + 1 by omega) (by omega), hk'.2, spn]
        cases hs : shp g x with
        | none => simp [shr]
        | some q =>
          obtain ⟨qh, qn⟩ := q
          simp only [shr, bne_self_eq_false, cond_false]
          by_cases d1 : qh = 1
          · by_cases d2 : qn = (k : Int) - 1 - i
            · subst d1; subst d2; simp
            · have : ((some (qh, qn) : Option (Int × Int)) == some (1, (k : Int) - 1 - i)) = false := by simp [d2]
              simp [d1, d2, Bool.cond_eq_ite]
          · simp [d1, Bool.cond_eq_ite]
    have g2 := loop l [] 0 rfl rfl
    have hwn := W_id (show -9223372036854775808 ≤ n - (k : Int) by omega) (by omega)
    refine (hbase.and g2).step fun k' hk' ρ K => ?_
    show Gc35_0 (Tabs k') ρ _ K = _
    simp only [Gc35_0, Tm.eta, hk'.1.1, chk_ok ht, bne_self_eq_false, cond_false, hk'.1.2, show (op != 4) = false by simp [c1], e2, hwn]
    have hloop : ∀ K0 K1, (Tabs k').l35_10_0 ρ k l (l.length : Int) 0 ⟨op, head, n, l⟩ K0 K1 = cond (spn g k 0 l) (K1 k ⟨op, head, n, l⟩) (K0 0 0 6) := hk'.2 ρ
    rw [hloop]
    by_cases c3 : head = 1
    · by_cases c4 : n < (k : Int)
      · have : ¬ (k : Int) ≤ n := by omega
        simp [c3, c4, this, shr]
      · have : (k : Int) ≤ n := by omega
        cases hsp : spn g k 0 l <;> simp [c1, c2, c3, c4, this, shr, hwn]
    · cases hsp : spn g k 0 l <;> simp [c1, c2, c3, shr, Bool.cond_eq_ite]

theorem s35_no {t : Tm} (h : ¬ Proper t) : Evt fun k => ∀ ρ K, (Tabs k).c35_0 ρ t K = K 0 0 2 := by
  refine (s53 t).step fun k hk ρ K => ?_
  show Gc35_0 (Tabs k) ρ _ K = _
  simp [Gc35_0, Tm.eta, hk, chk_no h]

theorem s36 : ∀ (g : Nat) (t : Tm), t.size ≤ g → Proper t → ∃ (h n : Int) (b : Bool), (match shp g t with | some q => b = true ∧ q = (h, n) | none => b = false) ∧ Evt fun k => ∀ ρ K, (Tabs k).c36_0 ρ t K = K h n b
  | 0, t, h, _ => by have := t.size_pos; omega
  | g + 1, t, hg, ht => by
    have hsz := ht.1
    obtain ⟨z1, z2⟩ := strip_size t 1 ht.2
    have g1 := s36a t 0 1 (by omega) (by omega) ht.2
    obtain ⟨b, hb⟩ : ∃ b, b = (strip t).2 := ⟨_, rfl⟩
    obtain ⟨k, hk⟩ : ∃ k, k = (strip t).1 := ⟨_, rfl⟩
    rw [shp_eq]
    rw [← hb, ← hk] at g1 z1 z2 ⊢
    obtain ⟨op, head, n, l⟩ := b
    simp only at z1 z2 ⊢
    have hn := z2.n
    have hsl := sizeL_len l
    simp only [Tm.size] at z1
    rw [Int.zero_add] at g1
    by_cases c1 : op = 4
    rotate_left
    · refine ⟨0, 0, false, by simp [c1], g1.step fun k' hk' ρ K => ?_⟩
      show Gc36_0 (Tabs k') ρ _ K = _
      simp only [Gc36_0, Tm.eta, hk', show (op != 4) = true by simp [c1], cond_true]
    by_cases c2 : l.length = k
    rotate_left
    · refine ⟨0, 0, false, by simp [c2], g1.step fun k' hk' ρ K => ?_⟩
      show Gc36_0 (Tabs k') ρ _ K = _
      have e : ((l.length : Int) != (k : Int)) = true := by simp; omega
      simp only [Gc36_0, Tm.eta, hk', show (op != 4) = false by simp [c1], e, cond_true, cond_false]
    have e2 : ((l.length : Int) != (k : Int)) = false := by simp; omega
    have loop : ∀ (post pre : List Tm) (i : Int), l = pre ++ post → i = (pre.length : Int) →
        Evt fun k' => ∀ ρ K0 K1, (Tabs k').l36_8_0 ρ k i ⟨op, head, n, l⟩ K0 K1 = cond (spn g k i post) (K1 k ⟨op, head, n, l⟩) (K0 0 0 false) := by
      intro post
      induction post with
      | nil =>
        intro pre i hl hi
        refine Evt.step0 fun k' ρ K0 K1 => ?_
        show Gl36_8_0 (Tabs k') ρ _ _ _ K0 K1 = _
        have : decide (i < (k : Int)) = false := by rw [← c2]; exact endL hl hi
        simp only [Gl36_8_0, this, cond_false, Tm.eta, spn, cond_true]
      | cons x r ih =>
        intro pre i hl hi
        obtain ⟨m1, m2, m3⟩ := midTm hl hi
        have hlen := lenL hl hi
        simp only [List.length_cons] at hlen
        have hx : x ∈ l := by rw [hl]; simp
        have hxs := sizeL_mem hx
        simp only [Form] at z2
        have hxp : Proper x := ⟨by omega, Form.mono (by omega) (FormL_mem.1 z2.2.2 x hx)⟩
        obtain ⟨qh, qn, qb, hq, q1⟩ := s36 g x (by omega) hxp
        have q2 := ih (pre ++ [x]) (i + 1) (nextL hl) (nextI hi)
        have m2' : decide (i < (k : Int)) = true := by rw [← c2]; exact m2
        refine (q1.and q2).step fun k' hk' ρ K0 K1 => ?_
        show Gl36_8_0 (Tabs k') ρ _ _ _ K0 K1 = _
        simp only [Gl36_8_0, m1, m2, m2', m3, cond_true, Bool.and_true, Tm.eta, hk'.1, W_id (show -9223372036854775808 ≤ (k : Int) - 1 by omega) (by omega), W_id (show -9223372036854775808 ≤ (k : Int) - 1 - i by omega) (by omega), W_id (show -9223372036854775808 ≤ i + 1 by omega) (by omega), hk'.2, spn]
        cases hs : shp g x with
        | none => rw [hs] at hq; simp only at hq; subst hq; simp
        | some q =>
          rw [hs] at hq
          obtain ⟨rfl, rfl⟩ := hq
          by_cases d1 : qh = 1
          · by_cases d2 : qn = (k : Int) - 1 - i
            · subst d1; subst d2; simp
            · simp [d1, d2, Bool.cond_eq_ite]
          · simp [d1, Bool.cond_eq_ite]
    have g2 := loop l [] 0 rfl rfl
    have hwn := W_id (show -9223372036854775808 ≤ n - (k : Int) by omega) (by omega)
    have step : Evt fun k' => ∀ ρ K, (Tabs k').c36_0 ρ t K = cond (spn g k 0 l) (cond (head == 1) (K head (n - k) (decide (n ≥ (k : Int)))) (K head n true)) (K 0 0 false) := by
      refine (g1.and g2).step fun k' hk' ρ K => ?_
      show Gc36_0 (Tabs k') ρ _ K = _
      have hloop : ∀ K0 K1, (Tabs k').l36_8_0 ρ k 0 ⟨op, head, n, l⟩ K0 K1 = cond (spn g k 0 l) (K1 k ⟨op, head, n, l⟩) (K0 0 0 false) := hk'.2 ρ
      simp only [Gc36_0, Tm.eta, hk'.1, show (op != 4) = false by simp [c1], e2, cond_false, hloop, hwn]
    cases hsp : spn g k 0 l with
    | false =>
      rw [hsp] at step
      exact ⟨0, 0, false, by simp, step⟩
    | true =>
      rw [hsp] at step
      by_cases c3 : head = 1
      · refine ⟨head, n - k, decide (n ≥ (k : Int)), ?_, step.mono fun k' hk' ρ K => by rw [hk']; simp [c3]⟩
        by_cases c4 : (k : Int) ≤ n
        · simp [c1, c2, c3, c4]
        · simp [c3, c4] <;> omega
      · refine ⟨head, n, true, by simp [c1, c2, c3], step.mono fun k' hk' ρ K => by rw [hk']; simp [c3, Bool.cond_eq_ite]⟩

/-- The head of a long form. -/
theorem shp_lng : ∀ (g : Nat) (s : Sm) (head n : Int), s.size ≤ g → 0 ≤ n → shp g (lng head n s) = some (head, n)
  | 0, s, head, n, h, _ => by have := s.size_pos; omega
  | g + 1, ⟨args, con⟩, head, n, hg, hn => by
    simp only [Sm.size] at hg
    rw [shp_eq]
    simp only [lng, strip_lams, lngL_length]
    have hsp : ∀ (l : List Sm) (i k : Int), 0 ≤ i → i + l.length ≤ k → ssizeL l ≤ g → spn g k i (lngL (k - 1 - i) l) = true := by
      intro l
      induction l with
      | nil => intro i k _ _ _; rfl
      | cons a r ih =>
        intro i k hi hk hs
        simp only [ssizeL] at hs
        simp only [List.length_cons] at hk
        simp only [lngL, spn]
        rw [shp_lng g a 1 (k - 1 - i) (by omega) (by omega), show k - 1 - i - 1 = k - 1 - (i + 1) by omega, ih (i + 1) k (by omega) (by omega) (by omega)]
        simp
    have := hsp args 0 args.length (by omega) (by omega) (by omega)
    rw [Int.sub_zero] at this
    rw [if_pos ⟨trivial, trivial, fun h => by simp [h] <;> omega, this⟩]
    by_cases h1 : head = 1
    · simp [h1] <;> omega
    · simp [h1]

/-! ### Renamed -/

theorem s29 {cons : List Sm} (n m : Int) (hn : 0 ≤ n ∧ n ≤ 2000) (hm : n ≤ m ∧ m ≤ 2000) {Γ : List Sm} {t : Tm} {ty : List Sm} {c : Int} (h : Can cons Γ t ty c) : ∀ (b d : Int), 0 ≤ b → b + t.size ≤ 2000 → Form t d →
    Evt fun k => ∀ ρ K, (Tabs k).c29_0 ρ t n m b K = K (rn (reF (n + b) (m - n)) t) := by
  have loop : ∀ (op head nn b bb : Int) (a7 : Tm) (nn' : Int), bb = (if op = 3 then b + 1 else b) → 0 ≤ b → b ≤ 2000 → ∀ (post pre l acc : List Tm) (i : Int), l = pre ++ post → i = (pre.length : Int) → acc.length = pre.length → l.length ≤ 2000 →
      (∀ x ∈ post, Evt fun k => ∀ ρ K, (Tabs k).c29_0 ρ x n m bb K = K (rn (reF (n + bb) (m - n)) x)) →
      Evt fun k => ∀ ρ K, (Tabs k).l29_9_0 ρ n m b (l.length : Int) i ⟨op, head, nn, l⟩ a7 ⟨op, head, nn', acc⟩ K = K ⟨op, head, nn, l⟩ a7 ⟨op, head, nn', acc ++ post.map (rn (reF (n + bb) (m - n)))⟩ := by
    intro op head nn b bb a7 nn' hbb hb hb2 post
    induction post with
    | nil =>
      intro pre l acc i hl hi _ _ _
      refine Evt.step0 fun k ρ K => ?_
      show Gl29_9_0 (Tabs k) ρ _ _ _ _ _ _ _ _ K = _
      simp only [Gl29_9_0, endL hl hi, cond_false, Tm.eta, List.map_nil, List.append_nil]
    | cons x r ih =>
      intro pre l acc i hl hi ha hl2 hx
      obtain ⟨m1, m2, m3⟩ := midTm hl hi
      have hlen := lenL hl hi
      simp only [List.length_cons] at hlen
      have g1 := hx x (List.mem_cons_self ..)
      have g2 := ih (pre ++ [x]) l (acc ++ [rn (reF (n + bb) (m - n)) x]) (i + 1) (nextL hl) (nextI hi) (by simp [ha]) hl2 (fun y hy => hx y (List.mem_cons_of_mem _ hy))
      have hc : decide ((List.length acc + List.length [rn (reF (n + bb) (m - n)) x]) * 48 ≤ 140737488355328) = true := by
        simp only [decide_eq_true_eq, List.length_cons, List.length_nil]; omega
      have hwi := W_id (show -9223372036854775808 ≤ i + 1 by omega) (by omega)
      refine (g1.and g2).step fun k hk ρ K => ?_
      show Gl29_9_0 (Tabs k) ρ _ _ _ _ _ _ _ _ K = _
      by_cases ho : op = 3
      · rw [if_pos ho] at hbb
        have hwb : IntKind.wrap .i64 (b + 1) = bb := by rw [W_id (by omega) (by omega)]; exact hbb.symm
        simp only [Gl29_9_0, m1, m2, m3, cond_true, Bool.and_true, Tm.eta, show (op == 3) = true by simp [ho], hwb, hk.1, hc, hwi, hk.2, List.map_cons, List.append_assoc, List.singleton_append]
      · rw [if_neg ho] at hbb
        have hwb : IntKind.wrap .i64 (b + 0) = bb := by rw [W_id (by omega) (by omega)]; omega
        simp only [Gl29_9_0, m1, m2, m3, cond_true, cond_false, Bool.and_true, Tm.eta, show (op == 3) = false by simp [ho], hwb, hk.1, hc, hwi, hk.2, List.map_cons, List.append_assoc, List.singleton_append]
  induction h with
  | lam hb ih =>
    rename_i Γ x a ty c
    intro b d hb0 hsz hF
    simp only [Tm.size, sizeL] at hsz
    simp only [Form, FormL] at hF
    have g1 := loop 3 0 0 b (b + 1) ⟨0, 0, 0, []⟩ 0 (by simp) hb0 (by omega) [x] [] [x] [] 0 rfl rfl rfl (by simp) (by
      intro y hy
      rcases List.mem_singleton.1 hy with rfl
      exact ih (b + 1) (d + 1) (by omega) (by omega) hF.2.2.1)
    refine g1.step fun k hk ρ K => ?_
    rw [show (Tabs (k + 1)).c29_0 = Gc29_0 (Tabs k) from rfl]
    simp only [Gc29_0, show ((3 : Int) == 4) = false by rfl, cond_false, Tm.eta]
    rw [hk ρ, rn_lam, up_reF (by omega), show n + b + 1 = n + (b + 1) by omega]
    rfl
  | app he hc hl _ ih =>
    rename_i Γ head nn l h c _
    intro b d hb0 hsz hF
    simp only [Tm.size] at hsz
    have hnn := hF.n
    simp only [Form] at hF
    have hsl := sizeL_len l
    have hall : ∀ x ∈ l, Evt fun k => ∀ ρ K, (Tabs k).c29_0 ρ x n m b K = K (rn (reF (n + b) (m - n)) x) := by
      intro x hx
      obtain ⟨i, hi⟩ := List.getElem?_of_mem hx
      obtain ⟨a, ha⟩ : ∃ a, h.args[i]? = some a := by
        have := (List.getElem?_eq_some_iff.1 hi).1
        exact ⟨_, List.getElem?_eq_getElem (by omega)⟩
      have := sizeL_mem hx
      exact ih i x a hi ha b (d + 1) hb0 (by omega) (FormL_mem.1 hF.2.2 x hx)
    have g1 := loop 4 head nn b b ⟨0, 0, 0, []⟩ (if head = 1 then reF (n + b) (m - n) nn else nn) (by simp) hb0 (by omega) l [] l [] 0 rfl rfl rfl (by omega) hall
    refine g1.step fun k hk ρ K => ?_
    rw [show (Tabs (k + 1)).c29_0 = Gc29_0 (Tabs k) from rfl]
    rw [rn_app]
    have hw1 := W_id (show -9223372036854775808 ≤ n + b by omega) (by omega)
    have hw2 := W_id (show -9223372036854775808 ≤ m + b by omega) (by omega)
    have hw3 := W_id (show -9223372036854775808 ≤ nn - 1 by omega) (by omega)
    simp only [Gc29_0, show ((4 : Int) == 4) = true by rfl, cond_true, Tm.eta, hw1, hw2, hw3]
    simp only [List.nil_append] at hk
    by_cases h1 : head = 1
    · simp only [h1, if_true, beq_self_eq_true, cond_true] at hk ⊢
      by_cases h2 : nn = n + b
      · have e : reF (n + b) (m - n) nn = m + b := by unfold reF; rw [if_pos h2]; omega
        rw [e] at hk ⊢
        simp only [show (nn == n + b) = true by simp [h2], cond_true, hk]
      · by_cases h3 : nn > n + b
        · have e : reF (n + b) (m - n) nn = nn - 1 := by unfold reF; rw [if_neg h2, if_pos h3]
          rw [e] at hk ⊢
          simp only [show (nn == n + b) = false by simp [h2], cond_false, h3, decide_true, cond_true, hk]
        · have e : reF (n + b) (m - n) nn = nn := by unfold reF; rw [if_neg h2, if_neg h3]
          rw [e] at hk ⊢
          simp only [show (nn == n + b) = false by simp [h2], cond_false, h3, decide_false, hk]
    · simp only [h1, if_false] at hk ⊢
      simp only [show (head == 1) = false by simp [h1], cond_false, hk]

/-! ### The same simple types -/

noncomputable def eqS (a b : Sm) : Bool := by classical exact decide (a = b)
theorem eqS_iff {a b : Sm} : eqS a b = true ↔ a = b := by simp [eqS]

theorem s27 (a : Sm) : ∀ b : Sm, a.size ≤ 2000 → Evt fun k => ∀ ρ K, (Tabs k).c27_0 ρ a b K = K (eqS a b) := by
  refine Sm.ind (p := fun a => ∀ b : Sm, a.size ≤ 2000 → Evt fun k => ∀ ρ K, (Tabs k).c27_0 ρ a b K = K (eqS a b)) ?_ a
  intro args con ih b hsz
  obtain ⟨args', con'⟩ := b
  simp only [Sm.size] at hsz
  have loop : ∀ (post post' pre pre' l l' : List Sm) (i : Int), l = pre ++ post → l' = pre' ++ post' → pre.length = pre'.length → post.length = post'.length → i = (pre.length : Int) → ssizeL l ≤ 2000 →
      (∀ x ∈ post, ∀ b : Sm, x.size ≤ 2000 → Evt fun k => ∀ ρ K, (Tabs k).c27_0 ρ x b K = K (eqS x b)) →
      ∃ r : Bool, (r = true ↔ post = post') ∧ Evt fun k => ∀ ρ K0 K1, (Tabs k).l27_4_0 ρ i ⟨l, con⟩ ⟨l', con'⟩ K0 K1 = cond r K1 (K0 false) := by
    intro post
    induction post with
    | nil =>
      intro post' pre pre' l l' i hl hl' hpp hll hi _ _
      refine ⟨true, ?_, Evt.step0 fun k ρ K0 K1 => ?_⟩
      · cases post' with
        | nil => simp
        | cons _ _ => simp at hll
      · show Gl27_4_0 (Tabs k) ρ _ _ _ K0 K1 = _
        simp only [Gl27_4_0, endL hl hi, cond_false, cond_true]
    | cons x r ihl =>
      intro post' pre pre' l l' i hl hl' hpp hll hi hs hx
      cases post' with
      | nil => simp at hll
      | cons y r' =>
      obtain ⟨m1, m2, m3⟩ := midSm hl hi
      obtain ⟨n1, n2, n3⟩ := midSm hl' (i := i) (by rw [hi, hpp])
      have hlen := lenL hl hi
      have hsz : ssizeL l = ssizeL pre + (x.size + ssizeL r) := by rw [hl, ssizeL_append]; rfl
      have hl2 := ssizeL_len l
      simp only [List.length_cons] at hlen hll
      have g1 := hx x (List.mem_cons_self ..) y (by omega)
      obtain ⟨q, q1, q2⟩ := ihl r' (pre ++ [x]) (pre' ++ [y]) l l' (i + 1) (nextL hl) (nextL hl') (by simp [hpp]) (by omega) (nextI hi) hs (fun y hy => hx y (List.mem_cons_of_mem _ hy))
      refine ⟨eqS x y && q, ?_, (g1.and q2).step fun k hk ρ K0 K1 => ?_⟩
      · rw [Bool.and_eq_true, eqS_iff, q1, List.cons.injEq]
      · show Gl27_4_0 (Tabs k) ρ _ _ _ K0 K1 = _
        simp only [Gl27_4_0, m1, m2, m3, n1, n2, n3, cond_true, Bool.and_true, Sm.eta, hk.1, W_id (show -9223372036854775808 ≤ i + 1 by omega) (by omega), hk.2]
        cases eqS x y <;> rfl
  have no : (⟨args, con⟩ : Sm) ≠ ⟨args', con'⟩ → eqS ⟨args, con⟩ ⟨args', con'⟩ = false := fun h => by
    cases hb : eqS ⟨args, con⟩ ⟨args', con'⟩ with
    | false => rfl
    | true => exact absurd (eqS_iff.1 hb) h
  by_cases c : con = con' ∧ args.length = args'.length
  · obtain ⟨rfl, c4⟩ := c
    obtain ⟨r, q1, q2⟩ := loop args args' [] [] args args' 0 rfl rfl rfl c4 rfl (by omega) ih
    refine q2.step fun k hk ρ K => ?_
    show Gc27_0 (Tabs k) ρ _ _ K = _
    have e : eqS ⟨args, con⟩ ⟨args', con⟩ = r := by
      rw [Bool.eq_iff_iff, eqS_iff, q1]; simp
    rw [e]
    simp only [Gc27_0, bne_self_eq_false, cond_false, Sm.eta, hk, c4]
    cases r <;> rfl
  · refine Evt.step0 fun k ρ K => ?_
    show Gc27_0 (Tabs k) ρ _ _ K = _
    rw [no (by simp only [ne_eq, Sm.mk.injEq]; rintro ⟨e, a⟩; exact c ⟨a, by rw [e]⟩)]
    simp only [Gc27_0, Bool.cond_eq_ite]
    repeat' split
    all_goals first
      | rfl
      | (exfalso; simp only [bne_iff_ne, ne_eq, Decidable.not_not] at *; omega)

end Go.Proofs.Ytcgbfghdcjmaeaa.Ev
