/- This file proves that SubstAway returns true for every input; without any condition. -/
import Derived.Test.YtcgbfghdcjmaeaaP7
import Derived.Test.YtcgbfghdcjmaeaaA4
import Derived.Test.YtcgbfghdcjmaeaaRows
set_option linter.unusedVariables false
set_option linter.unusedSimpArgs false
namespace Go.Proofs.Ytcgbfghdcjmaeaa.Ev
open Go.Proofs Go.ChangeShapes Go.WideShapes Go.ChangeAt Go.RowKit

mutual
/-- Whether a free variable has a number from one to another. -/
def low (a b : Int) : Tm → Bool
  | ⟨op, head, n, args⟩ => decide (op = 4 ∧ head = 1 ∧ a ≤ n ∧ n ≤ b) || lowL a b op 0 args
def lowL (a b op i : Int) : List Tm → Bool
  | [] => false
  | x :: r => low (a + under op i) (b + under op i) x || lowL a b op (i + 1) r
end

theorem s50 (t : Tm) : ∀ a b : Int, 0 ≤ a → 0 ≤ b → a + t.size ≤ 11000 → b + t.size ≤ 11000 → Evt fun k => ∀ ρ K, (Tabs k).c50_0 ρ t a b K = K (low a b t) := by
  refine Tm.ind (p := fun t => ∀ a b : Int, 0 ≤ a → 0 ≤ b → a + t.size ≤ 11000 → b + t.size ≤ 11000 → Evt fun k => ∀ ρ K, (Tabs k).c50_0 ρ t a b K = K (low a b t)) ?_ t
  intro op head nn args ih a b ha hb ha2 hb2
  simp only [Tm.size] at ha2 hb2
  have loop : ∀ (post pre l : List Tm) (i : Int), l = pre ++ post → i = (pre.length : Int) → a + 1 + sizeL l ≤ 11000 → b + 1 + sizeL l ≤ 11000 →
      (∀ x ∈ post, ∀ a b : Int, 0 ≤ a → 0 ≤ b → a + x.size ≤ 11000 → b + x.size ≤ 11000 → Evt fun k => ∀ ρ K, (Tabs k).c50_0 ρ x a b K = K (low a b x)) →
      Evt fun k => ∀ ρ K0 K1, (Tabs k).l50_4_0 ρ a b i ⟨op, head, nn, l⟩ K0 K1 = cond (lowL a b op i post) (K1 true) K0 := by
    intro post
    induction post with
    | nil =>
      intro pre l i hl hi _ _ _
      refine Evt.step0 fun k ρ K0 K1 => ?_
      show Gl50_4_0 (Tabs k) ρ _ _ _ _ K0 K1 = _
      simp only [Gl50_4_0, endL hl hi, cond_false, lowL]
    | cons x r ihl =>
      intro pre l i hl hi hs1 hs2 hx
      obtain ⟨m1, m2, m3⟩ := midTm hl hi
      have hlen := lenL hl hi
      have hsz : sizeL l = sizeL pre + (x.size + sizeL r) := by rw [hl, sizeL_append]; rfl
      have hl2 := sizeL_len l
      have hu := under_nonneg op i
      simp only [List.length_cons] at hlen
      have g1 := hx x (List.mem_cons_self ..) (a + under op i) (b + under op i) (by omega) (by omega) (by omega) (by omega)
      have g2 := ihl (pre ++ [x]) l (i + 1) (nextL hl) (nextI hi) hs1 hs2 (fun y hy => hx y (List.mem_cons_of_mem _ hy))
      refine ((s72 ⟨op, head, nn, l⟩ i).and (g1.and g2)).step fun k hk ρ K0 K1 => ?_
      show Gl50_4_0 (Tabs k) ρ _ _ _ _ K0 K1 = _
      simp only [Gl50_4_0, m1, m2, m3, cond_true, Bool.and_true, Tm.eta, hk.1, W_id (show -9223372036854775808 ≤ a + under op i by omega) (by omega), W_id (show -9223372036854775808 ≤ b + under op i by omega) (by omega), hk.2.1, W_id (show -9223372036854775808 ≤ i + 1 by omega) (by omega), hk.2.2, lowL]
      cases low (a + under op i) (b + under op i) x <;> simp
  refine (loop args [] args 0 rfl rfl (by omega) (by omega) ih).step fun k hk ρ K => ?_
  show Gc50_0 (Tabs k) ρ _ _ _ K = _
  have hk' : ∀ K0 K1, (Tabs k).l50_4_0 ρ a b 0 ⟨op, head, nn, args⟩ K0 K1 = cond (lowL a b op 0 args) (K1 true) K0 := hk ρ
  simp only [Gc50_0, Tm.eta, hk', low]
  by_cases c1 : op = 4
  · by_cases c2 : head = 1
    · by_cases c3 : a ≤ nn
      · have c3' : nn ≥ a := c3
        by_cases c4 : nn ≤ b
        · simp [c1, c2, c3, c4]
        · simp [c1, c2, c3, c4]; cases lowL a b 4 0 args <;> rfl
      · simp [c1, c2, c3]; cases lowL a b 4 0 args <;> rfl
    · simp [c1, c2, Bool.cond_eq_ite]; cases lowL a b 4 0 args <;> rfl
  · simp [c1, Bool.cond_eq_ite]; cases lowL a b op 0 args <;> rfl

/-- The reference's shift of layer 3. -/
theorem s51 (by_ : Int) (hb : -9999 ≤ by_ ∧ by_ ≤ 9999) (t : Tm) : ∀ frm d : Int, 0 ≤ frm → frm + t.size ≤ 11000 → t.size ≤ 600 → Form t d → Evt fun k => ∀ ρ K, (Tabs k).c51_0 ρ t by_ frm K = K (mv by_ frm t) := by
  refine Tm.ind (p := fun t => ∀ frm d : Int, 0 ≤ frm → frm + t.size ≤ 11000 → t.size ≤ 600 → Form t d → Evt fun k => ∀ ρ K, (Tabs k).c51_0 ρ t by_ frm K = K (mv by_ frm t)) ?_ t
  intro op head nn args ih frm d h0 h1 h600 hF
  have loop : ∀ (post pre l acc : List Tm) (i : Int) (a5 : Tm) (nn' : Int), l = pre ++ post → i = (pre.length : Int) → acc.length = pre.length →
      (∀ x ∈ post, ∀ frm d : Int, 0 ≤ frm → frm + x.size ≤ 11000 → x.size ≤ 600 → Form x d → Evt fun k => ∀ ρ K, (Tabs k).c51_0 ρ x by_ frm K = K (mv by_ frm x)) →
      (∀ x ∈ post, Form x (d + 1)) → frm + 1 + sizeL l ≤ 11000 → sizeL l ≤ 600 →
      Evt fun k => ∀ ρ K, (Tabs k).l51_6_0 ρ by_ frm i ⟨op, head, nn, l⟩ a5 ⟨op, head, nn', acc⟩ K = K ⟨op, head, nn, l⟩ a5 ⟨op, head, nn', acc ++ mvL by_ frm op i post⟩ := by
    intro post
    induction post with
    | nil =>
      intro pre l acc i a5 nn' hl hi _ _ _ _ _
      refine Evt.step0 fun k ρ K => ?_
      show Gl51_6_0 (Tabs k) ρ _ _ _ _ _ _ K = _
      simp only [Gl51_6_0, endL hl hi, cond_false, Tm.eta, mvL, List.append_nil]
    | cons x r ihl =>
      intro pre l acc i a5 nn' hl hi ha hx hfx hs hs6
      obtain ⟨m1, m2, m3⟩ := midTm hl hi
      have hlen := lenL hl hi
      have hsz : sizeL l = sizeL pre + (x.size + sizeL r) := by rw [hl, sizeL_append]; rfl
      have hl2 := sizeL_len l
      have hu := under_nonneg op i
      simp only [List.length_cons] at hlen
      have g1 := hx x (List.mem_cons_self ..) (frm + under op i) (d + 1) (by omega) (by omega) (by omega) (hfx x (List.mem_cons_self ..))
      have g2 := ihl (pre ++ [x]) l (acc ++ [mv by_ (frm + under op i) x]) (i + 1) a5 nn' (nextL hl) (nextI hi) (by simp [ha]) (fun y hy => hx y (List.mem_cons_of_mem _ hy)) (fun y hy => hfx y (List.mem_cons_of_mem _ hy)) hs hs6
      refine ((s72 ⟨op, head, nn, l⟩ i).and (g1.and g2)).step fun k hk ρ K => ?_
      show Gl51_6_0 (Tabs k) ρ _ _ _ _ _ _ K = _
      have hc : decide ((List.length acc + List.length [mv by_ (frm + under op i) x]) * 48 ≤ 140737488355328) = true := by
        simp only [decide_eq_true_eq, List.length_cons, List.length_nil]; omega
      simp only [Gl51_6_0, m1, m2, m3, cond_true, Bool.and_true, Tm.eta, hk.1, W_id (show -9223372036854775808 ≤ frm + under op i by omega) (by omega), hk.2.1, hc, W_id (show -9223372036854775808 ≤ i + 1 by omega) (by omega), hk.2.2]
      rw [mvL, List.append_assoc]; rfl
  have hn := hF.n
  simp only [Tm.size] at h1 h600
  have hF' : ∀ x ∈ args, Form x (d + 1) := FormL_mem.1 (by simp only [Form] at hF; exact hF.2.2)
  refine (loop args [] args [] 0 ⟨0, 0, 0, []⟩ (if op = 4 ∧ head = 1 ∧ frm ≤ nn then nn + by_ else nn) rfl rfl rfl ih hF' (by omega) (by omega)).step fun k hk ρ K => ?_
  show Gc51_0 (Tabs k) ρ _ _ _ K = _
  simp only [Gc51_0, W_id (show -9223372036854775808 ≤ nn + by_ by omega) (by omega), mv, Tm.eta]
  by_cases c1 : op = 4
  · by_cases c2 : head = 1
    · by_cases c3 : frm ≤ nn
      · simp only [c1, c2, c3, and_self, if_true] at hk ⊢; simp [c3, hk, Tm.eta]
      · simp only [c1, c2, c3, and_false, if_false] at hk ⊢; simp [c3, hk, Tm.eta]
    · simp only [c1, c2, false_and, and_false, if_false] at hk ⊢; simp [c2, hk, Tm.eta, Bool.cond_eq_ite]
  · simp only [c1, false_and, if_false] at hk ⊢; simp [c1, hk, Tm.eta, Bool.cond_eq_ite]

/-! ### What is put for a variable that does not occur -/

mutual
theorem form_down : ∀ (t : Tm) (n d : Int), 0 ≤ n → low n n t = false → Form t d → Form (mv (-1) n t) d
  | ⟨op, head, nn, args⟩, n, d, hn, hl, hF => by
    simp only [Form] at hF
    simp only [low, Bool.or_eq_false_iff, decide_eq_false_iff_not] at hl
    simp only [mv, Form, mvL_length]
    refine ⟨hF.1, ?_, formL_down args op 0 n (d + 1) hn hl.2 hF.2.2⟩
    have h2 := hF.2.1
    have h3 := hl.1
    simp only [nodeOk] at h2 ⊢
    by_cases hc : op = 4 ∧ head = 1 ∧ n ≤ nn
    · simp only [if_pos hc]; omega
    · simp only [if_neg hc]; exact h2
theorem formL_down : ∀ (l : List Tm) (op i n d : Int), 0 ≤ n → lowL n n op i l = false → FormL l d → FormL (mvL (-1) n op i l) d
  | [], _, _, _, _, _, _, _ => by simp only [mvL, FormL]
  | x :: r, op, i, n, d, hn, hl, hF => by
    simp only [FormL] at hF
    simp only [lowL, Bool.or_eq_false_iff] at hl
    simp only [mvL, FormL]
    have := under_nonneg op i
    exact ⟨form_down x _ d (by omega) hl.1 hF.1, formL_down r op (i + 1) n d hn hl.2 hF.2⟩
end

theorem proper_down {t : Tm} {n : Int} (hn : 0 ≤ n) (hl : low n n t = false) (ht : Proper t) : Proper (mv (-1) n t) :=
  ⟨by rw [mv_size]; exact ht.1, form_down t n 1 hn hl ht.2⟩

theorem put_away (s : Tm) (a : Sm) : ∀ (g : Nat) (t : Tm) (n c : Int), 0 ≤ n → low n n t = false → Proper t → c + t.size ≤ 20000 → t.size ≤ g → put g t n s a c = (.ok (mv (-1) n t), c + t.size)
  | 0, t, n, c, _, _, _, _, hg => by have := t.size_pos; omega
  | g + 1, ⟨op, head, nn, args⟩, n, c, hn, hl, ht, hc, hg => by
    have hlist : ∀ (l : List Tm) (i c : Int), lowL n n op i l = false → (∀ x ∈ l, Proper x) → c + sizeL l ≤ 20000 → sizeL l ≤ g →
        putL (fun x m c => put g x m s a c) op n i l c = (.ok (mvL (-1) n op i l), c + sizeL l) := by
      intro l
      induction l with
      | nil => intro i c _ _ _ _; simp [putL, mvL, sizeL]
      | cons x r ih =>
        intro i c hlow hp hc hg
        simp only [lowL, Bool.or_eq_false_iff] at hlow
        simp only [sizeL] at hc hg
        have hu := under_nonneg op i
        have h1 := put_away s a g x (n + under op i) c (by omega) hlow.1 (hp x (List.mem_cons_self ..)) (by omega) (by omega)
        have h2 := ih (i + 1) (c + x.size) hlow.2 (fun y hy => hp y (List.mem_cons_of_mem _ hy)) (by omega) (by omega)
        simp only [putL, h1, h2, mvL, sizeL]
        simp; omega
    have hd := proper_down hn hl ht
    simp only [low, Bool.or_eq_false_iff, decide_eq_false_iff_not] at hl
    simp only [Tm.size] at hc hg
    have h1 := hlist args 0 (c + 1) hl.2 (fun x hx => ht.arg hx) (by omega) (by omega)
    have hhit : ¬ (op = 4 ∧ head = 1 ∧ nn = n) := by omega
    have hless : less op head nn n = if op = 4 ∧ head = 1 ∧ n ≤ nn then nn + -1 else nn := by
      unfold less
      have := hl.1
      split <;> split <;> omega
    rw [mv] at hd ⊢
    rw [put, if_neg (by omega)]
    simp only [h1, hhit, if_false, hless, whole_ok hd, Tm.size]
    simp; omega

theorem s20 (t : Tm) (n : Int) (hn : 0 ≤ n) (h : n + t.size ≤ 11000) : Evt fun k => ∀ ρ K, (Tabs k).c20_0 ρ t n K = K (low n n t) := by
  refine (s50 t n n hn hn h h).step fun k hk ρ K => ?_
  show Gc20_0 (Tabs k) ρ _ _ K = _
  have : n ≥ 0 := hn
  simp only [Gc20_0, this, decide_true, cond_true, Tm.eta, hk]

theorem s21 {t : Tm} {n : Int} (hn : 0 ≤ n) (hn2 : n ≤ 9999) (hl : low n n t = false) (ht : Proper t) : Evt fun k => ∀ ρ K, (Tabs k).c21_0 ρ t (-1) n K = K (mv (-1) n t) 0 := by
  have hsz := ht.1
  refine ((s18 t).and ((s50 t n n hn hn (by omega) (by omega)).and ((s51 (-1) (by omega) t n 1 hn (by omega) hsz ht.2).and (s18 (mv (-1) n t))))).step fun k hk ρ K => ?_
  show Gc21_0 (Tabs k) ρ _ _ _ K = _
  have e1 : ¬ n < 0 := by omega
  have e2 : ¬ n > 9999 := by omega
  have e3 : IntKind.wrap .i64 (n - -1) = n + 1 := by rw [W_id (by omega) (by omega)]; omega
  have e4 : IntKind.wrap .i64 (n + 1 - 1) = n := by rw [W_id (by omega) (by omega)]; omega
  simp only [Gc21_0, Tm.eta, hk.1, prB_ok ht, Bool.not_true, cond_false, show decide ((-1 : Int) < -9999) = false by rfl, show decide ((-1 : Int) > 9999) = false by rfl, e1, e2, decide_false, show decide ((-1 : Int) < 0) = true by rfl, cond_true, e3, e4, hk.2.1, hl, hk.2.2.1, hk.2.2.2, prB_ok (proper_down hn hl ht)]

theorem away_law (t : Tm) (n : Int) (s : Tm) (a : Sm) : Evt fun k => ∀ ρ K, (Tabs k).c4_0 ρ t.op t.head t.n t.args n s.op s.head s.n s.args a.args a.con K = K true := by
  have base := (s18 t).and ((s18 s).and ((s19 a).and awake_ok))
  have quick : (∀ k ρ K, (∀ ρ K, (Tabs k).c18_0 ρ t K = K (prB t)) ∧ (∀ ρ K, (Tabs k).c18_0 ρ s K = K (prB s)) ∧ (∀ ρ K, (Tabs k).c19_0 ρ a K = K (smB a)) ∧ (∀ ρ K, (Tabs k).c17_0 ρ K = K true) → Gc4_0 (Tabs k) ρ t.op t.head t.n t.args n s.op s.head s.n s.args a.args a.con K = K true) →
      Evt fun k => ∀ ρ K, (Tabs k).c4_0 ρ t.op t.head t.n t.args n s.op s.head s.n s.args a.args a.con K = K true := fun h => base.step fun k hk ρ K => h k ρ K hk
  by_cases ht : Proper t
  rotate_left
  · exact quick fun k ρ K hk => by simp only [Gc4_0, Tm.eta, Sm.eta, hk.1, prB_no ht, Bool.not_false, cond_true, hk.2.2.2]
  by_cases hs : Proper s
  rotate_left
  · exact quick fun k ρ K hk => by simp only [Gc4_0, Tm.eta, Sm.eta, hk.1, hk.2.1, prB_ok ht, prB_no hs, Bool.not_false, Bool.not_true, cond_false, cond_true, hk.2.2.2]
  by_cases ha : Small a
  rotate_left
  · exact quick fun k ρ K hk => by simp only [Gc4_0, Tm.eta, Sm.eta, hk.1, hk.2.1, hk.2.2.1, prB_ok ht, prB_ok hs, smB_no ha, Bool.not_false, Bool.not_true, cond_false, cond_true, hk.2.2.2]
  by_cases h1 : n < 0
  · exact quick fun k ρ K hk => by simp only [Gc4_0, Tm.eta, Sm.eta, hk.1, hk.2.1, hk.2.2.1, prB_ok ht, prB_ok hs, smB_ok ha, Bool.not_true, cond_false, h1, decide_true, cond_true, hk.2.2.2]
  by_cases h2 : n > 9999
  · exact quick fun k ρ K hk => by simp only [Gc4_0, Tm.eta, Sm.eta, hk.1, hk.2.1, hk.2.2.1, prB_ok ht, prB_ok hs, smB_ok ha, Bool.not_true, cond_false, h1, h2, decide_false, decide_true, cond_true, hk.2.2.2]
  have hsz := ht.1
  have h20 := s20 t n (by omega) (by omega)
  cases hl : low n n t with
  | true =>
    rw [hl] at h20
    refine (base.and h20).step fun k hk ρ K => ?_
    show Gc4_0 (Tabs k) ρ _ _ _ _ _ _ _ _ _ _ _ K = _
    simp only [Gc4_0, Tm.eta, Sm.eta, hk.1.1, hk.1.2.1, hk.1.2.2.1, prB_ok ht, prB_ok hs, smB_ok ha, Bool.not_true, cond_false, h1, h2, decide_false, cond_true, hk.1.2.2.2, hk.2]
  | false =>
    rw [hl] at h20
    have h14 := s14 t n s a
    have hg : goodB [t, s] [a] [n] = true := goodB_iff.2 ⟨by simp, by simp [ht, hs], by simp [ha], by simp; omega⟩
    have hp := put_away s a 20000 t n 0 (by omega) hl ht (by omega) (by omega)
    rw [hg, hp] at h14
    have h21 := s21 (t := t) (n := n) (by omega) (by omega) hl ht
    have h16 := s16 (a := mv (-1) n t) (mv (-1) n t) (by rw [mv_size]; omega) 0 0
    refine (base.and (h20.and (h14.and (h21.and h16)))).step fun k hk ρ K => ?_
    show Gc4_0 (Tabs k) ρ _ _ _ _ _ _ _ _ _ _ _ K = _
    have e1 : eqT (mv (-1) n t) (mv (-1) n t) = true := eqT_iff.2 rfl
    simp only [Gc4_0, Tm.eta, Sm.eta, hk.1.1, hk.1.2.1, hk.1.2.2.1, prB_ok ht, prB_ok hs, smB_ok ha, Bool.not_true, cond_false, h1, h2, decide_false, cond_true, hk.1.2.2.2, hk.2.1, hk.2.2.1, hk.2.2.2.1, hk.2.2.2.2, e1, beq_self_eq_true, Bool.and_true]

theorem away_main (pvs : List (PV sig)) (h : Alls (Arg Try.prog lay) Try.f4.params.toList pvs) : ∃ m, CallOk Try.prog lay 4 pvs [] (.ret (.d (.bool true)), m) := by
  rw [Try.params4] at h
  obtain ⟨p0, r0, rfl, h0, h⟩ := alls_cons h
  cases alls_nil h
  obtain ⟨t, n, s, a, rfl⟩ := arg_put h0
  obtain ⟨k, hk⟩ := (away_law t n s a).get
  exact ⟨[], of_levels levels fit dok (k := k) (Eq.trans (by kernel_rfl) (hk (Res sig × Mem sig) fun b => some (Res.ret (.d (.bool b)), [])))⟩

theorem away_lifted (os : Os) (started : os.Started) (H : Type) (enc : TypeId × Value → H) :
    ReturnsInHanded {} Try.checked os 4 .any (Rows.substAwaySpec.pre6 enc Try.prog Try.f4 Rows.substAwayRow.domain false) (Rows.substAwaySpec.post enc Try.prog Try.f4 false true false false) :=
  law_lifted (C := Try.checked) (tb := 4) rfl os started ownT laidT fit reads4 (by kernel_rfl) Try.func4 (c := textOf Try.prog 4) (by kernel_rfl) rfl H enc (by kernel_rfl) (by kernel_rfl) (by kernel_rfl)
    (fun ds h => by
      rw [Try.params4] at h
      match ds, h with
      | [d0], _ => rfl)
    (ChangeSpec.witness6 (enc := enc) (C := Try.checked) false ⟨#[], #[.agg #[.int .i64 0, .int .i64 0, .int .i64 0, .slice none 0 0, .int .i64 0, .int .i64 0, .int .i64 0, .int .i64 0, .slice none 0 0, .slice none 0 0, .int .i64 0]], []⟩ 8 (by kernel_rfl) (by kernel_rfl) (by kernel_rfl) (by kernel_rfl))
    away_main

theorem away_over : Rows.substAwayRow.holds Try.pinned (OpenSpec.ofChange Rows.substAwaySpec) :=
  OpenClaim.holds_of_wide 4 Try.f4 rfl rfl rfl rfl rfl rfl rfl ⟨rfl, rfl, rfl, rfl, rfl⟩ rfl rfl rfl rfl rfl (by kernel_rfl) Try.func4 (by kernel_rfl)
    (of_decide_eq_true (by kernel_rfl)) (by unfold Func.isWrapper; first | (rw [if_pos (by decide +kernel)]; kernel_rfl) | (rw [if_neg (by decide +kernel)]; exact ⟨rfl, rfl⟩))
    (fun os started H enc _ => away_lifted os started H enc)

end Go.Proofs.Ytcgbfghdcjmaeaa.Ev

namespace Go.Proofs.Ytcgbfghdcjmaeaa

/-- The statement. -/
theorem substAway_holds : Rows.SubstAwaySaid := Ev.away_over
#print axioms substAway_holds

end Go.Proofs.Ytcgbfghdcjmaeaa
