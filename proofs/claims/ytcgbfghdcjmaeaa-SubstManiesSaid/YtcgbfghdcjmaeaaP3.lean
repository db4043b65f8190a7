/- This file proves what the typed functions of layer 4 compute on terms: shifts, and what is proper by the reference; without any condition. -/
import Derived.Test.YtcgbfghdcjmaeaaP2
set_option linter.unusedVariables false
set_option linter.unusedSimpArgs false
namespace Go.Proofs.Ytcgbfghdcjmaeaa.Ev

/-- 'Each' with what 'Shift' asks, of a shift that lowers nothing. -/
theorem s84 (by_ frm : Int) (hb : 0 ≤ by_ ∧ by_ ≤ 9999) (hf : 0 ≤ frm ∧ frm ≤ 9999) (t : Tm) : ∀ (b d : Int) (gr : Bool), 0 ≤ b → b + t.size ≤ 2000 → Form t d →
    Evt fun k => ∀ ρ K, (Tabs k).c84_0 ρ t b frm false by_ gr K = K frm false by_ (gr || grt by_ (frm + b) t) := by
  refine Tm.ind (p := fun t => ∀ (b d : Int) (gr : Bool), 0 ≤ b → b + t.size ≤ 2000 → Form t d →
    Evt fun k => ∀ ρ K, (Tabs k).c84_0 ρ t b frm false by_ gr K = K frm false by_ (gr || grt by_ (frm + b) t)) ?_ t
  intro op head nn args ih b d gr h0 h1 hF
  have loop : ∀ (post pre l : List Tm) (i : Int) (gr : Bool), l = pre ++ post → i = (pre.length : Int) →
      (∀ x ∈ post, ∀ (b d : Int) (gr : Bool), 0 ≤ b → b + x.size ≤ 2000 → Form x d → Evt fun k => ∀ ρ K, (Tabs k).c84_0 ρ x b frm false by_ gr K = K frm false by_ (gr || grt by_ (frm + b) x)) →
      (∀ x ∈ post, Form x (d + 1)) → b + 1 + sizeL l ≤ 2000 →
      Evt fun k => ∀ ρ K, (Tabs k).l84_3_0 ρ b l (l.length : Int) i frm false by_ gr ⟨op, head, nn, l⟩ K = K frm false by_ (gr || grtL by_ (frm + b) op i post) := by
    intro post
    induction post with
    | nil =>
      intro pre l i gr hl hi _ _ _
      refine Evt.step0 fun k ρ K => ?_
      show Gl84_3_0 (Tabs k) ρ _ _ _ _ _ _ _ _ _ K = _
      simp only [Gl84_3_0, endL hl hi, cond_false, grtL, Bool.or_false]
    | cons x r ihl =>
      intro pre l i gr hl hi hx hfx hs
      obtain ⟨m1, m2, m3⟩ := midTm hl hi
      have hlen := lenL hl hi
      have hsz : sizeL l = sizeL pre + (x.size + sizeL r) := by rw [hl, sizeL_append]; rfl
      have hl2 := sizeL_len l
      have hu := under_nonneg op i
      simp only [List.length_cons] at hlen
      have g1 := hx x (List.mem_cons_self ..) (b + under op i) (d + 1) gr (by omega) (by omega) (hfx x (List.mem_cons_self ..))
      have g2 := ihl (pre ++ [x]) l (i + 1) (gr || grt by_ (frm + (b + under op i)) x) (nextL hl) (nextI hi) (fun y hy => hx y (List.mem_cons_of_mem _ hy)) (fun y hy => hfx y (List.mem_cons_of_mem _ hy)) hs
      refine ((s70 ⟨op, head, nn, l⟩ i).and (g1.and g2)).step fun k hk ρ K => ?_
      show Gl84_3_0 (Tabs k) ρ _ _ _ _ _ _ _ _ _ K = _
      simp only [Gl84_3_0, m1, m2, m3, cond_true, Bool.and_true, Tm.eta, hk.1, W_id (show -9223372036854775808 ≤ b + under op i by omega) (by omega), hk.2.1, W_id (show -9223372036854775808 ≤ i + 1 by omega) (by omega), hk.2.2]
      rw [grtL, Bool.or_assoc, ← Int.add_assoc]
  have hs : b + 1 + sizeL args ≤ 2000 := by simp only [Tm.size] at h1; omega
  have hn := hF.n
  have h85 : Evt fun k => ∀ ρ K, (Tabs k).c85_0 ρ ⟨op, head, nn, args⟩ b frm false by_ gr K = K frm false by_ (gr || decide (op = 4 ∧ head = 1 ∧ frm + b ≤ nn ∧ 9999 < nn + by_)) := by
    refine Evt.step0 fun k ρ K => ?_
    show Gc85_0 (Tabs k) ρ _ _ _ _ _ _ K = _
    have hneg : ¬ by_ < 0 := by omega
    simp only [Gc85_0, W_id (show -9223372036854775808 ≤ nn + by_ by omega) (by omega), W_id (show -9223372036854775808 ≤ nn - b by omega) (by omega), hneg, decide_false, cond_false]
    by_cases c1 : op = 4
    · by_cases c2 : head = 1
      · by_cases c3 : frm + b ≤ nn
        · have : nn - b ≥ frm := by omega
          cases gr <;> simp [c1, c2, c3, this, Bool.cond_eq_ite]
        · have : ¬ nn - b ≥ frm := by omega
          cases gr <;> simp [c1, c2, c3, this, Bool.cond_eq_ite]
      · cases gr <;> simp [c1, c2, Bool.cond_eq_ite]
    · cases gr <;> simp [c1, Bool.cond_eq_ite]
  have hF' : ∀ x ∈ args, Form x (d + 1) := FormL_mem.1 (by simp only [Form] at hF; exact hF.2.2)
  refine (h85.and (loop args [] args 0 (gr || decide (op = 4 ∧ head = 1 ∧ frm + b ≤ nn ∧ 9999 < nn + by_)) rfl rfl ih hF' hs)).step fun k hk ρ K => ?_
  show Gc84_0 (Tabs k) ρ _ _ _ _ _ _ K = _
  simp only [Gc84_0, hk.1, Tm.eta, hk.2, grt, Bool.or_assoc]

def tm0 : Tm := ⟨0, 0, 0, []⟩

theorem s77_ok {t : Tm} {by_ : Int} (hb : 0 ≤ by_ ∧ by_ ≤ 9999) (ht : Proper t) (h : Proper (mv by_ 0 t)) : Evt fun k => ∀ ρ K, (Tabs k).c77_0 ρ t by_ 0 K = K (mv by_ 0 t) 0 := by
  refine ((s53 t).and ((s84 by_ 0 hb (by omega) t 0 1 false (by omega) (by have := ht.1; omega) ht.2).and (s86 (by_ := by_) (by omega) (show (0 : Int) ≤ 0 ∧ (0 : Int) ≤ 9999 by omega) ht))).step fun k hk ρ K => ?_
  show Gc77_0 (Tabs k) ρ _ _ _ K = _
  have e1 : ¬ by_ < -9999 := by omega
  have e2 : ¬ by_ > 9999 := by omega
  have e3 : grt by_ 0 t = false := (proper_mv hb.1 ht 0).1 h
  simp [Gc77_0, Tm.eta, hk.1, chk_ok ht, e1, e2, hk.2.1, hk.2.2, e3]

theorem s77_no {t : Tm} {by_ : Int} (hb : 0 ≤ by_ ∧ by_ ≤ 9999) (ht : Proper t) (h : ¬ Proper (mv by_ 0 t)) : Evt fun k => ∀ ρ K, (Tabs k).c77_0 ρ t by_ 0 K = K tm0 5 := by
  refine ((s53 t).and (s84 by_ 0 hb (by omega) t 0 1 false (by omega) (by have := ht.1; omega) ht.2)).step fun k hk ρ K => ?_
  show Gc77_0 (Tabs k) ρ _ _ _ K = _
  have e1 : ¬ by_ < -9999 := by omega
  have e2 : ¬ by_ > 9999 := by omega
  have e3 : grt by_ 0 t = true := by
    cases hg : grt by_ 0 t with
    | true => rfl
    | false => exact absurd ((proper_mv hb.1 ht 0).2 hg) h
  simp [Gc77_0, Tm.eta, hk.1, chk_ok ht, e1, e2, hk.2, e3, tm0]

theorem s58_ok {t : Tm} {by_ : Int} (hb : 0 ≤ by_ ∧ by_ ≤ 9999) (ht : Proper t) (h : Proper (mv by_ 0 t)) : Evt fun k => ∀ ρ K0 K1, (Tabs k).c58_0 ρ t by_ K0 K1 = K1 (mv by_ 0 t) := by
  refine (s77_ok hb ht h).step fun k hk ρ K0 K1 => ?_
  show Gc58_0 (Tabs k) ρ _ _ K0 K1 = _
  simp [Gc58_0, Tm.eta, hk]

theorem s58_no {t : Tm} {by_ : Int} (hb : 0 ≤ by_ ∧ by_ ≤ 9999) (ht : Proper t) (h : ¬ Proper (mv by_ 0 t)) : Evt fun k => ∀ ρ K0 K1, (Tabs k).c58_0 ρ t by_ K0 K1 = K0 5 := by
  refine ((s77_no hb ht h).and (s62 5)).step fun k hk ρ K0 K1 => ?_
  show Gc58_0 (Tabs k) ρ _ _ K0 K1 = _
  simp [Gc58_0, Tm.eta, hk.1, hk.2]

/-! ### The reference -/

theorem min2_eq (a b : Int) : min2 a b = min a b := by unfold min2; split <;> omega

theorem s47 (t : Tm) : ∀ most : Int, 0 ≤ most → most ≤ 600 → Evt fun k => ∀ ρ K, (Tabs k).c47_0 ρ t most K = K (min (t.size : Int) (most + 1)) := by
  refine Tm.ind (p := fun t => ∀ most : Int, 0 ≤ most → most ≤ 600 → Evt fun k => ∀ ρ K, (Tabs k).c47_0 ρ t most K = K (min (t.size : Int) (most + 1))) ?_ t
  intro op head nn args ih most h0 h1
  have loop : ∀ (post pre l : List Tm) (i n : Int), l = pre ++ post → i = (pre.length : Int) → i < n → 1 ≤ n → n ≤ most + 1 →
      (∀ x ∈ post, ∀ most : Int, 0 ≤ most → most ≤ 600 → Evt fun k => ∀ ρ K, (Tabs k).c47_0 ρ x most K = K (min (x.size : Int) (most + 1))) →
      Evt fun k => ∀ ρ K, (Tabs k).l47_3_0 ρ most n i ⟨op, head, nn, l⟩ K = K most (min (n + sizeL post) (most + 1)) := by
    intro post
    induction post with
    | nil =>
      intro pre l i n hl hi hin hn hn1 _
      refine Evt.step0 fun k ρ K => ?_
      show Gl47_3_0 (Tabs k) ρ _ _ _ _ K = _
      simp only [Gl47_3_0, endL hl hi, cond_false, sizeL]
      congr 1; omega
    | cons x r ihl =>
      intro pre l i n hl hi hin hn hn1 hx
      obtain ⟨m1, m2, m3⟩ := midTm hl hi
      have hpos := x.size_pos
      by_cases hm : n ≤ most
      · have g1 := hx x (List.mem_cons_self ..) (most - n) (by omega) (by omega)
        have g2 := ihl (pre ++ [x]) l (i + 1) (n + min (x.size : Int) (most - n + 1)) (nextL hl) (nextI hi) (by omega) (by omega) (by omega) (fun y hy => hx y (List.mem_cons_of_mem _ hy))
        refine (g1.and g2).step fun k hk ρ K => ?_
        show Gl47_3_0 (Tabs k) ρ _ _ _ _ K = _
        simp only [Gl47_3_0, m1, m2, m3, hm, decide_true, cond_true, Bool.and_true, Tm.eta, W_id (show -9223372036854775808 ≤ most - n by omega) (by omega), hk.1, W_id (show -9223372036854775808 ≤ n + min (x.size : Int) (most - n + 1) by omega) (by omega), W_id (show -9223372036854775808 ≤ i + 1 by omega) (by omega), hk.2]
        congr 1; simp only [sizeL]; omega
      · refine Evt.step0 fun k ρ K => ?_
        show Gl47_3_0 (Tabs k) ρ _ _ _ _ K = _
        simp only [Gl47_3_0, m2, hm, decide_false, cond_true, cond_false]
        congr 1; omega
  refine (loop args [] args 0 1 rfl rfl (by omega) (by omega) (by omega) ih).step fun k hk ρ K => ?_
  show Gc47_0 (Tabs k) ρ _ _ K = _
  simp only [Gc47_0, Tm.eta, hk, W_id (show -9223372036854775808 ≤ most + 1 by omega) (by omega), min2_eq, Tm.size]
  congr 1; omega

noncomputable def formB (t : Tm) (d : Int) : Bool := by classical exact decide (Form t d)
theorem formB_iff {t : Tm} {d : Int} : formB t d = true ↔ Form t d := by simp [formB]

theorem s48 (t : Tm) : ∀ d : Int, 0 ≤ d → d ≤ 41 → t.size ≤ 600 → Evt fun k => ∀ ρ K, (Tabs k).c48_0 ρ t d K = K (formB t d) := by
  refine Tm.ind (p := fun t => ∀ d : Int, 0 ≤ d → d ≤ 41 → t.size ≤ 600 → Evt fun k => ∀ ρ K, (Tabs k).c48_0 ρ t d K = K (formB t d)) ?_ t
  intro op head nn args ih d h0 h1 hs
  have no : ¬ Form ⟨op, head, nn, args⟩ d → formB ⟨op, head, nn, args⟩ d = false := fun h => by
    cases hb : formB ⟨op, head, nn, args⟩ d with
    | false => rfl
    | true => exact absurd (formB_iff.1 hb) h
  by_cases hd : d > 40
  · refine Evt.step0 fun k ρ K => ?_
    show Gc48_0 (Tabs k) ρ _ _ K = _
    rw [no (by simp only [Form]; omega)]
    simp only [Gc48_0, hd, decide_true, cond_true]
  have loop : ∀ (post pre l : List Tm) (i : Int), l = pre ++ post → i = (pre.length : Int) → sizeL l ≤ 600 →
      (∀ x ∈ post, ∀ d : Int, 0 ≤ d → d ≤ 41 → x.size ≤ 600 → Evt fun k => ∀ ρ K, (Tabs k).c48_0 ρ x d K = K (formB x d)) →
      Evt fun k => ∀ ρ K0 K1, (Tabs k).l48_18_0 ρ d i ⟨op, head, nn, l⟩ K0 K1 = cond (post.all fun x => formB x (d + 1)) K1 (K0 false) := by
    intro post
    induction post with
    | nil =>
      intro pre l i hl hi _ _
      refine Evt.step0 fun k ρ K0 K1 => ?_
      show Gl48_18_0 (Tabs k) ρ _ _ _ K0 K1 = _
      simp only [Gl48_18_0, endL hl hi, cond_false, List.all_nil, cond_true]
    | cons x r ihl =>
      intro pre l i hl hi hs hx
      obtain ⟨m1, m2, m3⟩ := midTm hl hi
      have hlen := lenL hl hi
      have hsz : sizeL l = sizeL pre + (x.size + sizeL r) := by rw [hl, sizeL_append]; rfl
      have hl2 := sizeL_len l
      simp only [List.length_cons] at hlen
      have g1 := hx x (List.mem_cons_self ..) (d + 1) (by omega) (by omega) (by omega)
      have g2 := ihl (pre ++ [x]) l (i + 1) (nextL hl) (nextI hi) hs (fun y hy => hx y (List.mem_cons_of_mem _ hy))
      refine (g1.and g2).step fun k hk ρ K0 K1 => ?_
      show Gl48_18_0 (Tabs k) ρ _ _ _ K0 K1 = _
      simp only [Gl48_18_0, m1, m2, m3, cond_true, Bool.and_true, Tm.eta, W_id (show -9223372036854775808 ≤ d + 1 by omega) (by omega), hk.1, W_id (show -9223372036854775808 ≤ i + 1 by omega) (by omega), hk.2, List.all_cons]
      cases formB x (d + 1) <;> rfl
  simp only [Tm.size] at hs
  refine (loop args [] args 0 rfl rfl (by omega) ih).step fun k hk ρ K => ?_
  show Gc48_0 (Tabs k) ρ _ _ K = _
  have hall : (args.all fun x => formB x (d + 1)) = true ↔ FormL args (d + 1) := by
    rw [List.all_eq_true, FormL_mem]
    exact ⟨fun h x hx => formB_iff.1 (h x hx), fun h x hx => formB_iff.2 (h x hx)⟩
  have hk' : ∀ K0 K1, (Tabs k).l48_18_0 ρ d 0 ⟨op, head, nn, args⟩ K0 K1 = cond (args.all fun x => formB x (d + 1)) K1 (K0 false) := hk ρ
  simp only [Gc48_0, hd, Tm.eta, hk', decide_false, cond_false]
  by_cases hn : nodeOk op head nn args.length
  · have e : formB ⟨op, head, nn, args⟩ d = (args.all fun x => formB x (d + 1)) := by
      rw [Bool.eq_iff_iff, formB_iff, hall]; simp only [Form]
      exact ⟨fun h => h.2.2, fun h => ⟨by omega, hn, h⟩⟩
    rw [e]
    simp only [nodeOk] at hn
    rcases hn with ⟨rfl, rfl, rfl, h⟩ | ⟨rfl, rfl, rfl, h⟩ | ⟨rfl, rfl, rfl, h⟩ | ⟨rfl, h1, h2, h3, h4⟩
    · cases args.all fun x => formB x (d + 1) <;> simp [h]
    · cases args.all fun x => formB x (d + 1) <;> simp [h]
    · cases args.all fun x => formB x (d + 1) <;> simp [h]
    · have a1 : ¬ head < 1 := by omega
      have a2 : ¬ head > 3 := by omega
      have a3 : ¬ nn < 0 := by omega
      have a4 : ¬ nn > 9999 := by omega
      cases args.all fun x => formB x (d + 1) <;> simp [a1, a2, a3, a4]
  · rw [no (by simp only [Form]; exact fun h => hn h.2.1)]
    simp only [Bool.cond_eq_ite]
    repeat' split
    all_goals first
      | rfl
      | (exfalso; simp only [nodeOk, decide_eq_true_eq, beq_iff_eq, bne_iff_ne, ne_eq, Decidable.not_not] at *; omega)

theorem s18 (t : Tm) : Evt fun k => ∀ ρ K, (Tabs k).c18_0 ρ t K = K (prB t) := by
  by_cases h : t.size ≤ 600
  · refine ((s47 t 600 (by omega) (by omega)).and (s48 t 1 (by omega) (by omega) h)).step fun k hk ρ K => ?_
    show Gc18_0 (Tabs k) ρ _ K = _
    have e : min (t.size : Int) (600 + 1) ≤ 600 := by omega
    simp only [Gc18_0, Tm.eta, hk.1, e, decide_true, cond_true, hk.2]
    congr 1
    rw [Bool.eq_iff_iff, formB_iff, prB_iff]
    exact ⟨fun g => ⟨h, g⟩, fun g => g.2⟩
  · refine (s47 t 600 (by omega) (by omega)).step fun k hk ρ K => ?_
    show Gc18_0 (Tabs k) ρ _ K = _
    have e : ¬ min (t.size : Int) (600 + 1) ≤ 600 := by omega
    simp only [Gc18_0, Tm.eta, hk, e, decide_false, cond_false]
    rw [prB_no fun g => h g.1]

theorem s59_ok {t : Tm} (h : Proper t) : Evt fun k => ∀ ρ K, (Tabs k).c59_0 ρ t K = K t 0 := by
  refine (s18 t).step fun k hk ρ K => ?_
  show Gc59_0 (Tabs k) ρ _ K = _
  simp [Gc59_0, Tm.eta, hk, prB_ok h]

theorem s59_no {t : Tm} (h : ¬ Proper t) : Evt fun k => ∀ ρ K, (Tabs k).c59_0 ρ t K = K tm0 5 := by
  refine (s18 t).step fun k hk ρ K => ?_
  show Gc59_0 (Tabs k) ρ _ K = _
  simp [Gc59_0, Tm.eta, hk, prB_no h, tm0]

/-- The reference's shift. -/
theorem s78 (by_ : Int) (hb : -9999 ≤ by_ ∧ by_ ≤ 9999) (t : Tm) : ∀ frm d : Int, 0 ≤ frm → frm + t.size ≤ 11000 → t.size ≤ 600 → Form t d → Evt fun k => ∀ ρ K, (Tabs k).c78_0 ρ t by_ frm K = K (mv by_ frm t) := by
  refine Tm.ind (p := fun t => ∀ frm d : Int, 0 ≤ frm → frm + t.size ≤ 11000 → t.size ≤ 600 → Form t d → Evt fun k => ∀ ρ K, (Tabs k).c78_0 ρ t by_ frm K = K (mv by_ frm t)) ?_ t
  intro op head nn args ih frm d h0 h1 h600 hF
  have loop : ∀ (post pre l acc : List Tm) (i : Int) (a5 : Tm) (nn' : Int), l = pre ++ post → i = (pre.length : Int) → acc.length = pre.length →
      (∀ x ∈ post, ∀ frm d : Int, 0 ≤ frm → frm + x.size ≤ 11000 → x.size ≤ 600 → Form x d → Evt fun k => ∀ ρ K, (Tabs k).c78_0 ρ x by_ frm K = K (mv by_ frm x)) →
      (∀ x ∈ post, Form x (d + 1)) → frm + 1 + sizeL l ≤ 11000 → sizeL l ≤ 600 →
      Evt fun k => ∀ ρ K, (Tabs k).l78_6_0 ρ by_ frm i ⟨op, head, nn, l⟩ a5 ⟨op, head, nn', acc⟩ K = K ⟨op, head, nn, l⟩ a5 ⟨op, head, nn', acc ++ mvL by_ frm op i post⟩ := by
    intro post
    induction post with
    | nil =>
      intro pre l acc i a5 nn' hl hi _ _ _ _ _
      refine Evt.step0 fun k ρ K => ?_
      show Gl78_6_0 (Tabs k) ρ _ _ _ _ _ _ K = _
      simp only [Gl78_6_0, endL hl hi, cond_false, Tm.eta, mvL, List.append_nil]
    | cons x r ihl =>
      intro pre l acc i a5 nn' hl hi ha hx hfx hs hs6
      obtain ⟨m1, m2, m3⟩ := midTm hl hi
      have hlen := lenL hl hi
      have hsz : sizeL l = sizeL pre + (x.size + sizeL r) := by rw [hl, sizeL_append]; rfl
      have hl2 := sizeL_len l
      have hu := under_nonneg op i
      simp only [List.length_cons] at hlen
      have g1 := hx x (List.mem_cons_self ..) (frm + under op i) (d + 1) (by omega) (by omega) (by omega) (hfx x (List.mem_cons_self ..))
      have g2 := ihl (pre ++ [x]) l (acc ++ [mv by_ (frm + under op i) x]) (i + 1) a5 nn' (nextL hl) (nextI hi) (by simp [ha]) (fun y hy => hx y (List.mem_cons_of_mem _ hy)) (fun y hy => hfx y (List.mem_cons_of_mem _ hy)) hs hs6
      refine (g1.and g2).step fun k hk ρ K => ?_
      show Gl78_6_0 (Tabs k) ρ _ _ _ _ _ _ K = _
      have hc : decide ((List.length acc + List.length [mv by_ (frm + under op i) x]) * 48 ≤ 140737488355328) = true := by
        simp only [decide_eq_true_eq, List.length_cons, List.length_nil]; omega
      have hgoal : K ⟨op, head, nn, l⟩ a5 ⟨op, head, nn', acc ++ mvL by_ frm op i (x :: r)⟩ = K ⟨op, head, nn, l⟩ a5 ⟨op, head, nn', (acc ++ [mv by_ (frm + under op i) x]) ++ mvL by_ frm op (i + 1) r⟩ := by
        rw [mvL, List.append_assoc]; rfl
      rw [hgoal, ← hk.2 ρ K]
      have hw1 := W_id (show -9223372036854775808 ≤ frm + 1 by omega) (by omega)
      have hw0 := W_id (show -9223372036854775808 ≤ frm + 0 by omega) (by omega)
      have hwi := W_id (show -9223372036854775808 ≤ i + 1 by omega) (by omega)
      by_cases c1 : op = 3
      · have hun : under op i = 1 := by simp [under, c1]
        rw [hun] at hk hc ⊢
        simp only [Gl78_6_0, m1, m2, m3, cond_true, Bool.and_true, Tm.eta, hw1, hk.1, hc, hwi, show (op == 3) = true by simp [c1]]
      · by_cases c2 : op = 2 ∧ i = 1
        · have hun : under op i = 1 := by simp [under, c2]
          rw [hun] at hk hc ⊢
          have c2' := c2.1
          have c2'' := c2.2
          simp only [Gl78_6_0, m1, m2, m3, cond_true, cond_false, Bool.and_true, Tm.eta, hw1, hk.1, hc, hwi, show (op == 3) = false by simp [c1], show (op == 2) = true by simp [c2'], show (i == 1) = true by simp [c2'']]
        · have hun : under op i = 0 := by simp [under, c1, c2]
          rw [hun] at hk hc ⊢
          by_cases c3 : op = 2
          · have c4 : i ≠ 1 := fun h => c2 ⟨c3, h⟩
            simp only [Gl78_6_0, m1, m2, m3, cond_true, cond_false, Bool.and_true, Tm.eta, hw0, hk.1, hc, hwi, show (op == 3) = false by simp [c1], show (op == 2) = true by simp [c3], show (i == 1) = false by simp [c4]]
          · simp only [Gl78_6_0, m1, m2, m3, cond_true, cond_false, Bool.and_true, Tm.eta, hw0, hk.1, hc, hwi, show (op == 3) = false by simp [c1], show (op == 2) = false by simp [c3]]
  have hn := hF.n
  simp only [Tm.size] at h1 h600
  have hF' : ∀ x ∈ args, Form x (d + 1) := FormL_mem.1 (by simp only [Form] at hF; exact hF.2.2)
  refine (loop args [] args [] 0 ⟨0, 0, 0, []⟩ (if op = 4 ∧ head = 1 ∧ frm ≤ nn then nn + by_ else nn) rfl rfl rfl ih hF' (by omega) (by omega)).step fun k hk ρ K => ?_
  show Gc78_0 (Tabs k) ρ _ _ _ K = _
  simp only [Gc78_0, W_id (show -9223372036854775808 ≤ nn + by_ by omega) (by omega), mv, Tm.eta]
  by_cases c1 : op = 4
  · by_cases c2 : head = 1
    · by_cases c3 : frm ≤ nn
      · simp only [c1, c2, c3, and_self, if_true] at hk ⊢; simp [c3, hk, Tm.eta]
      · simp only [c1, c2, c3, and_false, if_false] at hk ⊢; simp [c3, hk, Tm.eta]
    · simp only [c1, c2, false_and, and_false, if_false] at hk ⊢; simp [c2, hk, Tm.eta, Bool.cond_eq_ite]
  · simp only [c1, false_and, if_false] at hk ⊢; simp [c1, hk, Tm.eta, Bool.cond_eq_ite]

theorem s60 {t : Tm} {by_ : Int} (hb : 0 ≤ by_ ∧ by_ ≤ 9999) (ht : Proper t) : Evt fun k => ∀ ρ K, (Tabs k).c60_0 ρ t by_ K = K (mv by_ 0 t) := by
  refine (s78 by_ (by omega) t 0 1 (by omega) (by have := ht.1; omega) ht.1 ht.2).step fun k hk ρ K => ?_
  show Gc60_0 (Tabs k) ρ _ _ K = _
  simp only [Gc60_0, Tm.eta, hk]

end Go.Proofs.Ytcgbfghdcjmaeaa.Ev
