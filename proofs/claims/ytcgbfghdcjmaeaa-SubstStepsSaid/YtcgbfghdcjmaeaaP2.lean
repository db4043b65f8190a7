/- This file proves what the typed functions of layer 4 compute on terms: kept, copies and shifts; without any condition. -/
import Derived.Test.YtcgbfghdcjmaeaaP1
set_option linter.unusedVariables false
set_option linter.unusedSimpArgs false
namespace Go.Proofs.Ytcgbfghdcjmaeaa.Ev

theorem s70 (t : Tm) (i : Int) : Evt fun k => ∀ ρ K, (Tabs k).c70_0 ρ t i K = K (under t.op i) := by
  refine Evt.step0 fun k ρ K => ?_
  show Gc70_0 (Tabs k) ρ _ _ K = _
  unfold Gc70_0 under
  by_cases h1 : t.op = 3
  · simp [h1, Bool.cond_eq_ite]
  · by_cases h2 : t.op = 2
    · by_cases h3 : i = 1
      · simp [h2, h3, Bool.cond_eq_ite]
      · simp [h2, h3, Bool.cond_eq_ite]
    · simp [h1, h2, Bool.cond_eq_ite]

theorem s72 (t : Tm) (i : Int) : Evt fun k => ∀ ρ K, (Tabs k).c72_0 ρ t i K = K (under t.op i) := by
  refine Evt.step0 fun k ρ K => ?_
  show Gc72_0 (Tabs k) ρ _ _ K = _
  unfold Gc72_0 under
  by_cases h1 : t.op = 3
  · simp [h1, Bool.cond_eq_ite]
  · by_cases h2 : t.op = 2
    · by_cases h3 : i = 1
      · simp [h2, h3, Bool.cond_eq_ite]
      · simp [h2, h3, Bool.cond_eq_ite]
    · simp [h1, h2, Bool.cond_eq_ite]

theorem s62 (e : Int) : Evt fun k => ∀ ρ K, (Tabs k).c62_0 ρ e K = K e := Evt.step0 fun k ρ K => rfl

theorem s71_ok {t : Tm} (h : Proper t) : Evt fun k => ∀ ρ K0 K1, (Tabs k).c71_0 ρ t K0 K1 = K1 t := by
  refine (s53 t).step fun k hk ρ K0 K1 => ?_
  show Gc71_0 (Tabs k) ρ _ K0 K1 = _
  simp [Gc71_0, Tm.eta, hk, chk_ok h]

theorem s71_no {t : Tm} (h : ¬ Proper t) : Evt fun k => ∀ ρ K0 K1, (Tabs k).c71_0 ρ t K0 K1 = K0 5 := by
  refine ((s53 t).and (s62 5)).step fun k hk ρ K0 K1 => ?_
  show Gc71_0 (Tabs k) ρ _ K0 K1 = _
  simp [Gc71_0, Tm.eta, hk.1, hk.2, chk_no h]

/-- The copy is the term. -/
theorem s75_0 (t : Tm) : ∀ b : Int, 0 ≤ b → b + t.size ≤ 2000 → Evt fun k => ∀ ρ K, (Tabs k).c75_0 ρ t b K = K t := by
  refine Tm.ind (p := fun t => ∀ b : Int, 0 ≤ b → b + t.size ≤ 2000 → Evt fun k => ∀ ρ K, (Tabs k).c75_0 ρ t b K = K t) ?_ t
  intro op head nn args ih b h0 h1
  have loop : ∀ (post pre l : List Tm) (i : Int) (a6 : Tm), l = pre ++ post → i = (pre.length : Int) → (∀ x ∈ post, ∀ b : Int, 0 ≤ b → b + x.size ≤ 2000 → Evt fun k => ∀ ρ K, (Tabs k).c75_0 ρ x b K = K x) → b + 1 + sizeL l ≤ 2000 →
      Evt fun k => ∀ ρ K, (Tabs k).l75_3_0 ρ b l (l.length : Int) i ⟨op, head, nn, l⟩ a6 ⟨op, head, nn, pre⟩ K = K ⟨op, head, nn, l⟩ a6 ⟨op, head, nn, l⟩ := by
    intro post
    induction post with
    | nil =>
      intro pre l i a6 hl hi _ _
      refine Evt.step0 fun k ρ K => ?_
      show Gl75_3_0 (Tabs k) ρ _ _ _ _ _ _ _ K = _
      simp only [Gl75_3_0, endL hl hi, cond_false, Tm.eta]
      rw [hl, List.append_nil]
    | cons x r ihl =>
      intro pre l i a6 hl hi hx hs
      obtain ⟨m1, m2, m3⟩ := midTm hl hi
      have hlen := lenL hl hi
      have hsz : sizeL l = sizeL pre + (x.size + sizeL r) := by rw [hl, sizeL_append]; rfl
      have hl2 := sizeL_len l
      have hu := under_nonneg op i
      have hp : 0 ≤ i := by omega
      simp only [List.length_cons] at hlen
      have g1 := hx x (List.mem_cons_self ..) (b + under op i) (by omega) (by omega)
      have g2 := ihl (pre ++ [x]) l (i + 1) a6 (nextL hl) (nextI hi) (fun y hy => hx y (List.mem_cons_of_mem _ hy)) hs
      refine ((s70 ⟨op, head, nn, l⟩ i).and (g1.and g2)).step fun k hk ρ K => ?_
      show Gl75_3_0 (Tabs k) ρ _ _ _ _ _ _ _ K = _
      have hc : decide ((List.length pre + List.length [x]) * 48 ≤ 140737488355328) = true := by
        simp only [decide_eq_true_eq, List.length_cons, List.length_nil]; omega
      simp only [Gl75_3_0, m1, m2, m3, cond_true, Bool.and_true, Tm.eta, hk.1, W_id (show -9223372036854775808 ≤ b + under op i by omega) (by omega), hk.2.1, hc, W_id (show -9223372036854775808 ≤ i + 1 by omega) (by omega), hk.2.2]
  have hs : b + 1 + sizeL args ≤ 2000 := by simp only [Tm.size] at h1; omega
  have h76 : Evt fun k => ∀ ρ K, (Tabs k).c76_0 ρ ⟨op, head, nn, []⟩ b K = K ⟨op, head, nn, []⟩ := Evt.step0 fun k ρ K => rfl
  refine (h76.and (loop args [] args 0 ⟨0, 0, 0, []⟩ rfl rfl ih hs)).step fun k hk ρ K => ?_
  show Gc75_0 (Tabs k) ρ _ _ K = _
  simp only [Gc75_0, hk.1, Tm.eta, hk.2]

theorem s54 {t : Tm} (h : t.size ≤ 600) : Evt fun k => ∀ ρ K, (Tabs k).c54_0 ρ t K = K t := by
  refine (s75_0 t 0 (by omega) (by omega)).step fun k hk ρ K => ?_
  show Gc54_0 (Tabs k) ρ _ K = _
  simp only [Gc54_0, hk, Tm.eta]

/-- Terms whose variables' numbers are small. -/
theorem Form.n {op head n : Int} {args : List Tm} {d : Int} (h : Form ⟨op, head, n, args⟩ d) : 0 ≤ n ∧ n ≤ 9999 := by
  simp only [Form, nodeOk] at h; omega

theorem s75_1 (by_ frm : Int) (hb : -9999 ≤ by_ ∧ by_ ≤ 9999) (hf : 0 ≤ frm ∧ frm ≤ 9999) (t : Tm) : ∀ b d : Int, 0 ≤ b → b + t.size ≤ 2000 → Form t d → Evt fun k => ∀ ρ K, (Tabs k).c75_1 ρ t b frm by_ K = K (mv by_ (frm + b) t) frm by_ := by
  refine Tm.ind (p := fun t => ∀ b d : Int, 0 ≤ b → b + t.size ≤ 2000 → Form t d → Evt fun k => ∀ ρ K, (Tabs k).c75_1 ρ t b frm by_ K = K (mv by_ (frm + b) t) frm by_) ?_ t
  intro op head nn args ih b d h0 h1 hF
  have loop : ∀ (post pre l acc : List Tm) (i : Int) (a8 : Tm) (nn' : Int), l = pre ++ post → i = (pre.length : Int) → acc.length = pre.length → (∀ x ∈ post, ∀ b d : Int, 0 ≤ b → b + x.size ≤ 2000 → Form x d → Evt fun k => ∀ ρ K, (Tabs k).c75_1 ρ x b frm by_ K = K (mv by_ (frm + b) x) frm by_) →
      (∀ x ∈ post, Form x (d + 1)) → b + 1 + sizeL l ≤ 2000 →
      Evt fun k => ∀ ρ K, (Tabs k).l75_3_1 ρ b l (l.length : Int) i frm by_ ⟨op, head, nn, l⟩ a8 ⟨op, head, nn', acc⟩ K = K frm by_ ⟨op, head, nn, l⟩ a8 ⟨op, head, nn', acc ++ mvL by_ (frm + b) op i post⟩ := by
    intro post
    induction post with
    | nil =>
      intro pre l acc i a8 nn' hl hi _ _ _ _
      refine Evt.step0 fun k ρ K => ?_
      show Gl75_3_1 (Tabs k) ρ _ _ _ _ _ _ _ _ _ K = _
      simp only [Gl75_3_1, endL hl hi, cond_false, Tm.eta, mvL, List.append_nil]
    | cons x r ihl =>
      intro pre l acc i a8 nn' hl hi ha hx hfx hs
      obtain ⟨m1, m2, m3⟩ := midTm hl hi
      have hlen := lenL hl hi
      have hsz : sizeL l = sizeL pre + (x.size + sizeL r) := by rw [hl, sizeL_append]; rfl
      have hl2 := sizeL_len l
      have hu := under_nonneg op i
      simp only [List.length_cons] at hlen
      have g1 := hx x (List.mem_cons_self ..) (b + under op i) (d + 1) (by omega) (by omega) (hfx x (List.mem_cons_self ..))
      have g2 := ihl (pre ++ [x]) l (acc ++ [mv by_ (frm + (b + under op i)) x]) (i + 1) a8 nn' (nextL hl) (nextI hi) (by simp [ha]) (fun y hy => hx y (List.mem_cons_of_mem _ hy)) (fun y hy => hfx y (List.mem_cons_of_mem _ hy)) hs
      refine ((s70 ⟨op, head, nn, l⟩ i).and (g1.and g2)).step fun k hk ρ K => ?_
      show Gl75_3_1 (Tabs k) ρ _ _ _ _ _ _ _ _ _ K = _
      have hc : decide ((List.length acc + List.length [mv by_ (frm + (b + under op i)) x]) * 48 ≤ 140737488355328) = true := by
        simp only [decide_eq_true_eq, List.length_cons, List.length_nil]; omega
      simp only [Gl75_3_1, m1, m2, m3, cond_true, Bool.and_true, Tm.eta, hk.1, W_id (show -9223372036854775808 ≤ b + under op i by omega) (by omega), hk.2.1, hc, W_id (show -9223372036854775808 ≤ i + 1 by omega) (by omega), hk.2.2]
      rw [mvL, List.append_assoc, ← Int.add_assoc]; rfl
  have hs : b + 1 + sizeL args ≤ 2000 := by simp only [Tm.size] at h1; omega
  have hn := hF.n
  have h89 : Evt fun k => ∀ ρ K, (Tabs k).c89_0 ρ ⟨op, head, nn, []⟩ b frm by_ K = K ⟨op, head, if op = 4 ∧ head = 1 ∧ frm + b ≤ nn then nn + by_ else nn, []⟩ frm by_ := by
    refine Evt.step0 fun k ρ K => ?_
    show Gc89_0 (Tabs k) ρ _ _ _ _ K = _
    simp only [Gc89_0, W_id (show -9223372036854775808 ≤ nn + by_ by omega) (by omega), W_id (show -9223372036854775808 ≤ nn - b by omega) (by omega)]
    by_cases c1 : op = 4
    · by_cases c2 : head = 1
      · by_cases c3 : frm + b ≤ nn
        · have : nn - b ≥ frm := by omega
          simp [c1, c2, c3, this, Bool.cond_eq_ite]
        · have : ¬ nn - b ≥ frm := by omega
          simp [c1, c2, c3, this, Bool.cond_eq_ite]
      · simp [c1, c2, Bool.cond_eq_ite]
    · simp [c1, Bool.cond_eq_ite]
  have hF' : ∀ x ∈ args, Form x (d + 1) := FormL_mem.1 (by simp only [Form] at hF; exact hF.2.2)
  refine (h89.and (loop args [] args [] 0 ⟨0, 0, 0, []⟩ (if op = 4 ∧ head = 1 ∧ frm + b ≤ nn then nn + by_ else nn) rfl rfl rfl ih hF' hs)).step fun k hk ρ K => ?_
  show Gc75_1 (Tabs k) ρ _ _ _ _ K = _
  simp only [Gc75_1, hk.1, Tm.eta, hk.2, mv, List.nil_append]

theorem s86 {by_ frm : Int} (hb : -9999 ≤ by_ ∧ by_ ≤ 9999) (hf : 0 ≤ frm ∧ frm ≤ 9999) {t : Tm} (ht : Proper t) : Evt fun k => ∀ ρ K, (Tabs k).c86_0 ρ t by_ frm K = K (mv by_ frm t) := by
  refine (s75_1 by_ frm hb hf t 0 1 (by omega) (by have := ht.1; omega) ht.2).step fun k hk ρ K => ?_
  show Gc86_0 (Tabs k) ρ _ _ _ K = _
  simp only [Gc86_0, hk, Tm.eta, Int.add_zero]

end Go.Proofs.Ytcgbfghdcjmaeaa.Ev
