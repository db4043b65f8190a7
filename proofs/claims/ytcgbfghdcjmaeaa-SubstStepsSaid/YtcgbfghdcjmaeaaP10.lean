/- This file proves what the typed functions compute of applications, of several substitutions and of classes; without any condition. -/
import Derived.Test.YtcgbfghdcjmaeaaP7
import Derived.Test.YtcgbfghdcjmaeaaQ4
set_option linter.unusedVariables false
set_option linter.unusedSimpArgs false
namespace Go.Proofs.Ytcgbfghdcjmaeaa.Ev

/-- An outcome, as it is returned. -/
def ret (r : Rs Tm) : Tm × Int :=
  match r with
  | (.error e, _) => (tm0, e)
  | (.ok t, _) => (t, 0)

theorem allP {l : List Tm} : (l.all prB) = true ↔ ∀ x ∈ l, Proper x := by simp only [List.all_eq_true, prB_iff]
theorem allS {l : List Sm} : (l.all smB) = true ↔ ∀ x ∈ l, Small x := by simp only [List.all_eq_true, smB_iff]
theorem listB_iff {l : List Tm} : listB l = true ↔ l.length ≤ 600 ∧ ∀ x ∈ l, Proper x := by simp only [listB, Bool.and_eq_true, decide_eq_true_eq, allP]

/-! ### Apply -/

noncomputable def appR (t : Tm) (l : List Tm) (a : Sm) : Tm × Int :=
  cond (prB t && (listB l && smB a)) (ret (appL (fun b x a c => put 20000 b 0 x a c) t l a.args 0)) (tm0, 2)

theorem fine_put' {b x : Tm} {a : Sm} {c : Int} (hx : Proper x) (hc : c ≤ 20000) : Fine Proper c (put 20000 b 0 x a c) := by
  have := fine_put 20000 b 0 x a c hx hc
  revert this
  generalize put 20000 b 0 x a c = q
  rcases q with ⟨e | y, c1⟩ <;> intro h <;> exact ⟨h.1, by have := h.2.1; omega, h.2.2⟩

theorem fine_ret {r : Rs Tm} {c : Int} (h : Fine Proper c r) : (ret r).1.size ≤ 600 ∧ ((ret r).2 = 0 → Proper (ret r).1) := by
  rcases r with ⟨e | y, c1⟩
  · refine ⟨tm0_size, fun h' => ?_⟩
    rcases h.1 with h1 | h1 <;> (simp only [ret] at h'; omega)
  · exact ⟨h.1.1, fun _ => h.1⟩

theorem s30 (t : Tm) (l : List Tm) (a : Sm) : Evt fun k => ∀ ρ K, (Tabs k).c30_0 ρ t l a K = K (appR t l a).1 (appR t l a).2 := by
  by_cases hl : l.length ≤ 600
  rotate_left
  · refine Evt.step0 fun k ρ K => ?_
    rw [show (Tabs (k + 1)).c30_0 = Gc30_0 (Tabs k) from rfl]
    have e : (l.length : Int) > 600 := by omega
    have : (prB t && (listB l && smB a)) = false := by simp [listB, hl]
    simp only [Gc30_0, e, decide_true, cond_true, appR, this, cond_false, tm0]
  have e1 : ¬ (l.length : Int) > 600 := by omega
  have e2 : decide ((List.length [t] + List.length l) * 48 ≤ 140737488355328) = true := by simp only [decide_eq_true_eq, List.length_cons, List.length_nil]; omega
  have g39 := s39 (t :: l) [a] [] (by simp) (by simp)
  have hg : goodB (t :: l) [a] [] = (prB t && (listB l && smB a)) := by
    rw [Bool.eq_iff_iff, goodB_iff]
    simp only [Bool.and_eq_true, prB_iff, listB_iff, smB_iff, List.length_cons, List.mem_cons, List.not_mem_nil, or_false, forall_eq_or_imp, forall_eq, false_implies, implies_true, and_true]
    constructor
    · rintro ⟨_, ⟨h1, h2⟩, h3⟩; exact ⟨h1, ⟨hl, h2⟩, h3⟩
    · rintro ⟨h1, ⟨_, h2⟩, h3⟩; exact ⟨by omega, ⟨h1, h2⟩, h3⟩
  cases hb : (prB t && (listB l && smB a)) with
  | false =>
    refine g39.step fun k hk ρ K => ?_
    rw [show (Tabs (k + 1)).c30_0 = Gc30_0 (Tabs k) from rfl]
    simp only [Gc30_0, e1, decide_false, cond_false, e2, cond_true, Tm.eta, Sm.eta, List.singleton_append, hk, hg, hb, Bool.not_false, appR, tm0]
  | true =>
    have hb' := hb
    simp only [Bool.and_eq_true, prB_iff, listB_iff, smB_iff] at hb'
    have g55 := s55 (s41 20000) a t l 0 hb'.2.1.2 hb'.1 (by omega) (by omega) (by omega) (by omega)
    have hf := fine_appL (p := fun b x a c => put 20000 b 0 x a c) (fun b x a c _ hx hc => fine_put' hx hc) l t a.args 0 hb'.2.1.2 hb'.1 (by omega)
    unfold appR
    rw [hb]
    simp only [cond_true]
    revert g55 hf
    generalize appL (fun b x a c => put 20000 b 0 x a c) t l a.args 0 = q
    rcases q with ⟨e | y, c⟩
    · intro g55 _
      refine (g39.and g55).step fun k hk ρ K => ?_
      rw [show (Tabs (k + 1)).c30_0 = Gc30_0 (Tabs k) from rfl]
      simp only [Gc30_0, e1, decide_false, cond_false, e2, cond_true, Tm.eta, Sm.eta, List.singleton_append, hk.1, hg, hb, Bool.not_true, hk.2, outP, ret, tm0]
    · intro g55 hf
      refine (g39.and (g55.and (s54 hf.1.1))).step fun k hk ρ K => ?_
      rw [show (Tabs (k + 1)).c30_0 = Gc30_0 (Tabs k) from rfl]
      simp only [Gc30_0, e1, decide_false, cond_false, e2, cond_true, Tm.eta, Sm.eta, List.singleton_append, hk.1, hg, hb, Bool.not_true, hk.2.1, outP, ret, hk.2.2]

theorem s31 (t : Tm) (l : List Tm) (a : Sm) : Evt fun k => ∀ ρ K, (Tabs k).c31_0 ρ t l a K = K (appR t l a).1 (appR t l a).2 := by
  have base := (s18 t).and ((s56 l).and (s19 a))
  cases hb : (prB t && (listB l && smB a)) with
  | false =>
    refine base.step fun k hk ρ K => ?_
    rw [show (Tabs (k + 1)).c31_0 = Gc31_0 (Tabs k) from rfl]
    unfold appR
    rw [hb]
    simp only [Gc31_0, Tm.eta, Sm.eta, hk.1, hk.2.1, hk.2.2, cond_false, tm0]
    revert hb
    cases prB t <;> cases listB l <;> cases smB a <;> simp
  | true =>
    have hb' := hb
    simp only [Bool.and_eq_true, prB_iff, listB_iff, smB_iff] at hb'
    obtain ⟨tys, con⟩ := a
    have g57 := s57 (s43 20000) con l t tys 0 hb'.2.1.2 hb'.1 (by omega) (by omega) (by omega) (by omega)
    refine (base.and g57).step fun k hk ρ K => ?_
    rw [show (Tabs (k + 1)).c31_0 = Gc31_0 (Tabs k) from rfl]
    unfold appR
    simp only [Bool.and_eq_true] at hb
    simp only [Gc31_0, Tm.eta, Sm.eta, hk.1.1, hk.1.2.1, hk.1.2.2, hb.1, hb.2.1, hb.2.2, Bool.not_true, cond_false, Bool.and_true, cond_true, hk.2]
    generalize appL (fun b x a c => put 20000 b 0 x a c) t l tys 0 = q
    rcases q with ⟨e | y, c⟩ <;> rfl

/-! ### Many -/

noncomputable def manR (t : Tm) (l : List Tm) (ss : List Sm) : Tm × Int :=
  cond (prB t && (listB l && (decide (l.length = ss.length) && ss.all smB))) (ret (manyL t l ss 0)) (tm0, 2)

theorem fine_manyL : ∀ (l : List Tm) (ss : List Sm) (t : Tm) (c : Int), Proper t → (∀ x ∈ l, Proper x) → c ≤ 20000 → Fine Proper c (manyL t l ss c)
  | [], ss, t, c, ht, hl, hc => ⟨ht, Int.le_refl _, hc⟩
  | x :: r, [], t, c, ht, hl, hc => ⟨ht, Int.le_refl _, hc⟩
  | x :: r, a :: tys, t, c, ht, hl, hc => by
    rw [manyL]
    by_cases hm : Proper (mv r.length 0 x)
    · rw [whole_ok hm]
      simp only
      have h1 := fine_put' (b := t) (a := a) hm hc
      revert h1
      generalize put 20000 t 0 (mv r.length 0 x) a c = q
      rcases q with ⟨e | y, c1⟩
      · intro h1; exact h1
      · intro h1
        have h2 := fine_manyL r tys y c1 h1.1 (fun y hy => hl y (List.mem_cons_of_mem _ hy)) h1.2.2
        simp only
        revert h2
        generalize manyL y r tys c1 = q2
        rcases q2 with ⟨e | z, c2⟩ <;> intro h2 <;> exact ⟨h2.1, by have := h1.2.1; have := h2.2.1; omega, h2.2.2⟩
    · rw [whole_no hm]; exact ⟨.inl rfl, Int.le_refl _, by omega⟩

theorem s32l (l0 : List Tm) (ss : List Sm) (hlen : l0.length = ss.length) (h6 : l0.length ≤ 600) : ∀ (post pre : List Tm) (spre spost : List Sm) (t : Tm) (i c : Int), l0 = pre ++ post → ss = spre ++ spost → i = (pre.length : Int) → pre.length = spre.length → Proper t → (∀ x ∈ post, Proper x) → 0 ≤ c → c ≤ 20000 →
    Evt fun k => ∀ (ρ : Type) J0 J1 (K0 : Tm → Option ρ) (K1 : Int → Option ρ), (∀ t, J0 t tm0 0 = K0 t) → (∀ t e, J1 t tm0 0 e = K1 e) → (Tabs k).l32_6_0 ρ l0 ss l0 (l0.length : Int) i t tm0 0 c J0 J1 = match manyL t post spost c with | (.error e, _) => K1 e | (.ok u, _) => K0 u := by
  intro post
  induction post with
  | nil =>
    intro pre spre spost t i c hl hs hi _ _ _ _ _
    refine Evt.step0 fun k ρ J0 J1 K0 K1 hJ0 hJ1 => ?_
    rw [show (Tabs (k + 1)).l32_6_0 = Gl32_6_0 (Tabs k) from rfl]
    simp only [Gl32_6_0, endL hl hi, cond_false, Tm.eta, manyL, hJ0]
  | cons x r ih =>
    intro pre spre spost t i c hl hs hi hpp ht hx hc0 hc
    obtain ⟨m1, m2, m3⟩ := midTm hl hi
    have hlen2 := lenL hl hi
    simp only [List.length_cons] at hlen2
    cases spost with
    | nil =>
      exfalso
      have h1 : l0.length = pre.length + (r.length + 1) := by rw [hl]; simp
      have h2 : ss.length = spre.length := by rw [hs]; simp
      omega
    | cons a spost =>
    obtain ⟨n1, n2, n3⟩ := midSm hs (i := i) (by rw [hi, hpp])
    have hw : IntKind.wrap .i64 (IntKind.wrap .i64 ((l0.length : Int) - 1) - i) = (r.length : Int) := by
      rw [W_id (show -9223372036854775808 ≤ (l0.length : Int) - 1 by omega) (by omega), W_id (by omega) (by omega)]; omega
    have hxp := hx x (List.mem_cons_self ..)
    have g1 := s58 (t := x) (by_ := (r.length : Int)) (by omega) hxp
    rw [manyL]
    by_cases hm : Proper (mv r.length 0 x)
    rotate_left
    · rw [whole_no hm] at g1 ⊢
      refine g1.step fun k hk ρ J0 J1 K0 K1 hJ0 hJ1 => ?_
      rw [show (Tabs (k + 1)).l32_6_0 = Gl32_6_0 (Tabs k) from rfl]
      simp only [Gl32_6_0, m1, m2, m3, n1, n2, cond_true, Bool.and_true, Tm.eta, hw, hk, hJ1]
    · rw [whole_ok hm] at g1 ⊢
      have hts := ht.1
      have g2 := s41 20000 t 0 (mv r.length 0 x) a c (by omega) hc0 hc ht hm (by omega) (by omega)
      have hf := fine_put' (b := t) (a := a) hm hc
      simp only
      revert g2 hf
      generalize put 20000 t 0 (mv r.length 0 x) a c = q
      rcases q with ⟨e | y, c1⟩
      · intro g2 hf
        refine (g1.and g2).step fun k hk ρ J0 J1 K0 K1 hJ0 hJ1 => ?_
        rw [show (Tabs (k + 1)).l32_6_0 = Gl32_6_0 (Tabs k) from rfl]
        simp only [Gl32_6_0, m1, m2, m3, n1, n2, n3, cond_true, Bool.and_true, Tm.eta, Sm.eta, hw, hk.1, hk.2, outP, hJ1]
      · intro g2 hf
        have hf2 := hf.2.1
        have g3 := ih (pre ++ [x]) (spre ++ [a]) spost y (i + 1) c1 (nextL hl) (nextL hs) (nextI hi) (by simp [hpp]) hf.1 (fun y hy => hx y (List.mem_cons_of_mem _ hy)) (by omega) hf.2.2
        refine (g1.and (g2.and g3)).step fun k hk ρ J0 J1 K0 K1 hJ0 hJ1 => ?_
        rw [show (Tabs (k + 1)).l32_6_0 = Gl32_6_0 (Tabs k) from rfl]
        simp only [Gl32_6_0, m1, m2, m3, n1, n2, n3, cond_true, Bool.and_true, Tm.eta, Sm.eta, hw, hk.1, hk.2.1, outP, W_id (show -9223372036854775808 ≤ i + 1 by omega) (by omega)]
        exact hk.2.2 ρ J0 J1 K0 K1 hJ0 hJ1

theorem s32 (t : Tm) (l : List Tm) (ss : List Sm) : Evt fun k => ∀ ρ K, (Tabs k).c32_0 ρ t l ss K = K (manR t l ss).1 (manR t l ss).2 := by
  have no : (prB t && (listB l && (decide (l.length = ss.length) && ss.all smB))) = false → manR t l ss = (tm0, 2) := fun h => by unfold manR; rw [h]; rfl
  by_cases hl : l.length ≤ 600
  rotate_left
  · refine Evt.step0 fun k ρ K => ?_
    rw [show (Tabs (k + 1)).c32_0 = Gc32_0 (Tabs k) from rfl, no (by simp [listB, hl])]
    have e : (l.length : Int) > 600 := by omega
    simp only [Gc32_0, e, decide_true, cond_true, tm0]
  have e1 : ¬ (l.length : Int) > 600 := by omega
  by_cases hn : l.length = ss.length
  rotate_left
  · refine Evt.step0 fun k ρ K => ?_
    rw [show (Tabs (k + 1)).c32_0 = Gc32_0 (Tabs k) from rfl, no (by simp [hn])]
    have e : ((l.length : Int) != (ss.length : Int)) = true := by rw [bne_iff_ne]; omega
    simp only [Gc32_0, e1, e, decide_false, cond_false, cond_true, tm0]
  have e2 : ((l.length : Int) != (ss.length : Int)) = false := by rw [hn]; simp
  have e3 : decide ((List.length [t] + List.length l) * 48 ≤ 140737488355328) = true := by simp only [decide_eq_true_eq, List.length_cons, List.length_nil]; omega
  have g39 := s39 (t :: l) ss [] (by omega) (by simp)
  have hg : goodB (t :: l) ss [] = (prB t && (listB l && (decide (l.length = ss.length) && ss.all smB))) := by
    rw [Bool.eq_iff_iff, goodB_iff]
    simp only [Bool.and_eq_true, prB_iff, listB_iff, allS, decide_eq_true_eq, List.length_cons, List.mem_cons, forall_eq_or_imp, List.not_mem_nil, false_implies, implies_true, and_true]
    constructor
    · rintro ⟨_, ⟨h1, h2⟩, h3⟩; exact ⟨h1, ⟨hl, h2⟩, hn, h3⟩
    · rintro ⟨h1, ⟨_, h2⟩, _, h3⟩; exact ⟨by omega, ⟨h1, h2⟩, h3⟩
  cases hb : (prB t && (listB l && (decide (l.length = ss.length) && ss.all smB))) with
  | false =>
    refine g39.step fun k hk ρ K => ?_
    rw [show (Tabs (k + 1)).c32_0 = Gc32_0 (Tabs k) from rfl, no hb]
    simp only [Gc32_0, e1, e2, decide_false, cond_false, e3, cond_true, Tm.eta, List.singleton_append, hk, hg, hb, Bool.not_false, tm0]
  | true =>
    have hb' := hb
    simp only [Bool.and_eq_true, prB_iff, listB_iff, allS, decide_eq_true_eq] at hb'
    have hlo := s32l l ss hn hl l [] [] ss t 0 0 rfl rfl rfl rfl hb'.1 hb'.2.1.2 (by omega) (by omega)
    have hf := fine_manyL l ss t 0 hb'.1 hb'.2.1.2 (by omega)
    have hm : manR t l ss = ret (manyL t l ss 0) := by unfold manR; rw [hb]; rfl
    rw [hm]
    revert hlo hf
    generalize manyL t l ss 0 = q
    rcases q with ⟨e | y, c⟩
    · intro hlo _
      refine (g39.and hlo).step fun k hk ρ K => ?_
      rw [show (Tabs (k + 1)).c32_0 = Gc32_0 (Tabs k) from rfl]
      simp only [Gc32_0, e1, e2, decide_false, cond_false, e3, cond_true, Tm.eta, List.singleton_append, hk.1, hg, hb, Bool.not_true]
      exact hk.2 ρ _ _ (fun t => (Tabs k).c54_0 ρ t fun r => K r 0) (fun e => K tm0 e) (fun t => rfl) (fun t e => rfl)
    · intro hlo hf
      refine (g39.and (hlo.and (s54 hf.1.1))).step fun k hk ρ K => ?_
      rw [show (Tabs (k + 1)).c32_0 = Gc32_0 (Tabs k) from rfl]
      simp only [Gc32_0, e1, e2, decide_false, cond_false, e3, cond_true, Tm.eta, List.singleton_append, hk.1, hg, hb, Bool.not_true]
      refine (hk.2.1 ρ _ _ (fun t => (Tabs k).c54_0 ρ t fun r => K r 0) (fun e => K tm0 e) (fun t => rfl) (fun t e => rfl)).trans ?_
      simp only [hk.2.2, ret]

theorem s33a (l : List Tm) (t : Tm) : ∀ (post pre ss : List Sm) (i : Int), ss = pre ++ post → i = (pre.length : Int) → ss.length ≤ 2000 →
    Evt fun k => ∀ ρ K0 K1, (Tabs k).l33_4_0 ρ l ss i t tm0 K0 K1 = cond (post.all smB) (K1 l ss t tm0) (K0 2 t tm0) := by
  intro post
  induction post with
  | nil =>
    intro pre ss i hl hi _
    refine Evt.step0 fun k ρ K0 K1 => ?_
    rw [show (Tabs (k + 1)).l33_4_0 = Gl33_4_0 (Tabs k) from rfl]
    simp only [Gl33_4_0, endL hl hi, cond_false, Tm.eta, List.all_nil, cond_true]
  | cons x r ih =>
    intro pre ss i hl hi hlen
    obtain ⟨m1, m2, m3⟩ := midSm hl hi
    have hlen2 := lenL hl hi
    refine ((s19 x).and (ih (pre ++ [x]) ss (i + 1) (nextL hl) (nextI hi) hlen)).step fun k hk ρ K0 K1 => ?_
    rw [show (Tabs (k + 1)).l33_4_0 = Gl33_4_0 (Tabs k) from rfl]
    simp only [Gl33_4_0, m1, m2, m3, cond_true, Bool.and_true, Tm.eta, Sm.eta, hk.1, W_id (show -9223372036854775808 ≤ i + 1 by omega) (by omega), hk.2, List.all_cons]
    cases smB x <;> rfl

theorem s33l (l0 : List Tm) (ss : List Sm) (hlen : l0.length = ss.length) (h6 : l0.length ≤ 600) : ∀ (post pre : List Tm) (spre spost : List Sm) (t : Tm) (i c : Int), l0 = pre ++ post → ss = spre ++ spost → i = (pre.length : Int) → pre.length = spre.length → Proper t → (∀ x ∈ post, Proper x) → 0 ≤ c → c ≤ 20000 →
    Evt fun k => ∀ (ρ : Type) J0 J1 (K0 : Tm → Option ρ) (K1 : Int → Option ρ), (∀ t, J0 t tm0 = K0 t) → (∀ t e, J1 e t tm0 = K1 e) → (Tabs k).l33_10_0 ρ l0 ss i t tm0 c J0 J1 = match manyL t post spost c with | (.error e, _) => K1 e | (.ok u, _) => K0 u := by
  intro post
  induction post with
  | nil =>
    intro pre spre spost t i c hl hs hi _ _ _ _ _
    refine Evt.step0 fun k ρ J0 J1 K0 K1 hJ0 hJ1 => ?_
    rw [show (Tabs (k + 1)).l33_10_0 = Gl33_10_0 (Tabs k) from rfl]
    simp only [Gl33_10_0, endL hl hi, cond_false, Tm.eta, manyL, hJ0]
  | cons x r ih =>
    intro pre spre spost t i c hl hs hi hpp ht hx hc0 hc
    obtain ⟨m1, m2, m3⟩ := midTm hl hi
    have hlen2 := lenL hl hi
    simp only [List.length_cons] at hlen2
    cases spost with
    | nil =>
      exfalso
      have h1 : l0.length = pre.length + (r.length + 1) := by rw [hl]; simp
      have h2 : ss.length = spre.length := by rw [hs]; simp
      omega
    | cons a spost =>
    obtain ⟨n1, n2, n3⟩ := midSm hs (i := i) (by rw [hi, hpp])
    have hw : IntKind.wrap .i64 (IntKind.wrap .i64 ((l0.length : Int) - 1) - i) = (r.length : Int) := by
      rw [W_id (show -9223372036854775808 ≤ (l0.length : Int) - 1 by omega) (by omega), W_id (by omega) (by omega)]; omega
    have hxp := hx x (List.mem_cons_self ..)
    have g1 := (s60 (t := x) (by_ := (r.length : Int)) (by omega) hxp).and (s59 (mv r.length 0 x))
    rw [manyL]
    by_cases hm : Proper (mv r.length 0 x)
    rotate_left
    · rw [whole_no hm] at g1 ⊢
      refine g1.step fun k hk ρ J0 J1 K0 K1 hJ0 hJ1 => ?_
      rw [show (Tabs (k + 1)).l33_10_0 = Gl33_10_0 (Tabs k) from rfl]
      simp only [Gl33_10_0, m1, m2, m3, cond_true, Bool.and_true, Tm.eta, hw, hk.1, hk.2, show ((5 : Int) != 0) = true by rfl]
      exact hJ1 t 5
    · rw [whole_ok hm] at g1 ⊢
      have hts := ht.1
      have g2 := s43 20000 t 0 (mv r.length 0 x) a c (by omega) hc0 hc ht hm (by omega) (by omega)
      have hf := fine_put' (b := t) (a := a) hm hc
      simp only
      revert g2 hf
      generalize put 20000 t 0 (mv r.length 0 x) a c = q
      rcases q with ⟨e | y, c1⟩
      · intro g2 hf
        refine (g1.and g2).step fun k hk ρ J0 J1 K0 K1 hJ0 hJ1 => ?_
        rw [show (Tabs (k + 1)).l33_10_0 = Gl33_10_0 (Tabs k) from rfl]
        simp only [Gl33_10_0, m1, m2, m3, n1, n2, n3, cond_true, cond_false, Bool.and_true, Tm.eta, Sm.eta, hw, hk.1.1, hk.1.2, show ((0 : Int) != 0) = false by rfl, hk.2, outR, err_ne hf.1]
        exact hJ1 t e
      · intro g2 hf
        have hf2 := hf.2.1
        have g3 := ih (pre ++ [x]) (spre ++ [a]) spost y (i + 1) c1 (nextL hl) (nextL hs) (nextI hi) (by simp [hpp]) hf.1 (fun y hy => hx y (List.mem_cons_of_mem _ hy)) (by omega) hf.2.2
        refine (g1.and (g2.and g3)).step fun k hk ρ J0 J1 K0 K1 hJ0 hJ1 => ?_
        rw [show (Tabs (k + 1)).l33_10_0 = Gl33_10_0 (Tabs k) from rfl]
        simp only [Gl33_10_0, m1, m2, m3, n1, n2, n3, cond_true, cond_false, Bool.and_true, Tm.eta, Sm.eta, hw, hk.1.1, hk.1.2, show ((0 : Int) != 0) = false by rfl, hk.2.1, outR, W_id (show -9223372036854775808 ≤ i + 1 by omega) (by omega)]
        exact hk.2.2 ρ J0 J1 K0 K1 hJ0 hJ1

theorem s33 (t : Tm) (l : List Tm) (ss : List Sm) : Evt fun k => ∀ ρ K, (Tabs k).c33_0 ρ t l ss K = K (manR t l ss).1 (manR t l ss).2 := by
  have no : (prB t && (listB l && (decide (l.length = ss.length) && ss.all smB))) = false → manR t l ss = (tm0, 2) := fun h => by unfold manR; rw [h]; rfl
  have base := (s18 t).and (s56 l)
  cases h1 : prB t with
  | false =>
    refine base.step fun k hk ρ K => ?_
    rw [show (Tabs (k + 1)).c33_0 = Gc33_0 (Tabs k) from rfl, no (by simp [h1])]
    simp only [Gc33_0, Tm.eta, hk.1, h1, Bool.not_false, cond_true, tm0]
  | true =>
  cases h2 : listB l with
  | false =>
    refine base.step fun k hk ρ K => ?_
    rw [show (Tabs (k + 1)).c33_0 = Gc33_0 (Tabs k) from rfl, no (by simp [h2])]
    simp only [Gc33_0, Tm.eta, hk.1, h1, Bool.not_true, cond_false, hk.2, h2, Bool.not_false, cond_true, tm0]
  | true =>
  have h2' := listB_iff.1 h2
  by_cases hn : l.length = ss.length
  rotate_left
  · refine base.step fun k hk ρ K => ?_
    rw [show (Tabs (k + 1)).c33_0 = Gc33_0 (Tabs k) from rfl, no (by simp [hn])]
    have e : ((ss.length : Int) != (l.length : Int)) = true := by rw [bne_iff_ne]; omega
    simp only [Gc33_0, Tm.eta, hk.1, h1, Bool.not_true, cond_false, hk.2, h2, e, cond_true, tm0]
  have e2 : ((ss.length : Int) != (l.length : Int)) = false := by rw [hn]; simp
  have ga := s33a l t ss [] ss 0 rfl rfl (by have := h2'.1; omega)
  cases h3 : ss.all smB with
  | false =>
    rw [h3] at ga
    refine (base.and ga).step fun k hk ρ K => ?_
    rw [show (Tabs (k + 1)).c33_0 = Gc33_0 (Tabs k) from rfl, no (by simp [h3])]
    have hk2 := hk.2 ρ
    simp only [tm0] at hk2
    simp only [Gc33_0, Tm.eta, hk.1.1, h1, Bool.not_true, cond_false, hk.1.2, h2, e2, hk2, tm0]
  | true =>
    rw [h3] at ga
    have hlo := s33l l ss hn h2'.1 l [] [] ss t 0 0 rfl rfl rfl rfl (prB_iff.1 h1) h2'.2 (by omega) (by omega)
    have hm : manR t l ss = ret (manyL t l ss 0) := by unfold manR; rw [h1, h2, h3]; simp [hn]
    rw [hm]
    revert hlo
    generalize manyL t l ss 0 = q
    intro hlo
    refine (base.and (ga.and hlo)).step fun k hk ρ K => ?_
    rw [show (Tabs (k + 1)).c33_0 = Gc33_0 (Tabs k) from rfl]
    have hk2 := hk.2.1 ρ
    simp only [tm0] at hk2
    simp only [Gc33_0, Tm.eta, hk.1.1, h1, Bool.not_true, cond_false, hk.1.2, h2, e2, hk2, cond_true]
    refine (hk.2.2 ρ _ _ (fun t => K t 0) (fun e => K tm0 e) (fun t => rfl) (fun t e => rfl)).trans ?_
    rcases q with ⟨e | y, c⟩ <;> rfl

/-! ### Simple types of classes -/

theorem s81 (t : Tm) : ∀ d : Int, Form t d → t.size ≤ 600 → Evt fun k => ∀ ρ K, (Tabs k).c81_0 ρ t K = match tySm t with | some s => K s true | none => K ⟨[], 0⟩ false := by
  refine Tm.ind (p := fun t => ∀ d : Int, Form t d → t.size ≤ 600 → Evt fun k => ∀ ρ K, (Tabs k).c81_0 ρ t K = match tySm t with | some s => K s true | none => K ⟨[], 0⟩ false) ?_ t
  intro op head n args ih d hF hsz
  by_cases ho : op = 2
  rotate_left
  · rw [tySm_other ho]
    refine Evt.step0 fun k ρ K => ?_
    rw [show (Tabs (k + 1)).c81_0 = Gc81_0 (Tabs k) from rfl]
    by_cases h4 : op = 4
    · by_cases h2 : head = 2
      · simp [Gc81_0, h4, h2]
      · simp [Gc81_0, h4, h2, Bool.cond_eq_ite]
    · simp [Gc81_0, h4, ho, Bool.cond_eq_ite]
  subst ho
  have hlen : ∃ a b, args = [a, b] := by
    have h2 : nodeOk 2 head n args.length := by simp only [Form] at hF; exact hF.2.1
    simp only [nodeOk] at h2
    match args, (by omega : args.length = 2) with
    | [a, b], _ => exact ⟨a, b, rfl⟩
  obtain ⟨a, b, rfl⟩ := hlen
  simp only [Form, FormL] at hF
  simp only [Tm.size, sizeL] at hsz
  have ga := ih a (by simp) (d + 1) hF.2.2.1 (by omega)
  have gb := ih b (by simp) (d + 1) hF.2.2.2.1 (by omega)
  have hr0 : rdEl lay Key.tm ([a, b] : List Tm) (0 : Int) = a := rdTm0 a [b]
  have hr1 : rdEl lay Key.tm ([a, b] : List Tm) (1 : Int) = b := rdTm [a] b []
  have e0 : decide ((0 : Int) < (([a, b] : List Tm).length : Int)) = true := by rfl
  have e1 : decide ((1 : Int) < (([a, b] : List Tm).length : Int)) = true := by rfl
  rw [tySm, if_neg (by omega), if_pos rfl]
  have hla := tySm_len a
  have hlb := tySm_len b
  revert ga gb hla hlb
  generalize tySm a = qa
  generalize tySm b = qb
  intro ga gb hla hlb
  refine (ga.and gb).step fun k hk ρ K => ?_
  rw [show (Tabs (k + 1)).c81_0 = Gc81_0 (Tabs k) from rfl]
  simp only [Gc81_0, show ((2 : Int) == 4) = false by rfl, show ((2 : Int) == 2) = true by rfl, cond_true, cond_false, show decide ((0 : Int) ≤ 0) = true by rfl, show decide ((0 : Int) ≤ 1) = true by rfl, e0, e1, Bool.and_true, hr0, hr1, Tm.eta, hk.1]
  cases qa with
  | none =>
    simp only [hk.2]
    cases qb <;> simp
  | some x =>
    simp only [hk.2]
    cases qb with
    | none => simp
    | some y =>
      have hy := hlb y rfl
      have hc : decide ((List.length [x] + List.length y.args) * 32 ≤ 140737488355328) = true := by simp only [decide_eq_true_eq, List.length_cons, List.length_nil]; omega
      simp only [Bool.not_true, cond_false, Sm.eta, hc, cond_true, List.singleton_append]

theorem s87l : ∀ (t : Tm) (acc : List Tm) (a3 : Tm) (d : Int), Form t d → acc.length + t.size ≤ 2000 → Evt fun k => ∀ ρ K, (Tabs k).l87_2_0 ρ acc t a3 K = K (acc ++ (doms t).1) (doms t).2 a3
  | ⟨op, head, n, [a, b]⟩, acc, a3, d, hF, hsz => by
    by_cases ho : op = 2
    · subst ho
      simp only [Form, FormL] at hF
      simp only [Tm.size, sizeL] at hsz
      have hpa := a.size_pos
      have g1 := s87l b (acc ++ [a]) a3 (d + 1) hF.2.2.2.1 (by simp only [List.length_append, List.length_cons, List.length_nil]; omega)
      have hr0 : rdEl lay Key.tm ([a, b] : List Tm) (0 : Int) = a := rdTm0 a [b]
      have hr1 : rdEl lay Key.tm ([a, b] : List Tm) (1 : Int) = b := rdTm [a] b []
      have e0 : decide ((0 : Int) < (([a, b] : List Tm).length : Int)) = true := by rfl
      have e1 : decide ((1 : Int) < (([a, b] : List Tm).length : Int)) = true := by rfl
      have hc : decide ((List.length acc + List.length [a]) * 48 ≤ 140737488355328) = true := by simp only [decide_eq_true_eq, List.length_cons, List.length_nil]; omega
      refine g1.step fun k hk ρ K => ?_
      rw [show (Tabs (k + 1)).l87_2_0 = Gl87_2_0 (Tabs k) from rfl]
      simp only [Gl87_2_0, show ((2 : Int) == 2) = true by rfl, cond_true, show decide ((0 : Int) ≤ 0) = true by rfl, show decide ((0 : Int) ≤ 1) = true by rfl, e0, e1, Bool.and_true, hr0, hr1, Tm.eta, hc, hk, doms, if_true, List.append_assoc, List.singleton_append]
    · refine Evt.step0 fun k ρ K => ?_
      rw [show (Tabs (k + 1)).l87_2_0 = Gl87_2_0 (Tabs k) from rfl]
      simp only [Gl87_2_0, show (op == 2) = false by simp [ho], cond_false, Tm.eta, doms, ho, if_false, List.append_nil]
  | ⟨op, head, n, []⟩, acc, a3, d, hF, hsz => by
    have ho : op ≠ 2 := by rintro rfl; simp [Form, nodeOk] at hF
    refine Evt.step0 fun k ρ K => ?_
    rw [show (Tabs (k + 1)).l87_2_0 = Gl87_2_0 (Tabs k) from rfl]
    simp only [Gl87_2_0, show (op == 2) = false by simp [ho], cond_false, Tm.eta, doms, List.append_nil]
  | ⟨op, head, n, [a]⟩, acc, a3, d, hF, hsz => by
    have ho : op ≠ 2 := by rintro rfl; simp [Form, nodeOk] at hF
    refine Evt.step0 fun k ρ K => ?_
    rw [show (Tabs (k + 1)).l87_2_0 = Gl87_2_0 (Tabs k) from rfl]
    simp only [Gl87_2_0, show (op == 2) = false by simp [ho], cond_false, Tm.eta, doms, List.append_nil]
  | ⟨op, head, n, a :: b :: c :: r⟩, acc, a3, d, hF, hsz => by
    have ho : op ≠ 2 := by rintro rfl; simp [Form, nodeOk] at hF
    refine Evt.step0 fun k ρ K => ?_
    rw [show (Tabs (k + 1)).l87_2_0 = Gl87_2_0 (Tabs k) from rfl]
    simp only [Gl87_2_0, show (op == 2) = false by simp [ho], cond_false, Tm.eta, doms, List.append_nil]

theorem s79 : ∀ (N : Nat) (t : Tm) (d : Int), t.size ≤ N → t.size ≤ 600 → Form t d → Evt fun k => ∀ ρ K, (Tabs k).c79_0 ρ t K = match tySm t with | some s => K s 0 | none => K ⟨[], 0⟩ 22
  | 0, t, d, h, _, _ => by have := t.size_pos; omega
  | N + 1, t, d, hN, h6, hF => by
    have g87 : Evt fun k => ∀ ρ K, (Tabs k).c87_0 ρ t K = K (doms t).1 (doms t).2 := by
      refine (s87l t [] ⟨0, 0, 0, []⟩ d hF (by simp; omega)).step fun k hk ρ K => ?_
      rw [show (Tabs (k + 1)).c87_0 = Gc87_0 (Tabs k) from rfl]
      simp only [Gc87_0, Tm.eta, hk, List.nil_append]
    rw [tySm_doms t d hF]
    have hds := doms_size t
    have hdf := doms_form t d hF
    obtain ⟨l, hl⟩ : ∃ l, l = (doms t).1 := ⟨_, rfl⟩
    obtain ⟨b, hb⟩ : ∃ b, b = (doms t).2 := ⟨_, rfl⟩
    rw [← hl, ← hb] at g87 hds ⊢
    rw [← hl] at hdf
    by_cases h1 : b.op = 4
    rotate_left
    · refine g87.step fun k hk ρ K => ?_
      rw [show (Tabs (k + 1)).c79_0 = Gc79_0 (Tabs k) from rfl]
      simp only [Gc79_0, Tm.eta, hk, show (b.op != 4) = true by simp [h1], cond_true, h1, false_and, if_false]
    by_cases h2 : b.head = 2
    rotate_left
    · refine g87.step fun k hk ρ K => ?_
      rw [show (Tabs (k + 1)).c79_0 = Gc79_0 (Tabs k) from rfl]
      simp only [Gc79_0, Tm.eta, hk, show (b.op != 4) = false by simp [h1], cond_false, show (b.head != 2) = true by simp [h2], cond_true, h2, and_false, if_false]
    rw [if_pos ⟨h1, h2⟩]
    have hbp := b.size_pos
    have loop : ∀ (post pre : List Tm) (acc : List Sm) (i : Int), l = pre ++ post → i = (pre.length : Int) → acc.length = pre.length →
        Evt fun k => ∀ (ρ : Type) J0 J1 (K0 : Int → Option ρ) (K1 : Sm → Option ρ), (∀ e, J0 e t ⟨[], 0⟩ = K0 e) → (∀ s, J1 t ⟨[], 0⟩ b s = K1 s) → (Tabs k).l79_6_0 ρ l (l.length : Int) i t ⟨[], 0⟩ b ⟨acc, b.n⟩ J0 J1 = match tySmL post with | none => K0 22 | some m => K1 ⟨acc ++ m, b.n⟩ := by
      intro post
      induction post with
      | nil =>
        intro pre acc i hl' hi _
        refine Evt.step0 fun k ρ J0 J1 K0 K1 hJ0 hJ1 => ?_
        rw [show (Tabs (k + 1)).l79_6_0 = Gl79_6_0 (Tabs k) from rfl]
        simp only [Gl79_6_0, endL hl' hi, cond_false, Tm.eta, Sm.eta, hJ1, tySmL, List.append_nil]
      | cons x r ih =>
        intro pre acc i hl' hi ha
        obtain ⟨m1, m2, m3⟩ := midTm hl' hi
        have hlen := lenL hl' hi
        simp only [List.length_cons] at hlen
        have hx : x ∈ l := by rw [hl']; simp
        have hxs := sizeL_mem hx
        obtain ⟨dx, hxf⟩ := hdf x hx
        have g1 := s79 N x dx (by omega) (by omega) hxf
        rw [tySmL]
        revert g1
        generalize tySm x = q
        intro g1
        cases q with
        | none =>
          refine g1.step fun k hk ρ J0 J1 K0 K1 hJ0 hJ1 => ?_
          rw [show (Tabs (k + 1)).l79_6_0 = Gl79_6_0 (Tabs k) from rfl]
          simp only [Gl79_6_0, m1, m2, m3, cond_true, Bool.and_true, Tm.eta, hk, show ((22 : Int) != 0) = true by rfl, hJ0]
        | some y =>
          have g2 := ih (pre ++ [x]) (acc ++ [y]) (i + 1) (nextL hl') (nextI hi) (by simp [ha])
          have hc : decide ((List.length acc + List.length [y]) * 32 ≤ 140737488355328) = true := by simp only [decide_eq_true_eq, List.length_cons, List.length_nil]; omega
          refine (g1.and g2).step fun k hk ρ J0 J1 K0 K1 hJ0 hJ1 => ?_
          rw [show (Tabs (k + 1)).l79_6_0 = Gl79_6_0 (Tabs k) from rfl]
          simp only [Gl79_6_0, m1, m2, m3, cond_true, cond_false, Bool.and_true, Tm.eta, Sm.eta, hk.1, show ((0 : Int) != 0) = false by rfl, hc, W_id (show -9223372036854775808 ≤ i + 1 by omega) (by omega)]
          refine (hk.2 ρ J0 J1 K0 K1 hJ0 hJ1).trans ?_
          cases tySmL r <;> simp
    have g1 := loop l [] [] 0 rfl rfl rfl
    refine (g87.and g1).step fun k hk ρ K => ?_
    rw [show (Tabs (k + 1)).c79_0 = Gc79_0 (Tabs k) from rfl]
    simp only [Gc79_0, Tm.eta, Sm.eta, hk.1, show (b.op != 4) = false by simp [h1], cond_false, show (b.head != 2) = false by simp [h2]]
    refine (hk.2 ρ _ _ (fun e => K ⟨[], 0⟩ e) (fun s => K s 0) (fun e => rfl) (fun s => rfl)).trans ?_
    cases tySmL l <;> rfl

theorem s63 {t : Tm} (ht : Proper t) : Evt fun k => ∀ ρ K, (Tabs k).c63_0 ρ t K = match tySm t with | some s => K s 0 | none => K ⟨[], 0⟩ 22 := by
  have hsz := ht.1
  refine ((s53 t).and (s79 t.size t 1 (Nat.le_refl _) hsz ht.2)).step fun k hk ρ K => ?_
  rw [show (Tabs (k + 1)).c63_0 = Gc63_0 (Tabs k) from rfl]
  simp only [Gc63_0, Tm.eta, Sm.eta, hk.1, chk_ok ht, bne_self_eq_false, cond_false]
  exact hk.2 ρ K

/-! ### Instance -/

noncomputable def insR (t : Tm) (l : List Tm) : Tm × Int := cond (prB t && listB l) (ret (instL t l 0)) (tm0, 2)

/-- What is so of every outcome of Instance. -/
def FineI (c : Int) : Rs Tm → Prop
  | (.error e, _) => e = 5 ∨ e = 23 ∨ e = 22 ∨ e = 2
  | (.ok x, c') => Proper x ∧ c ≤ c' ∧ c' ≤ 20000

theorem fine_instL : ∀ (l : List Tm) (t : Tm) (c : Int), Proper t → (∀ x ∈ l, Proper x) → c ≤ 20000 → FineI c (instL t l c)
  | [], t, c, ht, hl, hc => by rw [instL]; exact ⟨ht, Int.le_refl _, hc⟩
  | x :: r, ⟨op, head, n, [A, B]⟩, c, ht, hl, hc => by
    rw [instL]
    by_cases ho : op = 2
    · rw [if_pos ho]
      cases tySm A with
      | none => exact .inr (.inr (.inl rfl))
      | some s =>
        simp only
        cases smB s with
        | false => exact .inr (.inr (.inr rfl))
        | true =>
          have hx := hl x (List.mem_cons_self ..)
          have h1 := fine_put' (b := B) (a := s) hx hc
          simp only [cond_true]
          revert h1
          generalize put 20000 B 0 x s c = q
          rcases q with ⟨e | y, c1⟩
          · intro h1
            rcases h1.1 with h | h
            · exact .inl h
            · exact .inr (.inl h)
          · intro h1
            have h2 := fine_instL r y c1 h1.1 (fun y hy => hl y (List.mem_cons_of_mem _ hy)) h1.2.2
            simp only
            revert h2
            generalize instL y r c1 = q2
            rcases q2 with ⟨e | z, c2⟩
            · intro h2; exact h2
            · intro h2; exact ⟨h2.1, by have := h1.2.1; have := h2.2.1; omega, h2.2.2⟩
    · rw [if_neg ho]; exact .inr (.inl rfl)
  | x :: r, ⟨op, head, n, []⟩, c, ht, hl, hc => by
    have : instL ⟨op, head, n, []⟩ (x :: r) c = (.error 23, c) := by simp [instL]
    rw [this]; exact .inr (.inl rfl)
  | x :: r, ⟨op, head, n, [_]⟩, c, ht, hl, hc => by
    have : ∀ y, instL ⟨op, head, n, [y]⟩ (x :: r) c = (.error 23, c) := fun y => by simp [instL]
    rw [this]; exact .inr (.inl rfl)
  | x :: r, ⟨op, head, n, _ :: _ :: _ :: _⟩, c, ht, hl, hc => by
    have : ∀ a b d e, instL ⟨op, head, n, a :: b :: d :: e⟩ (x :: r) c = (.error 23, c) := fun a b d e => by simp [instL]
    rw [this]; exact .inr (.inl rfl)

theorem insR_size (t : Tm) (l : List Tm) : (insR t l).1.size ≤ 600 := by
  unfold insR
  cases hb : (prB t && listB l) with
  | false => exact tm0_size
  | true =>
    simp only [Bool.and_eq_true, prB_iff, listB_iff] at hb
    have := fine_instL l t 0 hb.1 hb.2.2 (by omega)
    revert this
    simp only [cond_true]
    generalize instL t l 0 = q
    rcases q with ⟨e | y, c⟩
    · intro _; exact tm0_size
    · intro h; exact h.1.1

theorem pi_args {op head n : Int} {args : List Tm} (h : Proper ⟨op, head, n, args⟩) (ho : op = 2) : ∃ A B, args = [A, B] := by
  subst ho
  have h2 : nodeOk 2 head n args.length := by have := h.2; simp only [Form] at this; exact this.2.1
  simp only [nodeOk] at h2
  match args, (by omega : args.length = 2) with
  | [a, b], _ => exact ⟨a, b, rfl⟩

theorem s37l (l0 : List Tm) (h6 : l0.length ≤ 600) : ∀ (post pre : List Tm) (t : Tm) (i c : Int), l0 = pre ++ post → i = (pre.length : Int) → Proper t → (∀ x ∈ post, Proper x) → 0 ≤ c → c ≤ 20000 →
    Evt fun k => ∀ (ρ : Type) J0 J1 (K0 : Tm → Option ρ) (K1 : Int → Option ρ), (∀ t, J0 t tm0 0 = K0 t) → (∀ t e, J1 t tm0 0 e = K1 e) → (Tabs k).l37_6_0 ρ l0 (l0.length : Int) i t tm0 0 c J0 J1 = match instL t post c with | (.error e, _) => K1 e | (.ok u, _) => K0 u := by
  intro post
  induction post with
  | nil =>
    intro pre t i c hl hi _ _ _ _
    refine Evt.step0 fun k ρ J0 J1 K0 K1 hJ0 hJ1 => ?_
    rw [show (Tabs (k + 1)).l37_6_0 = Gl37_6_0 (Tabs k) from rfl]
    rw [instL]
    simp only [Gl37_6_0, endL hl hi, cond_false, Tm.eta, hJ0]
  | cons x r ih =>
    intro pre t i c hl hi ht hx hc0 hc
    obtain ⟨m1, m2, m3⟩ := midTm hl hi
    have hlen2 := lenL hl hi
    simp only [List.length_cons] at hlen2
    obtain ⟨op, head, n, args⟩ := t
    by_cases ho : op = 2
    rotate_left
    · have e : instL ⟨op, head, n, args⟩ (x :: r) c = (.error 23, c) := by
        match args with
        | [] => simp [instL]
        | [_] => simp [instL]
        | [A, B] => rw [instL, if_neg ho]
        | _ :: _ :: _ :: _ => simp [instL]
      rw [e]
      refine (s62 23).step fun k hk ρ J0 J1 K0 K1 hJ0 hJ1 => ?_
      rw [show (Tabs (k + 1)).l37_6_0 = Gl37_6_0 (Tabs k) from rfl]
      simp only [Gl37_6_0, m1, m2, cond_true, Bool.and_true, show (op != 2) = true by simp [ho], hk, Tm.eta, hJ1]
    obtain ⟨A, B, rfl⟩ := pi_args ht ho
    subst ho
    have hA : Proper A := ht.arg (by simp)
    have hB : Proper B := ht.arg (by simp)
    have hxp := hx x (List.mem_cons_self ..)
    have hr0 : rdEl lay Key.tm ([A, B] : List Tm) (0 : Int) = A := rdTm0 A [B]
    have hr1 : rdEl lay Key.tm ([A, B] : List Tm) (1 : Int) = B := rdTm [A] B []
    have e0 : decide ((0 : Int) < (([A, B] : List Tm).length : Int)) = true := by rfl
    have e1 : decide ((1 : Int) < (([A, B] : List Tm).length : Int)) = true := by rfl
    have g63 := s63 hA
    rw [instL, if_pos rfl]
    revert g63
    generalize tySm A = q
    intro g63
    cases q with
    | none =>
      refine (g63.and (s62 22)).step fun k hk ρ J0 J1 K0 K1 hJ0 hJ1 => ?_
      rw [show (Tabs (k + 1)).l37_6_0 = Gl37_6_0 (Tabs k) from rfl]
      simp only [Gl37_6_0, m1, m2, cond_true, cond_false, Bool.and_true, show ((2 : Int) != 2) = false by rfl, show decide ((0 : Int) ≤ 0) = true by rfl, e0, hr0, Tm.eta, hk.1, show ((22 : Int) != 0) = true by rfl, hk.2, hJ1]
    | some s =>
      cases hs : smB s with
      | false =>
        refine (g63.and ((s64 s).and (s62 2))).step fun k hk ρ J0 J1 K0 K1 hJ0 hJ1 => ?_
        rw [show (Tabs (k + 1)).l37_6_0 = Gl37_6_0 (Tabs k) from rfl]
        simp only [Gl37_6_0, m1, m2, cond_true, cond_false, Bool.and_true, show ((2 : Int) != 2) = false by rfl, show decide ((0 : Int) ≤ 0) = true by rfl, e0, hr0, Tm.eta, Sm.eta, hk.1, show ((0 : Int) != 0) = false by rfl, hk.2.1, hs, Bool.not_false, hk.2.2, hJ1]
      | true =>
        have hBs := hB.1
        have g2 := s41 20000 B 0 x s c (by omega) hc0 hc hB hxp (by omega) (by omega)
        have hf := fine_put' (b := B) (a := s) hxp hc
        simp only [cond_true]
        revert g2 hf
        generalize put 20000 B 0 x s c = q
        rcases q with ⟨e | y, c1⟩
        · intro g2 hf
          refine (g63.and ((s64 s).and g2)).step fun k hk ρ J0 J1 K0 K1 hJ0 hJ1 => ?_
          rw [show (Tabs (k + 1)).l37_6_0 = Gl37_6_0 (Tabs k) from rfl]
          simp only [Gl37_6_0, m1, m2, m3, cond_true, cond_false, Bool.and_true, show ((2 : Int) != 2) = false by rfl, show decide ((0 : Int) ≤ 0) = true by rfl, show decide ((0 : Int) ≤ 1) = true by rfl, e0, e1, hr0, hr1, Tm.eta, Sm.eta, hk.1, show ((0 : Int) != 0) = false by rfl, hk.2.1, hs, Bool.not_true, hk.2.2, outP, hJ1]
        · intro g2 hf
          have hf2 := hf.2.1
          have g3 := ih (pre ++ [x]) y (i + 1) c1 (nextL hl) (nextI hi) hf.1 (fun y hy => hx y (List.mem_cons_of_mem _ hy)) (by omega) hf.2.2
          refine (g63.and ((s64 s).and (g2.and g3))).step fun k hk ρ J0 J1 K0 K1 hJ0 hJ1 => ?_
          rw [show (Tabs (k + 1)).l37_6_0 = Gl37_6_0 (Tabs k) from rfl]
          simp only [Gl37_6_0, m1, m2, m3, cond_true, cond_false, Bool.and_true, show ((2 : Int) != 2) = false by rfl, show decide ((0 : Int) ≤ 0) = true by rfl, show decide ((0 : Int) ≤ 1) = true by rfl, e0, e1, hr0, hr1, Tm.eta, Sm.eta, hk.1, show ((0 : Int) != 0) = false by rfl, hk.2.1, hs, Bool.not_true, hk.2.2.1, outP, W_id (show -9223372036854775808 ≤ i + 1 by omega) (by omega)]
          exact hk.2.2.2 ρ J0 J1 K0 K1 hJ0 hJ1

theorem s37 (t : Tm) (l : List Tm) : Evt fun k => ∀ ρ K, (Tabs k).c37_0 ρ t l K = K (insR t l).1 (insR t l).2 := by
  have no : (prB t && listB l) = false → insR t l = (tm0, 2) := fun h => by unfold insR; rw [h]; rfl
  by_cases hl : l.length ≤ 600
  rotate_left
  · refine Evt.step0 fun k ρ K => ?_
    rw [show (Tabs (k + 1)).c37_0 = Gc37_0 (Tabs k) from rfl, no (by simp [listB, hl])]
    have e : (l.length : Int) > 600 := by omega
    simp only [Gc37_0, e, decide_true, cond_true, tm0]
  have e1 : ¬ (l.length : Int) > 600 := by omega
  have e3 : decide ((List.length [t] + List.length l) * 48 ≤ 140737488355328) = true := by simp only [decide_eq_true_eq, List.length_cons, List.length_nil]; omega
  have g39 := s39 (t :: l) [] [] (by simp) (by simp)
  have hg : goodB (t :: l) [] [] = (prB t && listB l) := by
    rw [Bool.eq_iff_iff, goodB_iff]
    simp only [Bool.and_eq_true, prB_iff, listB_iff, List.length_cons, List.mem_cons, forall_eq_or_imp, List.not_mem_nil, false_implies, implies_true, and_true]
    constructor
    · rintro ⟨_, h1, h2⟩; exact ⟨h1, hl, h2⟩
    · rintro ⟨h1, _, h2⟩; exact ⟨by omega, h1, h2⟩
  cases hb : (prB t && listB l) with
  | false =>
    refine g39.step fun k hk ρ K => ?_
    rw [show (Tabs (k + 1)).c37_0 = Gc37_0 (Tabs k) from rfl, no hb]
    simp only [Gc37_0, e1, decide_false, cond_false, e3, cond_true, Tm.eta, List.singleton_append, hk, hg, hb, Bool.not_false, tm0]
  | true =>
    have hb' := hb
    simp only [Bool.and_eq_true, prB_iff, listB_iff] at hb'
    have hlo := s37l l hl l [] t 0 0 rfl rfl hb'.1 hb'.2.2 (by omega) (by omega)
    have hf := fine_instL l t 0 hb'.1 hb'.2.2 (by omega)
    have hm : insR t l = ret (instL t l 0) := by unfold insR; rw [hb]; rfl
    rw [hm]
    revert hlo hf
    generalize instL t l 0 = q
    rcases q with ⟨e | y, c⟩
    · intro hlo _
      refine (g39.and hlo).step fun k hk ρ K => ?_
      rw [show (Tabs (k + 1)).c37_0 = Gc37_0 (Tabs k) from rfl]
      simp only [Gc37_0, e1, decide_false, cond_false, e3, cond_true, Tm.eta, List.singleton_append, hk.1, hg, hb, Bool.not_true]
      exact hk.2 ρ _ _ (fun t => (Tabs k).c54_0 ρ t fun r => K r 0) (fun e => K tm0 e) (fun t => rfl) (fun t e => rfl)
    · intro hlo hf
      refine (g39.and (hlo.and (s54 hf.1.1))).step fun k hk ρ K => ?_
      rw [show (Tabs (k + 1)).c37_0 = Gc37_0 (Tabs k) from rfl]
      simp only [Gc37_0, e1, decide_false, cond_false, e3, cond_true, Tm.eta, List.singleton_append, hk.1, hg, hb, Bool.not_true]
      refine (hk.2.1 ρ _ _ (fun t => (Tabs k).c54_0 ρ t fun r => K r 0) (fun e => K tm0 e) (fun t => rfl) (fun t e => rfl)).trans ?_
      simp only [hk.2.2, ret]

theorem s38l (l0 : List Tm) (h6 : l0.length ≤ 600) : ∀ (post pre : List Tm) (t : Tm) (i c : Int), l0 = pre ++ post → i = (pre.length : Int) → Proper t → (∀ x ∈ post, Proper x) → 0 ≤ c → c ≤ 20000 →
    Evt fun k => ∀ (ρ : Type) J0 J1 (K0 : Tm → Option ρ) (K1 : Int → Option ρ), (∀ t, J0 t tm0 = K0 t) → (∀ t e, J1 e t tm0 = K1 e) → (Tabs k).l38_5_0 ρ l0 i t tm0 c J0 J1 = match instL t post c with | (.error e, _) => K1 e | (.ok u, _) => K0 u := by
  intro post
  induction post with
  | nil =>
    intro pre t i c hl hi _ _ _ _
    refine Evt.step0 fun k ρ J0 J1 K0 K1 hJ0 hJ1 => ?_
    rw [show (Tabs (k + 1)).l38_5_0 = Gl38_5_0 (Tabs k) from rfl]
    rw [instL]
    simp only [Gl38_5_0, endL hl hi, cond_false, Tm.eta, hJ0]
  | cons x r ih =>
    intro pre t i c hl hi ht hx hc0 hc
    obtain ⟨m1, m2, m3⟩ := midTm hl hi
    have hlen2 := lenL hl hi
    simp only [List.length_cons] at hlen2
    have hxp := hx x (List.mem_cons_self ..)
    -- one step
    have stepE : ∀ e, e ≠ 0 → instL t (x :: r) c = (.error e, c) → (∃ c1, Evt fun k => ∀ ρ K, (Tabs k).c65_0 ρ t x c K = K tm0 e c1) →
        Evt fun k => ∀ (ρ : Type) J0 J1 (K0 : Tm → Option ρ) (K1 : Int → Option ρ), (∀ t, J0 t tm0 = K0 t) → (∀ t e, J1 e t tm0 = K1 e) → (Tabs k).l38_5_0 ρ l0 i t tm0 c J0 J1 = match instL t (x :: r) c with | (.error e, _) => K1 e | (.ok u, _) => K0 u := by
      rintro e he h ⟨c1, g⟩
      rw [h]
      refine g.step fun k hk ρ J0 J1 K0 K1 hJ0 hJ1 => ?_
      rw [show (Tabs (k + 1)).l38_5_0 = Gl38_5_0 (Tabs k) from rfl]
      simp only [Gl38_5_0, m1, m2, m3, cond_true, Bool.and_true, Tm.eta, hk, show (e != 0) = true by simp [he]]
      exact hJ1 t e
    obtain ⟨op, head, n, args⟩ := t
    by_cases ho : op = 2
    rotate_left
    · have e : instL ⟨op, head, n, args⟩ (x :: r) c = (.error 23, c) := by
        match args with
        | [] => simp [instL]
        | [_] => simp [instL]
        | [A, B] => rw [instL, if_neg ho]
        | _ :: _ :: _ :: _ => simp [instL]
      refine stepE 23 (by omega) e ⟨c, Evt.step0 fun k ρ K => ?_⟩
      rw [show (Tabs (k + 1)).c65_0 = Gc65_0 (Tabs k) from rfl]
      simp only [Gc65_0, show (op != 2) = true by simp [ho], cond_true, tm0]
    obtain ⟨A, B, rfl⟩ := pi_args ht ho
    subst ho
    have hA : Proper A := ht.arg (by simp)
    have hB : Proper B := ht.arg (by simp)
    have hr0 : rdEl lay Key.tm ([A, B] : List Tm) (0 : Int) = A := rdTm0 A [B]
    have hr1 : rdEl lay Key.tm ([A, B] : List Tm) (1 : Int) = B := rdTm [A] B []
    have e0 : decide ((0 : Int) < (([A, B] : List Tm).length : Int)) = true := by rfl
    have e1 : decide ((1 : Int) < (([A, B] : List Tm).length : Int)) = true := by rfl
    have g81 := s81 A 1 hA.2 hA.1
    have hI : instL ⟨2, head, n, [A, B]⟩ (x :: r) c = match tySm A with
        | none => (.error 22, c)
        | some s => cond (smB s) (match put 20000 B 0 x s c with | (.error e, c) => (.error e, c) | (.ok t, c) => instL t r c) (.error 2, c) := by
      rw [instL, if_pos rfl]
      cases tySm A <;> rfl
    revert g81 hI
    generalize tySm A = q
    intro g81 hI
    cases q with
    | none =>
      refine stepE 22 (by omega) hI ⟨c, g81.step fun k hk ρ K => ?_⟩
      rw [show (Tabs (k + 1)).c65_0 = Gc65_0 (Tabs k) from rfl]
      simp only [Gc65_0, show ((2 : Int) != 2) = false by rfl, cond_false, cond_true, show decide ((0 : Int) ≤ 0) = true by rfl, e0, Bool.and_true, hr0, Tm.eta, hk, Bool.not_false, tm0]
    | some s =>
      simp only at hI
      cases hs : smB s with
      | false =>
        rw [hs] at hI
        refine stepE 2 (by omega) hI ⟨c, (g81.and (s19 s)).step fun k hk ρ K => ?_⟩
        rw [show (Tabs (k + 1)).c65_0 = Gc65_0 (Tabs k) from rfl]
        simp only [Gc65_0, show ((2 : Int) != 2) = false by rfl, cond_false, cond_true, show decide ((0 : Int) ≤ 0) = true by rfl, e0, Bool.and_true, hr0, Tm.eta, Sm.eta, hk.1, hk.2, hs, Bool.not_true, Bool.not_false, tm0]
      | true =>
        rw [hs] at hI
        have hBs := hB.1
        have g2 := s43 20000 B 0 x s c (by omega) hc0 hc hB hxp (by omega) (by omega)
        have hf := fine_put' (b := B) (a := s) hxp hc
        simp only [cond_true] at hI
        have g65 : Evt fun k => ∀ ρ K, (Tabs k).c65_0 ρ ⟨2, head, n, [A, B]⟩ x c K = outR (put 20000 B 0 x s c) K := by
          refine (g81.and ((s19 s).and g2)).step fun k hk ρ K => ?_
          rw [show (Tabs (k + 1)).c65_0 = Gc65_0 (Tabs k) from rfl]
          simp only [Gc65_0, show ((2 : Int) != 2) = false by rfl, cond_false, cond_true, show decide ((0 : Int) ≤ 0) = true by rfl, show decide ((0 : Int) ≤ 1) = true by rfl, e0, e1, Bool.and_true, hr0, hr1, Tm.eta, Sm.eta, hk.1, hk.2.1, hs, Bool.not_true, hk.2.2]
        rw [hI]
        revert g65 hf
        generalize put 20000 B 0 x s c = q
        rcases q with ⟨e | y, c1⟩
        · intro hf g65
          refine g65.step fun k hk ρ J0 J1 K0 K1 hJ0 hJ1 => ?_
          rw [show (Tabs (k + 1)).l38_5_0 = Gl38_5_0 (Tabs k) from rfl]
          simp only [Gl38_5_0, m1, m2, m3, cond_true, Bool.and_true, Tm.eta, hk, outR, err_ne hf.1]
          exact hJ1 _ e
        · intro hf g65
          have hf2 := hf.2.1
          have g3 := ih (pre ++ [x]) y (i + 1) c1 (nextL hl) (nextI hi) hf.1 (fun y hy => hx y (List.mem_cons_of_mem _ hy)) (by omega) hf.2.2
          refine (g65.and g3).step fun k hk ρ J0 J1 K0 K1 hJ0 hJ1 => ?_
          rw [show (Tabs (k + 1)).l38_5_0 = Gl38_5_0 (Tabs k) from rfl]
          simp only [Gl38_5_0, m1, m2, m3, cond_true, cond_false, Bool.and_true, Tm.eta, hk.1, outR, show ((0 : Int) != 0) = false by rfl, W_id (show -9223372036854775808 ≤ i + 1 by omega) (by omega)]
          exact hk.2 ρ J0 J1 K0 K1 hJ0 hJ1

theorem s38 (t : Tm) (l : List Tm) : Evt fun k => ∀ ρ K, (Tabs k).c38_0 ρ t l K = K (insR t l).1 (insR t l).2 := by
  have no : (prB t && listB l) = false → insR t l = (tm0, 2) := fun h => by unfold insR; rw [h]; rfl
  have base := (s18 t).and (s56 l)
  cases h1 : prB t with
  | false =>
    refine base.step fun k hk ρ K => ?_
    rw [show (Tabs (k + 1)).c38_0 = Gc38_0 (Tabs k) from rfl, no (by simp [h1])]
    simp only [Gc38_0, Tm.eta, hk.1, h1, Bool.not_false, cond_true, tm0]
  | true =>
  cases h2 : listB l with
  | false =>
    refine base.step fun k hk ρ K => ?_
    rw [show (Tabs (k + 1)).c38_0 = Gc38_0 (Tabs k) from rfl, no (by simp [h2])]
    simp only [Gc38_0, Tm.eta, hk.1, h1, Bool.not_true, cond_false, hk.2, h2, Bool.not_false, cond_true, tm0]
  | true =>
    have h2' := listB_iff.1 h2
    have hlo := s38l l h2'.1 l [] t 0 0 rfl rfl (prB_iff.1 h1) h2'.2 (by omega) (by omega)
    have hm : insR t l = ret (instL t l 0) := by unfold insR; rw [h1, h2]; rfl
    rw [hm]
    revert hlo
    generalize instL t l 0 = q
    intro hlo
    refine (base.and hlo).step fun k hk ρ K => ?_
    rw [show (Tabs (k + 1)).c38_0 = Gc38_0 (Tabs k) from rfl]
    simp only [Gc38_0, Tm.eta, hk.1.1, h1, Bool.not_true, cond_false, hk.1.2, h2]
    refine (hk.2 ρ _ _ (fun t => K t 0) (fun e => K tm0 e) (fun t => rfl) (fun t e => rfl)).trans ?_
    rcases q with ⟨e | y, c⟩ <;> rfl

end Go.Proofs.Ytcgbfghdcjmaeaa.Ev
