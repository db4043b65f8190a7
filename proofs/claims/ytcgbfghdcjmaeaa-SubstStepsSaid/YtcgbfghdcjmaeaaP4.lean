/- This file proves what the substitution of the program and that of the reference compute: one plain function; without any condition. -/
import Derived.Test.YtcgbfghdcjmaeaaP3
set_option linter.unusedVariables false
set_option linter.unusedSimpArgs false
namespace Go.Proofs.Ytcgbfghdcjmaeaa.Ev

/-! ### The program -/

def outP {ρ : Type} (r : Rs Tm) (K0 : Int → Int → Option ρ) (K1 : Tm → Int → Option ρ) : Option ρ :=
  match r with
  | (.error e, c) => K0 e c
  | (.ok t, c) => K1 t c

def Walk41 (g : Nat) : Prop := ∀ (t : Tm) (n : Int) (s : Tm) (a : Sm) (c : Int), 20000 ≤ c + g → 0 ≤ c → c ≤ 20000 → Proper t → Proper s → 0 ≤ n → n + t.size ≤ 11000 →
  Evt fun k => ∀ ρ K0 K1, (Tabs k).c41_0 ρ t n s a c K0 K1 = outP (put g t n s a c) K0 K1

theorem s41l {g : Nat} (hg : Walk41 g) (op head nn n : Int) (s : Tm) (a : Sm) (hs : Proper s) (hn : 0 ≤ n) : ∀ (post pre l acc : List Tm) (i c : Int), l = pre ++ post → i = (pre.length : Int) → acc.length = pre.length → (∀ x ∈ post, Proper x) → n + 1 + sizeL l ≤ 11000 → 20000 ≤ c + g → 0 ≤ c → c ≤ 20000 →
    Evt fun k => ∀ ρ K0 K1, (Tabs k).l41_6_0 ρ n l (l.length : Int) i c ⟨op, head, nn, l⟩ s a tm0 ⟨op, head, nn, acc⟩ K0 K1 =
      match putL (fun x m c => put g x m s a c) op n i post c with
      | (.error e, c) => K1 c ⟨op, head, nn, l⟩ s a tm0 e
      | (.ok m, c) => K0 n c ⟨op, head, nn, l⟩ s a tm0 ⟨op, head, nn, acc ++ m⟩ := by
  intro post
  induction post with
  | nil =>
    intro pre l acc i c hl hi _ _ _ _ _ _
    refine Evt.step0 fun k ρ K0 K1 => ?_
    show Gl41_6_0 (Tabs k) ρ _ _ _ _ _ _ _ _ _ _ K0 K1 = _
    simp only [Gl41_6_0, endL hl hi, cond_false, Tm.eta, Sm.eta, putL, List.append_nil]
  | cons x r ih =>
    intro pre l acc i c hl hi ha hx hsz hgas hc0 hc
    obtain ⟨m1, m2, m3⟩ := midTm hl hi
    have hlen := lenL hl hi
    have hsum : sizeL l = sizeL pre + (x.size + sizeL r) := by rw [hl, sizeL_append]; rfl
    have hl2 := sizeL_len l
    have hu := under_nonneg op i
    simp only [List.length_cons] at hlen
    have g1 := hg x (n + under op i) s a c hgas hc0 hc (hx x (List.mem_cons_self ..)) hs (by omega) (by omega)
    have hf := fine_put g x (n + under op i) s a c hs hc
    have hwi := W_id (show -9223372036854775808 ≤ i + 1 by omega) (by omega)
    have hwn := W_id (show -9223372036854775808 ≤ n + under op i by omega) (by omega)
    simp only [putL]
    revert g1 hf
    generalize put g x (n + under op i) s a c = q
    rcases q with ⟨e | y, c1⟩
    · intro g1 hf
      refine ((s70 ⟨op, head, nn, l⟩ i).and g1).step fun k hk ρ K0 K1 => ?_
      show Gl41_6_0 (Tabs k) ρ _ _ _ _ _ _ _ _ _ _ K0 K1 = _
      simp only [Gl41_6_0, m1, m2, m3, cond_true, Bool.and_true, Tm.eta, Sm.eta, hk.1, hwn, hk.2, outP]
    · intro g1 hf
      have hf2 := hf.2.1
      have hf3 := hf.2.2
      have g2 := ih (pre ++ [x]) l (acc ++ [y]) (i + 1) c1 (nextL hl) (nextI hi) (by simp [ha]) (fun y hy => hx y (List.mem_cons_of_mem _ hy)) hsz (by omega) (by omega) hf3
      have hc' : decide ((List.length acc + List.length [y]) * 48 ≤ 140737488355328) = true := by
        simp only [decide_eq_true_eq, List.length_cons, List.length_nil]; omega
      dsimp only
      revert g2
      generalize putL (fun x m c => put g x m s a c) op n (i + 1) r c1 = q2
      intro g2
      refine ((s70 ⟨op, head, nn, l⟩ i).and (g1.and g2)).step fun k hk ρ K0 K1 => ?_
      show Gl41_6_0 (Tabs k) ρ _ _ _ _ _ _ _ _ _ _ K0 K1 = _
      simp only [Gl41_6_0, m1, m2, m3, cond_true, Bool.and_true, Tm.eta, Sm.eta, hk.1, hwn, hk.2.1, outP, hc', hwi, hk.2.2]
      rcases q2 with ⟨e | m, c2⟩ <;> simp

theorem s55l {g : Nat} (hg : Walk41 g) (a : Sm) : ∀ (post pre l : List Tm) (tpre tys : List Sm) (f : Tm) (i c : Int), l = pre ++ post → i = (pre.length : Int) → a.args = tpre ++ tys → tpre.length = pre.length → (∀ x ∈ post, Proper x) → Proper f → l.length ≤ 2000 → 20000 ≤ c + g → 0 ≤ c → c ≤ 20000 →
    Evt fun k => ∀ ρ J0 J1 K0 K1, (∀ c f e, J0 c f a tm0 e = K0 e c) → (∀ c f, J1 c f a tm0 = K1 f c) → (Tabs k).l55_3_0 ρ l (l.length : Int) i c f a tm0 J0 J1 = outP (appL (fun b x a c => put g b 0 x a c) f post tys c) K0 K1 := by
  intro post
  induction post with
  | nil =>
    intro pre l tpre tys f i c hl hi _ _ _ _ _ _ _ _
    refine Evt.step0 fun k ρ J0 J1 K0 K1 hJ0 hJ1 => ?_
    show Gl55_3_0 (Tabs k) ρ _ _ _ _ _ _ _ J0 J1 = _
    simp only [Gl55_3_0, endL hl hi, cond_false, Tm.eta, Sm.eta, appL, outP, hJ1]
  | cons x r ih =>
    intro pre l tpre tys f i c hl hi hta htl hx hf hlen2 hgas hc0 hc
    obtain ⟨m1, m2, m3⟩ := midTm hl hi
    have hlen := lenL hl hi
    simp only [List.length_cons] at hlen
    have hwi := W_id (show -9223372036854775808 ≤ i + 1 by omega) (by omega)
    by_cases ho : f.op = 3
    rotate_left
    · refine (s62 23).step fun k hk ρ J0 J1 K0 K1 hJ0 hJ1 => ?_
      show Gl55_3_0 (Tabs k) ρ _ _ _ _ _ _ _ J0 J1 = _
      simp only [Gl55_3_0, m1, m2, m3, cond_true, Bool.and_true, Tm.eta, Sm.eta, appL, outP, ho, if_false, show (f.op != 3) = true by simp [ho], hk, hJ0]
    obtain ⟨b, hb⟩ : ∃ b, f.args = [b] := by
      have := hf.2
      cases f with
      | mk o h n args =>
        simp only at ho; subst ho
        have h2 : nodeOk 3 h n args.length := by simp only [Form] at this; exact this.2.1
        simp only [nodeOk] at h2
        exact List.length_eq_one_iff.1 (by show args.length = 1; omega)
    cases tys with
    | nil =>
      have hi2 : decide (i ≥ (a.args.length : Int)) = true := by rw [hta, List.append_nil, htl]; simp [hi]
      refine (s62 23).step fun k hk ρ J0 J1 K0 K1 hJ0 hJ1 => ?_
      show Gl55_3_0 (Tabs k) ρ _ _ _ _ _ _ _ J0 J1 = _
      simp only [Gl55_3_0, m1, m2, m3, cond_true, cond_false, Bool.and_true, Tm.eta, Sm.eta, appL, outP, ho, if_true, show ((3 : Int) != 3) = false by rfl, hi2, hk, hb, hJ0]
    | cons ty tys =>
      obtain ⟨n1, n2, n3⟩ := midSm hta (i := i) (by rw [hi, htl])
      have hi2 : decide (i ≥ (a.args.length : Int)) = false := by
        have := of_decide_eq_true n2
        exact decide_eq_false (by omega)
      have hbp : Proper b := hf.arg (by rw [hb]; exact List.mem_cons_self ..)
      have hb0 : rdEl lay Key.tm ([b] : List Tm) (0 : Int) = b := rdTm0 b []
      have g1 := hg b 0 x ty c hgas hc0 hc hbp (hx x (List.mem_cons_self ..)) (by omega) (by have := hbp.1; omega)
      have hfn := fine_put g b 0 x ty c (hx x (List.mem_cons_self ..)) hc
      simp only [appL, ho, if_true, hb]
      revert g1 hfn
      generalize put g b 0 x ty c = q
      rcases q with ⟨e | y, c1⟩
      · intro g1 hfn
        refine g1.step fun k hk ρ J0 J1 K0 K1 hJ0 hJ1 => ?_
        show Gl55_3_0 (Tabs k) ρ _ _ _ _ _ _ _ J0 J1 = _
        simp only [Gl55_3_0, m1, m2, m3, n1, n2, n3, cond_true, cond_false, Bool.and_true, Tm.eta, Sm.eta, ho, show ((3 : Int) != 3) = false by rfl, hi2, hb, hb0, show decide ((0 : Int) ≤ 0) = true by rfl, show decide ((0 : Int) < (([b] : List Tm).length : Int)) = true by rfl, hk, outP, hJ0]
      · intro g1 hfn
        have hf2 := hfn.2.1
        have hf3 := hfn.2.2
        have g2 := ih (pre ++ [x]) l (tpre ++ [ty]) tys y (i + 1) c1 (nextL hl) (nextI hi) (nextL hta) (by simp [htl]) (fun y hy => hx y (List.mem_cons_of_mem _ hy)) hfn.1 hlen2 (by omega) (by omega) hf3
        refine (g1.and g2).step fun k hk ρ J0 J1 K0 K1 hJ0 hJ1 => ?_
        show Gl55_3_0 (Tabs k) ρ _ _ _ _ _ _ _ J0 J1 = _
        simp only [Gl55_3_0, m1, m2, m3, n1, n2, n3, cond_true, cond_false, Bool.and_true, Tm.eta, Sm.eta, ho, show ((3 : Int) != 3) = false by rfl, hi2, hb, hb0, show decide ((0 : Int) ≤ 0) = true by rfl, show decide ((0 : Int) < (([b] : List Tm).length : Int)) = true by rfl, hk.1, outP, hwi]
        exact hk.2 ρ J0 J1 K0 K1 hJ0 hJ1

theorem s55 {g : Nat} (hg : Walk41 g) (a : Sm) (f : Tm) (l : List Tm) (c : Int) (hl : ∀ x ∈ l, Proper x) (hf : Proper f) (h2 : l.length ≤ 2000) (hgas : 20000 ≤ c + g) (hc0 : 0 ≤ c) (hc : c ≤ 20000) :
    Evt fun k => ∀ ρ K0 K1, (Tabs k).c55_0 ρ f l a c K0 K1 = outP (appL (fun b x a c => put g b 0 x a c) f l a.args c) K0 K1 := by
  have h1 := s55l hg a l [] l [] a.args f 0 c rfl rfl rfl rfl hl hf h2 hgas hc0 hc
  have hfn := fine_appL (p := fun b x a c => put g b 0 x a c) (fun b x a c hb hx hc => by
    have := fine_put g b 0 x a c hx hc
    revert this
    generalize put g b 0 x a c = q
    rcases q with ⟨e | y, c1⟩ <;> intro h <;> exact ⟨h.1, by have := h.2.1; omega, h.2.2⟩) l f a.args c hl hf hc
  revert h1 hfn
  generalize appL (fun b x a c => put g b 0 x a c) f l a.args c = q
  rcases q with ⟨e | y, c1⟩
  · intro h1 hfn
    refine h1.step fun k hk ρ K0 K1 => ?_
    show Gc55_0 (Tabs k) ρ _ _ _ _ K0 K1 = _
    simp only [Gc55_0, Tm.eta, Sm.eta]
    exact hk ρ _ _ K0 (fun t c => (Tabs k).c71_0 ρ t (fun r14 => K0 r14 c) (fun r15 => K1 r15 c)) (fun _ _ _ => rfl) (fun _ _ => rfl)
  · intro h1 hfn
    refine (h1.and (s71_ok hfn.1)).step fun k hk ρ K0 K1 => ?_
    show Gc55_0 (Tabs k) ρ _ _ _ _ K0 K1 = _
    simp only [Gc55_0, Tm.eta, Sm.eta]
    refine (hk.1 ρ _ _ K0 (fun t c => (Tabs k).c71_0 ρ t (fun r14 => K0 r14 c) (fun r15 => K1 r15 c)) (fun _ _ _ => rfl) (fun _ _ => rfl)).trans ?_
    simp only [outP, hk.2]

theorem s71 (t : Tm) : Evt fun k => ∀ ρ K0 K1, (Tabs k).c71_0 ρ t K0 K1 = match whole t with | .error e => K0 e | .ok t => K1 t := by
  by_cases h : Proper t
  · rw [whole_ok h]; exact s71_ok h
  · rw [whole_no h]; exact s71_no h

theorem s58 {t : Tm} {by_ : Int} (hb : 0 ≤ by_ ∧ by_ ≤ 9999) (ht : Proper t) : Evt fun k => ∀ ρ K0 K1, (Tabs k).c58_0 ρ t by_ K0 K1 = match whole (mv by_ 0 t) with | .error e => K0 e | .ok t => K1 t := by
  by_cases h : Proper (mv by_ 0 t)
  · rw [whole_ok h]; exact s58_ok hb ht h
  · rw [whole_no h]; exact s58_no hb ht h

theorem s41 : ∀ g, Walk41 g
  | 0 => by
    intro t n s a c hgas hc0 hc ht hs hn hsz
    refine (s62 5).step fun k hk ρ K0 K1 => ?_
    show Gc41_0 (Tabs k) ρ _ _ _ _ _ K0 K1 = _
    have hw := W_id (show -9223372036854775808 ≤ c + 1 by omega) (by omega)
    have h1 : decide (c + 1 > 20000) = true := by simp only [decide_eq_true_eq]; omega
    simp only [Gc41_0, hw, h1, cond_true, hk, put, outP]
  | g + 1 => by
    intro t n s a c hgas hc0 hc ht hs hn hsz
    have hw := W_id (show -9223372036854775808 ≤ c + 1 by omega) (by omega)
    by_cases h1 : c + 1 > 20000
    · refine (s62 5).step fun k hk ρ K0 K1 => ?_
      show Gc41_0 (Tabs k) ρ _ _ _ _ _ K0 K1 = _
      simp only [Gc41_0, hw, h1, decide_true, cond_true, hk, put, outP, if_true]
    · rw [put, if_neg h1]
      cases t with
      | mk op head nn args =>
      have ihg := s41 g
      have hargs : ∀ x ∈ args, Proper x := fun x hx => ht.arg hx
      have hts := ht.1
      simp only [Tm.size] at hsz hts
      have g1 := s41l ihg op head nn n s a hs hn args [] args [] 0 (c + 1) rfl rfl rfl hargs (by omega) (by omega) (by omega) (by omega)
      have hfn := fine_putL (p := fun x m c => put g x m s a c) op n args 0 (c + 1) (fun x _ m c hc => by
        have := fine_put g x m s a c hs hc
        revert this
        generalize put g x m s a c = q
        rcases q with ⟨e | y, c1⟩ <;> intro h <;> exact ⟨h.1, by have := h.2.1; omega, h.2.2⟩) (by omega)
      have hsl := sizeL_len args
      simp only [List.nil_append] at g1
      revert g1 hfn
      simp only
      generalize putL (fun x m c => put g x m s a c) op n 0 args (c + 1) = q
      rcases q with ⟨e | l, c1⟩
      · intro g1 hfn
        refine g1.step fun k hk ρ K0 K1 => ?_
        show Gc41_0 (Tabs k) ρ _ _ _ _ _ K0 K1 = _
        have hd : decide (c + 1 > 20000) = false := by simp only [decide_eq_false_iff_not]; omega
        have hk' := hk ρ
        simp only [tm0] at hk'
        simp only [Gc41_0, hw, hd, cond_false, Tm.eta, Sm.eta, hk', outP]
      · intro g1 hfn
        have hf2 := hfn.2.1
        have hf3 := hfn.2.2
        have hnn := Form.n ht.2
        have hlen : l.length ≤ 2000 := by have := hfn.1.1; omega
        have hd : decide (c + 1 > 20000) = false := by simp only [decide_eq_false_iff_not]; omega
        by_cases hit : op = 4 ∧ head = 1 ∧ nn = n
        · obtain ⟨rfl, rfl, rfl⟩ := hit
          simp only [and_self, if_true]
          have g2 := s58 (t := s) (by_ := nn) hnn hs
          by_cases hm : Proper (mv nn 0 s)
          · rw [whole_ok hm] at g2 ⊢
            have g3 := s55 ihg a (mv nn 0 s) l c1 hfn.1.2 hm hlen (by omega) (by omega) hf3
            have hfa := fine_appL (p := fun b x a c => put g b 0 x a c) (fun b x a c hb hx hc => by
              have := fine_put g b 0 x a c hx hc
              revert this
              generalize put g b 0 x a c = q
              rcases q with ⟨e | y, c1⟩ <;> intro h <;> exact ⟨h.1, by have := h.2.1; omega, h.2.2⟩) l (mv nn 0 s) a.args c1 hfn.1.2 hm hf3
            simp only
            revert g3 hfa
            generalize appL (fun b x a c => put g b 0 x a c) (mv nn 0 s) l a.args c1 = q2
            rcases q2 with ⟨e | y, c2⟩
            · intro g3 hfa
              refine (g1.and (g2.and g3)).step fun k hk ρ K0 K1 => ?_
              show Gc41_0 (Tabs k) ρ _ _ _ _ _ K0 K1 = _
              have hk' := hk.1 ρ
              simp only [tm0] at hk'
              simp only [Gc41_0, hw, hd, cond_false, cond_true, Tm.eta, Sm.eta, hk', outP, beq_self_eq_true, hk.2.1, hk.2.2]
            · intro g3 hfa
              refine (g1.and (g2.and (g3.and (s71_ok hfa.1)))).step fun k hk ρ K0 K1 => ?_
              show Gc41_0 (Tabs k) ρ _ _ _ _ _ K0 K1 = _
              have hk' := hk.1 ρ
              simp only [tm0] at hk'
              simp only [Gc41_0, hw, hd, cond_false, cond_true, Tm.eta, Sm.eta, hk', outP, beq_self_eq_true, hk.2.1, hk.2.2.1, hk.2.2.2]
          · rw [whole_no hm] at g2 ⊢
            refine (g1.and g2).step fun k hk ρ K0 K1 => ?_
            show Gc41_0 (Tabs k) ρ _ _ _ _ _ K0 K1 = _
            have hk' := hk.1 ρ
            simp only [tm0] at hk'
            simp only [Gc41_0, hw, hd, cond_false, cond_true, Tm.eta, Sm.eta, hk', outP, beq_self_eq_true, hk.2]
        · simp only [hit, if_false]
          have g2 := s71 ⟨op, head, less op head nn n, l⟩
          revert g2
          generalize hq : whole ⟨op, head, less op head nn n, l⟩ = q2
          intro g2
          refine (g1.and g2).step fun k hk ρ K0 K1 => ?_
          show Gc41_0 (Tabs k) ρ _ _ _ _ _ K0 K1 = _
          have hk' := hk.1 ρ
          simp only [tm0] at hk'
          have hk2 := hk.2 ρ
          have fin : ∀ m, m = less op head nn n → (Tabs k).c71_0 ρ ⟨op, head, m, l⟩ (fun e => K0 e c1) (fun t => K1 t c1) = outP (q2, c1) K0 K1 := by
            intro m hm
            rw [hm, hk2]
            cases q2 <;> rfl
          have hwm := W_id (show -9223372036854775808 ≤ nn - 1 by omega) (by omega)
          simp only [Gc41_0, hw, hd, cond_false, cond_true, Tm.eta, Sm.eta, hk', hwm]
          by_cases c1 : op = 4
          · by_cases c2 : head = 1
            · have c3 : nn ≠ n := fun h => hit ⟨c1, c2, h⟩
              simp only [show (op == 4) = true by simp [c1], show (head == 1) = true by simp [c2], show (nn == n) = false by simp [c3], cond_true, cond_false]
              by_cases c4 : nn > n
              · simp only [c4, decide_true, cond_true]
                exact fin _ (by simp [less, c1, c2, c4])
              · simp only [c4, decide_false, cond_false]
                exact fin _ (by simp [less, c1, c2]; omega)
            · simp only [show (op == 4) = true by simp [c1], show (head == 1) = false by simp [c2], cond_true, cond_false]
              exact fin _ (by simp [less, c2])
          · simp only [show (op == 4) = false by simp [c1], cond_false]
            exact fin _ (by simp [less, c1])

end Go.Proofs.Ytcgbfghdcjmaeaa.Ev
