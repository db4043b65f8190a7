/- This file proves that the reference's substitution computes the same plain function; without any condition. -/
import Derived.Test.YtcgbfghdcjmaeaaP4
set_option linter.unusedVariables false
set_option linter.unusedSimpArgs false
namespace Go.Proofs.Ytcgbfghdcjmaeaa.Ev

def outR {ρ : Type} (r : Rs Tm) (K : Tm → Int → Int → Option ρ) : Option ρ :=
  match r with
  | (.error e, c) => K tm0 e c
  | (.ok t, c) => K t 0 c

def Walk43 (g : Nat) : Prop := ∀ (t : Tm) (n : Int) (s : Tm) (a : Sm) (c : Int), 20000 ≤ c + g → 0 ≤ c → c ≤ 20000 → Proper t → Proper s → 0 ≤ n → n + t.size ≤ 11000 →
  Evt fun k => ∀ ρ K, (Tabs k).c43_0 ρ t n s a c K = outR (put g t n s a c) K

theorem err_ne {e : Int} (h : e = 5 ∨ e = 23) : (e != 0) = true := by rcases h with rfl | rfl <;> rfl

theorem s43l {g : Nat} (hg : Walk43 g) (op head nn n : Int) (s : Tm) (a : Sm) (hs : Proper s) (hn : 0 ≤ n) : ∀ (post pre l acc : List Tm) (i c : Int), l = pre ++ post → i = (pre.length : Int) → acc.length = pre.length → (∀ x ∈ post, Proper x) → n + 1 + sizeL l ≤ 11000 → 20000 ≤ c + g → 0 ≤ c → c ≤ 20000 →
    Evt fun k => ∀ ρ K0 K1, (Tabs k).l43_7_0 ρ n i c ⟨op, head, nn, l⟩ s a tm0 ⟨op, head, nn, acc⟩ K0 K1 =
      match putL (fun x m c => put g x m s a c) op n i post c with
      | (.error e, c) => K0 e c ⟨op, head, nn, l⟩ s a tm0
      | (.ok m, c) => K1 n c ⟨op, head, nn, l⟩ s a tm0 ⟨op, head, nn, acc ++ m⟩ := by
  intro post
  induction post with
  | nil =>
    intro pre l acc i c hl hi _ _ _ _ _ _
    refine Evt.step0 fun k ρ K0 K1 => ?_
    show Gl43_7_0 (Tabs k) ρ _ _ _ _ _ _ _ _ K0 K1 = _
    simp only [Gl43_7_0, endL hl hi, cond_false, Tm.eta, Sm.eta, putL, List.append_nil]
  | cons x r ih =>
    intro pre l acc i c hl hi ha hx hsz hgas hc0 hc
    obtain ⟨m1, m2, m3⟩ := midTm hl hi
    have hlen := lenL hl hi
    have hsum : sizeL l = sizeL pre + (x.size + sizeL r) := by rw [hl, sizeL_append]; rfl
    have hl2 := sizeL_len l
    have hu := under_nonneg op i
    simp only [List.length_cons] at hlen
    have g1 := hg x (n + under op i) s a c hgas hc0 hc (hx x (List.mem_cons_self ..)) hs (by omega) (by omega)
    have hf := fine_put g x (n + under op i) s a c hs hc
    have hwi := W_id (show -9223372036854775808 ≤ i + 1 by omega) (by omega)
    have hw1 := W_id (show -9223372036854775808 ≤ n + 1 by omega) (by omega)
    have hw0 := W_id (show -9223372036854775808 ≤ n + 0 by omega) (by omega)
    -- what the branches have in common
    have branch : ∀ (k : Nat) (ρ : Type) (K0 : Int → Int → Tm → Tm → Sm → Tm → Option ρ) (K1 : Int → Int → Tm → Tm → Sm → Tm → Tm → Option ρ),
        Gl43_7_0 (Tabs k) ρ n i c ⟨op, head, nn, l⟩ s a tm0 ⟨op, head, nn, acc⟩ K0 K1 =
          (Tabs k).c43_0 ρ x (n + under op i) s a c (fun r9 r10 r11 => cond (r10 != 0) (K0 r10 r11 ⟨op, head, nn, l⟩ s a tm0) (cond (decide ((List.length acc + List.length [r9]) * 48 ≤ 140737488355328)) ((Tabs k).l43_7_0 ρ n (i + 1) r11 ⟨op, head, nn, l⟩ s a tm0 ⟨op, head, nn, acc ++ [r9]⟩ K0 K1) none)) := by
      intro k ρ K0 K1
      by_cases c1 : op = 3
      · have hun : under op i = 1 := by simp [under, c1]
        simp only [Gl43_7_0, m1, m2, m3, cond_true, Bool.and_true, Tm.eta, Sm.eta, hw1, hwi, show (op == 3) = true by simp [c1], hun]; rfl
      · by_cases c2 : op = 2 ∧ i = 1
        · have hun : under op i = 1 := by simp [under, c2]
          have c2' := c2.1
          have c2'' := c2.2
          simp only [Gl43_7_0, m1, m2, m3, cond_true, cond_false, Bool.and_true, Tm.eta, Sm.eta, hw1, hwi, show (op == 3) = false by simp [c1], show (op == 2) = true by simp [c2'], show (i == 1) = true by simp [c2''], hun]; rfl
        · have hun : under op i = 0 := by simp [under, c1, c2]
          by_cases c3 : op = 2
          · have c4 : i ≠ 1 := fun h => c2 ⟨c3, h⟩
            simp only [Gl43_7_0, m1, m2, m3, cond_true, cond_false, Bool.and_true, Tm.eta, Sm.eta, hw0, hwi, show (op == 3) = false by simp [c1], show (op == 2) = true by simp [c3], show (i == 1) = false by simp [c4], hun]; rfl
          · simp only [Gl43_7_0, m1, m2, m3, cond_true, cond_false, Bool.and_true, Tm.eta, Sm.eta, hw0, hwi, show (op == 3) = false by simp [c1], show (op == 2) = false by simp [c3], hun]; rfl
    simp only [putL]
    revert g1 hf
    generalize put g x (n + under op i) s a c = q
    rcases q with ⟨e | y, c1⟩
    · intro g1 hf
      refine g1.step fun k hk ρ K0 K1 => ?_
      show Gl43_7_0 (Tabs k) ρ _ _ _ _ _ _ _ _ K0 K1 = _
      rw [branch, hk]
      simp only [outR, err_ne hf.1, cond_true]
    · intro g1 hf
      have hf2 := hf.2.1
      have hf3 := hf.2.2
      have g2 := ih (pre ++ [x]) l (acc ++ [y]) (i + 1) c1 (nextL hl) (nextI hi) (by simp [ha]) (fun y hy => hx y (List.mem_cons_of_mem _ hy)) hsz (by omega) (by omega) hf3
      have hc' : decide ((List.length acc + List.length [y]) * 48 ≤ 140737488355328) = true := by
        simp only [decide_eq_true_eq, List.length_cons, List.length_nil]; omega
      dsimp only
      revert g2
      generalize putL (fun x m c => put g x m s a c) op n (i + 1) r c1 = q2
      intro g2
      refine (g1.and g2).step fun k hk ρ K0 K1 => ?_
      show Gl43_7_0 (Tabs k) ρ _ _ _ _ _ _ _ _ K0 K1 = _
      rw [branch, hk.1]
      simp only [outR, show ((0 : Int) != 0) = false by rfl, cond_false, hc', cond_true, hk.2]
      rcases q2 with ⟨e | m, c2⟩ <;> simp

theorem s57 {g : Nat} (hg : Walk43 g) (con : Int) : ∀ (l : List Tm) (f : Tm) (tys : List Sm) (c : Int), (∀ x ∈ l, Proper x) → Proper f → l.length ≤ 2000 → 20000 ≤ c + g → 0 ≤ c → c ≤ 20000 →
    Evt fun k => ∀ ρ K, (Tabs k).c57_0 ρ f l ⟨tys, con⟩ c K = outR (appL (fun b x a c => put g b 0 x a c) f l tys c) K := by
  intro l
  induction l with
  | nil =>
    intro f tys c _ hf _ _ _ _
    refine (s59_ok hf).step fun k hk ρ K => ?_
    rw [show (Tabs (k + 1)).c57_0 = Gc57_0 (Tabs k) from rfl]
    simp [Gc57_0, Tm.eta, hk, appL, outR]
  | cons x r ih =>
    intro f tys c hx hf hlen hgas hc0 hc
    have e0 : (((x :: r).length : Int) == 0) = false := by simp <;> omega
    by_cases ho : f.op = 3
    rotate_left
    · refine Evt.step0 fun k ρ K => ?_
      rw [show (Tabs (k + 1)).c57_0 = Gc57_0 (Tabs k) from rfl]
      simp only [Gc57_0, e0, cond_false, show (f.op != 3) = true by simp [ho], cond_true, appL, ho, if_false, outR, tm0]
    obtain ⟨b, hb⟩ : ∃ b, f.args = [b] := by
      have := hf.2
      cases f with
      | mk o h n args =>
        simp only at ho; subst ho
        have h2 : nodeOk 3 h n args.length := by simp only [Form] at this; exact this.2.1
        simp only [nodeOk] at h2
        exact List.length_eq_one_iff.1 (by show args.length = 1; omega)
    cases tys with
    | nil =>
      refine Evt.step0 fun k ρ K => ?_
      rw [show (Tabs (k + 1)).c57_0 = Gc57_0 (Tabs k) from rfl]
      simp only [Gc57_0, e0, cond_false, show ((3 : Int) != 3) = false by rfl, ho, cond_true, appL, ho, if_true, outR, tm0, hb, show ((([] : List Sm).length : Int) == 0) = true by rfl]
    | cons ty tys =>
      have hbp : Proper b := hf.arg (by rw [hb]; exact List.mem_cons_self ..)
      have g1 := hg b 0 x ty c hgas hc0 hc hbp (hx x (List.mem_cons_self ..)) (by omega) (by have := hbp.1; omega)
      have hfn := fine_put g b 0 x ty c (hx x (List.mem_cons_self ..)) hc
      have hr0 : rdEl lay Key.tm ([b] : List Tm) (0 : Int) = b := rdTm0 b []
      have hr1 : rdEl lay Key.tm (x :: r : List Tm) (0 : Int) = x := rdTm0 x r
      have hr2 : rdEl lay Key.sm (ty :: tys : List Sm) (0 : Int) = ty := rdSm0 ty tys
      have e1 : (((ty :: tys).length : Int) == 0) = false := by simp <;> omega
      have e2 : decide ((0 : Int) < ((x :: r).length : Int)) = true := by simp <;> omega
      have e3 : decide ((0 : Int) < ((ty :: tys).length : Int)) = true := by simp <;> omega
      have e4 : decide ((1 : Int) ≤ ((x :: r).length : Int)) = true := by simp <;> omega
      have e5 : decide ((1 : Int) ≤ ((ty :: tys).length : Int)) = true := by simp <;> omega
      simp only [appL, ho, if_true, hb]
      revert g1 hfn
      generalize put g b 0 x ty c = q
      rcases q with ⟨e | y, c1⟩
      · intro g1 hfn
        refine g1.step fun k hk ρ K => ?_
        rw [show (Tabs (k + 1)).c57_0 = Gc57_0 (Tabs k) from rfl]
        simp only [Gc57_0, e0, e1, e2, e3, cond_false, cond_true, show ((3 : Int) != 3) = false by rfl, ho, hb, hr0, hr1, hr2, Tm.eta, Sm.eta, show decide ((0 : Int) ≤ 0) = true by rfl, show decide ((0 : Int) < (([b] : List Tm).length : Int)) = true by rfl, Bool.and_true, hk, outR, err_ne hfn.1, tm0]
      · intro g1 hfn
        have hf2 := hfn.2.1
        have hf3 := hfn.2.2
        simp only [List.length_cons] at hlen
        have g2 := ih y tys c1 (fun y hy => hx y (List.mem_cons_of_mem _ hy)) hfn.1 (by omega) (by omega) (by omega) hf3
        have d1 : List.drop (Int.toNat 1) (List.take (Int.toNat ((x :: r).length : Int)) (x :: r)) = r := by simp
        have d2 : List.drop (Int.toNat 1) (List.take (Int.toNat ((ty :: tys).length : Int)) (ty :: tys)) = tys := by simp
        refine (g1.and g2).step fun k hk ρ K => ?_
        rw [show (Tabs (k + 1)).c57_0 = Gc57_0 (Tabs k) from rfl]
        simp only [Gc57_0, e0, e1, e2, e3, e4, e5, cond_false, cond_true, show ((3 : Int) != 3) = false by rfl, ho, hb, hr0, hr1, hr2, Tm.eta, Sm.eta, show decide ((0 : Int) ≤ 0) = true by rfl, show decide ((0 : Int) ≤ 1) = true by rfl, Int.le_refl, decide_true, show decide ((0 : Int) < (([b] : List Tm).length : Int)) = true by rfl, Bool.and_true, hk.1, outR, show ((0 : Int) != 0) = false by rfl, d1, d2]
        exact hk.2 ρ K

theorem s59 (t : Tm) : Evt fun k => ∀ ρ K, (Tabs k).c59_0 ρ t K = match whole t with | .error e => K tm0 e | .ok t => K t 0 := by
  by_cases h : Proper t
  · rw [whole_ok h]; exact s59_ok h
  · rw [whole_no h]; exact s59_no h

theorem s43 : ∀ g, Walk43 g
  | 0 => by
    intro t n s a c hgas hc0 hc ht hs hn hsz
    refine Evt.step0 fun k ρ K => ?_
    show Gc43_0 (Tabs k) ρ _ _ _ _ _ K = _
    have hw := W_id (show -9223372036854775808 ≤ c + 1 by omega) (by omega)
    have h1 : decide (c + 1 > 20000) = true := by simp only [decide_eq_true_eq]; omega
    simp only [Gc43_0, hw, h1, cond_true, put, outR, tm0]
  | g + 1 => by
    intro t n s a c hgas hc0 hc ht hs hn hsz
    have hw := W_id (show -9223372036854775808 ≤ c + 1 by omega) (by omega)
    by_cases h1 : c + 1 > 20000
    · refine Evt.step0 fun k ρ K => ?_
      show Gc43_0 (Tabs k) ρ _ _ _ _ _ K = _
      simp only [Gc43_0, hw, h1, decide_true, cond_true, put, outR, if_true, tm0]
    · rw [put, if_neg h1]
      cases t with
      | mk op head nn args =>
      have ihg := s43 g
      have hargs : ∀ x ∈ args, Proper x := fun x hx => ht.arg hx
      have hts := ht.1
      simp only [Tm.size] at hsz hts
      have g1 := s43l ihg op head nn n s a hs hn args [] args [] 0 (c + 1) rfl rfl rfl hargs (by omega) (by omega) (by omega) (by omega)
      have hfn := fine_putL (p := fun x m c => put g x m s a c) op n args 0 (c + 1) (fun x _ m c hc => by
        have := fine_put g x m s a c hs hc
        revert this
        generalize put g x m s a c = q
        rcases q with ⟨e | y, c1⟩ <;> intro h <;> exact ⟨h.1, by have := h.2.1; omega, h.2.2⟩) (by omega)
      have hsl := sizeL_len args
      simp only [List.nil_append] at g1
      revert g1 hfn
      simp only
      generalize putL (fun x m c => put g x m s a c) op n 0 args (c + 1) = q
      have hd : decide (c + 1 > 20000) = false := by simp only [decide_eq_false_iff_not]; omega
      rcases q with ⟨e | l, c1⟩
      · intro g1 hfn
        refine g1.step fun k hk ρ K => ?_
        show Gc43_0 (Tabs k) ρ _ _ _ _ _ K = _
        have hk' := hk ρ
        simp only [tm0] at hk'
        simp only [Gc43_0, hw, hd, cond_false, Tm.eta, Sm.eta, hk', outR, tm0]
      · intro g1 hfn
        have hf2 := hfn.2.1
        have hf3 := hfn.2.2
        have hnn := Form.n ht.2
        have hlen : l.length ≤ 2000 := by have := hfn.1.1; omega
        by_cases hit : op = 4 ∧ head = 1 ∧ nn = n
        · obtain ⟨rfl, rfl, rfl⟩ := hit
          simp only [and_self, if_true]
          have e1 : decide (nn < nn) = false := by simp
          have e2 : decide (nn > nn) = false := by simp
          have g2 := (s60 (t := s) (by_ := nn) hnn hs).and (s59 (mv nn 0 s))
          by_cases hm : Proper (mv nn 0 s)
          · rw [whole_ok hm] at g2 ⊢
            cases a with
            | mk tys con =>
            have g3 := s57 ihg con l (mv nn 0 s) tys c1 hfn.1.2 hm hlen (by omega) (by omega) hf3
            simp only
            revert g3
            generalize appL (fun b x a c => put g b 0 x a c) (mv nn 0 s) l tys c1 = q2
            intro g3
            refine (g1.and (g2.and g3)).step fun k hk ρ K => ?_
            show Gc43_0 (Tabs k) ρ _ _ _ _ _ K = _
            have hk' := hk.1 ρ
            simp only [tm0] at hk'
            simp only [Gc43_0, hw, hd, cond_false, cond_true, Tm.eta, Sm.eta, hk', show ((4 : Int) != 4) = false by rfl, show ((1 : Int) != 1) = false by rfl, e1, e2, hk.2.1.1, hk.2.1.2, show ((0 : Int) != 0) = false by rfl, hk.2.2]
          · rw [whole_no hm] at g2 ⊢
            refine (g1.and g2).step fun k hk ρ K => ?_
            show Gc43_0 (Tabs k) ρ _ _ _ _ _ K = _
            have hk' := hk.1 ρ
            simp only [tm0] at hk'
            simp only [Gc43_0, hw, hd, cond_false, cond_true, Tm.eta, Sm.eta, hk', show ((4 : Int) != 4) = false by rfl, show ((1 : Int) != 1) = false by rfl, e1, e2, hk.2.1, hk.2.2, show ((5 : Int) != 0) = true by rfl, outR, tm0]
        · simp only [hit, if_false]
          have g2 := s59 ⟨op, head, less op head nn n, l⟩
          revert g2
          generalize hq : whole ⟨op, head, less op head nn n, l⟩ = q2
          intro g2
          refine (g1.and g2).step fun k hk ρ K => ?_
          show Gc43_0 (Tabs k) ρ _ _ _ _ _ K = _
          have hk' := hk.1 ρ
          simp only [tm0] at hk'
          have hk2 := hk.2 ρ
          have fin : ∀ m, m = less op head nn n → (Tabs k).c59_0 ρ ⟨op, head, m, l⟩ (fun t e => K t e c1) = outR (q2, c1) K := by
            intro m hm
            rw [hm, hk2]
            cases q2 <;> rfl
          have hwm := W_id (show -9223372036854775808 ≤ nn - 1 by omega) (by omega)
          simp only [Gc43_0, hw, hd, cond_false, cond_true, Tm.eta, Sm.eta, hk', hwm]
          by_cases c1 : op = 4
          · by_cases c2 : head = 1
            · have c3 : nn ≠ n := fun h => hit ⟨c1, c2, h⟩
              simp only [show (op != 4) = false by simp [c1], show (head != 1) = false by simp [c2], cond_true, cond_false]
              by_cases c4 : nn > n
              · have c5 : ¬ nn < n := by omega
                simp only [c4, c5, decide_true, decide_false, cond_true, cond_false]
                exact fin _ (by simp [less, c1, c2, c4])
              · have c5 : nn < n := by omega
                simp only [c5, decide_true, cond_true]
                exact fin _ (by simp [less, c1, c2]; omega)
            · simp only [show (op != 4) = false by simp [c1], show (head != 1) = true by simp [c2], cond_true, cond_false]
              exact fin _ (by simp [less, c2])
          · simp only [show (op != 4) = true by simp [c1], cond_true]
            exact fin _ (by simp [less, c1])

end Go.Proofs.Ytcgbfghdcjmaeaa.Ev
