/- This file proves what the functions of SyntaxRenamed answer, and the law itself; without any condition. -/
import Derived.Test.YtanfoijdfcnpoaaGreatDoorN5
set_option linter.unusedVariables false
set_option linter.unusedSimpArgs false
namespace Go.Proofs.YtanfoijdfcnpoaaGreatDoor.Ev

theorem names_loop (l : List ByteArray) (hl : l.length ≤ 100000) : ∀ (r pre : List ByteArray), l = pre ++ r →
    Evt fun k => ∀ (ρ : Type) k0 k1, (Tabs k).l18_4_0 ρ l l (l.length : Int) (pre.length : Int) k0 k1 = k1
  | [], pre, ha => Evt.step0 fun k ρ k0 k1 => by
    rw [show (Tabs (k + 1)).l18_4_0 = Gl18_4_0 (Tabs k) from rfl]
    have e : decide ((pre.length : Int) < ((l).length : Int)) = false := by simp [ha]
    simp only [Gl18_4_0, e, cond_false]
  | y :: r, pre, ha => (names_loop l hl r (pre ++ [y]) (by simp [ha])).step fun k ih ρ k0 k1 => by
    rw [show (Tabs (k + 1)).l18_4_0 = Gl18_4_0 (Tabs k) from rfl]
    have hlen : pre.length < l.length := by simp [ha]
    have e1 : decide ((pre.length : Int) < ((l).length : Int)) = true := by simp; omega
    have e2 : decide ((0 : Int) ≤ (pre.length : Int)) = true := by simp
    have e4 : IntKind.wrap .i64 ((pre.length : Int) + 1) = ((pre ++ [y]).length : Int) := by
      rw [W_id (by omega) (by omega)]; simp
    have e5 : strEq y y = true := strEq_iff.2 rfl
    have e6 : rdEl lay Key.str l (pre.length : Int) = y := by rw [ha]; exact rdStr ..
    simp only [Gl18_4_0, e1, e2, Bool.and_self, cond_true, e6, e5, Bool.not_true, cond_false, e4, ih]

theorem s_names (l : List ByteArray) (hl : l.length ≤ 100000) : Evt fun k => ∀ (ρ : Type) K, (Tabs k).c18_0 ρ l l K = K true := (names_loop l hl l [] rfl).step fun k ih ρ K => by
  rw [show (Tabs (k + 1)).c18_0 = Gc18_0 (Tabs k) from rfl]
  have ih' := ih ρ
  simp only [List.length_nil, Int.natCast_zero] at ih'
  simp only [Gc18_0, bne_self_eq_false, cond_false, ih']

theorem s_Free (e : Xp) (hok : e.rw.Ok) (hs : e.sz ≤ 400) (hw : wellB e.rw = true) : Evt fun k => ∀ (ρ : Type) K, (Tabs k).c16_0 ρ e.rw K = K (e.free [] []) 0 :=
  ((s_check e.rw hok).and (s_free e [] [] (by simp; omega) (by simp; omega))).step fun k ⟨h1, h2⟩ ρ K => by
    rw [show (Tabs (k + 1)).c16_0 = Gc16_0 (Tabs k) from rfl]
    have e0 : (((0 : Int)) != 0) = false := rfl
    simp only [Gc16_0, Rw.eta, h1, hw, cond_true, e0, cond_false, h2.1]

theorem same_loop : ∀ (r r' pre pre' : List Rw), (∀ x ∈ r, ∀ y, Evt fun k => ∀ (ρ : Type) K, (Tabs k).c20_0 ρ x y K = K (eqRw x y)) → pre.length = pre'.length → r.length = r'.length → (pre ++ r).length ≤ 140737488351232 →
    Evt fun k => ∀ (ρ : Type) k0 k1, (Tabs k).l49_4_0 ρ (pre' ++ r') (pre ++ r) ((pre ++ r).length : Int) (pre.length : Int) k0 k1 = cond (eqRwL r r') k1 (k0 false)
  | [], r', pre, pre', _, hp, hr, _ => by
    cases r' with
    | cons _ _ => cases hr
    | nil =>
      refine Evt.step0 fun k ρ k0 k1 => ?_
      show Gl49_4_0 (Tabs k) ρ _ _ _ _ _ _ = _
      have e : decide ((pre.length : Int) < ((pre ++ []).length : Int)) = false := by simp
      simp only [Gl49_4_0, e, cond_false, eqRwL, cond_true]
  | x :: r, r', pre, pre', ih, hp, hr, hs => by
    cases r' with
    | nil => cases hr
    | cons y r' =>
      have hl : pre ++ x :: r = (pre ++ [x]) ++ r := by simp
      have hl' : pre' ++ y :: r' = (pre' ++ [y]) ++ r' := by simp
      have h2 := same_loop r r' (pre ++ [x]) (pre' ++ [y]) (fun z hz => ih z (List.mem_cons_of_mem _ hz)) (by simp [hp]) (by simpa using hr) (by rw [← hl]; exact hs)
      rw [← hl, ← hl'] at h2
      refine ((ih x (List.mem_cons_self ..) y).and h2).step fun k hk ρ k0 k1 => ?_
      obtain ⟨hk1, hk2⟩ := hk
      show Gl49_4_0 (Tabs k) ρ _ _ _ _ _ _ = _
      have hlen : pre.length < (pre ++ x :: r).length := by simp
      have e1 : decide ((pre.length : Int) < ((pre ++ x :: r).length : Int)) = true := by simp; omega
      have e2 : decide ((0 : Int) ≤ (pre.length : Int)) = true := by simp
      have e3 : decide ((pre.length : Int) < ((pre' ++ y :: r').length : Int)) = true := by rw [hp]; simp; omega
      have e4 : IntKind.wrap .i64 ((pre.length : Int) + 1) = ((pre ++ [x]).length : Int) := by
        rw [W_id (by omega) (by omega)]; simp
      have e5 : rdEl lay Key.raw (pre' ++ y :: r') (pre.length : Int) = y := by rw [hp]; exact rdRw ..
      simp only [Gl49_4_0, e1, e2, e3, Bool.and_self, cond_true, rdRw, e5, Rw.eta, hk1, e4, hk2, eqRwL]
      cases eqRw x y <;> simp

theorem s_same (a : Rw) : ∀ b, a.Ok → Evt fun k => ∀ (ρ : Type) K, (Tabs k).c20_0 ρ a b K = K (eqRw a b) := by
  induction a using Rw.ind with
  | h o n l ih =>
    rintro ⟨o', n', l'⟩ hok
    have hlen : l.length * 48 ≤ 140737488351232 := hok.len
    have key : Evt fun k => ∀ (ρ : Type) K, (Tabs k).c49_0 ρ l l' K = K (eqRwL l l') := by
      by_cases hl : l.length = l'.length
      · refine (same_loop l l' [] [] (fun x hx y => ih x hx y (hok.mem x hx)) rfl hl (by simp; omega)).step fun k hk ρ K => ?_
        show Gc49_0 (Tabs k) ρ _ _ _ = _
        have e : (((List.length l : Nat) : Int) != ((List.length l' : Nat) : Int)) = false := by simp [hl]
        have hk' := hk ρ (fun r3 => K r3) (K true)
        simp only [List.nil_append, List.length_nil] at hk'
        simp only [Gc49_0, e, cond_false]
        refine Eq.trans hk' ?_
        cases eqRwL l l' <;> rfl
      · refine Evt.step0 fun k ρ K => ?_
        show Gc49_0 (Tabs k) ρ _ _ _ = _
        have e : (((List.length l : Nat) : Int) != ((List.length l' : Nat) : Int)) = true := by simp; omega
        simp only [Gc49_0, e, cond_true, eqRwL_len hl]
    refine key.step fun k hk ρ K => ?_
    show Gc20_0 (Tabs k) ρ _ _ _ = _
    simp only [Gc20_0, eqRw]
    cases (o == o') <;> cases strEq n n' <;> simp [hk]

/-! ### Whether a name is in a list -/

theorem lhas_loop (x : ByteArray) (l : List ByteArray) (hl : l.length ≤ 100000) : ∀ (r pre : List ByteArray), l = pre ++ r →
    Evt fun k => ∀ (ρ : Type) k0 k1, (Tabs k).l17_2_0 ρ x l (l.length : Int) (pre.length : Int) k0 k1 = bif r.any (strEq x) then k0 true else k1
  | [], pre, ha => Evt.step0 fun k ρ k0 k1 => by
    rw [show (Tabs (k + 1)).l17_2_0 = Gl17_2_0 (Tabs k) from rfl]
    have e : decide ((pre.length : Int) < ((l).length : Int)) = false := by simp [ha]
    simp only [Gl17_2_0, e, cond_false, List.any_nil]
  | y :: r, pre, ha => (lhas_loop x l hl r (pre ++ [y]) (by simp [ha])).step fun k ih ρ k0 k1 => by
    rw [show (Tabs (k + 1)).l17_2_0 = Gl17_2_0 (Tabs k) from rfl]
    have hlen : pre.length < l.length := by simp [ha]
    have e1 : decide ((pre.length : Int) < ((l).length : Int)) = true := by simp; omega
    have e2 : decide ((0 : Int) ≤ (pre.length : Int)) = true := by simp
    have e4 : IntKind.wrap .i64 ((pre.length : Int) + 1) = ((pre ++ [y]).length : Int) := by
      rw [W_id (by omega) (by omega)]; simp
    have e6 : rdEl lay Key.str l (pre.length : Int) = y := by rw [ha]; exact rdStr ..
    simp only [Gl17_2_0, e1, e2, Bool.and_self, cond_true, e6, e4, ih, strEq_comm y x, List.any_cons]
    cases strEq x y <;> simp

theorem s_lhas (x : ByteArray) (l : List ByteArray) (hl : l.length ≤ 100000) : Evt fun k => ∀ (ρ : Type) K, (Tabs k).c17_0 ρ l x K = K (hasB l x) := (lhas_loop x l hl l [] rfl).step fun k ih ρ K => by
  rw [show (Tabs (k + 1)).c17_0 = Gc17_0 (Tabs k) from rfl]
  have ih' := ih ρ
  simp only [List.length_nil, Int.natCast_zero] at ih'
  simp only [Gc17_0, ih', hasB]
  cases l.any (strEq x) <;> rfl

/-! ### Binders -/

section
variable {y : ByteArray} {t x z : Rw}

theorem bdl_none (ht : t.args = []) : Evt fun k => ∀ (ρ : Type) k0 k1, (Tabs k).l19_4_0 ρ y 0 0 t k0 k1 = k1 := Evt.step0 fun k ρ k0 k1 => by
  rw [show (Tabs (k + 1)).l19_4_0 = Gl19_4_0 (Tabs k) from rfl]
  have e : decide ((0 : Int) < 0) = false := rfl
  simp only [Gl19_4_0, e, cond_false]

theorem bdl_two {b1 b2 : Bool} (ht : t.args = [x, z]) (ha : Evt fun k => ∀ (ρ : Type) K, (Tabs k).c19_0 ρ x y K = K b1) (hb : Evt fun k => ∀ (ρ : Type) K, (Tabs k).c19_0 ρ z y K = K b2) :
    Evt fun k => ∀ (ρ : Type) k0 k1, (Tabs k).l19_4_0 ρ y 2 0 t k0 k1 = bif b1 || b2 then k0 true else k1 := by
  have h2 : Evt fun k => ∀ (ρ : Type) k0 k1, (Tabs k).l19_4_0 ρ y 2 2 t k0 k1 = k1 := Evt.step0 fun k ρ k0 k1 => by
    rw [show (Tabs (k + 1)).l19_4_0 = Gl19_4_0 (Tabs k) from rfl]
    have e : decide ((2 : Int) < 2) = false := rfl
    simp only [Gl19_4_0, e, cond_false]
  have h1 : Evt fun k => ∀ (ρ : Type) k0 k1, (Tabs k).l19_4_0 ρ y 2 1 t k0 k1 = bif b2 then k0 true else k1 := (hb.and h2).step fun k ⟨hb, h2⟩ ρ k0 k1 => by
    rw [show (Tabs (k + 1)).l19_4_0 = Gl19_4_0 (Tabs k) from rfl]
    have e : decide ((1 : Int) < 2) = true := rfl
    have e2 : (decide ((0 : Int) ≤ 1) && decide ((1 : Int) < ((List.length t.args : Nat) : Int))) = true := by rw [ht]; rfl
    have e3 : IntKind.wrap .i64 ((1 : Int) + 1) = 2 := rfl
    have e4 : rdEl lay Key.raw t.args 1 = z := by rw [ht]; exact rdRw1 x z []
    simp only [Gl19_4_0, e, e2, cond_true, e4, Rw.eta, hb, e3, h2]
  exact (ha.and h1).step fun k ⟨ha, h1⟩ ρ k0 k1 => by
    rw [show (Tabs (k + 1)).l19_4_0 = Gl19_4_0 (Tabs k) from rfl]
    have e : decide ((0 : Int) < 2) = true := rfl
    have e2 : (decide ((0 : Int) ≤ 0) && decide ((0 : Int) < ((List.length t.args : Nat) : Int))) = true := by rw [ht]; rfl
    have e3 : IntKind.wrap .i64 ((0 : Int) + 1) = 1 := rfl
    have e4 : rdEl lay Key.raw t.args 0 = x := by rw [ht]; exact rdRw0 x [z]
    simp only [Gl19_4_0, e, e2, cond_true, e4, Rw.eta, ha, e3, h1]
    cases b1 <;> rfl
end

theorem s_bound (y : ByteArray) : ∀ (e : Xp), Evt fun k => ∀ (ρ : Type) K, (Tabs k).c19_0 ρ e.rw y K = K (e.bnds y)
  | .ty => (bdl_none (y := y) (t := Xp.ty.rw) rfl).step fun k h ρ K => h ρ _ _
  | .hole => (bdl_none (y := y) (t := Xp.hole.rw) rfl).step fun k h ρ K => h ρ _ _
  | .nm w => (bdl_none (y := y) (t := (Xp.nm w).rw) rfl).step fun k h ρ K => h ρ _ _
  | .app a b => (bdl_two (y := y) (t := (Xp.app a b).rw) rfl (s_bound y a) (s_bound y b)).step fun k h ρ K => (h ρ (fun r => K r) (K false)).trans (by simp only [Xp.bnds]; cases a.bnds y <;> cases b.bnds y <;> rfl)
  | .arr a b => (bdl_two (y := y) (t := (Xp.arr a b).rw) rfl (s_bound y a) (s_bound y b)).step fun k h ρ K => (h ρ (fun r => K r) (K false)).trans (by simp only [Xp.bnds]; cases a.bnds y <;> cases b.bnds y <;> rfl)
  | .bnd l w a b => (bdl_two (y := y) (t := (Xp.bnd l w a b).rw) rfl (s_bound y a) (s_bound y b)).step fun k h ρ K => by
    rw [show (Tabs (k + 1)).c19_0 = Gc19_0 (Tabs k) from rfl]
    have el : (((List.length [a.rw, b.rw] : Nat)) : Int) = 2 := rfl
    cases l
    · have h : ∀ (ρ : Type) k0 k1, (Tabs k).l19_4_0 ρ y 2 0 ⟨5, mk w, [a.rw, b.rw]⟩ k0 k1 = bif a.bnds y || b.bnds y then k0 true else k1 := h
      show Gc19_0 (Tabs k) ρ (⟨5, mk w, [a.rw, b.rw]⟩ : Rw) y K = _
      simp only [Gc19_0, Int.reduceBEq, cond_true, el, h, Xp.bnds]
      cases strEq (mk w) y <;> cases a.bnds y <;> cases b.bnds y <;> rfl
    · have h : ∀ (ρ : Type) k0 k1, (Tabs k).l19_4_0 ρ y 2 0 ⟨7, mk w, [a.rw, b.rw]⟩ k0 k1 = bif a.bnds y || b.bnds y then k0 true else k1 := h
      show Gc19_0 (Tabs k) ρ (⟨7, mk w, [a.rw, b.rw]⟩ : Rw) y K = _
      simp only [Gc19_0, Int.reduceBEq, cond_true, cond_false, el, h, Xp.bnds]
      cases strEq (mk w) y <;> cases a.bnds y <;> cases b.bnds y <;> rfl

/-! ### What is wanted -/

theorem add1_len (o : List ByteArray) (x : ByteArray) : (add1 o x).length ≤ o.length + 1 := by
  unfold add1; cases hasB o x <;> simp

theorem want_loop (f t : ByteArray) (l m : List ByteArray) (r1 r2 : Rw) : ∀ (r pre w : List ByteArray), l = pre ++ r → l.length ≤ 1000 → w.length + r.length ≤ 2000 →
    Evt fun k => ∀ (ρ : Type) K, (Tabs k).l5_10_0 ρ f t l m w l (l.length : Int) (pre.length : Int) r1 r2 K = K f t l m (adds w (r.map (sg f t))) r1 r2
  | [], pre, w, ha, hl, hw => Evt.step0 fun k ρ K => by
    rw [show (Tabs (k + 1)).l5_10_0 = Gl5_10_0 (Tabs k) from rfl]
    have e : decide ((pre.length : Int) < ((l).length : Int)) = false := by simp [ha]
    simp only [Gl5_10_0, e, cond_false, Rw.eta]
    rfl
  | y :: r, pre, w, ha, hl, hw => by
    have h1 := add1_len w (sg f t y)
    simp only [List.length_cons] at hw
    refine ((s_lhas (sg f t y) w (by omega)).and (want_loop f t l m r1 r2 r (pre ++ [y]) (add1 w (sg f t y)) (by simp [ha]) hl (by omega))).step fun k ⟨h2, ih⟩ ρ K => ?_
    rw [show (Tabs (k + 1)).l5_10_0 = Gl5_10_0 (Tabs k) from rfl]
    have hlen : pre.length < l.length := by simp [ha]
    have e1 : decide ((pre.length : Int) < ((l).length : Int)) = true := by simp; omega
    have e2 : decide ((0 : Int) ≤ (pre.length : Int)) = true := by simp
    have e4 : IntKind.wrap .i64 ((pre.length : Int) + 1) = ((pre ++ [y]).length : Int) := by
      rw [W_id (by omega) (by omega)]; simp
    have e6 : rdEl lay Key.str l (pre.length : Int) = y := by rw [ha]; exact rdStr ..
    have e7 : ∀ x : ByteArray, decide ((w.length + List.length [x]) * 16 ≤ 140737488355328) = true := fun x => app16 (by simp; omega)
    rw [List.map_cons, adds_cons]
    simp only [Gl5_10_0, e1, e2, Bool.and_self, cond_true, e6, e4, Rw.eta, e7]
    unfold sg add1 at *
    cases hq : strEq y f with
    | true =>
      rw [hq] at h2 ih
      simp only [cond_true] at h2 ih ⊢
      cases hh : hasB w t with
      | true => rw [hh] at ih; simp only [h2, hh, Bool.not_true, cond_false, cond_true] at ih ⊢; exact ih ρ K
      | false => rw [hh] at ih; simp only [h2, hh, Bool.not_false, cond_false, cond_true, e7] at ih ⊢; exact ih ρ K
    | false =>
      rw [hq] at h2 ih
      simp only [cond_false] at h2 ih ⊢
      cases hh : hasB w y with
      | true => rw [hh] at ih; simp only [h2, hh, Bool.not_true, cond_false, cond_true] at ih ⊢; exact ih ρ K
      | false =>
        rw [hh] at ih
        simp only [h2, hh, Bool.not_false, cond_false, cond_true] at ih ⊢
        show (bif decide ((w.length + List.length [y]) * 16 ≤ 140737488355328) then _ else none) = _
        rw [e7 y]
        exact ih ρ K

/-! ### The law -/

theorem adds_len : ∀ (l o : List ByteArray), (adds o l).length ≤ o.length + l.length
  | [], o => by simp [adds]
  | x :: r, o => by
    have h1 := add1_len o x
    have h2 := adds_len r (add1 o x)
    rw [adds_cons, List.length_cons]; omega

theorem renamed_law (r : Rw) (f t : ByteArray) (hok : r.Ok) : Evt fun k => ∀ (ρ : Type) K, (Tabs k).c5_0 ρ r f t K = K true := by
  cases hw : wellB r && (nmOk f.data.toList && (nmOk t.data.toList && !strEq f t)) with
  | false =>
    refine ((s_well r hok).and ((s_isName f).and ((s_isName t).and awake_ok))).step fun k ⟨h2, h3, h4, h6⟩ ρ K => ?_
    rw [show (Tabs (k + 1)).c5_0 = Gc5_0 (Tabs k) from rfl]
    simp only [Gc5_0, Rw.eta, h2, h3, h4, h6]
    cases q1 : wellB r with
    | false => simp only [Bool.not_false, cond_true]
    | true =>
      cases q2 : nmOk f.data.toList with
      | false => simp only [Bool.not_true, cond_false, Bool.not_false, cond_true]
      | true =>
        cases q3 : nmOk t.data.toList with
        | false => simp only [Bool.not_true, cond_false, Bool.not_false, cond_true]
        | true =>
          rw [q1, q2, q3] at hw
          simp only [Bool.true_and, Bool.not_eq_false'] at hw
          simp only [Bool.not_true, cond_false, hw, cond_true]
  | true =>
    simp only [Bool.and_eq_true, Bool.not_eq_true'] at hw
    obtain ⟨hw, hf, ht, hft⟩ := hw
    obtain ⟨e, rfl, hn, hs⟩ := well_xp hw
    have hl := free_len e [] []
    simp only [List.length_nil, Nat.zero_add] at hl
    have hN := rename_nm f t ht e hn hs
    obtain ⟨hW, hS⟩ := rename_well f t ht e hn hs hw
    have hOk := xrw_ok _ hN
    have hN2 := rename_nm t f hf (e.renameP f t) hN hS
    have hOk2 := xrw_ok _ hN2
    have hfree := rename_free f t hft e hs
    have hal := adds_len ((e.free [] []).map (sg f t)) []
    simp only [List.length_nil, Nat.zero_add, List.length_map] at hal
    refine ((s_Rename f t e hok hs hw hf ht).and ((s_well e.rw hok).and ((s_isName f).and ((s_isName t).and ((s_Free e hok hs hw).and ((s_Free (e.renameP f t) hOk hS hW).and ((want_loop f t (e.free [] []) (adds [] ((e.free [] []).map (sg f t))) e.rw (e.renameP f t).rw (e.free [] []) [] [] rfl (by omega) (by simp; omega)).and
      ((s_names (adds [] ((e.free [] []).map (sg f t))) (by omega)).and ((s_lhas t (e.free [] []) (by omega)).and ((s_bound t e).and ((s_bound f e).and ((s_Rename t f (e.renameP f t) hOk hS hW ht hf).and ((s_same ((e.renameP f t).renameP t f).rw e.rw hOk2).and awake_ok))))))))))))).step fun k ⟨h1, h2, h3, h4, h5, h6, h7, h8, h9, h10, h11, h12, h13, h14⟩ ρ K => ?_
    rw [hfree] at h6
    have h7' : ∀ (ρ : Type) K, (Tabs k).l5_10_0 ρ f t (e.free [] []) (adds [] ((e.free [] []).map (sg f t))) [] (e.free [] []) ((e.free [] []).length : Int) 0 e.rw (e.renameP f t).rw K =
      K f t (e.free [] []) (adds [] ((e.free [] []).map (sg f t))) (adds [] ((e.free [] []).map (sg f t))) e.rw (e.renameP f t).rw := fun ρ K => h7 ρ K
    rw [show (Tabs (k + 1)).c5_0 = Gc5_0 (Tabs k) from rfl]
    have e0 : (((0 : Int)) != 0) = false := rfl
    simp only [Gc5_0, Rw.eta, h1, h2, h3, h4, hw, hf, ht, hft, Bool.not_true, cond_false, h5, h6, e0, h7', h8, h9, h10, h11, h12, h13, h14, beq_self_eq_true, cond_true]
    cases q1 : hasB (e.free [] []) t with
    | true => rfl
    | false =>
      cases q2 : e.bnds t with
      | true => rfl
      | false =>
        cases q3 : e.bnds f with
        | true => rfl
        | false =>
          have := rename_back f t hft e q1 q2 q3
          rw [this, eqRw_refl]; rfl

end Go.Proofs.YtanfoijdfcnpoaaGreatDoor.Ev
