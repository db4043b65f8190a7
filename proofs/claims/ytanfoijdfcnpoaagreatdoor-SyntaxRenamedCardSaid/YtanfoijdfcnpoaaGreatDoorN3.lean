/- This file proves what the program's Rename answers, and what the reference's functions of renaming compute; without any condition. -/
import Derived.Test.YtanfoijdfcnpoaaGreatDoorN2
set_option linter.unusedVariables false
set_option linter.unusedSimpArgs false
namespace Go.Proofs.YtanfoijdfcnpoaaGreatDoor.Ev

/-! ### Copied -/

section
variable {x y : Rw} {op : Int} {nm : ByteArray}

theorem cpl_none : Evt fun k => ∀ (r1 r2 r3 : Rw) (ρ : Type) K, (Tabs k).l41_3_0 ρ [] 0 0 r1 r2 r3 K = K r1 r2 r3 := Evt.step0 fun k r1 r2 r3 ρ K => by
  rw [show (Tabs (k + 1)).l41_3_0 = Gl41_3_0 (Tabs k) from rfl]
  have e : decide ((0 : Int) < 0) = false := rfl
  simp only [Gl41_3_0, e, cond_false, Rw.eta]

theorem cpl_two (ha : Evt fun k => ∀ (ρ : Type) K, (Tabs k).c41_0 ρ x K = K x) (hb : Evt fun k => ∀ (ρ : Type) K, (Tabs k).c41_0 ρ y K = K y) :
    Evt fun k => ∀ (r1 r2 : Rw) (ρ : Type) K, (Tabs k).l41_3_0 ρ [x, y] 2 0 r1 r2 ⟨op, nm, []⟩ K = K r1 r2 ⟨op, nm, [x, y]⟩ := by
  have h2 : Evt fun k => ∀ (r1 r2 : Rw) (ρ : Type) K, (Tabs k).l41_3_0 ρ [x, y] 2 2 r1 r2 ⟨op, nm, [x, y]⟩ K = K r1 r2 ⟨op, nm, [x, y]⟩ := Evt.step0 fun k r1 r2 ρ K => by
    rw [show (Tabs (k + 1)).l41_3_0 = Gl41_3_0 (Tabs k) from rfl]
    have e : decide ((2 : Int) < 2) = false := rfl
    simp only [Gl41_3_0, e, cond_false, Rw.eta]
  have h1 : Evt fun k => ∀ (r1 r2 : Rw) (ρ : Type) K, (Tabs k).l41_3_0 ρ [x, y] 2 1 r1 r2 ⟨op, nm, [x]⟩ K = K r1 r2 ⟨op, nm, [x, y]⟩ := (hb.and h2).step fun k ⟨hb, h2⟩ r1 r2 ρ K => by
    rw [show (Tabs (k + 1)).l41_3_0 = Gl41_3_0 (Tabs k) from rfl]
    unfold Gl41_3_0
    have e : decide ((1 : Int) < 2) = true := rfl
    have e2 : (decide ((0 : Int) ≤ 1) && decide ((1 : Int) < ((List.length [x, y] : Nat) : Int))) = true := rfl
    have e3 : IntKind.wrap .i64 ((1 : Int) + 1) = 2 := rfl
    have e4 : decide ((List.length [x] + List.length [y]) * 48 ≤ 140737488355328) = true := rfl
    simp only [e, e2, cond_true, rdRw1, Rw.eta, hb, e3, e4, List.cons_append, List.nil_append, h2]
  exact (ha.and h1).step fun k ⟨ha, h1⟩ r1 r2 ρ K => by
    rw [show (Tabs (k + 1)).l41_3_0 = Gl41_3_0 (Tabs k) from rfl]
    unfold Gl41_3_0
    have e : decide ((0 : Int) < 2) = true := rfl
    have e2 : (decide ((0 : Int) ≤ 0) && decide ((0 : Int) < ((List.length [x, y] : Nat) : Int))) = true := rfl
    have e3 : IntKind.wrap .i64 ((0 : Int) + 1) = 1 := rfl
    have e4 : decide ((List.length ([] : List Rw) + List.length [x]) * 48 ≤ 140737488355328) = true := rfl
    simp only [e, e2, cond_true, rdRw0, Rw.eta, ha, e3, e4, List.nil_append, h1]
end

theorem s_copied : ∀ (e : Xp), Evt fun k => ∀ (ρ : Type) K, (Tabs k).c41_0 ρ e.rw K = K e.rw
  | .ty => cpl_none.step fun k h ρ K => h _ _ _ ρ _
  | .hole => cpl_none.step fun k h ρ K => h _ _ _ ρ _
  | .nm w => cpl_none.step fun k h ρ K => h _ _ _ ρ _
  | .app a b => (cpl_two (s_copied a) (s_copied b)).step fun k h ρ K => h _ _ ρ _
  | .arr a b => (cpl_two (s_copied a) (s_copied b)).step fun k h ρ K => h _ _ ρ _
  | .bnd l w a b => (cpl_two (s_copied a) (s_copied b)).step fun k h ρ K => h _ _ ρ _

/-! ### Rename -/

theorem pnames_len : ∀ (e : Xp) (o : List (ByteArray × Bool)), (e.pnames o).length ≤ o.length + e.sz
  | .ty, o => mset_len _ _ _
  | .hole, o => mset_len _ _ _
  | .nm w, o => mset_len _ _ _
  | .app a b, o => by
    have h1 := pnames_len a (mset o tNo true)
    have h2 := pnames_len b (a.pnames (mset o tNo true))
    have h3 := mset_len tNo true o
    simp only [Xp.pnames, Xp.sz]; omega
  | .arr a b, o => by
    have h1 := pnames_len a (mset o tNo true)
    have h2 := pnames_len b (a.pnames (mset o tNo true))
    have h3 := mset_len tNo true o
    simp only [Xp.pnames, Xp.sz]; omega
  | .bnd l w a b, o => by
    have h1 := pnames_len a (mset o (mk w) true)
    have h2 := pnames_len b (a.pnames (mset o (mk w) true))
    have h3 := mset_len (mk w) true o
    simp only [Xp.pnames, Xp.sz]; omega

/-- Where the renamer begins. -/
def PS0 (f t : ByteArray) (e : Xp) : PS := ⟨e.pnames (mset (mset [] f true) t true), 0⟩

theorem PS0_ok (f t : ByteArray) (e : Xp) : (PS0 f t e).ok := fun m h1 h2 => by
  have : m ≤ 0 := h2
  omega
theorem PS0_len (f t : ByteArray) (e : Xp) : (PS0 f t e).u.length ≤ 2 + e.sz := by
  have h1 := pnames_len e (mset (mset [] f true) t true)
  have h2 := mset_len t true (mset ([] : List (ByteArray × Bool)) f true)
  have h3 := mset_len f true ([] : List (ByteArray × Bool))
  simp only [List.length_nil] at h3
  show (e.pnames (mset (mset [] f true) t true)).length ≤ _
  omega

def Xp.renameP (f t : ByteArray) (e : Xp) : Xp := bif strEq f t then e else (e.rn f t [] [] (PS0 f t e)).1

theorem s_Rename (f t : ByteArray) (e : Xp) (hok : e.rw.Ok) (hs : e.sz ≤ 400) (hw : wellB e.rw = true) (hf : nmOk f.data.toList = true) (ht : nmOk t.data.toList = true) :
    Evt fun k => ∀ (ρ : Type) K, (Tabs k).c12_0 ρ e.rw f t K = K (e.renameP f t).rw 0 := by
  cases hq : strEq f t with
  | true =>
    have hl := PS0_len f t e
    refine ((s_check e.rw hok).and ((s_named f).and ((s_named t).and ((s_pnames e (mset (mset [] f true) t true)).and ((s_renameA f (ByteArray.mk #[]) e.sz e (Nat.le_refl _) [] (PS0 f t e) (PS0_ok f t e) (by simp; omega) (by omega)).and (s_copied e)))))).step fun k ⟨h1, h2, h3, h4, h5, h6⟩ ρ K => ?_
    rw [show (Tabs (k + 1)).c12_0 = Gc12_0 (Tabs k) from rfl]
    have h5' : ∀ (ρ : Type) K, (Tabs k).c40_0 ρ e.rw [] f (ByteArray.mk #[]) 0 (e.pnames (mset (mset [] f true) t true)) K = K _ f (ByteArray.mk #[]) _ _ := fun ρ K => h5 ρ K
    have e0 : (((0 : Int)) != 0) = false := rfl
    simp only [Gc12_0, Rw.eta, h1, hw, cond_true, e0, cond_false, h2, hf, h3, ht, Bool.not_true, hq, h4, h5', h6, Xp.renameP]
  | false =>
    have hl := PS0_len f t e
    refine ((s_check e.rw hok).and ((s_named f).and ((s_named t).and ((s_pnames e (mset (mset [] f true) t true)).and (s_renameA f t e.sz e (Nat.le_refl _) [] (PS0 f t e) (PS0_ok f t e) (by simp; omega) (by omega)))))).step fun k ⟨h1, h2, h3, h4, h5⟩ ρ K => ?_
    rw [show (Tabs (k + 1)).c12_0 = Gc12_0 (Tabs k) from rfl]
    have h5' : ∀ (ρ : Type) K, (Tabs k).c40_0 ρ e.rw [] f t 0 (e.pnames (mset (mset [] f true) t true)) K = K _ f t _ _ := fun ρ K => h5 ρ K
    have e0 : (((0 : Int)) != 0) = false := rfl
    simp only [Gc12_0, Rw.eta, h1, hw, cond_true, e0, cond_false, h2, hf, h3, ht, Bool.not_true, hq, h4, h5', Xp.renameP]

theorem s_RenameBad (f t : ByteArray) (r : Rw) (hok : r.Ok) (hw : (wellB r && (nmOk f.data.toList && nmOk t.data.toList)) = false) : Evt fun k => ∀ (ρ : Type) K, (Tabs k).c12_0 ρ r f t K = K ⟨0, tNo, []⟩ 2 := by
  refine ((s_check r hok).and ((s_named f).and (s_named t))).step fun k ⟨h1, h2, h3⟩ ρ K => ?_
  rw [show (Tabs (k + 1)).c12_0 = Gc12_0 (Tabs k) from rfl]
  have e0 : (((0 : Int)) != 0) = false := rfl
  have e2 : (((2 : Int)) != 0) = true := rfl
  simp only [Gc12_0, Rw.eta, h1, h2, h3]
  cases h4 : wellB r with
  | false => simp only [cond_false, e2, cond_true]
  | true =>
    cases h5 : nmOk f.data.toList with
    | false => simp only [cond_true, e0, cond_false, Bool.not_false]
    | true =>
      rw [h4, h5] at hw
      simp only [Bool.true_and] at hw
      simp only [cond_true, e0, cond_false, Bool.not_true, hw, Bool.not_false]

/-! ### The reference: names -/

section
variable {t x y : Rw}

theorem rnl_none (ht : t.args = []) : Evt fun k => ∀ (o : List ByteArray) (ρ : Type) K, (Tabs k).l45_4_0 ρ o 0 t K = K o := Evt.step0 fun k o ρ K => by
  rw [show (Tabs (k + 1)).l45_4_0 = Gl45_4_0 (Tabs k) from rfl]
  have e : decide ((0 : Int) < ((t.args.length : Nat) : Int)) = false := by rw [ht]; rfl
  simp only [Gl45_4_0, e, cond_false]

theorem rnl_two {o1 o2 o : List ByteArray} (ht : t.args = [x, y]) (ha : Evt fun k => ∀ (ρ : Type) K, (Tabs k).c45_1 ρ x o K = K o1) (hb : Evt fun k => ∀ (ρ : Type) K, (Tabs k).c45_1 ρ y o1 K = K o2) :
    Evt fun k => ∀ (ρ : Type) K, (Tabs k).l45_4_0 ρ o 0 t K = K o2 := by
  have h2 : Evt fun k => ∀ (ρ : Type) K, (Tabs k).l45_4_0 ρ o2 2 t K = K o2 := Evt.step0 fun k ρ K => by
    rw [show (Tabs (k + 1)).l45_4_0 = Gl45_4_0 (Tabs k) from rfl]
    have e : decide ((2 : Int) < ((t.args.length : Nat) : Int)) = false := by rw [ht]; rfl
    simp only [Gl45_4_0, e, cond_false]
  have h1 : Evt fun k => ∀ (ρ : Type) K, (Tabs k).l45_4_0 ρ o1 1 t K = K o2 := (hb.and h2).step fun k ⟨hb, h2⟩ ρ K => by
    rw [show (Tabs (k + 1)).l45_4_0 = Gl45_4_0 (Tabs k) from rfl]
    have e : decide ((1 : Int) < ((t.args.length : Nat) : Int)) = true := by rw [ht]; rfl
    have e2 : decide ((0 : Int) ≤ 1) = true := rfl
    have e3 : IntKind.wrap .i64 ((1 : Int) + 1) = 2 := rfl
    have e4 : rdEl lay Key.raw t.args 1 = y := by rw [ht]; exact rdRw1 x y []
    simp only [Gl45_4_0, e, e2, Bool.and_self, cond_true, e4, Rw.eta, hb, e3, h2]
  exact (ha.and h1).step fun k ⟨ha, h1⟩ ρ K => by
    rw [show (Tabs (k + 1)).l45_4_0 = Gl45_4_0 (Tabs k) from rfl]
    have e : decide ((0 : Int) < ((t.args.length : Nat) : Int)) = true := by rw [ht]; rfl
    have e2 : decide ((0 : Int) ≤ 0) = true := rfl
    have e3 : IntKind.wrap .i64 ((0 : Int) + 1) = 1 := rfl
    have e4 : rdEl lay Key.raw t.args 0 = x := by rw [ht]; exact rdRw0 x [y]
    simp only [Gl45_4_0, e, e2, Bool.and_self, cond_true, e4, Rw.eta, ha, e3, h1]
end

def RNm (t : Rw) (o r : List ByteArray) (k : Nat) : Prop :=
  (∀ (ρ : Type) K, (Tabs k).c45_0 ρ t o K = K r) ∧ (∀ (ρ : Type) K, (Tabs k).c45_1 ρ t o K = K r)

theorem addN_len (o : List ByteArray) (x : ByteArray) : (addN o x).length ≤ o.length + 1 := by
  unfold addN
  cases strEq x tNo <;> cases hasB o x <;> simp

theorem rnm_step {t : Rw} {o o' r : List ByteArray} (he : addN o t.name = o') (ho : o.length ≤ 1000) (h : Evt fun k => ∀ (ρ : Type) K, (Tabs k).l45_4_0 ρ o' 0 t K = K r) : Evt (RNm t o r) := by
  subst he
  refine (h.and (s_has t.name o (by omega))).step fun k ⟨h1, h2⟩ => ?_
  have e0 := app16 (l := o) (m := [t.name]) (by simp; omega)
  refine ⟨fun ρ K => ?_, fun ρ K => ?_⟩
  · rw [show (Tabs (k + 1)).c45_0 = Gc45_0 (Tabs k) from rfl]
    unfold addN at h1
    simp only [Gc45_0, h2, e0, cond_true, Rw.eta]
    cases hq : strEq t.name tNo with
    | true => rw [hq] at h1; simp only [Bool.not_true, cond_false]; exact h1 ρ fun r => K r
    | false =>
      rw [hq] at h1
      simp only [Bool.not_false, cond_true]
      cases hh : hasB o t.name with
      | true => rw [hh] at h1; simp only [Bool.not_true, cond_false]; exact h1 ρ fun r => K r
      | false => rw [hh] at h1; simp only [Bool.not_false, cond_true]; exact h1 ρ fun r => K r
  · rw [show (Tabs (k + 1)).c45_1 = Gc45_1 (Tabs k) from rfl]
    unfold addN at h1
    simp only [Gc45_1, h2, e0, cond_true, Rw.eta]
    cases hq : strEq t.name tNo with
    | true => rw [hq] at h1; simp only [Bool.not_true, cond_false]; exact h1 ρ fun r => K r
    | false =>
      rw [hq] at h1
      simp only [Bool.not_false, cond_true]
      cases hh : hasB o t.name with
      | true => rw [hh] at h1; simp only [Bool.not_true, cond_false]; exact h1 ρ fun r => K r
      | false => rw [hh] at h1; simp only [Bool.not_false, cond_true]; exact h1 ρ fun r => K r

theorem rnames_len : ∀ (e : Xp) (o : List ByteArray), (e.rnames o).length ≤ o.length + e.sz
  | .ty, o => by simp [Xp.rnames]
  | .hole, o => by simp [Xp.rnames]
  | .nm w, o => addN_len o _
  | .app a b, o => by
    have h1 := rnames_len a o
    have h2 := rnames_len b (a.rnames o)
    simp only [Xp.rnames, Xp.sz]; omega
  | .arr a b, o => by
    have h1 := rnames_len a o
    have h2 := rnames_len b (a.rnames o)
    simp only [Xp.rnames, Xp.sz]; omega
  | .bnd l w a b, o => by
    have h1 := rnames_len a (addN o (mk w))
    have h2 := rnames_len b (a.rnames (addN o (mk w)))
    have h3 := addN_len o (mk w)
    simp only [Xp.rnames, Xp.sz]; omega

theorem addN_no (o : List ByteArray) : addN o tNo = o := by unfold addN; rw [strEq_iff.2 rfl]; rfl

theorem s_rnames : ∀ (e : Xp) (o : List ByteArray), o.length + e.sz ≤ 1000 → Evt (RNm e.rw o (e.rnames o))
  | .ty, o, h => rnm_step (t := Xp.ty.rw) (addN_no o) (by omega) ((rnl_none rfl).mono fun k h => h o)
  | .hole, o, h => rnm_step (t := Xp.hole.rw) (addN_no o) (by omega) ((rnl_none rfl).mono fun k h => h o)
  | .nm w, o, h => rnm_step rfl (by simp only [Xp.sz] at h; omega) ((rnl_none rfl).mono fun k h => h (addN o (mk w)))
  | .app a b, o, h => by
    simp only [Xp.sz] at h
    have h1 := rnames_len a o
    exact rnm_step (addN_no o) (by omega) (rnl_two (x := a.rw) (y := b.rw) rfl ((s_rnames a o (by omega)).mono fun k h => h.2) ((s_rnames b (a.rnames o) (by omega)).mono fun k h => h.2))
  | .arr a b, o, h => by
    simp only [Xp.sz] at h
    have h1 := rnames_len a o
    exact rnm_step (addN_no o) (by omega) (rnl_two (x := a.rw) (y := b.rw) rfl ((s_rnames a o (by omega)).mono fun k h => h.2) ((s_rnames b (a.rnames o) (by omega)).mono fun k h => h.2))
  | .bnd l w a b, o, h => by
    simp only [Xp.sz] at h
    have h3 := addN_len o (mk w)
    have h1 := rnames_len a (addN o (mk w))
    exact rnm_step rfl (by omega) (rnl_two (x := a.rw) (y := b.rw) rfl ((s_rnames a (addN o (mk w)) (by omega)).mono fun k h => h.2) ((s_rnames b (a.rnames (addN o (mk w))) (by omega)).mono fun k h => h.2))

/-! ### The reference: put -/

theorem s_put (f t : ByteArray) : ∀ (e : Xp), Evt fun k => ∀ (ρ : Type) K, (Tabs k).c47_0 ρ e.rw f t K = K (e.put f t).rw
  | .ty => Evt.step0 fun k ρ K => by
    rw [show (Tabs (k + 1)).c47_0 = Gc47_0 (Tabs k) from rfl]
    show Gc47_0 (Tabs k) ρ (⟨1, tNo, []⟩ : Rw) f t K = _
    have el : ((((List.length ([] : List Rw) : Nat)) : Int) == 0) = true := rfl
    simp only [Gc47_0, Int.reduceBEq, cond_false, el, cond_true]
    rfl
  | .hole => Evt.step0 fun k ρ K => by
    rw [show (Tabs (k + 1)).c47_0 = Gc47_0 (Tabs k) from rfl]
    show Gc47_0 (Tabs k) ρ (⟨3, tNo, []⟩ : Rw) f t K = _
    have el : ((((List.length ([] : List Rw) : Nat)) : Int) == 0) = true := rfl
    simp only [Gc47_0, Int.reduceBEq, cond_false, el, cond_true]
    rfl
  | .nm w => Evt.step0 fun k ρ K => by
    rw [show (Tabs (k + 1)).c47_0 = Gc47_0 (Tabs k) from rfl]
    show Gc47_0 (Tabs k) ρ (⟨2, mk w, []⟩ : Rw) f t K = _
    have el : ((((List.length ([] : List Rw) : Nat)) : Int) == 0) = true := rfl
    simp only [Gc47_0, Int.reduceBEq, cond_false, el, cond_true, Xp.put]
    cases strEq (mk w) f with
    | true => simp only [cond_true, Xp.rw, mk_ls]
    | false => rfl
  | .app a b => ((s_put f t a).and (s_put f t b)).step fun k ⟨ha, hb⟩ ρ K => by
    rw [show (Tabs (k + 1)).c47_0 = Gc47_0 (Tabs k) from rfl]
    show Gc47_0 (Tabs k) ρ (⟨4, tNo, [a.rw, b.rw]⟩ : Rw) f t K = _
    have el : ((((List.length [a.rw, b.rw] : Nat)) : Int) == 0) = false := rfl
    have i0 : (decide ((0 : Int) ≤ 0) && decide ((0 : Int) < ((List.length [a.rw, b.rw] : Nat) : Int))) = true := rfl
    have i1 : (decide ((0 : Int) ≤ 1) && decide ((1 : Int) < ((List.length [a.rw, b.rw] : Nat) : Int))) = true := rfl
    unfold Gc47_0
    dsimp only
    simp only [Int.reduceBEq, cond_false, el, i0, i1, cond_true, rdRw0, rdRw1, Rw.eta, ha, hb, Bool.not_false]
    rfl
  | .arr a b => ((s_put f t a).and (s_put f t b)).step fun k ⟨ha, hb⟩ ρ K => by
    rw [show (Tabs (k + 1)).c47_0 = Gc47_0 (Tabs k) from rfl]
    show Gc47_0 (Tabs k) ρ (⟨6, tNo, [a.rw, b.rw]⟩ : Rw) f t K = _
    have el : ((((List.length [a.rw, b.rw] : Nat)) : Int) == 0) = false := rfl
    have i0 : (decide ((0 : Int) ≤ 0) && decide ((0 : Int) < ((List.length [a.rw, b.rw] : Nat) : Int))) = true := rfl
    have i1 : (decide ((0 : Int) ≤ 1) && decide ((1 : Int) < ((List.length [a.rw, b.rw] : Nat) : Int))) = true := rfl
    unfold Gc47_0
    dsimp only
    simp only [Int.reduceBEq, cond_false, el, i0, i1, cond_true, rdRw0, rdRw1, Rw.eta, ha, hb, Bool.not_false]
    rfl
  | .bnd l w a b => ((s_put f t a).and (s_put f t b)).step fun k ⟨ha, hb⟩ ρ K => by
    rw [show (Tabs (k + 1)).c47_0 = Gc47_0 (Tabs k) from rfl]
    have el : ((((List.length [a.rw, b.rw] : Nat)) : Int) == 0) = false := rfl
    have i0 : (decide ((0 : Int) ≤ 0) && decide ((0 : Int) < ((List.length [a.rw, b.rw] : Nat) : Int))) = true := rfl
    have i1 : (decide ((0 : Int) ≤ 1) && decide ((1 : Int) < ((List.length [a.rw, b.rw] : Nat) : Int))) = true := rfl
    cases l
    · show Gc47_0 (Tabs k) ρ (⟨5, mk w, [a.rw, b.rw]⟩ : Rw) f t K = _
      unfold Gc47_0
      dsimp only
      simp only [Int.reduceBEq, cond_false, el, i0, i1, cond_true, rdRw0, rdRw1, Rw.eta, ha, hb, Xp.put]
      cases strEq (mk w) f <;> rfl
    · show Gc47_0 (Tabs k) ρ (⟨7, mk w, [a.rw, b.rw]⟩ : Rw) f t K = _
      unfold Gc47_0
      dsimp only
      simp only [Int.reduceBEq, cond_false, el, i0, i1, cond_true, rdRw0, rdRw1, Rw.eta, ha, hb, Xp.put, Bool.not_true]
      cases strEq (mk w) f <;> rfl

end Go.Proofs.YtanfoijdfcnpoaaGreatDoor.Ev
