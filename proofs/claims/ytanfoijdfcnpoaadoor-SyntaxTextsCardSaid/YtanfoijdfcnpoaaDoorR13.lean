/- This file proves what SyntaxTexts and SyntaxArrows answer; without any condition. -/
import Derived.Test.YtanfoijdfcnpoaaDoorR12
import Derived.Test.YtanfoijdfcnpoaaDoorRT
import Derived.Test.YtanfoijdfcnpoaaDoorR1S
set_option linter.unusedVariables false
set_option linter.unusedSimpArgs false
namespace Go.Proofs.YtanfoijdfcnpoaaDoor.Ev

theorem well_ex {t : Rw} (h : wellB t = true) : ∃ e : Xp, e.rw = t ∧ e.Nm ∧ e.sz ≤ 400 := by
  simp only [wellB, Bool.and_eq_true, decide_eq_true_eq] at h
  obtain ⟨e, h1, h2⟩ := form_ex t 1 h.2
  exact ⟨e, h1, h2, by rw [← sz_rw e, h1]; exact h.1⟩

/-- What Text returns. -/
theorem s_Text (e : Xp) (hok : e.rw.Ok) (hn : e.Nm) (hs : e.sz ≤ 400) (hw : wellB e.rw = true) : Evt fun k => ∀ (ρ : Type) K, (Tabs k).c10_0 ρ e.rw K = K (mk e.text) 0 := by
  refine ((s_check e.rw hok).and (s_text e hn hs)).step fun k ⟨h1, h2⟩ ρ K => ?_
  rw [show (Tabs (k + 1)).c10_0 = Gc10_0 (Tabs k) from rfl]
  have e0 : (((0 : Int)) != 0) = false := rfl
  simp only [Gc10_0, Rw.eta, h1, hw, cond_true, e0, cond_false, h2 [] (by simp [insL]), inB_none]
  rfl

theorem s_TextBad (t : Rw) (hok : t.Ok) (hw : wellB t = false) : Evt fun k => ∀ (ρ : Type) K, (Tabs k).c10_0 ρ t K = K (mk []) 2 := by
  refine (s_check t hok).step fun k h1 ρ K => ?_
  rw [show (Tabs (k + 1)).c10_0 = Gc10_0 (Tabs k) from rfl]
  have e0 : (((2 : Int)) != 0) = true := rfl
  simp only [Gc10_0, Rw.eta, h1, hw, cond_false, e0, cond_true]

theorem texts_law (r : Rw) (hok : r.Ok) : Evt fun k => ∀ (ρ : Type) K, (Tabs k).c3_0 ρ r K = K true := by
  cases hw : wellB r with
  | false =>
    refine ((s_check r hok).and ((s_TextBad r hok hw).and ((s_well r hok).and awake_ok))).step fun k ⟨h1, h2, h3, h4⟩ ρ K => ?_
    rw [show (Tabs (k + 1)).c3_0 = Gc3_0 (Tabs k) from rfl]
    have e1 : strEq (mk []) (ByteArray.mk #[]) = true := strEq_mk [] []
    simp only [Gc3_0, Rw.eta, h1, h2, h3, hw, cond_false, Bool.not_false, cond_true, beq_self_eq_true, e1, h4]
  | true =>
    obtain ⟨e, rfl, hn, hs⟩ := well_ex hw
    have hx := s_expr e.text
    have e0 : (((0 : Int)) != 0) = false := rfl
    have e1 : strEq (mk e.text) (mk e.text) = true := by rw [strEq_mk]; simp
    by_cases hl : e.text.length ≤ 6000
    · rw [read_back hn hl hw] at hx
      refine ((s_check e.rw hok).and ((s_Text e hok hn hs hw).and ((s_well e.rw hok).and ((s_rtext e hn hs).and (hx.and ((s_rsame e.rw e.rw hok).and awake_ok)))))).step fun k ⟨h1, h2, h3, h4, h5, h6, h7⟩ ρ K => ?_
      rw [show (Tabs (k + 1)).c3_0 = Gc3_0 (Tabs k) from rfl]
      have e2 : decide (((mk e.text).size : Int) > 6000) = false := by rw [mk_size]; simp only [decide_eq_false_iff_not]; omega
      simp only [Gc3_0, Rw.eta, h1, h2, h3, hw, cond_true, cond_false, Bool.not_true, e0, h4, e1, e2, h5, beq_self_eq_true, h6, eqRw_refl, h7]
    · refine ((s_check e.rw hok).and ((s_Text e hok hn hs hw).and ((s_well e.rw hok).and ((s_rtext e hn hs).and awake_ok)))).step fun k ⟨h1, h2, h3, h4, h7⟩ ρ K => ?_
      rw [show (Tabs (k + 1)).c3_0 = Gc3_0 (Tabs k) from rfl]
      have e2 : decide (((mk e.text).size : Int) > 6000) = true := by rw [mk_size]; simp only [decide_eq_true_eq]; omega
      simp only [Gc3_0, Rw.eta, h1, h2, h3, hw, cond_true, cond_false, Bool.not_true, e0, h4, e1, e2, h7]

/-! ### Arrows -/

theorem formB_mono (t : Rw) : ∀ d d', d' ≤ d → formB t d = true → formB t d' = true := by
  induction t using Rw.ind with
  | h o nm l ih =>
    intro d d' hd h
    simp only [formB, Bool.and_eq_true, decide_eq_true_eq] at h ⊢
    obtain ⟨h1, h2, h3⟩ := h
    refine ⟨by omega, h2, ?_⟩
    have key : ∀ (l : List Rw), (∀ x ∈ l, ∀ d d', d' ≤ d → formB x d = true → formB x d' = true) → formBL l (d + 1) = true → formBL l (d' + 1) = true := by
      intro l
      induction l with
      | nil => intro _ _; rfl
      | cons x r ihr =>
        intro hx h
        simp only [formBL, Bool.and_eq_true] at h ⊢
        exact ⟨hx x (List.mem_cons_self ..) _ _ (by omega) h.1, ihr (fun z hz => hx z (List.mem_cons_of_mem _ hz)) h.2⟩
    exact key l ih h3

/-- The three parts of a well-formed arrow between arrows are well formed. -/
theorem well_parts {a b c : Rw} (h : wellB ⟨6, tNo, [c, ⟨6, tNo, [b, a]⟩]⟩ = true) : wellB a = true ∧ wellB b = true ∧ wellB c = true := by
  simp only [wellB, Bool.and_eq_true, decide_eq_true_eq, Rw.size, sizeRL, formB, formBL] at h ⊢
  obtain ⟨hs, _, _, hc, ⟨_, _, hb, ha, _⟩, _⟩ := h
  have hs := of_decide_eq_true hs
  exact ⟨⟨by omega, formB_mono a _ _ (by omega) ha⟩, ⟨by omega, formB_mono b _ _ (by omega) hb⟩, ⟨by omega, formB_mono c _ _ (by omega) hc⟩⟩

/-- An expression in parentheses is an app. -/
theorem par_app {e : Xp} (hn : e.Nm) {ts : List Tok} {ws : List Wd} (h : Tw ts (parW true e.tks ++ ws)) (h1 : atomW ws = false) (h2 : seesW ws [[123], [91]] = false) :
    ∃ tsr, Tw tsr ws ∧ P .app ts (.ok e.rw false tsr) ∧ sees ts [tLB, tLS] = false := by
  obtain ⟨c, tsr, a1, a2, a3⟩ := paren_atom (reads1X e hn).expr ts ws h
  exact ⟨tsr, a1, P_app a3 (P_end ((atomic_W a1).trans h1)) ((sees_W a1 [[123], [91]]).trans h2), (sees_W h [[123], [91]]).trans (atom_not_bind (by rw [← atomic_W h]; exact a2))⟩

def arrW (x y : UInt8) (a b c : Xp) : List Wd := parW true a.tks ++ [(4, [x, y])] ++ (parW true b.tks ++ [(4, [x, y])] ++ parW true c.tks)
def arrT (x y : UInt8) (a b c : Xp) : List UInt8 := par true a.text ++ [32, x, y, 32] ++ (par true b.text ++ [32, x, y, 32] ++ par true c.text)

theorem back_reads {a b c : Xp} (ha : a.Nm) (hb : b.Nm) (hc : c.Nm) : ∀ ts, Tw ts (arrW 60 45 a b c ++ [(7, [])]) → ∃ c' tsr, Tw tsr [(7, [])] ∧ P .expr ts (.ok ⟨6, tNo, [c.rw, ⟨6, tNo, [b.rw, a.rw]⟩]⟩ c' tsr) := by
  intro ts h
  have h' : Tw ts (parW true a.tks ++ ((4, [60, 45]) :: (parW true b.tks ++ ((4, [60, 45]) :: (parW true c.tks ++ [(7, [])]))))) := by
    have : arrW 60 45 a b c ++ [(7, [])] = parW true a.tks ++ ((4, [60, 45]) :: (parW true b.tks ++ ((4, [60, 45]) :: (parW true c.tks ++ [(7, [])])))) := by simp [arrW]
    rw [← this]; exact h
  obtain ⟨t1, a1, a2, a3⟩ := par_app ha h' rfl rfl
  have s1 : sees t1 [tAr] = false := sees_W a1 [[45, 62]]
  have s2 : sees t1 [tAl] = true := sees_W a1 [[60, 45]]
  obtain ⟨x1, r1, rfl, _, _, a1⟩ := Tw_cons a1
  obtain ⟨t2, b1, b2, b3⟩ := par_app hb a1 rfl rfl
  have s3 : sees t2 [tAl] = true := sees_W b1 [[60, 45]]
  obtain ⟨x2, r2, rfl, _, _, b1⟩ := Tw_cons b1
  obtain ⟨t3, c1, c2, c3⟩ := par_app hc b1 rfl rfl
  have s4 : sees t3 [tAl] = false := sees_W c1 [[60, 45]]
  exact ⟨false, t3, c1, P_backs a3 a2 s1 (P_back s2 b3 b2 (P_back s3 c3 c2 (P_backE s4)))⟩

theorem fwd_reads {a b c : Xp} (ha : a.Nm) (hb : b.Nm) (hc : c.Nm) : ∀ ts, Tw ts (arrW 45 62 c b a ++ [(7, [])]) → ∃ c' tsr, Tw tsr [(7, [])] ∧ P .expr ts (.ok ⟨6, tNo, [c.rw, ⟨6, tNo, [b.rw, a.rw]⟩]⟩ c' tsr) := by
  intro ts h
  have h' : Tw ts (parW true c.tks ++ ((4, [45, 62]) :: (parW true b.tks ++ ((4, [45, 62]) :: (parW true a.tks ++ [(7, [])]))))) := by
    have : arrW 45 62 c b a ++ [(7, [])] = parW true c.tks ++ ((4, [45, 62]) :: (parW true b.tks ++ ((4, [45, 62]) :: (parW true a.tks ++ [(7, [])])))) := by simp [arrW]
    rw [← this]; exact h
  obtain ⟨t1, a1, a2, a3⟩ := par_app hc h' rfl rfl
  have s1 : sees t1 [tAr] = true := sees_W a1 [[45, 62]]
  obtain ⟨x1, r1, rfl, _, _, a1⟩ := Tw_cons a1
  obtain ⟨t2, b1, b2, b3⟩ := par_app hb a1 rfl rfl
  have s2 : sees t2 [tAr] = true := sees_W b1 [[45, 62]]
  obtain ⟨x2, r2, rfl, _, _, b1⟩ := Tw_cons b1
  obtain ⟨t3, c1, c2, c3⟩ := par_app ha b1 rfl rfl
  have s3 : sees t3 [tAr] = false := sees_W c1 [[45, 62]]
  have s4 : sees t3 [tAl] = false := sees_W c1 [[60, 45]]
  exact ⟨false, t3, c1, P_arrow a3 a2 s1 (P_arrow b3 b2 s2 (P_plain c3 c2 s3 s4))⟩

theorem arr_lex {x y : UInt8} {a b c : Xp} (ha : a.Nm) (hb : b.Nm) (hc : c.Nm) (hs : skip (x :: y :: 32 :: []) false = x :: y :: 32 :: []) (hw : wsB (x.toNat : Int) = false) (h37 : ((x.toNat : Int) == 37) = false)
    (hn : ∀ r, next x (y :: r) = some (4, [x, y])) : Lx (skip (arrT x y a b c) false) (arrW x y a b c) := by
  have h := lx_arrow (lx_par (lexX a ha) true) (lx_arrow (lx_par (lexX b hb) true) (lx_par (lexX c hc) true) x y hs hw h37 hn) x y hs hw h37 hn
  obtain ⟨h1, h2⟩ := h [] [] trivial Lx.nil
  rw [List.append_nil] at h1 h2
  rw [List.append_nil] at h1
  show Lx (skip (par true a.text ++ [32, x, y, 32] ++ (par true b.text ++ [32, x, y, 32] ++ par true c.text)) false) _
  rw [h2]; exact h1

theorem arrT_len (x y : UInt8) (a b c : Xp) : (arrT x y a b c).length = a.text.length + b.text.length + c.text.length + 14 := by
  simp only [arrT, par, cond_true, List.length_append, List.length_cons, List.length_nil]; omega

theorem arrT_mk (x y : UInt8) (a b c : Xp) : ((((((mk [40] ++ mk a.text) ++ mk [41, 32, x, y, 32, 40]) ++ mk b.text) ++ mk [41, 32, x, y, 32, 40]) ++ mk c.text) ++ mk [41]) = mk (arrT x y a b c) := by
  simp only [mk_append, arrT, par, cond_true, List.append_assoc, List.cons_append, List.nil_append]

/-- The texts of both arrows are put together without a loss. -/
theorem arr_guard {ρ : Type} (x y : UInt8) (a b c : Xp) (h : a.text.length + b.text.length + c.text.length ≤ 10000) (p : Option ρ) :
    cond (decide ((mk [40]).size + (mk a.text).size ≤ 9223372036854775807)) (cond (decide ((mk [40] ++ mk a.text).size + (mk [41, 32, x, y, 32, 40]).size ≤ 9223372036854775807)) (cond (decide (((mk [40] ++ mk a.text) ++ mk [41, 32, x, y, 32, 40]).size + (mk b.text).size ≤ 9223372036854775807))
      (cond (decide ((((mk [40] ++ mk a.text) ++ mk [41, 32, x, y, 32, 40]) ++ mk b.text).size + (mk [41, 32, x, y, 32, 40]).size ≤ 9223372036854775807)) (cond (decide (((((mk [40] ++ mk a.text) ++ mk [41, 32, x, y, 32, 40]) ++ mk b.text) ++ mk [41, 32, x, y, 32, 40]).size + (mk c.text).size ≤ 9223372036854775807))
      (cond (decide ((((((mk [40] ++ mk a.text) ++ mk [41, 32, x, y, 32, 40]) ++ mk b.text) ++ mk [41, 32, x, y, 32, 40]) ++ mk c.text).size + (mk [41]).size ≤ 9223372036854775807)) p none) none) none) none) none) none = p := by
  rw [cat_ok (by simp; omega), cond_true, mk_append, cat_ok (by simp; omega), cond_true, mk_append, cat_ok (by simp; omega), cond_true, mk_append, cat_ok (by simp; omega), cond_true, mk_append, cat_ok (by simp; omega), cond_true, mk_append, cat_ok (by simp; omega), cond_true]

theorem arrows_law (a b c : Rw) (ha : a.Ok) (hb : b.Ok) (hc : c.Ok) : Evt fun k => ∀ (ρ : Type) K, (Tabs k).c5_0 ρ a b c K = K true := by
  have hx : Rw.Ok ⟨6, tNo, [c, ⟨6, tNo, [b, a]⟩]⟩ := ok2 tNo_size hc (ok2 tNo_size hb ha)
  have e0 : (((0 : Int)) != 0) = false := rfl
  cases hw : wellB ⟨6, tNo, [c, ⟨6, tNo, [b, a]⟩]⟩ with
  | false =>
    refine ((s_well _ hx).and awake_ok).step fun k ⟨h1, h2⟩ ρ K => ?_
    rw [show (Tabs (k + 1)).c5_0 = Gc5_0 (Tabs k) from rfl]
    simp only [Gc5_0, Rw.eta, h1, hw, Bool.not_false, cond_true, h2]
  | true =>
    obtain ⟨wa, wb, wc⟩ := well_parts hw
    obtain ⟨x, rfl, nx, sx⟩ := well_ex wa
    obtain ⟨y, rfl, ny, sy⟩ := well_ex wb
    obtain ⟨z, rfl, nz, sz⟩ := well_ex wc
    have lx := text_len x nx
    have ly := text_len y ny
    have lz := text_len z nz
    have ew : IntKind.wrap .i64 (IntKind.wrap .i64 (((mk x.text).size : Int) + ((mk y.text).size : Int)) + ((mk z.text).size : Int)) = ((x.text.length + y.text.length + z.text.length : Nat) : Int) := by
      rw [mk_size, mk_size, mk_size, W_id (x := (x.text.length : Int) + (y.text.length : Int)) (by omega) (by omega), W_id (by omega) (by omega)]; omega
    by_cases hl : x.text.length + y.text.length + z.text.length ≤ 5960
    · have r1 := s_expr (arrT 60 45 x y z)
      rw [exprP_of (x := ⟨6, tNo, [z.rw, ⟨6, tNo, [y.rw, x.rw]⟩]⟩) (by rw [arrT_len]; omega) (arr_lex nx ny nz rfl rfl rfl fun r => rfl) (back_reads nx ny nz) hw] at r1
      have r2 := s_expr (arrT 45 62 z y x)
      rw [exprP_of (x := ⟨6, tNo, [z.rw, ⟨6, tNo, [y.rw, x.rw]⟩]⟩) (by rw [arrT_len]; omega) (arr_lex nz ny nx rfl rfl rfl fun r => rfl) (fwd_reads nx ny nz) hw] at r2
      refine ((s_well _ hx).and ((s_Text x ha nx sx wa).and ((s_Text y hb ny sy wb).and ((s_Text z hc nz sz wc).and (r1.and (r2.and ((s_same _ ⟨6, tNo, [z.rw, ⟨6, tNo, [y.rw, x.rw]⟩]⟩ hx).and awake_ok))))))).step fun k ⟨h1, h2, h3, h4, h5, h6, h7, h8⟩ ρ K => ?_
      rw [show (Tabs (k + 1)).c5_0 = Gc5_0 (Tabs k) from rfl]
      have e2 : decide (((x.text.length + y.text.length + z.text.length : Nat) : Int) > 5960) = false := by simp only [decide_eq_false_iff_not]; omega
      simp only [Gc5_0, Rw.eta, h1, hw, Bool.not_true, cond_false, h2, h3, h4, e0, ew, e2]
      refine (arr_guard 60 45 x y z (by omega) _).trans ?_
      refine (congrArg (fun s => (Tabs k).c14_0 ρ s _) (arrT_mk 60 45 x y z)).trans ?_
      refine (h5 ρ _).trans ?_
      refine (arr_guard 45 62 z y x (by omega) _).trans ?_
      refine (congrArg (fun s => (Tabs k).c14_0 ρ s _) (arrT_mk 45 62 z y x)).trans ?_
      refine (h6 ρ _).trans ?_
      simp only [beq_self_eq_true, cond_true, Rw.eta, h7, eqRw_refl, h8]
    · refine ((s_well _ hx).and ((s_Text x ha nx sx wa).and ((s_Text y hb ny sy wb).and ((s_Text z hc nz sz wc).and awake_ok)))).step fun k ⟨h1, h2, h3, h4, h8⟩ ρ K => ?_
      rw [show (Tabs (k + 1)).c5_0 = Gc5_0 (Tabs k) from rfl]
      have e2 : decide (((x.text.length + y.text.length + z.text.length : Nat) : Int) > 5960) = true := by simp only [decide_eq_true_eq]; omega
      simp only [Gc5_0, Rw.eta, h1, hw, Bool.not_true, cond_false, h2, h3, h4, e0, ew, e2, cond_true, beq_self_eq_true, h8]

end Go.Proofs.YtanfoijdfcnpoaaDoor.Ev
