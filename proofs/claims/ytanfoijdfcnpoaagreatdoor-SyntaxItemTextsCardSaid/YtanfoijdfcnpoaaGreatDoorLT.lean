/- This file proves what the texts of items are, that they are read back, and what SyntaxItemTexts answers; without any condition. -/
import Derived.Test.YtanfoijdfcnpoaaGreatDoorR3
import Derived.Test.YtanfoijdfcnpoaaGreatDoorRT
import Derived.Test.YtanfoijdfcnpoaaGreatDoorR5
import Derived.Test.YtanfoijdfcnpoaaGreatDoorJA
import Derived.Test.YtanfoijdfcnpoaaGreatDoorJY
set_option linter.unusedVariables false
set_option linter.unusedSimpArgs false
namespace Go.Proofs.YtanfoijdfcnpoaaGreatDoor.Ev

theorem andR_mono {r r' : Option PRes} {f f' : Rw → Bool → List Tok → Option PRes} {res : PRes} (hr : ∀ p, r = some p → r' = some p) (hf : ∀ x c ts p, f x c ts = some p → f' x c ts = some p) (h : andR r f = some res) : andR r' f' = some res := by
  rcases andR_some h with ⟨x, c, ts, h1, h2⟩ | ⟨ts, h1, rfl⟩
  · rw [hr _ h1]; exact hf _ _ _ _ h2
  · rw [hr _ h1]; rfl

theorem bif_mono {b : Bool} {p q p' q' : Option PRes} {res : PRes} (hp : ∀ x, p = some x → p' = some x) (hq : ∀ x, q = some x → q' = some x) (h : (bif b then p else q) = some res) : (bif b then p' else q') = some res := by
  cases b
  · exact hq _ h
  · exact hp _ h

/-- More fuel does not matter. -/
theorem pr_succ : ∀ (f : Nat) (tag : Tag) (ts : List Tok) (res : PRes), pr f tag ts = some res → pr (f + 1) tag ts = some res := by
  intro f
  induction f with
  | zero => intro tag ts res h; cases h
  | succ f ih =>
    intro tag ts res h
    have id : ∀ {o : Option PRes} (p : PRes), o = some p → o = some p := fun p h => h
    cases tag with
    | expr =>
      rw [pr] at h ⊢
      exact bif_mono (fun p => ih _ _ p) (fun p => andR_mono (fun p => ih _ _ p) fun x c ts p => bif_mono id fun p => bif_mono (fun p => andR_mono (fun p => ih _ _ p) fun _ _ _ => id) fun p => ih _ _ p) h
    | atom =>
      rw [pr] at h ⊢
      exact bif_mono (fun p => bif_mono (fun p => andR_mono (fun p => ih _ _ p) fun _ _ _ => id) id) id h
    | app =>
      rw [pr] at h ⊢
      exact andR_mono (fun p => ih _ _ p) (fun _ _ _ p => andR_mono (fun p => ih _ _ p) fun _ _ _ p => bif_mono (fun p => andR_mono (fun p => ih _ _ p) fun _ _ _ => id) id) h
    | appL x =>
      rw [pr] at h ⊢
      exact bif_mono (fun p => andR_mono (fun p => ih _ _ p) fun _ _ _ p => ih _ _ p) id h
    | arrL x c =>
      rw [pr] at h ⊢
      exact bif_mono id (fun p => bif_mono (fun p => bif_mono (fun p => andR_mono (fun p => ih _ _ p) fun _ _ _ p => ih _ _ p) fun p => andR_mono (fun p => ih _ _ p) fun _ _ _ p => ih _ _ p) id) h
    | binder =>
      rw [pr] at h ⊢
      cases ht : ts.tail with
      | nil => rw [ht] at h; exact h
      | cons t r =>
        rw [ht] at h
        exact bif_mono (fun p => bif_mono (fun p => andR_mono (fun p => bif_mono (fun p => ih _ _ p) id) fun _ _ _ p => bif_mono (fun p => andR_mono (fun p => ih _ _ p) fun _ _ _ => id) id) id) id h

theorem pr_mono {f g : Nat} {tag : Tag} {ts : List Tok} {res : PRes} (h : pr f tag ts = some res) (hfg : f ≤ g) : pr g tag ts = some res := by
  induction hfg with
  | refl => exact h
  | step _ ih => exact pr_succ _ _ _ _ ih

/-- With some fuel. -/
def P (tag : Tag) (ts : List Tok) (res : PRes) : Prop := ∃ f, pr f tag ts = some res

theorem P.eq {tag : Tag} {ts : List Tok} {res res' : PRes} {f : Nat} (h : P tag ts res) (h' : pr f tag ts = some res') : res' = res := by
  obtain ⟨g, h⟩ := h
  have h1 := pr_mono h (Nat.le_max_left g f)
  have h2 := pr_mono h' (Nat.le_max_right g f)
  rw [h1] at h2
  cases h2; rfl

end Go.Proofs.YtanfoijdfcnpoaaGreatDoor.Ev

set_option linter.unusedVariables false
set_option linter.unusedSimpArgs false
namespace Go.Proofs.YtanfoijdfcnpoaaGreatDoor.Ev

theorem P_app {ts ts1 ts2 : List Tok} {x y : Rw} {c c' : Bool} (h1 : P .atom ts (.ok x c ts1)) (h2 : P (.appL x) ts1 (.ok y c' ts2)) (h : sees ts2 [tLB, tLS] = false) : P .app ts (.ok y false ts2) := by
  obtain ⟨f, h1⟩ := h1
  obtain ⟨g, h2⟩ := h2
  refine ⟨max f g + 1, ?_⟩
  simp only [pr, pr_mono h1 (Nat.le_max_left f g), andR, pr_mono h2 (Nat.le_max_right f g), h, cond_false]

theorem P_step {ts ts1 : List Tok} {x y : Rw} {c : Bool} {res : PRes} (ha : atomicB ts = true) (h1 : P .atom ts (.ok y c ts1)) (h2 : P (.appL ⟨4, tNo, [x, y]⟩) ts1 res) : P (.appL x) ts res := by
  obtain ⟨f, h1⟩ := h1
  obtain ⟨g, h2⟩ := h2
  refine ⟨max f g + 1, ?_⟩
  simp only [pr, ha, cond_true, pr_mono h1 (Nat.le_max_left f g), andR, pr_mono h2 (Nat.le_max_right f g)]

theorem P_end {ts : List Tok} {x : Rw} (ha : atomicB ts = false) : P (.appL x) ts (.ok x false ts) := ⟨1, by simp only [pr, ha, cond_false]⟩

theorem P_paren {t : Tok} {r ts1 : List Tok} {x : Rw} {c : Bool} (hs : sees (t :: r) [tLP] = true) (h1 : P .expr r (.ok x c ts1)) (he : sees ts1 [tRP] = true) : P .atom (t :: r) (.ok x false ts1.tail) := by
  obtain ⟨f, h1⟩ := h1
  refine ⟨f + 1, ?_⟩
  have ha : atomicB (t :: r) = true := by simp only [atomicB, hs, Bool.or_true]
  simp only [pr, ha, hs, cond_true, List.tail_cons, h1, andR, he]

theorem P_one {t : Tok} {r : List Tok} (ha : atomicB (t :: r) = true) (hs : sees (t :: r) [tLP] = false) : P .atom (t :: r) (.ok (atomOf (t :: r)) false r) := ⟨1, by simp only [pr, ha, hs, cond_true, cond_false, List.tail_cons]⟩

theorem P_plain {ts ts1 : List Tok} {x : Rw} (hs : sees ts [tLB, tLS] = false) (h1 : P .app ts (.ok x false ts1)) (h2 : sees ts1 [tAr] = false) (h3 : sees ts1 [tAl] = false) : P .expr ts (.ok x false ts1) := by
  obtain ⟨f, h1⟩ := h1
  refine ⟨f + 2, ?_⟩
  have h4 : pr (f + 1) (.arrL x false) ts1 = some (.ok x false ts1) := by simp only [pr, cond_false, h3]
  rw [pr]
  simp only [hs, cond_false, pr_mono h1 (Nat.le_succ f), andR, h2, h4]

theorem P_arrow {ts ts1 ts2 : List Tok} {x y : Rw} {c : Bool} (hs : sees ts [tLB, tLS] = false) (h1 : P .app ts (.ok x false ts1)) (h2 : sees ts1 [tAr] = true) (h3 : P .expr ts1.tail (.ok y c ts2)) : P .expr ts (.ok ⟨6, tNo, [x, y]⟩ false ts2) := by
  obtain ⟨f, h1⟩ := h1
  obtain ⟨g, h3⟩ := h3
  refine ⟨max f g + 1, ?_⟩
  simp only [pr, hs, cond_false, pr_mono h1 (Nat.le_max_left f g), andR, h2, cond_true, pr_mono h3 (Nat.le_max_right f g)]

/-- The first arrow that points back, and the loop. -/
theorem P_backs {ts ts1 : List Tok} {x : Rw} {res : PRes} (hs : sees ts [tLB, tLS] = false) (h1 : P .app ts (.ok x false ts1)) (h2 : sees ts1 [tAr] = false) (h3 : P (.arrL x false) ts1 res) : P .expr ts res := by
  obtain ⟨f, h1⟩ := h1
  obtain ⟨g, h3⟩ := h3
  refine ⟨max f g + 1, ?_⟩
  simp only [pr, hs, cond_false, pr_mono h1 (Nat.le_max_left f g), andR, h2, pr_mono h3 (Nat.le_max_right f g)]

theorem P_back {ts ts1 : List Tok} {x y : Rw} {c : Bool} {res : PRes} (hs : sees ts [tAl] = true) (hb : sees ts.tail [tLB, tLS] = false) (h1 : P .app ts.tail (.ok y c ts1)) (h2 : P (.arrL ⟨6, tNo, [y, x]⟩ c) ts1 res) : P (.arrL x false) ts res := by
  obtain ⟨f, h1⟩ := h1
  obtain ⟨g, h2⟩ := h2
  refine ⟨max f g + 1, ?_⟩
  simp only [pr, hs, cond_false, cond_true, hb, pr_mono h1 (Nat.le_max_left f g), andR, pr_mono h2 (Nat.le_max_right f g)]

theorem P_backE {ts : List Tok} {x : Rw} (hs : sees ts [tAl] = false) : P (.arrL x false) ts (.ok x false ts) := ⟨1, by simp only [pr, hs, cond_false]⟩

theorem P_binder {ts : List Tok} {res : PRes} (hs : sees ts [tLB, tLS] = true) (h : P .binder ts res) : P .expr ts res := by
  obtain ⟨f, h⟩ := h
  exact ⟨f + 1, by simp only [pr, hs, cond_true, h]⟩

theorem P_bnd {t0 t : Tok} {r ts1 ts2 : List Tok} {x y : Rw} {c c' lam : Bool} (hs : sees (t0 :: t :: r) [tLB, tLS] = true) (hl : sees (t0 :: t :: r) [tLS] = lam) (hn : isNameB t = true)
    (hd : (sees r [tCo] = true ∧ P .expr r.tail (.ok x c ts1)) ∨ (sees r [tCo] = false ∧ x = ⟨3, tNo, []⟩ ∧ ts1 = r)) (he : sees ts1 [bif lam then tRS else tRB] = true) (h2 : P .expr ts1.tail (.ok y c' ts2)) :
    P .binder (t0 :: t :: r) (.ok ⟨bif lam then 7 else 5, t.text, [x, y]⟩ false ts2) := by
  obtain ⟨g, h2⟩ := h2
  rcases hd with ⟨hc, f, h1⟩ | ⟨hc, rfl, rfl⟩
  · refine ⟨max f g + 1, ?_⟩
    simp only [pr, List.tail_cons, hs, cond_true, hn, hc, pr_mono h1 (Nat.le_max_left f g), andR, hl, he, pr_mono h2 (Nat.le_max_right f g)]
  · refine ⟨g + 1, ?_⟩
    simp only [pr, List.tail_cons, hs, cond_true, hn, hc, cond_false, andR, hl, he, h2]

/-! ### Tokens without positions -/

abbrev Wd := Int × List UInt8

def shape (t : Tok) : Wd := (t.kind, t.text.data.toList)

def Tw (ts : List Tok) (ws : List Wd) : Prop := ts.map shape = ws

theorem Tw_cons {ts : List Tok} {w : Wd} {ws : List Wd} (h : Tw ts (w :: ws)) : ∃ t r, ts = t :: r ∧ t.kind = w.1 ∧ t.text = mk w.2 ∧ Tw r ws := by
  cases ts with
  | nil => cases h
  | cons t r =>
    simp only [Tw, List.map_cons, List.cons.injEq] at h
    refine ⟨t, r, rfl, by rw [← h.1]; rfl, ?_, h.2⟩
    rw [← h.1]; exact mk_of t.text

theorem strEq_lit (a b : List UInt8) : strEq (mk a) (mk b) = (a == b) := strEq_mk a b

/-- A sign that comes next. -/
def seesW (ws : List Wd) (ss : List (List UInt8)) : Bool :=
  match ws with
  | [] => false
  | w :: _ => w.1 == 4 && ss.any (w.2 == ·)

theorem sees_W {ts : List Tok} {ws : List Wd} (h : Tw ts ws) (ss : List (List UInt8)) : sees ts (ss.map mk) = seesW ws ss := by
  cases ws with
  | nil => cases ts with | nil => rfl | cons _ _ => cases h
  | cons w ws =>
    obtain ⟨t, r, rfl, h1, h2, _⟩ := Tw_cons h
    simp only [sees, seesW, h1, h2, List.any_map]
    congr 1
    induction ss with
    | nil => rfl
    | cons s ss ih => simp only [List.any_cons, ih, Function.comp_apply, strEq_mk]

def atomW (ws : List Wd) : Bool :=
  match ws with
  | [] => false
  | w :: _ => w.1 == 1 || (w.1 == 2 || (w.1 == 3 || seesW ws [[40]]))

theorem atomic_W {ts : List Tok} {ws : List Wd} (h : Tw ts ws) : atomicB ts = atomW ws := by
  cases ws with
  | nil => cases ts with | nil => rfl | cons _ _ => cases h
  | cons w ws =>
    have h3 := sees_W h [[40]]
    obtain ⟨t, r, rfl, h1, h2, _⟩ := Tw_cons h
    simp only [atomicB, atomW, h1]
    have h3' : sees (t :: r) [tLP] = seesW (w :: ws) [[40]] := h3
    rw [h3']

theorem atom_not_bind {ws : List Wd} (h : atomW ws = true) : seesW ws [[123], [91]] = false := by
  cases ws with
  | nil => rfl
  | cons w ws =>
    simp only [atomW, seesW, Bool.or_eq_true, beq_iff_eq, Bool.and_eq_true, List.any_cons, List.any_nil, Bool.or_false] at h ⊢
    rcases h with h | h | h | ⟨h, h'⟩
    · simp [h]
    · simp [h]
    · simp [h]
    · simp [h']

/-- A name's token. -/
def nmW (w : List UInt8) : Wd := (match w with | [] => 1 | c :: _ => bif smallB (c.toNat : Int) then 1 else 2, w)

def parW (b : Bool) (l : List Wd) : List Wd := bif b then (4, [40]) :: (l ++ [(4, [41])]) else l

/-- The tokens of an expression's text. -/
def Xp.tks : Xp → List Wd
  | .ty => [(1, tyB)]
  | .hole => [(3, [95])]
  | .nm w => [nmW w]
  | .app a b => parW a.wide a.tks ++ parW (b.wide || b.isApp) b.tks
  | .arr a b => parW a.wide a.tks ++ [(4, [45, 62])] ++ b.tks
  | .bnd l w a b => [(4, bif l then [91] else [123]), nmW w] ++ (bif a.isHole then [] else (4, [58]) :: a.tks) ++ [(4, bif l then [93] else [125])] ++ b.tks

/-- What may stand behind an expression. -/
def Fol (ws : List Wd) : Prop := ∃ w r, ws = w :: r ∧ (w = (4, [41]) ∨ w = (4, [93]) ∨ w = (4, [125]) ∨ w.1 = 7 ∨ w = (4, [46]))

theorem Fol.facts {ws : List Wd} (h : Fol ws) : atomW ws = false ∧ seesW ws [[123], [91]] = false ∧ seesW ws [[45, 62]] = false ∧ seesW ws [[60, 45]] = false := by
  obtain ⟨w, r, rfl, rfl | rfl | rfl | h | rfl⟩ := h
  · exact ⟨rfl, rfl, rfl, rfl⟩
  · exact ⟨rfl, rfl, rfl, rfl⟩
  · exact ⟨rfl, rfl, rfl, rfl⟩
  · refine ⟨?_, ?_, ?_, ?_⟩ <;> simp [atomW, seesW, h]
  · exact ⟨rfl, rfl, rfl, rfl⟩

theorem nmW_kind {w : List UInt8} (h : nmOk w = true) : ((nmW w).1 = 1 ∨ (nmW w).1 = 2) ∧ (w == tyB) = false := by
  simp only [nmOk, Bool.and_eq_true, Bool.not_eq_true'] at h
  refine ⟨?_, h.2⟩
  cases w with
  | nil => exact .inl rfl
  | cons c r => simp only [nmW]; cases smallB (c.toNat : Int) <;> simp

theorem nm_isName {t : Tok} {w : List UInt8} (h : nmOk w = true) (hk : t.kind = (nmW w).1) (ht : t.text = mk w) : isNameB t = true := by
  obtain ⟨h1, h2⟩ := nmW_kind h
  have e : strEq (mk w) tTy = false := (strEq_mk w tyB).trans h2
  simp only [isNameB, hk, ht, e]
  rcases h1 with h1 | h1 <;> rw [h1] <;> rfl

theorem Tw_append {ts : List Tok} {a b : List Wd} (h : Tw ts (a ++ b)) : ∃ t1 t2, ts = t1 ++ t2 ∧ Tw t1 a ∧ Tw t2 b := by
  obtain ⟨t1, t2, h1, h2, h3⟩ := List.map_eq_append_iff.1 h
  exact ⟨t1, t2, h1, h2, h3⟩

/-- What is shown of an expression's tokens. -/
structure Reads1 (e : Xp) : Prop where
  expr : ∀ ts ws, Tw ts (e.tks ++ ws) → Fol ws → ∃ c tsr, Tw tsr ws ∧ P .expr ts (.ok e.rw c tsr)
  spine : ∀ ts ws, Tw ts (parW e.wide e.tks ++ ws) → ∃ x c ts1 tsr, Tw tsr ws ∧ atomicB ts = true ∧ P .atom ts (.ok x c ts1) ∧ ∀ res, P (.appL e.rw) tsr res → P (.appL x) ts1 res
  atom : ∀ ts ws, Tw ts (parW (e.wide || e.isApp) e.tks ++ ws) → ∃ c tsr, Tw tsr ws ∧ atomicB ts = true ∧ P .atom ts (.ok e.rw c tsr)

/-- In parentheses everything is an atom. -/
theorem paren_atom {e : Xp} (he : ∀ ts ws, Tw ts (e.tks ++ ws) → Fol ws → ∃ c tsr, Tw tsr ws ∧ P .expr ts (.ok e.rw c tsr)) : ∀ ts ws, Tw ts (parW true e.tks ++ ws) → ∃ c tsr, Tw tsr ws ∧ atomicB ts = true ∧ P .atom ts (.ok e.rw c tsr) := by
  intro ts ws h
  simp only [parW, cond_true, List.cons_append, List.append_assoc, List.nil_append] at h
  have ha := atomic_W h
  have hs := sees_W h [[40]]
  obtain ⟨t, r, rfl, _, _, h⟩ := Tw_cons h
  obtain ⟨c, tsr, h1, h2⟩ := he r _ h ⟨_, _, rfl, .inl rfl⟩
  have hs1 := sees_W h1 [[41]]
  obtain ⟨t1, r1, rfl, _, _, h1⟩ := Tw_cons h1
  exact ⟨false, r1, h1, ha, P_paren hs h2 hs1⟩

theorem atom_spine {e : Xp} (he : ∀ ts ws, Tw ts (parW e.wide e.tks ++ ws) → ∃ c tsr, Tw tsr ws ∧ atomicB ts = true ∧ P .atom ts (.ok e.rw c tsr)) :
    ∀ ts ws, Tw ts (parW e.wide e.tks ++ ws) → ∃ x c ts1 tsr, Tw tsr ws ∧ atomicB ts = true ∧ P .atom ts (.ok x c ts1) ∧ ∀ res, P (.appL e.rw) tsr res → P (.appL x) ts1 res := by
  intro ts ws h
  obtain ⟨c, tsr, h1, h2, h3⟩ := he ts ws h
  exact ⟨_, c, tsr, tsr, h1, h2, h3, fun _ h => h⟩

/-- A spine without a binder at its end is an expression. -/
theorem spine_expr {e : Xp} (hw : e.wide = false) (he : ∀ ts ws, Tw ts (parW e.wide e.tks ++ ws) → ∃ x c ts1 tsr, Tw tsr ws ∧ atomicB ts = true ∧ P .atom ts (.ok x c ts1) ∧ ∀ res, P (.appL e.rw) tsr res → P (.appL x) ts1 res) :
    ∀ ts ws, Tw ts (e.tks ++ ws) → Fol ws → ∃ c tsr, Tw tsr ws ∧ P .expr ts (.ok e.rw c tsr) := by
  intro ts ws h hf
  rw [hw] at he
  obtain ⟨x, c, ts1, tsr, h1, h2, h3, h4⟩ := he ts ws h
  obtain ⟨f1, f2, f3, f4⟩ := hf.facts
  have a1 := atomic_W h1
  have hb : sees ts [tLB, tLS] = false := by
    have := sees_W h [[123], [91]]
    refine this.trans (atom_not_bind ?_)
    rw [← atomic_W h]; exact h2
  exact ⟨false, tsr, h1, P_plain hb (P_app h3 (h4 _ (P_end (a1.trans f1))) ((sees_W h1 [[123], [91]]).trans f2)) ((sees_W h1 [[45, 62]]).trans f3) ((sees_W h1 [[60, 45]]).trans f4)⟩

/-- An atom of one token. -/
theorem one_atom {e : Xp} {w : Wd} (hw : e.wide = false) (ha : e.isApp = false) (ht : e.tks = [w]) (hk : w.1 = 1 ∨ w.1 = 2 ∨ w.1 = 3) (ho : ∀ t r, t.kind = w.1 → t.text = mk w.2 → atomOf (t :: r) = e.rw) : Reads1 e := by
  have key : ∀ ts ws, Tw ts ([w] ++ ws) → ∃ c tsr, Tw tsr ws ∧ atomicB ts = true ∧ P .atom ts (.ok e.rw c tsr) := by
    intro ts ws h
    simp only [List.cons_append, List.nil_append] at h
    have hA : atomicB ts = true := by
      rw [atomic_W h]
      rcases hk with hk | hk | hk <;> simp [atomW, hk]
    have hS : sees ts [tLP] = false := by
      refine (sees_W h [[40]]).trans ?_
      rcases hk with hk | hk | hk <;> simp [seesW, hk]
    obtain ⟨t, r, rfl, h1, h2, h⟩ := Tw_cons h
    refine ⟨false, r, h, hA, ?_⟩
    rw [← ho t r h1 h2]
    exact P_one hA hS
  have sp := atom_spine (e := e) (by rw [hw, ht]; exact key)
  exact ⟨spine_expr hw sp, sp, by rw [hw, ha, ht]; exact key⟩

theorem reads1X (e : Xp) : e.Nm → Reads1 e := by
  induction e with
  | ty =>
    intro _
    refine one_atom rfl rfl rfl (.inl rfl) fun t r hk ht => ?_
    have e : strEq (mk tyB) tTy = true := (strEq_mk tyB tyB).trans rfl
    simp only [atomOf, hk, ht, e]; rfl
  | hole =>
    intro _
    refine one_atom rfl rfl rfl (.inr (.inr rfl)) fun t r hk ht => ?_
    simp only [atomOf, hk]; rfl
  | nm w =>
    intro hn
    obtain ⟨h1, h2⟩ := nmW_kind (w := w) hn
    refine one_atom rfl rfl rfl (by rcases h1 with h1 | h1; exact .inl h1; exact .inr (.inl h1)) fun t r hk ht => ?_
    have e : strEq (mk w) tTy = false := (strEq_mk w tyB).trans h2
    have hk3 : (t.kind == 3) = false := by rw [hk]; rcases h1 with h1 | h1 <;> rw [h1] <;> rfl
    have ht' : t.text = mk w := ht
    simp only [atomOf, hk3, ht', e]; rfl
  | app a b iha ihb =>
    intro hn
    have ra := iha hn.1
    have rb := ihb hn.2
    have sp : ∀ ts ws, Tw ts (parW (Xp.app a b).wide (Xp.app a b).tks ++ ws) → ∃ x c ts1 tsr, Tw tsr ws ∧ atomicB ts = true ∧ P .atom ts (.ok x c ts1) ∧ ∀ res, P (.appL (Xp.app a b).rw) tsr res → P (.appL x) ts1 res := by
      intro ts ws h
      have h' : Tw ts (parW a.wide a.tks ++ (parW (b.wide || b.isApp) b.tks ++ ws)) := by
        rw [← List.append_assoc]; exact h
      obtain ⟨x, c, ts1, ts2, h1, h2, h3, h4⟩ := ra.spine ts _ h'
      obtain ⟨c2, tsr, h5, h6, h7⟩ := rb.atom ts2 ws h1
      exact ⟨x, c, ts1, tsr, h5, h2, h3, fun res hr => h4 res (P_step h6 h7 hr)⟩
    have ex := spine_expr (e := .app a b) rfl sp
    exact ⟨ex, sp, paren_atom ex⟩
  | arr a b iha ihb =>
    intro hn
    have ra := iha hn.1
    have rb := ihb hn.2
    have ex : ∀ ts ws, Tw ts ((Xp.arr a b).tks ++ ws) → Fol ws → ∃ c tsr, Tw tsr ws ∧ P .expr ts (.ok (Xp.arr a b).rw c tsr) := by
      intro ts ws h hf
      have h' : Tw ts (parW a.wide a.tks ++ ((4, [45, 62]) :: (b.tks ++ ws))) := by
        have : (Xp.arr a b).tks ++ ws = parW a.wide a.tks ++ ((4, [45, 62]) :: (b.tks ++ ws)) := by simp [Xp.tks]
        rw [← this]; exact h
      obtain ⟨x, c, ts1, ts2, h1, h2, h3, h4⟩ := ra.spine ts _ h'
      have a1 : atomicB ts2 = false := atomic_W h1
      have b1 : sees ts2 [tLB, tLS] = false := sees_W h1 [[123], [91]]
      have b2 : sees ts2 [tAr] = true := sees_W h1 [[45, 62]]
      obtain ⟨t, r, rfl, _, _, h1⟩ := Tw_cons h1
      obtain ⟨c2, tsr, h5, h6⟩ := rb.expr r ws h1 hf
      have hb : sees ts [tLB, tLS] = false := (sees_W h' [[123], [91]]).trans (atom_not_bind (by rw [← atomic_W h']; exact h2))
      exact ⟨false, tsr, h5, P_arrow hb (P_app h3 (h4 _ (P_end a1)) b1) b2 h6⟩
    have pa := paren_atom ex
    exact ⟨ex, atom_spine pa, pa⟩
  | bnd l w a b iha ihb =>
    intro hn
    have ra := iha hn.2.1
    have rb := ihb hn.2.2
    have ex : ∀ ts ws, Tw ts ((Xp.bnd l w a b).tks ++ ws) → Fol ws → ∃ c tsr, Tw tsr ws ∧ P .expr ts (.ok (Xp.bnd l w a b).rw c tsr) := by
      intro ts ws h hf
      have h' : Tw ts ((4, bif l then [91] else [123]) :: nmW w :: ((bif a.isHole then [] else (4, [58]) :: a.tks) ++ ((4, bif l then [93] else [125]) :: (b.tks ++ ws)))) := by
        have : (Xp.bnd l w a b).tks ++ ws = (4, bif l then [91] else [123]) :: nmW w :: ((bif a.isHole then [] else (4, [58]) :: a.tks) ++ ((4, bif l then [93] else [125]) :: (b.tks ++ ws))) := by simp [Xp.tks]
        rw [← this]; exact h
      have s1 : sees ts [tLB, tLS] = true := (sees_W h' [[123], [91]]).trans (by cases l <;> rfl)
      have s2 : sees ts [tLS] = l := (sees_W h' [[91]]).trans (by cases l <;> rfl)
      obtain ⟨t0, r0, rfl, _, _, h'⟩ := Tw_cons h'
      obtain ⟨t, r, rfl, k1, k2, h'⟩ := Tw_cons h'
      have hN : isNameB t = true := nm_isName hn.1 k1 k2
      have hF : Fol ((4, bif l then [93] else [125]) :: (b.tks ++ ws)) := by
        cases l
        · exact ⟨_, _, rfl, .inr (.inr (.inl rfl))⟩
        · exact ⟨_, _, rfl, .inr (.inl rfl)⟩
      have dom : ∃ c ts1, Tw ts1 ((4, bif l then [93] else [125]) :: (b.tks ++ ws)) ∧ ((sees r [tCo] = true ∧ P .expr r.tail (.ok a.rw c ts1)) ∨ (sees r [tCo] = false ∧ a.rw = ⟨3, tNo, []⟩ ∧ ts1 = r)) := by
        cases hh : a.isHole with
        | true =>
          rw [hh] at h'
          have hc : sees r [tCo] = false := (sees_W h' [[58]]).trans (by cases l <;> rfl)
          refine ⟨false, r, h', .inr ⟨hc, ?_, rfl⟩⟩
          cases a <;> first | rfl | cases hh
        | false =>
          rw [hh] at h'
          simp only [cond_false, List.cons_append] at h'
          have hc : sees r [tCo] = true := sees_W h' [[58]]
          obtain ⟨t2, r2, rfl, _, _, h'⟩ := Tw_cons h'
          obtain ⟨c, ts1, h5, h6⟩ := ra.expr r2 _ h' hF
          exact ⟨c, ts1, h5, .inl ⟨hc, h6⟩⟩
      obtain ⟨c, ts1, h5, hd⟩ := dom
      have he : sees ts1 [bif l then tRS else tRB] = true := by
        have := sees_W h5 [bif l then [93] else [125]]
        cases l <;> exact this
      obtain ⟨t3, r3, rfl, _, _, h5⟩ := Tw_cons h5
      obtain ⟨c2, tsr, h7, h8⟩ := rb.expr r3 ws h5 hf
      have hP := P_binder s1 (P_bnd s1 s2 hN hd he h8)
      rw [k2] at hP
      exact ⟨false, tsr, h7, hP⟩
    have pa := paren_atom ex
    exact ⟨ex, atom_spine pa, pa⟩

end Go.Proofs.YtanfoijdfcnpoaaGreatDoor.Ev

set_option linter.unusedVariables false
set_option linter.unusedSimpArgs false
namespace Go.Proofs.YtanfoijdfcnpoaaGreatDoor.Ev

/-- A text is cut into these tokens. -/
inductive Lx : List UInt8 → List Wd → Prop
  | nil : Lx [] []
  | cons {c : UInt8} {r : List UInt8} {k : Int} {w : List UInt8} {ws : List Wd} (h : next c r = some (k, w)) (hr : Lx (skip ((c :: r).drop w.length) false) ws) : Lx (c :: r) ((k, w) :: ws)

theorem Lx.tk {r : List UInt8} {ws : List Wd} (h : Lx r ws) : ∀ N n, r.length ≤ n → ∃ ts, Ev.tk N n r = .inl ts ∧ Tw ts ws := by
  induction h with
  | nil => intro N n _; exact ⟨[], by cases n <;> rfl, rfl⟩
  | @cons c r k w ws h hr ih =>
    intro N n hn
    cases n with
    | zero => simp at hn
    | succ n =>
      obtain ⟨h1, q, h2⟩ := next_text h
      have h1' : 1 ≤ w.length := by
        cases w with
        | nil => exact absurd rfl h1
        | cons _ _ => simp
      have hlen : (skip ((c :: r).drop w.length) false).length ≤ n := by
        have := (skip_suffix ((c :: r).drop w.length) false).length_le
        simp only [List.length_drop, List.length_cons] at this hn
        omega
      obtain ⟨ts, h3, h4⟩ := ih N n hlen
      refine ⟨⟨k, mk w, (N : Int) - ((c :: r).length : Int)⟩ :: ts, ?_, ?_⟩
      · simp only [Ev.tk, h, h3]
      · simp only [Tw, List.map_cons, shape, mk_list]
        rw [show ts.map shape = ws from h4]

/-- A name may end here. -/
def SepN : List UInt8 → Prop
  | [] => True
  | c :: _ => nmC c = false

theorem word_app {q : List UInt8} (hq : SepN q) : ∀ {w : List UInt8}, w.all nmC = true → word (w ++ q) = w
  | [], _ => by
    cases q with
    | nil => rfl
    | cons c r => simp only [List.nil_append, word, List.takeWhile_cons]; rw [show nmC c = false from hq]; rfl
  | c :: w, h => by
    simp only [List.all_cons, Bool.and_eq_true] at h
    have := word_app hq h.2
    simp only [word] at this
    simp only [List.cons_append, word, List.takeWhile_cons, h.1, if_true, this]

/-- A name's token. -/
theorem nm_next {w q : List UInt8} (h : nameL letB w = true) (hq : SepN q) : ∃ c r, w = c :: r ∧ next c (r ++ q) = some (nmW w) ∧ letB (c.toNat : Int) = true := by
  cases w with
  | nil => cases h
  | cons c r =>
    have h' := h
    simp only [nameL, Bool.and_eq_true, decide_eq_true_eq] at h'
    have hw : word (c :: (r ++ q)) = c :: r := word_app (w := c :: r) hq h'.2.2
    refine ⟨c, r, rfl, ?_, h'.2.1⟩
    have hl : letB (c.toNat : Int) = (smallB (c.toNat : Int) || capB (c.toNat : Int)) := rfl
    simp only [next, hw, nmW]
    cases hs : smallB (c.toNat : Int) with
    | true =>
      have : nameL smallB (c :: r) = true := by simp only [nameL, Bool.and_eq_true, decide_eq_true_eq]; exact ⟨h'.1, hs, h'.2.2⟩
      simp only [cond_true, this]
    | false =>
      have hc : capB (c.toNat : Int) = true := by have := h'.2.1; rw [hl, hs] at this; exact this
      have : nameL capB (c :: r) = true := by simp only [nameL, Bool.and_eq_true, decide_eq_true_eq]; exact ⟨h'.1, hc, h'.2.2⟩
      simp only [cond_true, cond_false, hc, this]

theorem nm_let {w : List UInt8} (h : nmOk w = true) : nameL letB w = true := by
  simp only [nmOk, Bool.and_eq_true] at h; exact h.1

/-- What is shown of an expression's text. -/
def LexE (t : List UInt8) (ks : List Wd) : Prop := ∀ q ws, SepN q → Lx (skip q false) ws → Lx (t ++ q) (ks ++ ws) ∧ skip (t ++ q) false = t ++ q
/-- The same of a text in parentheses or with its own end. -/
def LexP (t : List UInt8) (ks : List Wd) : Prop := ∀ q ws, SepN q → Lx (skip q false) ws → Lx (t ++ q) (ks ++ ws) ∧ skip (t ++ q) false = t ++ q

theorem lx_name {w : List UInt8} (h : nameL letB w = true) : LexE w [nmW w] := by
  intro q ws hq hl
  obtain ⟨c, r, rfl, h1, h2⟩ := nm_next h hq
  refine ⟨?_, let_skip h2⟩
  have hw : (nmW (c :: r)).2 = c :: r := rfl
  refine Lx.cons (k := (nmW (c :: r)).1) (w := c :: r) h1 ?_
  have : (c :: (r ++ q)).drop (c :: r).length = q := by
    rw [← List.cons_append, List.drop_left]
  show Lx (skip ((c :: (r ++ q)).drop (c :: r).length) false) ws
  rw [this]; exact hl

theorem lx_hole : LexE [95] [(3, [95])] := by
  intro q ws hq hl
  have hw : word (95 :: q) = [95] := word_app (w := [95]) hq (by decide)
  have h1 : next 95 q = some (3, [95]) := by
    have : next 95 q = bif word (95 :: q) == [95] then some (3, [95]) else none := rfl
    rw [this, hw]; rfl
  exact ⟨Lx.cons h1 hl, rfl⟩

theorem lx_par {t : List UInt8} {ks : List Wd} (h : LexE t ks) (b : Bool) : LexE (par b t) (parW b ks) := by
  cases b with
  | false => exact h
  | true =>
    intro q ws hq hl
    have h2 : Lx (skip (41 :: q) false) ((4, [41]) :: ws) := by
      rw [show skip (41 :: q) false = 41 :: q from rfl]
      exact Lx.cons (k := 4) (w := [41]) rfl hl
    obtain ⟨h3, h4⟩ := h (41 :: q) _ (show nmC 41 = false by decide) h2
    have e : par true t ++ q = 40 :: (t ++ 41 :: q) := by simp [par]
    have e2 : parW true ks ++ ws = (4, [40]) :: (ks ++ (4, [41]) :: ws) := by simp [parW]
    rw [e, e2]
    refine ⟨Lx.cons (k := 4) (w := [40]) rfl ?_, rfl⟩
    show Lx (skip (t ++ 41 :: q) false) _
    rw [h4]; exact h3

/-- Two texts with a blank between them. -/
theorem lx_blank {t u : List UInt8} {ks ls : List Wd} (h : LexE t ks) (h' : LexE u ls) : LexE (t ++ [32] ++ u) (ks ++ ls) := by
  intro q ws hq hl
  obtain ⟨h3, h4⟩ := h' q ws hq hl
  have h5 : Lx (skip (32 :: (u ++ q)) false) (ls ++ ws) := by
    rw [show skip (32 :: (u ++ q)) false = skip (u ++ q) false from rfl, h4]; exact h3
  obtain ⟨h6, h7⟩ := h (32 :: (u ++ q)) _ (show nmC 32 = false by decide) h5
  have e : t ++ [32] ++ u ++ q = t ++ 32 :: (u ++ q) := by simp
  rw [e, List.append_assoc]
  exact ⟨h6, h7⟩

/-- Two texts with an arrow between them. -/
theorem lx_arrow {t u : List UInt8} {ks ls : List Wd} (h : LexE t ks) (h' : LexE u ls) (a b : UInt8) (hs : skip (a :: b :: 32 :: []) false = a :: b :: 32 :: []) (hw : wsB (a.toNat : Int) = false) (ha : ((a.toNat : Int) == 37) = false)
    (hn : ∀ r, next a (b :: r) = some (4, [a, b])) : LexE (t ++ [32, a, b, 32] ++ u) (ks ++ [(4, [a, b])] ++ ls) := by
  intro q ws hq hl
  obtain ⟨h3, h4⟩ := h' q ws hq hl
  have h5 : Lx (skip (32 :: a :: b :: 32 :: (u ++ q)) false) ((4, [a, b]) :: (ls ++ ws)) := by
    have : skip (32 :: a :: b :: 32 :: (u ++ q)) false = a :: b :: 32 :: (u ++ q) := by
      rw [show skip (32 :: a :: b :: 32 :: (u ++ q)) false = skip (a :: b :: 32 :: (u ++ q)) false from rfl]
      simp only [skip, hw, ha, Bool.false_and, Bool.false_eq_true, if_false]
    rw [this]
    refine Lx.cons (hn _) ?_
    show Lx (skip (32 :: (u ++ q)) false) _
    rw [show skip (32 :: (u ++ q)) false = skip (u ++ q) false from rfl, h4]; exact h3
  obtain ⟨h6, h7⟩ := h (32 :: a :: b :: 32 :: (u ++ q)) _ (show nmC 32 = false by decide) h5
  have e : t ++ [32, a, b, 32] ++ u ++ q = t ++ 32 :: a :: b :: 32 :: (u ++ q) := by simp
  have e2 : ks ++ [(4, [a, b])] ++ ls ++ ws = ks ++ (4, [a, b]) :: (ls ++ ws) := by simp
  rw [e, e2]
  exact ⟨h6, h7⟩

theorem lx_sign {s : UInt8} {u q : List UInt8} {ls ws : List Wd} (hn : next s (u ++ q) = some (4, [s])) (h : Lx (u ++ q) (ls ++ ws) ∧ skip (u ++ q) false = u ++ q) : Lx (s :: (u ++ q)) ((4, [s]) :: (ls ++ ws)) :=
  Lx.cons hn (by show Lx (skip (u ++ q) false) _; rw [h.2]; exact h.1)

theorem lexX (e : Xp) : e.Nm → LexE e.text e.tks := by
  induction e with
  | ty => intro _; exact lx_name (w := tyB) (by decide)
  | hole => intro _; exact lx_hole
  | nm w => intro h; exact lx_name (nm_let h)
  | app a b iha ihb => intro h; exact lx_blank (lx_par (iha h.1) _) (lx_par (ihb h.2) _)
  | arr a b iha ihb => intro h; exact lx_arrow (lx_par (iha h.1) _) (ihb h.2) 45 62 rfl rfl rfl fun r => rfl
  | bnd l w a b iha ihb =>
    intro h q ws hq hl
    obtain ⟨hb1, hb2⟩ := ihb h.2.2 q ws hq hl
    -- the end of the binder, a blank, the body
    have hE : ∀ x : UInt8, x = 93 ∨ x = 125 → Lx (skip (x :: 32 :: (b.text ++ q)) false) ((4, [x]) :: (b.tks ++ ws)) ∧ SepN (x :: 32 :: (b.text ++ q)) ∧ skip (x :: 32 :: (b.text ++ q)) false = x :: 32 :: (b.text ++ q) := by
      intro x hx
      have hs : skip (32 :: (b.text ++ q)) false = b.text ++ q := (show skip (32 :: (b.text ++ q)) false = skip (b.text ++ q) false from rfl).trans hb2
      rcases hx with rfl | rfl
      · refine ⟨?_, show nmC 93 = false by decide, rfl⟩
        rw [show skip (93 :: 32 :: (b.text ++ q)) false = 93 :: 32 :: (b.text ++ q) from rfl]
        refine Lx.cons (k := 4) (w := [93]) rfl ?_
        show Lx (skip (32 :: (b.text ++ q)) false) _
        rw [hs]; exact hb1
      · refine ⟨?_, show nmC 125 = false by decide, rfl⟩
        rw [show skip (125 :: 32 :: (b.text ++ q)) false = 125 :: 32 :: (b.text ++ q) from rfl]
        refine Lx.cons (k := 4) (w := [125]) rfl ?_
        show Lx (skip (32 :: (b.text ++ q)) false) _
        rw [hs]; exact hb1
    -- the domain and what is behind it
    have hD : ∀ x : UInt8, x = 93 ∨ x = 125 → Lx (skip ((bif a.isHole then [] else 58 :: a.text) ++ x :: 32 :: (b.text ++ q)) false) ((bif a.isHole then [] else (4, [58]) :: a.tks) ++ (4, [x]) :: (b.tks ++ ws)) ∧ SepN ((bif a.isHole then [] else 58 :: a.text) ++ x :: 32 :: (b.text ++ q)) := by
      intro x hx
      obtain ⟨e1, e2, e3⟩ := hE x hx
      cases ha : a.isHole with
      | true => exact ⟨e1, e2⟩
      | false =>
        obtain ⟨a1, a2⟩ := iha h.2.1 (x :: 32 :: (b.text ++ q)) _ e2 e1
        refine ⟨?_, show nmC 58 = false by decide⟩
        simp only [cond_false, List.cons_append]
        rw [show skip (58 :: (a.text ++ x :: 32 :: (b.text ++ q))) false = 58 :: (a.text ++ x :: 32 :: (b.text ++ q)) from rfl]
        refine Lx.cons (k := 4) (w := [58]) rfl ?_
        show Lx (skip (a.text ++ x :: 32 :: (b.text ++ q)) false) _
        rw [a2]; exact a1
    cases l with
    | true =>
      obtain ⟨d1, d2⟩ := hD 93 (.inl rfl)
      obtain ⟨n1, n2⟩ := lx_name (nm_let h.1) _ _ d2 d1
      have e1 : (Xp.bnd true w a b).text ++ q = 91 :: (w ++ ((bif a.isHole then [] else 58 :: a.text) ++ 93 :: 32 :: (b.text ++ q))) := by
        simp only [Xp.text, cond_true]; cases a.isHole <;> simp
      have e2 : (Xp.bnd true w a b).tks ++ ws = (4, [91]) :: ([nmW w] ++ ((bif a.isHole then [] else (4, [58]) :: a.tks) ++ (4, [93]) :: (b.tks ++ ws))) := by
        simp only [Xp.tks, cond_true]; cases a.isHole <;> simp
      rw [e1, e2]
      refine ⟨Lx.cons (k := 4) (w := [91]) rfl ?_, rfl⟩
      show Lx (skip (w ++ _) false) _
      rw [n2]; exact n1
    | false =>
      obtain ⟨d1, d2⟩ := hD 125 (.inr rfl)
      obtain ⟨n1, n2⟩ := lx_name (nm_let h.1) _ _ d2 d1
      have e1 : (Xp.bnd false w a b).text ++ q = 123 :: (w ++ ((bif a.isHole then [] else 58 :: a.text) ++ 125 :: 32 :: (b.text ++ q))) := by
        simp only [Xp.text, cond_false]; cases a.isHole <;> simp
      have e2 : (Xp.bnd false w a b).tks ++ ws = (4, [123]) :: ([nmW w] ++ ((bif a.isHole then [] else (4, [58]) :: a.tks) ++ (4, [125]) :: (b.tks ++ ws))) := by
        simp only [Xp.tks, cond_false]; cases a.isHole <;> simp
      rw [e1, e2]
      refine ⟨Lx.cons (k := 4) (w := [123]) rfl ?_, rfl⟩
      show Lx (skip (w ++ _) false) _
      rw [n2]; exact n1

/-- A source that is cut into the tokens of an expression is read as it. -/
theorem exprP_of {l : List UInt8} {W : List Wd} {x : Rw} (hl : l.length ≤ 6000) (hL : Lx (skip l false) W)
    (hp : ∀ ts, Tw ts (W ++ [(7, [])]) → ∃ c tsr, Tw tsr [(7, [])] ∧ P .expr ts (.ok x c tsr)) (hw : wellB x = true) : exprP l = (x, 0, 0) := by
  obtain ⟨ts, h1, h2⟩ := hL.tk l.length l.length (skip_suffix l false).length_le
  have ht : toks l = (ts ++ [⟨7, mk [], (l.length : Int)⟩], 0, 0) := by
    unfold toks
    have : decide (l.length ≤ 6000) = true := by simpa using hl
    rw [this, cond_true, h1]
  have hT : Tw (toks l).1 (W ++ [(7, [])]) := by
    rw [ht]
    simp only [Tw, List.map_append, List.map_cons, List.map_nil]
    rw [show ts.map shape = W from h2]
    rfl
  obtain ⟨c, tsr, h3, h4⟩ := hp _ hT
  have h0 : (toks l).2.2 = 0 := by rw [ht]
  obtain ⟨g0, _, _⟩ := toks_good l h0
  have hne := pr_ends (4 * (toks l).1.length + 3) .expr (toks l).1 g0 (by simp only [Tag.rank]; omega)
  cases hr : pr (4 * (toks l).1.length + 3) .expr (toks l).1 with
  | none => exact absurd hr hne
  | some res =>
    have := h4.eq hr
    subst this
    obtain ⟨t, r, rfl, hk, _, _⟩ := Tw_cons h3
    have hk' : (kindT (t :: r) == 7) = true := by simp only [kindT, hk]; rfl
    simp only [exprP, h0, beq_self_eq_true, cond_true, hr, hk', hw]

theorem fol_end : Fol [(7, [])] := ⟨_, _, rfl, .inr (.inr (.inr (.inl rfl)))⟩

/-- A text is read back. -/
theorem read_back {e : Xp} (hn : e.Nm) (hl : e.text.length ≤ 6000) (hw : wellB e.rw = true) : exprP e.text = (e.rw, 0, 0) := by
  obtain ⟨h1, h2⟩ := lexX e hn [] [] trivial Lx.nil
  rw [List.append_nil] at h1 h2
  rw [List.append_nil] at h1
  exact exprP_of hl (by rw [h2]; exact h1) (fun ts ht => (reads1X e hn).expr ts _ ht fol_end) hw

end Go.Proofs.YtanfoijdfcnpoaaGreatDoor.Ev

set_option linter.unusedVariables false
set_option linter.unusedSimpArgs false
namespace Go.Proofs.YtanfoijdfcnpoaaGreatDoor.Ev

/-! ### More fuel -/

theorem andE_mono {r r' : Option PRes} {f f' : Rw → List Tok → Option QRes} {res : QRes} (hr : ∀ p, r = some p → r' = some p) (hf : ∀ x ts p, f x ts = some p → f' x ts = some p) (h : andE r f = some res) : andE r' f' = some res := by
  rcases andE_some h with ⟨x, c, ts, h1, h2⟩ | ⟨ts, h1, rfl⟩
  · rw [hr _ h1]; exact hf _ _ _ h2
  · rw [hr _ h1]; rfl
theorem andO_mono {r r' : Option QRes} {f f' : Pt → List Tok → Option QRes} {res : QRes} (hr : ∀ p, r = some p → r' = some p) (hf : ∀ x ts p, f x ts = some p → f' x ts = some p) (h : andO r f = some res) : andO r' f' = some res := by
  rcases andO_some h with ⟨x, ts, h1, h2⟩ | ⟨ts, h1, rfl⟩
  · rw [hr _ h1]; exact hf _ _ _ h2
  · rw [hr _ h1]; rfl
theorem andA_mono {r r' : Option QRes} {f f' : List Pt → List Tok → Option QRes} {res : QRes} (hr : ∀ p, r = some p → r' = some p) (hf : ∀ x ts p, f x ts = some p → f' x ts = some p) (h : andA r f = some res) : andA r' f' = some res := by
  rcases andA_some h with ⟨x, ts, h1, h2⟩ | ⟨ts, h1, rfl⟩
  · rw [hr _ h1]; exact hf _ _ _ h2
  · rw [hr _ h1]; rfl
theorem bifq_mono {b : Bool} {p q p' q' : Option QRes} {res : QRes} (hp : ∀ x, p = some x → p' = some x) (hq : ∀ x, q = some x → q' = some x) (h : (bif b then p else q) = some res) : (bif b then p' else q') = some res := by
  cases b
  · exact hq _ h
  · exact hp _ h

theorem qr_succ : ∀ (f : Nat) (tag : QTag) (ts : List Tok) (res : QRes), qr f tag ts = some res → qr (f + 1) tag ts = some res := by
  intro f
  induction f with
  | zero => intro tag ts res h; cases h
  | succ f ih =>
    intro tag ts res h
    have id : ∀ {o : Option QRes} (p : QRes), o = some p → o = some p := fun p h => h
    cases tag with
    | part =>
      rw [qr] at h ⊢
      exact bifq_mono id (fun _ => bifq_mono id (fun _ => bifq_mono id (fun _ => bifq_mono id (fun _ => bifq_mono id (fun _ => bifq_mono (fun _ => andA_mono (fun p => ih _ _ p) fun _ _ => id) (fun _ => bifq_mono (fun _ => bifq_mono id (fun _ => andA_mono (fun p => ih _ _ p) fun _ _ => id)) id)))))) h
    | parts e acc =>
      rw [qr] at h ⊢
      exact bifq_mono id (fun _ => andO_mono (fun p => ih _ _ p) fun _ _ p => ih _ _ p) h

theorem qr_mono {f g : Nat} {tag : QTag} {ts : List Tok} {res : QRes} (h : qr f tag ts = some res) (hfg : f ≤ g) : qr g tag ts = some res := by
  induction hfg with
  | refl => exact h
  | step _ ih => exact qr_succ _ _ _ _ ih

theorem qrE_of {f : Nat} {e : ByteArray} {ts : List Tok} {res : QRes} (hg : Gd ts) (h : qr f (.parts e []) ts = some res) : qrE e ts = some res := by
  have key : ∀ res', qrE e ts = some res' → res' = res := by
    intro res' h'
    unfold qrE at h'
    have h1 := qr_mono h (Nat.le_max_left f (2 * ts.length + 2))
    have h2 := qr_mono h' (Nat.le_max_right f (2 * ts.length + 2))
    rw [h1] at h2; cases h2; rfl
  rcases qrE_ends (e := e) hg with ⟨l, ts1, h1, _⟩ | ⟨ts1, h1, _⟩
  · rw [h1, key _ h1]
  · rw [h1, key _ h1]

end Go.Proofs.YtanfoijdfcnpoaaGreatDoor.Ev

set_option linter.unusedVariables false
set_option linter.unusedSimpArgs false
namespace Go.Proofs.YtanfoijdfcnpoaaGreatDoor.Ev

/-- Well-formed parts but for depth and size. -/
inductive Xq
  | name (w : List UInt8)
  | num (n : Nat)
  | sign (s : UInt8) (w : List UInt8)
  | mark (s : UInt8)
  | term (e : Xp)
  | bind (w : List UInt8) (e : Xp)
  | lex (l : List Xq)
  | sim (l : List Xq)

mutual
def Xq.pt : Xq → Pt
  | .name w => ⟨1, tNo, mk w, 0, zR, []⟩
  | .sign s w => ⟨2, mk [s], mk w, 0, zR, []⟩
  | .num n => ⟨3, tNo, tNo, (n : Int), zR, []⟩
  | .term e => ⟨4, tNo, tNo, 0, e.rw, []⟩
  | .lex l => ⟨5, tNo, tNo, 0, zR, ptL l⟩
  | .sim l => ⟨6, tNo, tNo, 0, zR, ptL l⟩
  | .bind w e => ⟨7, tNo, mk w, 0, e.rw, []⟩
  | .mark s => ⟨8, mk [s], tNo, 0, zR, []⟩
def ptL : List Xq → List Pt
  | [] => []
  | x :: r => x.pt :: ptL r
end

/-- A name, and a colon: this would be read as a binder. -/
def badQ : List Xq → Bool
  | .name _ :: .mark s :: _ => s == 58
  | _ => false

mutual
/-- What is named is named well. -/
def Xq.Nm : Xq → Prop
  | .name w => nmOk w = true
  | .sign s w => (s = 43 ∨ s = 45 ∨ s = 42) ∧ nmOk w = true
  | .num n => n ≤ 10000
  | .mark s => s = 58 ∨ s = 124 ∨ s = 61
  | .term e => e.Nm ∧ e.sz ≤ 400
  | .bind w e => nmOk w = true ∧ e.Nm ∧ e.sz ≤ 400
  | .lex l => badQ l = false ∧ nmL l
  | .sim l => nmL l
def nmL : List Xq → Prop
  | [] => True
  | x :: r => x.Nm ∧ nmL r
end

mutual
def Xq.sz : Xq → Nat
  | .lex l | .sim l => 1 + szL l
  | _ => 1
def szL : List Xq → Nat
  | [] => 0
  | x :: r => x.sz + szL r
end

theorem wellX {r : Rw} (h : wellB r = true) : ∃ e : Xp, e.rw = r ∧ e.Nm ∧ e.sz ≤ 400 := by
  simp only [wellB, Bool.and_eq_true, decide_eq_true_eq] at h
  have hf : formB r 1 = true := by first | exact h.1 | exact h.2
  have hs : r.size ≤ 400 := by first | exact h.2 | exact h.1
  obtain ⟨e, h1, h2⟩ := form_ex r 1 hf
  exact ⟨e, h1, h2, by rw [← sz_rw, h1]; exact hs⟩

theorem noRaw_z {r : Rw} (h : noRawB r = true) : r = zR := by
  obtain ⟨o, n, l⟩ := r
  simp only [noRawB, Bool.and_eq_true, beq_iff_eq] at h
  obtain ⟨h1, h2, h3⟩ := h
  rw [h1, strEq_iff.1 h2, List.length_eq_zero_iff.1 h3]

theorem sgn1_of {s : ByteArray} (h : sgn1 s = true) : ∃ c, s = mk [c] ∧ (c = 43 ∨ c = 45 ∨ c = 42) := by
  simp only [sgn1, List.any_cons, List.any_nil, Bool.or_false, Bool.or_eq_true, strEq_iff] at h
  rcases h with h | h | h
  · exact ⟨43, h, .inl rfl⟩
  · exact ⟨45, h, .inr (.inl rfl)⟩
  · exact ⟨42, h, .inr (.inr rfl)⟩
theorem sgn2_of {s : ByteArray} (h : sgn2 s = true) : ∃ c, s = mk [c] ∧ (c = 58 ∨ c = 124 ∨ c = 61) := by
  simp only [sgn2, List.any_cons, List.any_nil, Bool.or_false, Bool.or_eq_true, strEq_iff] at h
  rcases h with h | h | h
  · exact ⟨58, h, .inl rfl⟩
  · exact ⟨124, h, .inr (.inl rfl)⟩
  · exact ⟨61, h, .inr (.inr rfl)⟩

theorem bad_lex : ∀ l : List Xq, nmL l → badQ l = lexBad (ptL l)
  | [], _ => rfl
  | [x], _ => by cases x <;> rfl
  | x :: y :: r, h => by
    cases x <;> try rfl
    cases y <;> try rfl
    rename_i w s
    simp only [badQ, ptL, Xq.pt, lexBad]
    show (s == 58) = (((1 : Int) == 1) && (((8 : Int) == 8) && strEq (mk [s]) (mk [58])))
    rw [strEq_mk]
    simp

theorem part_ex (t : Pt) : ∀ d, partB t d = true → ∃ q : Xq, q.pt = t ∧ q.Nm := by
  induction t using Pt.ind with
  | h o s nm n r l ih =>
    intro d h
    simp only [partB, Bool.and_eq_true] at h
    obtain ⟨_, hn, hl⟩ := h
    have none : (l.length == 0) = true → l = [] := fun h => List.length_eq_zero_iff.1 (eq_of_beq h)
    have lists : ∃ q : List Xq, ptL q = l ∧ nmL q := by
      have key : ∀ (l : List Pt), (∀ x ∈ l, ∀ d, partB x d = true → ∃ q : Xq, q.pt = x ∧ q.Nm) → ∀ d, partBL l d = true → ∃ q : List Xq, ptL q = l ∧ nmL q := by
        intro l
        induction l with
        | nil => intro _ _ _; exact ⟨[], rfl, trivial⟩
        | cons x r ihr =>
          intro h d hd
          simp only [partBL, Bool.and_eq_true] at hd
          obtain ⟨q, h1, h2⟩ := h x (List.mem_cons_self ..) d hd.1
          obtain ⟨qs, h3, h4⟩ := ihr (fun y hy => h y (List.mem_cons_of_mem _ hy)) d hd.2
          exact ⟨q :: qs, by simp only [ptL, h1, h3], h2, h4⟩
      exact key l ih (d + 1) hl
    rcases op_cases8 o with rfl | rfl | rfl | rfl | rfl | rfl | rfl | rfl | ⟨p1, p2, p3, p4, p5, p6, p7, p8⟩
    · simp only [nodeP, Int.reduceBEq, cond_true, Bool.and_eq_true, beq_iff_eq] at hn
      obtain ⟨h1, h2, h3, h4, h5⟩ := hn
      refine ⟨.name nm.data.toList, ?_, h1⟩
      rw [strEq_iff.1 h2, h3, noRaw_z h4, List.length_eq_zero_iff.1 h5]; simp only [Xq.pt]
    · simp only [nodeP, Int.reduceBEq, cond_true, cond_false, Bool.and_eq_true, beq_iff_eq] at hn
      obtain ⟨h1, h2, h3, h4, h5⟩ := hn
      obtain ⟨c, rfl, hc⟩ := sgn1_of h1
      refine ⟨.sign c nm.data.toList, ?_, hc, h2⟩
      rw [h3, noRaw_z h4, List.length_eq_zero_iff.1 h5]; simp only [Xq.pt]
    · simp only [nodeP, Int.reduceBEq, cond_true, cond_false, Bool.and_eq_true, beq_iff_eq, decide_eq_true_eq] at hn
      obtain ⟨h1, h2, h3, h4, h5, h6⟩ := hn
      obtain ⟨u, rfl⟩ := Int.eq_ofNat_of_zero_le h1
      refine ⟨.num u, ?_, ?_⟩
      · rw [strEq_iff.1 h3, strEq_iff.1 h4, noRaw_z h5, List.length_eq_zero_iff.1 h6]; simp only [Xq.pt]
      · simp only [Xq.Nm]; omega
    · simp only [nodeP, Int.reduceBEq, cond_true, cond_false, Bool.and_eq_true, beq_iff_eq] at hn
      obtain ⟨h1, h2, h3, h4, h5⟩ := hn
      obtain ⟨e, he, h6, h7⟩ := wellX h1
      refine ⟨.term e, ?_, h6, h7⟩
      rw [strEq_iff.1 h2, strEq_iff.1 h3, h4, List.length_eq_zero_iff.1 h5, ← he]; simp only [Xq.pt]
    · simp only [nodeP, Int.reduceBEq, cond_true, cond_false, Bool.and_eq_true, beq_iff_eq, Bool.not_eq_true'] at hn
      obtain ⟨h1, h2, h3, h4, h5⟩ := hn
      obtain ⟨q, rfl, hq⟩ := lists
      refine ⟨.lex q, ?_, ?_, hq⟩
      · rw [strEq_iff.1 h2, strEq_iff.1 h3, h4, noRaw_z h5]; simp only [Xq.pt]
      · rw [bad_lex q hq]; exact h1
    · simp only [nodeP, Int.reduceBEq, cond_true, cond_false, Bool.and_eq_true, beq_iff_eq] at hn
      obtain ⟨h2, h3, h4, h5⟩ := hn
      obtain ⟨q, rfl, hq⟩ := lists
      refine ⟨.sim q, ?_, hq⟩
      rw [strEq_iff.1 h2, strEq_iff.1 h3, h4, noRaw_z h5]; simp only [Xq.pt]
    · simp only [nodeP, Int.reduceBEq, cond_true, cond_false, Bool.and_eq_true, beq_iff_eq] at hn
      obtain ⟨h1, h2, h3, h4, h5⟩ := hn
      obtain ⟨e, he, h6, h7⟩ := wellX h1
      refine ⟨.bind nm.data.toList e, ?_, h2, h6, h7⟩
      rw [strEq_iff.1 h3, h4, List.length_eq_zero_iff.1 h5, ← he]; simp only [Xq.pt]
    · simp only [nodeP, Int.reduceBEq, cond_true, cond_false, Bool.and_eq_true, beq_iff_eq] at hn
      obtain ⟨h1, h2, h3, h4, h5⟩ := hn
      obtain ⟨c, rfl, hc⟩ := sgn2_of h1
      refine ⟨.mark c, ?_, hc⟩
      rw [strEq_iff.1 h2, h3, noRaw_z h4, List.length_eq_zero_iff.1 h5]; simp only [Xq.pt]
    · simp only [nodeP, p1, p2, p3, p4, p5, p6, p7, p8, cond_false] at hn
      cases hn

theorem parts_ex : ∀ (l : List Pt) (d : Int), partBL l d = true → ∃ q : List Xq, ptL q = l ∧ nmL q
  | [], _, _ => ⟨[], rfl, trivial⟩
  | x :: r, d, h => by
    simp only [partBL, Bool.and_eq_true] at h
    obtain ⟨q, h1, h2⟩ := part_ex x d h.1
    obtain ⟨qs, h3, h4⟩ := parts_ex r d h.2
    exact ⟨q :: qs, by simp only [ptL, h1, h3], h2, h4⟩

mutual
/-- The text of a part. -/
def Xq.text : Xq → List UInt8
  | .name w => w
  | .sign s w => s :: w
  | .num n => Lib.decDigits n
  | .mark s => [s]
  | .term e => [40] ++ e.text ++ [41]
  | .bind w e => [123] ++ w ++ [58] ++ e.text ++ [125]
  | .lex l => [123] ++ textL l ++ [125]
  | .sim l => [91] ++ textL l ++ [93]
/-- The texts of parts, with a blank between any two. -/
def textL : List Xq → List UInt8
  | [] => []
  | x :: r => x.text ++ moreL r
/-- The texts of parts, with a blank before each. -/
def moreL : List Xq → List UInt8
  | [] => []
  | x :: r => [32] ++ (x.text ++ moreL r)
end

mutual
theorem qtext_len : ∀ q : Xq, q.Nm → q.text.length + 1 ≤ 11000 * q.sz
  | .name w, h => by have := nm_len (w := w) h; simp only [Xq.text, Xq.sz]; omega
  | .sign s w, h => by have := nm_len (w := w) h.2; simp only [Xq.text, Xq.sz, List.length_cons]; omega
  | .num n, h => by
    have := dec_len 4 n (by have : n ≤ 10000 := h; omega)
    simp only [Xq.text, Xq.sz]; omega
  | .mark s, _ => by simp [Xq.text, Xq.sz]
  | .term e, h => by
    have := text_len e h.1
    have := h.2
    simp only [Xq.text, Xq.sz, List.length_append, List.length_cons, List.length_nil]; omega
  | .bind w e, h => by
    have := nm_len (w := w) h.1
    have := text_len e h.2.1
    have := h.2.2
    simp only [Xq.text, Xq.sz, List.length_append, List.length_cons, List.length_nil]; omega
  | .lex l, h => by
    have := qtextL_len l h.2
    simp only [Xq.text, Xq.sz, List.length_append, List.length_cons, List.length_nil]; omega
  | .sim l, h => by
    have := qtextL_len l h
    simp only [Xq.text, Xq.sz, List.length_append, List.length_cons, List.length_nil]; omega
theorem qtextL_len : ∀ l : List Xq, nmL l → (textL l).length ≤ 11000 * szL l
  | [], _ => by simp [textL]
  | x :: r, h => by
    have h1 := qtext_len x h.1
    have h2 := qmoreL_len r h.2
    simp only [textL, szL, List.length_append]; omega
theorem qmoreL_len : ∀ l : List Xq, nmL l → (moreL l).length ≤ 11000 * szL l
  | [], _ => by simp [moreL]
  | x :: r, h => by
    have h1 := qtext_len x h.1
    have h2 := qmoreL_len r h.2
    simp only [moreL, szL, List.length_append, List.length_cons, List.length_nil]; omega
end

mutual
theorem qsz : ∀ q : Xq, q.pt.size = q.sz
  | .name w => rfl
  | .sign s w => rfl
  | .num n => rfl
  | .mark s => rfl
  | .term e => rfl
  | .bind w e => rfl
  | .lex l => by simp only [Xq.pt, Pt.size, Xq.sz, qszL l]
  | .sim l => by simp only [Xq.pt, Pt.size, Xq.sz, qszL l]
theorem qszL : ∀ l : List Xq, sizePL (ptL l) = szL l
  | [] => rfl
  | x :: r => by simp only [ptL, sizePL, szL, qsz x, qszL r]
end

theorem ptL_len : ∀ l : List Xq, (ptL l).length = l.length
  | [] => rfl
  | x :: r => by simp [ptL, ptL_len r]

end Go.Proofs.YtanfoijdfcnpoaaGreatDoor.Ev

set_option linter.unusedVariables false
set_option linter.unusedSimpArgs false
namespace Go.Proofs.YtanfoijdfcnpoaaGreatDoor.Ev

theorem one_K {ρ : Type} (n : Int) (f : ByteArray → Option ρ) : bytesK [n] f = f (mk [UInt8.ofNat n.toNat]) := rfl

theorem digK {ρ : Type} (u : Nat) (f : ByteArray → Option ρ) : bytesK [IntKind.wrap .u8 (IntKind.wrap .i64 ((48 : Int) + Int.tmod (u : Int) (10 : Int)))] f = f (mk [UInt8.ofNat (48 + u % 10)]) := by
  have h1 : Int.tmod (u : Int) 10 = ((u % 10 : Nat) : Int) := by rw [Int.tmod_eq_emod_of_nonneg (by omega)]; omega
  have h2 : IntKind.wrap .i64 ((48 : Int) + ((u % 10 : Nat) : Int)) = ((48 + u % 10 : Nat) : Int) := by rw [W_id (by omega) (by omega)]; omega
  have h3 : IntKind.wrap .u8 ((48 + u % 10 : Nat) : Int) = ((48 + u % 10 : Nat) : Int) % 256 := rfl
  rw [one_K, h1, h2, h3, show (((48 + u % 10 : Nat) : Int) % 256).toNat = 48 + u % 10 by omega]

theorem tdiv10 (u : Nat) (h : u ≤ 10000) : IntKind.wrap .i64 (Int.tdiv (u : Int) (10 : Int)) = ((u / 10 : Nat) : Int) := by
  rw [Int.tdiv_eq_ediv_of_nonneg (by omega), W_id (by omega) (by omega)]; omega

theorem digits_loop (u : Nat) : u ≤ 10000 → Evt fun k => ∀ (w : List UInt8), w.length + u ≤ 20000 → ∀ (ρ : Type) k0, (Tabs k).l86_2_0 ρ (u : Int) (mk w) k0 = k0 (mk ((if u < 10 then [] else Lib.decDigits (u / 10)) ++ w)) := by
  induction u using Nat.strongRecOn with
  | ind u ih =>
    intro hu
    by_cases h : u < 10
    · refine Evt.step0 fun k w hw ρ k0 => ?_
      rw [show (Tabs (k + 1)).l86_2_0 = Gl86_2_0 (Tabs k) from rfl]
      have e : decide ((u : Int) ≥ 10) = false := by simp; omega
      simp only [Gl86_2_0, e, cond_false, h, if_true, List.nil_append]
    · refine (ih (u / 10) (by omega) (by omega)).step fun k h1 w hw ρ k0 => ?_
      rw [show (Tabs (k + 1)).l86_2_0 = Gl86_2_0 (Tabs k) from rfl]
      have e : decide ((u : Int) ≥ 10) = true := by simp; omega
      simp only [Gl86_2_0, e, cond_true, tdiv10 u hu, digK, show (((10 : Int)) == 0) = false from rfl, cond_false]
      rw [cat_ok (by simp; omega), cond_true, mk_append, h1 _ (by simp; omega)]
      congr 2
      simp only [h, if_false]
      by_cases h2 : u / 10 < 10
      · simp only [h2, if_true, List.nil_append]
        rw [Lib.decDigits_one h2, Nat.mod_eq_of_lt h2]
      · simp only [h2, if_false]
        rw [decDigits_big h2]; simp

theorem s_digits (u : Nat) (hu : u ≤ 10000) : Evt fun k => ∀ (ρ : Type) K, (Tabs k).c86_0 ρ (u : Int) K = K (mk (Lib.decDigits u)) := by
  refine (digits_loop u hu).step fun k h1 ρ K => ?_
  rw [show (Tabs (k + 1)).c86_0 = Gc86_0 (Tabs k) from rfl]
  simp only [Gc86_0, show (((10 : Int)) == 0) = false from rfl, cond_false, digK]
  rw [h1 _ (by simp; omega)]
  congr 2
  by_cases h : u < 10
  · simp only [h, if_true, List.nil_append]
    rw [Lib.decDigits_one h, Nat.mod_eq_of_lt h]
  · simp only [h, if_false]
    rw [decDigits_big h]

theorem ptL_app : ∀ a b : List Xq, ptL (a ++ b) = ptL a ++ ptL b
  | [], _ => rfl
  | x :: r, b => by simp only [List.cons_append, ptL, ptL_app r b]
theorem rdPtL (pre : List Xq) (x : Xq) (r : List Xq) : rdEl lay Key.part (ptL (pre ++ x :: r)) (pre.length : Int) = x.pt := by
  rw [ptL_app, ← ptL_len pre]
  exact rdPt (ptL pre) x.pt (ptL r)

/-- The texts of what is behind some others. -/
def restL (pre r : List Xq) : List UInt8 := match pre with | [] => textL r | _ :: _ => moreL r

theorem b40 : ByteArray.mk #[40] = mk [40] := rfl
theorem b41 : ByteArray.mk #[41] = mk [41] := rfl
theorem b91 : ByteArray.mk #[91] = mk [91] := rfl
theorem b93 : ByteArray.mk #[93] = mk [93] := rfl
theorem b123 : ByteArray.mk #[123] = mk [123] := rfl
theorem b125 : ByteArray.mk #[125] = mk [125] := rfl
theorem b58 : ByteArray.mk #[58] = mk [58] := rfl
theorem b32 : ByteArray.mk #[32] = mk [32] := rfl
theorem b46 : ByteArray.mk #[46] = mk [46] := rfl
theorem b37 : ByteArray.mk #[37] = mk [37] := rfl
theorem b0 : ByteArray.mk #[] = mk [] := rfl

theorem sz_pos (q : Xq) : 1 ≤ q.sz := by cases q <;> simp [Xq.sz] <;> omega

theorem rparts_of {l : List Xq} (h : Evt fun k => ∀ (ρ : Type) k0, (Tabs k).l101_3_0 ρ (mk []) (ptL ([] ++ l)) (([] ++ l).length : Int) (([] : List Xq).length : Int) k0 = k0 (mk ([] ++ restL [] l))) :
    Evt fun k => ∀ (ρ : Type) K, (Tabs k).c101_0 ρ (ptL l) K = K (mk (textL l)) := h.step fun k h1 ρ K => by
  rw [show (Tabs (k + 1)).c101_0 = Gc101_0 (Tabs k) from rfl]
  have h1 := h1 ρ
  simp only [List.length_nil, Int.natCast_zero, List.nil_append, restL] at h1
  simp only [Gc101_0, ptL_len, b0, h1]

mutual
theorem s_rpart : ∀ q : Xq, q.Nm → q.sz ≤ 400 → Evt fun k => ∀ (ρ : Type) K, (Tabs k).c64_0 ρ q.pt K = K (mk q.text)
  | .name w, hn, hs => by
    refine Evt.step0 fun k ρ K => ?_
    rw [show (Tabs (k + 1)).c64_0 = Gc64_0 (Tabs k) from rfl]
    show Gc64_0 (Tabs k) ρ (⟨1, tNo, mk w, 0, zR, []⟩ : Pt) K = _
    unfold Gc64_0
    dsimp only
    simp only [Int.reduceBEq, cond_true, cond_false, Xq.text]
  | .sign s w, hn, hs => by
    have lw := nm_len (w := w) hn.2
    refine Evt.step0 fun k ρ K => ?_
    rw [show (Tabs (k + 1)).c64_0 = Gc64_0 (Tabs k) from rfl]
    show Gc64_0 (Tabs k) ρ (⟨2, mk [s], mk w, 0, zR, []⟩ : Pt) K = _
    unfold Gc64_0
    dsimp only
    simp only [Int.reduceBEq, cond_true, cond_false]
    rw [cat_ok (by simp; omega), cond_true, mk_append]
    rfl
  | .mark s, hn, hs => by
    refine Evt.step0 fun k ρ K => ?_
    rw [show (Tabs (k + 1)).c64_0 = Gc64_0 (Tabs k) from rfl]
    show Gc64_0 (Tabs k) ρ (⟨8, mk [s], mk [], 0, zR, []⟩ : Pt) K = _
    unfold Gc64_0
    dsimp only
    simp only [Int.reduceBEq, cond_true, cond_false]
    rw [cat_ok (by simp), cond_true, mk_append]
    rfl
  | .num n, hn, hs => by
    refine (s_digits n hn).step fun k h1 ρ K => ?_
    rw [show (Tabs (k + 1)).c64_0 = Gc64_0 (Tabs k) from rfl]
    show Gc64_0 (Tabs k) ρ (⟨3, tNo, tNo, (n : Int), zR, []⟩ : Pt) K = _
    unfold Gc64_0
    dsimp only
    simp only [Int.reduceBEq, cond_true, cond_false, h1, Xq.text]
  | .term e, hn, hs => by
    have le := text_len e hn.1
    have ls := hn.2
    refine (s_rtext e hn.1 hn.2).step fun k h1 ρ K => ?_
    rw [show (Tabs (k + 1)).c64_0 = Gc64_0 (Tabs k) from rfl]
    show Gc64_0 (Tabs k) ρ (⟨4, tNo, tNo, 0, e.rw, []⟩ : Pt) K = _
    unfold Gc64_0
    dsimp only
    simp only [Int.reduceBEq, cond_true, cond_false, Rw.eta, h1, b40, b41]
    rw [cat_ok (by simp; omega), cond_true, mk_append, cat_ok (by simp; omega), cond_true, mk_append]
    rfl
  | .bind w e, hn, hs => by
    have lw := nm_len (w := w) hn.1
    have le := text_len e hn.2.1
    have ls := hn.2.2
    refine (s_rtext e hn.2.1 hn.2.2).step fun k h1 ρ K => ?_
    rw [show (Tabs (k + 1)).c64_0 = Gc64_0 (Tabs k) from rfl]
    show Gc64_0 (Tabs k) ρ (⟨7, tNo, mk w, 0, e.rw, []⟩ : Pt) K = _
    unfold Gc64_0
    dsimp only
    simp only [Int.reduceBEq, cond_true, cond_false, Rw.eta, h1, b123, b125, b58]
    rw [cat_ok (by simp; omega), cond_true, mk_append, cat_ok (by simp; omega), cond_true, mk_append, cat_ok (by simp; omega), cond_true, mk_append, cat_ok (by simp; omega), cond_true, mk_append]
    rfl
  | .lex l, hn, hs => by
    have hs : szL l ≤ 399 := by simp only [Xq.sz] at hs; omega
    have hl := qtextL_len l hn.2
    refine (rparts_of (rparts_loop l [] [] hn.2 (by simp only [List.length_nil]; omega) (by simp only [List.length_nil]; omega))).step fun k h1 ρ K => ?_
    rw [show (Tabs (k + 1)).c64_0 = Gc64_0 (Tabs k) from rfl]
    show Gc64_0 (Tabs k) ρ (⟨5, tNo, tNo, 0, zR, ptL l⟩ : Pt) K = _
    unfold Gc64_0
    dsimp only
    simp only [Int.reduceBEq, cond_true, cond_false, h1, b123, b125]
    rw [cat_ok (by simp; omega), cond_true, mk_append, cat_ok (by simp; omega), cond_true, mk_append]
    rfl
  | .sim l, hn, hs => by
    have hs : szL l ≤ 399 := by simp only [Xq.sz] at hs; omega
    have hl := qtextL_len l hn
    refine (rparts_of (rparts_loop l [] [] hn (by simp only [List.length_nil]; omega) (by simp only [List.length_nil]; omega))).step fun k h1 ρ K => ?_
    rw [show (Tabs (k + 1)).c64_0 = Gc64_0 (Tabs k) from rfl]
    show Gc64_0 (Tabs k) ρ (⟨6, tNo, tNo, 0, zR, ptL l⟩ : Pt) K = _
    unfold Gc64_0
    dsimp only
    simp only [Int.reduceBEq, cond_true, cond_false, h1, b91, b93]
    rw [cat_ok (by simp; omega), cond_true, mk_append, cat_ok (by simp; omega), cond_true, mk_append]
    rfl
theorem rparts_loop : ∀ (r pre : List Xq) (w : List UInt8), nmL r → pre.length + szL r ≤ 400 → w.length + 11000 * szL r ≤ 10000000 →
    Evt fun k => ∀ (ρ : Type) k0, (Tabs k).l101_3_0 ρ (mk w) (ptL (pre ++ r)) ((pre ++ r).length : Int) (pre.length : Int) k0 = k0 (mk (w ++ restL pre r))
  | [], pre, w, _, _, _ => by
    refine Evt.step0 fun k ρ k0 => ?_
    rw [show (Tabs (k + 1)).l101_3_0 = Gl101_3_0 (Tabs k) from rfl]
    have e : decide ((pre.length : Int) < (pre.length : Int)) = false := by simp
    have e2 : restL pre [] = [] := by cases pre <;> rfl
    simp only [List.append_nil, Gl101_3_0, e, cond_false, e2]
  | x :: r, pre, w, hn, hs, hw => by
    simp only [szL] at hs hw
    have hx := qtext_len x hn.1
    have hp := sz_pos x
    have h2 := rparts_loop r (pre ++ [x]) (w ++ ((match pre with | [] => [] | _ :: _ => [32]) ++ x.text)) hn.2 (by simp; omega) (by cases pre <;> simp <;> omega)
    refine ((s_rpart x hn.1 (by omega)).and h2).step fun k ⟨h1, h2⟩ ρ k0 => ?_
    rw [show (Tabs (k + 1)).l101_3_0 = Gl101_3_0 (Tabs k) from rfl]
    have e1 : decide ((pre.length : Int) < ((pre ++ x :: r).length : Int)) = true := by simp; omega
    have e2 : decide ((0 : Int) ≤ (pre.length : Int)) = true := by simp
    have e3 : decide ((pre.length : Int) < ((ptL (pre ++ x :: r)).length : Int)) = true := by rw [ptL_len]; exact e1
    have e4 : IntKind.wrap .i64 ((pre.length : Int) + 1) = ((pre ++ [x]).length : Int) := by rw [W_id (by omega) (by omega)]; simp
    have e5 : pre ++ [x] ++ r = pre ++ x :: r := by simp
    rw [e5] at h2
    simp only [Gl101_3_0, e1, e2, e3, Bool.and_self, cond_true, rdPtL, rdE_parts, h1, e4, b32]
    cases pre with
    | nil =>
      simp only [List.length_nil, Int.natCast_zero, show decide ((0 : Int) > 0) = false from rfl, cond_false]
      rw [cat_ok (by omega), cond_true, mk_append]
      refine (h2 ρ k0).trans ?_
      simp [restL, textL]
    | cons y pre =>
      have e6 : decide ((((y :: pre).length : Nat) : Int) > 0) = true := by simp
      simp only [e6, cond_true]
      rw [cat_ok (by simp; omega), cond_true, mk_append, cat_ok (by simp; omega), cond_true, mk_append]
      have h2 := h2 ρ k0
      simp only [List.append_assoc, restL, moreL, List.cons_append, List.nil_append] at h2 ⊢
      exact h2
end

theorem ritem_loop : ∀ (r pre : List Xq) (w : List UInt8), nmL r → pre.length + szL r ≤ 400 → w.length + 11000 * szL r ≤ 10000000 →
    Evt fun k => ∀ (ρ : Type) k0, (Tabs k).l27_5_0 ρ (mk w) (ptL (pre ++ r)) ((pre ++ r).length : Int) (pre.length : Int) k0 = k0 (mk (w ++ moreL r))
  | [], pre, w, _, _, _ => by
    refine Evt.step0 fun k ρ k0 => ?_
    rw [show (Tabs (k + 1)).l27_5_0 = Gl27_5_0 (Tabs k) from rfl]
    have e : decide ((pre.length : Int) < (pre.length : Int)) = false := by simp
    simp only [List.append_nil, Gl27_5_0, e, cond_false, moreL]
  | x :: r, pre, w, hn, hs, hw => by
    simp only [szL] at hs hw
    have hx := qtext_len x hn.1
    have hp := sz_pos x
    have h2 := ritem_loop r (pre ++ [x]) (w ++ ([32] ++ x.text)) hn.2 (by simp; omega) (by simp; omega)
    refine ((s_rpart x hn.1 (by omega)).and h2).step fun k ⟨h1, h2⟩ ρ k0 => ?_
    rw [show (Tabs (k + 1)).l27_5_0 = Gl27_5_0 (Tabs k) from rfl]
    have e1 : decide ((pre.length : Int) < ((pre ++ x :: r).length : Int)) = true := by simp; omega
    have e2 : decide ((0 : Int) ≤ (pre.length : Int)) = true := by simp
    have e3 : decide ((pre.length : Int) < ((ptL (pre ++ x :: r)).length : Int)) = true := by rw [ptL_len]; exact e1
    have e4 : IntKind.wrap .i64 ((pre.length : Int) + 1) = ((pre ++ [x]).length : Int) := by rw [W_id (by omega) (by omega)]; simp
    have e5 : pre ++ [x] ++ r = pre ++ x :: r := by simp
    rw [e5] at h2
    simp only [Gl27_5_0, e1, e2, e3, Bool.and_self, cond_true, rdPtL, rdE_parts, h1, e4, b32]
    rw [cat_ok (by simp; omega), cond_true, mk_append, cat_ok (by simp; omega), cond_true, mk_append]
    have h2 := h2 ρ k0
    simp only [List.append_assoc, moreL, List.cons_append, List.nil_append] at h2 ⊢
    exact h2

/-- Well-formed items. -/
inductive Xi
  | decl (n : List UInt8) (e : Xp)
  | cmd (w : List UInt8) (l : List Xq)

def Xi.it : Xi → It
  | .decl n e => ⟨tNo, mk n, e.rw, []⟩
  | .cmd w l => ⟨mk w, tNo, zR, ptL l⟩
def Xi.text : Xi → List UInt8
  | .decl n e => n ++ [32, 58, 32] ++ e.text ++ [46]
  | .cmd w l => [37] ++ w ++ moreL l ++ [46]
def Xi.Nm : Xi → Prop
  | .decl n e => nameL smallB n = true ∧ (n == tyB) = false ∧ e.Nm ∧ e.sz ≤ 400
  | .cmd w l => nameL smallB w = true ∧ nmL l ∧ szL l ≤ 400

theorem small_cons {f : Int → Bool} {w : List UInt8} (h : nameL f w = true) : ∃ c r, w = c :: r := by
  cases w with
  | nil => cases h
  | cons c r => exact ⟨c, r, rfl⟩
theorem small_len {w : List UInt8} (h : nameL smallB w = true) : w.length ≤ 16 := by
  obtain ⟨c, r, rfl⟩ := small_cons h; exact name_le h

theorem item_ex {x : It} (h : wellI x = true) : ∃ q : Xi, q.it = x ∧ q.Nm := by
  obtain ⟨w, n, r, l⟩ := x
  unfold wellI at h
  dsimp only at h
  cases hw : strEq w tNo with
  | true =>
    rw [hw, cond_true] at h
    simp only [Bool.and_eq_true, Bool.not_eq_true', beq_iff_eq] at h
    obtain ⟨h1, h2, h3, h4⟩ := h
    obtain ⟨e, he, h5, h6⟩ := wellX h3
    refine ⟨.decl n.data.toList e, ?_, h1, ?_, h5, h6⟩
    · simp only [Xi.it, he]; rw [strEq_iff.1 hw, List.length_eq_zero_iff.1 h4]
    · rw [← h2]; conv => rhs; rw [mk_of n]
      exact (strEq_mk n.data.toList tyB).symm
  | false =>
    rw [hw, cond_false] at h
    simp only [Bool.and_eq_true, decide_eq_true_eq] at h
    obtain ⟨h1, h2, h3, h4, h5⟩ := h
    obtain ⟨q, rfl, h6⟩ := parts_ex l 1 h5
    refine ⟨.cmd w.data.toList q, ?_, h1, h6, by rw [← qszL]; exact h4⟩
    simp only [Xi.it]; rw [strEq_iff.1 h2, noRaw_z h3]

theorem s_rTextItem (q : Xi) (h : q.Nm) : Evt fun k => ∀ (ρ : Type) K, (Tabs k).c27_0 ρ q.it K = K (mk q.text) := by
  cases q with
  | decl n e =>
    have h1 := small_len h.1
    have h2 := text_len e h.2.2.1
    have h3 := h.2.2.2
    refine (s_rtext e h.2.2.1 h.2.2.2).step fun k ht ρ K => ?_
    rw [show (Tabs (k + 1)).c27_0 = Gc27_0 (Tabs k) from rfl]
    show Gc27_0 (Tabs k) ρ (⟨tNo, mk n, e.rw, []⟩ : It) K = _
    unfold Gc27_0
    dsimp only
    simp only [strEq_refl, cond_true, Rw.eta, ht, b46, show ByteArray.mk #[32, 58, 32] = mk [32, 58, 32] from rfl]
    rw [cat_ok (by simp; omega), cond_true, mk_append, cat_ok (by simp; omega), cond_true, mk_append, cat_ok (by simp; omega), cond_true, mk_append]
    rfl
  | cmd w l =>
    have h1 := small_len h.1
    have h2 := qmoreL_len l h.2.1
    have h3 := h.2.2
    obtain ⟨c, r, rfl⟩ := small_cons h.1
    simp only [List.length_cons] at h1
    refine (ritem_loop l [] ([37] ++ (c :: r)) h.2.1 (by simpa using h3) (by simp; omega)).step fun k ht ρ K => ?_
    rw [show (Tabs (k + 1)).c27_0 = Gc27_0 (Tabs k) from rfl]
    show Gc27_0 (Tabs k) ρ (⟨mk (c :: r), tNo, zR, ptL l⟩ : It) K = _
    unfold Gc27_0
    dsimp only
    have ht := ht ρ
    simp only [List.length_nil, Int.natCast_zero, List.nil_append] at ht
    simp only [show strEq (mk (c :: r)) (ByteArray.mk #[]) = false from strEq_mk (c :: r) [], cond_false, b37, b46]
    rw [cat_ok (by simp; omega), cond_true, mk_append, ptL_len, ht, cat_ok (by simp; omega), cond_true, mk_append]
    rfl

end Go.Proofs.YtanfoijdfcnpoaaGreatDoor.Ev

set_option linter.unusedVariables false
set_option linter.unusedSimpArgs false
namespace Go.Proofs.YtanfoijdfcnpoaaGreatDoor.Ev

/-- The texts of parts, one by one. -/
def strL (l : List Xq) : List ByteArray := l.map fun x => mk x.text

theorem join_more : ∀ l : List Xq, Lib.joinTail [32] (l.map Xq.text) = moreL l
  | [] => rfl
  | x :: r => by
    have := join_more r
    simp only [Lib.joinTail, List.map_cons, List.flatten_cons] at this ⊢
    rw [this]; simp [moreL]
theorem join_text (l : List Xq) : Lib.join (l.map Xq.text) [32] = textL l := by
  cases l with
  | nil => rfl
  | cons x r => rw [List.map_cons, Lib.join_cons, join_more]; rfl

theorem strL_len (l : List Xq) : (strL l).length = l.length := by simp [strL]
theorem strL_map (l : List Xq) : (strL l).map (·.data.toList) = l.map Xq.text := by simp [strL, Function.comp_def]

theorem s_join (l : List Xq) (h1 : l.length ≤ 1000) (h2 : (textL l).length ≤ 10000000) : Evt fun k => ∀ (ρ : Type) K, (Tabs k).c96_0 ρ (strL l) (mk [32]) K = K (mk (textL l)) := Evt.step0 fun k ρ K => by
  rw [show (Tabs (k + 1)).c96_0 = Gc96_0 (Tabs k) from rfl]
  unfold Gc96_0 toldJoin
  have e1 : decide ((strL l).length ≤ 140737488355328) = true := by rw [strL_len]; simp; omega
  have e2 : Lib.join ((strL l).map (·.data.toList)) (mk [32]).data.toList = textL l := by rw [strL_map]; exact join_text l
  rw [e2, e1]
  have e3 : decide ((textL l).length ≤ 140737488355328) = true := by simp <;> omega
  rw [e3, Bool.and_self, cond_true]

theorem s_itoa (u : Nat) (h : u ≤ 10000) : Evt fun k => ∀ (ρ : Type) K, (Tabs k).c95_0 ρ (u : Int) K = K (mk (Lib.decDigits u)) := Evt.step0 fun k ρ K => by
  rw [show (Tabs (k + 1)).c95_0 = Gc95_0 (Tabs k) from rfl]
  unfold Gc95_0 toldItoa
  have e1 : decide ((-9223372036854775808 : Int) ≤ (u : Int)) = true := by simp <;> omega
  have e2 : decide ((u : Int) ≤ 9223372036854775807) = true := by simp <;> omega
  rw [e1, e2, Bool.and_self, cond_true]
  have e3 : Lib.itoa (u : Int) = Lib.decDigits u := by
    unfold Lib.itoa
    rw [if_neg (by omega), Int.toNat_natCast]
  rw [e3]

theorem s_texts_of {l : List Xq} (hl : l.length ≤ 1000) (hs : (textL l).length ≤ 10000000) (h : Evt fun k => ∀ (ρ : Type) k0, (Tabs k).l58_3_0 ρ (strL []) (ptL ([] ++ l)) (([] ++ l).length : Int) (([] : List Xq).length : Int) k0 = k0 (strL ([] ++ l))) :
    Evt fun k => ∀ (ρ : Type) K, (Tabs k).c58_0 ρ (ptL l) K = K (mk (textL l)) := (h.and (s_join l hl hs)).step fun k ⟨h1, h2⟩ ρ K => by
  rw [show (Tabs (k + 1)).c58_0 = Gc58_0 (Tabs k) from rfl]
  have h1 := h1 ρ
  simp only [List.length_nil, Int.natCast_zero, List.nil_append] at h1
  simp only [show strL [] = [] from rfl] at h1
  simp only [Gc58_0, ptL_len, h1, b32, h2]

theorem len_sz : ∀ l : List Xq, l.length ≤ szL l
  | [] => Nat.le_refl _
  | x :: r => by have := len_sz r; have := sz_pos x; simp only [List.length_cons, szL]; omega

/-- One more text. -/
def OneT (x : Xq) : Prop := Evt fun k => ∀ (pre r : List Xq), (pre ++ x :: r).length ≤ 1000 → ∀ (ρ : Type) k0,
  Gl58_3_0 (Tabs k) ρ (strL pre) (ptL (pre ++ x :: r)) ((pre ++ x :: r).length : Int) (pre.length : Int) k0 = (Tabs k).l58_3_0 ρ (strL (pre ++ [x])) (ptL (pre ++ x :: r)) ((pre ++ x :: r).length : Int) ((pre ++ [x]).length : Int) k0

theorem strL_one (pre : List Xq) (x : Xq) {s : ByteArray} (h : s = mk x.text) : strL pre ++ [s] = strL (pre ++ [x]) := by subst h; simp [strL]

theorem one_facts {pre r : List Xq} {x : Xq} (h : (pre ++ x :: r).length ≤ 1000) : decide ((pre.length : Int) < ((pre ++ x :: r).length : Int)) = true ∧ decide ((0 : Int) ≤ (pre.length : Int)) = true ∧ decide ((pre.length : Int) < ((ptL (pre ++ x :: r)).length : Int)) = true ∧
    IntKind.wrap .i64 ((pre.length : Int) + 1) = ((pre ++ [x]).length : Int) ∧ ∀ s : ByteArray, decide (((strL pre).length + [s].length) * 16 ≤ 140737488355328) = true := by
  have hp : pre.length ≤ 1000 := by simp at h; omega
  have e1 : decide ((pre.length : Int) < ((pre ++ x :: r).length : Int)) = true := by simp <;> omega
  refine ⟨e1, by simp, by rw [ptL_len]; exact e1, by rw [W_id (by omega) (by omega)]; simp, fun s => ?_⟩
  rw [strL_len]; simp; omega

theorem text0 (e : Xp) (hn : e.Nm) (hs : e.sz ≤ 400) : Evt fun k => ∀ (ρ : Type) K, (Tabs k).c57_0 ρ e.rw [] K = K (mk e.text) :=
  (s_text e hn hs).mono fun k h ρ K => h [] (by simp [insL]) ρ K

theorem one_name (w : List UInt8) (hn : nmOk w = true) : OneT (.name w) := by
  have lw := nm_len hn
  refine Evt.pure fun k pre r hl ρ k0 => ?_
  obtain ⟨e1, e2, e3, e4, e5⟩ := one_facts hl
  unfold Gl58_3_0
  simp only [e1, e2, e3, Bool.and_self, cond_true, rdPtL]
  rw [show (.name w : Xq).pt = ⟨1, tNo, mk w, 0, zR, []⟩ from by simp only [Xq.pt]]
  dsimp only
  simp only [Int.reduceBEq, cond_true, cond_false, b0]
  rw [cat_ok (by simp <;> omega), cond_true, mk_append, e5, cond_true, e4]
  rw [strL_one pre (.name w) (by simp only [Xq.text, List.nil_append])]

theorem one_sign (s : UInt8) (w : List UInt8) (hn : nmOk w = true) : OneT (.sign s w) := by
  have lw := nm_len hn
  refine Evt.pure fun k pre r hl ρ k0 => ?_
  obtain ⟨e1, e2, e3, e4, e5⟩ := one_facts hl
  unfold Gl58_3_0
  simp only [e1, e2, e3, Bool.and_self, cond_true, rdPtL]
  rw [show (.sign s w : Xq).pt = ⟨2, mk [s], mk w, 0, zR, []⟩ from by simp only [Xq.pt]]
  dsimp only
  simp only [Int.reduceBEq, cond_true, cond_false]
  rw [cat_ok (by simp <;> omega), cond_true, mk_append, e5, cond_true, e4]
  rw [strL_one pre (.sign s w) (by simp only [Xq.text, List.cons_append, List.nil_append])]

theorem one_mark (s : UInt8) : OneT (.mark s) := by
  refine Evt.pure fun k pre r hl ρ k0 => ?_
  obtain ⟨e1, e2, e3, e4, e5⟩ := one_facts hl
  unfold Gl58_3_0
  simp only [e1, e2, e3, Bool.and_self, cond_true, rdPtL]
  rw [show (.mark s : Xq).pt = ⟨8, mk [s], tNo, 0, zR, []⟩ from by simp only [Xq.pt]]
  dsimp only
  simp only [Int.reduceBEq, cond_true, cond_false, b0]
  rw [cat_ok (by simp <;> omega), cond_true, mk_append, e5, cond_true, e4]
  rw [strL_one pre (.mark s) (by simp only [Xq.text, List.append_nil])]

theorem one_num (n : Nat) (hn : n ≤ 10000) : OneT (.num n) := by
  refine (s_itoa n hn).mono fun k h1 pre r hl ρ k0 => ?_
  obtain ⟨e1, e2, e3, e4, e5⟩ := one_facts hl
  unfold Gl58_3_0
  simp only [e1, e2, e3, Bool.and_self, cond_true, rdPtL]
  rw [show (.num n : Xq).pt = ⟨3, tNo, tNo, (n : Int), zR, []⟩ from by simp only [Xq.pt]]
  dsimp only
  simp only [Int.reduceBEq, cond_true, cond_false, b0, h1]
  rw [cat_ok (by simp <;> omega), cond_true, e5, cond_true, e4]
  rw [strL_one pre (.num n) (by simp only [Xq.text])]

theorem one_term (e : Xp) (hn : e.Nm) (hs : e.sz ≤ 400) : OneT (.term e) := by
  have le := text_len e hn
  refine (text0 e hn hs).mono fun k h1 pre r hl ρ k0 => ?_
  obtain ⟨e1, e2, e3, e4, e5⟩ := one_facts hl
  unfold Gl58_3_0
  simp only [e1, e2, e3, Bool.and_self, cond_true, rdPtL]
  rw [show (.term e : Xq).pt = ⟨4, tNo, tNo, 0, e.rw, []⟩ from by simp only [Xq.pt]]
  dsimp only
  simp only [Int.reduceBEq, cond_true, cond_false, b0, Rw.eta, h1, b40, b41]
  rw [cat_ok (by simp <;> omega), cond_true, cat_ok (by simp <;> omega), cond_true, mk_append, cat_ok (by simp <;> omega), cond_true, mk_append, e5, cond_true, e4]
  rw [strL_one pre (.term e) (by simp only [Xq.text])]

theorem one_bind (w : List UInt8) (e : Xp) (hw : nmOk w = true) (hn : e.Nm) (hs : e.sz ≤ 400) : OneT (.bind w e) := by
  have le := text_len e hn
  have lw := nm_len hw
  refine (text0 e hn hs).mono fun k h1 pre r hl ρ k0 => ?_
  obtain ⟨e1, e2, e3, e4, e5⟩ := one_facts hl
  unfold Gl58_3_0
  simp only [e1, e2, e3, Bool.and_self, cond_true, rdPtL]
  rw [show (.bind w e : Xq).pt = ⟨7, tNo, mk w, 0, e.rw, []⟩ from by simp only [Xq.pt]]
  dsimp only
  simp only [Int.reduceBEq, cond_true, cond_false, b0, Rw.eta, h1, b123, b125, b58]
  rw [cat_ok (by simp <;> omega), cond_true, cat_ok (by simp <;> omega), cond_true, mk_append, cat_ok (by simp <;> omega), cond_true, mk_append, cat_ok (by simp <;> omega), cond_true, mk_append, cat_ok (by simp <;> omega), cond_true, mk_append, e5, cond_true, e4]
  rw [strL_one pre (.bind w e) (by simp only [Xq.text])]

theorem one_lex (l : List Xq) (hs : (textL l).length ≤ 10000000) (h : Evt fun k => ∀ (ρ : Type) K, (Tabs k).c58_0 ρ (ptL l) K = K (mk (textL l))) : OneT (.lex l) := by
  refine h.mono fun k h1 pre r hl ρ k0 => ?_
  obtain ⟨e1, e2, e3, e4, e5⟩ := one_facts hl
  unfold Gl58_3_0
  simp only [e1, e2, e3, Bool.and_self, cond_true, rdPtL]
  rw [show (.lex l : Xq).pt = ⟨5, tNo, tNo, 0, zR, ptL l⟩ from by simp only [Xq.pt]]
  dsimp only
  simp only [Int.reduceBEq, cond_true, cond_false, b0, h1, b123, b125]
  rw [cat_ok (by simp <;> omega), cond_true, cat_ok (by simp <;> omega), cond_true, mk_append, cat_ok (by simp <;> omega), cond_true, mk_append, e5, cond_true, e4]
  rw [strL_one pre (.lex l) (by simp only [Xq.text])]

theorem one_sim (l : List Xq) (hs : (textL l).length ≤ 10000000) (h : Evt fun k => ∀ (ρ : Type) K, (Tabs k).c58_0 ρ (ptL l) K = K (mk (textL l))) : OneT (.sim l) := by
  refine h.mono fun k h1 pre r hl ρ k0 => ?_
  obtain ⟨e1, e2, e3, e4, e5⟩ := one_facts hl
  unfold Gl58_3_0
  simp only [e1, e2, e3, Bool.and_self, cond_true, rdPtL]
  rw [show (.sim l : Xq).pt = ⟨6, tNo, tNo, 0, zR, ptL l⟩ from by simp only [Xq.pt]]
  dsimp only
  simp only [Int.reduceBEq, cond_true, cond_false, b0, h1, b91, b93]
  rw [cat_ok (by simp <;> omega), cond_true, cat_ok (by simp <;> omega), cond_true, mk_append, cat_ok (by simp <;> omega), cond_true, mk_append, e5, cond_true, e4]
  rw [strL_one pre (.sim l) (by simp only [Xq.text])]

mutual
theorem s_one : ∀ q : Xq, q.Nm → q.sz ≤ 400 → OneT q
  | .name w, hn, _ => one_name w hn
  | .sign s w, hn, _ => one_sign s w hn.2
  | .mark s, _, _ => one_mark s
  | .num n, hn, _ => one_num n hn
  | .term e, hn, _ => one_term e hn.1 hn.2
  | .bind w e, hn, _ => one_bind w e hn.1 hn.2.1 hn.2.2
  | .lex l, hn, hs => by
    have hs : szL l ≤ 399 := by simp only [Xq.sz] at hs; omega
    have h1 := qtextL_len l hn.2
    have h2 := len_sz l
    exact one_lex l (by omega) (s_texts_of (by omega) (by omega) (texts_loop l [] hn.2 (by simp only [List.length_nil]; omega)))
  | .sim l, hn, hs => by
    have hs : szL l ≤ 399 := by simp only [Xq.sz] at hs; omega
    have h1 := qtextL_len l hn
    have h2 := len_sz l
    exact one_sim l (by omega) (s_texts_of (by omega) (by omega) (texts_loop l [] hn (by simp only [List.length_nil]; omega)))
theorem texts_loop : ∀ (r pre : List Xq), nmL r → pre.length + szL r ≤ 400 →
    Evt fun k => ∀ (ρ : Type) k0, (Tabs k).l58_3_0 ρ (strL pre) (ptL (pre ++ r)) ((pre ++ r).length : Int) (pre.length : Int) k0 = k0 (strL (pre ++ r))
  | [], pre, _, _ => by
    refine Evt.step0 fun k ρ k0 => ?_
    rw [show (Tabs (k + 1)).l58_3_0 = Gl58_3_0 (Tabs k) from rfl]
    have e : decide ((pre.length : Int) < (pre.length : Int)) = false := by simp
    simp only [List.append_nil, Gl58_3_0, e, cond_false]
  | x :: r, pre, hn, hs => by
    simp only [szL] at hs
    have hp := sz_pos x
    have hl := len_sz r
    have h2 := texts_loop r (pre ++ [x]) hn.2 (by simp <;> omega)
    refine ((s_one x hn.1 (by omega)).and h2).step fun k ⟨h1, h2⟩ ρ k0 => ?_
    rw [show (Tabs (k + 1)).l58_3_0 = Gl58_3_0 (Tabs k) from rfl]
    have e5 : pre ++ [x] ++ r = pre ++ x :: r := by simp
    rw [e5] at h2
    rw [h1 pre r (by simp <;> omega), h2]
end

theorem s_texts (l : List Xq) (hn : nmL l) (hs : szL l ≤ 400) : Evt fun k => ∀ (ρ : Type) K, (Tabs k).c58_0 ρ (ptL l) K = K (mk (textL l)) := by
  have h1 := qtextL_len l hn
  have h2 := len_sz l
  exact s_texts_of (by omega) (by omega) (texts_loop l [] hn (by simpa using hs))

/-- What TextItem returns. -/
theorem s_TextItem (q : Xi) (h : q.Nm) (hok : q.it.Ok) (hw : wellI q.it = true) : Evt fun k => ∀ (ρ : Type) K, (Tabs k).c25_0 ρ q.it K = K (mk q.text) 0 := by
  have hc := s_checkI q.it hok
  cases q with
  | decl n e =>
    have h1 := small_len h.1
    have h2 := text_len e h.2.2.1
    have h3 := h.2.2.2
    refine (hc.and (text0 e h.2.2.1 h.2.2.2)).step fun k ⟨hc, ht⟩ ρ K => ?_
    rw [show (Tabs (k + 1)).c25_0 = Gc25_0 (Tabs k) from rfl]
    unfold Gc25_0
    rw [It.eta, hc, hw, cond_true, show (((0 : Int)) != 0) = false from rfl, cond_false]
    show cond (strEq tNo (ByteArray.mk #[])) _ _ = _
    rw [show (Xi.decl n e).it = ⟨tNo, mk n, e.rw, []⟩ from rfl]
    dsimp only
    simp only [strEq_refl, cond_true, Rw.eta, ht, b46, show ByteArray.mk #[32, 58, 32] = mk [32, 58, 32] from rfl]
    rw [cat_ok (by simp <;> omega), cond_true, cat_ok (by simp <;> omega), cond_true, mk_append, mk_append, cat_ok (by simp <;> omega), cond_true, mk_append]
    rfl
  | cmd w l =>
    have h1 := small_len h.1
    have h2 := qtextL_len l h.2.1
    have h3 := h.2.2
    obtain ⟨c, r, rfl⟩ := small_cons h.1
    simp only [List.length_cons] at h1
    refine (hc.and (s_texts l h.2.1 h.2.2)).step fun k ⟨hc, ht⟩ ρ K => ?_
    rw [show (Tabs (k + 1)).c25_0 = Gc25_0 (Tabs k) from rfl]
    unfold Gc25_0
    rw [It.eta, hc, hw, cond_true, show (((0 : Int)) != 0) = false from rfl, cond_false]
    rw [show (Xi.cmd (c :: r) l).it = ⟨mk (c :: r), tNo, zR, ptL l⟩ from rfl]
    dsimp only
    simp only [show strEq (mk (c :: r)) (ByteArray.mk #[]) = false from strEq_mk (c :: r) [], cond_false, b37, b46, b32, ht, ptL_len]
    cases l with
    | nil =>
      simp only [List.length_nil, Int.natCast_zero, show (((0 : Int)) == 0) = true from rfl, cond_true]
      rw [cat_ok (by simp <;> omega), cond_true, mk_append, cat_ok (by simp <;> omega), cond_true, mk_append]
      simp [Xi.text, moreL]
    | cons x l =>
      have e : ((((x :: l).length : Nat) : Int) == 0) = false := by simp <;> omega
      simp only [e, cond_false]
      rw [cat_ok (by simp <;> omega), cond_true, mk_append, cat_ok (by simp <;> omega), cond_true, mk_append, cat_ok (by simp <;> omega), cond_true, mk_append, cat_ok (by simp <;> omega), cond_true, mk_append]
      have e : [37] ++ c :: r ++ [32] ++ textL (x :: l) ++ [46] = (Xi.cmd (c :: r) (x :: l)).text := by simp [Xi.text, textL, moreL]
      rw [e]

theorem s_TextItemBad (x : It) (hok : x.Ok) (hw : wellI x = false) : Evt fun k => ∀ (ρ : Type) K, (Tabs k).c25_0 ρ x K = K (mk []) 2 := by
  refine (s_checkI x hok).step fun k hc ρ K => ?_
  rw [show (Tabs (k + 1)).c25_0 = Gc25_0 (Tabs k) from rfl]
  unfold Gc25_0
  rw [It.eta, hc, hw, cond_false, show (((2 : Int)) != 0) = true from rfl, cond_true]

end Go.Proofs.YtanfoijdfcnpoaaGreatDoor.Ev

set_option linter.unusedVariables false
set_option linter.unusedSimpArgs false
namespace Go.Proofs.YtanfoijdfcnpoaaGreatDoor.Ev

mutual
/-- The tokens of a part's text. -/
def Xq.tks : Xq → List Wd
  | .name w => [nmW w]
  | .num n => [(6, Lib.decDigits n)]
  | .sign s w => [(4, [s]), nmW w]
  | .mark s => [(4, [s])]
  | .term e => (4, [40]) :: (e.tks ++ [(4, [41])])
  | .bind w e => (4, [123]) :: nmW w :: (4, [58]) :: (e.tks ++ [(4, [125])])
  | .lex l => (4, [123]) :: (tksL l ++ [(4, [125])])
  | .sim l => (4, [91]) :: (tksL l ++ [(4, [93])])
def tksL : List Xq → List Wd
  | [] => []
  | x :: r => x.tks ++ tksL r
end

def Xi.tks : Xi → List Wd
  | .decl n e => nmW n :: (4, [58]) :: (e.tks ++ [(4, [46])])
  | .cmd w l => (5, 37 :: w) :: (tksL l ++ [(4, [46])])

/-! ### Numbers -/

theorem dig_all : ∀ (w : List UInt8) (a v : Int), dig10 a w = some v → w.all (fun c => digB (c.toNat : Int)) = true
  | [], _, _, _ => rfl
  | c :: r, a, v, h => by
    simp only [dig10] at h
    split at h
    · rename_i hd
      simp only [List.all_cons, hd, Bool.true_and]
      exact dig_all r _ v h
    · cases h

theorem dig_nm {c : UInt8} (h : digB (c.toNat : Int) = true) : nmC c = true := by
  simp only [nmC, nmB, h, Bool.true_or, Bool.or_true]

theorem dig_not {c : UInt8} (h : digB (c.toNat : Int) = true) : smallB (c.toNat : Int) = false ∧ capB (c.toNat : Int) = false ∧ wsB (c.toNat : Int) = false ∧ ((c.toNat : Int) == 37) = false := by
  simp only [digB, Bool.and_eq_true, decide_eq_true_eq] at h
  refine ⟨?_, ?_, ?_, ?_⟩
  · simp only [smallB, Bool.and_eq_false_iff, decide_eq_false_iff_not]; omega
  · simp only [capB, Bool.and_eq_false_iff, decide_eq_false_iff_not]; omega
  · simp only [wsB, Bool.or_eq_false_iff, beq_eq_false_iff_ne]; omega
  · simp only [beq_eq_false_iff_ne]; omega

theorem lx_num {n : Nat} (h : n ≤ 10000) : LexE (Lib.decDigits n) [(6, Lib.decDigits n)] := by
  intro q ws hq hl
  have hok := numOk_dec n h
  have hd := dig_all _ _ _ (dec_val n)
  generalize Lib.decDigits n = w at hok hd
  cases w with
  | nil => cases hok
  | cons c r =>
    have hw : word (c :: (r ++ q)) = c :: r := word_app (w := c :: r) hq (by
      rw [List.all_eq_true] at hd ⊢
      exact fun x hx => dig_nm (hd x hx))
    have hc : digB (c.toNat : Int) = true := by simp only [List.all_cons, Bool.and_eq_true] at hd; exact hd.1
    obtain ⟨h1, h2, h3, h4⟩ := dig_not hc
    have hn : next c (r ++ q) = some (6, c :: r) := by
      simp only [next, h1, h2, hc, hw, hok, cond_true, cond_false]
    refine ⟨Lx.cons (k := 6) (w := c :: r) hn ?_, ?_⟩
    · have : (c :: (r ++ q)).drop (c :: r).length = q := by rw [← List.cons_append, List.drop_left]
      show Lx (skip ((c :: (r ++ q)).drop (c :: r).length) false) ws
      rw [this]; exact hl
    · show skip (c :: (r ++ q)) false = c :: (r ++ q)
      simp only [skip, h3, h4, Bool.false_and, Bool.false_eq_true, if_false]

/-! ### Signs -/

theorem lx_one {c : UInt8} {q : List UInt8} {ws : List Wd} (hn : next c q = some (4, [c])) (hs : skip (c :: q) false = c :: q) (hl : Lx (skip q false) ws) : Lx (c :: q) ((4, [c]) :: ws) ∧ skip (c :: q) false = c :: q :=
  ⟨Lx.cons (k := 4) (w := [c]) hn hl, hs⟩

/-- A sign that is a token by itself, whatever is behind it. -/
def Alone (c : UInt8) : Prop := c = 58 ∨ c = 46 ∨ c = 123 ∨ c = 125 ∨ c = 91 ∨ c = 93 ∨ c = 40 ∨ c = 41 ∨ c = 43 ∨ c = 42 ∨ c = 124 ∨ c = 61

theorem alone {c : UInt8} (h : Alone c) (q : List UInt8) : next c q = some (4, [c]) ∧ skip (c :: q) false = c :: q ∧ nmC c = false := by
  rcases h with rfl | rfl | rfl | rfl | rfl | rfl | rfl | rfl | rfl | rfl | rfl | rfl <;> exact ⟨rfl, rfl, by decide⟩

theorem lx_alone {c : UInt8} (h : Alone c) {q : List UInt8} {ws : List Wd} (hl : Lx (skip q false) ws) : Lx (c :: q) ((4, [c]) :: ws) ∧ skip (c :: q) false = c :: q :=
  lx_one (alone h q).1 (alone h q).2.1 hl

/-- A sign before a name. -/
theorem lx_before {s : UInt8} (hs : s = 43 ∨ s = 45 ∨ s = 42) {w : List UInt8} (hw : nmOk w = true) : LexE (s :: w) [(4, [s]), nmW w] := by
  intro q ws hq hl
  obtain ⟨h1, h2⟩ := lx_name (nm_let hw) q ws hq hl
  have h3 : Lx (skip (w ++ q) false) ([nmW w] ++ ws) := by rw [h2]; exact h1
  rcases hs with rfl | rfl | rfl
  · exact lx_alone (.inr (.inr (.inr (.inr (.inr (.inr (.inr (.inr (.inl rfl))))))))) h3
  · obtain ⟨c, r, rfl, _, hc⟩ := nm_next (q := q) (nm_let hw) hq
    refine lx_one (c := 45) ?_ rfl h3
    have hb : ((c.toNat : Int) == 62) = false := by
      simp only [letB, smallB, capB, Bool.or_eq_true, Bool.and_eq_true, decide_eq_true_eq] at hc
      simp only [beq_eq_false_iff_ne]; omega
    show (bif (c.toNat : Int) == 62 then some (4, [45, 62]) else some ((4 : Int), [45])) = _
    rw [hb]; rfl
  · exact lx_alone (.inr (.inr (.inr (.inr (.inr (.inr (.inr (.inr (.inr (.inl rfl)))))))))) h3

/-! ### Parts -/

/-- What is shown of the texts of parts, with a blank before each. -/
def LexM (l : List Xq) : Prop := ∀ q ws, SepN q → Lx (skip q false) ws → SepN (moreL l ++ q) ∧ Lx (skip (moreL l ++ q) false) (tksL l ++ ws)

theorem lex_text {l : List Xq} (hm : ∀ x r, l = x :: r → LexE x.text x.tks ∧ LexM r) {c : UInt8} (hc : Alone c) {q : List UInt8} {ws : List Wd} (hl : Lx (skip q false) ws) : Lx (skip (textL l ++ c :: q) false) (tksL l ++ (4, [c]) :: ws) := by
  obtain ⟨h1, h2⟩ := lx_alone hc hl
  cases l with
  | nil => simp only [textL, tksL, List.nil_append]; rw [h2]; exact h1
  | cons x r =>
    obtain ⟨hx, hr⟩ := hm x r rfl
    obtain ⟨h3, h4⟩ := hr (c :: q) _ (alone hc q).2.2 (by rw [h2]; exact h1)
    obtain ⟨h5, h6⟩ := hx _ _ h3 h4
    simp only [textL, tksL, List.append_assoc]
    rw [h6]; exact h5

mutual
theorem lexQ : ∀ x : Xq, x.Nm → LexE x.text x.tks
  | .name w, hn => lx_name (nm_let hn)
  | .num n, hn => lx_num hn
  | .sign s w, hn => lx_before hn.1 hn.2
  | .mark s, hn => by
    intro q ws hq hl
    have ha : Alone s := by
      rcases hn with rfl | rfl | rfl
      · exact .inl rfl
      · exact .inr (.inr (.inr (.inr (.inr (.inr (.inr (.inr (.inr (.inr (.inl rfl))))))))))
      · exact .inr (.inr (.inr (.inr (.inr (.inr (.inr (.inr (.inr (.inr (.inr rfl))))))))))
    exact lx_alone ha hl
  | .term e, hn => lx_par (lexX e hn.1) true
  | .bind w e, hn => by
    intro q ws hq hl
    have a1 := lx_alone (c := 125) (by simp [Alone]) hl
    obtain ⟨b1, b2⟩ := lexX e hn.2.1 (125 :: q) _ (show nmC 125 = false by decide) (by rw [a1.2]; exact a1.1)
    have c1 := lx_alone (c := 58) (by simp [Alone]) (q := e.text ++ 125 :: q) (by rw [b2]; exact b1)
    obtain ⟨d1, d2⟩ := lx_name (nm_let hn.1) (58 :: (e.text ++ 125 :: q)) _ (show nmC 58 = false by decide) (by rw [c1.2]; exact c1.1)
    have e1 := lx_alone (c := 123) (by simp [Alone]) (q := w ++ 58 :: (e.text ++ 125 :: q)) (by rw [d2]; exact d1)
    have t1 : (Xq.bind w e).text ++ q = 123 :: (w ++ 58 :: (e.text ++ 125 :: q)) := by simp [Xq.text]
    have t2 : (Xq.bind w e).tks ++ ws = (4, [123]) :: ([nmW w] ++ (4, [58]) :: (e.tks ++ (4, [125]) :: ws)) := by simp [Xq.tks]
    rw [t1, t2]; exact e1
  | .lex l, hn => by
    intro q ws hq hl
    have h1 := lex_text (l := l) (fun x r h => by
      subst h; exact ⟨lexQ x hn.2.1, lexM r hn.2.2⟩) (c := 125) (by simp [Alone]) hl
    have h2 := lx_alone (c := 123) (by simp [Alone]) h1
    have t1 : (Xq.lex l).text ++ q = 123 :: (textL l ++ 125 :: q) := by simp [Xq.text]
    have t2 : (Xq.lex l).tks ++ ws = (4, [123]) :: (tksL l ++ (4, [125]) :: ws) := by simp [Xq.tks]
    rw [t1, t2]; exact h2
  | .sim l, hn => by
    intro q ws hq hl
    have h1 := lex_text (l := l) (fun x r h => by
      subst h; exact ⟨lexQ x hn.1, lexM r hn.2⟩) (c := 93) (by simp [Alone]) hl
    have h2 := lx_alone (c := 91) (by simp [Alone]) h1
    have t1 : (Xq.sim l).text ++ q = 91 :: (textL l ++ 93 :: q) := by simp [Xq.text]
    have t2 : (Xq.sim l).tks ++ ws = (4, [91]) :: (tksL l ++ (4, [93]) :: ws) := by simp [Xq.tks]
    rw [t1, t2]; exact h2
theorem lexM : ∀ l : List Xq, nmL l → LexM l
  | [], _ => fun q ws hq hl => ⟨hq, hl⟩
  | x :: r, hn => fun q ws hq hl => by
    obtain ⟨h1, h2⟩ := lexM r hn.2 q ws hq hl
    obtain ⟨h3, h4⟩ := lexQ x hn.1 _ _ h1 h2
    have t1 : moreL (x :: r) ++ q = 32 :: (x.text ++ (moreL r ++ q)) := by simp [moreL]
    have t2 : tksL (x :: r) ++ ws = x.tks ++ (tksL r ++ ws) := by simp [tksL]
    rw [t1, t2]
    refine ⟨show nmC 32 = false by decide, ?_⟩
    rw [show skip (32 :: (x.text ++ (moreL r ++ q))) false = skip (x.text ++ (moreL r ++ q)) false from rfl, h4]
    exact h3
end

/-! ### Items -/

theorem nameL_let {w : List UInt8} (h : nameL smallB w = true) : nameL letB w = true := by
  cases w with
  | nil => cases h
  | cons c r =>
    simp only [nameL, Bool.and_eq_true, decide_eq_true_eq] at h ⊢
    exact ⟨h.1, by simp only [letB, h.2.1, Bool.true_or], h.2.2⟩

theorem lexI (x : Xi) (h : x.Nm) : Lx (skip x.text false) x.tks := by
  have d0 := lx_alone (c := 46) (by simp [Alone]) (q := []) Lx.nil
  cases x with
  | decl n e =>
    obtain ⟨b1, b2⟩ := lexX e h.2.2.1 [46] _ (show nmC 46 = false by decide) (by rw [d0.2]; exact d0.1)
    have c1 := lx_alone (c := 58) (by simp [Alone]) (q := 32 :: (e.text ++ [46])) (by
      rw [show skip (32 :: (e.text ++ [46])) false = skip (e.text ++ [46]) false from rfl, b2]; exact b1)
    obtain ⟨e1, e2⟩ := lx_name (nameL_let h.1) (32 :: 58 :: 32 :: (e.text ++ [46])) _ (show nmC 32 = false by decide) (by
      rw [show skip (32 :: 58 :: 32 :: (e.text ++ [46])) false = skip (58 :: 32 :: (e.text ++ [46])) false from rfl, c1.2]; exact c1.1)
    have t1 : (Xi.decl n e).text = n ++ 32 :: 58 :: 32 :: (e.text ++ [46]) := by simp [Xi.text]
    rw [t1, e2]; exact e1
  | cmd w l =>
    obtain ⟨b1, b2⟩ := lexM l h.2.1 [46] _ (show nmC 46 = false by decide) (by rw [d0.2]; exact d0.1)
    obtain ⟨c, r, rfl⟩ := small_cons h.1
    have h1 := h.1
    simp only [nameL, Bool.and_eq_true, decide_eq_true_eq] at h1
    obtain ⟨hl, hc, hr⟩ := h1
    have t1 : (Xi.cmd (c :: r) l).text = 37 :: (c :: r ++ (moreL l ++ [46])) := by simp [Xi.text]
    have hw : word (c :: r ++ (moreL l ++ [46])) = c :: r := word_app b1 hr
    have hcm : (wsB (c.toNat : Int) || (c.toNat : Int) == 37) = false := by
      simp only [smallB, Bool.and_eq_true, decide_eq_true_eq] at hc
      simp only [wsB, Bool.or_eq_false_iff, beq_eq_false_iff_ne]; omega
    have hs : skip (37 :: (c :: r ++ (moreL l ++ [46]))) false = 37 :: (c :: r ++ (moreL l ++ [46])) := by
      show (if wsB 37 = true then _ else if ((37 : Int) == 37 && (wsB (c.toNat : Int) || (c.toNat : Int) == 37)) = true then _ else _) = _
      rw [hcm]; rfl
    have hn : next 37 (c :: r ++ (moreL l ++ [46])) = some (5, 37 :: (c :: r)) := by
      show (bif nameL smallB (word (c :: r ++ (moreL l ++ [46]))) then some ((5 : Int), (37 : UInt8) :: word (c :: r ++ (moreL l ++ [46]))) else none) = _
      rw [hw, h.1]; rfl
    rw [t1, hs]
    refine Lx.cons (k := 5) (w := 37 :: (c :: r)) hn ?_
    have : (37 :: (c :: r ++ (moreL l ++ [46]))).drop ((37 : UInt8) :: (c :: r)).length = moreL l ++ [46] := by
      rw [← List.cons_append, List.drop_left]
    show Lx (skip ((37 :: (c :: r ++ (moreL l ++ [46]))).drop ((37 : UInt8) :: (c :: r)).length) false) _
    rw [this]; exact b2

end Go.Proofs.YtanfoijdfcnpoaaGreatDoor.Ev

set_option linter.unusedVariables false
set_option linter.unusedSimpArgs false
namespace Go.Proofs.YtanfoijdfcnpoaaGreatDoor.Ev

def Q (tag : QTag) (ts : List Tok) (res : QRes) : Prop := ∃ f, qr f tag ts = some res

theorem prE_of {ts : List Tok} {res : PRes} (hg : Gd ts) (h : P .expr ts res) : prE ts = some res := by
  obtain ⟨r, hr⟩ := prE_some hg
  rw [hr]; exact congrArg some (P.eq h hr)

/-- An expression is read. -/
theorem exprR {e : Xp} (hn : e.Nm) {ts : List Tok} {ws : List Wd} (hg : Gd ts) (ht : Tw ts (e.tks ++ ws)) (hf : Fol ws) : ∃ c tsr, Tw tsr ws ∧ Gd tsr ∧ prE ts = some (.ok e.rw c tsr) := by
  obtain ⟨c, tsr, h1, h2⟩ := (reads1X e hn).expr ts ws ht hf
  have h3 := prE_of hg h2
  exact ⟨c, tsr, h1, (prE_keeps h3 hg).2, h3⟩

theorem sgn {t : Tok} {r : List Tok} {c : UInt8} {ws : List Wd} (h : Tw (t :: r) ((4, [c]) :: ws)) : isNameB t = false ∧ (t.kind == 6) = false ∧ sees (t :: r) [tPl, tMi, tSt] = (c == 43 || (c == 45 || c == 42)) ∧ sees (t :: r) [tCo, tBa, tEq] = (c == 58 || (c == 124 || c == 61)) ∧
    sees (t :: r) [tLP] = (c == 40) ∧ sees (t :: r) [tLS] = (c == 91) ∧ sees (t :: r) [tLB] = (c == 123) := by
  have s1 := sees_W h [[43], [45], [42]]
  have s2 := sees_W h [[58], [124], [61]]
  have s3 := sees_W h [[40]]
  have s4 := sees_W h [[91]]
  have s5 := sees_W h [[123]]
  obtain ⟨t', r', e, hk, _, _⟩ := Tw_cons h
  cases e
  have hk : t.kind = 4 := hk
  refine ⟨by simp [isNameB, hk], by simp [hk], s1.trans ?_, s2.trans ?_, s3.trans ?_, s4.trans ?_, s5.trans ?_⟩ <;> simp [seesW]

theorem seesC {t : Tok} {r : List Tok} {c d : UInt8} {ws : List Wd} (h : Tw (t :: r) ((4, [c]) :: ws)) : sees (t :: r) [mk [d]] = (c == d) := by
  have s1 := sees_W h [[d]]
  exact s1.trans (by simp [seesW])

def bindW : List Wd → Bool
  | a :: b :: _ => (a.1 == 2 || (a.1 == 1 && !(a.2 == tyB))) && (b.1 == 4 && b.2 == [58])
  | _ => false

theorem bind_W {ts : List Tok} {ws : List Wd} (h : Tw ts ws) : bindB ts = bindW ws := by
  match ws, h with
  | [], h => cases ts with | nil => rfl | cons _ _ => cases h
  | [a], h =>
    obtain ⟨t, r, rfl, _, _, h⟩ := Tw_cons h
    cases r with | nil => rfl | cons _ _ => cases h
  | a :: b :: ws, h =>
    obtain ⟨t, r, rfl, h1, h2, h⟩ := Tw_cons h
    obtain ⟨u, r, rfl, h3, h4, h⟩ := Tw_cons h
    simp only [bindB, bindW, isNameB, h1, h2, h3, h4]
    rw [show strEq (mk a.2) tTy = (a.2 == tyB) from strEq_mk a.2 tyB, show strEq (mk b.2) tCo = (b.2 == [58]) from strEq_mk b.2 [58]]

theorem bind_nm {w : List UInt8} (h : nmOk w = true) (c : UInt8) (ws : List Wd) : bindW (nmW w :: (4, [c]) :: ws) = (c == 58) := by
  obtain ⟨h1, h2⟩ := nmW_kind h
  have h3 : (nmW w).2 = w := rfl
  have h4 : (w == tyB) = false := h2
  simp only [bindW, h3, h4]
  rcases h1 with h1 | h1 <;> rw [h1] <;> simp

theorem bind_no {l : List Xq} (hn : nmL l) (hb : badQ l = false) (ws : List Wd) : bindW (tksL l ++ (4, [125]) :: ws) = false := by
  have first : ∀ {w : Wd} {r : List Wd}, w.1 ≠ 1 → w.1 ≠ 2 → bindW (w :: r) = false := by
    intro w r h1 h2
    cases r with
    | nil => rfl
    | cons _ _ => simp [bindW, h1, h2]
  have second : ∀ {v w : Wd} {r : List Wd}, (w.1 == 4 && w.2 == [58]) = false → bindW (v :: w :: r) = false := by
    intro v w r h
    simp only [bindW, h, Bool.and_false]
  cases l with
  | nil => exact first (by simp) (by simp)
  | cons x r =>
    cases x with
    | name w =>
      cases r with
      | nil => exact second (by simp)
      | cons y r =>
        cases y with
        | name w => exact second (by
            have := (nmW_kind (w := w) hn.2.1).1
            rcases this with h | h <;> rw [h] <;> rfl)
        | num n => exact second (by simp)
        | sign s w => exact second (by rcases hn.2.1.1 with rfl | rfl | rfl <;> rfl)
        | mark s =>
          refine second ?_
          have : (s == 58) = false := hb
          simpa using this
        | term e => exact second (by simp)
        | bind w e => exact second (by simp)
        | lex l => exact second (by simp)
        | sim l => exact second (by simp)
    | num n => exact first (by simp) (by simp)
    | sign s w => exact first (by simp) (by simp)
    | mark s => exact first (by simp) (by simp)
    | term e => exact first (by simp) (by simp)
    | bind w e => exact first (by simp) (by simp)
    | lex l => exact first (by simp) (by simp)
    | sim l => exact first (by simp) (by simp)

/-- What ends parts. -/
def EndC (c : UInt8) : Prop := c = 125 ∨ c = 93 ∨ c = 46

/-- A part does not begin with what ends parts. -/
theorem part_starts (x : Xq) (hn : x.Nm) {c : UInt8} (hc : EndC c) (ws : List Wd) : seesW (x.tks ++ ws) [[c]] = false := by
  have nn : ∀ {w : Wd} {r : List Wd}, w.1 ≠ 4 → seesW (w :: r) [[c]] = false := by
    intro w r h; simp [seesW, h]
  cases x with
  | name w =>
    refine nn ?_
    rcases (nmW_kind (w := w) hn).1 with h | h <;> rw [h] <;> decide
  | num n => exact nn (by simp)
  | sign s w => rcases hn.1 with rfl | rfl | rfl <;> rcases hc with rfl | rfl | rfl <;> rfl
  | mark s =>
    rcases (show s = 58 ∨ s = 124 ∨ s = 61 from hn) with rfl | rfl | rfl <;> rcases hc with rfl | rfl | rfl <;> rfl
  | term e => rcases hc with rfl | rfl | rfl <;> rfl
  | bind w e => rcases hc with rfl | rfl | rfl <;> rfl
  | lex l => rcases hc with rfl | rfl | rfl <;> rfl
  | sim l => rcases hc with rfl | rfl | rfl <;> rfl

theorem numT_dec (n : Nat) : numT (mk (Lib.decDigits n)) = (n : Int) := by
  simp only [numT, mk_list, dec_val]

def ReadsQ (x : Xq) : Prop := ∀ ts ws, Gd ts → Tw ts (x.tks ++ ws) → ∃ tsr, Tw tsr ws ∧ Gd tsr ∧ Q .part ts (.one x.pt tsr)
def ReadsL (l : List Xq) : Prop := ∀ c, EndC c → ∀ acc ts ws, Gd ts → Tw ts (tksL l ++ (4, [c]) :: ws) → ∃ tsr, Tw tsr ws ∧ Gd tsr ∧ Q (.parts (mk [c]) acc) ts (.all (acc ++ ptL l) tsr)

theorem read_name {w : List UInt8} (h : nmOk w = true) : ReadsQ (.name w) := by
  intro ts ws hg ht
  obtain ⟨t, r, rfl, h1, h2, ht⟩ := Tw_cons ht
  have hN := nm_isName h h1 h2
  refine ⟨r, ht, hg.tail (isName_kind hN), 1, ?_⟩
  simp only [qr, hdT, hN, cond_true, List.tail_cons, h2]; rfl

theorem read_num {n : Nat} (h : n ≤ 10000) : ReadsQ (.num n) := by
  intro ts ws hg ht
  obtain ⟨t, r, rfl, h1, h2, ht⟩ := Tw_cons ht
  have h1 : t.kind = 6 := h1
  have h2 : t.text = mk (Lib.decDigits n) := h2
  have hN : isNameB t = false := by simp [isNameB, h1]
  refine ⟨r, ht, hg.tail (by rw [h1]; decide), 1, ?_⟩
  simp only [qr, hdT, hN, h1, cond_true, cond_false, beq_self_eq_true, List.tail_cons, h2, numT_dec, Xq.pt]

theorem read_sign {s : UInt8} {w : List UInt8} (hs : s = 43 ∨ s = 45 ∨ s = 42) (h : nmOk w = true) : ReadsQ (.sign s w) := by
  intro ts ws hg ht
  have ht : Tw ts ((4, [s]) :: nmW w :: ws) := ht
  have f := ht
  obtain ⟨t, r, rfl, h1, h2, ht⟩ := Tw_cons ht
  obtain ⟨f1, f2, f3, _⟩ := sgn f
  obtain ⟨u, r, rfl, h3, h4, ht⟩ := Tw_cons ht
  have hN := nm_isName h h3 h4
  have h1 : t.kind = 4 := h1
  have h2 : t.text = mk [s] := h2
  have h4 : u.text = mk w := h4
  have f3 : sees (t :: u :: r) [tPl, tMi, tSt] = true := by rw [f3]; rcases hs with rfl | rfl | rfl <;> rfl
  refine ⟨r, ht, (hg.tail (by rw [h1]; decide)).tail (isName_kind hN), 1, ?_⟩
  simp only [qr, hdT, f1, f2, f3, hN, cond_true, cond_false, List.tail_cons, h2, h4, Xq.pt]

theorem read_mark {s : UInt8} (hs : s = 58 ∨ s = 124 ∨ s = 61) : ReadsQ (.mark s) := by
  intro ts ws hg ht
  have ht : Tw ts ((4, [s]) :: ws) := ht
  have f := ht
  obtain ⟨t, r, rfl, h1, h2, ht⟩ := Tw_cons ht
  obtain ⟨f1, f2, f3, f4, _⟩ := sgn f
  have h1 : t.kind = 4 := h1
  have h2 : t.text = mk [s] := h2
  have f3 : sees (t :: r) [tPl, tMi, tSt] = false := by rw [f3]; rcases hs with rfl | rfl | rfl <;> rfl
  have f4 : sees (t :: r) [tCo, tBa, tEq] = true := by rw [f4]; rcases hs with rfl | rfl | rfl <;> rfl
  refine ⟨r, ht, hg.tail (by rw [h1]; decide), 1, ?_⟩
  simp only [qr, hdT, f1, f2, f3, f4, cond_true, cond_false, List.tail_cons, h2, Xq.pt]

theorem read_term {e : Xp} (hn : e.Nm) : ReadsQ (.term e) := by
  intro ts ws hg ht
  have ht : Tw ts ((4, [40]) :: (e.tks ++ (4, [41]) :: ws)) := by
    have : (Xq.term e).tks ++ ws = (4, [40]) :: (e.tks ++ (4, [41]) :: ws) := by simp [Xq.tks]
    rw [← this]; exact ht
  have f := ht
  obtain ⟨t, r, rfl, h1, h2, ht⟩ := Tw_cons ht
  obtain ⟨f1, f2, f3, f4, f5, _⟩ := sgn f
  have h1 : t.kind = 4 := h1
  obtain ⟨c, tsr, h3, h4, h5⟩ := exprR hn (hg.tail (by rw [h1]; decide)) ht ⟨_, _, rfl, .inl rfl⟩
  have g := h3
  obtain ⟨t1, r1, rfl, h6, _, h3⟩ := Tw_cons h3
  have h6 : t1.kind = 4 := h6
  have g1 : sees (t1 :: r1) [tRP] = true := seesC (d := 41) g
  have f3 : sees (t :: r) [tPl, tMi, tSt] = false := f3
  have f4 : sees (t :: r) [tCo, tBa, tEq] = false := f4
  have f5 : sees (t :: r) [tLP] = true := f5
  refine ⟨r1, h3, h4.tail (by rw [h6]; decide), 1, ?_⟩
  simp only [qr, hdT, f1, f2, f3, f4, f5, cond_true, cond_false, List.tail_cons, h5, andE, g1, Xq.pt]

theorem read_bind {w : List UInt8} {e : Xp} (hw : nmOk w = true) (hn : e.Nm) : ReadsQ (.bind w e) := by
  intro ts ws hg ht
  have ht : Tw ts ((4, [123]) :: nmW w :: (4, [58]) :: (e.tks ++ (4, [125]) :: ws)) := by
    have : (Xq.bind w e).tks ++ ws = (4, [123]) :: nmW w :: (4, [58]) :: (e.tks ++ (4, [125]) :: ws) := by simp [Xq.tks]
    rw [← this]; exact ht
  have f := ht
  obtain ⟨t, r, rfl, h1, h2, ht⟩ := Tw_cons ht
  obtain ⟨f1, f2, f3, f4, f5, f6, f7⟩ := sgn f
  have h1 : t.kind = 4 := h1
  have b := bind_W ht
  rw [bind_nm hw] at b
  obtain ⟨u, r, rfl, h3, h4, ht⟩ := Tw_cons ht
  obtain ⟨v, r, rfl, h5, _, ht⟩ := Tw_cons ht
  have hN := nm_isName hw h3 h4
  have h4 : u.text = mk w := h4
  have h5 : v.kind = 4 := h5
  have g3 := ((hg.tail (by rw [h1]; decide)).tail (isName_kind hN)).tail (by rw [h5]; decide)
  obtain ⟨c, tsr, k3, k4, k5⟩ := exprR hn g3 ht ⟨_, _, rfl, .inr (.inr (.inl rfl))⟩
  have g := k3
  obtain ⟨t1, r1, rfl, k6, _, k3⟩ := Tw_cons k3
  have k6 : t1.kind = 4 := k6
  have g1 : sees (t1 :: r1) [tRB] = true := seesC (d := 125) g
  have f3 : sees (t :: u :: v :: r) [tPl, tMi, tSt] = false := f3
  have f4 : sees (t :: u :: v :: r) [tCo, tBa, tEq] = false := f4
  have f5 : sees (t :: u :: v :: r) [tLP] = false := f5
  have f6 : sees (t :: u :: v :: r) [tLS] = false := f6
  have f7 : sees (t :: u :: v :: r) [tLB] = true := f7
  have b : bindB (u :: v :: r) = true := b
  refine ⟨r1, k3, k4.tail (by rw [k6]; decide), 1, ?_⟩
  simp only [qr, hdT, f1, f2, f3, f4, f5, f6, f7, b, cond_true, cond_false, List.tail_cons, k5, andE, g1, h4, Xq.pt]

theorem read_lex {l : List Xq} (hn : nmL l) (hb : badQ l = false) (hl : ReadsL l) : ReadsQ (.lex l) := by
  intro ts ws hg ht
  have ht : Tw ts ((4, [123]) :: (tksL l ++ (4, [125]) :: ws)) := by
    have : (Xq.lex l).tks ++ ws = (4, [123]) :: (tksL l ++ (4, [125]) :: ws) := by simp [Xq.tks]
    rw [← this]; exact ht
  have f := ht
  obtain ⟨t, r, rfl, h1, h2, ht⟩ := Tw_cons ht
  obtain ⟨f1, f2, f3, f4, f5, f6, f7⟩ := sgn f
  have h1 : t.kind = 4 := h1
  have b := bind_W ht
  rw [bind_no hn hb] at b
  obtain ⟨tsr, k1, k2, g, k3⟩ := hl 125 (.inl rfl) [] r ws (hg.tail (by rw [h1]; decide)) ht
  rw [List.nil_append] at k3
  have k3 : qr g (.parts tRB []) r = some (.all (ptL l) tsr) := k3
  have f3 : sees (t :: r) [tPl, tMi, tSt] = false := f3
  have f4 : sees (t :: r) [tCo, tBa, tEq] = false := f4
  have f5 : sees (t :: r) [tLP] = false := f5
  have f6 : sees (t :: r) [tLS] = false := f6
  have f7 : sees (t :: r) [tLB] = true := f7
  refine ⟨tsr, k1, k2, g + 1, ?_⟩
  simp only [qr, hdT, f1, f2, f3, f4, f5, f6, f7, b, cond_true, cond_false, List.tail_cons, k3, andA, Xq.pt]

theorem read_sim {l : List Xq} (hl : ReadsL l) : ReadsQ (.sim l) := by
  intro ts ws hg ht
  have ht : Tw ts ((4, [91]) :: (tksL l ++ (4, [93]) :: ws)) := by
    have : (Xq.sim l).tks ++ ws = (4, [91]) :: (tksL l ++ (4, [93]) :: ws) := by simp [Xq.tks]
    rw [← this]; exact ht
  have f := ht
  obtain ⟨t, r, rfl, h1, h2, ht⟩ := Tw_cons ht
  obtain ⟨f1, f2, f3, f4, f5, f6, f7⟩ := sgn f
  have h1 : t.kind = 4 := h1
  obtain ⟨tsr, k1, k2, g, k3⟩ := hl 93 (.inr (.inl rfl)) [] r ws (hg.tail (by rw [h1]; decide)) ht
  rw [List.nil_append] at k3
  have k3 : qr g (.parts tRS []) r = some (.all (ptL l) tsr) := k3
  have f3 : sees (t :: r) [tPl, tMi, tSt] = false := f3
  have f4 : sees (t :: r) [tCo, tBa, tEq] = false := f4
  have f5 : sees (t :: r) [tLP] = false := f5
  have f6 : sees (t :: r) [tLS] = true := f6
  refine ⟨tsr, k1, k2, g + 1, ?_⟩
  simp only [qr, hdT, f1, f2, f3, f4, f5, f6, cond_true, cond_false, List.tail_cons, k3, andA, Xq.pt]

theorem read_nil : ReadsL [] := by
  intro c hc acc ts ws hg ht
  have ht : Tw ts ((4, [c]) :: ws) := ht
  have f := ht
  obtain ⟨t, r, rfl, h1, h2, ht⟩ := Tw_cons ht
  have h1 : t.kind = 4 := h1
  have g1 : sees (t :: r) [mk [c]] = true := (seesC (d := c) f).trans (by simp)
  refine ⟨r, ht, hg.tail (by rw [h1]; decide), 1, ?_⟩
  simp only [qr, g1, cond_true, List.tail_cons, ptL, List.append_nil]

theorem read_cons {x : Xq} {l : List Xq} (hn : x.Nm) (hx : ReadsQ x) (hl : ReadsL l) : ReadsL (x :: l) := by
  intro c hc acc ts ws hg ht
  have ht : Tw ts (x.tks ++ (tksL l ++ (4, [c]) :: ws)) := by
    have : tksL (x :: l) ++ (4, [c]) :: ws = x.tks ++ (tksL l ++ (4, [c]) :: ws) := by simp [tksL]
    rw [← this]; exact ht
  have g1 : sees ts [mk [c]] = false := (sees_W ht [[c]]).trans (part_starts x hn hc _)
  obtain ⟨ts1, h1, h2, f, h3⟩ := hx ts _ hg ht
  obtain ⟨tsr, h4, h5, g, h6⟩ := hl c hc (acc ++ [x.pt]) ts1 ws h2 h1
  refine ⟨tsr, h4, h5, max f g + 1, ?_⟩
  simp only [qr, g1, cond_false, qr_mono h3 (Nat.le_max_left f g), andO, qr_mono h6 (Nat.le_max_right f g), ptL, List.append_assoc, List.cons_append, List.nil_append]

mutual
theorem readsQ : ∀ x : Xq, x.Nm → ReadsQ x
  | .name w, hn => read_name hn
  | .num n, hn => read_num hn
  | .sign s w, hn => read_sign hn.1 hn.2
  | .mark s, hn => read_mark hn
  | .term e, hn => read_term hn.1
  | .bind w e, hn => read_bind hn.1 hn.2.1
  | .lex l, hn => read_lex hn.2 hn.1 (readsL l hn.2)
  | .sim l, hn => read_sim (readsL l hn)
theorem readsL : ∀ l : List Xq, nmL l → ReadsL l
  | [], _ => read_nil
  | x :: r, hn => read_cons hn.1 (readsQ x hn.1) (readsL r hn.2)
end

/-! ### Items -/

theorem read_item (x : Xi) (hn : x.Nm) {ts : List Tok} {ws : List Wd} (hg : Gd ts) (ht : Tw ts (x.tks ++ ws)) : ∃ tsr, Tw tsr ws ∧ itemP ts = some (.ok x.it tsr) := by
  cases x with
  | decl n e =>
    obtain ⟨h1, h2, h3, h4⟩ := hn
    have ht : Tw ts (nmW n :: (4, [58]) :: (e.tks ++ (4, [46]) :: ws)) := by
      have : (Xi.decl n e).tks ++ ws = nmW n :: (4, [58]) :: (e.tks ++ (4, [46]) :: ws) := by simp [Xi.tks]
      rw [← this]; exact ht
    obtain ⟨t, r, rfl, k1, k2, ht⟩ := Tw_cons ht
    have k2 : t.text = mk n := k2
    have k1 : t.kind = 1 := by
      rw [k1]
      obtain ⟨c, r, rfl⟩ := small_cons h1
      simp only [nameL, Bool.and_eq_true] at h1
      simp only [nmW, h1.2.1, cond_true]
    have g1 := hg.tail (by rw [k1]; decide)
    have f := ht
    obtain ⟨u, r, rfl, k3, k4, ht⟩ := Tw_cons ht
    have k3 : u.kind = 4 := k3
    have s1 : sees (u :: r) [tCo] = true := seesC (d := 58) f
    obtain ⟨c, tsr, k5, k6, k7⟩ := exprR h3 (g1.tail (by rw [k3]; decide)) ht ⟨_, _, rfl, .inr (.inr (.inr (.inr rfl)))⟩
    have g := k5
    obtain ⟨v, r1, rfl, k8, _, k5⟩ := Tw_cons k5
    have s2 : sees (v :: r1) [tDo] = true := seesC (d := 46) g
    refine ⟨r1, k5, ?_⟩
    have e1 : strEq (mk n) tTy = false := (strEq_mk n tyB).trans h2
    simp only [itemP, hdT, k1, Int.reduceBEq, cond_false, cond_true, beq_self_eq_true, k2, e1, Bool.not_false, Bool.and_self, List.tail_cons, s1, k7, s2, Xi.it]
  | cmd w l =>
    obtain ⟨h1, h2, h3⟩ := hn
    have ht : Tw ts ((5, 37 :: w) :: (tksL l ++ (4, [46]) :: ws)) := by
      have : (Xi.cmd w l).tks ++ ws = (5, 37 :: w) :: (tksL l ++ (4, [46]) :: ws) := by simp [Xi.tks]
      rw [← this]; exact ht
    obtain ⟨t, r, rfl, k1, k2, ht⟩ := Tw_cons ht
    have k1 : t.kind = 5 := k1
    have k2 : t.text = mk (37 :: w) := k2
    have g1 := hg.tail (by rw [k1]; decide)
    obtain ⟨tsr, k3, k4, f, k5⟩ := readsL l h2 46 (.inr (.inr rfl)) [] r ws g1 ht
    rw [List.nil_append] at k5
    have k6 : qrE tDo r = some (.all (ptL l) tsr) := qrE_of g1 k5
    refine ⟨tsr, k3, ?_⟩
    have e1 : ByteArray.extract (mk (37 :: w)) 1 (mk (37 :: w)).size = mk w := by
      rw [mk_extract, mk_size, List.take_length]; rfl
    simp only [itemP, hdT, k1, beq_self_eq_true, cond_true, List.tail_cons, k6, k2, e1, Xi.it]

/-- An item's text is read back. -/
theorem item_back (x : Xi) (hn : x.Nm) (hl : x.text.length ≤ 6000) (hw : wellI x.it = true) : itemsR x.text = ([x.it], 0, 0) := by
  obtain ⟨ts, h1, h2⟩ := (lexI x hn).tk x.text.length x.text.length (skip_suffix x.text false).length_le
  have ht : toks x.text = (ts ++ [⟨7, mk [], (x.text.length : Int)⟩], 0, 0) := by
    unfold toks
    have : decide (x.text.length ≤ 6000) = true := by simpa using hl
    rw [this, cond_true, h1]
  have hT : Tw (toks x.text).1 (x.tks ++ [(7, [])]) := by
    rw [ht]
    simp only [Tw, List.map_append, List.map_cons, List.map_nil]
    rw [show ts.map shape = x.tks from h2]
    rfl
  have h0 : (toks x.text).2.2 = 0 := by rw [ht]
  obtain ⟨g0, _, _⟩ := toks_good x.text h0
  obtain ⟨tsr, h3, h4⟩ := read_item x hn g0 hT
  obtain ⟨t, r, rfl, hk, _, _⟩ := Tw_cons h3
  have hk : t.kind = 7 := hk
  have hk1 : ((hdT (toks x.text).1).kind == 7) = false := by
    have hne : ∃ w ws, x.tks = w :: ws ∧ w.1 ≠ 7 := by
      cases x with
      | decl n e =>
        refine ⟨_, _, rfl, ?_⟩
        cases n with
        | nil => exact (show ¬ ((1 : Int) = 7) by decide)
        | cons c r => simp only [nmW]; cases smallB (c.toNat : Int) <;> simp
      | cmd w l => exact ⟨_, _, rfl, by simp⟩
    obtain ⟨w, ws, e1, e2⟩ := hne
    rw [e1] at hT
    obtain ⟨u, v, e3, e4, _, _⟩ := Tw_cons hT
    rw [e3]
    simp only [hdT, e4, beq_eq_false_iff_ne]; exact e2
  have hi : itemsP ((toks x.text).1.length + 2) (toks x.text).1 [] = some (.inl [x.it]) := by
    rw [itemsP, hk1, cond_false, h4]
    dsimp only
    rw [itemsP, show (hdT (t :: r)).kind = 7 from hk]
    rfl
  unfold itemsR
  rw [h0, hi]
  simp only [beq_self_eq_true, cond_true, List.all_cons, hw, List.all_nil, Bool.and_self, List.length_cons, List.length_nil, Nat.zero_add, Nat.reduceLeDiff, decide_true]

end Go.Proofs.YtanfoijdfcnpoaaGreatDoor.Ev

set_option linter.unusedVariables false
set_option linter.unusedSimpArgs false
namespace Go.Proofs.YtanfoijdfcnpoaaGreatDoor.Ev

theorem itext_len (q : Xi) (h : q.Nm) : q.text.length ≤ 10000000 := by
  cases q with
  | decl n e =>
    have h1 := small_len h.1
    have h2 := text_len e h.2.2.1
    have h3 := h.2.2.2
    simp only [Xi.text, List.length_append, List.length_cons, List.length_nil]; omega
  | cmd w l =>
    have h1 := small_len h.1
    have h2 := qmoreL_len l h.2.1
    have h3 := h.2.2
    simp only [Xi.text, List.length_append, List.length_cons, List.length_nil]; omega

theorem itemtexts_law (x : It) (hok : x.Ok) : Evt fun k => ∀ (ρ : Type) K, (Tabs k).c7_0 ρ x K = K true := by
  cases hw : wellI x with
  | false =>
    refine ((s_checkI x hok).and ((s_TextItemBad x hok hw).and ((s_wellI x hok).and awake_ok))).step fun k ⟨h1, h2, h3, h4⟩ ρ K => ?_
    rw [show (Tabs (k + 1)).c7_0 = Gc7_0 (Tabs k) from rfl]
    have e1 : strEq (mk []) (ByteArray.mk #[]) = true := strEq_mk [] []
    simp only [Gc7_0, It.eta, h1, h2, h3, hw, cond_false, Bool.not_false, cond_true, beq_self_eq_true, e1, h4]
  | true =>
    obtain ⟨q, rfl, hq⟩ := item_ex hw
    have base := (s_checkI q.it hok).and ((s_TextItem q hq hok hw).and ((s_wellI q.it hok).and ((s_rTextItem q hq).and awake_ok)))
    have e0 : (((0 : Int)) != 0) = false := rfl
    have hlen := itext_len q hq
    by_cases hl : q.text.length ≤ 6000
    · have e6 : decide ((((mk q.text).size : Nat) : Int) > 6000) = false := by rw [mk_size]; simp; omega
      refine ((s_items q.text).and ((s_sameItem q.it hok).and base)).step fun k ⟨h6, h7, h1, h2, h3, h4, h5⟩ ρ K => ?_
      rw [show (Tabs (k + 1)).c7_0 = Gc7_0 (Tabs k) from rfl]
      rw [item_back q hq hl hw] at h6
      have r0 : rdEl lay Key.item ([q.it] : List It) (0 : Int) = q.it := rdIt [] q.it []
      have d0 : (decide ((0 : Int) ≤ 0) && decide ((0 : Int) < ((List.length [q.it] : Nat) : Int))) = true := rfl
      have d1 : (((List.length [q.it] : Nat) : Int) == 1) = true := rfl
      simp only [Gc7_0, It.eta, h1, h2, h3, hw, cond_true, Bool.not_true, cond_false, e0, h4, strEq_refl, e6, h6, beq_self_eq_true, d0, d1, r0, h7, h5]
    · have e6 : decide ((((mk q.text).size : Nat) : Int) > 6000) = true := by rw [mk_size]; simp; omega
      refine base.step fun k ⟨h1, h2, h3, h4, h5⟩ ρ K => ?_
      rw [show (Tabs (k + 1)).c7_0 = Gc7_0 (Tabs k) from rfl]
      simp only [Gc7_0, It.eta, h1, h2, h3, hw, cond_true, Bool.not_true, cond_false, e0, h4, strEq_refl, e6, h5]

end Go.Proofs.YtanfoijdfcnpoaaGreatDoor.Ev
