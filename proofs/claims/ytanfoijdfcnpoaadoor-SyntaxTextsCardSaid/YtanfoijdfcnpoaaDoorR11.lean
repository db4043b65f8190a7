/- This file proves that the tokens of an expression's text are read as the expression; without any condition. -/
import Derived.Test.YtanfoijdfcnpoaaDoorRT
set_option linter.unusedVariables false
set_option linter.unusedSimpArgs false
namespace Go.Proofs.YtanfoijdfcnpoaaDoor.Ev

theorem andR_mono {r r' : Option PRes} {f f' : Rw → Bool → List Tok → Option PRes} {res : PRes} (hr : ∀ p, r = some p → r' = some p) (hf : ∀ x c ts p, f x c ts = some p → f' x c ts = some p) (h : andR r f = some res) : andR r' f' = some res := by
  rcases andR_some h with ⟨x, c, ts, h1, h2⟩ | ⟨ts, h1, rfl⟩
  · rw [hr _ h1]; exact hf _ _ _ _ h2
  · rw [hr _ h1]; rfl

theorem bif_mono {b : Bool} {p q p' q' : Option PRes} {res : PRes} (hp : ∀ x, p = some x → p' = some x) (hq : ∀ x, q = some x → q' = some x) (h : (bif b then p else q) = some res) : (bif b then p' else q') = some res := by
  cases b
  · exact hq _ h
  · exact hp _ h

/-- More fuel does not matter. -/
theorem pr_succ : ∀ (f : Nat) (tag : Tag) (ts : List Tok) (res : PRes), pr f tag ts = some res → pr (f + 1) tag ts = some res := by
  intro f
  induction f with
  | zero => intro tag ts res h; cases h
  | succ f ih =>
    intro tag ts res h
    have id : ∀ {o : Option PRes} (p : PRes), o = some p → o = some p := fun p h => h
    cases tag with
    | expr =>
      rw [pr] at h ⊢
      exact bif_mono (fun p => ih _ _ p) (fun p => andR_mono (fun p => ih _ _ p) fun x c ts p => bif_mono id fun p => bif_mono (fun p => andR_mono (fun p => ih _ _ p) fun _ _ _ => id) fun p => ih _ _ p) h
    | atom =>
      rw [pr] at h ⊢
      exact bif_mono (fun p => bif_mono (fun p => andR_mono (fun p => ih _ _ p) fun _ _ _ => id) id) id h
    | app =>
      rw [pr] at h ⊢
      exact andR_mono (fun p => ih _ _ p) (fun _ _ _ p => andR_mono (fun p => ih _ _ p) fun _ _ _ p => bif_mono (fun p => andR_mono (fun p => ih _ _ p) fun _ _ _ => id) id) h
    | appL x =>
      rw [pr] at h ⊢
      exact bif_mono (fun p => andR_mono (fun p => ih _ _ p) fun _ _ _ p => ih _ _ p) id h
    | arrL x c =>
      rw [pr] at h ⊢
      exact bif_mono id (fun p => bif_mono (fun p => bif_mono (fun p => andR_mono (fun p => ih _ _ p) fun _ _ _ p => ih _ _ p) fun p => andR_mono (fun p => ih _ _ p) fun _ _ _ p => ih _ _ p) id) h
    | binder =>
      rw [pr] at h ⊢
      cases ht : ts.tail with
      | nil => rw [ht] at h; exact h
      | cons t r =>
        rw [ht] at h
        exact bif_mono (fun p => bif_mono (fun p => andR_mono (fun p => bif_mono (fun p => ih _ _ p) id) fun _ _ _ p => bif_mono (fun p => andR_mono (fun p => ih _ _ p) fun _ _ _ => id) id) id) id h

theorem pr_mono {f g : Nat} {tag : Tag} {ts : List Tok} {res : PRes} (h : pr f tag ts = some res) (hfg : f ≤ g) : pr g tag ts = some res := by
  induction hfg with
  | refl => exact h
  | step _ ih => exact pr_succ _ _ _ _ ih

/-- With some fuel. -/
def P (tag : Tag) (ts : List Tok) (res : PRes) : Prop := ∃ f, pr f tag ts = some res

theorem P.eq {tag : Tag} {ts : List Tok} {res res' : PRes} {f : Nat} (h : P tag ts res) (h' : pr f tag ts = some res') : res' = res := by
  obtain ⟨g, h⟩ := h
  have h1 := pr_mono h (Nat.le_max_left g f)
  have h2 := pr_mono h' (Nat.le_max_right g f)
  rw [h1] at h2
  cases h2; rfl

theorem P_app {ts ts1 ts2 : List Tok} {x y : Rw} {c c' : Bool} (h1 : P .atom ts (.ok x c ts1)) (h2 : P (.appL x) ts1 (.ok y c' ts2)) (h : sees ts2 [tLB, tLS] = false) : P .app ts (.ok y false ts2) := by
  obtain ⟨f, h1⟩ := h1
  obtain ⟨g, h2⟩ := h2
  refine ⟨max f g + 1, ?_⟩
  simp only [pr, pr_mono h1 (Nat.le_max_left f g), andR, pr_mono h2 (Nat.le_max_right f g), h, cond_false]

theorem P_step {ts ts1 : List Tok} {x y : Rw} {c : Bool} {res : PRes} (ha : atomicB ts = true) (h1 : P .atom ts (.ok y c ts1)) (h2 : P (.appL ⟨4, tNo, [x, y]⟩) ts1 res) : P (.appL x) ts res := by
  obtain ⟨f, h1⟩ := h1
  obtain ⟨g, h2⟩ := h2
  refine ⟨max f g + 1, ?_⟩
  simp only [pr, ha, cond_true, pr_mono h1 (Nat.le_max_left f g), andR, pr_mono h2 (Nat.le_max_right f g)]

theorem P_end {ts : List Tok} {x : Rw} (ha : atomicB ts = false) : P (.appL x) ts (.ok x false ts) := ⟨1, by simp only [pr, ha, cond_false]⟩

theorem P_paren {t : Tok} {r ts1 : List Tok} {x : Rw} {c : Bool} (hs : sees (t :: r) [tLP] = true) (h1 : P .expr r (.ok x c ts1)) (he : sees ts1 [tRP] = true) : P .atom (t :: r) (.ok x false ts1.tail) := by
  obtain ⟨f, h1⟩ := h1
  refine ⟨f + 1, ?_⟩
  have ha : atomicB (t :: r) = true := by simp only [atomicB, hs, Bool.or_true]
  simp only [pr, ha, hs, cond_true, List.tail_cons, h1, andR, he]

theorem P_one {t : Tok} {r : List Tok} (ha : atomicB (t :: r) = true) (hs : sees (t :: r) [tLP] = false) : P .atom (t :: r) (.ok (atomOf (t :: r)) false r) := ⟨1, by simp only [pr, ha, hs, cond_true, cond_false, List.tail_cons]⟩

theorem P_plain {ts ts1 : List Tok} {x : Rw} (hs : sees ts [tLB, tLS] = false) (h1 : P .app ts (.ok x false ts1)) (h2 : sees ts1 [tAr] = false) (h3 : sees ts1 [tAl] = false) : P .expr ts (.ok x false ts1) := by
  obtain ⟨f, h1⟩ := h1
  refine ⟨f + 2, ?_⟩
  have h4 : pr (f + 1) (.arrL x false) ts1 = some (.ok x false ts1) := by simp only [pr, cond_false, h3]
  rw [pr]
  simp only [hs, cond_false, pr_mono h1 (Nat.le_succ f), andR, h2, h4]

theorem P_arrow {ts ts1 ts2 : List Tok} {x y : Rw} {c : Bool} (hs : sees ts [tLB, tLS] = false) (h1 : P .app ts (.ok x false ts1)) (h2 : sees ts1 [tAr] = true) (h3 : P .expr ts1.tail (.ok y c ts2)) : P .expr ts (.ok ⟨6, tNo, [x, y]⟩ false ts2) := by
  obtain ⟨f, h1⟩ := h1
  obtain ⟨g, h3⟩ := h3
  refine ⟨max f g + 1, ?_⟩
  simp only [pr, hs, cond_false, pr_mono h1 (Nat.le_max_left f g), andR, h2, cond_true, pr_mono h3 (Nat.le_max_right f g)]

/-- The first arrow that points back, and the loop. -/
theorem P_backs {ts ts1 : List Tok} {x : Rw} {res : PRes} (hs : sees ts [tLB, tLS] = false) (h1 : P .app ts (.ok x false ts1)) (h2 : sees ts1 [tAr] = false) (h3 : P (.arrL x false) ts1 res) : P .expr ts res := by
  obtain ⟨f, h1⟩ := h1
  obtain ⟨g, h3⟩ := h3
  refine ⟨max f g + 1, ?_⟩
  simp only [pr, hs, cond_false, pr_mono h1 (Nat.le_max_left f g), andR, h2, pr_mono h3 (Nat.le_max_right f g)]

theorem P_back {ts ts1 : List Tok} {x y : Rw} {c : Bool} {res : PRes} (hs : sees ts [tAl] = true) (hb : sees ts.tail [tLB, tLS] = false) (h1 : P .app ts.tail (.ok y c ts1)) (h2 : P (.arrL ⟨6, tNo, [y, x]⟩ c) ts1 res) : P (.arrL x false) ts res := by
  obtain ⟨f, h1⟩ := h1
  obtain ⟨g, h2⟩ := h2
  refine ⟨max f g + 1, ?_⟩
  simp only [pr, hs, cond_false, cond_true, hb, pr_mono h1 (Nat.le_max_left f g), andR, pr_mono h2 (Nat.le_max_right f g)]

theorem P_backE {ts : List Tok} {x : Rw} (hs : sees ts [tAl] = false) : P (.arrL x false) ts (.ok x false ts) := ⟨1, by simp only [pr, hs, cond_false]⟩

theorem P_binder {ts : List Tok} {res : PRes} (hs : sees ts [tLB, tLS] = true) (h : P .binder ts res) : P .expr ts res := by
  obtain ⟨f, h⟩ := h
  exact ⟨f + 1, by simp only [pr, hs, cond_true, h]⟩

theorem P_bnd {t0 t : Tok} {r ts1 ts2 : List Tok} {x y : Rw} {c c' lam : Bool} (hs : sees (t0 :: t :: r) [tLB, tLS] = true) (hl : sees (t0 :: t :: r) [tLS] = lam) (hn : isNameB t = true)
    (hd : (sees r [tCo] = true ∧ P .expr r.tail (.ok x c ts1)) ∨ (sees r [tCo] = false ∧ x = ⟨3, tNo, []⟩ ∧ ts1 = r)) (he : sees ts1 [bif lam then tRS else tRB] = true) (h2 : P .expr ts1.tail (.ok y c' ts2)) :
    P .binder (t0 :: t :: r) (.ok ⟨bif lam then 7 else 5, t.text, [x, y]⟩ false ts2) := by
  obtain ⟨g, h2⟩ := h2
  rcases hd with ⟨hc, f, h1⟩ | ⟨hc, rfl, rfl⟩
  · refine ⟨max f g + 1, ?_⟩
    simp only [pr, List.tail_cons, hs, cond_true, hn, hc, pr_mono h1 (Nat.le_max_left f g), andR, hl, he, pr_mono h2 (Nat.le_max_right f g)]
  · refine ⟨g + 1, ?_⟩
    simp only [pr, List.tail_cons, hs, cond_true, hn, hc, cond_false, andR, hl, he, h2]

/-! ### Tokens without positions -/

abbrev Wd := Int × List UInt8

def shape (t : Tok) : Wd := (t.kind, t.text.data.toList)

def Tw (ts : List Tok) (ws : List Wd) : Prop := ts.map shape = ws

theorem Tw_cons {ts : List Tok} {w : Wd} {ws : List Wd} (h : Tw ts (w :: ws)) : ∃ t r, ts = t :: r ∧ t.kind = w.1 ∧ t.text = mk w.2 ∧ Tw r ws := by
  cases ts with
  | nil => cases h
  | cons t r =>
    simp only [Tw, List.map_cons, List.cons.injEq] at h
    refine ⟨t, r, rfl, by rw [← h.1]; rfl, ?_, h.2⟩
    rw [← h.1]; exact mk_of t.text

theorem strEq_lit (a b : List UInt8) : strEq (mk a) (mk b) = (a == b) := strEq_mk a b

/-- A sign that comes next. -/
def seesW (ws : List Wd) (ss : List (List UInt8)) : Bool :=
  match ws with
  | [] => false
  | w :: _ => w.1 == 4 && ss.any (w.2 == ·)

theorem sees_W {ts : List Tok} {ws : List Wd} (h : Tw ts ws) (ss : List (List UInt8)) : sees ts (ss.map mk) = seesW ws ss := by
  cases ws with
  | nil => cases ts with | nil => rfl | cons _ _ => cases h
  | cons w ws =>
    obtain ⟨t, r, rfl, h1, h2, _⟩ := Tw_cons h
    simp only [sees, seesW, h1, h2, List.any_map]
    congr 1
    induction ss with
    | nil => rfl
    | cons s ss ih => simp only [List.any_cons, ih, Function.comp_apply, strEq_mk]

def atomW (ws : List Wd) : Bool :=
  match ws with
  | [] => false
  | w :: _ => w.1 == 1 || (w.1 == 2 || (w.1 == 3 || seesW ws [[40]]))

theorem atomic_W {ts : List Tok} {ws : List Wd} (h : Tw ts ws) : atomicB ts = atomW ws := by
  cases ws with
  | nil => cases ts with | nil => rfl | cons _ _ => cases h
  | cons w ws =>
    have h3 := sees_W h [[40]]
    obtain ⟨t, r, rfl, h1, h2, _⟩ := Tw_cons h
    simp only [atomicB, atomW, h1]
    have h3' : sees (t :: r) [tLP] = seesW (w :: ws) [[40]] := h3
    rw [h3']

theorem atom_not_bind {ws : List Wd} (h : atomW ws = true) : seesW ws [[123], [91]] = false := by
  cases ws with
  | nil => rfl
  | cons w ws =>
    simp only [atomW, seesW, Bool.or_eq_true, beq_iff_eq, Bool.and_eq_true, List.any_cons, List.any_nil, Bool.or_false] at h ⊢
    rcases h with h | h | h | ⟨h, h'⟩
    · simp [h]
    · simp [h]
    · simp [h]
    · simp [h']

/-- A name's token. -/
def nmW (w : List UInt8) : Wd := (match w with | [] => 1 | c :: _ => bif smallB (c.toNat : Int) then 1 else 2, w)

def parW (b : Bool) (l : List Wd) : List Wd := bif b then (4, [40]) :: (l ++ [(4, [41])]) else l

/-- The tokens of an expression's text. -/
def Xp.tks : Xp → List Wd
  | .ty => [(1, tyB)]
  | .hole => [(3, [95])]
  | .nm w => [nmW w]
  | .app a b => parW a.wide a.tks ++ parW (b.wide || b.isApp) b.tks
  | .arr a b => parW a.wide a.tks ++ [(4, [45, 62])] ++ b.tks
  | .bnd l w a b => [(4, bif l then [91] else [123]), nmW w] ++ (bif a.isHole then [] else (4, [58]) :: a.tks) ++ [(4, bif l then [93] else [125])] ++ b.tks

/-- What may stand behind an expression. -/
def Fol (ws : List Wd) : Prop := ∃ w r, ws = w :: r ∧ (w = (4, [41]) ∨ w = (4, [93]) ∨ w = (4, [125]) ∨ w.1 = 7)

theorem Fol.facts {ws : List Wd} (h : Fol ws) : atomW ws = false ∧ seesW ws [[123], [91]] = false ∧ seesW ws [[45, 62]] = false ∧ seesW ws [[60, 45]] = false := by
  obtain ⟨w, r, rfl, rfl | rfl | rfl | h⟩ := h
  · exact ⟨rfl, rfl, rfl, rfl⟩
  · exact ⟨rfl, rfl, rfl, rfl⟩
  · exact ⟨rfl, rfl, rfl, rfl⟩
  · refine ⟨?_, ?_, ?_, ?_⟩ <;> simp [atomW, seesW, h]

theorem nmW_kind {w : List UInt8} (h : nmOk w = true) : ((nmW w).1 = 1 ∨ (nmW w).1 = 2) ∧ (w == tyB) = false := by
  simp only [nmOk, Bool.and_eq_true, Bool.not_eq_true'] at h
  refine ⟨?_, h.2⟩
  cases w with
  | nil => exact .inl rfl
  | cons c r => simp only [nmW]; cases smallB (c.toNat : Int) <;> simp

theorem nm_isName {t : Tok} {w : List UInt8} (h : nmOk w = true) (hk : t.kind = (nmW w).1) (ht : t.text = mk w) : isNameB t = true := by
  obtain ⟨h1, h2⟩ := nmW_kind h
  have e : strEq (mk w) tTy = false := (strEq_mk w tyB).trans h2
  simp only [isNameB, hk, ht, e]
  rcases h1 with h1 | h1 <;> rw [h1] <;> rfl

theorem Tw_append {ts : List Tok} {a b : List Wd} (h : Tw ts (a ++ b)) : ∃ t1 t2, ts = t1 ++ t2 ∧ Tw t1 a ∧ Tw t2 b := by
  obtain ⟨t1, t2, h1, h2, h3⟩ := List.map_eq_append_iff.1 h
  exact ⟨t1, t2, h1, h2, h3⟩

/-- What is shown of an expression's tokens. -/
structure Reads1 (e : Xp) : Prop where
  expr : ∀ ts ws, Tw ts (e.tks ++ ws) → Fol ws → ∃ c tsr, Tw tsr ws ∧ P .expr ts (.ok e.rw c tsr)
  spine : ∀ ts ws, Tw ts (parW e.wide e.tks ++ ws) → ∃ x c ts1 tsr, Tw tsr ws ∧ atomicB ts = true ∧ P .atom ts (.ok x c ts1) ∧ ∀ res, P (.appL e.rw) tsr res → P (.appL x) ts1 res
  atom : ∀ ts ws, Tw ts (parW (e.wide || e.isApp) e.tks ++ ws) → ∃ c tsr, Tw tsr ws ∧ atomicB ts = true ∧ P .atom ts (.ok e.rw c tsr)

/-- In parentheses everything is an atom. -/
theorem paren_atom {e : Xp} (he : ∀ ts ws, Tw ts (e.tks ++ ws) → Fol ws → ∃ c tsr, Tw tsr ws ∧ P .expr ts (.ok e.rw c tsr)) : ∀ ts ws, Tw ts (parW true e.tks ++ ws) → ∃ c tsr, Tw tsr ws ∧ atomicB ts = true ∧ P .atom ts (.ok e.rw c tsr) := by
  intro ts ws h
  simp only [parW, cond_true, List.cons_append, List.append_assoc, List.nil_append] at h
  have ha := atomic_W h
  have hs := sees_W h [[40]]
  obtain ⟨t, r, rfl, _, _, h⟩ := Tw_cons h
  obtain ⟨c, tsr, h1, h2⟩ := he r _ h ⟨_, _, rfl, .inl rfl⟩
  have hs1 := sees_W h1 [[41]]
  obtain ⟨t1, r1, rfl, _, _, h1⟩ := Tw_cons h1
  exact ⟨false, r1, h1, ha, P_paren hs h2 hs1⟩

theorem atom_spine {e : Xp} (he : ∀ ts ws, Tw ts (parW e.wide e.tks ++ ws) → ∃ c tsr, Tw tsr ws ∧ atomicB ts = true ∧ P .atom ts (.ok e.rw c tsr)) :
    ∀ ts ws, Tw ts (parW e.wide e.tks ++ ws) → ∃ x c ts1 tsr, Tw tsr ws ∧ atomicB ts = true ∧ P .atom ts (.ok x c ts1) ∧ ∀ res, P (.appL e.rw) tsr res → P (.appL x) ts1 res := by
  intro ts ws h
  obtain ⟨c, tsr, h1, h2, h3⟩ := he ts ws h
  exact ⟨_, c, tsr, tsr, h1, h2, h3, fun _ h => h⟩

/-- A spine without a binder at its end is an expression. -/
theorem spine_expr {e : Xp} (hw : e.wide = false) (he : ∀ ts ws, Tw ts (parW e.wide e.tks ++ ws) → ∃ x c ts1 tsr, Tw tsr ws ∧ atomicB ts = true ∧ P .atom ts (.ok x c ts1) ∧ ∀ res, P (.appL e.rw) tsr res → P (.appL x) ts1 res) :
    ∀ ts ws, Tw ts (e.tks ++ ws) → Fol ws → ∃ c tsr, Tw tsr ws ∧ P .expr ts (.ok e.rw c tsr) := by
  intro ts ws h hf
  rw [hw] at he
  obtain ⟨x, c, ts1, tsr, h1, h2, h3, h4⟩ := he ts ws h
  obtain ⟨f1, f2, f3, f4⟩ := hf.facts
  have a1 := atomic_W h1
  have hb : sees ts [tLB, tLS] = false := by
    have := sees_W h [[123], [91]]
    refine this.trans (atom_not_bind ?_)
    rw [← atomic_W h]; exact h2
  exact ⟨false, tsr, h1, P_plain hb (P_app h3 (h4 _ (P_end (a1.trans f1))) ((sees_W h1 [[123], [91]]).trans f2)) ((sees_W h1 [[45, 62]]).trans f3) ((sees_W h1 [[60, 45]]).trans f4)⟩

/-- An atom of one token. -/
theorem one_atom {e : Xp} {w : Wd} (hw : e.wide = false) (ha : e.isApp = false) (ht : e.tks = [w]) (hk : w.1 = 1 ∨ w.1 = 2 ∨ w.1 = 3) (ho : ∀ t r, t.kind = w.1 → t.text = mk w.2 → atomOf (t :: r) = e.rw) : Reads1 e := by
  have key : ∀ ts ws, Tw ts ([w] ++ ws) → ∃ c tsr, Tw tsr ws ∧ atomicB ts = true ∧ P .atom ts (.ok e.rw c tsr) := by
    intro ts ws h
    simp only [List.cons_append, List.nil_append] at h
    have hA : atomicB ts = true := by
      rw [atomic_W h]
      rcases hk with hk | hk | hk <;> simp [atomW, hk]
    have hS : sees ts [tLP] = false := by
      refine (sees_W h [[40]]).trans ?_
      rcases hk with hk | hk | hk <;> simp [seesW, hk]
    obtain ⟨t, r, rfl, h1, h2, h⟩ := Tw_cons h
    refine ⟨false, r, h, hA, ?_⟩
    rw [← ho t r h1 h2]
    exact P_one hA hS
  have sp := atom_spine (e := e) (by rw [hw, ht]; exact key)
  exact ⟨spine_expr hw sp, sp, by rw [hw, ha, ht]; exact key⟩

theorem reads1X (e : Xp) : e.Nm → Reads1 e := by
  induction e with
  | ty =>
    intro _
    refine one_atom rfl rfl rfl (.inl rfl) fun t r hk ht => ?_
    have e : strEq (mk tyB) tTy = true := (strEq_mk tyB tyB).trans rfl
    simp only [atomOf, hk, ht, e]; rfl
  | hole =>
    intro _
    refine one_atom rfl rfl rfl (.inr (.inr rfl)) fun t r hk ht => ?_
    simp only [atomOf, hk]; rfl
  | nm w =>
    intro hn
    obtain ⟨h1, h2⟩ := nmW_kind (w := w) hn
    refine one_atom rfl rfl rfl (by rcases h1 with h1 | h1; exact .inl h1; exact .inr (.inl h1)) fun t r hk ht => ?_
    have e : strEq (mk w) tTy = false := (strEq_mk w tyB).trans h2
    have hk3 : (t.kind == 3) = false := by rw [hk]; rcases h1 with h1 | h1 <;> rw [h1] <;> rfl
    have ht' : t.text = mk w := ht
    simp only [atomOf, hk3, ht', e]; rfl
  | app a b iha ihb =>
    intro hn
    have ra := iha hn.1
    have rb := ihb hn.2
    have sp : ∀ ts ws, Tw ts (parW (Xp.app a b).wide (Xp.app a b).tks ++ ws) → ∃ x c ts1 tsr, Tw tsr ws ∧ atomicB ts = true ∧ P .atom ts (.ok x c ts1) ∧ ∀ res, P (.appL (Xp.app a b).rw) tsr res → P (.appL x) ts1 res := by
      intro ts ws h
      have h' : Tw ts (parW a.wide a.tks ++ (parW (b.wide || b.isApp) b.tks ++ ws)) := by
        rw [← List.append_assoc]; exact h
      obtain ⟨x, c, ts1, ts2, h1, h2, h3, h4⟩ := ra.spine ts _ h'
      obtain ⟨c2, tsr, h5, h6, h7⟩ := rb.atom ts2 ws h1
      exact ⟨x, c, ts1, tsr, h5, h2, h3, fun res hr => h4 res (P_step h6 h7 hr)⟩
    have ex := spine_expr (e := .app a b) rfl sp
    exact ⟨ex, sp, paren_atom ex⟩
  | arr a b iha ihb =>
    intro hn
    have ra := iha hn.1
    have rb := ihb hn.2
    have ex : ∀ ts ws, Tw ts ((Xp.arr a b).tks ++ ws) → Fol ws → ∃ c tsr, Tw tsr ws ∧ P .expr ts (.ok (Xp.arr a b).rw c tsr) := by
      intro ts ws h hf
      have h' : Tw ts (parW a.wide a.tks ++ ((4, [45, 62]) :: (b.tks ++ ws))) := by
        have : (Xp.arr a b).tks ++ ws = parW a.wide a.tks ++ ((4, [45, 62]) :: (b.tks ++ ws)) := by simp [Xp.tks]
        rw [← this]; exact h
      obtain ⟨x, c, ts1, ts2, h1, h2, h3, h4⟩ := ra.spine ts _ h'
      have a1 : atomicB ts2 = false := atomic_W h1
      have b1 : sees ts2 [tLB, tLS] = false := sees_W h1 [[123], [91]]
      have b2 : sees ts2 [tAr] = true := sees_W h1 [[45, 62]]
      obtain ⟨t, r, rfl, _, _, h1⟩ := Tw_cons h1
      obtain ⟨c2, tsr, h5, h6⟩ := rb.expr r ws h1 hf
      have hb : sees ts [tLB, tLS] = false := (sees_W h' [[123], [91]]).trans (atom_not_bind (by rw [← atomic_W h']; exact h2))
      exact ⟨false, tsr, h5, P_arrow hb (P_app h3 (h4 _ (P_end a1)) b1) b2 h6⟩
    have pa := paren_atom ex
    exact ⟨ex, atom_spine pa, pa⟩
  | bnd l w a b iha ihb =>
    intro hn
    have ra := iha hn.2.1
    have rb := ihb hn.2.2
    have ex : ∀ ts ws, Tw ts ((Xp.bnd l w a b).tks ++ ws) → Fol ws → ∃ c tsr, Tw tsr ws ∧ P .expr ts (.ok (Xp.bnd l w a b).rw c tsr) := by
      intro ts ws h hf
      have h' : Tw ts ((4, bif l then [91] else [123]) :: nmW w :: ((bif a.isHole then [] else (4, [58]) :: a.tks) ++ ((4, bif l then [93] else [125]) :: (b.tks ++ ws)))) := by
        have : (Xp.bnd l w a b).tks ++ ws = (4, bif l then [91] else [123]) :: nmW w :: ((bif a.isHole then [] else (4, [58]) :: a.tks) ++ ((4, bif l then [93] else [125]) :: (b.tks ++ ws))) := by simp [Xp.tks]
        rw [← this]; exact h
      have s1 : sees ts [tLB, tLS] = true := (sees_W h' [[123], [91]]).trans (by cases l <;> rfl)
      have s2 : sees ts [tLS] = l := (sees_W h' [[91]]).trans (by cases l <;> rfl)
      obtain ⟨t0, r0, rfl, _, _, h'⟩ := Tw_cons h'
      obtain ⟨t, r, rfl, k1, k2, h'⟩ := Tw_cons h'
      have hN : isNameB t = true := nm_isName hn.1 k1 k2
      have hF : Fol ((4, bif l then [93] else [125]) :: (b.tks ++ ws)) := by
        cases l
        · exact ⟨_, _, rfl, .inr (.inr (.inl rfl))⟩
        · exact ⟨_, _, rfl, .inr (.inl rfl)⟩
      have dom : ∃ c ts1, Tw ts1 ((4, bif l then [93] else [125]) :: (b.tks ++ ws)) ∧ ((sees r [tCo] = true ∧ P .expr r.tail (.ok a.rw c ts1)) ∨ (sees r [tCo] = false ∧ a.rw = ⟨3, tNo, []⟩ ∧ ts1 = r)) := by
        cases hh : a.isHole with
        | true =>
          rw [hh] at h'
          have hc : sees r [tCo] = false := (sees_W h' [[58]]).trans (by cases l <;> rfl)
          refine ⟨false, r, h', .inr ⟨hc, ?_, rfl⟩⟩
          cases a <;> first | rfl | cases hh
        | false =>
          rw [hh] at h'
          simp only [cond_false, List.cons_append] at h'
          have hc : sees r [tCo] = true := sees_W h' [[58]]
          obtain ⟨t2, r2, rfl, _, _, h'⟩ := Tw_cons h'
          obtain ⟨c, ts1, h5, h6⟩ := ra.expr r2 _ h' hF
          exact ⟨c, ts1, h5, .inl ⟨hc, h6⟩⟩
      obtain ⟨c, ts1, h5, hd⟩ := dom
      have he : sees ts1 [bif l then tRS else tRB] = true := by
        have := sees_W h5 [bif l then [93] else [125]]
        cases l <;> exact this
      obtain ⟨t3, r3, rfl, _, _, h5⟩ := Tw_cons h5
      obtain ⟨c2, tsr, h7, h8⟩ := rb.expr r3 ws h5 hf
      have hP := P_binder s1 (P_bnd s1 s2 hN hd he h8)
      rw [k2] at hP
      exact ⟨false, tsr, h7, hP⟩
    have pa := paren_atom ex
    exact ⟨ex, atom_spine pa, pa⟩

end Go.Proofs.YtanfoijdfcnpoaaDoor.Ev
