/- This file proves that the reference's reader of raw expressions does what the plain reader says, and what the reference's Expr returns; without any condition. -/
import Derived.Test.YtanfoijdfcnpoaaGreatDoorR5
set_option linter.unusedVariables false
set_option linter.unusedSimpArgs false
namespace Go.Proofs.YtanfoijdfcnpoaaGreatDoor.Ev

/-- What the reference reader's small functions do. -/
structure Hr (k : Nat) : Prop where
  now : ∀ l t r b, t :: r <:+ l → ∀ (ρ : Type) K, (Tabs k).c36_0 ρ l (posT l (t :: r)) b K = K t l (posT l (t :: r)) b
  is : ∀ w l ts, ts <:+ l → ts ≠ [] → ∀ (ρ : Type) K, (Tabs k).c76_0 ρ w l (posT l ts) false K = K (sees ts [w]) l (posT l ts) false
  isBad : ∀ w l n (ρ : Type) K, (Tabs k).c76_0 ρ w l n true K = K false l n true
  binds : ∀ l ts, ts <:+ l → ts ≠ [] → ∀ (ρ : Type) K, (Tabs k).c73_0 ρ l (posT l ts) false K = K (sees ts [tLB, tLS]) l (posT l ts) false
  bindsBad : ∀ l n (ρ : Type) K, (Tabs k).c73_0 ρ l n true K = K false l n true
  atoms : ∀ l ts, ts <:+ l → ts ≠ [] → ∀ (ρ : Type) K, (Tabs k).c125_0 ρ l (posT l ts) false K = K (atomicB ts) l (posT l ts) false
  name : ∀ l t r, t :: r <:+ l → l.length ≤ 100000 → TokOk t → ∀ (ρ : Type) K, (Tabs k).c89_0 ρ l (posT l (t :: r)) false K = bif isNameB t then K t.text l (posT l r) false else K tNo l (posT l (t :: r)) true
  skip : ∀ w l t r, t :: r <:+ l → l.length ≤ 100000 → ∀ (ρ : Type) K, (Tabs k).c90_0 ρ w l (posT l (t :: r)) false K = bif sees (t :: r) [w] then K l (posT l r) false else K l (posT l (t :: r)) true
  skipBad : ∀ w l n (ρ : Type) K, (Tabs k).c90_0 ρ w l n true K = K l n true
  exprBad : ∀ l n (ρ : Type) K, (Tabs k).c35_0 ρ l n true K = K zR l n true
  appLBad : ∀ l ts, ts <:+ l → ts ≠ [] → ∀ z x (ρ : Type) K, (Tabs k).l75_2_0 ρ l (posT l ts) true z x K = K l (posT l ts) true z x
  arrLBad : ∀ c l n z x (ρ : Type) K, (Tabs k).l35_9_0 ρ c l n true z x K = K l n true z x

theorem r_now : Evt fun k => ∀ l t r b, t :: r <:+ l → ∀ (ρ : Type) K, (Tabs k).c36_0 ρ l (posT l (t :: r)) b K = K t l (posT l (t :: r)) b := Evt.step0 fun k l t r b h ρ K => by
  rw [show (Tabs (k + 1)).c36_0 = Gc36_0 (Tabs k) from rfl]
  simp only [Gc36_0, posT_in h, cond_true, posT_rd h, Tok.eta]

theorem r_is : Evt fun k => (∀ w l ts, ts <:+ l → ts ≠ [] → ∀ (ρ : Type) K, (Tabs k).c76_0 ρ w l (posT l ts) false K = K (sees ts [w]) l (posT l ts) false) ∧
    ∀ w l n (ρ : Type) K, (Tabs k).c76_0 ρ w l n true K = K false l n true := r_now.step fun k h1 => by
  refine ⟨fun w l ts h hne ρ K => ?_, fun w l n ρ K => ?_⟩
  · cases ts with
    | nil => exact absurd rfl hne
    | cons t r =>
      rw [show (Tabs (k + 1)).c76_0 = Gc76_0 (Tabs k) from rfl]
      simp only [Gc76_0, Bool.not_false, cond_true, h1 l t r _ h, sees, List.any_cons, List.any_nil, Bool.or_false]
      cases t.kind == 4 <;> rfl
  · rw [show (Tabs (k + 1)).c76_0 = Gc76_0 (Tabs k) from rfl]
    simp only [Gc76_0, Bool.not_true, cond_false]

theorem r_binds : Evt fun k => (∀ l ts, ts <:+ l → ts ≠ [] → ∀ (ρ : Type) K, (Tabs k).c73_0 ρ l (posT l ts) false K = K (sees ts [tLB, tLS]) l (posT l ts) false) ∧
    ∀ l n (ρ : Type) K, (Tabs k).c73_0 ρ l n true K = K false l n true := r_is.step fun k ⟨h1, h2⟩ => by
  refine ⟨fun l ts h hne ρ K => ?_, fun l n ρ K => ?_⟩
  · rw [show (Tabs (k + 1)).c73_0 = Gc73_0 (Tabs k) from rfl]
    simp only [Gc73_0, h1 _ l ts h hne]
    cases ts with
    | nil => exact absurd rfl hne
    | cons t r =>
      simp only [sees, List.any_cons, List.any_nil, Bool.or_false]
      cases t.kind == 4 <;> cases strEq t.text tLB <;> cases strEq t.text tLS <;> rfl
  · rw [show (Tabs (k + 1)).c73_0 = Gc73_0 (Tabs k) from rfl]
    simp only [Gc73_0, h2, cond_false]

theorem r_atoms : Evt fun k => (∀ l ts, ts <:+ l → ts ≠ [] → ∀ (ρ : Type) K, (Tabs k).c125_0 ρ l (posT l ts) false K = K (atomicB ts) l (posT l ts) false) ∧
    ∀ l ts, ts <:+ l → ts ≠ [] → ∀ (ρ : Type) K, (Tabs k).c125_0 ρ l (posT l ts) true K = K false l (posT l ts) true := (r_now.and r_is).step fun k ⟨h1, h2, h3⟩ => by
  refine ⟨fun l ts h hne ρ K => ?_, fun l ts h hne ρ K => ?_⟩
  · cases ts with
    | nil => exact absurd rfl hne
    | cons t r =>
      rw [show (Tabs (k + 1)).c125_0 = Gc125_0 (Tabs k) from rfl]
      simp only [Gc125_0, h1 l t r _ h, Bool.not_false, cond_true, h2 _ l _ h hne, atomicB]
      cases t.kind == 1 <;> cases t.kind == 2 <;> cases t.kind == 3 <;> simp
  · cases ts with
    | nil => exact absurd rfl hne
    | cons t r =>
      rw [show (Tabs (k + 1)).c125_0 = Gc125_0 (Tabs k) from rfl]
      simp only [Gc125_0, h1 l t r _ h, Bool.not_true, cond_false]

theorem r_isN : Evt fun k => ∀ (t : Tok), TokOk t → ∀ (ρ : Type) K, (Tabs k).c130_0 ρ t K = K (isNameB t) := Evt.step0 fun k t ht ρ K => by
  rw [show (Tabs (k + 1)).c130_0 = Gc130_0 (Tabs k) from rfl]
  simp only [Gc130_0, isNameB]
  cases h1 : t.kind == 1 with
  | true =>
    have : t.kind = 1 := eq_of_beq h1
    have h2 : (t.kind == 2) = false := by rw [this]; rfl
    simp only [h2, cond_true, Bool.false_or, Bool.true_and]
  | false =>
    cases h2 : t.kind == 2 with
    | true =>
      have := ht.cap (eq_of_beq h2)
      simp only [this, cond_true, cond_false, Bool.not_false, Bool.true_or]
    | false => simp only [cond_false, Bool.false_or, Bool.false_and]

theorem r_name : Evt fun k => ∀ l t r, t :: r <:+ l → l.length ≤ 100000 → TokOk t → ∀ (ρ : Type) K, (Tabs k).c89_0 ρ l (posT l (t :: r)) false K = bif isNameB t then K t.text l (posT l r) false else K tNo l (posT l (t :: r)) true :=
  (r_now.and r_isN).step fun k ⟨h1, h2⟩ l t r h hl ht ρ K => by
    rw [show (Tabs (k + 1)).c89_0 = Gc89_0 (Tabs k) from rfl]
    have e : IntKind.wrap .i64 (posT l r - 1) = posT l (t :: r) := by
      have := h.length_le
      simp only [List.length_cons] at this
      unfold posT
      rw [W_id (by omega) (by omega)]
      simp only [List.length_cons]; omega
    simp only [Gc89_0, cond_false, h1 l t r _ h, Tok.eta, h2 t ht, posT_next h hl, e, posT_in h, cond_true, posT_rd h]
    cases isNameB t <;> rfl

theorem r_skip : Evt fun k => (∀ w l t r, t :: r <:+ l → l.length ≤ 100000 → ∀ (ρ : Type) K, (Tabs k).c90_0 ρ w l (posT l (t :: r)) false K = bif sees (t :: r) [w] then K l (posT l r) false else K l (posT l (t :: r)) true) ∧
    ∀ w l n (ρ : Type) K, (Tabs k).c90_0 ρ w l n true K = K l n true := r_is.step fun k ⟨h1, h2⟩ => by
  refine ⟨fun w l t r h hl ρ K => ?_, fun w l n ρ K => ?_⟩
  · rw [show (Tabs (k + 1)).c90_0 = Gc90_0 (Tabs k) from rfl]
    simp only [Gc90_0, h1 w l _ h (List.cons_ne_nil _ _), posT_next h hl]
    cases sees (t :: r) [w] <;> rfl
  · rw [show (Tabs (k + 1)).c90_0 = Gc90_0 (Tabs k) from rfl]
    simp only [Gc90_0, h2, Bool.not_false, cond_true]

theorem r_exprBad : Evt fun k => ∀ l n (ρ : Type) K, (Tabs k).c35_0 ρ l n true K = K zR l n true := Evt.step0 fun k l n ρ K => by
  rw [show (Tabs (k + 1)).c35_0 = Gc35_0 (Tabs k) from rfl]
  simp only [Gc35_0, cond_true]

theorem r_appLBad : Evt fun k => ∀ l ts, ts <:+ l → ts ≠ [] → ∀ z x (ρ : Type) K, (Tabs k).l75_2_0 ρ l (posT l ts) true z x K = K l (posT l ts) true z x := r_atoms.step fun k ⟨_, h2⟩ l ts h hne z x ρ K => by
  rw [show (Tabs (k + 1)).l75_2_0 = Gl75_2_0 (Tabs k) from rfl]
  simp only [Gl75_2_0, h2 l ts h hne, cond_false, Rw.eta]

theorem r_arrLBad : Evt fun k => ∀ c l n z x (ρ : Type) K, (Tabs k).l35_9_0 ρ c l n true z x K = K l n true z x := r_is.step fun k ⟨_, h2⟩ c l n z x ρ K => by
  rw [show (Tabs (k + 1)).l35_9_0 = Gl35_9_0 (Tabs k) from rfl]
  simp only [Gl35_9_0, h2, cond_false, Rw.eta]
  cases c <;> rfl

theorem hr : Evt Hr := (r_now.and (r_is.and (r_binds.and (r_atoms.and (r_name.and (r_skip.and (r_exprBad.and (r_appLBad.and r_arrLBad)))))))).mono fun k ⟨h1, ⟨h2, h3⟩, ⟨h4, h5⟩, ⟨h6, _⟩, h7, ⟨h8, h9⟩, h10, h11, h12⟩ =>
  ⟨h1, h2, h3, h4, h5, h6, h7, h8, h9, h10, h11, h12⟩

/-- A reader leaves the value v (closed: c), the tokens ts', and whether it is stopped: b. -/
def RR (l ts : List Tok) (v : Rw) (c : Bool) (ts' : List Tok) (b : Bool) : Tag → Nat → Prop
  | .expr, k => ∀ (ρ : Type) K, (Tabs k).c35_0 ρ l (posT l ts) false K = K v l (posT l ts') b
  | .atom, k => ∀ (ρ : Type) K, (Tabs k).c124_0 ρ l (posT l ts) false K = K v l (posT l ts') b
  | .app, k => ∀ (ρ : Type) K, (Tabs k).c75_0 ρ l (posT l ts) false K = K v c l (posT l ts') b
  | .appL x, k => ∀ (ρ : Type) z K, (Tabs k).l75_2_0 ρ l (posT l ts) false z x K = K l (posT l ts') b z v
  | .arrL x c0, k => ∀ (ρ : Type) z K, (Tabs k).l35_9_0 ρ c0 l (posT l ts) false z x K = K l (posT l ts') b z v
  | .binder, k => sees ts [tLB, tLS] = true → ∀ (ρ : Type) K, (Tabs k).c74_0 ρ l (posT l ts) false K = K v l (posT l ts') b

def PRes.bad : PRes → Bool
  | .ok .. => false
  | .err _ => true

def RunsR (l ts : List Tok) (res : PRes) (tag : Tag) : Prop :=
  match res with
  | .ok x c ts' => Evt (RR l ts x c ts' false tag)
  | .err ts' => ∃ v c, Evt (RR l ts v c ts' true tag)

/-- Both ends at once. -/
theorem RunsR.get {l ts : List Tok} {res : PRes} {tag : Tag} (h : RunsR l ts res tag) : ∃ v c, Evt (RR l ts v c res.rest res.bad tag) := by
  cases res with
  | ok x c ts' => exact ⟨x, c, h⟩
  | err ts' => exact h

theorem pr_runsR : ∀ (f : Nat) (tag : Tag) (ts : List Tok) (res : PRes), pr f tag ts = some res → ∀ l, l.length ≤ 100000 → (∀ t ∈ l, TokOk t) → ts <:+ l → Gd ts → RunsR l ts res tag := by
  intro f
  induction f with
  | zero => intro tag ts res h; cases h
  | succ f ih =>
    intro tag ts res h l hl hok hsf hg
    have hne : ts ≠ [] := hg.ne
    have K : ∀ {tag ts x c ts1}, pr f tag ts = some (.ok x c ts1) → Gd ts → ts <:+ l → Gd ts1 ∧ ts1 <:+ l := by
      intro tag ts x c ts1 h hg hs
      obtain ⟨a1, a2, a3⟩ := pr_keeps _ _ _ _ h hg
      exact ⟨a2, a1.trans hs⟩
    have KE : ∀ {tag ts ts1}, pr f tag ts = some (.err ts1) → Gd ts → ts <:+ l → Gd ts1 ∧ ts1 <:+ l := by
      intro tag ts ts1 h hg hs
      obtain ⟨a1, a2, a3⟩ := pr_keeps _ _ _ _ h hg
      exact ⟨a2, a1.trans hs⟩
    have T : ∀ {ts : List Tok} {ws}, sees ts ws = true → Gd ts → ts <:+ l → Gd ts.tail ∧ ts.tail <:+ l ∧ IntKind.wrap .i64 (posT l ts + 1) = posT l ts.tail := by
      intro ts ws h hg hs
      obtain ⟨g1, g2⟩ := gd_tl hg (sees7 h)
      obtain ⟨t, r, rfl, _⟩ := sees7 h
      exact ⟨g1, (suf_tl _).trans hs, posT_next hs hl⟩
    have I : ∀ {tag ts res}, pr f tag ts = some res → Gd ts → ts <:+ l → RunsR l ts res tag := fun h hg hs => ih _ _ _ h l hl hok hs hg
    cases tag with
    | expr =>
      simp only [pr] at h
      rcases bif_some h with ⟨hs, h⟩ | ⟨hs, h⟩
      · have hb := I h hg hsf
        have step : ∀ v c ts' b, Evt (RR l ts v c ts' b .binder) → Evt (RR l ts v c ts' b .expr) := fun v c ts' b hv => (hv.and hr).step fun k ⟨h1, hr⟩ ρ K => by
          rw [show (Tabs (k + 1)).c35_0 = Gc35_0 (Tabs k) from rfl]
          simp only [Gc35_0, cond_false, hr.binds l ts hsf hne, hs, cond_true, h1 hs, Rw.eta]
        cases res with
        | ok x c ts' => exact step _ _ _ _ hb
        | err ts' => obtain ⟨v, c, hv⟩ := hb; exact ⟨v, c, step _ _ _ _ hv⟩
      rcases andR_some h with ⟨x, c, ts1, h1, h⟩ | ⟨ts1, h1, rfl⟩
      · obtain ⟨g1, s1⟩ := K h1 hg hsf
        have r1 : Evt (RR l ts x c ts1 false .app) := I h1 hg hsf
        have arrows : (c = true ∨ sees ts1 [tAr] = false) → ∀ v c' ts' b, Evt (RR l ts1 v c' ts' b (.arrL x c)) → Evt (RR l ts v c' ts' b .expr) := fun hc v c' ts' b hv => (r1.and (hv.and hr)).step fun k ⟨r1, r2, hr⟩ ρ K => by
          rw [show (Tabs (k + 1)).c35_0 = Gc35_0 (Tabs k) from rfl]
          have r1' := r1 ρ
          have r2' := r2 ρ
          simp only [Gc35_0, cond_false, hr.binds l ts hsf hne, hs, r1', Rw.eta, hr.is _ l ts1 s1 g1.ne]
          rcases hc with hc | hc
          · simp only [hc, Bool.not_true, cond_false]; rw [hc] at r2'; simp only [r2', Rw.eta]
          · simp only [hc, cond_false, r2', Rw.eta]; cases c <;> rfl
        rcases bif_some h with ⟨hc, h⟩ | ⟨hc, h⟩
        · cases h
          have : Evt (RR l ts1 x c ts1 false (.arrL x c)) := Evt.step0 fun k ρ z K => by
            rw [show (Tabs (k + 1)).l35_9_0 = Gl35_9_0 (Tabs k) from rfl]
            simp only [Gl35_9_0, hc, Bool.not_true, cond_false, Rw.eta]
          exact arrows (.inl hc) _ _ _ _ this
        rcases bif_some h with ⟨hs1, h⟩ | ⟨hs1, h⟩
        · obtain ⟨g2, s2, w2⟩ := T hs1 g1 s1
          have step : ∀ y c2 ts2 b c3, Evt (RR l ts1.tail y c2 ts2 b .expr) → Evt (RR l ts ⟨6, tNo, [x, y]⟩ c3 ts2 b .expr) := fun y c2 ts2 b c3 hv => (r1.and (hv.and hr)).step fun k ⟨r1, r2, hr⟩ ρ K => by
            rw [show (Tabs (k + 1)).c35_0 = Gc35_0 (Tabs k) from rfl]
            have r1' := r1 ρ
            have r2' := r2 ρ
            simp only [Gc35_0, cond_false, hr.binds l ts hsf hne, hs, r1', hc, Bool.not_false, cond_true, Rw.eta, hr.is _ l ts1 s1 g1.ne, hs1, w2, r2']
          rcases andR_some h with ⟨y, c2, ts2, h2, h⟩ | ⟨ts2, h2, rfl⟩
          · cases h
            exact step _ _ _ _ _ (I h2 g2 s2)
          · obtain ⟨v, c2, hv⟩ := I h2 g2 s2
            exact ⟨⟨6, tNo, [x, v]⟩, false, step _ _ _ _ _ hv⟩
        · have hb := I h g1 s1
          cases res with
          | ok y c' ts' => exact arrows (.inr hs1) _ _ _ _ hb
          | err ts' => obtain ⟨v, c', hv⟩ := hb; exact ⟨v, c', arrows (.inr hs1) _ _ _ _ hv⟩
      · obtain ⟨v, c, hv⟩ := I h1 hg hsf
        refine ⟨v, c, (hv.and hr).step fun k ⟨r1, hr⟩ ρ K => ?_⟩
        rw [show (Tabs (k + 1)).c35_0 = Gc35_0 (Tabs k) from rfl]
        have r1' := r1 ρ
        simp only [Gc35_0, cond_false, hr.binds l ts hsf hne, hs, r1', hr.isBad, hr.arrLBad, Rw.eta]
        cases c <;> rfl
    | atom =>
      simp only [pr] at h
      cases ts with
      | nil => exact absurd rfl hne
      | cons t r =>
      have w2 := posT_next hsf hl
      rcases bif_some h with ⟨ha, h⟩ | ⟨ha, h⟩
      · obtain ⟨g1, g2⟩ := gd_tl hg (atomic_kind ha)
        have s2 : r <:+ l := (List.suffix_cons t r).trans hsf
        rcases bif_some h with ⟨hs, h⟩ | ⟨hs, h⟩
        · have hk4 : t.kind = 4 := by
            obtain ⟨t', r', e1, e2⟩ := sees_kind hs
            cases e1; exact e2
          have k3 : (t.kind == 3) = false := by rw [hk4]; rfl
          have k4 : (t.kind == 4) = true := by rw [hk4]; rfl
          rcases andR_some h with ⟨x, c, ts1, h1, h⟩ | ⟨ts1, h1, rfl⟩
          · obtain ⟨g3, s3⟩ := K h1 g1 s2
            obtain ⟨t1, q1, rfl⟩ : ∃ t1 q1, ts1 = t1 :: q1 := by cases ts1 with | nil => exact absurd rfl g3.ne | cons a b => exact ⟨a, b, rfl⟩
            have r1 : Evt (RR l r x c (t1 :: q1) false .expr) := I h1 g1 s2
            rcases bif_some h with ⟨hs1, h⟩ | ⟨hs1, h⟩
            · cases h
              refine (r1.and hr).step fun k ⟨r1, hr⟩ ρ K => ?_
              rw [show (Tabs (k + 1)).c124_0 = Gc124_0 (Tabs k) from rfl]
              have r1' := r1 ρ
              simp only [Gc124_0, hr.atoms l _ hsf hne, ha, Bool.not_true, cond_false, hr.now l t r _ hsf, k3, k4, cond_true, w2, r1', hr.skip _ l t1 q1 s3 hl, hs1, Rw.eta, List.tail_cons]
            · cases h
              refine ⟨x, false, (r1.and hr).step fun k ⟨r1, hr⟩ ρ K => ?_⟩
              rw [show (Tabs (k + 1)).c124_0 = Gc124_0 (Tabs k) from rfl]
              have r1' := r1 ρ
              simp only [Gc124_0, hr.atoms l _ hsf hne, ha, Bool.not_true, cond_false, hr.now l t r _ hsf, k3, k4, cond_true, w2, r1', hr.skip _ l t1 q1 s3 hl, hs1, Rw.eta]
          · obtain ⟨v, c, hv⟩ := I h1 g1 s2
            refine ⟨v, c, (hv.and hr).step fun k ⟨r1, hr⟩ ρ K => ?_⟩
            rw [show (Tabs (k + 1)).c124_0 = Gc124_0 (Tabs k) from rfl]
            have r1' := r1 ρ
            simp only [List.tail_cons] at r1'
            simp only [Gc124_0, hr.atoms l _ hsf hne, ha, Bool.not_true, cond_false, hr.now l t r _ hsf, k3, k4, cond_true, w2, r1', hr.skipBad, Rw.eta]
        · cases h
          have k4 : (t.kind == 4) = false := by
            cases h4 : t.kind == 4 with
            | false => rfl
            | true =>
              have e4 : t.kind = 4 := eq_of_beq h4
              have k1 : (t.kind == 1) = false := by rw [e4]; rfl
              have k2 : (t.kind == 2) = false := by rw [e4]; rfl
              have k3 : (t.kind == 3) = false := by rw [e4]; rfl
              simp only [atomicB, k1, k2, k3, Bool.false_or, hs] at ha
              cases ha
          refine hr.step fun k hr ρ K => ?_
          rw [show (Tabs (k + 1)).c124_0 = Gc124_0 (Tabs k) from rfl]
          simp only [Gc124_0, hr.atoms l _ hsf hne, ha, Bool.not_true, cond_false, hr.now l t r _ hsf, k4, w2, atomOf, List.tail_cons]
          cases t.kind == 3 <;> cases strEq t.text tTy <;> rfl
      · cases h
        refine ⟨zR, false, hr.step fun k hr ρ K => ?_⟩
        rw [show (Tabs (k + 1)).c124_0 = Gc124_0 (Tabs k) from rfl]
        simp only [Gc124_0, hr.atoms l _ hsf hne, ha, Bool.not_false, cond_true]
    | app =>
      simp only [pr] at h
      rcases andR_some h with ⟨x, c, ts1, h1, h⟩ | ⟨ts1, h1, rfl⟩
      · obtain ⟨g1, s1⟩ := K h1 hg hsf
        have r1 : Evt (RR l ts x c ts1 false .atom) := I h1 hg hsf
        rcases andR_some h with ⟨y, c2, ts2, h2, h⟩ | ⟨ts2, h2, rfl⟩
        · obtain ⟨g2, s2⟩ := K h2 g1 s1
          have r2 : Evt (RR l ts1 y c2 ts2 false (.appL x)) := I h2 g1 s1
          rcases bif_some h with ⟨hs1, h⟩ | ⟨hs1, h⟩
          · have step : ∀ z c3 ts3 b, Evt (RR l ts2 z c3 ts3 b .binder) → Evt (RR l ts ⟨4, tNo, [y, z]⟩ true ts3 b .app) := fun z c3 ts3 b hv => (r1.and (r2.and (hv.and hr))).step fun k ⟨r1, r2, r3, hr⟩ ρ K => by
              rw [show (Tabs (k + 1)).c75_0 = Gc75_0 (Tabs k) from rfl]
              have r1' := r1 ρ
              have r2' := r2 ρ
              have r3' := r3 hs1 ρ
              simp only [Gc75_0, r1', Rw.eta, r2', hr.binds l ts2 s2 g2.ne, hs1, cond_true, r3']
            rcases andR_some h with ⟨z, c3, ts3, h3, h⟩ | ⟨ts3, h3, rfl⟩
            · cases h; exact step _ _ _ _ (I h3 g2 s2)
            · obtain ⟨v, c3, hv⟩ := I h3 g2 s2
              exact ⟨⟨4, tNo, [y, v]⟩, true, step _ _ _ _ hv⟩
          · cases h
            refine (r1.and (r2.and hr)).step fun k ⟨r1, r2, hr⟩ ρ K => ?_
            rw [show (Tabs (k + 1)).c75_0 = Gc75_0 (Tabs k) from rfl]
            have r1' := r1 ρ
            have r2' := r2 ρ
            simp only [Gc75_0, r1', Rw.eta, r2', hr.binds l ts2 s2 g2.ne, hs1, cond_false]
        · obtain ⟨v, c2, hv⟩ := I h2 g1 s1
          refine ⟨v, false, (r1.and (hv.and hr)).step fun k ⟨r1, r2, hr⟩ ρ K => ?_⟩
          rw [show (Tabs (k + 1)).c75_0 = Gc75_0 (Tabs k) from rfl]
          have r1' := r1 ρ
          have r2' := r2 ρ
          simp only [Gc75_0, r1', Rw.eta, r2', hr.bindsBad, cond_false]
      · obtain ⟨g1, s1⟩ := KE h1 hg hsf
        obtain ⟨v, c, hv⟩ := I h1 hg hsf
        refine ⟨v, false, (hv.and hr).step fun k ⟨r1, hr⟩ ρ K => ?_⟩
        rw [show (Tabs (k + 1)).c75_0 = Gc75_0 (Tabs k) from rfl]
        have r1' := r1 ρ
        simp only [Gc75_0, r1', Rw.eta, hr.appLBad l ts1 s1 g1.ne, hr.bindsBad, cond_false]
    | appL x =>
      simp only [pr] at h
      rcases bif_some h with ⟨ha, h⟩ | ⟨ha, h⟩
      · rcases andR_some h with ⟨y, c, ts1, h1, h⟩ | ⟨ts1, h1, rfl⟩
        · obtain ⟨g1, s1⟩ := K h1 hg hsf
          have r1 : Evt (RR l ts y c ts1 false .atom) := I h1 hg hsf
          have step : ∀ v c' ts' b, Evt (RR l ts1 v c' ts' b (.appL ⟨4, tNo, [x, y]⟩)) → Evt (RR l ts v c' ts' b (.appL x)) := fun v c' ts' b hv => (r1.and (hv.and hr)).step fun k ⟨r1, r2, hr⟩ ρ z K => by
            rw [show (Tabs (k + 1)).l75_2_0 = Gl75_2_0 (Tabs k) from rfl]
            have r1' := r1 ρ
            simp only [Gl75_2_0, hr.atoms l ts hsf hne, ha, cond_true, r1', Rw.eta]
            exact r2 ρ z K
          have hb := I h g1 s1
          cases res with
          | ok v c' ts' => exact step _ _ _ _ hb
          | err ts' => obtain ⟨v, c', hv⟩ := hb; exact ⟨v, c', step _ _ _ _ hv⟩
        · obtain ⟨g1, s1⟩ := KE h1 hg hsf
          obtain ⟨v, c, hv⟩ := I h1 hg hsf
          refine ⟨⟨4, tNo, [x, v]⟩, c, (hv.and hr).step fun k ⟨r1, hr⟩ ρ z K => ?_⟩
          rw [show (Tabs (k + 1)).l75_2_0 = Gl75_2_0 (Tabs k) from rfl]
          have r1' := r1 ρ
          simp only [Gl75_2_0, hr.atoms l ts hsf hne, ha, cond_true, r1', Rw.eta, hr.appLBad l ts1 s1 g1.ne]
      · cases h
        refine hr.step fun k hr ρ z K => ?_
        rw [show (Tabs (k + 1)).l75_2_0 = Gl75_2_0 (Tabs k) from rfl]
        simp only [Gl75_2_0, hr.atoms l ts hsf hne, ha, cond_false, Rw.eta]
    | arrL x c =>
      simp only [pr] at h
      rcases bif_some h with ⟨hc, h⟩ | ⟨hc, h⟩
      · cases h
        refine Evt.step0 fun k ρ z K => ?_
        rw [show (Tabs (k + 1)).l35_9_0 = Gl35_9_0 (Tabs k) from rfl]
        simp only [Gl35_9_0, hc, Bool.not_true, cond_false, Rw.eta]
      rcases bif_some h with ⟨hs, h⟩ | ⟨hs, h⟩
      · obtain ⟨g1, s1, w1⟩ := T hs hg hsf
        rcases bif_some h with ⟨hs1, h⟩ | ⟨hs1, h⟩
        · have stepB : ∀ y c2 ts1 b v c' ts' b', Evt (RR l ts.tail y c2 ts1 b .binder) → (Evt fun k => ∀ (ρ : Type) z K, (Tabs k).l35_9_0 ρ true l (posT l ts1) b z ⟨6, tNo, [y, x]⟩ K = K l (posT l ts') b' z v) → Evt (RR l ts v c' ts' b' (.arrL x c)) :=
            fun y c2 ts1 b v c' ts' b' h1 h2 => (h1.and (h2.and hr)).step fun k ⟨r1, r2, hr⟩ ρ z K => by
              rw [show (Tabs (k + 1)).l35_9_0 = Gl35_9_0 (Tabs k) from rfl]
              have r1' := r1 hs1 ρ
              simp only [Gl35_9_0, hc, Bool.not_false, cond_true, hr.is _ l ts hsf hne, hs, w1, hr.binds l _ s1 g1.ne, hs1, r1', Rw.eta]
              exact r2 ρ z K
          rcases andR_some h with ⟨y, c2, ts1, h1, h⟩ | ⟨ts1, h1, rfl⟩
          · obtain ⟨g2, s2⟩ := K h1 g1 s1
            have hb := I h g2 s2
            cases res with
            | ok v c' ts' => exact stepB _ _ _ _ _ _ _ _ (I h1 g1 s1) hb
            | err ts' => obtain ⟨v, c', hv⟩ := hb; exact ⟨v, c', stepB _ _ _ _ _ _ _ _ (I h1 g1 s1) hv⟩
          · obtain ⟨v, c2, hv⟩ := I h1 g1 s1
            exact ⟨⟨6, tNo, [v, x]⟩, false, stepB _ _ _ _ _ _ _ _ hv (hr.mono fun k hr ρ z K => hr.arrLBad ..)⟩
        · have stepA : ∀ y c2 ts1 b v c' ts' b', Evt (RR l ts.tail y c2 ts1 b .app) → (Evt fun k => ∀ (ρ : Type) z K, (Tabs k).l35_9_0 ρ c2 l (posT l ts1) b z ⟨6, tNo, [y, x]⟩ K = K l (posT l ts') b' z v) → Evt (RR l ts v c' ts' b' (.arrL x c)) :=
            fun y c2 ts1 b v c' ts' b' h1 h2 => (h1.and (h2.and hr)).step fun k ⟨r1, r2, hr⟩ ρ z K => by
              rw [show (Tabs (k + 1)).l35_9_0 = Gl35_9_0 (Tabs k) from rfl]
              have r1' := r1 ρ
              simp only [Gl35_9_0, hc, Bool.not_false, cond_true, cond_false, hr.is _ l ts hsf hne, hs, w1, hr.binds l _ s1 g1.ne, hs1, r1', Rw.eta]
              exact r2 ρ z K
          rcases andR_some h with ⟨y, c2, ts1, h1, h⟩ | ⟨ts1, h1, rfl⟩
          · obtain ⟨g2, s2⟩ := K h1 g1 s1
            have hb := I h g2 s2
            cases res with
            | ok v c' ts' => exact stepA _ _ _ _ _ _ _ _ (I h1 g1 s1) hb
            | err ts' => obtain ⟨v, c', hv⟩ := hb; exact ⟨v, c', stepA _ _ _ _ _ _ _ _ (I h1 g1 s1) hv⟩
          · obtain ⟨v, c2, hv⟩ := I h1 g1 s1
            exact ⟨⟨6, tNo, [v, x]⟩, false, stepA _ _ _ _ _ _ _ _ hv (hr.mono fun k hr ρ z K => hr.arrLBad ..)⟩
      · cases h
        refine hr.step fun k hr ρ z K => ?_
        rw [show (Tabs (k + 1)).l35_9_0 = Gl35_9_0 (Tabs k) from rfl]
        simp only [Gl35_9_0, hc, Bool.not_false, cond_true, cond_false, hr.is _ l ts hsf hne, hs, Rw.eta]
    | binder =>
      cases hs0 : sees ts [tLB, tLS] with
      | false =>
        have no : ∀ v c ts' b, Evt (RR l ts v c ts' b .binder) := fun v c ts' b => .pure fun k hs => by rw [hs0] at hs; cases hs
        cases res with
        | ok v c' ts' => exact no ..
        | err ts' => exact ⟨zR, false, no ..⟩
      | true =>
      obtain ⟨t0, r0, rfl, ht0⟩ := sees7 hs0
      obtain ⟨g1, s1, w1⟩ := T hs0 hg hsf
      simp only [List.tail_cons] at g1 s1 w1
      cases r0 with
      | nil => exact absurd rfl g1.ne
      | cons t r =>
      simp only [pr, List.tail_cons, hs0, cond_true] at h
      have s2 : r <:+ l := (List.suffix_cons t r).trans s1
      have htok : TokOk t := hok t (s1.mem (List.mem_cons_self ..))
      rcases bif_some h with ⟨hn, h⟩ | ⟨hn, h⟩
      · have g3 : Gd r := g1.tail (isName_kind hn)
        -- behind the domain, stopped or not
        have rest : ∀ {x : Rw} {ts1 : List Tok}, ts1 <:+ l → Gd ts1 → (bif sees ts1 [bif sees (t0 :: t :: r) [tLS] then tRS else tRB] then andR (pr f .expr ts1.tail) fun y _ ts2 => some (.ok ⟨bif sees (t0 :: t :: r) [tLS] then 7 else 5, t.text, [x, y]⟩ false ts2)
            else some (.err ts1)) = some res → ∃ v, (∀ x c' ts', res = .ok x c' ts' → v = x) ∧ Evt fun k => ∀ (ρ : Type) (K : Rw → List Tok → Int → Bool → Option ρ),
              (Tabs k).c90_0 ρ (bif sees (t0 :: t :: r) [tLS] then tRS else tRB) l (posT l ts1) false (fun l' n' b' => (Tabs k).c35_0 ρ l' n' b' (fun y l'' n'' b'' => K ⟨bif sees (t0 :: t :: r) [tLS] then 7 else 5, t.text, [x, y]⟩ l'' n'' b'')) = K v l (posT l res.rest) res.bad := by
          intro x ts1 hsf1 hg1 h
          obtain ⟨t1, q1, rfl⟩ : ∃ t1 q1, ts1 = t1 :: q1 := by cases ts1 with | nil => exact absurd rfl hg1.ne | cons a b => exact ⟨a, b, rfl⟩
          rcases bif_some h with ⟨he, h⟩ | ⟨he, h⟩
          · obtain ⟨g5, s5, w5⟩ := T he hg1 hsf1
            rcases andR_some h with ⟨y, c2, ts2, h2, h⟩ | ⟨ts2, h2, rfl⟩
            · cases h
              have r2 : Evt (RR l q1 y c2 ts2 false .expr) := I h2 g5 s5
              refine ⟨_, fun _ _ _ e => by cases e; rfl, (r2.and hr).mono fun k ⟨r2, hr⟩ ρ K => ?_⟩
              rw [hr.skip _ l t1 q1 hsf1 hl, he, cond_true]
              exact r2 ρ _
            · obtain ⟨v, c2, hv⟩ := I h2 g5 s5
              refine ⟨⟨bif sees (t0 :: t :: r) [tLS] then 7 else 5, t.text, [x, v]⟩, (fun _ _ _ e => by cases e), (hv.and hr).mono fun k ⟨r2, hr⟩ ρ K => ?_⟩
              rw [hr.skip _ l t1 q1 hsf1 hl, he, cond_true]
              exact r2 ρ _
          · cases h
            refine ⟨⟨bif sees (t0 :: t :: r) [tLS] then 7 else 5, t.text, [x, zR]⟩, (fun _ _ _ e => by cases e), hr.mono fun k hr ρ K => ?_⟩
            rw [hr.skip _ l t1 q1 hsf1 hl, he, cond_false, hr.exprBad]
            rfl
        have fromV : ∀ v, (∀ x c' ts', res = .ok x c' ts' → v = x) → (∀ c, Evt (RR l (t0 :: t :: r) v c res.rest res.bad .binder)) → RunsR l (t0 :: t :: r) res .binder := by
          intro v hv hE
          cases res with
          | ok x c' ts' => have := hv x c' ts' rfl; subst this; exact hE c'
          | err ts' => exact ⟨v, false, hE false⟩
        rcases andR_some h with ⟨x, c, ts1, h1, h⟩ | ⟨ts1, h1, rfl⟩
        · rcases bif_some h1 with ⟨hc, h1⟩ | ⟨hc, h1⟩
          · obtain ⟨g5, s5, w5⟩ := T hc g3 s2
            obtain ⟨g6, s6⟩ := K h1 g5 s5
            obtain ⟨v, hv, hE⟩ := rest s6 g6 h
            have r1 : Evt (RR l r.tail x c ts1 false .expr) := I h1 g5 s5
            refine fromV v hv fun c3 => ((r1.and (hE.and hr)).step fun k ⟨r1, r2, hr⟩ _ ρ K => ?_)
            rw [show (Tabs (k + 1)).c74_0 = Gc74_0 (Tabs k) from rfl]
            have r1' := r1 ρ
            rw [← r2 ρ K]
            cases hls : sees (t0 :: t :: r) [tLS] <;> simp only [Gc74_0, hr.is _ l _ hsf hne, hls, cond_true, cond_false, w1, hr.name l t r s1 hl htok, hn, hr.is _ l r s2 g3.ne, hc, w5, r1', Rw.eta]
          · cases h1
            obtain ⟨v, hv, hE⟩ := rest s2 g3 h
            refine fromV v hv fun c3 => ((hE.and hr).step fun k ⟨r2, hr⟩ _ ρ K => ?_)
            rw [show (Tabs (k + 1)).c74_0 = Gc74_0 (Tabs k) from rfl]
            rw [← r2 ρ K]
            cases hls : sees (t0 :: t :: r) [tLS] <;> simp only [Gc74_0, hr.is _ l _ hsf hne, hls, cond_true, cond_false, w1, hr.name l t r s1 hl htok, hn, hr.is _ l r s2 g3.ne, hc, Rw.eta]
        · rcases bif_some h1 with ⟨hc, h1⟩ | ⟨hc, h1⟩
          · obtain ⟨g5, s5, w5⟩ := T hc g3 s2
            obtain ⟨v, c2, hv⟩ := I h1 g5 s5
            refine ⟨⟨bif sees (t0 :: t :: r) [tLS] then 7 else 5, t.text, [v, zR]⟩, false, (hv.and hr).step fun k ⟨r1, hr⟩ _ ρ K => ?_⟩
            rw [show (Tabs (k + 1)).c74_0 = Gc74_0 (Tabs k) from rfl]
            have r1' := r1 ρ
            cases hls : sees (t0 :: t :: r) [tLS] <;> simp only [Gc74_0, hr.is _ l _ hsf hne, hls, cond_true, cond_false, w1, hr.name l t r s1 hl htok, hn, hr.is _ l r s2 g3.ne, hc, w5, r1', hr.skipBad, hr.exprBad, Rw.eta]
          · cases h1
      · cases h
        refine ⟨⟨bif sees (t0 :: t :: r) [tLS] then 7 else 5, tNo, [⟨3, tNo, []⟩, zR]⟩, false, hr.step fun k hr _ ρ K => ?_⟩
        rw [show (Tabs (k + 1)).c74_0 = Gc74_0 (Tabs k) from rfl]
        cases hls : sees (t0 :: t :: r) [tLS] <;> simp only [Gc74_0, hr.is _ l _ hsf hne, hls, cond_true, cond_false, w1, hr.name l t r s1 hl htok, hn, hr.isBad, hr.skipBad, hr.exprBad, Rw.eta]

end Go.Proofs.YtanfoijdfcnpoaaGreatDoor.Ev
