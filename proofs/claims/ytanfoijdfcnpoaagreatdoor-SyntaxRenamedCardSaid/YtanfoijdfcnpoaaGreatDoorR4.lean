/- This file proves that the program's reader of raw expressions does what the plain reader says; without any condition. -/
import Derived.Test.YtanfoijdfcnpoaaGreatDoorR3
set_option linter.unusedVariables false
set_option linter.unusedSimpArgs false
namespace Go.Proofs.YtanfoijdfcnpoaaGreatDoor.Ev

/-- Where a rest of the tokens begins. -/
def posT (l ts : List Tok) : Int := (l.length : Int) - ts.length

section
variable {l r : List Tok} {t : Tok}

theorem posT_all (l : List Tok) : posT l l = 0 := by unfold posT; omega
theorem posT_in (h : t :: r <:+ l) : (decide ((0 : Int) ≤ posT l (t :: r)) && decide (posT l (t :: r) < ((List.length l : Nat) : Int))) = true := by
  have := h.length_le
  simp only [List.length_cons] at this
  unfold posT
  simp only [Bool.and_eq_true, decide_eq_true_eq, List.length_cons]
  omega
theorem posT_rd (h : t :: r <:+ l) : rdEl lay Key.tok l (posT l (t :: r)) = t := by
  obtain ⟨q, rfl⟩ := h
  have : posT (q ++ t :: r) (t :: r) = (q.length : Int) := by unfold posT; simp
  rw [this]; exact rdTok ..
theorem posT_next (h : t :: r <:+ l) (hl : l.length ≤ 100000) : IntKind.wrap .i64 (posT l (t :: r) + 1) = posT l r := by
  have := h.length_le
  simp only [List.length_cons] at this
  unfold posT
  simp only [List.length_cons]
  rw [W_id (by omega) (by omega)]; omega
end

def fidx (x : ByteArray) : List ByteArray → Nat → Option Nat
  | [], _ => none
  | y :: r, n => bif strEq x y then some n else fidx x r (n + 1)

theorem fidx_any (x : ByteArray) : ∀ (r : List ByteArray) (n : Nat), (fidx x r n).isSome = r.any (strEq x)
  | [], _ => rfl
  | y :: r, n => by
    simp only [fidx, List.any_cons]
    cases strEq x y with
    | true => rfl
    | false => simp only [cond_false, Bool.false_or]; exact fidx_any x r (n + 1)

theorem index_loop (ws : List ByteArray) (hw : ws.length ≤ 1000) : ∀ (r pre : List ByteArray), ws = pre ++ r →
    Evt fun k => ∀ (x : ByteArray) (ρ : Type) k0 k1, (Tabs k).l126_2_0 ρ ws x (ws.length : Int) (pre.length : Int) k0 k1 = match fidx x r pre.length with | some i => k0 (i : Int) | none => k1
  | [], pre, ha => by
    refine Evt.step0 fun k x ρ k0 k1 => ?_
    show Gl126_2_0 (Tabs k) ρ _ _ _ _ _ _ = _
    have e : decide ((pre.length : Int) < ((ws).length : Int)) = false := by simp [ha]
    simp only [Gl126_2_0, e, cond_false, fidx]
  | y :: r, pre, ha => by
    refine (index_loop ws hw r (pre ++ [y]) (by simp [ha])).step fun k ih x ρ k0 k1 => ?_
    show Gl126_2_0 (Tabs k) ρ _ _ _ _ _ _ = _
    have hlen : pre.length < ws.length := by simp [ha]
    have e1 : decide ((pre.length : Int) < ((ws).length : Int)) = true := by simp; omega
    have e2 : decide ((0 : Int) ≤ (pre.length : Int)) = true := by simp
    have e4 : IntKind.wrap .i64 ((pre.length : Int) + 1) = ((pre ++ [y]).length : Int) := by
      rw [W_id (by omega) (by omega)]; simp
    have e6 : rdEl lay Key.str ws (pre.length : Int) = y := by rw [ha]; exact rdStr ..
    simp only [Gl126_2_0, e1, e2, Bool.and_self, cond_true, e6, e4, ih, fidx]
    cases strEq x y with
    | true => rfl
    | false => simp only [cond_false, List.length_append, List.length_cons, List.length_nil, Nat.zero_add]

theorem s_contains (ws : List ByteArray) (hw : ws.length ≤ 1000) : Evt fun k => ∀ (x : ByteArray) (ρ : Type) K, (Tabs k).c78_0 ρ ws x K = K (ws.any (strEq x)) := by
  have h1 : Evt fun k => ∀ (x : ByteArray) (ρ : Type) K, (Tabs k).c126_0 ρ ws x K = match fidx x ws 0 with | some i => K (i : Int) | none => K (-1) := by
    refine (index_loop ws hw ws [] rfl).step fun k ih x ρ K => ?_
    show Gc126_0 (Tabs k) ρ _ _ _ = _
    have ih' := ih x ρ
    simp only [List.length_nil, Int.natCast_zero] at ih'
    simp only [Gc126_0, ih']
  refine h1.step fun k ih x ρ K => ?_
  show Gc78_0 (Tabs k) ρ _ _ _ = _
  simp only [Gc78_0, ih, ← fidx_any x ws 0]
  cases fidx x ws 0 with
  | none => rfl
  | some i => simp only [Option.isSome_some]; congr 1

/-- What the reader's small functions do. -/
structure Hp (k : Nat) : Prop where
  now : ∀ l t r, t :: r <:+ l → ∀ (ρ : Type) K, (Tabs k).c31_0 ρ l (posT l (t :: r)) K = K t l (posT l (t :: r))
  fail : ∀ l t r, t :: r <:+ l → ∀ (ρ : Type) K, (Tabs k).c32_0 ρ l (posT l (t :: r)) K = K t.at_ 4 l (posT l (t :: r))
  sees : ∀ ws ∈ [[tLB, tLS], [tAr], [tAl], [tLP], [tLS], [tCo]], ∀ l ts, ts <:+ l → ts ≠ [] → ∀ (ρ : Type) K, (Tabs k).c67_0 ρ ws l (posT l ts) K = K (Ev.sees ts ws) l (posT l ts)
  atomic : ∀ l ts, ts <:+ l → ts ≠ [] → ∀ (ρ : Type) K, (Tabs k).c120_0 ρ l (posT l ts) K = K (atomicB ts) l (posT l ts)
  name : ∀ l t r, t :: r <:+ l → l.length ≤ 100000 → ∀ (ρ : Type) k0 k1, (Tabs k).c117_0 ρ l (posT l (t :: r)) k0 k1 = bif isNameB t then k0 t.text l (posT l r) else k1 t.at_ 4 l (posT l (t :: r))
  need : ∀ w ∈ [tRP, tRB, tRS], ∀ l t r, t :: r <:+ l → l.length ≤ 100000 → ∀ (ρ : Type) k0 k1, (Tabs k).c118_0 ρ w l (posT l (t :: r)) k0 k1 = bif Ev.sees (t :: r) [w] then k0 l (posT l r) else k1 t.at_ 4 l (posT l (t :: r))

theorem s_now : Evt fun k => ∀ l t r, t :: r <:+ l → ∀ (ρ : Type) K, (Tabs k).c31_0 ρ l (posT l (t :: r)) K = K t l (posT l (t :: r)) := Evt.step0 fun k l t r h ρ K => by
  show Gc31_0 (Tabs k) ρ _ _ _ = _
  simp only [Gc31_0, posT_in h, cond_true, posT_rd h, Tok.eta]

theorem s_fail : Evt fun k => ∀ l t r, t :: r <:+ l → ∀ (ρ : Type) K, (Tabs k).c32_0 ρ l (posT l (t :: r)) K = K t.at_ 4 l (posT l (t :: r)) := s_now.step fun k ih l t r h ρ K => by
  show Gc32_0 (Tabs k) ρ _ _ _ = _
  simp only [Gc32_0, ih l t r h]

theorem s_take : Evt fun k => ∀ l t r, t :: r <:+ l → l.length ≤ 100000 → ∀ (ρ : Type) K, (Tabs k).c141_0 ρ l (posT l (t :: r)) K = K t l (posT l r) := s_now.step fun k ih l t r h hl ρ K => by
  show Gc141_0 (Tabs k) ρ _ _ _ = _
  simp only [Gc141_0, ih l t r h, posT_next h hl, Tok.eta]

theorem s_sees (ws : List ByteArray) (hw : ws.length ≤ 1000) : Evt fun k => ∀ l ts, ts <:+ l → ts ≠ [] → ∀ (ρ : Type) K, (Tabs k).c67_0 ρ ws l (posT l ts) K = K (sees ts ws) l (posT l ts) :=
  (s_now.and (s_contains ws hw)).step fun k ⟨h1, h2⟩ l ts h hne ρ K => by
    cases ts with
    | nil => exact absurd rfl hne
    | cons t r =>
      show Gc67_0 (Tabs k) ρ _ _ _ _ = _
      simp only [Gc67_0, h1 l t r h, h2, sees]
      cases t.kind == 4 <;> rfl

theorem s_isN : Evt fun k => ∀ (t : Tok) (ρ : Type) K, (Tabs k).c140_0 ρ t K = K (isNameB t) := Evt.step0 fun k t ρ K => by
  show Gc140_0 (Tabs k) ρ _ _ = _
  simp only [Gc140_0, isNameB]
  cases t.kind == 2 <;> cases t.kind == 1 <;> rfl

theorem s_name : Evt fun k => ∀ l t r, t :: r <:+ l → l.length ≤ 100000 → ∀ (ρ : Type) k0 k1, (Tabs k).c117_0 ρ l (posT l (t :: r)) k0 k1 = bif isNameB t then k0 t.text l (posT l r) else k1 t.at_ 4 l (posT l (t :: r)) :=
  (s_now.and (s_fail.and (s_take.and s_isN))).step fun k ⟨h1, h2, h3, h4⟩ l t r h hl ρ k0 k1 => by
    show Gc117_0 (Tabs k) ρ _ _ _ _ = _
    simp only [Gc117_0, h1 l t r h, h2 l t r h, h3 l t r h hl, Tok.eta, h4]
    cases isNameB t <;> rfl

theorem s_need (w : ByteArray) : Evt fun k => ∀ l t r, t :: r <:+ l → l.length ≤ 100000 → ∀ (ρ : Type) k0 k1, (Tabs k).c118_0 ρ w l (posT l (t :: r)) k0 k1 = bif sees (t :: r) [w] then k0 l (posT l r) else k1 t.at_ 4 l (posT l (t :: r)) :=
  ((s_sees [w] (by simp)).and s_fail).step fun k ⟨h1, h2⟩ l t r h hl ρ k0 k1 => by
    show Gc118_0 (Tabs k) ρ _ _ _ _ _ = _
    simp only [Gc118_0, h1 l (t :: r) h (by simp), h2 l t r h, posT_next h hl]
    cases sees (t :: r) [w] <;> rfl

theorem s_atomic : Evt fun k => ∀ l ts, ts <:+ l → ts ≠ [] → ∀ (ρ : Type) K, (Tabs k).c120_0 ρ l (posT l ts) K = K (atomicB ts) l (posT l ts) :=
  (s_now.and (s_sees [tLP] (by simp))).step fun k ⟨h1, h2⟩ l ts h hne ρ K => by
    cases ts with
    | nil => exact absurd rfl hne
    | cons t r =>
      show Gc120_0 (Tabs k) ρ _ _ _ = _
      simp only [Gc120_0, h1 l t r h, h2 l (t :: r) h hne, atomicB]
      cases t.kind == 1 <;> cases t.kind == 2 <;> cases t.kind == 3 <;> simp

theorem hp : Evt Hp := by
  have hsees : Evt fun k => ∀ ws ∈ [[tLB, tLS], [tAr], [tAl], [tLP], [tLS], [tCo]], ∀ l ts, ts <:+ l → ts ≠ [] → ∀ (ρ : Type) K, (Tabs k).c67_0 ρ ws l (posT l ts) K = K (sees ts ws) l (posT l ts) :=
    Evt.all fun ws hw => s_sees ws (by
      simp only [List.mem_cons, List.not_mem_nil, or_false] at hw
      rcases hw with rfl | rfl | rfl | rfl | rfl | rfl <;> simp)
  have hneed : Evt fun k => ∀ w ∈ [tRP, tRB, tRS], ∀ l t r, t :: r <:+ l → l.length ≤ 100000 → ∀ (ρ : Type) k0 k1, (Tabs k).c118_0 ρ w l (posT l (t :: r)) k0 k1 = bif sees (t :: r) [w] then k0 l (posT l r) else k1 t.at_ 4 l (posT l (t :: r)) :=
    Evt.all fun w _ => s_need w
  exact (s_now.and (s_fail.and (hsees.and (s_atomic.and (s_name.and hneed))))).mono fun k ⟨h1, h2, h3, h4, h5, h6⟩ => ⟨h1, h2, h3, h4, h5, h6⟩

def atT : List Tok → Int
  | [] => 0
  | t :: _ => t.at_

/-- A reader's result, gone on with. -/
def fin {ρ : Type} (l : List Tok) (res : PRes) (k0 : Rw → Bool → List Tok → Int → Option ρ) (k1 : Int → Int → List Tok → Int → Option ρ) : Option ρ :=
  match res with
  | .ok x c ts => k0 x c l (posT l ts)
  | .err ts => k1 (atT ts) 4 l (posT l ts)

def Runs (l ts : List Tok) (res : PRes) : Tag → Nat → Prop
  | .expr, k => ∀ (ρ : Type) k0 k1, (Tabs k).c30_0 ρ l (posT l ts) k0 k1 = fin l res (fun x _ => k0 x) k1
  | .atom, k => ∀ (ρ : Type) k0 k1, (Tabs k).c119_0 ρ l (posT l ts) k0 k1 = fin l res (fun x _ => k0 x) k1
  | .app, k => ∀ (ρ : Type) k0 k1, (Tabs k).c69_0 ρ l (posT l ts) k0 k1 = fin l res k0 k1
  | .appL x, k => ∀ (ρ : Type) z k0 k1, (Tabs k).l69_2_0 ρ l (posT l ts) z x k0 k1 = fin l res (fun y _ l n => k0 l n z y) (fun a e l n => k1 l n z a e)
  | .arrL x c, k => ∀ (ρ : Type) z k0 k1, (Tabs k).l30_4_0 ρ c l (posT l ts) z x k0 k1 = fin l res (fun y _ l n => k0 l n z y) (fun a e l n => k1 l n z a e)
  | .binder, k => sees ts [tLB, tLS] = true → ∀ (ρ : Type) k0 k1, (Tabs k).c68_0 ρ l (posT l ts) k0 k1 = fin l res (fun x _ => k0 x) k1

theorem pr_runs : ∀ (f : Nat) (tag : Tag) (ts : List Tok) (res : PRes), pr f tag ts = some res → ∀ l, l.length ≤ 100000 → ts <:+ l → Gd ts → Evt (Runs l ts res tag) := by
  intro f
  induction f with
  | zero => intro tag ts res h; cases h
  | succ f ih =>
    intro tag ts res h l hl hsf hg
    have hne : ts ≠ [] := hg.ne
    have m1 : [tLB, tLS] ∈ [[tLB, tLS], [tAr], [tAl], [tLP], [tLS], [tCo]] := by simp
    have m2 : [tAr] ∈ [[tLB, tLS], [tAr], [tAl], [tLP], [tLS], [tCo]] := by simp
    have m3 : [tAl] ∈ [[tLB, tLS], [tAr], [tAl], [tLP], [tLS], [tCo]] := by simp
    have m4 : [tLP] ∈ [[tLB, tLS], [tAr], [tAl], [tLP], [tLS], [tCo]] := by simp
    have m5 : [tLS] ∈ [[tLB, tLS], [tAr], [tAl], [tLP], [tLS], [tCo]] := by simp
    have m6 : [tCo] ∈ [[tLB, tLS], [tAr], [tAl], [tLP], [tLS], [tCo]] := by simp
    have n1 : tRP ∈ [tRP, tRB, tRS] := by simp
    have n2 : tRB ∈ [tRP, tRB, tRS] := by simp
    have n3 : tRS ∈ [tRP, tRB, tRS] := by simp
    have K : ∀ {tag ts x c ts1}, pr f tag ts = some (.ok x c ts1) → Gd ts → ts <:+ l → Gd ts1 ∧ ts1 <:+ l := by
      intro tag ts x c ts1 h hg hs
      obtain ⟨a1, a2, a3⟩ := pr_keeps _ _ _ _ h hg
      exact ⟨a2, a1.trans hs⟩
    have T : ∀ {ts : List Tok} {ws}, sees ts ws = true → Gd ts → ts <:+ l → Gd ts.tail ∧ ts.tail <:+ l ∧ IntKind.wrap .i64 (posT l ts + 1) = posT l ts.tail := by
      intro ts ws h hg hs
      obtain ⟨g1, g2⟩ := gd_tl hg (sees7 h)
      obtain ⟨t, r, rfl, _⟩ := sees7 h
      exact ⟨g1, (suf_tl _).trans hs, posT_next hs hl⟩
    cases tag with
    | expr =>
      simp only [pr] at h
      rcases bif_some h with ⟨hs, h⟩ | ⟨hs, h⟩
      · refine ((ih .binder ts res h l hl hsf hg).and hp).step fun k ⟨h1, hp⟩ ρ k0 k1 => ?_
        show Gc30_0 (Tabs k) ρ _ _ _ _ = _
        simp only [Gc30_0, hp.sees _ m1 l ts hsf hne, hs, cond_true, h1 hs, Rw.eta]
      rcases andR_some h with ⟨x, c, ts1, h1, h⟩ | ⟨ts1, h1, rfl⟩
      · obtain ⟨g1, s1⟩ := K h1 hg hsf
        have r1 := ih .app ts _ h1 l hl hsf hg
        rcases bif_some h with ⟨hc, h⟩ | ⟨hc, h⟩
        · cases h
          refine (r1.and hp).step fun k ⟨r1, hp⟩ ρ k0 k1 => ?_
          show Gc30_0 (Tabs k) ρ _ _ _ _ = _
          have r1' := r1 ρ
          simp only [fin] at r1'
          simp only [Gc30_0, hp.sees _ m1 l ts hsf hne, hs, cond_false, r1', hc, cond_true, Rw.eta, fin]
        rcases bif_some h with ⟨hs1, h⟩ | ⟨hs1, h⟩
        · obtain ⟨g2, s2, w2⟩ := T hs1 g1 s1
          rcases andR_some h with ⟨y, c2, ts2, h2, h⟩ | ⟨ts2, h2, rfl⟩
          · cases h
            refine (r1.and ((ih .expr _ _ h2 l hl s2 g2).and hp)).step fun k ⟨r1, r2, hp⟩ ρ k0 k1 => ?_
            show Gc30_0 (Tabs k) ρ _ _ _ _ = _
            have r1' := r1 ρ
            have r2' := r2 ρ
            simp only [fin] at r1' r2'
            simp only [Gc30_0, hp.sees _ m1 l ts hsf hne, hs, cond_false, r1', hc, hp.sees _ m2 l ts1 s1 g1.ne, hs1, cond_true, w2, r2', Rw.eta, fin]
          · refine (r1.and ((ih .expr _ _ h2 l hl s2 g2).and hp)).step fun k ⟨r1, r2, hp⟩ ρ k0 k1 => ?_
            show Gc30_0 (Tabs k) ρ _ _ _ _ = _
            have r1' := r1 ρ
            have r2' := r2 ρ
            simp only [fin] at r1' r2'
            simp only [Gc30_0, hp.sees _ m1 l ts hsf hne, hs, cond_false, r1', hc, hp.sees _ m2 l ts1 s1 g1.ne, hs1, cond_true, w2, r2', Rw.eta, fin]
        · refine (r1.and ((ih (.arrL x c) _ _ h l hl s1 g1).and hp)).step fun k ⟨r1, r2, hp⟩ ρ k0 k1 => ?_
          show Gc30_0 (Tabs k) ρ _ _ _ _ = _
          have r1' := r1 ρ
          have r2' := r2 ρ
          simp only [fin] at r1'
          simp only [Gc30_0, hp.sees _ m1 l ts hsf hne, hs, cond_false, r1', hc, hp.sees _ m2 l ts1 s1 g1.ne, hs1, cond_true, Rw.eta]
          rw [hc] at r2'
          rw [r2']
      · refine ((ih .app ts _ h1 l hl hsf hg).and hp).step fun k ⟨r1, hp⟩ ρ k0 k1 => ?_
        show Gc30_0 (Tabs k) ρ _ _ _ _ = _
        have r1' := r1 ρ
        simp only [fin] at r1'
        simp only [Gc30_0, hp.sees _ m1 l ts hsf hne, hs, cond_false, r1', fin]
    | atom =>
      simp only [pr] at h
      cases ts with
      | nil => exact absurd rfl hne
      | cons t r =>
      rcases bif_some h with ⟨ha, h⟩ | ⟨ha, h⟩
      · obtain ⟨g1, g2⟩ := gd_tl hg (atomic_kind ha)
        have s2 : r <:+ l := (List.suffix_cons t r).trans hsf
        have w2 := posT_next hsf hl
        rcases bif_some h with ⟨hs, h⟩ | ⟨hs, h⟩
        · rcases andR_some h with ⟨x, c, ts1, h1, h⟩ | ⟨ts1, h1, rfl⟩
          · obtain ⟨g3, s3⟩ := K h1 g1 s2
            obtain ⟨t1, q1, rfl⟩ : ∃ t1 q1, ts1 = t1 :: q1 := by cases ts1 with | nil => exact absurd rfl g3.ne | cons a b => exact ⟨a, b, rfl⟩
            refine ((ih .expr _ _ h1 l hl s2 g1).and hp).step fun k ⟨r1, hp⟩ ρ k0 k1 => ?_
            show Gc119_0 (Tabs k) ρ _ _ _ _ = _
            have r1' := r1 ρ
            simp only [fin, List.tail_cons] at r1'
            simp only [Gc119_0, hp.now l t r hsf, hp.atomic l _ hsf hne, ha, Bool.not_true, cond_false, hp.sees _ m4 l _ hsf hne, hs, cond_true, w2, r1', hp.need _ n1 l t1 q1 s3 hl, Rw.eta]
            rcases bif_some h with ⟨hs1, h⟩ | ⟨hs1, h⟩
            · cases h; simp only [hs1, cond_true, fin, List.tail_cons]
            · cases h; simp only [hs1, cond_false, fin, atT]
          · refine ((ih .expr _ _ h1 l hl s2 g1).and hp).step fun k ⟨r1, hp⟩ ρ k0 k1 => ?_
            show Gc119_0 (Tabs k) ρ _ _ _ _ = _
            have r1' := r1 ρ
            simp only [fin, List.tail_cons] at r1'
            simp only [Gc119_0, hp.now l t r hsf, hp.atomic l _ hsf hne, ha, Bool.not_true, cond_false, hp.sees _ m4 l _ hsf hne, hs, cond_true, w2, r1', fin]
        · cases h
          refine hp.step fun k hp ρ k0 k1 => ?_
          show Gc119_0 (Tabs k) ρ _ _ _ _ = _
          simp only [Gc119_0, hp.now l t r hsf, hp.atomic l _ hsf hne, ha, Bool.not_true, cond_false, hp.sees _ m4 l _ hsf hne, hs, w2, fin, atomOf, List.tail_cons]
          cases t.kind == 3 <;> cases strEq t.text tTy <;> rfl
      · cases h
        refine hp.step fun k hp ρ k0 k1 => ?_
        show Gc119_0 (Tabs k) ρ _ _ _ _ = _
        simp only [Gc119_0, hp.now l t r hsf, hp.atomic l _ hsf hne, ha, Bool.not_false, cond_true, hp.fail l t r hsf, fin, atT]
    | app =>
      simp only [pr] at h
      rcases andR_some h with ⟨x, c, ts1, h1, h⟩ | ⟨ts1, h1, rfl⟩
      · obtain ⟨g1, s1⟩ := K h1 hg hsf
        have r1 := ih .atom ts _ h1 l hl hsf hg
        rcases andR_some h with ⟨y, c2, ts2, h2, h⟩ | ⟨ts2, h2, rfl⟩
        · obtain ⟨g2, s2⟩ := K h2 g1 s1
          have r2 := ih (.appL x) ts1 _ h2 l hl s1 g1
          rcases bif_some h with ⟨hs1, h⟩ | ⟨hs1, h⟩
          · rcases andR_some h with ⟨z, c3, ts3, h3, h⟩ | ⟨ts3, h3, rfl⟩
            · cases h
              refine (r1.and (r2.and ((ih .binder ts2 _ h3 l hl s2 g2).and hp))).step fun k ⟨r1, r2, r3, hp⟩ ρ k0 k1 => ?_
              show Gc69_0 (Tabs k) ρ _ _ _ _ = _
              have r1' := r1 ρ
              have r2' := r2 ρ
              have r3' := r3 hs1 ρ
              simp only [fin] at r1' r2' r3'
              simp only [Gc69_0, r1', Rw.eta, r2', hp.sees _ m1 l ts2 s2 g2.ne, hs1, cond_true, r3', fin]
            · refine (r1.and (r2.and ((ih .binder ts2 _ h3 l hl s2 g2).and hp))).step fun k ⟨r1, r2, r3, hp⟩ ρ k0 k1 => ?_
              show Gc69_0 (Tabs k) ρ _ _ _ _ = _
              have r1' := r1 ρ
              have r2' := r2 ρ
              have r3' := r3 hs1 ρ
              simp only [fin] at r1' r2' r3'
              simp only [Gc69_0, r1', Rw.eta, r2', hp.sees _ m1 l ts2 s2 g2.ne, hs1, cond_true, r3', fin]
          · cases h
            refine (r1.and (r2.and hp)).step fun k ⟨r1, r2, hp⟩ ρ k0 k1 => ?_
            show Gc69_0 (Tabs k) ρ _ _ _ _ = _
            have r1' := r1 ρ
            have r2' := r2 ρ
            simp only [fin] at r1' r2'
            simp only [Gc69_0, r1', Rw.eta, r2', hp.sees _ m1 l ts2 s2 g2.ne, hs1, cond_false, fin]
        · refine (r1.and ((ih (.appL x) ts1 _ h2 l hl s1 g1).and hp)).step fun k ⟨r1, r2, hp⟩ ρ k0 k1 => ?_
          show Gc69_0 (Tabs k) ρ _ _ _ _ = _
          have r1' := r1 ρ
          have r2' := r2 ρ
          simp only [fin] at r1' r2'
          simp only [Gc69_0, r1', Rw.eta, r2', fin]
      · refine ((ih .atom ts _ h1 l hl hsf hg).and hp).step fun k ⟨r1, hp⟩ ρ k0 k1 => ?_
        show Gc69_0 (Tabs k) ρ _ _ _ _ = _
        have r1' := r1 ρ
        simp only [fin] at r1'
        simp only [Gc69_0, r1', fin]
    | appL x =>
      simp only [pr] at h
      rcases bif_some h with ⟨ha, h⟩ | ⟨ha, h⟩
      · rcases andR_some h with ⟨y, c, ts1, h1, h⟩ | ⟨ts1, h1, rfl⟩
        · obtain ⟨g1, s1⟩ := K h1 hg hsf
          refine ((ih .atom ts _ h1 l hl hsf hg).and ((ih (.appL _) ts1 _ h l hl s1 g1).and hp)).step fun k ⟨r1, r2, hp⟩ ρ z k0 k1 => ?_
          show Gl69_2_0 (Tabs k) ρ _ _ _ _ _ _ = _
          have r1' := r1 ρ
          simp only [fin] at r1'
          simp only [Gl69_2_0, hp.atomic l ts hsf hne, ha, cond_true, r1', Rw.eta]
          exact r2 ρ z k0 k1
        · refine ((ih .atom ts _ h1 l hl hsf hg).and hp).step fun k ⟨r1, hp⟩ ρ z k0 k1 => ?_
          show Gl69_2_0 (Tabs k) ρ _ _ _ _ _ _ = _
          have r1' := r1 ρ
          simp only [fin] at r1'
          simp only [Gl69_2_0, hp.atomic l ts hsf hne, ha, cond_true, r1', Rw.eta, fin]
      · cases h
        refine hp.step fun k hp ρ z k0 k1 => ?_
        show Gl69_2_0 (Tabs k) ρ _ _ _ _ _ _ = _
        simp only [Gl69_2_0, hp.atomic l ts hsf hne, ha, cond_false, Rw.eta, fin]
    | arrL x c =>
      simp only [pr] at h
      rcases bif_some h with ⟨hc, h⟩ | ⟨hc, h⟩
      · cases h
        refine Evt.step0 fun k ρ z k0 k1 => ?_
        show Gl30_4_0 (Tabs k) ρ _ _ _ _ _ _ _ = _
        simp only [Gl30_4_0, hc, Bool.not_true, cond_false, Rw.eta, fin]
      rcases bif_some h with ⟨hs, h⟩ | ⟨hs, h⟩
      · obtain ⟨g1, s1, w1⟩ := T hs hg hsf
        rcases bif_some h with ⟨hs1, h⟩ | ⟨hs1, h⟩
        · rcases andR_some h with ⟨y, c2, ts1, h1, h⟩ | ⟨ts1, h1, rfl⟩
          · obtain ⟨g2, s2⟩ := K h1 g1 s1
            refine ((ih .binder _ _ h1 l hl s1 g1).and ((ih (.arrL _ _) ts1 _ h l hl s2 g2).and hp)).step fun k ⟨r1, r2, hp⟩ ρ z k0 k1 => ?_
            show Gl30_4_0 (Tabs k) ρ _ _ _ _ _ _ _ = _
            have r1' := r1 hs1 ρ
            simp only [fin] at r1'
            simp only [Gl30_4_0, hc, Bool.not_false, cond_true, hp.sees _ m3 l ts hsf hne, hs, w1, hp.sees _ m1 l _ s1 g1.ne, hs1, r1', Rw.eta]
            exact r2 ρ z k0 k1
          · refine ((ih .binder _ _ h1 l hl s1 g1).and hp).step fun k ⟨r1, hp⟩ ρ z k0 k1 => ?_
            show Gl30_4_0 (Tabs k) ρ _ _ _ _ _ _ _ = _
            have r1' := r1 hs1 ρ
            simp only [fin] at r1'
            simp only [Gl30_4_0, hc, Bool.not_false, cond_true, hp.sees _ m3 l ts hsf hne, hs, w1, hp.sees _ m1 l _ s1 g1.ne, hs1, r1', Rw.eta, fin]
        · rcases andR_some h with ⟨y, c2, ts1, h1, h⟩ | ⟨ts1, h1, rfl⟩
          · obtain ⟨g2, s2⟩ := K h1 g1 s1
            refine ((ih .app _ _ h1 l hl s1 g1).and ((ih (.arrL _ _) ts1 _ h l hl s2 g2).and hp)).step fun k ⟨r1, r2, hp⟩ ρ z k0 k1 => ?_
            show Gl30_4_0 (Tabs k) ρ _ _ _ _ _ _ _ = _
            have r1' := r1 ρ
            simp only [fin] at r1'
            simp only [Gl30_4_0, hc, Bool.not_false, cond_true, cond_false, hp.sees _ m3 l ts hsf hne, hs, w1, hp.sees _ m1 l _ s1 g1.ne, hs1, r1', Rw.eta]
            exact r2 ρ z k0 k1
          · refine ((ih .app _ _ h1 l hl s1 g1).and hp).step fun k ⟨r1, hp⟩ ρ z k0 k1 => ?_
            show Gl30_4_0 (Tabs k) ρ _ _ _ _ _ _ _ = _
            have r1' := r1 ρ
            simp only [fin] at r1'
            simp only [Gl30_4_0, hc, Bool.not_false, cond_true, cond_false, hp.sees _ m3 l ts hsf hne, hs, w1, hp.sees _ m1 l _ s1 g1.ne, hs1, r1', Rw.eta, fin]
      · cases h
        refine hp.step fun k hp ρ z k0 k1 => ?_
        show Gl30_4_0 (Tabs k) ρ _ _ _ _ _ _ _ = _
        simp only [Gl30_4_0, hc, Bool.not_false, cond_true, cond_false, hp.sees _ m3 l ts hsf hne, hs, Rw.eta, fin]
    | binder =>
      cases hs0 : sees ts [tLB, tLS] with
      | false => exact .pure fun k hs => by rw [hs0] at hs; cases hs
      | true =>
      obtain ⟨t0, r0, rfl, ht0⟩ := sees7 hs0
      obtain ⟨g1, s1, w1⟩ := T hs0 hg hsf
      simp only [List.tail_cons] at g1 s1 w1
      cases r0 with
      | nil => exact absurd rfl g1.ne
      | cons t r =>
      simp only [pr, List.tail_cons, hs0, cond_true] at h
      have s2 : r <:+ l := (List.suffix_cons t r).trans s1
      rcases bif_some h with ⟨hn, h⟩ | ⟨hn, h⟩
      · have g3 : Gd r := g1.tail (isName_kind hn)
        -- behind the domain
        have fin2 : ∀ {x : Rw} {ts1 : List Tok}, ts1 <:+ l → Gd ts1 → (bif sees ts1 [bif sees (t0 :: t :: r) [tLS] then tRS else tRB] then andR (pr f .expr ts1.tail) fun y _ ts2 => some (.ok ⟨bif sees (t0 :: t :: r) [tLS] then 7 else 5, t.text, [x, y]⟩ false ts2)
            else some (.err ts1)) = some res → Evt fun k => ∀ (ρ : Type) (k0 : Rw → List Tok → Int → Option ρ) (k1 : Int → Int → List Tok → Int → Option ρ),
              (Tabs k).c118_0 ρ (bif sees (t0 :: t :: r) [tLS] then tRS else tRB) l (posT l ts1) (fun l' n' => (Tabs k).c30_0 ρ l' n' (fun y l'' n'' => k0 ⟨bif sees (t0 :: t :: r) [tLS] then 7 else 5, t.text, [x, y]⟩ l'' n'') k1) k1 = fin l res (fun x _ => k0 x) k1 := by
          intro x ts1 hsf1 hg1 h
          obtain ⟨t1, q1, rfl⟩ : ∃ t1 q1, ts1 = t1 :: q1 := by cases ts1 with | nil => exact absurd rfl hg1.ne | cons a b => exact ⟨a, b, rfl⟩
          have hw : (bif sees (t0 :: t :: r) [tLS] then tRS else tRB) ∈ [tRP, tRB, tRS] := by cases sees (t0 :: t :: r) [tLS] <;> simp
          rcases bif_some h with ⟨he, h⟩ | ⟨he, h⟩
          · obtain ⟨g5, s5, w5⟩ := T he hg1 hsf1
            rcases andR_some h with ⟨y, c2, ts2, h2, h⟩ | ⟨ts2, h2, rfl⟩
            · cases h
              refine ((ih .expr _ _ h2 l hl s5 g5).and hp).mono fun k ⟨r2, hp⟩ ρ k0 k1 => ?_
              have r2' := r2 ρ
              simp only [fin, List.tail_cons] at r2'
              rw [hp.need _ hw l t1 q1 hsf1 hl]
              simp only [he, cond_true, r2', fin]
            · refine ((ih .expr _ _ h2 l hl s5 g5).and hp).mono fun k ⟨r2, hp⟩ ρ k0 k1 => ?_
              have r2' := r2 ρ
              simp only [fin, List.tail_cons] at r2'
              rw [hp.need _ hw l t1 q1 hsf1 hl]
              simp only [he, cond_true, r2', fin]
          · cases h
            refine hp.mono fun k hp ρ k0 k1 => ?_
            rw [hp.need _ hw l t1 q1 hsf1 hl]
            simp only [he, cond_false, fin, atT]
        rcases andR_some h with ⟨x, c, ts1, h1, h⟩ | ⟨ts1, h1, rfl⟩
        · rcases bif_some h1 with ⟨hc, h1⟩ | ⟨hc, h1⟩
          · obtain ⟨g5, s5, w5⟩ := T hc g3 s2
            obtain ⟨g6, s6⟩ := K h1 g5 s5
            refine ((ih .expr _ _ h1 l hl s5 g5).and ((fin2 s6 g6 h).and hp)).step fun k ⟨r1, r2, hp⟩ _ ρ k0 k1 => ?_
            show Gc68_0 (Tabs k) ρ _ _ _ _ = _
            have r1' := r1 ρ
            have r2' := r2 ρ k0 k1
            simp only [fin] at r1'
            rw [← r2']
            cases hls : sees (t0 :: t :: r) [tLS] <;> simp only [Gc68_0, hp.sees _ m5 l _ hsf hne, hls, cond_true, cond_false, w1, hp.name l t r s1 hl, hn, hp.sees _ m6 l r s2 g3.ne, hc, w5, r1', Rw.eta]
          · cases h1
            refine ((fin2 s2 g3 h).and hp).step fun k ⟨r2, hp⟩ _ ρ k0 k1 => ?_
            show Gc68_0 (Tabs k) ρ _ _ _ _ = _
            have r2' := r2 ρ k0 k1
            rw [← r2']
            cases hls : sees (t0 :: t :: r) [tLS] <;> simp only [Gc68_0, hp.sees _ m5 l _ hsf hne, hls, cond_true, cond_false, w1, hp.name l t r s1 hl, hn, hp.sees _ m6 l r s2 g3.ne, hc, Rw.eta]
        · rcases bif_some h1 with ⟨hc, h1⟩ | ⟨hc, h1⟩
          · obtain ⟨g5, s5, w5⟩ := T hc g3 s2
            refine ((ih .expr _ _ h1 l hl s5 g5).and hp).step fun k ⟨r1, hp⟩ _ ρ k0 k1 => ?_
            show Gc68_0 (Tabs k) ρ _ _ _ _ = _
            have r1' := r1 ρ
            simp only [fin] at r1'
            cases hls : sees (t0 :: t :: r) [tLS] <;> simp only [Gc68_0, hp.sees _ m5 l _ hsf hne, hls, cond_true, cond_false, w1, hp.name l t r s1 hl, hn, hp.sees _ m6 l r s2 g3.ne, hc, w5, r1', fin]
          · cases h1
      · cases h
        refine hp.step fun k hp _ ρ k0 k1 => ?_
        show Gc68_0 (Tabs k) ρ _ _ _ _ = _
        cases hls : sees (t0 :: t :: r) [tLS] <;> simp only [Gc68_0, hp.sees _ m5 l _ hsf hne, hls, cond_true, cond_false, w1, hp.name l t r s1 hl, hn, fin, atT]

end Go.Proofs.YtanfoijdfcnpoaaGreatDoor.Ev
