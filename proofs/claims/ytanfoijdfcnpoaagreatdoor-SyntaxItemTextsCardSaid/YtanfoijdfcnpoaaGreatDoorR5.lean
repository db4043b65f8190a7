/- This file proves what the program's Expr returns; without any condition. -/
import Derived.Test.YtanfoijdfcnpoaaGreatDoorR2
import Derived.Test.YtanfoijdfcnpoaaGreatDoorR4
import Derived.Test.YtanfoijdfcnpoaaGreatDoorV9
set_option linter.unusedVariables false
set_option linter.unusedSimpArgs false
namespace Go.Proofs.YtanfoijdfcnpoaaGreatDoor.Ev

/-- What a token of a source is. -/
structure TokOk (t : Tok) : Prop where
  size : t.text.size ≤ 6000
  cap : t.kind = 2 → strEq t.text tTy = false

theorem tk_ok (N : Nat) : ∀ (n : Nat) (r : List UInt8) (ts : List Tok), tk N n r = .inl ts → r.length ≤ 6000 → ∀ t ∈ ts, TokOk t
  | 0, r, ts, h, _ => by simp only [tk, Sum.inl.injEq] at h; subst h; intro t ht; cases ht
  | n + 1, [], ts, h, _ => by simp only [tk, Sum.inl.injEq] at h; subst h; intro t ht; cases ht
  | n + 1, c :: r, ts, h, hr => by
    simp only [tk] at h
    cases hx : next c r with
    | none => rw [hx] at h; cases h
    | some x =>
      rw [hx] at h
      simp only at h
      have hk := next_kind hx
      obtain ⟨h1, q, h2⟩ := next_text hx
      have hlen : x.2.length ≤ 6000 := by
        have : (c :: r).length = x.2.length + q.length := by rw [h2]; simp
        omega
      cases ht : tk N n (skip ((c :: r).drop x.2.length) false) with
      | inr p => rw [ht] at h; cases h
      | inl us =>
        rw [ht] at h
        simp only [Sum.inl.injEq] at h
        subst h
        intro t hm
        rcases List.mem_cons.1 hm with rfl | hm
        · refine ⟨by show (mk x.2).size ≤ 6000; rw [mk_size]; exact hlen, fun h2 => ?_⟩
          have hc := hk.2 h2
          cases hq : strEq (mk x.2) tTy with
          | false => rfl
          | true =>
            have hq' : (x.2 == tyB) = true := (strEq_mk x.2 tyB).symm.trans hq
            rw [eq_of_beq hq'] at hc
            exact absurd hc (by decide)
        · refine tk_ok N n _ us ht ?_ t hm
          have := (skip_suffix ((c :: r).drop x.2.length) false).length_le
          simp only [List.length_drop] at this
          omega

theorem toks_good (l : List UInt8) (h : (toks l).2.2 = 0) : Gd (toks l).1 ∧ (toks l).1.length ≤ 6001 ∧ ∀ t ∈ (toks l).1, TokOk t := by
  unfold toks at h ⊢
  by_cases h6 : l.length ≤ 6000
  · simp only [h6, decide_true, cond_true] at h ⊢
    cases hk : tk l.length l.length (skip l false) with
    | inr p => rw [hk] at h; exact absurd h (show ¬ ((4 : Int) = 0) by decide)
    | inl ts =>
      simp only
      have hle := (skip_suffix l false).length_le
      have h1 := tk_len _ _ _ _ hk
      refine ⟨⟨ts, _, rfl, rfl⟩, by simp; omega, fun t ht => ?_⟩
      rcases List.mem_append.1 ht with ht | ht
      · exact tk_ok _ _ _ _ hk (by omega) t ht
      · simp only [List.mem_singleton] at ht
        subst ht
        exact ⟨by show (mk []).size ≤ 6000; rw [mk_size]; simp, fun h => absurd h (show ¬ ((7 : Int) = 2) by decide)⟩
  · simp only [h6, decide_false, cond_false] at h
    exact absurd h (show ¬ ((5 : Int) = 0) by decide)

theorem ok0 {o : Int} {n : ByteArray} (hn : n.size ≤ 140737488355328) : Rw.Ok ⟨o, n, []⟩ := .mk _ _ _ hn (by simp) fun x hx => by cases hx
theorem ok2 {o : Int} {n : ByteArray} {x y : Rw} (hn : n.size ≤ 140737488355328) (hx : x.Ok) (hy : y.Ok) : Rw.Ok ⟨o, n, [x, y]⟩ := .mk _ _ _ hn (by simp) fun z hz => by
  simp only [List.mem_cons, List.not_mem_nil, or_false] at hz
  rcases hz with rfl | rfl
  · exact hx
  · exact hy
theorem tNo_size : tNo.size ≤ 140737488355328 := by decide

def Tag.Ok : Tag → Prop
  | .appL x => x.Ok
  | .arrL x _ => x.Ok
  | _ => True

/-- What the reader reads fits. -/
theorem pr_ok : ∀ (f : Nat) (tag : Tag) (ts : List Tok) (x : Rw) (c : Bool) (ts' : List Tok), pr f tag ts = some (.ok x c ts') → Gd ts → tag.Ok → (∀ t ∈ ts, TokOk t) → x.Ok := by
  intro f
  induction f with
  | zero => intro tag ts x c ts' h; cases h
  | succ f ih =>
    intro tag ts x c ts' h hg ht hts
    have M : ∀ {tag ts0 ts1 x c}, pr f tag ts0 = some (.ok x c ts1) → Gd ts0 → (∀ t ∈ ts0, TokOk t) → Gd ts1 ∧ ∀ t ∈ ts1, TokOk t := by
      intro tag ts0 ts1 x c h hg h0
      obtain ⟨a1, a2, a3⟩ := pr_keeps _ _ _ _ h hg
      exact ⟨a2, fun t ht => h0 t (a1.mem ht)⟩
    have TL : ∀ {ts0 : List Tok}, (∀ t ∈ ts0, TokOk t) → ∀ t ∈ ts0.tail, TokOk t := fun h t ht => h t ((suf_tl _).mem ht)
    cases tag with
    | expr =>
      simp only [pr] at h
      rcases bif_some h with ⟨hs, h⟩ | ⟨hs, h⟩
      · exact ih .binder _ _ _ _ h hg trivial hts
      rcases andR_some h with ⟨y, c1, ts1, h1, h⟩ | ⟨ts1, h1, h⟩
      · obtain ⟨g1, m1⟩ := M h1 hg hts
        have o1 := ih .app _ _ _ _ h1 hg trivial hts
        rcases bif_some h with ⟨hc, h⟩ | ⟨hc, h⟩
        · cases h; exact o1
        rcases bif_some h with ⟨hs1, h⟩ | ⟨hs1, h⟩
        · rcases andR_some h with ⟨z, c2, ts2, h2, h⟩ | ⟨ts2, h2, h⟩
          · cases h
            exact ok2 tNo_size o1 (ih .expr _ _ _ _ h2 (gd_tl g1 (sees7 hs1)).1 trivial (TL m1))
          · cases h
        · exact ih (.arrL y c1) _ _ _ _ h g1 o1 m1
      · cases h
    | atom =>
      simp only [pr] at h
      rcases bif_some h with ⟨ha, h⟩ | ⟨ha, h⟩
      · rcases bif_some h with ⟨hs, h⟩ | ⟨hs, h⟩
        · rcases andR_some h with ⟨y, c1, ts1, h1, h⟩ | ⟨ts1, h1, h⟩
          · have o1 := ih .expr _ _ _ _ h1 (gd_tl hg (sees7 hs)).1 trivial (TL hts)
            rcases bif_some h with ⟨hs1, h⟩ | ⟨hs1, h⟩
            · cases h; exact o1
            · cases h
          · cases h
        · cases h
          cases ts with
          | nil => exact ok0 tNo_size
          | cons t r =>
            simp only [atomOf]
            have := (hts t (List.mem_cons_self ..)).size
            cases t.kind == 3 <;> cases strEq t.text tTy <;> first | exact ok0 tNo_size | exact ok0 (by omega)
      · cases h
    | app =>
      simp only [pr] at h
      rcases andR_some h with ⟨y, c1, ts1, h1, h⟩ | ⟨ts1, h1, h⟩
      · obtain ⟨g1, m1⟩ := M h1 hg hts
        have o1 := ih .atom _ _ _ _ h1 hg trivial hts
        rcases andR_some h with ⟨z, c2, ts2, h2, h⟩ | ⟨ts2, h2, h⟩
        · obtain ⟨g2, m2⟩ := M h2 g1 m1
          have o2 := ih (.appL y) _ _ _ _ h2 g1 o1 m1
          rcases bif_some h with ⟨hs1, h⟩ | ⟨hs1, h⟩
          · rcases andR_some h with ⟨w, c3, ts3, h3, h⟩ | ⟨ts3, h3, h⟩
            · cases h
              exact ok2 tNo_size o2 (ih .binder _ _ _ _ h3 g2 trivial m2)
            · cases h
          · cases h; exact o2
        · cases h
      · cases h
    | appL y =>
      simp only [pr] at h
      rcases bif_some h with ⟨ha, h⟩ | ⟨ha, h⟩
      · rcases andR_some h with ⟨z, c1, ts1, h1, h⟩ | ⟨ts1, h1, h⟩
        · obtain ⟨g1, m1⟩ := M h1 hg hts
          exact ih (.appL _) _ _ _ _ h g1 (ok2 tNo_size ht (ih .atom _ _ _ _ h1 hg trivial hts)) m1
        · cases h
      · cases h; exact ht
    | arrL y c1 =>
      simp only [pr] at h
      rcases bif_some h with ⟨hc, h⟩ | ⟨hc, h⟩
      · cases h; exact ht
      rcases bif_some h with ⟨hs, h⟩ | ⟨hs, h⟩
      · have g0 := (gd_tl hg (sees7 hs)).1
        rcases bif_some h with ⟨hs1, h⟩ | ⟨hs1, h⟩
        · rcases andR_some h with ⟨z, c2, ts1, h1, h⟩ | ⟨ts1, h1, h⟩
          · obtain ⟨g1, m1⟩ := M h1 g0 (TL hts)
            exact ih (.arrL _ _) _ _ _ _ h g1 (ok2 tNo_size (ih .binder _ _ _ _ h1 g0 trivial (TL hts)) ht) m1
          · cases h
        · rcases andR_some h with ⟨z, c2, ts1, h1, h⟩ | ⟨ts1, h1, h⟩
          · obtain ⟨g1, m1⟩ := M h1 g0 (TL hts)
            exact ih (.arrL _ _) _ _ _ _ h g1 (ok2 tNo_size (ih .app _ _ _ _ h1 g0 trivial (TL hts)) ht) m1
          · cases h
      · cases h; exact ht
    | binder =>
      cases ts with
      | nil => exact absurd rfl hg.ne
      | cons t0 r0 =>
        cases r0 with
        | nil => simp [pr] at h
        | cons t r =>
          simp only [pr, List.tail_cons] at h
          rcases bif_some h with ⟨hs, h⟩ | ⟨hs, h⟩
          · have g1 : Gd (t :: r) := (gd_tl hg (sees7 hs)).1
            have m1 : ∀ u ∈ t :: r, TokOk u := fun u hu => hts u (List.mem_cons_of_mem _ hu)
            rcases bif_some h with ⟨hn, h⟩ | ⟨hn, h⟩
            · have g3 : Gd r := g1.tail (isName_kind hn)
              have m3 : ∀ u ∈ r, TokOk u := fun u hu => m1 u (List.mem_cons_of_mem _ hu)
              have hsz := (m1 t (List.mem_cons_self ..)).size
              rcases andR_some h with ⟨y, c1, ts1, h1, h⟩ | ⟨ts1, h1, h⟩
              · have hd : y.Ok ∧ Gd ts1 ∧ ∀ u ∈ ts1, TokOk u := by
                  rcases bif_some h1 with ⟨hc, h1⟩ | ⟨hc, h1⟩
                  · have g5 := (gd_tl g3 (sees7 hc)).1
                    obtain ⟨g6, m6⟩ := M h1 g5 (TL m3)
                    exact ⟨ih .expr _ _ _ _ h1 g5 trivial (TL m3), g6, m6⟩
                  · cases h1
                    exact ⟨ok0 tNo_size, g3, m3⟩
                obtain ⟨o1, g6, m6⟩ := hd
                rcases bif_some h with ⟨he, h⟩ | ⟨he, h⟩
                · rcases andR_some h with ⟨z, c2, ts2, h2, h⟩ | ⟨ts2, h2, h⟩
                  · cases h
                    exact ok2 (by omega) o1 (ih .expr _ _ _ _ h2 (gd_tl g6 (sees7 he)).1 trivial (TL m6))
                  · cases h
                · cases h
              · cases h
            · cases h
          · cases h

abbrev zR : Rw := ⟨0, tNo, []⟩
def kindT : List Tok → Int
  | [] => 7
  | t :: _ => t.kind

/-- What Expr returns: the expression, or where and which error. -/
def exprP (l : List UInt8) : Rw × Int × Int :=
  bif (toks l).2.2 == 0 then
    match pr (4 * (toks l).1.length + 3) .expr (toks l).1 with
    | some (.ok x _ ts) => bif kindT ts == 7 then (bif wellB x then (x, 0, 0) else (zR, 0, 5)) else (zR, atT ts, 4)
    | some (.err ts) => (zR, atT ts, 4)
    | none => (zR, 0, 0)
  else (zR, (toks l).2.1, (toks l).2.2)

theorem s_expr (l : List UInt8) : Evt fun k => ∀ (ρ : Type) K, (Tabs k).c8_0 ρ (mk l) K = K (exprP l).1 (exprP l).2.1 (exprP l).2.2 := by
  have hT := s28 l
  cases h0 : ((toks l).2.2 == 0) with
  | false =>
    refine hT.step fun k hT ρ K => ?_
    show Gc8_0 (Tabs k) ρ _ _ = _
    have e : ((toks l).2.2 != 0) = true := by rw [bne, h0]; rfl
    simp only [Gc8_0, hT, e, cond_true, exprP, h0, cond_false]
  | true =>
    have e : ((toks l).2.2 != 0) = false := by rw [bne, h0]; rfl
    obtain ⟨g0, hlen, hok⟩ := toks_good l (eq_of_beq h0)
    have hne := pr_ends (4 * (toks l).1.length + 3) .expr (toks l).1 g0 (by simp only [Tag.rank]; omega)
    cases hr : pr (4 * (toks l).1.length + 3) .expr (toks l).1 with
    | none => exact absurd hr hne
    | some res =>
      have hrun := pr_runs _ _ _ _ hr (toks l).1 (by omega) (List.suffix_refl _) g0
      simp only [exprP, h0, cond_true, hr]
      cases res with
      | err ts =>
        refine (hT.and hrun).step fun k ⟨hT, hrun⟩ ρ K => ?_
        show Gc8_0 (Tabs k) ρ _ _ = _
        have hrun' := hrun ρ
        rw [posT_all] at hrun'
        simp only [fin] at hrun'
        simp only [Gc8_0, hT, e, cond_false, hrun']
      | ok x c ts =>
        obtain ⟨a1, a2, a3⟩ := pr_keeps _ _ _ _ hr g0
        simp only [PRes.rest] at a1 a2
        obtain ⟨t, r, rfl⟩ : ∃ t r, ts = t :: r := by cases ts with | nil => exact absurd rfl a2.ne | cons a b => exact ⟨a, b, rfl⟩
        have hx := pr_ok _ _ _ _ _ _ hr g0 trivial hok
        refine (hT.and (hrun.and (s_now.and (s_fail.and (s_check x hx))))).step fun k ⟨hT, hrun, h1, h2, h3⟩ ρ K => ?_
        show Gc8_0 (Tabs k) ρ _ _ = _
        have hrun' := hrun ρ
        rw [posT_all] at hrun'
        simp only [fin] at hrun'
        have e2 : (t.kind != 7) = !(t.kind == 7) := rfl
        simp only [Gc8_0, hT, e, cond_false, hrun', h1 _ t r a1, h2 _ t r a1, Rw.eta, h3, kindT, atT, e2]
        cases t.kind == 7 <;> cases wellB x <;> rfl

end Go.Proofs.YtanfoijdfcnpoaaGreatDoor.Ev
