/- This file proves that the items of two sources, one after the other, are those of both, and what SyntaxParts answers; without any condition. -/
import Derived.Test.YtanfoijdfcnpoaaDoorR3
import Derived.Test.YtanfoijdfcnpoaaDoorJA
import Derived.Test.YtanfoijdfcnpoaaDoorR1
set_option linter.unusedVariables false
set_option linter.unusedSimpArgs false
namespace Go.Proofs.YtanfoijdfcnpoaaDoor.Ev

theorem andR_mono {r r' : Option PRes} {f f' : Rw → Bool → List Tok → Option PRes} {res : PRes} (hr : ∀ p, r = some p → r' = some p) (hf : ∀ x c ts p, f x c ts = some p → f' x c ts = some p) (h : andR r f = some res) : andR r' f' = some res := by
  rcases andR_some h with ⟨x, c, ts, h1, h2⟩ | ⟨ts, h1, rfl⟩
  · rw [hr _ h1]; exact hf _ _ _ _ h2
  · rw [hr _ h1]; rfl

theorem bif_mono {b : Bool} {p q p' q' : Option PRes} {res : PRes} (hp : ∀ x, p = some x → p' = some x) (hq : ∀ x, q = some x → q' = some x) (h : (bif b then p else q) = some res) : (bif b then p' else q') = some res := by
  cases b
  · exact hq _ h
  · exact hp _ h

/-- More fuel does not matter. -/
theorem pr_succ : ∀ (f : Nat) (tag : Tag) (ts : List Tok) (res : PRes), pr f tag ts = some res → pr (f + 1) tag ts = some res := by
  intro f
  induction f with
  | zero => intro tag ts res h; cases h
  | succ f ih =>
    intro tag ts res h
    have id : ∀ {o : Option PRes} (p : PRes), o = some p → o = some p := fun p h => h
    cases tag with
    | expr =>
      rw [pr] at h ⊢
      exact bif_mono (fun p => ih _ _ p) (fun p => andR_mono (fun p => ih _ _ p) fun x c ts p => bif_mono id fun p => bif_mono (fun p => andR_mono (fun p => ih _ _ p) fun _ _ _ => id) fun p => ih _ _ p) h
    | atom =>
      rw [pr] at h ⊢
      exact bif_mono (fun p => bif_mono (fun p => andR_mono (fun p => ih _ _ p) fun _ _ _ => id) id) id h
    | app =>
      rw [pr] at h ⊢
      exact andR_mono (fun p => ih _ _ p) (fun _ _ _ p => andR_mono (fun p => ih _ _ p) fun _ _ _ p => bif_mono (fun p => andR_mono (fun p => ih _ _ p) fun _ _ _ => id) id) h
    | appL x =>
      rw [pr] at h ⊢
      exact bif_mono (fun p => andR_mono (fun p => ih _ _ p) fun _ _ _ p => ih _ _ p) id h
    | arrL x c =>
      rw [pr] at h ⊢
      exact bif_mono id (fun p => bif_mono (fun p => bif_mono (fun p => andR_mono (fun p => ih _ _ p) fun _ _ _ p => ih _ _ p) fun p => andR_mono (fun p => ih _ _ p) fun _ _ _ p => ih _ _ p) id) h
    | binder =>
      rw [pr] at h ⊢
      cases ht : ts.tail with
      | nil => rw [ht] at h; exact h
      | cons t r =>
        rw [ht] at h
        exact bif_mono (fun p => bif_mono (fun p => andR_mono (fun p => bif_mono (fun p => ih _ _ p) id) fun _ _ _ p => bif_mono (fun p => andR_mono (fun p => ih _ _ p) fun _ _ _ => id) id) id) id h

theorem pr_mono {f g : Nat} {tag : Tag} {ts : List Tok} {res : PRes} (h : pr f tag ts = some res) (hfg : f ≤ g) : pr g tag ts = some res := by
  induction hfg with
  | refl => exact h
  | step _ ih => exact pr_succ _ _ _ _ ih

/-- With some fuel. -/
def P (tag : Tag) (ts : List Tok) (res : PRes) : Prop := ∃ f, pr f tag ts = some res

theorem P.eq {tag : Tag} {ts : List Tok} {res res' : PRes} {f : Nat} (h : P tag ts res) (h' : pr f tag ts = some res') : res' = res := by
  obtain ⟨g, h⟩ := h
  have h1 := pr_mono h (Nat.le_max_left g f)
  have h2 := pr_mono h' (Nat.le_max_right g f)
  rw [h1] at h2
  cases h2; rfl

end Go.Proofs.YtanfoijdfcnpoaaDoor.Ev

set_option linter.unusedVariables false
set_option linter.unusedSimpArgs false
namespace Go.Proofs.YtanfoijdfcnpoaaDoor.Ev

/-! ### Items that are the same -/

theorem same_loop (x : Pt) : ∀ (r pre : List Pt), x.parts = pre ++ r → x.parts.length ≤ 140737488351232 → (∀ y ∈ r, Evt fun k => ∀ (ρ : Type) K, (Tabs k).c39_0 ρ y y K = K true) →
    Evt fun k => ∀ (ρ : Type) k0 k1, (Tabs k).l39_4_0 ρ (pre.length : Int) x x k0 k1 = k1
  | [], pre, ha, hl, _ => by
    refine Evt.step0 fun k ρ k0 k1 => ?_
    rw [show (Tabs (k + 1)).l39_4_0 = Gl39_4_0 (Tabs k) from rfl]
    have e : decide ((pre.length : Int) < ((x.parts).length : Int)) = false := by simp [ha]
    simp only [Gl39_4_0, e, cond_false]
  | y :: r, pre, ha, hl, ih => by
    have hlen : pre.length < x.parts.length := by simp [ha]
    have e1 : decide ((pre.length : Int) < ((x.parts).length : Int)) = true := by simp; omega
    have e2 : decide ((0 : Int) ≤ (pre.length : Int)) = true := by simp
    have e4 : IntKind.wrap .i64 ((pre.length : Int) + 1) = ((pre ++ [y]).length : Int) := by
      rw [W_id (by omega) (by omega)]; simp
    have e6 : rdEl lay Key.part x.parts (pre.length : Int) = y := by rw [ha]; exact rdPt ..
    refine ((ih y (List.mem_cons_self ..)).and (same_loop x r (pre ++ [y]) (by simp [ha]) hl fun z hz => ih z (List.mem_cons_of_mem _ hz))).step fun k ⟨h1, h2⟩ ρ k0 k1 => ?_
    rw [show (Tabs (k + 1)).l39_4_0 = Gl39_4_0 (Tabs k) from rfl]
    simp only [Gl39_4_0, e1, e2, Bool.and_self, cond_true, e6, rdE_parts, h1, Bool.not_true, cond_false, e4, h2]

theorem s_samePart (x : Pt) : x.Ok → Evt fun k => ∀ (ρ : Type) K, (Tabs k).c39_0 ρ x x K = K true := by
  induction x using Pt.ind with
  | h o s nm n r l ih =>
    intro hok
    have hlen : l.length * 120 ≤ 140737488351232 := hok.len
    refine ((same_loop ⟨o, s, nm, n, r, l⟩ l [] rfl (by show l.length ≤ _; omega) fun y hy => ih y hy (hok.mem y hy)).and (s_rsame r r hok.rw')).step fun k ⟨h1, h2⟩ ρ K => ?_
    rw [show (Tabs (k + 1)).c39_0 = Gc39_0 (Tabs k) from rfl]
    have h1 := h1 ρ
    simp only [List.length_nil, Int.natCast_zero] at h1
    simp only [Gc39_0, bne_self_eq_false, cond_false, strEq_refl, Bool.not_true, Rw.eta, h2, eqRw_refl, h1]

theorem sameI_loop (x : It) : ∀ (r pre : List Pt), x.parts = pre ++ r → x.parts.length ≤ 140737488351232 → (∀ y ∈ r, y.Ok) →
    Evt fun k => ∀ (ρ : Type) k0 k1, (Tabs k).l21_4_0 ρ (pre.length : Int) x x k0 k1 = k0
  | [], pre, ha, hl, _ => by
    refine Evt.step0 fun k ρ k0 k1 => ?_
    rw [show (Tabs (k + 1)).l21_4_0 = Gl21_4_0 (Tabs k) from rfl]
    have e : decide ((pre.length : Int) < ((x.parts).length : Int)) = false := by simp [ha]
    simp only [Gl21_4_0, e, cond_false]
  | y :: r, pre, ha, hl, ih => by
    have hlen : pre.length < x.parts.length := by simp [ha]
    have e1 : decide ((pre.length : Int) < ((x.parts).length : Int)) = true := by simp; omega
    have e2 : decide ((0 : Int) ≤ (pre.length : Int)) = true := by simp
    have e4 : IntKind.wrap .i64 ((pre.length : Int) + 1) = ((pre ++ [y]).length : Int) := by
      rw [W_id (by omega) (by omega)]; simp
    have e6 : rdEl lay Key.part x.parts (pre.length : Int) = y := by rw [ha]; exact rdPt ..
    refine ((s_samePart y (ih y (List.mem_cons_self ..))).and (sameI_loop x r (pre ++ [y]) (by simp [ha]) hl fun z hz => ih z (List.mem_cons_of_mem _ hz))).step fun k ⟨h1, h2⟩ ρ k0 k1 => ?_
    rw [show (Tabs (k + 1)).l21_4_0 = Gl21_4_0 (Tabs k) from rfl]
    simp only [Gl21_4_0, e1, e2, Bool.and_self, cond_true, e6, rdE_parts, It.eta, h1, Bool.not_true, cond_false, e4, h2]

theorem s_sameItem (x : It) (h : x.Ok) : Evt fun k => ∀ (ρ : Type) K, (Tabs k).c21_0 ρ x x K = K true := by
  have hl := h.len
  refine ((sameI_loop x x.parts [] rfl (by omega) h.mem).and (s_rsame x.raw x.raw h.raw)).step fun k ⟨h1, h2⟩ ρ K => ?_
  rw [show (Tabs (k + 1)).c21_0 = Gc21_0 (Tabs k) from rfl]
  have h1 := h1 ρ
  simp only [List.length_nil, Int.natCast_zero] at h1
  simp only [Gc21_0, bne_self_eq_false, cond_false, strEq_refl, Bool.not_true, Rw.eta, It.eta, h2, eqRw_refl, h1]

theorem itemsR_ok (l : List UInt8) : (∀ x ∈ (itemsR l).1, x.Ok) ∧ (itemsR l).1.length ≤ 120 := by
  unfold itemsR
  cases h0 : ((toks l).2.2 == 0) with
  | false => exact ⟨fun x hx => (by cases hx), by simp⟩
  | true =>
    obtain ⟨g0, hlen, hO⟩ := toks_good l (eq_of_beq h0)
    simp only [cond_true]
    cases ho : itemsP ((toks l).1.length + 2) (toks l).1 [] with
    | none => exact ⟨fun x hx => (by cases hx), by simp⟩
    | some out =>
      rcases out with r | q
      · obtain ⟨hok, hrl⟩ := itemsP_ok hO (by omega) _ _ _ _ ho (List.suffix_refl _) g0 (fun x hx => by cases hx) r rfl
        simp only
        cases hw : (r.all wellI && decide (r.length ≤ 120)) with
        | false => exact ⟨fun x hx => (by cases hx), by simp⟩
        | true =>
          simp only [Bool.and_eq_true, decide_eq_true_eq] at hw
          exact ⟨hok, hw.2⟩
      · exact ⟨fun x hx => (by cases hx), by simp⟩

end Go.Proofs.YtanfoijdfcnpoaaDoor.Ev

set_option linter.unusedVariables false
set_option linter.unusedSimpArgs false
namespace Go.Proofs.YtanfoijdfcnpoaaDoor.Ev

/-- A token, its place aside. -/
def shp (t : Tok) : Int × ByteArray := (t.kind, t.text)

/-- A text is cut into these tokens. -/
inductive Cut : List UInt8 → List (Int × ByteArray) → Prop
  | nil : Cut [] []
  | cons {c : UInt8} {r : List UInt8} {k : Int} {w : List UInt8} {ws : List (Int × ByteArray)} (h : next c r = some (k, w)) (hr : Cut (skip ((c :: r).drop w.length) false) ws) : Cut (c :: r) ((k, mk w) :: ws)

theorem Cut.tk {r : List UInt8} {ws : List (Int × ByteArray)} (h : Cut r ws) : ∀ N n, r.length ≤ n → ∃ ts, Ev.tk N n r = .inl ts ∧ ts.map shp = ws := by
  induction h with
  | nil => intro N n _; exact ⟨[], by cases n <;> rfl, rfl⟩
  | @cons c r k w ws h hr ih =>
    intro N n hn
    cases n with
    | zero => simp at hn
    | succ n =>
      obtain ⟨h1, q, h2⟩ := next_text h
      have h1' : 1 ≤ w.length := by
        cases w with
        | nil => exact absurd rfl h1
        | cons _ _ => simp
      have hlen : (skip ((c :: r).drop w.length) false).length ≤ n := by
        have := (skip_suffix ((c :: r).drop w.length) false).length_le
        simp only [List.length_drop, List.length_cons] at this hn
        omega
      obtain ⟨ts, h3, h4⟩ := ih N n hlen
      refine ⟨⟨k, mk w, (N : Int) - ((c :: r).length : Int)⟩ :: ts, ?_, ?_⟩
      · simp only [Ev.tk, h, h3]
      · simp only [List.map_cons, shp, h4]

theorem cut_of (N : Nat) : ∀ (n : Nat) (r : List UInt8) (ts : List Tok), tk N n r = .inl ts → r.length ≤ n → Cut r (ts.map shp)
  | n, [], ts, h, _ => by
    have : tk N n [] = .inl [] := by cases n <;> rfl
    rw [this] at h; cases h; exact .nil
  | 0, c :: r, ts, _, hn => by simp at hn
  | n + 1, c :: r, ts, h, hn => by
    simp only [tk] at h
    cases hx : next c r with
    | none => rw [hx] at h; cases h
    | some x =>
      rw [hx] at h
      simp only at h
      obtain ⟨h1, q, h2⟩ := next_text hx
      have h1' : 1 ≤ x.2.length := by
        cases hw : x.2 with
        | nil => exact absurd hw h1
        | cons _ _ => simp
      have hlen : (skip ((c :: r).drop x.2.length) false).length ≤ n := by
        have := (skip_suffix ((c :: r).drop x.2.length) false).length_le
        simp only [List.length_drop, List.length_cons] at this hn
        omega
      cases ht : tk N n (skip ((c :: r).drop x.2.length) false) with
      | inr p => rw [ht] at h; cases h
      | inl us =>
        rw [ht] at h
        simp only [Sum.inl.injEq] at h
        subst h
        exact .cons (k := x.1) (w := x.2) hx (cut_of N n _ us ht hlen)

/-- What stands behind a token may be put otherwise: its first byte stays, or becomes a line feed. -/
def AlikeN (q q' : List UInt8) : Prop := q'.head? = q.head? ∨ q'.head? = some 10

theorem wordN_alike {q q' : List UInt8} (h : AlikeN q q') (hq : word q = []) : word q' = [] := by
  cases q' with
  | nil => rfl
  | cons d t =>
    have hd : nmC d = false := by
      rcases h with h | h
      · cases q with
        | nil => simp at h
        | cons e s =>
          simp only [List.head?_cons, Option.some.injEq] at h
          subst h
          cases hn : nmC d with
          | false => rfl
          | true => rw [word_ne hn] at hq; simp at hq
      · simp only [List.head?_cons, Option.some.injEq] at h
        subst h; decide
    unfold word
    rw [List.takeWhile_cons, hd]; rfl

theorem wordN_app {q : List UInt8} (hq : word q = []) : ∀ {w : List UInt8}, w.all nmC = true → word (w ++ q) = w
  | [], _ => hq
  | c :: r, h => by
    simp only [List.all_cons, Bool.and_eq_true] at h
    rw [List.cons_append, word_ne h.1, wordN_app hq h.2]

theorem wordN_rest {w q : List UInt8} (h : word (w ++ q) = w) : word q = [] := by
  have hw : w.all nmC = true := by rw [← h]; exact word_all _
  induction w with
  | nil => exact h
  | cons c r ih =>
    simp only [List.all_cons, Bool.and_eq_true] at hw
    rw [List.cons_append, word_ne hw.1] at h
    exact ih (by simpa using h) hw.2

theorem byteN_alike {q q' : List UInt8} (h : AlikeN q q') {n : Int} (h0 : n ≠ 0) (h9 : n ≠ 10) (hq : byteAt q ≠ n) : byteAt q' ≠ n := by
  cases q' with
  | nil => exact fun e => h0 e.symm
  | cons d t =>
    rcases h with h | h
    · cases q with
      | nil => simp at h
      | cons e s =>
        simp only [List.head?_cons, Option.some.injEq] at h
        subst h; exact hq
    · simp only [List.head?_cons, Option.some.injEq] at h
      subst h
      exact fun e => h9 e.symm

theorem nextN_cong {c : UInt8} {w q q' : List UInt8} {k : Int} (h : next c (w ++ q) = some (k, c :: w)) (ha : AlikeN q q') : next c (w ++ q') = some (k, c :: w) := by
  have one : ∀ {b : Bool} {n : Int} {v : List UInt8}, (bif b then some (n, v) else none) = some (k, c :: w) → b = true ∧ n = k ∧ v = c :: w := by
    intro b n v hb; cases b
    · cases hb
    · simp only [cond_true, Option.some.injEq, Prod.mk.injEq] at hb; exact ⟨rfl, hb.1, hb.2⟩
  have fin : ∀ {v : List UInt8}, word (v ++ q) = v → word (v ++ q') = v := fun {v} hv => wordN_app (wordN_alike ha (wordN_rest hv)) (by
    have := word_all (v ++ q); rwa [hv] at this)
  unfold next at h ⊢
  simp only at h ⊢
  cases h1 : smallB (c.toNat : Int) with
  | true =>
    rw [h1, cond_true] at h
    obtain ⟨h2, rfl, h3⟩ := one h
    have h4 := fin (v := c :: w) h3
    rw [List.cons_append] at h4
    rw [cond_true, h4, ← h3, h2]; rfl
  | false =>
  rw [h1, cond_false] at h
  rw [cond_false]
  cases h1 : capB (c.toNat : Int) with
  | true =>
    rw [h1, cond_true] at h
    obtain ⟨h2, rfl, h3⟩ := one h
    have h4 := fin (v := c :: w) h3
    rw [List.cons_append] at h4
    rw [cond_true, h4, ← h3, h2]; rfl
  | false =>
  rw [h1, cond_false] at h
  rw [cond_false]
  cases h1 : digB (c.toNat : Int) with
  | true =>
    rw [h1, cond_true] at h
    obtain ⟨h2, rfl, h3⟩ := one h
    have h4 := fin (v := c :: w) h3
    rw [List.cons_append] at h4
    rw [cond_true, h4, ← h3, h2]; rfl
  | false =>
  rw [h1, cond_false] at h
  rw [cond_false]
  cases h1 : ((c.toNat : Int) == 95) with
  | true =>
    rw [h1, cond_true] at h
    obtain ⟨h2, rfl, h3⟩ := one h
    simp only [List.cons.injEq] at h3
    obtain ⟨rfl, rfl⟩ := h3
    have h4 := fin (v := [95]) (by simpa using h2)
    rw [cond_true, List.nil_append]
    rw [List.cons_append, List.nil_append] at h4
    rw [h4]; rfl
  | false =>
  rw [h1, cond_false] at h
  rw [cond_false]
  cases h1 : ((c.toNat : Int) == 37) with
  | true =>
    rw [h1, cond_true] at h
    obtain ⟨h2, rfl, h3⟩ := one h
    simp only [List.cons.injEq] at h3
    obtain ⟨rfl, h3⟩ := h3
    rw [cond_true, fin h3]
    rw [h3] at h2
    rw [h2]; rfl
  | false =>
  rw [h1, cond_false] at h
  rw [cond_false]
  cases h1 : ((c.toNat : Int) == 45) with
  | true =>
    rw [h1, cond_true] at h
    rw [cond_true]
    cases h2 : (byteAt (w ++ q) == 62) with
    | true =>
      rw [h2] at h
      simp only [cond_true, Option.some.injEq, Prod.mk.injEq, List.cons.injEq] at h
      obtain ⟨rfl, rfl, rfl⟩ := h
      rfl
    | false =>
      rw [h2] at h
      simp only [cond_false, Option.some.injEq, Prod.mk.injEq, List.cons.injEq] at h
      obtain ⟨rfl, rfl, rfl⟩ := h
      rw [List.nil_append] at h2 ⊢
      have h5 := byteN_alike ha (n := 62) (by decide) (by decide) (by simpa using h2)
      have h6 : (byteAt q' == 62) = false := by simpa using h5
      rw [h6]; rfl
  | false =>
  rw [h1, cond_false] at h
  rw [cond_false]
  cases h1 : ((c.toNat : Int) == 60) with
  | true =>
    rw [h1, cond_true] at h
    rw [cond_true]
    obtain ⟨h2, rfl, h3⟩ := one h
    simp only [List.cons.injEq] at h3
    obtain ⟨rfl, rfl⟩ := h3
    rfl
  | false =>
    rw [h1, cond_false] at h
    rw [cond_false]
    obtain ⟨h2, rfl, h3⟩ := one h
    simp only [List.cons.injEq] at h3
    obtain ⟨_, rfl⟩ := h3
    rw [h2]; rfl

/-- Behind separators and comments, with a line feed and more behind them. -/
theorem skip_nl (q : List UInt8) : ∀ (r : List UInt8) (b : Bool), skip (r ++ 10 :: q) b = skip (skip r b ++ 10 :: q) false
  | [], true => by
    have h1 : (((10 : UInt8).toNat : Int) == 10) = true := by decide
    have h2 : wsB ((10 : UInt8).toNat : Int) = true := by decide
    simp only [List.nil_append, skip, h1, h2, if_true]
  | [], false => rfl
  | c :: r, true => by
    simp only [List.cons_append, skip]
    split
    · exact skip_nl q r false
    · exact skip_nl q r true
  | c :: r, false => by
    have hcm : comm (r ++ 10 :: q) = comm r := by
      cases r with
      | nil =>
        have h2 : wsB ((10 : UInt8).toNat : Int) = true := by decide
        simp only [List.nil_append, comm, h2, Bool.true_or]
      | cons d t => rfl
    have hun : skip (c :: r) false = (if wsB (c.toNat : Int) = true then skip r false else if ((c.toNat : Int) == 37 && comm r) = true then skip r true else c :: r) := by simp only [skip]
    rw [hun]
    conv => lhs; rw [List.cons_append]; simp only [skip]
    rw [hcm]
    split
    · exact skip_nl q r false
    · split
      · exact skip_nl q r true
      · rename_i h1 h2
        rw [List.cons_append]
        simp only [skip, hcm, h1, h2, if_false]
        simp

theorem cut_cat {q : List UInt8} {ws : List (Int × ByteArray)} (hq : Cut (skip q false) ws) (N : Nat) : ∀ (n : Nat) (r : List UInt8) (ts : List Tok), tk N n r = .inl ts → r.length ≤ n → skip r false = r → Cut (skip (r ++ 10 :: q) false) (ts.map shp ++ ws)
  | n, [], ts, h, _, _ => by
    have : tk N n [] = .inl [] := by cases n <;> rfl
    rw [this] at h; cases h
    have h2 : wsB ((10 : UInt8).toNat : Int) = true := by decide
    simpa only [List.nil_append, skip, h2, if_true, List.map_nil] using hq
  | 0, c :: r, ts, _, hn, _ => by simp at hn
  | n + 1, c :: r, ts, h, hn, hs => by
    simp only [tk] at h
    cases hx : next c r with
    | none => rw [hx] at h; cases h
    | some x =>
      rw [hx] at h
      simp only at h
      obtain ⟨h1, t, h2⟩ := next_text hx
      obtain ⟨w, hw⟩ : ∃ w, x.2 = c :: w := by
        cases hx2 : x.2 with
        | nil => exact absurd hx2 h1
        | cons d w => rw [hx2] at h2; simp at h2; exact ⟨w, by rw [h2.1]⟩
      rw [hw] at h2
      simp only [List.cons_append, List.cons.injEq, true_and] at h2
      have hdrop : (c :: r).drop x.2.length = t := by rw [hw, h2, ← List.cons_append, List.drop_left]
      rw [hdrop] at h
      have hsl := (skip_suffix t false).length_le
      have hlt : t.length ≤ n := by
        simp only [List.length_cons] at hn
        rw [h2, List.length_append] at hn; omega
      cases ht : tk N n (skip t false) with
      | inr p => rw [ht] at h; cases h
      | inl us =>
        rw [ht] at h
        simp only [Sum.inl.injEq] at h
        subst h
        have ih := cut_cat hq N n (skip t false) us ht (by omega) (skip_idem t)
        rw [← skip_nl] at ih
        rw [skip_nl, hs]
        obtain ⟨g1, g2⟩ := skip_tok hs
        have hsame : skip ((c :: r) ++ 10 :: q) false = c :: (w ++ (t ++ 10 :: q)) := by
          have hcm : comm (r ++ 10 :: q) = comm r := by
            cases r with
            | nil =>
              have h2 : wsB ((10 : UInt8).toNat : Int) = true := by decide
              simp only [List.nil_append, comm, h2, Bool.true_or]
            | cons d t => rfl
          rw [List.cons_append]
          simp only [skip, g1, hcm, g2, Bool.false_eq_true, if_false]
          rw [h2, List.append_assoc]
        rw [hsame, List.map_cons, List.cons_append]
        have hk : x = (x.1, c :: w) := by rw [← hw]
        have hn2 : next c (w ++ (t ++ 10 :: q)) = some (x.1, c :: w) := by
          refine nextN_cong (q := t) (by rw [← h2, hx, ← hk]) ?_
          cases t with
          | nil => exact .inr rfl
          | cons d t => exact .inl rfl
        have hd2 : (c :: (w ++ (t ++ 10 :: q))).drop (c :: w).length = t ++ 10 :: q := by rw [← List.cons_append, List.drop_left]
        have := Cut.cons (ws := us.map shp ++ ws) hn2 (by rw [hd2]; exact ih)
        simpa only [shp, hw] using this
where
  skip_tok {c : UInt8} {r : List UInt8} (h : skip (c :: r) false = c :: r) : wsB (c.toNat : Int) = false ∧ ((c.toNat : Int) == 37 && comm r) = false := by
    have no : ∀ b, skip r b ≠ c :: r := fun b e => by
      have := (skip_suffix r b).length_le
      rw [e] at this
      simp only [List.length_cons] at this
      omega
    simp only [skip] at h
    cases hw : wsB (c.toNat : Int) with
    | true => rw [hw, if_pos rfl] at h; exact absurd h (no _)
    | false =>
      rw [hw] at h
      cases hc : ((c.toNat : Int) == 37 && comm r) with
      | true => rw [hc] at h; simp only [Bool.false_eq_true, if_false, if_true] at h; exact absurd h (no _)
      | false => exact ⟨rfl, rfl⟩
  skip_idem : ∀ (t : List UInt8) {b : Bool}, skip (skip t b) false = skip t b
  | [], b => by cases b <;> rfl
  | c :: r, true => by
    simp only [skip]
    split
    · exact skip_idem r
    · exact skip_idem r
  | c :: r, false => by
    have hun : skip (c :: r) false = (if wsB (c.toNat : Int) = true then skip r false else if ((c.toNat : Int) == 37 && comm r) = true then skip r true else c :: r) := by simp only [skip]
    rw [hun]
    split
    · exact skip_idem r
    · split
      · exact skip_idem r
      · rename_i h1 h2
        rw [hun, if_neg h1, if_neg h2]

/-- The tokens of two texts, one after the other. -/
theorem toks_cat {a b : List UInt8} (ha : (toks a).2.2 = 0) (hb : (toks b).2.2 = 0) (hl : a.length + b.length < 6000) :
    ∃ ta tb u v, (toks a).1 = ta ++ [⟨7, mk [], (a.length : Int)⟩] ∧ (toks b).1 = tb ++ [⟨7, mk [], (b.length : Int)⟩] ∧
      toks (a ++ 10 :: b) = (u ++ (v ++ [⟨7, mk [], ((a ++ 10 :: b).length : Int)⟩]), 0, 0) ∧ ta.map shp = u.map shp ∧ tb.map shp = v.map shp := by
  have one : ∀ {l : List UInt8}, (toks l).2.2 = 0 → l.length ≤ 6000 → ∃ ts, tk l.length l.length (skip l false) = .inl ts ∧ (toks l).1 = ts ++ [⟨7, mk [], (l.length : Int)⟩] := by
    intro l h h6
    unfold toks at h ⊢
    simp only [h6, decide_true, cond_true] at h ⊢
    cases hk : tk l.length l.length (skip l false) with
    | inr p => rw [hk] at h; exact absurd h (show ¬ ((4 : Int) = 0) by decide)
    | inl ts => exact ⟨ts, rfl, rfl⟩
  obtain ⟨ta, h1, h2⟩ := one ha (by omega)
  obtain ⟨tb, h3, h4⟩ := one hb (by omega)
  have la := (skip_suffix a false).length_le
  have lb := (skip_suffix b false).length_le
  have hc := cut_cat (q := b) (cut_of _ _ _ _ h3 lb) a.length a.length (skip a false) ta h1 la (cut_cat.skip_idem a)
  rw [← skip_nl] at hc
  obtain ⟨ts, h5, h6⟩ := hc.tk (a ++ 10 :: b).length (a ++ 10 :: b).length (skip_suffix _ _).length_le
  have hl2 : (a ++ 10 :: b).length ≤ 6000 := by simp; omega
  obtain ⟨u, v, rfl, hu, hv⟩ : ∃ u v, ts = u ++ v ∧ ta.map shp = u.map shp ∧ tb.map shp = v.map shp := by
    refine ⟨ts.take ta.length, ts.drop ta.length, (List.take_append_drop _ _).symm, ?_, ?_⟩
    · rw [List.map_take, h6, List.take_left' (by simp)]
    · rw [List.map_drop, h6, List.drop_left' (by simp)]
  refine ⟨ta, tb, u, v, h2, h4, ?_, hu, hv⟩
  unfold toks
  simp only [hl2, decide_true, cond_true, h5, List.append_assoc]

end Go.Proofs.YtanfoijdfcnpoaaDoor.Ev

set_option linter.unusedVariables false
set_option linter.unusedSimpArgs false
namespace Go.Proofs.YtanfoijdfcnpoaaDoor.Ev

section
variable {s s' : List Tok}

theorem mid {p r q : List Tok} (h1 : r <:+ p ++ s) (h2 : q ++ s <:+ r) : ∃ r1, r = r1 ++ s ∧ r1 <:+ p ∧ q <:+ r1 := by
  obtain ⟨x, hx⟩ := h1
  obtain ⟨y, rfl⟩ := h2
  refine ⟨y ++ q, by simp, ⟨x, ?_⟩, ⟨y, rfl⟩⟩
  rw [← List.append_assoc, ← List.append_assoc] at hx
  have := List.append_cancel_right hx
  rw [← List.append_assoc]; exact this

theorem suf_ne {q r : List Tok} (h : q <:+ r) (hq : q ≠ []) : r ≠ [] := by
  rintro rfl
  obtain ⟨y, hy⟩ := h
  simp at hy
  exact hq hy.2

theorem tl_app {r s : List Tok} (h : r ≠ []) : (r ++ s).tail = r.tail ++ s := by
  cases r with
  | nil => exact absurd rfl h
  | cons a b => rfl

theorem shp_cons {t : Tok} {r p' : List Tok} (h : (t :: r).map shp = p'.map shp) : ∃ t' r', p' = t' :: r' ∧ t'.kind = t.kind ∧ t'.text = t.text ∧ r.map shp = r'.map shp := by
  cases p' with
  | nil => cases h
  | cons t' r' =>
    simp only [List.map_cons, List.cons.injEq, shp, Prod.mk.injEq] at h
    exact ⟨t', r', rfl, h.1.1.symm, h.1.2.symm, h.2⟩

theorem shp_ne {p p' : List Tok} (h : p.map shp = p'.map shp) (hp : p ≠ []) : p' ≠ [] := by
  rintro rfl
  cases p with
  | nil => exact hp rfl
  | cons _ _ => cases h

theorem shp_tail {p p' : List Tok} (h : p.map shp = p'.map shp) : p.tail.map shp = p'.tail.map shp := by
  rw [List.map_tail, List.map_tail, h]

theorem sees_loc {p p' : List Tok} (hp : p ≠ []) (h : p.map shp = p'.map shp) (ws : List ByteArray) : sees (p ++ s) ws = sees (p' ++ s') ws := by
  cases p with
  | nil => exact absurd rfl hp
  | cons t r =>
    obtain ⟨t', r', rfl, h1, h2, _⟩ := shp_cons h
    simp only [List.cons_append, sees, h1, h2]

theorem atomic_loc {p p' : List Tok} (hp : p ≠ []) (h : p.map shp = p'.map shp) : atomicB (p ++ s) = atomicB (p' ++ s') := by
  have hs := sees_loc (s := s) (s' := s') hp h [tLP]
  cases p with
  | nil => exact absurd rfl hp
  | cons t r =>
    obtain ⟨t', r', rfl, h1, h2, _⟩ := shp_cons h
    simp only [List.cons_append] at hs
    simp only [List.cons_append, atomicB, h1, hs]

theorem atomOf_loc {p p' : List Tok} (hp : p ≠ []) (h : p.map shp = p'.map shp) : atomOf (p ++ s) = atomOf (p' ++ s') := by
  cases p with
  | nil => exact absurd rfl hp
  | cons t r =>
    obtain ⟨t', r', rfl, h1, h2, _⟩ := shp_cons h
    simp only [List.cons_append, atomOf, h1, h2]

theorem hd_loc {p p' : List Tok} (hp : p ≠ []) (h : p.map shp = p'.map shp) : (hdT (p ++ s)).kind = (hdT (p' ++ s')).kind ∧ (hdT (p ++ s)).text = (hdT (p' ++ s')).text := by
  cases p with
  | nil => exact absurd rfl hp
  | cons t r =>
    obtain ⟨t', r', rfl, h1, h2, _⟩ := shp_cons h
    exact ⟨h1.symm, h2.symm⟩

theorem nm_loc {p p' : List Tok} (hp : p ≠ []) (h : p.map shp = p'.map shp) : isNameB (hdT (p ++ s)) = isNameB (hdT (p' ++ s')) := by
  obtain ⟨h1, h2⟩ := hd_loc (s := s) (s' := s') hp h
  simp only [isNameB, h1, h2]

theorem pr_loc : ∀ (f : Nat) (tag : Tag) (p p' : List Tok) (x : Rw) (c : Bool) (q : List Tok), pr f tag (p ++ s) = some (.ok x c (q ++ s)) → q ≠ [] → Gd (p ++ s) → p.map shp = p'.map shp →
    ∃ q', q.map shp = q'.map shp ∧ pr f tag (p' ++ s') = some (.ok x c (q' ++ s')) := by
  intro f
  induction f with
  | zero => intro tag p p' x c q h; cases h
  | succ f ih =>
    intro tag p p' x c q h hq hg hsh
    have K : ∀ {tag ts y d ts1}, pr f tag ts = some (.ok y d ts1) → Gd ts → ts1 <:+ ts ∧ Gd ts1 := by
      intro tag ts y d ts1 h hg
      obtain ⟨a1, a2, _⟩ := pr_keeps _ _ _ _ h hg
      exact ⟨a1, a2⟩
    have hsuf : q ++ s <:+ p ++ s := (pr_keeps _ _ _ _ h hg).1
    have hp : p ≠ [] := by
      rintro rfl
      have := hsuf.length_le
      simp at this
      exact hq (by cases q with | nil => rfl | cons _ _ => exfalso; simp at this; omega)
    have S := fun ws => sees_loc (s := s) (s' := s') hp hsh ws
    cases tag with
    | expr =>
      simp only [pr] at h ⊢
      rw [← S [tLB, tLS]]
      rcases bif_some h with ⟨hs, h⟩ | ⟨hs, h⟩
      · obtain ⟨q', e1, e2⟩ := ih .binder p p' x c q h hq hg hsh
        exact ⟨q', e1, by rw [hs, cond_true, e2]⟩
      rw [hs, cond_false]
      rcases andR_some h with ⟨y, c1, ts1, h1, h⟩ | ⟨ts1, h1, h⟩
      · obtain ⟨k1, g1⟩ := K h1 hg
        rcases bif_some h with ⟨hc, h⟩ | ⟨hc, h⟩
        · cases h
          obtain ⟨q', e1, e2⟩ := ih .app p p' _ _ q h1 hq hg hsh
          exact ⟨q', e1, by rw [e2]; simp only [andR, hc, cond_true]⟩
        rcases bif_some h with ⟨hs1, h⟩ | ⟨hs1, h⟩
        · rcases andR_some h with ⟨z, c2, ts2, h2, h⟩ | ⟨ts2, h2, h⟩
          · cases h
            obtain ⟨g2, _⟩ := gd_tl g1 (sees7 hs1)
            obtain ⟨k2, _⟩ := K h2 g2
            obtain ⟨r1, rfl, m1, m2⟩ := mid k1 (k2.trans (suf_tl _))
            have hr := suf_ne m2 hq
            rw [tl_app hr] at h2 g2
            obtain ⟨r1', e1, e2⟩ := ih .app p p' _ _ r1 h1 hr hg hsh
            obtain ⟨q', e3, e4⟩ := ih .expr r1.tail r1'.tail _ _ q h2 hq g2 (shp_tail e1)
            refine ⟨q', e3, ?_⟩
            rw [sees_loc (s' := s') hr e1] at hs1
            rw [e2]; simp only [andR, hc, hs1, cond_true, cond_false, tl_app (shp_ne e1 hr), e4]
          · cases h
        · obtain ⟨k2, _⟩ := K h g1
          obtain ⟨r1, rfl, m1, m2⟩ := mid k1 k2
          have hr := suf_ne m2 hq
          obtain ⟨r1', e1, e2⟩ := ih .app p p' _ _ r1 h1 hr hg hsh
          obtain ⟨q', e3, e4⟩ := ih (.arrL y c1) r1 r1' _ _ q h hq g1 e1
          refine ⟨q', e3, ?_⟩
          rw [sees_loc (s' := s') hr e1] at hs1
          rw [e2]; simp only [andR, hc, hs1, cond_false]
          rw [hc] at e4; exact e4
      · cases h
    | atom =>
      simp only [pr] at h ⊢
      rw [← atomic_loc (s := s) hp hsh]
      rcases bif_some h with ⟨ha, h⟩ | ⟨ha, h⟩
      · rw [ha, cond_true, ← S [tLP], tl_app (shp_ne hsh hp)]
        obtain ⟨g0, _⟩ := gd_tl hg (atomic_kind ha)
        rw [tl_app hp] at h g0
        rcases bif_some h with ⟨hs, h⟩ | ⟨hs, h⟩
        · rw [hs, cond_true]
          rcases andR_some h with ⟨y, c1, ts1, h1, h⟩ | ⟨ts1, h1, h⟩
          · obtain ⟨k1, g1⟩ := K h1 g0
            rcases bif_some h with ⟨hs1, h⟩ | ⟨hs1, h⟩
            · simp only [Option.some.injEq, PRes.ok.injEq] at h
              obtain ⟨rfl, rfl, htl⟩ := h
              obtain ⟨r1, rfl, m1, m2⟩ := mid k1 (htl ▸ suf_tl ts1)
              have hr := suf_ne m2 hq
              rw [tl_app hr] at htl
              have htl := List.append_cancel_right htl
              obtain ⟨r1', e1, e2⟩ := ih .expr p.tail p'.tail _ _ r1 h1 hr g0 (shp_tail hsh)
              refine ⟨r1'.tail, by rw [← htl]; exact shp_tail e1, ?_⟩
              rw [sees_loc (s' := s') hr e1] at hs1
              rw [e2]; simp only [andR, hs1, cond_true, tl_app (shp_ne e1 hr)]
            · cases h
          · cases h
        · rw [hs, cond_false]
          simp only [Option.some.injEq, PRes.ok.injEq] at h
          obtain ⟨rfl, rfl, htl⟩ := h
          have htl := List.append_cancel_right htl
          exact ⟨p'.tail, by rw [← htl]; exact shp_tail hsh, by rw [atomOf_loc (s' := s') hp hsh]⟩
      · cases h
    | app =>
      simp only [pr] at h ⊢
      rcases andR_some h with ⟨y, c1, ts1, h1, h⟩ | ⟨ts1, h1, h⟩
      · obtain ⟨k1, g1⟩ := K h1 hg
        rcases andR_some h with ⟨z, c2, ts2, h2, h⟩ | ⟨ts2, h2, h⟩
        · obtain ⟨k2, g2⟩ := K h2 g1
          rcases bif_some h with ⟨hs1, h⟩ | ⟨hs1, h⟩
          · rcases andR_some h with ⟨w, c3, ts3, h3, h⟩ | ⟨ts3, h3, h⟩
            · cases h
              obtain ⟨k3, _⟩ := K h3 g2
              obtain ⟨r1, rfl, m1, m2⟩ := mid k1 (k3.trans k2)
              obtain ⟨r2, rfl, m3, m4⟩ := mid k2 k3
              have hr2 := suf_ne m4 hq
              have hr1 := suf_ne m2 hq
              obtain ⟨r1', e1, e2⟩ := ih .atom p p' _ _ r1 h1 hr1 hg hsh
              obtain ⟨r2', e3, e4⟩ := ih (.appL y) r1 r1' _ _ r2 h2 hr2 g1 e1
              obtain ⟨q', e5, e6⟩ := ih .binder r2 r2' _ _ q h3 hq g2 e3
              refine ⟨q', e5, ?_⟩
              rw [sees_loc (s' := s') hr2 e3] at hs1
              rw [e2]; simp only [andR, e4, hs1, cond_true, e6]
            · cases h
          · cases h
            obtain ⟨r1, rfl, m1, m2⟩ := mid k1 k2
            have hr1 := suf_ne m2 hq
            obtain ⟨r1', e1, e2⟩ := ih .atom p p' _ _ r1 h1 hr1 hg hsh
            obtain ⟨q', e3, e4⟩ := ih (.appL y) r1 r1' _ _ q h2 hq g1 e1
            refine ⟨q', e3, ?_⟩
            rw [sees_loc (s' := s') hq e3] at hs1
            rw [e2]; simp only [andR, e4, hs1, cond_false]
        · cases h
      · cases h
    | appL y =>
      simp only [pr] at h ⊢
      rw [← atomic_loc (s := s) hp hsh]
      rcases bif_some h with ⟨ha, h⟩ | ⟨ha, h⟩
      · rw [ha, cond_true]
        rcases andR_some h with ⟨z, c1, ts1, h1, h⟩ | ⟨ts1, h1, h⟩
        · obtain ⟨k1, g1⟩ := K h1 hg
          obtain ⟨k2, _⟩ := K h g1
          obtain ⟨r1, rfl, m1, m2⟩ := mid k1 k2
          have hr1 := suf_ne m2 hq
          obtain ⟨r1', e1, e2⟩ := ih .atom p p' _ _ r1 h1 hr1 hg hsh
          obtain ⟨q', e3, e4⟩ := ih (.appL _) r1 r1' _ _ q h hq g1 e1
          exact ⟨q', e3, by rw [e2]; simp only [andR, e4]⟩
        · cases h
      · simp only [Option.some.injEq, PRes.ok.injEq] at h
        obtain ⟨rfl, rfl, htl⟩ := h
        have htl := List.append_cancel_right htl
        subst htl
        exact ⟨p', hsh, by rw [ha, cond_false]⟩
    | arrL y c0 =>
      simp only [pr] at h ⊢
      rw [← S [tAl]]
      rcases bif_some h with ⟨hc, h⟩ | ⟨hc, h⟩
      · simp only [Option.some.injEq, PRes.ok.injEq] at h
        obtain ⟨rfl, rfl, htl⟩ := h
        have htl := List.append_cancel_right htl
        subst htl
        exact ⟨p', hsh, by rw [hc, cond_true]⟩
      rw [hc, cond_false]
      rcases bif_some h with ⟨hs, h⟩ | ⟨hs, h⟩
      · rw [hs, cond_true, tl_app (shp_ne hsh hp)]
        obtain ⟨g0, _⟩ := gd_tl hg (sees7 hs)
        rw [tl_app hp] at h g0
        have tne : ∀ {ws}, sees (p.tail ++ s) ws = sees (p'.tail ++ s') ws ∨ p.tail = [] := fun {ws} => by
          cases hpt : p.tail with
          | nil => exact .inr rfl
          | cons a b => exact .inl (by rw [← hpt]; exact sees_loc (by rw [hpt]; simp) (shp_tail hsh) ws)
        have big : ∀ {ts1 : List Tok}, q ++ s <:+ ts1 → ts1 <:+ p.tail ++ s → p.tail ≠ [] := fun a b e => by
          rw [e] at b
          have := (a.trans b).length_le
          simp at this
          exact hq (by cases q with | nil => rfl | cons _ _ => exfalso; simp at this; omega)
        rcases bif_some h with ⟨hb, h⟩ | ⟨hb, h⟩
        · rcases andR_some h with ⟨z, c1, ts1, h1, h⟩ | ⟨ts1, h1, h⟩
          · obtain ⟨k1, g1⟩ := K h1 g0
            obtain ⟨k2, _⟩ := K h g1
            have hpt := big k2 k1
            obtain ⟨r1, rfl, m1, m2⟩ := mid k1 k2
            have hr1 := suf_ne m2 hq
            obtain ⟨r1', e1, e2⟩ := ih .binder p.tail p'.tail _ _ r1 h1 hr1 g0 (shp_tail hsh)
            obtain ⟨q', e3, e4⟩ := ih (.arrL _ _) r1 r1' _ _ q h hq g1 e1
            rw [sees_loc (s' := s') hpt (shp_tail hsh)] at hb
            exact ⟨q', e3, by rw [hb, cond_true, e2]; simp only [andR, e4]⟩
          · cases h
        · rcases andR_some h with ⟨z, c1, ts1, h1, h⟩ | ⟨ts1, h1, h⟩
          · obtain ⟨k1, g1⟩ := K h1 g0
            obtain ⟨k2, _⟩ := K h g1
            have hpt := big k2 k1
            obtain ⟨r1, rfl, m1, m2⟩ := mid k1 k2
            have hr1 := suf_ne m2 hq
            obtain ⟨r1', e1, e2⟩ := ih .app p.tail p'.tail _ _ r1 h1 hr1 g0 (shp_tail hsh)
            obtain ⟨q', e3, e4⟩ := ih (.arrL _ _) r1 r1' _ _ q h hq g1 e1
            rw [sees_loc (s' := s') hpt (shp_tail hsh)] at hb
            exact ⟨q', e3, by rw [hb, cond_false, e2]; simp only [andR, e4]⟩
          · cases h
      · simp only [Option.some.injEq, PRes.ok.injEq] at h
        obtain ⟨rfl, rfl, htl⟩ := h
        have htl := List.append_cancel_right htl
        subst htl
        exact ⟨p', hsh, by rw [hs, cond_false, hc]⟩
    | binder =>
      cases p with
      | nil => exact absurd rfl hp
      | cons t0 p1 =>
      obtain ⟨t0', p1', rfl, e1, e2, hsh1⟩ := shp_cons hsh
      cases hpt : p1 ++ s with
      | nil => rw [List.cons_append, hpt] at h; simp [pr] at h
      | cons t r =>
        have h0 := h
        rw [List.cons_append, hpt] at h
        simp only [pr, List.tail_cons] at h
        rcases bif_some h with ⟨hs, h⟩ | ⟨hs, h⟩
        · have g1 : Gd (t :: r) := by
            have := (gd_tl hg (sees7 (by rw [List.cons_append, hpt]; exact hs))).1
            rwa [List.cons_append, List.tail_cons, hpt] at this
          rcases bif_some h with ⟨hn, h⟩ | ⟨hn, h⟩
          · have g3 : Gd r := g1.tail (isName_kind hn)
            have hS : sees ((t0 :: p1) ++ s) [tLB, tLS] = true := by rw [List.cons_append, hpt]; exact hs
            have hS' : sees ((t0 :: p1) ++ s) [tLS] = sees (t0 :: t :: r) [tLS] := by rw [List.cons_append, hpt]
            -- what follows the name
            obtain ⟨y, c1, ts1, h1, h⟩ | ⟨ts1, h1, h⟩ := andR_some h
            · have k1 : ts1 <:+ r ∧ Gd ts1 := by
                rcases bif_some h1 with ⟨hc, h1⟩ | ⟨hc, h1⟩
                · obtain ⟨g5, _⟩ := gd_tl g3 (sees7 hc)
                  obtain ⟨k, g⟩ := K h1 g5
                  exact ⟨k.trans (suf_tl _), g⟩
                · cases h1; exact ⟨List.suffix_refl _, g3⟩
              obtain ⟨k1, g6⟩ := k1
              rcases bif_some h with ⟨he, h⟩ | ⟨he, h⟩
              · obtain ⟨z, c2, ts2, h2, h⟩ | ⟨ts2, h2, h⟩ := andR_some h
                · cases h
                  obtain ⟨g7, _⟩ := gd_tl g6 (sees7 he)
                  obtain ⟨k2, _⟩ := K h2 g7
                  have hqr : q ++ s <:+ ts1 := k2.trans (suf_tl _)
                  -- the name stands before the rest
                  obtain ⟨t', p2, rfl⟩ : ∃ t' p2, p1 = t' :: p2 := by
                    cases p1 with
                    | cons a b => exact ⟨a, b, rfl⟩
                    | nil =>
                      exfalso
                      have := (hqr.trans k1).length_le
                      have h9 := congrArg List.length hpt
                      simp only [List.nil_append, List.length_cons, List.length_append] at this h9
                      omega
                  simp only [List.cons_append, List.cons.injEq] at hpt
                  obtain ⟨rfl, rfl⟩ := hpt
                  obtain ⟨t2, p2', rfl, f1, f2, hsh2⟩ := shp_cons hsh1
                  obtain ⟨r1, rfl, m1, m2⟩ := mid k1 hqr
                  have hr1 := suf_ne m2 hq
                  have hp2 : p2 ≠ [] := suf_ne m1 hr1
                  rw [tl_app hr1] at h2 g7
                  have hn' : isNameB t2 = true := by simpa only [isNameB, f1, f2] using hn
                  have hLB := sees_loc (s := s) (s' := s') (p := t0 :: t' :: p2) (by simp) hsh [tLB, tLS]
                  have hLS := sees_loc (s := s) (s' := s') (p := t0 :: t' :: p2) (by simp) hsh [tLS]
                  simp only [List.cons_append] at hLB hLS
                  -- the domain
                  have dom : ∃ r1', r1.map shp = r1'.map shp ∧ (bif sees (p2' ++ s') [tCo] then pr f .expr (p2' ++ s').tail else some (.ok ⟨3, tNo, []⟩ false (p2' ++ s'))) = some (.ok y c1 (r1' ++ s')) := by
                    have hco := sees_loc (s := s) (s' := s') hp2 hsh2 [tCo]
                    rcases bif_some h1 with ⟨hc, h1⟩ | ⟨hc, h1⟩
                    · obtain ⟨g5, _⟩ := gd_tl g3 (sees7 hc)
                      rw [tl_app hp2] at h1 g5
                      obtain ⟨r1', e3, e4⟩ := ih .expr p2.tail p2'.tail _ _ r1 h1 hr1 g5 (shp_tail hsh2)
                      exact ⟨r1', e3, by rw [← hco, hc, cond_true, tl_app (shp_ne hsh2 hp2), e4]⟩
                    · simp only [Option.some.injEq, PRes.ok.injEq] at h1
                      obtain ⟨rfl, rfl, htl⟩ := h1
                      have htl := List.append_cancel_right htl
                      subst htl
                      exact ⟨p2', hsh2, by rw [← hco, hc, cond_false]⟩
                  obtain ⟨r1', e3, e4⟩ := dom
                  obtain ⟨q', e5, e6⟩ := ih .expr r1.tail r1'.tail _ _ q h2 hq g7 (shp_tail e3)
                  refine ⟨q', e5, ?_⟩
                  rw [sees_loc (s' := s') hr1 e3, hLS] at he
                  simp only [pr, List.cons_append, List.tail_cons, ← hLB, hs, cond_true, hn', e4, andR, he, tl_app (shp_ne e3 hr1), e6, hLS, f2]
                · cases h
              · cases h
            · cases h
          · cases h
        · cases h

end
end Go.Proofs.YtanfoijdfcnpoaaDoor.Ev

set_option linter.unusedVariables false
set_option linter.unusedSimpArgs false
namespace Go.Proofs.YtanfoijdfcnpoaaDoor.Ev

theorem gd_app {s : List Tok} (h : Gd s) (p : List Tok) : Gd (p ++ s) := by
  obtain ⟨pre, e, rfl, he⟩ := h
  exact ⟨p ++ pre, e, by simp, he⟩

/-! ### More fuel -/

theorem andE_mono {r r' : Option PRes} {f f' : Rw → List Tok → Option QRes} {res : QRes} (hr : ∀ p, r = some p → r' = some p) (hf : ∀ x ts p, f x ts = some p → f' x ts = some p) (h : andE r f = some res) : andE r' f' = some res := by
  rcases andE_some h with ⟨x, c, ts, h1, h2⟩ | ⟨ts, h1, rfl⟩
  · rw [hr _ h1]; exact hf _ _ _ h2
  · rw [hr _ h1]; rfl
theorem andO_mono {r r' : Option QRes} {f f' : Pt → List Tok → Option QRes} {res : QRes} (hr : ∀ p, r = some p → r' = some p) (hf : ∀ x ts p, f x ts = some p → f' x ts = some p) (h : andO r f = some res) : andO r' f' = some res := by
  rcases andO_some h with ⟨x, ts, h1, h2⟩ | ⟨ts, h1, rfl⟩
  · rw [hr _ h1]; exact hf _ _ _ h2
  · rw [hr _ h1]; rfl
theorem andA_mono {r r' : Option QRes} {f f' : List Pt → List Tok → Option QRes} {res : QRes} (hr : ∀ p, r = some p → r' = some p) (hf : ∀ x ts p, f x ts = some p → f' x ts = some p) (h : andA r f = some res) : andA r' f' = some res := by
  rcases andA_some h with ⟨x, ts, h1, h2⟩ | ⟨ts, h1, rfl⟩
  · rw [hr _ h1]; exact hf _ _ _ h2
  · rw [hr _ h1]; rfl
theorem bifq_mono {b : Bool} {p q p' q' : Option QRes} {res : QRes} (hp : ∀ x, p = some x → p' = some x) (hq : ∀ x, q = some x → q' = some x) (h : (bif b then p else q) = some res) : (bif b then p' else q') = some res := by
  cases b
  · exact hq _ h
  · exact hp _ h

theorem qr_succ : ∀ (f : Nat) (tag : QTag) (ts : List Tok) (res : QRes), qr f tag ts = some res → qr (f + 1) tag ts = some res := by
  intro f
  induction f with
  | zero => intro tag ts res h; cases h
  | succ f ih =>
    intro tag ts res h
    have id : ∀ {o : Option QRes} (p : QRes), o = some p → o = some p := fun p h => h
    cases tag with
    | part =>
      rw [qr] at h ⊢
      exact bifq_mono id (fun _ => bifq_mono id (fun _ => bifq_mono id (fun _ => bifq_mono id (fun _ => bifq_mono id (fun _ => bifq_mono (fun _ => andA_mono (fun p => ih _ _ p) fun _ _ => id) (fun _ => bifq_mono (fun _ => bifq_mono id (fun _ => andA_mono (fun p => ih _ _ p) fun _ _ => id)) id)))))) h
    | parts e acc =>
      rw [qr] at h ⊢
      exact bifq_mono id (fun _ => andO_mono (fun p => ih _ _ p) fun _ _ p => ih _ _ p) h

theorem qr_mono {f g : Nat} {tag : QTag} {ts : List Tok} {res : QRes} (h : qr f tag ts = some res) (hfg : f ≤ g) : qr g tag ts = some res := by
  induction hfg with
  | refl => exact h
  | step _ ih => exact qr_succ _ _ _ _ ih

theorem qrE_of {f : Nat} {e : ByteArray} {ts : List Tok} {res : QRes} (hg : Gd ts) (h : qr f (.parts e []) ts = some res) : qrE e ts = some res := by
  have key : ∀ res', qrE e ts = some res' → res' = res := by
    intro res' h'
    unfold qrE at h'
    have h1 := qr_mono h (Nat.le_max_left f (2 * ts.length + 2))
    have h2 := qr_mono h' (Nat.le_max_right f (2 * ts.length + 2))
    rw [h1] at h2; cases h2; rfl
  rcases qrE_ends (e := e) hg with ⟨l, ts1, h1, _⟩ | ⟨ts1, h1, _⟩
  · rw [h1, key _ h1]
  · rw [h1, key _ h1]

/-! ### What the rest is, is not seen -/

section
variable {s s' : List Tok} (hs' : Gd s')
include hs'

theorem prE_loc {p p' : List Tok} {x : Rw} {c : Bool} {q : List Tok} (h : prE (p ++ s) = some (.ok x c (q ++ s))) (hq : q ≠ []) (hg : Gd (p ++ s)) (hsh : p.map shp = p'.map shp) : ∃ q', q.map shp = q'.map shp ∧ prE (p' ++ s') = some (.ok x c (q' ++ s')) := by
  obtain ⟨q', e1, e2⟩ := pr_loc (s' := s') _ _ _ _ _ _ _ h hq hg hsh
  obtain ⟨res, hr⟩ := prE_some (gd_app hs' p')
  refine ⟨q', e1, ?_⟩
  rw [hr]
  exact congrArg some (P.eq ⟨_, e2⟩ hr)

omit hs' in
theorem bind_loc {p p' : List Tok} (hp : 2 ≤ p.length) (hsh : p.map shp = p'.map shp) : bindB (p ++ s) = bindB (p' ++ s') := by
  match p, hp with
  | n :: c :: p2, _ =>
    obtain ⟨n', q, rfl, h1, h2, hsh⟩ := shp_cons hsh
    obtain ⟨c', q2, rfl, h3, h4, _⟩ := shp_cons hsh
    simp only [List.cons_append, bindB, isNameB, h1, h2, h3, h4]

theorem qr_loc : ∀ (f : Nat), (∀ (p p' : List Tok) (x : Pt) (q : List Tok), qr f .part (p ++ s) = some (.one x (q ++ s)) → q ≠ [] → Gd (p ++ s) → p.map shp = p'.map shp → ∃ q', q.map shp = q'.map shp ∧ qr f .part (p' ++ s') = some (.one x (q' ++ s'))) ∧
    (∀ (e : ByteArray) (acc : List Pt) (p p' : List Tok) (l : List Pt) (q : List Tok), qr f (.parts e acc) (p ++ s) = some (.all l (q ++ s)) → Gd (p ++ s) → p.map shp = p'.map shp → ∃ q', q.map shp = q'.map shp ∧ qr f (.parts e acc) (p' ++ s') = some (.all l (q' ++ s'))) := by
  intro f
  induction f with
  | zero => exact ⟨fun p p' x q h => (by cases h), fun e acc p p' l q h => (by cases h)⟩
  | succ f ih =>
    obtain ⟨ih1, ih2⟩ := ih
    have EX : ∀ {r r' : List Tok} {w : ByteArray} {C : Rw → Pt} {x : Pt} {q : List Tok}, q ≠ [] → Gd (r ++ s) → r.map shp = r'.map shp → (andE (prE (r ++ s)) fun x ts1 => bif sees ts1 [w] then some (.one (C x) ts1.tail) else some (.err ts1)) = some (.one x (q ++ s)) →
        ∃ q', q.map shp = q'.map shp ∧ (andE (prE (r' ++ s')) fun x ts1 => bif sees ts1 [w] then some (.one (C x) ts1.tail) else some (.err ts1)) = some (.one x (q' ++ s')) := by
      intro r r' w C x q hq hg hsh h
      rcases andE_some h with ⟨y, c, ts1, h1, h⟩ | ⟨ts1, h1, h⟩
      · obtain ⟨k1, g1⟩ := prE_keeps h1 hg
        simp only [PRes.rest] at k1 g1
        rcases bif_some h with ⟨hw, h⟩ | ⟨hw, h⟩
        · simp only [Option.some.injEq, QRes.one.injEq] at h
          obtain ⟨rfl, htl⟩ := h
          obtain ⟨r1, rfl, m1, m2⟩ := mid k1 (htl ▸ suf_tl ts1)
          have hr := suf_ne m2 hq
          rw [tl_app hr] at htl
          have htl := List.append_cancel_right htl
          obtain ⟨r1', e1, e2⟩ := prE_loc hs' h1 hr hg hsh
          refine ⟨r1'.tail, by rw [← htl]; exact shp_tail e1, ?_⟩
          rw [sees_loc (s' := s') hr e1] at hw
          rw [e2]; simp only [andE, hw, cond_true, tl_app (shp_ne e1 hr)]
        · cases h
      · cases h
    have PA : ∀ {r r' : List Tok} {w : ByteArray} {C : List Pt → Pt} {x : Pt} {q : List Tok}, Gd (r ++ s) → r.map shp = r'.map shp → (andA (qr f (.parts w []) (r ++ s)) fun L ts1 => some (.one (C L) ts1)) = some (.one x (q ++ s)) →
        ∃ q', q.map shp = q'.map shp ∧ (andA (qr f (.parts w []) (r' ++ s')) fun L ts1 => some (.one (C L) ts1)) = some (.one x (q' ++ s')) := by
      intro r r' w C x q hg hsh h
      rcases andA_some h with ⟨L, ts1, h1, h⟩ | ⟨ts1, h1, h⟩
      · simp only [Option.some.injEq, QRes.one.injEq] at h
        obtain ⟨rfl, rfl⟩ := h
        obtain ⟨q', e1, e2⟩ := ih2 w [] r r' L q h1 hg hsh
        exact ⟨q', e1, by rw [e2]; rfl⟩
      · cases h
    refine ⟨fun p p' x q h hq hg hsh => ?_, fun e acc p p' l q h hg hsh => ?_⟩
    · obtain ⟨hsuf, _, hlen⟩ := qr_keeps _ _ _ _ h hg
      simp only [QRes.rest] at hsuf
      have hlen : (q ++ s).length + 1 ≤ (p ++ s).length := hlen
      simp only [List.length_append] at hlen
      have hql : 1 ≤ q.length := by cases q with | nil => exact absurd rfl hq | cons _ _ => simp
      have hp : p ≠ [] := by rintro rfl; simp at hlen; omega
      have S := fun ws => sees_loc (s := s) (s' := s') hp hsh ws
      obtain ⟨hk, ht⟩ := hd_loc (s := s) (s' := s') hp hsh
      have hpt : p.tail.length + 1 = p.length := by cases p with | nil => exact absurd rfl hp | cons _ _ => simp
      have tailne : 1 ≤ p.tail.length → p.tail ≠ [] := fun h e => by rw [e] at h; simp at h
      simp only [qr] at h ⊢
      rw [← nm_loc (s := s) hp hsh, ← hk, ← ht, ← S [tPl, tMi, tSt], ← S [tCo, tBa, tEq], ← S [tLP], ← S [tLS], ← S [tLB], tl_app (shp_ne hsh hp)]
      rw [tl_app hp] at h
      rcases bif_some h with ⟨h1, h⟩ | ⟨h1, h⟩
      · simp only [Option.some.injEq, QRes.one.injEq] at h
        obtain ⟨rfl, htl⟩ := h
        have htl := List.append_cancel_right htl
        exact ⟨p'.tail, by rw [← htl]; exact shp_tail hsh, by rw [h1, cond_true]⟩
      rw [h1, cond_false]
      rcases bif_some h with ⟨h2, h⟩ | ⟨h2, h⟩
      · simp only [Option.some.injEq, QRes.one.injEq] at h
        obtain ⟨rfl, htl⟩ := h
        have htl := List.append_cancel_right htl
        exact ⟨p'.tail, by rw [← htl]; exact shp_tail hsh, by rw [h2, cond_true]⟩
      rw [h2, cond_false]
      rcases bif_some h with ⟨h3, h⟩ | ⟨h3, h⟩
      · rw [h3, cond_true]
        rcases bif_some h with ⟨h4, h⟩ | ⟨h4, h⟩
        · simp only [Option.some.injEq, QRes.one.injEq] at h
          obtain ⟨rfl, htl⟩ := h
          have hl2 := congrArg List.length htl
          simp only [List.length_tail, List.length_append] at hl2
          have hp1 : p.tail ≠ [] := tailne (by simp only [List.length_tail]; omega)
          rw [tl_app hp1] at htl
          have htl := List.append_cancel_right htl
          obtain ⟨_, ht2⟩ := hd_loc (s := s) (s' := s') hp1 (shp_tail hsh)
          refine ⟨p'.tail.tail, by rw [← htl]; exact shp_tail (shp_tail hsh), ?_⟩
          rw [← nm_loc (s := s) hp1 (shp_tail hsh), h4, cond_true, ← ht2, tl_app (shp_ne (shp_tail hsh) hp1)]
        · cases h
      rw [h3, cond_false]
      rcases bif_some h with ⟨h4, h⟩ | ⟨h4, h⟩
      · simp only [Option.some.injEq, QRes.one.injEq] at h
        obtain ⟨rfl, htl⟩ := h
        have htl := List.append_cancel_right htl
        exact ⟨p'.tail, by rw [← htl]; exact shp_tail hsh, by rw [h4, cond_true]⟩
      rw [h4, cond_false]
      rcases bif_some h with ⟨h5, h⟩ | ⟨h5, h⟩
      · obtain ⟨g1, _⟩ := gd_tl hg (sees7 h5)
        rw [tl_app hp] at g1
        rw [h5, cond_true]
        exact EX (C := fun x => ⟨4, tNo, tNo, 0, x, []⟩) hq g1 (shp_tail hsh) h
      rw [h5, cond_false]
      rcases bif_some h with ⟨h6, h⟩ | ⟨h6, h⟩
      · obtain ⟨g1, _⟩ := gd_tl hg (sees7 h6)
        rw [tl_app hp] at g1
        rw [h6, cond_true]
        exact PA (C := fun L => ⟨6, tNo, tNo, 0, zR, L⟩) g1 (shp_tail hsh) h
      rw [h6, cond_false]
      rcases bif_some h with ⟨h7, h⟩ | ⟨h7, h⟩
      · obtain ⟨g1, _⟩ := gd_tl hg (sees7 h7)
        rw [tl_app hp] at g1
        rw [h7, cond_true]
        rcases bif_some h with ⟨h8, h⟩ | ⟨h8, h⟩
        · obtain ⟨u, c, r2, hr, hn, hc, hc2⟩ := bind_two h8
          have g1' := g1
          rw [hr] at g1'
          have g4 := (g1'.tail (isName_kind hn)).tail (by rw [hc]; decide)
          have hrl := congrArg List.length hr
          simp only [List.length_append, List.length_cons] at hrl
          have hq2 : q.length + s.length ≤ r2.length := by
            rw [hr] at h
            simp only [List.tail_cons] at h
            rcases andE_some h with ⟨y, c2, ts1, h1, h⟩ | ⟨ts1, h1, h⟩
            · obtain ⟨k1, _⟩ := prE_keeps h1 g4
              rcases bif_some h with ⟨hw, h⟩ | ⟨hw, h⟩
              · simp only [Option.some.injEq, QRes.one.injEq] at h
                have := (h.2 ▸ suf_tl ts1 : q ++ s <:+ ts1).length_le
                have := k1.length_le
                simp only [PRes.rest, List.length_append] at *
                omega
              · cases h
            · cases h
          have h2l : 2 ≤ p.tail.length := by omega
          have hp1 : p.tail ≠ [] := tailne (by omega)
          have hp2 : p.tail.tail ≠ [] := fun e => by have := congrArg List.length e; simp only [List.length_tail, List.length_nil] at this h2l; omega
          rw [← bind_loc (s := s) h2l (shp_tail hsh), h8, cond_true]
          rw [tl_app hp1, tl_app hp2] at h
          obtain ⟨_, ht2⟩ := hd_loc (s := s) (s' := s') hp1 (shp_tail hsh)
          have g5 : Gd (p.tail.tail.tail ++ s) := by
            have : (p.tail ++ s).tail.tail = r2 := by rw [hr]; rfl
            rw [tl_app hp1, tl_app hp2] at this
            rw [this]; exact g4
          rw [← ht2, tl_app (shp_ne (shp_tail hsh) hp1), tl_app (shp_ne (shp_tail (shp_tail hsh)) hp2)]
          exact EX (C := fun x => ⟨7, tNo, (hdT (p.tail ++ s)).text, 0, x, []⟩) hq g5 (shp_tail (shp_tail (shp_tail hsh))) h
        · have h2l : 2 ≤ p.tail.length := by
            rcases andA_some h with ⟨L, ts1, h1, h⟩ | ⟨ts1, h1, h⟩
            · simp only [Option.some.injEq, QRes.one.injEq] at h
              obtain ⟨_, rfl⟩ := h
              obtain ⟨_, _, k3⟩ := qr_keeps _ _ _ _ h1 g1
              have k3 : (q ++ s).length + 1 ≤ (p.tail ++ s).length := k3
              simp only [List.length_append] at k3
              omega
            · cases h
          rw [← bind_loc (s := s) h2l (shp_tail hsh), h8, cond_false]
          exact PA (C := fun L => ⟨5, tNo, tNo, 0, zR, L⟩) g1 (shp_tail hsh) h
      · cases h
    · obtain ⟨hsuf, _, hlen⟩ := qr_keeps _ _ _ _ h hg
      simp only [QRes.rest] at hsuf
      have hlen : (q ++ s).length + 1 ≤ (p ++ s).length := hlen
      simp only [List.length_append] at hlen
      have hp : p ≠ [] := by rintro rfl; simp at hlen; omega
      have S := fun ws => sees_loc (s := s) (s' := s') hp hsh ws
      simp only [qr] at h ⊢
      rw [← S [e]]
      rcases bif_some h with ⟨h1, h⟩ | ⟨h1, h⟩
      · simp only [Option.some.injEq, QRes.all.injEq] at h
        obtain ⟨rfl, htl⟩ := h
        rw [tl_app hp] at htl
        have htl := List.append_cancel_right htl
        exact ⟨p'.tail, by rw [← htl]; exact shp_tail hsh, by rw [h1, cond_true, tl_app (shp_ne hsh hp)]⟩
      · rw [h1, cond_false]
        rcases andO_some h with ⟨x, ts1, h2, h⟩ | ⟨ts1, h2, h⟩
        · obtain ⟨k1, g1, _⟩ := qr_keeps _ _ _ _ h2 hg
          simp only [QRes.rest] at k1 g1
          obtain ⟨k2, _, k3⟩ := qr_keeps _ _ _ _ h g1
          simp only [QRes.rest] at k2
          have k3 : (q ++ s).length + 1 ≤ ts1.length := k3
          obtain ⟨r1, rfl, m1, m2⟩ := mid k1 k2
          simp only [List.length_append] at k3
          have hr1 : r1 ≠ [] := by rintro rfl; simp at k3; omega
          obtain ⟨r1', e1, e2⟩ := ih1 p p' x r1 h2 hr1 hg hsh
          obtain ⟨q', e3, e4⟩ := ih2 e (acc ++ [x]) r1 r1' l q h g1 e1
          exact ⟨q', e3, by rw [e2]; simp only [andO, e4]⟩
        · cases h

theorem itemP_loc {p p' : List Tok} {x : It} {q : List Tok} (h : itemP (p ++ s) = some (.ok x (q ++ s))) (hg : Gd (p ++ s)) (hsh : p.map shp = p'.map shp) (hp : p ≠ []) : ∃ q', q.map shp = q'.map shp ∧ itemP (p' ++ s') = some (.ok x (q' ++ s')) := by
  obtain ⟨hk, ht⟩ := hd_loc (s := s) (s' := s') hp hsh
  unfold itemP at h ⊢
  rw [← hk, ← ht, tl_app (shp_ne hsh hp)]
  rw [tl_app hp] at h
  rcases bif_some h with ⟨h5, h⟩ | ⟨h5, h⟩
  · obtain ⟨g1, _⟩ := gd_tl hg (hd7 hg (by rw [eq_of_beq h5]; decide))
    rw [tl_app hp] at g1
    rw [h5, cond_true]
    cases hq : qrE tDo (p.tail ++ s) with
    | none => rw [hq] at h; cases h
    | some res =>
      rw [hq] at h
      cases res with
      | one _ _ => cases h
      | err _ => cases h
      | all l ts1 =>
        simp only [Option.some.injEq, IRes.ok.injEq] at h
        obtain ⟨rfl, rfl⟩ := h
        obtain ⟨q', e1, e2⟩ := (qr_loc hs' _).2 tDo [] p.tail p'.tail l q hq g1 (shp_tail hsh)
        exact ⟨q', e1, by rw [qrE_of (gd_app hs' _) e2]⟩
  · rw [h5, cond_false]
    rcases bif_some h with ⟨h1, h⟩ | ⟨h1, h⟩
    · rw [h1, cond_true]
      have hk7 : (hdT (p ++ s)).kind ≠ 7 := by
        simp only [Bool.and_eq_true, beq_iff_eq] at h1
        rw [h1.1]; decide
      obtain ⟨g1, _⟩ := gd_tl hg (hd7 hg hk7)
      rw [tl_app hp] at g1
      rcases bif_some h with ⟨hs1, h⟩ | ⟨hs1, h⟩
      · obtain ⟨g2, _⟩ := gd_tl g1 (sees7 hs1)
        cases hr : prE (p.tail ++ s).tail with
        | none => rw [hr] at h; cases h
        | some res =>
          rw [hr] at h
          cases res with
          | err _ => cases h
          | ok y c ts1 =>
            dsimp only at h
            rcases bif_some h with ⟨hd, h⟩ | ⟨hd, h⟩
            · simp only [Option.some.injEq, IRes.ok.injEq] at h
              obtain ⟨rfl, htl⟩ := h
              obtain ⟨k1, gk⟩ := prE_keeps hr g2
              simp only [PRes.rest] at k1 gk
              obtain ⟨t1, u1, rfl, _⟩ := sees7 hd
              simp only [List.tail_cons] at htl
              have hkl := k1.length_le
              have hp1 : p.tail ≠ [] := by
                intro e
                rw [e] at hkl
                have := congrArg List.length htl
                simp only [List.nil_append, List.length_cons, List.length_tail, List.length_append] at hkl this
                omega
              rw [tl_app hp1] at hr g2 k1
              have hu : t1 :: u1 = (t1 :: q) ++ s := by rw [htl]; rfl
              rw [hu] at hr hd
              obtain ⟨r1', e1, e2⟩ := prE_loc hs' hr (by simp) g2 (shp_tail (shp_tail hsh))
              refine ⟨r1'.tail, shp_tail e1, ?_⟩
              rw [sees_loc (s' := s') (by simp) e1] at hd
              rw [sees_loc (s' := s') hp1 (shp_tail hsh)] at hs1
              rw [hs1, cond_true, tl_app (shp_ne (shp_tail hsh) hp1), e2]
              dsimp only
              rw [hd, cond_true, tl_app (shp_ne e1 (by simp))]
            · cases h
      · cases h
    · cases h

end

theorem itemsP_mono : ∀ (f : Nat) (ts : List Tok) (r : List It) (out : List It ⊕ (List It × List Tok)), itemsP f ts r = some out → itemsP (f + 1) ts r = some out
  | 0, _, _, _, h => by cases h
  | f + 1, ts, r, out, h => by
    rw [itemsP] at h ⊢
    rcases bif_some h with ⟨h7, h⟩ | ⟨h7, h⟩
    · rw [h7, cond_true]; exact h
    · rw [h7, cond_false]
      cases hx : itemP ts with
      | none => rw [hx] at h; cases h
      | some res =>
        rw [hx] at h
        cases res with
        | ok x ts1 => exact itemsP_mono f ts1 _ _ h
        | err ts1 => exact h

theorem itemsP_le {f g : Nat} {ts : List Tok} {r : List It} {out : List It ⊕ (List It × List Tok)} (h : itemsP f ts r = some out) (hfg : f ≤ g) : itemsP g ts r = some out := by
  induction hfg with
  | refl => exact h
  | step _ ih => exact itemsP_mono _ _ _ _ ih

theorem items_cat {e e' : Tok} (he : e.kind = 7) (he' : e'.kind = 7) {v : List Tok} : ∀ (f : Nat) (p p' : List Tok) (r l : List It), itemsP f (p ++ [e]) r = some (.inl l) → (∀ t ∈ p, t.kind ≠ 7) → p.map shp = p'.map shp →
    ∀ (out : List It ⊕ (List It × List Tok)) (g : Nat), itemsP g (v ++ [e']) l = some out → ∃ h, itemsP h (p' ++ (v ++ [e'])) r = some out := by
  have gs : Gd (v ++ [e']) := ⟨v, e', rfl, he'⟩
  intro f
  induction f with
  | zero => intro p p' r l h; cases h
  | succ f ih =>
    intro p p' r l h h7 hsh out g hg
    cases p with
    | nil =>
      cases p' with
      | cons _ _ => cases hsh
      | nil =>
        simp only [itemsP, List.nil_append, hdT, he, show ((7 : Int) == 7) = true from rfl, cond_true, Option.some.injEq, Sum.inl.injEq] at h
        subst h
        exact ⟨g, hg⟩
    | cons t p1 =>
      have gp : Gd ((t :: p1) ++ [e]) := ⟨t :: p1, e, rfl, he⟩
      have hk : ((hdT ((t :: p1) ++ [e])).kind == 7) = false := by
        have := h7 t (List.mem_cons_self ..)
        simpa only [List.cons_append, hdT, beq_eq_false_iff_ne] using this
      rw [itemsP, hk, cond_false] at h
      rcases itemP_ends gp with ⟨x, ts1, hx, k1, k2, k3⟩ | ⟨ts1, hx, k1, k2⟩
      · rw [hx] at h
        dsimp only at h
        obtain ⟨q, e0, hq, hq7⟩ := k2
        obtain ⟨y, hy⟩ := k1
        have hq' : ts1 = q ++ [e] := by
          rw [hq, ← List.append_assoc] at hy
          have := (List.append_inj' hy rfl).2
          rw [hq, this]
        subst hq'
        have hqp : q <:+ t :: p1 := ⟨y, by rw [← List.append_assoc] at hy; exact List.append_cancel_right hy⟩
        obtain ⟨q', f1, f2⟩ := itemP_loc (s := [e]) gs hx gp hsh (by simp)
        obtain ⟨n, hn⟩ := ih q q' (r ++ [x]) l h (fun u hu => h7 u (hqp.mem hu)) f1 out g hg
        refine ⟨n + 1, ?_⟩
        have hk' : ((hdT (p' ++ (v ++ [e']))).kind == 7) = false := by
          rw [← (hd_loc (s := [e]) (s' := v ++ [e']) (p := t :: p1) (by simp) hsh).1]; exact hk
        rw [itemsP, hk', cond_false, f2]
        exact hn
      · rw [hx] at h; cases h

theorem next_seven {c : UInt8} {r : List UInt8} {x : Int × List UInt8} (h : next c r = some x) : x.1 ≠ 7 := by
  have one : ∀ {b : Bool} {n : Int} {w : List UInt8}, n ≠ 7 → (bif b then some (n, w) else none) = some x → x.1 ≠ 7 := by
    intro b n w hn hb; cases b
    · cases hb
    · cases hb; exact hn
  unfold next at h
  simp only at h
  cases h1 : smallB (c.toNat : Int) with
  | true => rw [h1, cond_true] at h; exact one (by decide) h
  | false =>
  rw [h1, cond_false] at h
  cases h1 : capB (c.toNat : Int) with
  | true => rw [h1, cond_true] at h; exact one (by decide) h
  | false =>
  rw [h1, cond_false] at h
  cases h1 : digB (c.toNat : Int) with
  | true => rw [h1, cond_true] at h; exact one (by decide) h
  | false =>
  rw [h1, cond_false] at h
  cases h1 : ((c.toNat : Int) == 95) with
  | true => rw [h1, cond_true] at h; exact one (by decide) h
  | false =>
  rw [h1, cond_false] at h
  cases h1 : ((c.toNat : Int) == 37) with
  | true => rw [h1, cond_true] at h; exact one (by decide) h
  | false =>
  rw [h1, cond_false] at h
  cases h1 : ((c.toNat : Int) == 45) with
  | true =>
    rw [h1, cond_true] at h
    cases h2 : byteAt r == 62 <;> rw [h2] at h <;> cases h <;> decide
  | false =>
  rw [h1, cond_false] at h
  cases h1 : ((c.toNat : Int) == 60) with
  | true => rw [h1, cond_true] at h; exact one (by decide) h
  | false => rw [h1, cond_false] at h; exact one (by decide) h

theorem tk_seven (N : Nat) : ∀ (n : Nat) (r : List UInt8) (ts : List Tok), tk N n r = .inl ts → ∀ t ∈ ts, t.kind ≠ 7
  | 0, r, ts, h => by simp only [tk, Sum.inl.injEq] at h; subst h; intro t ht; cases ht
  | n + 1, [], ts, h => by simp only [tk, Sum.inl.injEq] at h; subst h; intro t ht; cases ht
  | n + 1, c :: r, ts, h => by
    simp only [tk] at h
    cases hx : next c r with
    | none => rw [hx] at h; cases h
    | some x =>
      rw [hx] at h
      simp only at h
      cases ht : tk N n (skip ((c :: r).drop x.2.length) false) with
      | inr p => rw [ht] at h; cases h
      | inl us =>
        rw [ht] at h
        simp only [Sum.inl.injEq] at h
        subst h
        intro t hm
        rcases List.mem_cons.1 hm with rfl | hm
        · exact next_seven hx
        · exact tk_seven N n _ us ht t hm

theorem toks_seven {l : List UInt8} (h : (toks l).2.2 = 0) {ts : List Tok} {e : Tok} (ht : (toks l).1 = ts ++ [e]) : ∀ t ∈ ts, t.kind ≠ 7 := by
  unfold toks at h ht
  by_cases h6 : l.length ≤ 6000
  · simp only [h6, decide_true, cond_true] at h ht
    cases hk : tk l.length l.length (skip l false) with
    | inr p => rw [hk] at h; exact absurd h (show ¬ ((4 : Int) = 0) by decide)
    | inl us =>
      rw [hk] at ht
      have : us = ts := (List.append_inj' ht rfl).1
      subst this
      exact tk_seven _ _ _ _ hk
  · simp only [h6, decide_false, cond_false] at h
    exact absurd h (show ¬ ((5 : Int) = 0) by decide)

/-- The items of two sources, one after the other. -/
theorem itemsR_cat {a b : List UInt8} (ha : (itemsR a).2.2 = 0) (hb : (itemsR b).2.2 = 0) (hl : a.length + b.length < 6000) (hn : (itemsR a).1.length + (itemsR b).1.length ≤ 120) : itemsR (a ++ 10 :: b) = ((itemsR a).1 ++ (itemsR b).1, 0, 0) := by
  have one : ∀ {l : List UInt8}, (itemsR l).2.2 = 0 → (toks l).2.2 = 0 ∧ ∃ r, itemsP ((toks l).1.length + 2) (toks l).1 [] = some (.inl r) ∧ (itemsR l).1 = r ∧ r.all wellI = true := by
    intro l h
    unfold itemsR at h ⊢
    cases h0 : ((toks l).2.2 == 0) with
    | false =>
      rw [h0, cond_false] at h
      rw [show (toks l).2.2 = 0 from h] at h0; cases h0
    | true =>
      rw [h0, cond_true] at h
      refine ⟨eq_of_beq h0, ?_⟩
      cases ho : itemsP ((toks l).1.length + 2) (toks l).1 [] with
      | none =>
        obtain ⟨g0, hlen, hO⟩ := toks_good l (eq_of_beq h0)
        obtain ⟨out, ho', _⟩ := itemsP_ends ((toks l).1.length + 2) (toks l).1 [] g0 (by omega)
        rw [ho] at ho'; cases ho'
      | some out =>
        rw [ho] at h
        rcases out with r | q
        · dsimp only at h
          cases hw : (r.all wellI && decide (r.length ≤ 120)) with
          | false => rw [hw, cond_false] at h; exact absurd h (show ¬ ((5 : Int) = 0) by decide)
          | true =>
            simp only [Bool.and_eq_true] at hw
            refine ⟨r, rfl, ?_, hw.1⟩
            simp only [cond_true, hw.1, hw.2, Bool.and_self]
        · exact absurd h (show ¬ ((4 : Int) = 0) by decide)
  obtain ⟨ta0, ra, ia, ea, wa⟩ := one ha
  obtain ⟨tb0, rb, ib, eb, wb⟩ := one hb
  obtain ⟨ta, tb, u, v, h1, h2, h3, hu, hv⟩ := toks_cat ta0 tb0 hl
  rw [ea, eb] at hn ⊢
  have sa := toks_seven ta0 h1
  have sb := toks_seven tb0 h2
  rw [h1] at ia
  rw [h2] at ib
  -- the second one's items, behind the first one's
  have shift : ∀ (f : Nat) (ts : List Tok) (r r0 l : List It), itemsP f ts r = some (.inl l) → ∃ l2, l = r ++ l2 ∧ itemsP f ts (r0 ++ r) = some (.inl (r0 ++ l)) := by
    intro f
    induction f with
    | zero => intro ts r r0 l h; cases h
    | succ f ih =>
      intro ts r r0 l h
      rw [itemsP] at h ⊢
      rcases bif_some h with ⟨h7, h⟩ | ⟨h7, h⟩
      · cases h; exact ⟨[], by simp, by rw [h7, cond_true]⟩
      · rw [h7, cond_false]
        cases hx : itemP ts with
        | none => rw [hx] at h; cases h
        | some res =>
          rw [hx] at h
          cases res with
          | err _ => cases h
          | ok x ts1 =>
            obtain ⟨l2, e1, e2⟩ := ih ts1 (r ++ [x]) r0 l h
            refine ⟨[x] ++ l2, by rw [e1]; simp, ?_⟩
            rw [← List.append_assoc] at e2
            exact e2
  have gb : ∃ g, itemsP g (v ++ [⟨7, mk [], ((a ++ 10 :: b).length : Int)⟩]) ra = some (.inl (ra ++ rb)) := by
    obtain ⟨_, _, e2⟩ := shift _ _ [] ra rb ib
    rw [List.append_nil] at e2
    have fin := items_cat (e := ⟨7, mk [], (b.length : Int)⟩) (e' := ⟨7, mk [], ((a ++ 10 :: b).length : Int)⟩) rfl rfl (v := []) _ tb v ra (ra ++ rb) e2 sb hv (.inl (ra ++ rb)) 1 rfl
    obtain ⟨g, hg⟩ := fin
    exact ⟨g, by simpa using hg⟩
  obtain ⟨g, hg⟩ := gb
  obtain ⟨k, hk⟩ := items_cat (e := ⟨7, mk [], (a.length : Int)⟩) (e' := ⟨7, mk [], ((a ++ 10 :: b).length : Int)⟩) rfl rfl _ ta u [] ra ia sa hu _ g hg
  have hz : (toks (a ++ 10 :: b)).2.2 = 0 := by rw [h3]
  obtain ⟨g0, hlen, _⟩ := toks_good _ hz
  obtain ⟨out, ho, _⟩ := itemsP_ends ((toks (a ++ 10 :: b)).1.length + 2) (toks (a ++ 10 :: b)).1 [] g0 (by omega)
  have hout : out = .inl (ra ++ rb) := by
    rw [h3] at ho
    have e1 := itemsP_le hk (Nat.le_max_left k ((u ++ (v ++ [(⟨7, mk [], ((a ++ 10 :: b).length : Int)⟩ : Tok)])).length + 2))
    have e2 := itemsP_le ho (Nat.le_max_right k ((u ++ (v ++ [(⟨7, mk [], ((a ++ 10 :: b).length : Int)⟩ : Tok)])).length + 2))
    rw [e1] at e2; cases e2; rfl
  subst hout
  unfold itemsR
  have hw : ((ra ++ rb).all wellI && decide ((ra ++ rb).length ≤ 120)) = true := by
    simp only [List.all_append, wa, wb, Bool.and_self, Bool.true_and, List.length_append, decide_eq_true_eq]; exact hn
  simp only [hz, show ((0 : Int) == 0) = true from rfl, cond_true, ho, hw]

end Go.Proofs.YtanfoijdfcnpoaaDoor.Ev

set_option linter.unusedVariables false
set_option linter.unusedSimpArgs false
namespace Go.Proofs.YtanfoijdfcnpoaaDoor.Ev

theorem parts_loop (l m : List It) (hl : l.length + m.length ≤ 1000) : ∀ (r pre : List It), l ++ m = pre ++ r → (∀ x ∈ r, x.Ok) →
    Evt fun k => ∀ (ρ : Type) k0 k1, (Tabs k).l7_9_0 ρ l m (l ++ m) ((l ++ m).length : Int) (pre.length : Int) k0 k1 = k0
  | [], pre, ha, _ => by
    refine Evt.step0 fun k ρ k0 k1 => ?_
    rw [show (Tabs (k + 1)).l7_9_0 = Gl7_9_0 (Tabs k) from rfl]
    have e : decide ((pre.length : Int) < ((l ++ m).length : Int)) = false := by rw [ha]; simp
    simp only [Gl7_9_0, e, cond_false]
  | x :: r, pre, ha, hok => by
    have hlen := congrArg List.length ha
    simp only [List.length_append, List.length_cons] at hlen
    have e1 : decide ((pre.length : Int) < ((l ++ m).length : Int)) = true := by simp; omega
    have e2 : decide ((0 : Int) ≤ (pre.length : Int)) = true := by simp
    have e4 : IntKind.wrap .i64 ((pre.length : Int) + 1) = ((pre ++ [x]).length : Int) := by
      rw [W_id (by omega) (by omega)]; simp
    have e6 : rdEl lay Key.item (l ++ m) (pre.length : Int) = x := by rw [ha]; exact rdIt ..
    refine ((s_sameItem x (hok x (List.mem_cons_self ..))).and (parts_loop l m hl r (pre ++ [x]) (by simp [ha]) fun y hy => hok y (List.mem_cons_of_mem _ hy))).step fun k ⟨h1, h2⟩ ρ k0 k1 => ?_
    rw [show (Tabs (k + 1)).l7_9_0 = Gl7_9_0 (Tabs k) from rfl]
    by_cases hc : pre.length < l.length
    · have e7 : decide ((pre.length : Int) < (l.length : Int)) = true := by simp; omega
      have e8 : rdEl lay Key.item l (pre.length : Int) = x := by
        rcases List.append_eq_append_iff.1 ha with ⟨c, hc1, hc2⟩ | ⟨c, hc1, hc2⟩
        · rw [hc1, List.length_append] at hc; omega
        · cases c with
          | nil => rw [hc1] at hc; simp at hc
          | cons d c =>
            simp only [List.cons_append, List.cons.injEq] at hc2
            rw [hc1, hc2.1]; exact rdIt ..
      simp only [Gl7_9_0, e1, e7, e2, Bool.and_self, cond_true, e6, e8, It.eta, h1, Bool.not_true, cond_false, e4, h2]
    · have e7 : decide ((pre.length : Int) < (l.length : Int)) = false := by simp; omega
      have e9 : IntKind.wrap .i64 ((pre.length : Int) - (l.length : Int)) = ((pre.length - l.length : Nat) : Int) := by rw [W_id (by omega) (by omega)]; omega
      have e10 : decide ((0 : Int) ≤ ((pre.length - l.length : Nat) : Int)) = true := by simp
      have e11 : decide (((pre.length - l.length : Nat) : Int) < (m.length : Int)) = true := by simp only [decide_eq_true_eq]; omega
      have e8 : rdEl lay Key.item m ((pre.length - l.length : Nat) : Int) = x := by
        rcases List.append_eq_append_iff.1 ha with ⟨c, hc1, hc2⟩ | ⟨c, hc1, hc2⟩
        · have : pre.length - l.length = c.length := by rw [hc1, List.length_append]; omega
          rw [this, hc2]; exact rdIt ..
        · have hc3 : c = [] := by
            have := congrArg List.length hc1
            simp only [List.length_append] at this
            cases c with | nil => rfl | cons _ _ => simp at this; omega
          subst hc3
          simp only [List.append_nil, List.nil_append] at hc1 hc2
          have : pre.length - l.length = ([] : List It).length := by rw [hc1]; simp
          rw [this, ← hc2]; exact rdIt [] x r
      simp only [Gl7_9_0, e1, e7, e2, e9, e10, e11, Bool.and_self, cond_true, cond_false, e6, e8, It.eta, h1, Bool.not_true, e4, h2]

theorem ne_bool {x : Int} : (x != 0) = !(x == 0) := rfl

theorem parts_law (a b : ByteArray) (ha : a.size ≤ 140737488355328) (hb : b.size ≤ 140737488355328) : Evt fun k => ∀ (ρ : Type) K, (Tabs k).c7_0 ρ a b K = K true := by
  rw [mk_of a, mk_size] at ha
  rw [mk_of b, mk_size] at hb
  rw [mk_of a, mk_of b]
  generalize a.data.toList = l at ha ⊢
  generalize b.data.toList = m at hb ⊢
  obtain ⟨ok1, len1⟩ := itemsR_ok l
  obtain ⟨ok2, len2⟩ := itemsR_ok m
  have hs : IntKind.wrap .i64 (((mk l).size : Int) + ((mk m).size : Int)) = ((l.length + m.length : Nat) : Int) := by
    rw [mk_size, mk_size, W_id (by omega) (by omega)]; omega
  have hn : IntKind.wrap .i64 (((itemsR l).1.length : Int) + ((itemsR m).1.length : Int)) = (((itemsR l).1.length + (itemsR m).1.length : Nat) : Int) := by
    rw [W_id (by omega) (by omega)]; omega
  have base := (s_items l).and ((s_items m).and awake_ok)
  cases h1 : ((itemsR l).2.2 == 0) with
  | false =>
    refine base.step fun k ⟨i1, i2, aw⟩ ρ K => ?_
    rw [show (Tabs (k + 1)).c7_0 = Gc7_0 (Tabs k) from rfl]
    simp only [Gc7_0, i1, i2, ne_bool, h1, Bool.not_false, cond_true, aw]
  | true =>
  cases h2 : ((itemsR m).2.2 == 0) with
  | false =>
    refine base.step fun k ⟨i1, i2, aw⟩ ρ K => ?_
    rw [show (Tabs (k + 1)).c7_0 = Gc7_0 (Tabs k) from rfl]
    simp only [Gc7_0, i1, i2, ne_bool, h1, h2, Bool.not_true, Bool.not_false, cond_true, cond_false, aw]
  | true =>
  by_cases h3 : l.length + m.length < 6000
  rotate_left
  · have e3 : decide (((l.length + m.length : Nat) : Int) ≥ 6000) = true := by simp only [decide_eq_true_eq]; omega
    refine base.step fun k ⟨i1, i2, aw⟩ ρ K => ?_
    rw [show (Tabs (k + 1)).c7_0 = Gc7_0 (Tabs k) from rfl]
    simp only [Gc7_0, i1, i2, ne_bool, h1, h2, Bool.not_true, cond_true, cond_false, hs, e3, aw]
  have e3 : decide (((l.length + m.length : Nat) : Int) ≥ 6000) = false := by simp only [decide_eq_false_iff_not]; omega
  by_cases h4 : (itemsR l).1.length + (itemsR m).1.length ≤ 120
  rotate_left
  · have e4 : decide ((((itemsR l).1.length + (itemsR m).1.length : Nat) : Int) > 120) = true := by simp only [decide_eq_true_eq]; omega
    refine base.step fun k ⟨i1, i2, aw⟩ ρ K => ?_
    rw [show (Tabs (k + 1)).c7_0 = Gc7_0 (Tabs k) from rfl]
    simp only [Gc7_0, i1, i2, ne_bool, h1, h2, Bool.not_true, cond_true, cond_false, hs, e3, hn, e4, aw]
  have e4 : decide ((((itemsR l).1.length + (itemsR m).1.length : Nat) : Int) > 120) = false := by simp only [decide_eq_false_iff_not]; omega
  have hcat := itemsR_cat (eq_of_beq h1) (eq_of_beq h2) h3 h4
  have hok : ∀ x ∈ (itemsR l).1 ++ (itemsR m).1, x.Ok := fun x hx => by
    rcases List.mem_append.1 hx with hx | hx
    · exact ok1 x hx
    · exact ok2 x hx
  have hloop := parts_loop (itemsR l).1 (itemsR m).1 (by omega) _ [] rfl hok
  have s1 : (ByteArray.mk #[10]).size = 1 := rfl
  have c1 : decide ((mk l).size + (ByteArray.mk #[10]).size ≤ 9223372036854775807) = true := by rw [mk_size, s1]; simp; omega
  have hmk : (mk l ++ ByteArray.mk #[10]) ++ mk m = mk (l ++ 10 :: m) := by
    rw [show ByteArray.mk #[10] = mk [10] from rfl, mk_append, mk_append]; simp
  have c2 : decide ((mk l ++ ByteArray.mk #[10]).size + (mk m).size ≤ 9223372036854775807) = true := by
    rw [show ByteArray.mk #[10] = mk [10] from rfl, mk_append, mk_size, mk_size]; simp; omega
  have hn2 : (((((itemsR l).1 ++ (itemsR m).1).length : Nat) : Int) != (((itemsR l).1.length + (itemsR m).1.length : Nat) : Int)) = false := by
    rw [List.length_append]; simp
  refine ((s_items (l ++ 10 :: m)).and (hloop.and base)).step fun k ⟨i3, hloop, i1, i2, aw⟩ ρ K => ?_
  rw [show (Tabs (k + 1)).c7_0 = Gc7_0 (Tabs k) from rfl]
  have hloop := hloop ρ
  simp only [List.length_nil, Int.natCast_zero] at hloop
  rw [hcat] at i3
  simp only [Gc7_0, i1, i2, ne_bool, h1, h2, Bool.not_true, cond_true, cond_false, hs, e3, hn, e4, c1, c2, hmk, i3, hn2, hloop, aw, show ((0 : Int) == 0) = true from rfl]

end Go.Proofs.YtanfoijdfcnpoaaDoor.Ev
