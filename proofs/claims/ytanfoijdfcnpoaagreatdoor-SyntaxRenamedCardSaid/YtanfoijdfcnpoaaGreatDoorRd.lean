/- This file proves how arguments that are read as data stand for typed values; its conditions are those of the types' layout. -/
import Derived.Test.YtanfoijdfcnpoaaGreatDoorEvJ
import Derived.SizedLaws
import Derived.ChangeOld
import Derived.Carry
import Derived.WideShapes
set_option linter.unusedVariables false
set_option linter.unusedSimpArgs false
namespace Go.Proofs.YtanfoijdfcnpoaaGreatDoor.Ev

/-- Two lists, element by element. -/
inductive Alls {α β : Type} (R : α → β → Prop) : List α → List β → Prop
  | nil : Alls R [] []
  | cons {a b l m} : R a b → Alls R l m → Alls R (a :: l) (b :: m)

section
variable {α β : Type} {R : α → β → Prop}

theorem Alls.append {l l' : List α} {m m' : List β} (h : Alls R l m) (h' : Alls R l' m') : Alls R (l ++ l') (m ++ m') := by
  induction h with
  | nil => exact h'
  | cons h1 _ ih => exact .cons h1 ih

theorem Alls.length {l : List α} {m : List β} (h : Alls R l m) : l.length = m.length := by
  induction h with
  | nil => rfl
  | cons _ _ ih => simp [ih]

theorem Alls.get {l : List α} {m : List β} (h : Alls R l m) : ∀ {i : Nat} {a : α}, l[i]? = some a → ∃ b, m[i]? = some b ∧ R a b := by
  induction h with
  | nil => intro i a h; simp at h
  | cons h1 _ ih =>
    intro i a h
    cases i with
    | zero => simp at h; subst h; exact ⟨_, rfl, h1⟩
    | succ i => simp at h; simpa using ih h

theorem mapM_cons_some {f : α → Option β} {a : α} {l : List α} {r : List β} (h : (a :: l).mapM f = some r) : ∃ y ys, f a = some y ∧ l.mapM f = some ys ∧ r = y :: ys := by
  rw [List.mapM_cons] at h
  cases h1 : f a with
  | none => rw [h1] at h; cases h
  | some y =>
    rw [h1] at h
    cases h2 : l.mapM f with
    | none => rw [h2] at h; cases h
    | some ys => rw [h2] at h; cases h; exact ⟨y, ys, rfl, rfl, rfl⟩

theorem mapM_at {f : α → Option β} : ∀ {l : List α} {r : List β}, l.mapM f = some r → r.length = l.length ∧ ∀ (i : Nat) (a : α), l[i]? = some a → ∃ y, r[i]? = some y ∧ f a = some y
  | [], r, h => by
    rw [List.mapM_nil] at h; cases h
    exact ⟨rfl, by simp⟩
  | a :: l, r, h => by
    obtain ⟨y, ys, h1, h2, rfl⟩ := mapM_cons_some h
    obtain ⟨h3, h4⟩ := mapM_at h2
    refine ⟨by simp [h3], fun i b hb => ?_⟩
    cases i with
    | zero => simp at hb; subst hb; exact ⟨y, rfl, h1⟩
    | succ i => simp at hb; simpa using h4 i b hb

/-- A list of what there is at each number. -/
theorem list_of {Q : Nat → α → Prop} : ∀ n, (∀ i, i < n → ∃ x, Q i x) → ∃ l : List α, l.length = n ∧ ∀ i x, l[i]? = some x → Q i x
  | 0, _ => ⟨[], rfl, by simp⟩
  | n + 1, h => by
    obtain ⟨l, h1, h2⟩ := list_of n fun i hi => h i (by omega)
    obtain ⟨x, hx⟩ := h n (by omega)
    refine ⟨l ++ [x], by simp [h1], fun i y hy => ?_⟩
    by_cases hi : i < l.length
    · rw [List.getElem?_append_left hi] at hy; exact h2 i y hy
    · rw [List.getElem?_append_right (by omega)] at hy
      have : i - l.length = 0 := by
        cases hd : i - l.length with
        | zero => rfl
        | succ m => rw [hd] at hy; simp at hy
      rw [this] at hy
      simp at hy; subst hy
      have : i = n := by omega
      subst this; exact hx
end

section
variable {S : Sig} (P : Program) (L : Lay S)

inductive DvT : TypeDesc → DV S → Prop
  | bool (b : Bool) : DvT .bool (.bool b)
  | int (k : IntKind) (n : Int) : DvT (.int k) (.int k n)
  | str (s : ByteArray) : DvT .string (.str s)
  | sl (e : TypeId) (k : S.K) (l : List (S.El k)) : L.key e = some k → DvT (.slice e) (.sl k l)

/-- What is read fits: numbers their kinds, slices the machine. -/
inductive VOk : DV S → Prop
  | bool (b : Bool) : VOk (.bool b)
  | int (k : IntKind) (n : Int) (h : (Lit.int k n).wf = true) : VOk (.int k n)
  | str (s : ByteArray) (h : s.size ≤ reachBytes) : VOk (.str s)
  | sl (e : TypeId) (k : S.K) (l : List (S.El k)) (hk : L.key e = some k) (hl : l.length * P.bytesOf e ≤ reachBytes) (h : ∀ x ∈ l, ∀ d ∈ L.cells k x, VOk d) : VOk (.sl k l)

def rowB : List Field → Nat → Nat → Bool
  | [], o, n => Nat.beq o n
  | f :: r, o, n => Nat.beq f.offset o && rowB r (o + P.cellsOf f.type) n

def descB (t : TypeDesc) : Bool :=
  match t with
  | .bool | .int _ | .string => true
  | .slice e => (L.key e).isSome
  | _ => false

def laidB : Nat → TypeId → Bool
  | 0, _ => false
  | n + 1, t =>
    match P.underlying t with
    | some (.struct fs) => rowB P fs.toList 0 (P.cellsOf t) && fs.toList.all fun f => laidB n f.type
    | some d => descB L d
    | none => false

structure Reads : Prop where
  key : ∀ e k, L.key e = some k → ∃ ts, flat P 8 e = some ts ∧ laidB P L 8 e = true ∧ P.cellsOf e = L.sz k ∧ 1 ≤ L.sz k ∧ ∀ ds, Alls (DvT L) ts ds → ∃ x, L.mkE k ds = some x

variable {P L}

theorem cells?_get {w : World} {base : Nat} {a : Addr} {n : Nat} {cs : List Value} (h : w.cells? base a n = some cs) : cs.length = n ∧ ∀ j, j < n → ∃ v, cs[j]? = some v ∧ w.cell? (a.add j) = some v := by
  unfold World.cells? at h
  split at h
  · obtain ⟨h1, h2⟩ := mapM_at h
    refine ⟨by simpa using h1, fun j hj => ?_⟩
    obtain ⟨y, h3, h4⟩ := h2 j j (by simp [hj])
    exact ⟨y, h3, h4⟩
  · cases h

theorem rowB_total : ∀ {fs : List Field} {o n : Nat}, rowB P fs o n = true → o ≤ n
  | [], o, n, h => by have := Nat.eq_of_beq_eq_true h; omega
  | f :: r, o, n, h => by
    simp only [rowB, Bool.and_eq_true] at h
    have := rowB_total h.2
    omega

theorem weightsAll_mem {H : Type} {e : TypeId} : ∀ {l : List (DataW H)} {i : Nat} {d : DataW H}, l[i]? = some d → ∀ n ∈ d.weights P e, n ∈ DataW.weightsAll P e l
  | [], i, d, h, n, hn => by simp at h
  | x :: r, 0, d, h, n, hn => by simp at h; subst h; simp only [DataW.weightsAll, List.mem_append]; exact .inl hn
  | x :: r, i + 1, d, h, n, hn => by simp at h; simp only [DataW.weightsAll, List.mem_append]; exact .inr (weightsAll_mem h n hn)

theorem weights_mem : ∀ {H : Type} {ts : List TypeId} {ds : List (DataW H)} {t : TypeId} {d : DataW H}, ∀ n, (n ∈ d.weights P t ∨ n ∈ DataW.weightsEach P ts ds) → n ∈ DataW.weightsEach P (t :: ts) (d :: ds) := by
  intro H ts ds t d n h
  simp only [DataW.weightsEach, List.mem_append]; exact h

/-- All cells of a world. -/
def allG (w : World) : Nat → Nat → Option Value := fun b o => w.cell? ⟨b, o, none⟩

theorem read_trod {H : Type} {enc : TypeId × Value → H} {w : World} {spare : Nat → Bool} {held : Bool} (hR : Reads P L) : ∀ (fuel : Nat) (t : TypeId) (cs : List Value) (d : DataW H) (ps : List MemPlace),
    DataW.trod enc P w 0 spare held fuel t cs = some (d, ps) → ∀ (n : Nat) (ts : List TypeDesc), flat P n t = some ts → laidB P L n t = true → (∀ x ∈ d.weights P t, x ≤ reachBytes) →
      ∃ ds : List (DV S), Alls (DvT L) ts ds ∧ Alls (DRel L (allG w)) ds cs ∧ ∀ d ∈ ds, VOk P L d := by
  intro fuel
  induction fuel with
  | zero => intro t cs d ps h; simp [DataW.trod] at h
  | succ fuel ih =>
    intro t cs d ps h n ts hf hl hw
    cases n with
    | zero => simp [laidB] at hl
    | succ n =>
    rw [laidB] at hl
    rw [flat] at hf
    cases hu : P.underlying t with
    | none => rw [hu] at hl; cases hl
    | some td =>
    rw [hu] at hl hf
    have one : ∀ {x : DV S} {v : Value}, cs = [v] → ts = [td] → DvT L td x → DRel L (allG w) x v → VOk P L x → ∃ ds : List (DV S), Alls (DvT L) ts ds ∧ Alls (DRel L (allG w)) ds cs ∧ ∀ d ∈ ds, VOk P L d := by
      intro x v h1 h2 h3 h4 h5
      subst h1; subst h2
      exact ⟨[x], .cons h3 .nil, .cons h4 .nil, by simpa using h5⟩
    cases td with
    | bool =>
      simp only [Option.some.injEq] at hf; subst hf
      rcases cs with _ | ⟨v, _ | ⟨v2, r⟩⟩
      · simp [DataW.trod, hu] at h
      · cases v <;> simp [DataW.trod, hu] at h
        exact one rfl rfl (.bool _) (.bool _) (.bool _)
      · simp [DataW.trod, hu] at h
    | int k =>
      simp only [Option.some.injEq] at hf; subst hf
      rcases cs with _ | ⟨v, _ | ⟨v2, r⟩⟩
      · simp [DataW.trod, hu] at h
      · cases v <;> simp [DataW.trod, hu] at h
        obtain ⟨⟨rfl, hk⟩, _⟩ := h
        exact one rfl rfl (.int _ _) (.int _ _) (.int _ _ hk)
      · simp [DataW.trod, hu] at h
    | string =>
      simp only [Option.some.injEq] at hf; subst hf
      rcases cs with _ | ⟨v, _ | ⟨v2, r⟩⟩
      · simp [DataW.trod, hu] at h
      · cases v <;> simp [DataW.trod, hu] at h
        rename_i s
        obtain ⟨_, rfl, _⟩ := h
        refine one rfl rfl (.str _) (.str _) (.str _ ?_)
        have := hw s.data.toList.length (by rw [DataW.weights]; exact List.mem_singleton.2 rfl)
        rw [Array.length_toList] at this; exact this
      · simp [DataW.trod, hu] at h
    | slice e =>
      simp only [Option.some.injEq] at hf; subst hf
      simp only [descB] at hl
      obtain ⟨k, hk⟩ := Option.isSome_iff_exists.1 hl
      have hnil : cs = [.slice none 0 0] → ∃ ds : List (DV S), Alls (DvT L) [.slice e] ds ∧ Alls (DRel L (allG w)) ds cs ∧ ∀ d ∈ ds, VOk P L d := fun hc => one hc rfl (.sl e k [] hk) (.nil k) (.sl e k [] hk (by simp) (by simp))
      rcases cs with _ | ⟨v, _ | ⟨v2, r⟩⟩
      · simp [DataW.trod, hu] at h
      rotate_left
      · simp [DataW.trod, hu] at h
      cases v with
      | slice a len cap =>
        cases a with
        | none =>
          cases len with
          | zero =>
            cases cap with
            | zero => exact hnil rfl
            | succ _ => simp [DataW.trod, hu] at h
          | succ _ => simp [DataW.trod, hu] at h
        | some a =>
        unfold DataW.trod at h
        simp only [hu] at h
        obtain ⟨ets, hets, hlaid, hsz, hpos, hmk⟩ := hR.key e k hk
        split at h
        · rename_i hb
          obtain ⟨hb1, hb2, hb3⟩ := hb
          cases he : (List.range len).mapM (fun i => (w.cells? 0 (a.add (i * P.cellsOf e)) (P.cellsOf e)).bind (DataW.trod enc P w 0 spare held fuel e)) with
          | none => rw [he] at h; cases h
          | some elems =>
            rw [he] at h
            simp only [Option.bind_some] at h
            obtain ⟨rest, _, hd⟩ := Option.map_eq_some_iff.1 h
            simp only [Prod.mk.injEq] at hd
            obtain ⟨rfl, rfl⟩ := hd
            obtain ⟨hlen, hget⟩ := mapM_at he
            simp only [List.length_range] at hlen
            have hwt : (len + rest.length) * P.bytesOf e ≤ reachBytes := hw _ (by simp [DataW.weights, hu, hlen])
            obtain ⟨l, hll, hl2⟩ := list_of (Q := fun i (x : S.El k) => (∀ d ∈ L.cells k x, VOk P L d) ∧ ∀ j d, (L.cells k x)[j]? = some d → ∃ u, w.cell? ((a.add (i * P.cellsOf e)).add j) = some u ∧ DRel L (allG w) d u) len (by
              intro i hi
              obtain ⟨y, hy, hyb⟩ := hget i i (by simp [hi])
              cases hc : w.cells? 0 (a.add (i * P.cellsOf e)) (P.cellsOf e) with
              | none => rw [hc] at hyb; cases hyb
              | some csi =>
                rw [hc] at hyb
                simp only [Option.bind_some] at hyb
                obtain ⟨dsi, g1, g2, g3⟩ := ih e csi y.1 y.2 hyb 8 ets hets hlaid (fun x hx => hw x (by
                  simp only [DataW.weights, hu, List.mem_cons, List.mem_append]
                  exact .inr (.inl (weightsAll_mem (i := i) (d := y.1) (by simp [hy]) x hx))))
                obtain ⟨x, hx⟩ := hmk dsi g1
                have hcx := L.mk_cells k dsi x hx
                obtain ⟨_, hcell⟩ := cells?_get hc
                refine ⟨x, by rw [hcx]; exact g3, fun j d hd => ?_⟩
                rw [hcx] at hd
                obtain ⟨u, hu1, hu2⟩ := g2.get hd
                have hj : j < P.cellsOf e := by
                  have := (List.getElem?_eq_some_iff.1 hd).1
                  rw [← hcx, L.len, ← hsz] at this; exact this
                obtain ⟨v, hv1, hv2⟩ := hcell j hj
                rw [hu1] at hv1; cases hv1
                exact ⟨u, hv2, hu2⟩)
            have hok : VOk P L (.sl k l) := .sl e k l hk (by
              rw [hll]
              exact Nat.le_trans (Nat.mul_le_mul_right _ (Nat.le_add_right _ _)) hwt) (fun x hx => by
                obtain ⟨i, hi⟩ := List.getElem?_of_mem hx
                exact (hl2 i x hi).1)
            refine one rfl rfl (.sl e k l hk) ?_ hok
            cases len with
            | zero =>
              have : l = [] := List.length_eq_zero_iff.1 hll
              subst this
              exact .emp k a cap
            | succ len =>
              have hspot : a.spot = none := by
                obtain ⟨x, hx⟩ : ∃ x, l[0]? = some x := by
                  cases l with
                  | nil => simp at hll
                  | cons x r => exact ⟨x, rfl⟩
                have hlx := L.len k x
                obtain ⟨d, hd⟩ : ∃ d, (L.cells k x)[0]? = some d := by
                  cases hcc : L.cells k x with
                  | nil => rw [hcc] at hlx; simp at hlx; omega
                  | cons d r => exact ⟨d, rfl⟩
                obtain ⟨u, hu, _⟩ := (hl2 0 x hx).2 0 d hd
                have := World.cell?_spot hu
                simpa [Addr.add] using this
              obtain ⟨b, o, sp⟩ := a
              simp only at hspot; subst hspot
              rw [← hll]
              refine DRel.sl_mk (by omega) fun i x hx j d hd => ?_
              obtain ⟨u, hu1, hu2⟩ := (hl2 i x hx).2 j d hd
              refine ⟨u, ?_, hu2⟩
              unfold allG
              rw [← hu1, hsz]
              congr 1
              simp only [Addr.add]
              split <;> split <;> simp_all <;> omega
        · cases h
      | _ => simp [DataW.trod, hu] at h
    | struct fs =>
      simp only [Option.map_eq_some_iff] at hf
      obtain ⟨tss, hf, rfl⟩ := hf
      simp only [Bool.and_eq_true] at hl
      obtain ⟨hrow, hall⟩ := hl
      unfold DataW.trod at h
      simp only [hu] at h
      split at h
      · rename_i hcl
        obtain ⟨xs, hxs, hd⟩ := Option.map_eq_some_iff.1 h
        simp only [Prod.mk.injEq] at hd
        obtain ⟨rfl, rfl⟩ := hd
        have hw' : ∀ x ∈ DataW.weightsEach P (fs.toList.map (·.type)) (xs.map (·.1)), x ≤ reachBytes := fun x hx => hw x (by simpa [DataW.weights, hu] using hx)
        rw [← hcl] at hrow
        have main : ∀ (l : List Field) (o : Nat) (xs : List (DataW H × List MemPlace)) (tss : List (List TypeDesc)), rowB P l o cs.length = true → (l.all fun f => laidB P L n f.type) = true →
            (l.mapM fun f => DataW.trod enc P w 0 spare held fuel f.type ((cs.drop f.offset).take (P.cellsOf f.type))) = some xs → (l.mapM fun f => flat P n f.type) = some tss →
            (∀ x ∈ DataW.weightsEach P (l.map (·.type)) (xs.map (·.1)), x ≤ reachBytes) →
            ∃ ds : List (DV S), Alls (DvT L) tss.flatten ds ∧ Alls (DRel L (allG w)) ds (cs.drop o) ∧ ∀ d ∈ ds, VOk P L d := by
          intro l
          induction l with
          | nil =>
            intro o xs tss h1 h2 h3 h4 _
            rw [List.mapM_nil] at h3 h4; cases h3; cases h4
            have := Nat.eq_of_beq_eq_true h1
            subst this
            exact ⟨[], .nil, by rw [List.drop_length]; exact .nil, by simp⟩
          | cons f r ihf =>
            intro o xs tss h1 h2 h3 h4 h5
            obtain ⟨y, ys, e1, e2, rfl⟩ := mapM_cons_some h3
            obtain ⟨z, zs, e3, e4, rfl⟩ := mapM_cons_some h4
            simp only [rowB, Bool.and_eq_true] at h1
            simp only [List.all_cons, Bool.and_eq_true] at h2
            have ho := Nat.eq_of_beq_eq_true h1.1
            rw [ho] at e1
            obtain ⟨ds1, a1, a2, a3⟩ := ih f.type _ y.1 y.2 e1 n z e3 h2.1 fun x hx => h5 x (weights_mem x (.inl hx))
            obtain ⟨ds2, b1, b2, b3⟩ := ihf _ ys zs h1.2 h2.2 e2 e4 fun x hx => h5 x (weights_mem x (.inr hx))
            refine ⟨ds1 ++ ds2, ?_, ?_, fun d hd => (List.mem_append.1 hd).elim (a3 d) (b3 d)⟩
            · rw [List.flatten_cons]; exact a1.append b1
            · have := a2.append b2
              rwa [← List.drop_drop, List.take_append_drop] at this
        have := main fs.toList 0 xs tss hrow (by simpa using hall) hxs hf hw'
        simpa using this
      · cases h
    | _ => simp [descB] at hl

end
end Go.Proofs.YtanfoijdfcnpoaaGreatDoor.Ev
