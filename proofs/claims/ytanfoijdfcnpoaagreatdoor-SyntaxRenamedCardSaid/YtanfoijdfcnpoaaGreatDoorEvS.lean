/- This file proves the ground of the evaluator's soundness: how a plain value stands for the model's value in a world, and that this stays so when the world grows; without any condition. -/
import Derived.Test.YtanfoijdfcnpoaaGreatDoorEvC
import Derived.Extends
import Derived.Laws.Sem
import Derived.Below
import Derived.MapKept
set_option linter.unusedVariables false
namespace Go.Proofs.YtanfoijdfcnpoaaGreatDoor.Ev

inductive Pos
  | slot (i : Nat)
  | cell (c j : Nat)
  | arg (j : Nat)
  | res
deriving DecidableEq

structure Rt where
  pos : Pos
  e : Nat
  top : Nat

structure Gh where
  β : Nat → Option Nat
  G : Nat → Nat → Option Value
  ω : Nat → Option Rt

section
variable {S : Sig} (P : Program) (L : Lay S)

inductive DRel (G : Nat → Nat → Option Value) : DV S → Value → Prop
  | bool (b : Bool) : DRel G (.bool b) (.bool b)
  | int (k : IntKind) (n : Int) : DRel G (.int k n) (.int k n)
  | str (s : ByteArray) : DRel G (.str s) (.string s)
  | nil (t : S.K) : DRel G (.sl t []) (.slice none 0 0)
  | emp (t : S.K) (a : Addr) (c : Nat) : DRel G (.sl t []) (.slice (some a) 0 c)
  | sl (t : S.K) (l : List (S.El t)) (b o c : Nat) (hc : l.length ≤ c)
      (h1 : ∀ i x, l[i]? = some x → ∀ j d, (L.cells t x)[j]? = some d → (G b (o + i * L.sz t + j)).isSome = true)
      (h2 : ∀ i x, l[i]? = some x → ∀ j d, (L.cells t x)[j]? = some d → DRel G d ((G b (o + i * L.sz t + j)).getD undef)) :
      DRel G (.sl t l) (.slice (some ⟨b, o, none⟩) l.length c)

/-- A slice's address is a plain one. -/
def Plain (v : Value) : Prop := ∀ a n c, v = .slice (some a) n c → a.spot = none

theorem Plain.nil : Plain (.slice none 0 0) := by intro a n c h; cases h
theorem Plain.mk (b o n c : Nat) : Plain (.slice (some ⟨b, o, none⟩) n c) := by intro a n c h; cases h; rfl

mutual
def PRel (β : Nat → Option Nat) (G : Nat → Nat → Option Value) : PV S → Value → Prop
  | .d x, v => DRel L G x v
  | .full k l, v => DRel L G (.sl k l) v ∧ (∀ a n c, v = .slice a n c → n = c) ∧ Plain v
  | .own k l, v => DRel L G (.sl k l) v ∧ Plain v
  | .ptr c o, v => ∃ b, β c = some b ∧ v = .pointer (some ⟨b, o, none⟩)
  | .dp k x o, v => ∃ b q, v = .pointer (some ⟨b, q + o, none⟩) ∧ ∀ j d, (L.cells k x)[j]? = some d → ∃ u, G b (q + j) = some u ∧ DRel L G d u
  | .nilp, v => v = .pointer none
  | .fn f a b, v => ∃ va vb : List Value, v = .func f va.toArray vb.toArray ∧ PRels β G a va ∧ PRels β G b vb
  | .nilfn, v => v = .nilFunc
  | .iface t p, v => ∃ u, v = .iface t u ∧ PRel β G p u
  | .nilif, v => v = .nilIface
  | .agg l, v => ∃ vs : List Value, v = .agg vs.toArray ∧ PRels β G l vs
  | .tup l, v => ∃ vs : List Value, v = .tuple vs.toArray ∧ PRels β G l vs
  | .bot, v => v = undef
  | .any, _ => True
  | .mp c, v => ∃ b, β c = some b ∧ v = .map (some b)
  | .lo _ c n, v => ∃ b, β c = some b ∧ v = .slice (some ⟨b, 0, none⟩) n n
  | .nilmp, v => v = .map none
  | .mpo _, v => v = .bool false
def PRels (β : Nat → Option Nat) (G : Nat → Nat → Option Value) : List (PV S) → List Value → Prop
  | [], [] => True
  | p :: ps, v :: vs => PRel β G p v ∧ PRels β G ps vs
  | _, _ => False
end

def OwnOk (ω : Nat → Option Rt) (pos : Pos) : PV S → Value → Prop
  | .own k _, v => ∀ a n c, v = .slice (some a) n c → n < c → ∃ r, ω a.block = some r ∧ r.pos = pos ∧ r.e = a.off + n * L.sz k ∧ a.off + c * L.sz k ≤ r.top
  | _, _ => True

def SRel (g : Gh) (pos : Pos) (p : PV S) (v : Value) : Prop := PRel L g.β g.G p v ∧ OwnOk L g.ω pos p v

/-- The entries of a map. -/
def pairsOf {α : Type} (f : α → Value) (l : List (ByteArray × α)) : List (Value × Value) := l.map fun p => (.string p.1, f p.2)
def MapC.pairs : MapC → List (Value × Value)
  | .b l => pairsOf .bool l
  | .s l => pairsOf .string l

def entries (es : Array MapEntry) : List (Value × Value) := es.toList.map fun e => (e.key, e.val)

/-- A map's entries, in any order. -/
def MapRel (x : MapC) (es : Array MapEntry) (k : Nat) : Prop := (entries es).Perm x.pairs ∧ MapKept.Stamped es k

/-- What kind of object a block is: variables, or a map. -/
inductive VTy (ps : List (PV S)) : Type
  | cells (t : TypeId) (h : noMap ps = true)
  | map (x : MapC) (es : Array MapEntry) (k : Nat) (h : ps = [.mpo x]) (hr : MapRel x es k)

def VTy.obj {ps : List (PV S)} (vs : Array Value) : VTy ps → Obj
  | .cells t _ => .cells vs t (0, 0)
  | .map _ es k _ _ => .map es k

structure MemInv (g : Gh) (m : Mem S) (w : World) : Prop where
  cell : ∀ c ps, cellAt m c = some ps → ∃ b vs, ∃ ty : VTy ps, g.β c = some b ∧ w.heap[b]? = some (ty.obj vs) ∧ vs.size = ps.length ∧
    ∀ j p, ps[j]? = some p → ∃ v, vs[j]? = some v ∧ SRel L g (.cell c j) p v
  dom : ∀ c b, g.β c = some b → ∃ ps, cellAt m c = some ps
  inj : ∀ c c' b, g.β c = some b → g.β c' = some b → c = c'
  βG : ∀ c b, g.β c = some b → ∀ o, g.G b o = none
  gs : ∀ b o v, g.G b o = some v → w.cell? ⟨b, o, none⟩ = some v
  rt : ∀ b r, g.ω b = some r → (∀ c, g.β c ≠ some b) ∧ (∃ cs ty, w.heap[b]? = some (.cells cs ty (0, 0)) ∧ r.top ≤ cs.size) ∧ ∀ o, r.e ≤ o → g.G b o = none
  wok : ∀ b, L.fixB b = true → (∀ c, g.β c ≠ some b) ∧ g.ω b = none ∧ ∃ o, w.heap[b]? = some o ∧ L.fixOk b o

/-- From g, w on nothing has turned but what the ghost allows. -/
structure Fr (g0 : Gh) (w0 : World) (g : Gh) (w : World) : Prop where
  os : w.os = w0.os
  tape : w.tape = w0.tape
  output : w.output = w0.output
  size : w0.heap.size ≤ w.heap.size
  keep : ∀ b, b < w0.heap.size → (∀ c, g0.β c ≠ some b) → g0.ω b = none → w.heap[b]? = w0.heap[b]? ∧ (∀ o, g.G b o = g0.G b o) ∧ g.ω b = none
  gmono : ∀ b o v, g0.G b o = some v → g.G b o = some v
  βmono : ∀ c b, g0.β c = some b → g.β c = some b
  βnew : ∀ c b, g.β c = some b → g0.β c = some b ∨ w0.heap.size ≤ b

def DfRel (β : Nat → Option Nat) (G : Nat → Nat → Option Value) (x : FuncId × List (PV S)) (d : Deferred) : Prop :=
  ∃ (cap : Array Value) (vs : List Value), d.target = .fn (.func x.1) cap ∧ (d.args ++ cap).toList = vs ∧ PRels L β G x.2 vs

inductive DfRels (β : Nat → Option Nat) (G : Nat → Nat → Option Value) : List (FuncId × List (PV S)) → List Deferred → Prop
  | nil : DfRels β G [] []
  | cons {x d xs ds} : Nat.beq x.1 markId = false → DfRel L β G x d → DfRels β G xs ds → DfRels β G (x :: xs) (d :: ds)
  | mark {r ar xs ds} : DfRels β G xs ds → DfRels β G ((markId, [.fn (.yield r) [] []]) :: xs) ({ target := .collected r, args := ar } :: ds)

structure Inv (g : Gh) (st : St S) (a : Act) (w : World) : Prop where
  size : a.tmps.size = st.nt
  slot : ∀ i, SRel L g (.slot i) (st.slots i) (a.tmps.getD i undef)
  mem : MemInv L g st.mem w
  dfs : DfRels L g.β g.G st.dfs a.defers

variable {L}

theorem MemInv.plain {g : Gh} {m : Mem S} {w : World} (h : MemInv L g m w) (c : Nat) (ps : List (PV S)) (hc : cellAt m c = some ps) (hn : noMap ps = true) : ∃ b vs ty, g.β c = some b ∧ w.heap[b]? = some (.cells vs ty (0, 0)) ∧ vs.size = ps.length ∧
    ∀ j p, ps[j]? = some p → ∃ v, vs[j]? = some v ∧ SRel L g (.cell c j) p v := by
  obtain ⟨b, vs, ty, h1, h2, h3, h4⟩ := h.cell c ps hc
  cases ty with
  | cells t _ => exact ⟨b, vs, t, h1, h2, h3, h4⟩
  | map x es k he _ => rw [he] at hn; cases hn


theorem MemInv.wok_sub {g g' : Gh} {m : Mem S} {w w' : World} (h : MemInv L g m w) (hβ : ∀ c b, g'.β c = some b → (∃ c', g.β c' = some b) ∨ w.heap.size ≤ b) (hω : ∀ b, b < w.heap.size → L.fixB b = true → g.ω b = none → g'.ω b = none)
    (hw : ∀ b o, (∀ c, g.β c ≠ some b) → g.ω b = none → w.heap[b]? = some o → w'.heap[b]? = some o) :
    ∀ b, L.fixB b = true → (∀ c, g'.β c ≠ some b) ∧ g'.ω b = none ∧ ∃ o, w'.heap[b]? = some o ∧ L.fixOk b o := by
  intro b hb
  obtain ⟨h1, h2, o, h3, h4⟩ := h.wok b hb
  have hlt : b < w.heap.size := (Array.getElem?_eq_some_iff.1 h3).1
  refine ⟨fun c hc => ?_, hω b hlt hb h2, o, hw b o h1 h2 h3, h4⟩
  rcases hβ c b hc with ⟨c', hc'⟩ | h5
  · exact h1 c' hc'
  · omega

theorem MemInv.fresh {g : Gh} {m : Mem S} {w : World} (h : MemInv L g m w) : L.fixB w.heap.size = false := by
  cases hf : L.fixB w.heap.size with
  | false => rfl
  | true =>
    obtain ⟨_, _, o, ho, _⟩ := h.wok _ hf
    have := (Array.getElem?_eq_some_iff.1 ho).1
    omega

theorem DRel.mono {G G' : Nat → Nat → Option Value} (hG : ∀ b o v, G b o = some v → G' b o = some v) {d : DV S} {v : Value} (h : DRel L G d v) : DRel L G' d v := by
  induction h with
  | bool b => exact .bool b
  | int k n => exact .int k n
  | str s => exact .str s
  | nil t => exact .nil t
  | emp t a c => exact .emp t a c
  | sl t l b o c hc h1 h2 ih =>
    refine .sl t l b o c hc (fun i x hx j d hd => ?_) (fun i x hx j d hd => ?_)
    · have := h1 i x hx j d hd
      obtain ⟨u, hu⟩ := Option.isSome_iff_exists.1 this
      rw [hG _ _ _ hu]; rfl
    · have := h1 i x hx j d hd
      obtain ⟨u, hu⟩ := Option.isSome_iff_exists.1 this
      have h3 := ih i x hx j d hd
      rw [hu] at h3
      rw [hG _ _ _ hu]; exact h3

/-- A slice's elements, cell by cell. -/
theorem DRel.sl_inv {G : Nat → Nat → Option Value} {t : S.K} {l : List (S.El t)} {v : Value} (h : DRel L G (.sl t l) v) :
    (l = [] ∧ v = .slice none 0 0) ∨ (l = [] ∧ ∃ a c, v = .slice (some a) 0 c) ∨ ∃ b o c, v = .slice (some ⟨b, o, none⟩) l.length c ∧ l.length ≤ c ∧
      ∀ i x, l[i]? = some x → ∀ j d, (L.cells t x)[j]? = some d → ∃ u, G b (o + i * L.sz t + j) = some u ∧ DRel L G d u := by
  cases h with
  | nil => exact .inl ⟨rfl, rfl⟩
  | emp _ a c => exact .inr (.inl ⟨rfl, a, c, rfl⟩)
  | sl _ _ b o c hc h1 h2 =>
    refine .inr (.inr ⟨b, o, c, rfl, hc, fun i x hx j d hd => ?_⟩)
    obtain ⟨u, hu⟩ := Option.isSome_iff_exists.1 (h1 i x hx j d hd)
    have := h2 i x hx j d hd
    rw [hu] at this
    exact ⟨u, hu, this⟩

/-- The same, for a slice with a plain address. -/
theorem DRel.sl_plain {G : Nat → Nat → Option Value} {t : S.K} {l : List (S.El t)} {v : Value} (h : DRel L G (.sl t l) v) (hp : Plain v) :
    (l = [] ∧ v = .slice none 0 0) ∨ ∃ b o c, v = .slice (some ⟨b, o, none⟩) l.length c ∧ l.length ≤ c ∧
      ∀ i x, l[i]? = some x → ∀ j d, (L.cells t x)[j]? = some d → ∃ u, G b (o + i * L.sz t + j) = some u ∧ DRel L G d u := by
  rcases h.sl_inv with h | ⟨rfl, a, c, rfl⟩ | h
  · exact .inl h
  · refine .inr ⟨a.block, a.off, c, ?_, Nat.zero_le _, by simp⟩
    have := hp a 0 c rfl
    obtain ⟨b, o, s⟩ := a
    simp only at this; subst this; rfl
  · exact .inr h

theorem DRel.sl_mk {G : Nat → Nat → Option Value} {t : S.K} {l : List (S.El t)} {b o c : Nat} (hc : l.length ≤ c)
    (h : ∀ i x, l[i]? = some x → ∀ j d, (L.cells t x)[j]? = some d → ∃ u, G b (o + i * L.sz t + j) = some u ∧ DRel L G d u) :
    DRel L G (.sl t l) (.slice (some ⟨b, o, none⟩) l.length c) := by
  refine .sl t l b o c hc (fun i x hx j d hd => ?_) (fun i x hx j d hd => ?_)
  · obtain ⟨u, hu, _⟩ := h i x hx j d hd; rw [hu]; rfl
  · obtain ⟨u, hu, h'⟩ := h i x hx j d hd; rw [hu]; exact h'

mutual
theorem PRel.mono {β β' : Nat → Option Nat} {G G' : Nat → Nat → Option Value} (hG : ∀ b o v, G b o = some v → G' b o = some v)
    (hβ : ∀ c b, β c = some b → β' c = some b) : ∀ {p : PV S} {v : Value}, PRel L β G p v → PRel L β' G' p v
  | .d x, v, h => by simp only [PRel] at h ⊢; exact h.mono hG
  | .full k l, v, h => by simp only [PRel] at h ⊢; exact ⟨h.1.mono hG, h.2⟩
  | .own k l, v, h => by simp only [PRel] at h ⊢; exact ⟨h.1.mono hG, h.2⟩
  | .ptr c o, v, h => by simp only [PRel] at h ⊢; obtain ⟨b, h1, h2⟩ := h; exact ⟨b, hβ _ _ h1, h2⟩
  | .dp k x o, v, h => by
    simp only [PRel] at h ⊢; obtain ⟨b, q, h1, h2⟩ := h
    refine ⟨b, q, h1, fun j d hd => ?_⟩
    obtain ⟨u, hu, hr⟩ := h2 j d hd
    exact ⟨u, hG _ _ _ hu, hr.mono hG⟩
  | .nilp, v, h => by simp only [PRel] at h ⊢; exact h
  | .fn f a b, v, h => by
    simp only [PRel] at h ⊢; obtain ⟨va, vb, h1, h2, h3⟩ := h
    exact ⟨va, vb, h1, PRels.mono hG hβ h2, PRels.mono hG hβ h3⟩
  | .nilfn, v, h => by simp only [PRel] at h ⊢; exact h
  | .iface t p, v, h => by simp only [PRel] at h ⊢; obtain ⟨u, h1, h2⟩ := h; exact ⟨u, h1, PRel.mono hG hβ h2⟩
  | .nilif, v, h => by simp only [PRel] at h ⊢; exact h
  | .agg l, v, h => by simp only [PRel] at h ⊢; obtain ⟨u, h1, h2⟩ := h; exact ⟨u, h1, PRels.mono hG hβ h2⟩
  | .tup l, v, h => by simp only [PRel] at h ⊢; obtain ⟨u, h1, h2⟩ := h; exact ⟨u, h1, PRels.mono hG hβ h2⟩
  | .bot, v, h => by simp only [PRel] at h ⊢; exact h
  | .any, v, h => by simp only [PRel]
  | .mp c, v, h => by simp only [PRel] at h ⊢; obtain ⟨b, h1, h2⟩ := h; exact ⟨b, hβ _ _ h1, h2⟩
  | .lo _ c n, v, h => by simp only [PRel] at h ⊢; obtain ⟨b, h1, h2⟩ := h; exact ⟨b, hβ _ _ h1, h2⟩
  | .nilmp, v, h => by simp only [PRel] at h ⊢; exact h
  | .mpo _, v, h => by simp only [PRel] at h ⊢; exact h
theorem PRels.mono {β β' : Nat → Option Nat} {G G' : Nat → Nat → Option Value} (hG : ∀ b o v, G b o = some v → G' b o = some v)
    (hβ : ∀ c b, β c = some b → β' c = some b) : ∀ {p : List (PV S)} {v : List Value}, PRels L β G p v → PRels L β' G' p v
  | [], [], _ => by simp only [PRels]
  | p :: ps, v :: vs, h => by simp only [PRels] at h ⊢; exact ⟨PRel.mono hG hβ h.1, PRels.mono hG hβ h.2⟩
  | [], _ :: _, h => by simp only [PRels] at h
  | _ :: _, [], h => by simp only [PRels] at h
end

theorem PRels.length {β : Nat → Option Nat} {G : Nat → Nat → Option Value} : ∀ {p : List (PV S)} {v : List Value}, PRels L β G p v → p.length = v.length
  | [], [], _ => rfl
  | p :: ps, v :: vs, h => by simp only [PRels] at h; simp [PRels.length h.2]
  | [], _ :: _, h => by simp only [PRels] at h
  | _ :: _, [], h => by simp only [PRels] at h

theorem PRels.get {β : Nat → Option Nat} {G : Nat → Nat → Option Value} : ∀ {p : List (PV S)} {v : List Value}, PRels L β G p v → ∀ {j : Nat} {x : PV S}, p[j]? = some x →
    ∃ u, v[j]? = some u ∧ PRel L β G x u
  | [], [], _, j, x, hx => by simp at hx
  | p :: ps, v :: vs, h, 0, x, hx => by simp only [PRels] at h; simp at hx; subst hx; exact ⟨v, rfl, h.1⟩
  | p :: ps, v :: vs, h, j + 1, x, hx => by simp only [PRels] at h; simp at hx; simpa using PRels.get h.2 hx
  | [], _ :: _, h, _, _, _ => by simp only [PRels] at h
  | _ :: _, [], h, _, _, _ => by simp only [PRels] at h

theorem PRels.of_get {β : Nat → Option Nat} {G : Nat → Nat → Option Value} : ∀ {p : List (PV S)} {v : List Value}, p.length = v.length →
    (∀ (j : Nat) (x : PV S), p[j]? = some x → ∃ u, v[j]? = some u ∧ PRel L β G x u) → PRels L β G p v
  | [], [], _, _ => by simp only [PRels]
  | p :: ps, v :: vs, hl, h => by
    simp only [PRels]
    refine ⟨?_, PRels.of_get (by simpa using hl) fun j x hx => ?_⟩
    · obtain ⟨u, h1, h2⟩ := h 0 p rfl; simp at h1; subst h1; exact h2
    · have := h (j + 1) x (by simpa using hx); simpa using this
  | [], _ :: _, hl, _ => by simp at hl
  | _ :: _, [], hl, _ => by simp at hl

theorem PRels.append {β : Nat → Option Nat} {G : Nat → Nat → Option Value} : ∀ {p q : List (PV S)} {v u : List Value}, PRels L β G p v → PRels L β G q u → PRels L β G (p ++ q) (v ++ u)
  | [], q, [], u, _, h => h
  | p :: ps, q, v :: vs, u, h, h' => by simp only [PRels] at h; simp only [List.cons_append, PRels]; exact ⟨h.1, PRels.append h.2 h'⟩
  | [], _, _ :: _, _, h, _ => by simp only [PRels] at h
  | _ :: _, _, [], _, h, _ => by simp only [PRels] at h

theorem PRel.strip {β : Nat → Option Nat} {G : Nat → Nat → Option Value} {p : PV S} {v : Value} (h : PRel L β G p v) : PRel L β G p.strip v := by
  cases p <;> first | exact h | (simp only [PRel, PV.strip] at h ⊢; exact h.1)

theorem PRel.norm1 {β : Nat → Option Nat} {G : Nat → Nat → Option Value} {p : PV S} {v : Value} (h : PRel L β G p v) : PRel L β G p.norm1 v := by
  cases p <;> first | exact h | (simp only [PRel, PV.norm1] at h ⊢; exact h.1)

theorem PRels.map {β : Nat → Option Nat} {G : Nat → Nat → Option Value} {f : PV S → PV S} (hf : ∀ p v, PRel L β G p v → PRel L β G (f p) v) :
    ∀ {p : List (PV S)} {v : List Value}, PRels L β G p v → PRels L β G (p.map f) v
  | [], [], _ => by simp only [List.map, PRels]
  | p :: ps, v :: vs, h => by simp only [PRels] at h; simp only [List.map, PRels]; exact ⟨hf _ _ h.1, PRels.map hf h.2⟩
  | [], _ :: _, h => by simp only [PRels] at h
  | _ :: _, [], h => by simp only [PRels] at h

theorem PRel.norm {β : Nat → Option Nat} {G : Nat → Nat → Option Value} {p : PV S} {v : Value} (h : PRel L β G p v) : PRel L β G p.norm v := by
  cases p <;> first
    | (simp only [PRel, PV.norm] at h ⊢; obtain ⟨vs, h1, h2⟩ := h; exact ⟨vs, h1, h2.map fun _ _ => PRel.norm1⟩)
    | exact h
    | (simp only [PRel, PV.norm] at h ⊢; exact h.1)

theorem PRel.dv {β : Nat → Option Nat} {G : Nat → Nat → Option Value} {p : PV S} {v : Value} {x : DV S} (h : PRel L β G p v) (hx : p.dv? = some x) : DRel L G x v := by
  cases p <;> simp only [PV.dv?, Option.some.injEq, reduceCtorEq] at hx <;> subst hx <;> simp only [PRel] at h
  · exact h
  · exact h.1
  · exact h.1

theorem OwnOk.of_strip {ω : Nat → Option Rt} {pos : Pos} (p : PV S) (v : Value) : OwnOk L ω pos p.strip v := by
  cases p <;> simp [PV.strip, OwnOk]

theorem SRel.strip {g : Gh} {pos pos' : Pos} {p : PV S} {v : Value} (h : SRel L g pos p v) : SRel L g pos' p.strip v := ⟨h.1.strip, OwnOk.of_strip _ _⟩

theorem PRel.cells {β : Nat → Option Nat} {G : Nat → Nat → Option Value} {p : PV S} {v : Value} (h : PRel L β G p v) (hb : p ≠ .any) (ht : ∀ l, p ≠ .tup l) (hb' : p ≠ .bot) : PRels L β G p.cells v.cells.toList := by
  cases p <;> simp only [PV.cells] <;> (try simp at hb) <;> (try simp at hb') <;> (try (exact absurd rfl (ht _)))
  case agg l => simp only [PRel] at h; obtain ⟨vs, rfl, h2⟩ := h; simpa [Value.cells] using h2
  all_goals
    have hv : v.cells.toList = [v] := by
      simp only [PRel] at h
      first
        | (cases h <;> rfl)
        | (obtain ⟨_, rfl⟩ := h; rfl)
        | (obtain ⟨h, _⟩ := h; cases h <;> rfl)
        | (obtain ⟨_, _, rfl⟩ := h; rfl)
        | (obtain ⟨_, _, rfl, _⟩ := h; rfl)
        | (obtain ⟨_, rfl, _⟩ := h; rfl)
        | (subst h; rfl)
    rw [hv]; exact ⟨h, by simp only [PRels]⟩

theorem Fr.refl (g : Gh) (w : World) : Fr g w g w :=
  ⟨rfl, rfl, rfl, Nat.le_refl _, fun b _ _ h => ⟨rfl, fun _ => rfl, h⟩, fun _ _ _ h => h, fun _ _ h => h, fun _ _ h => .inl h⟩

theorem Fr.trans {g0 g1 g2 : Gh} {w0 w1 w2 : World} (h : Fr g0 w0 g1 w1) (k : Fr g1 w1 g2 w2) : Fr g0 w0 g2 w2 where
  os := k.os.trans h.os
  tape := k.tape.trans h.tape
  output := k.output.trans h.output
  size := Nat.le_trans h.size k.size
  keep b hb hβ hω := by
    obtain ⟨e1, e2, e3⟩ := h.keep b hb hβ hω
    obtain ⟨f1, f2, f3⟩ := k.keep b (Nat.lt_of_lt_of_le hb h.size) (fun c hc => by
      rcases h.βnew c b hc with h' | h'
      · exact hβ c h'
      · omega) e3
    exact ⟨f1.trans e1, fun o => (f2 o).trans (e2 o), f3⟩
  gmono b o v hv := k.gmono b o v (h.gmono b o v hv)
  βmono c b hb := k.βmono c b (h.βmono c b hb)
  βnew c b hb := by
    rcases k.βnew c b hb with h' | h'
    · exact h.βnew c b h'
    · exact .inr (Nat.le_trans h.size h')

theorem DfRels.mono {β β' : Nat → Option Nat} {G G' : Nat → Nat → Option Value} (hG : ∀ b o v, G b o = some v → G' b o = some v)
    (hβ : ∀ c b, β c = some b → β' c = some b) {xs : List (FuncId × List (PV S))} {ds : List Deferred} (h : DfRels L β G xs ds) : DfRels L β' G' xs ds := by
  induction h with
  | nil => exact .nil
  | cons h0 h1 _ ih => obtain ⟨cap, vs, e1, e2, e3⟩ := h1; exact .cons h0 ⟨cap, vs, e1, e2, e3.mono hG hβ⟩ ih
  | mark _ ih => exact .mark ih

end
end Go.Proofs.YtanfoijdfcnpoaaGreatDoor.Ev
