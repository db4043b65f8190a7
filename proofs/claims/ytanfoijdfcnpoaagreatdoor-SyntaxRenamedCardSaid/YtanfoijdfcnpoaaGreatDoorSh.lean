/- This file proves that a law that the tables evaluate to true returns true and leaves its arguments; its conditions are those of the tables and of the types' layout. -/
import Derived.Test.YtanfoijdfcnpoaaGreatDoorEvK
import Derived.Test.YtanfoijdfcnpoaaGreatDoorRd
import Derived.JoinedOf
import Derived.ProofKit
import Derived.OpenShut
import Derived.ChangeShapes
import Derived.Below
import Derived.Handed
import Derived.LaidLaws
set_option linter.unusedVariables false
set_option linter.unusedSimpArgs false
namespace Go.Proofs.YtanfoijdfcnpoaaGreatDoor.Ev
open Go.ChangeShapes Go.WideShapes Go.ChangeAt Go.RowKit

section
variable {S : Sig} {P : Program} {L : Lay S}

/-- An argument, by its cells. -/
def argP (agg : Bool) (ds : List (DV S)) : PV S := if agg then .agg (ds.map .d) else match ds with | [d] => .d d | _ => .any

/-- A typed argument: its cells are of the type's cells' types, and fit. -/
def Arg (P : Program) (L : Lay S) (t : TypeId) (p : PV S) : Prop :=
  ∃ b ts ds, aggT P t = some b ∧ flat P 8 t = some ts ∧ Alls (DvT L) ts ds ∧ (∀ d ∈ ds, VOk P L d) ∧ p = argP b ds

theorem Alls.prels {β : Nat → Option Nat} {G : Nat → Nat → Option Value} {ds : List (DV S)} {vs : List Value} (h : Alls (DRel L G) ds vs) : PRels L β G (ds.map .d) vs := by
  induction h with
  | nil => simp only [List.map_nil, PRels]
  | cons h1 _ ih => simp only [List.map_cons, PRels]; exact ⟨by simp only [PRel]; exact h1, ih⟩

theorem cells_one {w : World} {base : Nat} {t : TypeId} {v : Value} (hb : aggT P t = some false) (hl : laidB P L 8 t = true) (h : Value.okWide P w .any base t v) : v.cells.toList = [v] := by
  unfold aggT at hb
  unfold Value.okWide at h
  rw [laidB] at hl
  cases hu : P.underlying t with
  | none => rw [hu] at hb; cases hb
  | some td =>
    rw [hu] at hb h hl
    cases td <;> simp [descB] at hb h hl <;> cases v <;> simp_all [Cell.okWide, Cell.ok, Value.cells]

/-- An argument that is read. -/
theorem arg_read {H : Type} {enc : TypeId × Value → H} {w : World} {base : Nat} {held : Bool} (hR : Reads P L) {t : TypeId} {v : Value} {d : DataW H} {ps : List MemPlace} (h : DataW.Trod enc P w 0 (fun _ => true) held t v d ps)
    (hl : laidB P L 8 t = true) (hf : (flat P 8 t).isSome = true) (hok : Value.okWide P w .any base t v) (hw : ∀ x ∈ d.weights P t, x ≤ reachBytes) (β : Nat → Option Nat) :
    ∃ p, Arg P L t p ∧ PRel L β (allG w) p v ∧ ∀ k l, p ≠ .own k l := by
  obtain ⟨fuel, h⟩ := h
  obtain ⟨ts, hts⟩ := Option.isSome_iff_exists.1 hf
  obtain ⟨ds, h1, h2, h3⟩ := read_trod hR fuel t _ d ps h 8 ts hts hl hw
  cases hb : aggT P t with
  | none =>
    exfalso
    unfold aggT at hb
    rw [laidB] at hl
    cases hu : P.underlying t with
    | none => rw [hu] at hl; cases hl
    | some td => rw [hu] at hb; cases td <;> simp at hb
  | some b =>
    refine ⟨argP b ds, ⟨b, ts, ds, hb, hts, h1, h3, rfl⟩, ?_, ?_⟩
    · cases b with
      | true =>
        have : ∃ cs, v = .agg cs := by
          unfold aggT at hb
          unfold Value.okWide at hok
          cases hu : P.underlying t with
          | none => rw [hu] at hb; cases hb
          | some td =>
            rw [hu] at hb hok
            cases td <;> simp at hb hok
            all_goals
              obtain ⟨cs, rfl, _⟩ := hok
              exact ⟨cs, rfl⟩
        obtain ⟨cs, rfl⟩ := this
        simp only [argP, if_true, PRel]
        exact ⟨cs.toList, by simp, h2.prels⟩
      | false =>
        rw [cells_one hb hl hok] at h2
        cases h2 with
        | cons g1 g2 =>
          cases g2
          simp only [argP, PRel]
          exact g1
    · intro k l
      unfold argP
      split
      · simp
      · split <;> simp

theorem args_read {H : Type} {enc : TypeId × Value → H} {w : World} {base : Nat} {held : Bool} (hR : Reads P L) (β : Nat → Option Nat) : ∀ {ts : List TypeId} {vs : List Value} {ds : List (DataW H)} {ps : List MemPlace},
    DataW.TrodAll enc P w 0 (fun _ => true) held ts vs ds ps → (ts.all fun t => laidB P L 8 t && (flat P 8 t).isSome) = true →
    (∀ (j : Nat) t v, ts[j]? = some t → vs[j]? = some v → Value.okWide P w .any base t v) → (∀ x ∈ DataW.weightsEach P ts ds, x ≤ reachBytes) →
    ∃ pvs : List (PV S), Alls (Arg P L) ts pvs ∧ PRels L β (allG w) pvs vs ∧ ∀ p ∈ pvs, ∀ k l, p ≠ .own k l
  | [], vs, ds, ps, h, _, _, _ => by
    obtain ⟨rfl, rfl, rfl⟩ := trodAll_nil h
    exact ⟨[], .nil, by simp only [PRels], by simp⟩
  | t :: ts, vs, ds, ps, h, hl, hok, hw => by
    obtain ⟨v, vs', d, ds', p, q, rfl, rfl, rfl, h0, h1⟩ := trodAll_cons h
    simp only [List.all_cons, Bool.and_eq_true] at hl
    obtain ⟨x, x1, x2, x3⟩ := arg_read hR h0 hl.1.1 hl.1.2 (hok 0 t v rfl rfl) (fun n hn => hw n (weights_mem n (.inl hn))) β
    obtain ⟨xs, y1, y2, y3⟩ := args_read hR β h1 hl.2 (fun j t' v' ht hv => hok (j + 1) t' v' (by simpa using ht) (by simpa using hv)) (fun n hn => hw n (weights_mem n (.inr hn)))
    refine ⟨x :: xs, .cons x1 y1, ?_, ?_⟩
    · simp only [PRels]; exact ⟨x2, y2⟩
    · intro p hp
      rcases List.mem_cons.1 hp with rfl | hp
      · exact x3
      · exact y3 p hp

theorem trodAll_stays {H : Type} {enc : TypeId × Value → H} (hl : laidOutB P = true) {W W' : World} (hb : Below W.heap.size W W') : ∀ {ts : List TypeId} {vs : List Value} {ds : List (DataW H)} {ps : List MemPlace},
    DataW.TrodAll enc P W 0 (fun _ => true) true ts vs ds ps → (ts.all fun t => P.readableRec t && decide (t < P.types.size)) = true →
    DataW.TrodAll enc P W' 0 (fun b => decide (b < W.heap.size)) true ts vs ds ps
  | [], vs, ds, ps, h, _ => by
    obtain ⟨rfl, rfl, rfl⟩ := trodAll_nil h
    exact trodAll_mk0
  | t :: ts, vs, ds, ps, h, hr => by
    obtain ⟨v, vs', d, ds', p, q, rfl, rfl, rfl, h0, h1⟩ := trodAll_cons h
    simp only [List.all_cons, Bool.and_eq_true, decide_eq_true_eq] at hr
    have lt0 : ∀ x ∈ p, x.block < W.heap.size := by obtain ⟨m, hm⟩ := h0; exact DataW.trod_lt m _ _ _ hm
    exact trodAll_cons_mk (Below.trod hl hr.1.1 hr.1.2 h0 hb lt0) (trodAll_stays hl hb h1 hr.2)

/-- The cells of a world as what is fixed: nothing may be written. -/
theorem memInv_all (w : World) (hfix : ∀ b, L.fixB b = true → ∃ o, w.heap[b]? = some o ∧ L.fixOk b o) : MemInv L ⟨fun _ => none, allG w, fun _ => none⟩ [] w where
  cell c ps h := by simp [cellAt] at h
  dom c b h := by cases h
  inj c c' b h := by cases h
  βG c b h := by cases h
  gs b o v h := h
  rt b r h := by cases h
  wok b h := ⟨fun _ h => (by cases h), rfl, hfix b h⟩

/-- What a law's statement comes to. -/
theorem law_lifted {C : Checked} (hP : C.prog = P) {f : FuncId} {fn : Func} {c : Code} {s : ChangeSpec} {conds : List PathCond} {tb : TypeId} (os : Os) (started : os.Started) (own : ownKnob P.godebug = none) (hlay : laidOutB P = true) (hfit : Fit P)
    (hR : Reads P L) (noInit : P.inits.idxOf? f = none) (hfn : P.funcs[f]? = some fn) (hbody : fn.body = some c) (hvars : s.vars = []) (H : Type) (enc : TypeId × Value → H)
    (hargs : (fn.params.toList.all fun t => (laidB P L 8 t && (flat P 8 t).isSome) && (P.readableRec t && decide (t < P.types.size))) = true)
    (hres : fn.resultTypes = #[tb]) (htb : P.underlying tb = some .bool)
    (hspec : ∀ ds : List (DataW H), ds.length = fn.params.size → s.fn H ds = { results := [.lit (.bool true)], args := ds })
    (witness : ∃ (w : World) (tape : Tape) (i : Input), w.os = os ∧ (w.forCall tape i).Shaped C.prog ∧ i.vars = [] ∧ Input.okWide C.prog (w.forCall tape i) .any w.heap.size f i ∧
      s.pre6 enc C.prog fn conds false (w.forCall tape i).memory i.args ∧ ({} : Assume).holds C.prog (lone (Frame.enter C.prog f i.args .normal) [] (w.forCall tape i)))
    (main : ∀ pvs : List (PV S), Alls (Arg P L) fn.params.toList pvs → ∃ m, CallOk P L f pvs [] (.ret (.d (.bool true)), m)) (nofix : ∀ b, L.fixB b = false := by intro _; rfl) :
    ReturnsInHanded {} C os f .any (s.pre6 enc C.prog fn conds false) (s.post enc C.prog fn false true false false) := by
  subst hP
  refine returnsInHanded_of_change_sized own started noInit hfn witness ?_
  intro W base args ds gs before hval hW hcnd hsz _
  have hW' := hW
  obtain ⟨p, q, hA, hV, rfl, hfz, hnd⟩ := hW
  rw [hvars] at hV
  obtain ⟨rfl, rfl⟩ : gs = [] ∧ q = [] := by
    cases gs with
    | nil => exact ⟨rfl, hV⟩
    | cons _ _ => cases hV
  have hsz' : ∀ x ∈ DataW.weightsEach C.prog fn.params.toList ds, x ≤ reachBytes := by
    have hv : s.plain.varTypes C.prog = [] := by simp [ChangeSpec.plain, DataSpec.varTypes, hvars]
    rw [hv, List.append_nil, List.append_nil] at hsz
    intro x hx
    simpa using List.all_eq_true.1 hsz x hx
  have hargs1 : (fn.params.toList.all fun t => laidB C.prog L 8 t && (flat C.prog 8 t).isSome) = true := by
    rw [List.all_eq_true] at hargs ⊢
    intro t ht
    have := hargs t ht
    rw [Bool.and_eq_true] at this
    exact this.1
  have hargs2 : (fn.params.toList.all fun t => C.prog.readableRec t && decide (t < C.prog.types.size)) = true := by
    rw [List.all_eq_true] at hargs ⊢
    intro t ht
    have := hargs t ht
    rw [Bool.and_eq_true] at this
    exact this.2
  obtain ⟨pvs, hpv, hrel, hnown⟩ := args_read (L := L) hR (fun _ => none) hA hargs1 (fun j t v ht hv => hval j t v (by simpa using ht) (by simpa using hv)) hsz'
  obtain ⟨m, hm⟩ := main pvs hpv
  have hcall := hm ⟨fun _ => none, allG W, fun _ => none⟩ args.toList W (memInv_all W fun b hb => by rw [nofix b] at hb; cases hb) hrel.length (fun i p hp => by
    obtain ⟨v, hv, hr⟩ := hrel.get hp
    refine ⟨v, hv, hr, ?_⟩
    have := hnown p (List.mem_of_getElem? hp)
    cases p <;> first | trivial | exact absurd rfl (this _ _))
  have hds : ds.length = fn.params.size := by
    have : ∀ {ts : List TypeId} {vs : List Value} {ds : List (DataW H)} {ps : List MemPlace}, DataW.TrodAll enc C.prog W 0 (fun _ => true) true ts vs ds ps → ds.length = ts.length := by
      intro ts
      induction ts with
      | nil => intro vs ds ps h; obtain ⟨rfl, rfl, rfl⟩ := trodAll_nil h; rfl
      | cons t ts ih => intro vs ds ps h; obtain ⟨v, vs', d, ds', p, q, rfl, rfl, rfl, h0, h1⟩ := trodAll_cons h; simp [ih h1]
    simpa using this hA
  rw [Array.toArray_toList] at hcall
  rcases hcall with ⟨_, hcall⟩ | ⟨v, w', hbad, _⟩
  · refine hcall.mono fun e W' hr => ?_
    obtain ⟨g', hF, _, v, rfl, hv, _⟩ := hr
    have hv' : v = .bool true := by
      simp only [PRel] at hv
      cases hv; rfl
    subst hv'
    have bel : Below W.heap.size W W' := ⟨hF.os, hF.tape, hF.output, hF.size, fun k hk => (hF.keep k hk (by simp) rfl).1⟩
    refine ⟨_, rfl, ds, [], p ++ [], [], p, [], hW', ?_, ?_, ?_, bel.frame _, fun h => by cases h⟩
    · rw [List.append_nil, hspec ds hds, hres]
      show DataW.TrodAll enc C.prog W' _ _ _ [tb] [.bool true] [.lit (.bool true)] []
      exact trodAll_mk1 ⟨1, by simp [DataW.trod, Value.cells, htb]⟩
    · rw [List.append_nil, hspec ds hds]
      exact trodAll_stays hlay bel hA hargs2
    · rw [List.append_nil, hspec ds hds, hvars]
      rfl
  · exfalso
    rw [run_enter hfit hfn hbody] at hbad
    simp at hbad

/-- The same, where the row tells what the program's own variables hold. -/
theorem law_liftedL {C : Checked} (hP : C.prog = P) {f : FuncId} {fn : Func} {c : Code} {s : ChangeSpec} {conds : List PathCond} {tb : TypeId} {laid : List (String × DataW Unit)} (os : Os) (started : os.Started) (own : ownKnob P.godebug = none) (hlay : laidOutB P = true) (hfit : Fit P)
    (hR : Reads P L) (noInit : P.inits.idxOf? f = none) (hfn : P.funcs[f]? = some fn) (hbody : fn.body = some c) (hvars : s.vars = []) (H : Type) (enc : TypeId × Value → H)
    (hargs : (fn.params.toList.all fun t => (laidB P L 8 t && (flat P 8 t).isSome) && (P.readableRec t && decide (t < P.types.size))) = true)
    (hres : fn.resultTypes = #[tb]) (htb : P.underlying tb = some .bool)
    (hspec : ∀ ds : List (DataW H), ds.length = fn.params.size → s.fn H ds = { results := [.lit (.bool true)], args := ds })
    (witness : ∃ (w : World) (tape : Tape) (i : Input), w.os = os ∧ (w.forCall tape i).Shaped C.prog ∧ i.vars = [] ∧ Input.okWide C.prog (w.forCall tape i) .any w.heap.size f i ∧
      ((s.pre enc C.prog fn conds false (w.forCall tape i).memory i.args ∧ laidMet C.prog laid (w.forCall tape i).memory) ∧ sizedMet enc C.prog fn (OpenSpec.ofChange s) false (w.forCall tape i).memory i.args) ∧ ({} : Assume).holds C.prog (lone (Frame.enter C.prog f i.args .normal) [] (w.forCall tape i)))
    (main : ∀ pvs : List (PV S), Alls (Arg P L) fn.params.toList pvs → ∃ m, CallOk P L f pvs [] (.ret (.d (.bool true)), m))
    (hlaid : ∀ w, laidMet P laid w → ∀ b, L.fixB b = true → ∃ o, w.heap[b]? = some o ∧ L.fixOk b o) :
    ReturnsInHanded {} C os f .any (fun w args => (s.pre enc C.prog fn conds false w args ∧ laidMet C.prog laid w) ∧ sizedMet enc C.prog fn (OpenSpec.ofChange s) false w args) (s.post enc C.prog fn false true false false) := by
  subst hP
  refine returnsInHanded_of_change_and (X := fun w _ => laidMet C.prog laid w) (fun _ _ _ hh h => h.of_heap hh) own started noInit hfn witness ?_
  intro W base args ds gs before hval hW hcnd hsz hL _
  have hW' := hW
  obtain ⟨p, q, hA, hV, rfl, hfz, hnd⟩ := hW
  rw [hvars] at hV
  obtain ⟨rfl, rfl⟩ : gs = [] ∧ q = [] := by
    cases gs with
    | nil => exact ⟨rfl, hV⟩
    | cons _ _ => cases hV
  have hsz' : ∀ x ∈ DataW.weightsEach C.prog fn.params.toList ds, x ≤ reachBytes := by
    have hv : s.plain.varTypes C.prog = [] := by simp [ChangeSpec.plain, DataSpec.varTypes, hvars]
    rw [hv, List.append_nil, List.append_nil] at hsz
    intro x hx
    simpa using List.all_eq_true.1 hsz x hx
  have hargs1 : (fn.params.toList.all fun t => laidB C.prog L 8 t && (flat C.prog 8 t).isSome) = true := by
    rw [List.all_eq_true] at hargs ⊢
    intro t ht
    have := hargs t ht
    rw [Bool.and_eq_true] at this
    exact this.1
  have hargs2 : (fn.params.toList.all fun t => C.prog.readableRec t && decide (t < C.prog.types.size)) = true := by
    rw [List.all_eq_true] at hargs ⊢
    intro t ht
    have := hargs t ht
    rw [Bool.and_eq_true] at this
    exact this.2
  obtain ⟨pvs, hpv, hrel, hnown⟩ := args_read (L := L) hR (fun _ => none) hA hargs1 (fun j t v ht hv => hval j t v (by simpa using ht) (by simpa using hv)) hsz'
  obtain ⟨m, hm⟩ := main pvs hpv
  have hcall := hm ⟨fun _ => none, allG W, fun _ => none⟩ args.toList W (memInv_all W (hlaid W hL)) hrel.length (fun i p hp => by
    obtain ⟨v, hv, hr⟩ := hrel.get hp
    refine ⟨v, hv, hr, ?_⟩
    have := hnown p (List.mem_of_getElem? hp)
    cases p <;> first | trivial | exact absurd rfl (this _ _))
  have hds : ds.length = fn.params.size := by
    have : ∀ {ts : List TypeId} {vs : List Value} {ds : List (DataW H)} {ps : List MemPlace}, DataW.TrodAll enc C.prog W 0 (fun _ => true) true ts vs ds ps → ds.length = ts.length := by
      intro ts
      induction ts with
      | nil => intro vs ds ps h; obtain ⟨rfl, rfl, rfl⟩ := trodAll_nil h; rfl
      | cons t ts ih => intro vs ds ps h; obtain ⟨v, vs', d, ds', p, q, rfl, rfl, rfl, h0, h1⟩ := trodAll_cons h; simp [ih h1]
    simpa using this hA
  rw [Array.toArray_toList] at hcall
  rcases hcall with ⟨_, hcall⟩ | ⟨v, w', hbad, _⟩
  · refine hcall.mono fun e W' hr => ?_
    obtain ⟨g', hF, _, v, rfl, hv, _⟩ := hr
    have hv' : v = .bool true := by
      simp only [PRel] at hv
      cases hv; rfl
    subst hv'
    have bel : Below W.heap.size W W' := ⟨hF.os, hF.tape, hF.output, hF.size, fun k hk => (hF.keep k hk (by simp) rfl).1⟩
    refine ⟨_, rfl, ds, [], p ++ [], [], p, [], hW', ?_, ?_, ?_, bel.frame _, fun h => by cases h⟩
    · rw [List.append_nil, hspec ds hds, hres]
      show DataW.TrodAll enc C.prog W' _ _ _ [tb] [.bool true] [.lit (.bool true)] []
      exact trodAll_mk1 ⟨1, by simp [DataW.trod, Value.cells, htb]⟩
    · rw [List.append_nil, hspec ds hds]
      exact trodAll_stays hlay bel hA hargs2
    · rw [List.append_nil, hspec ds hds, hvars]
      rfl
  · exfalso
    rw [run_enter hfit hfn hbody] at hbad
    simp at hbad

/-- A law that the tables evaluate. -/
theorem of_levels {H : Hints} {D : DeferT S} {PK : Parks} {T : Nat → CallT S} {LT : Nat → LoopT S} (h : Levels P L H D PK T LT) (hP : Fit P) (hD : DOk P L D) {f : FuncId} {args : List (PV S)} {r : Res S × Mem S} {k : Nat} (hr : T k (Res S × Mem S) f args [] some = some r) : CallOk P L f args [] r :=
  (h.sound hP hD k).2.2.1 f args [] r hr

end
end Go.Proofs.YtanfoijdfcnpoaaGreatDoor.Ev
