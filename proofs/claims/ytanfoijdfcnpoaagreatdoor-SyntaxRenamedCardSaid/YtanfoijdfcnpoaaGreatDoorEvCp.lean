/- This file proves that the evaluator's copying of a map of one entry at most does what the model's range over a map does; without any condition. -/
import Derived.Test.YtanfoijdfcnpoaaGreatDoorEvH
import Derived.Maps.RangeRun
set_option linter.unusedVariables false
set_option linter.unusedSimpArgs false
namespace Go.Proofs.YtanfoijdfcnpoaaGreatDoor.Ev
open Go.MapKept
open Go.ChangeMaps (setBlock)

/-! ### The shape of the code -/

theorem opMove_spec {o : Oper} {d x : Nat} (h : opMove o = some (d, x)) : o.op = .move (.tmp x) ∧ o.dst = some d ∧ o.guard = none := by
  unfold opMove at h; split at h
  · rename_i h1 h2 h3; cases h; exact ⟨h1, h2, h3⟩
  · cases h
theorem opAssign_spec {o : Oper} {d x : Nat} (h : opAssign o = some (d, x)) : o.op = .assign (.tmp x) ∧ o.dst = some d ∧ o.guard = none := by
  unfold opAssign at h; split at h
  · rename_i h1 h2 h3; cases h; exact ⟨h1, h2, h3⟩
  · cases h
theorem opRange_spec {o : Oper} {d x : Nat} {t : TypeId} (h : opRange o = some (d, t, x)) : o.op = .range t (.tmp x) ∧ o.dst = some d ∧ o.guard = none := by
  unfold opRange at h; split at h
  · rename_i h1 h2 h3; cases h; exact ⟨h1, h2, h3⟩
  · cases h
theorem opNext_spec {o : Oper} {d x : Nat} (h : opNext o = some (d, x)) : o.op = .next (.tmp x) false ∧ o.dst = some d ∧ o.guard = none := by
  unfold opNext at h; split at h
  · rename_i h1 h2 h3; cases h; exact ⟨h1, h2, h3⟩
  · cases h
theorem opEntry_spec {o : Oper} {d x : Nat} (h : opEntry o = some (d, x)) : o.op = .entry (.tmp x) ∧ o.dst = some d ∧ o.guard = none := by
  unfold opEntry at h; split at h
  · rename_i h1 h2 h3; cases h; exact ⟨h1, h2, h3⟩
  · cases h
theorem opExtract_spec {o : Oper} {d x i : Nat} (h : opExtract o = some (d, x, i)) : o.op = .extract (.tmp x) i ∧ o.dst = some d ∧ o.guard = none := by
  unfold opExtract at h; split at h
  · rename_i h1 h2 h3; cases h; exact ⟨h1, h2, h3⟩
  · cases h
theorem opUpdate_spec {o : Oper} {t : TypeId} {m k v : Nat} (h : opUpdate o = some (t, m, k, v)) : o.op = .mapUpdate t (.tmp m) (.tmp k) (.tmp v) ∧ o.dst = none ∧ o.guard = none := by
  unfold opUpdate at h; split at h
  · rename_i h1 h2 h3; cases h; exact ⟨h1, h2, h3⟩
  · cases h

theorem nodupN_spec : ∀ {l : List Nat}, nodupN l = true → l.Nodup
  | [], _ => List.nodup_nil
  | x :: r, h => by
    simp only [nodupN, Bool.and_eq_true, List.all_eq_true] at h
    refine List.nodup_cons.2 ⟨fun hx => ?_, nodupN_spec h.2⟩
    have := h.1 x hx
    simp at this

/-- What the operations are. -/
structure CopyShape (i : CopyI) (oA oB oC oD : Array Oper) (tc : Nat) : Type where
  (dA it nx ok en k0 v0 k1 v1 m2 k2 v2 : Nat)
  (a1 a2 b1 b2 c1 c2 c3 c4 c5 d1 d2 d3 d4 : Oper)
  eA : oA = #[a1, a2]
  eB : oB = #[b1, b2]
  eC : oC = #[c1, c2, c3, c4, c5]
  eD : oD = #[d1, d2, d3, d4]
  etc : tc = ok
  hj : i.junk = [dA, it, nx, ok, en, k0, v0, k1, v1, m2, k2, v2]
  nd : [i.dst, i.src, dA, it, nx, ok, en, k0, v0, k1, v1, m2, k2, v2].Nodup
  ha1 : a1.op = .move (.tmp i.src) ∧ a1.dst = some dA ∧ a1.guard = none
  ha2 : a2.op = .range i.ty (.tmp dA) ∧ a2.dst = some it ∧ a2.guard = none
  hb1 : b1.op = .next (.tmp it) false ∧ b1.dst = some nx ∧ b1.guard = none
  hb2 : b2.op = .extract (.tmp nx) 0 ∧ b2.dst = some ok ∧ b2.guard = none
  hc1 : c1.op = .entry (.tmp it) ∧ c1.dst = some en ∧ c1.guard = none
  hc2 : c2.op = .extract (.tmp en) 0 ∧ c2.dst = some k0 ∧ c2.guard = none
  hc3 : c3.op = .extract (.tmp en) 1 ∧ c3.dst = some v0 ∧ c3.guard = none
  hc4 : c4.op = .assign (.tmp k0) ∧ c4.dst = some k1 ∧ c4.guard = none
  hc5 : c5.op = .assign (.tmp v0) ∧ c5.dst = some v1 ∧ c5.guard = none
  hd1 : d1.op = .move (.tmp i.dst) ∧ d1.dst = some m2 ∧ d1.guard = none
  hd2 : d2.op = .move (.tmp k1) ∧ d2.dst = some k2 ∧ d2.guard = none
  hd3 : d3.op = .move (.tmp v1) ∧ d3.dst = some v2 ∧ d3.guard = none
  hd4 : d4.op = .mapUpdate i.ty (.tmp m2) (.tmp k2) (.tmp v2) ∧ d4.dst = none ∧ d4.guard = none

theorem arr_eq {o : Array Oper} {l : List Oper} (h : o.toList = l) : o = l.toArray := by rw [← h]

theorem copyOps_spec {oA oB oC oD : Array Oper} {tc : Nat} {i : CopyI} (h : copyOps oA.toList oB.toList oC.toList oD.toList tc = some i) : Nonempty (CopyShape i oA oB oC oD tc) := by
  unfold copyOps at h
  split at h
  · rename_i eA eB eC eD
    split at h
    · rename_i ha1 ha2 hb1 hb2
      split at h
      · rename_i hc1 hc2 hc3 hc4 hc5
        split at h
        · rename_i hd1 hd2 hd3 hd4
          split at h
          · rename_i hh
            obtain ⟨rfl, rfl, rfl, rfl, rfl, rfl, rfl, rfl, rfl, rfl, rfl, rfl, rfl, rfl, rfl, rfl, rfl, rfl, hn⟩ := hh
            cases h
            exact ⟨CopyShape.mk _ _ _ _ _ _ _ _ _ _ _ _ _ _ _ _ _ _ _ _ _ _ _ _ _ 
              (arr_eq eA) (arr_eq eB) (arr_eq eC) (arr_eq eD) rfl rfl (nodupN_spec hn) (opMove_spec ha1) (opRange_spec ha2) (opNext_spec hb1) (opExtract_spec hb2) (opEntry_spec hc1) (opExtract_spec hc2) (opExtract_spec hc3) (opAssign_spec hc4) (opAssign_spec hc5)
              (opMove_spec hd1) (opMove_spec hd2) (opMove_spec hd3) (opUpdate_spec hd4)⟩
          · cases h
        · cases h
      · cases h
    · cases h
  · cases h

section
variable {S : Sig} {P : Program} {L : Lay S} {g : Gh} {st : St S} {a : Act} {w w' : World}

/-! ### One operation after the other -/

theorem wp_region_at {id : Nat} {ops ops' : Array Oper} {Q : Exit → Act → World → Prop} (e : ops = ops') (h : wpOps P ops' Q (List.range ops'.size) a w) : (Code.region id ops false).wp P Q a w := by
  subst e; exact wp_region h

theorem op_val {ops : Array Oper} {Q : Exit → Act → World → Prop} {K : Act → World → Prop} {n : Nat} {o : Oper} (ho : ops[n]? = some o) (hg : o.guard = none) {v : Value} (hr : (execOp a.eval o).run P w = .ok (.value v) w') (hK : K (a.put o.dst v) w') : wpOp P ops Q n K a w := by
  unfold wpOp
  simp only [ho, Region.wanted, hg, if_true]
  refine .inl ?_
  unfold Oper.wp
  rw [hr, Oper.upon_value]; exact hK

theorem op_skp {ops : Array Oper} {Q : Exit → Act → World → Prop} {K : Act → World → Prop} {n : Nat} {o : Oper} (ho : ops[n]? = some o) (hg : o.guard = none) (hd : o.dst = none) (hr : (execOp a.eval o).run P w = .ok .skip w') (hK : K a w') : wpOp P ops Q n K a w := by
  unfold wpOp
  simp only [ho, Region.wanted, hg, if_true]
  refine .inl ?_
  unfold Oper.wp
  rw [hr, Oper.upon_skip, hd]; exact hK

theorem run_mv {o : Oper} {x d : Nat} (h : o.op = .move (.tmp x) ∧ o.dst = some d ∧ o.guard = none) : (execOp a.eval o).run P w = .ok (.value (a.tmps.getD x undef)) w := by
  simp [execOp, h.1, Act.eval]
theorem run_as {o : Oper} {x d : Nat} (h : o.op = .assign (.tmp x) ∧ o.dst = some d ∧ o.guard = none) : (execOp a.eval o).run P w = .ok (.value (a.tmps.getD x undef)) w := by
  simp [execOp, h.1, Act.eval]
theorem run_ex {o : Oper} {x d n : Nat} (h : o.op = .extract (.tmp x) n ∧ o.dst = some d ∧ o.guard = none) {vs : Array Value} (hx : a.tmps.getD x undef = .tuple vs) {v : Value} (hv : vs[n]? = some v) : (execOp a.eval o).run P w = .ok (.value v) w := by
  have hx' : a.eval (.tmp x) = .tuple vs := hx
  simp [execOp, h.1, hx', Instr.extract, hv]

/-- As it was, but for some slots. -/
structure Off (js : List Nat) (a a' : Act) : Prop where
  size : a'.tmps.size = a.tmps.size
  dfs : a'.defers = a.defers
  look : ∀ t, t ∉ js → a'.tmps.getD t undef = a.tmps.getD t undef

theorem Off.refl (js : List Nat) (a : Act) : Off js a a := ⟨rfl, rfl, fun _ _ => rfl⟩
theorem Off.trans {js : List Nat} {a b c : Act} (h : Off js a b) (k : Off js b c) : Off js a c :=
  ⟨k.size.trans h.size, k.dfs.trans h.dfs, fun t ht => (k.look t ht).trans (h.look t ht)⟩
theorem Off.put {js : List Nat} {a b : Act} (h : Off js a b) {d : Nat} (hd : d ∈ js) (v : Value) : Off js a (b.put (some d) v) where
  size := (size_put _ _ _).trans h.size
  dfs := (defers_put _ _ _).trans h.dfs
  look t ht := by
    have hne : t ≠ d := fun e => ht (e ▸ hd)
    rw [← h.look t ht]
    simp only [Act.put, Array.getD_eq_getD_getElem?]
    rw [Array.getElem?_setIfInBounds_ne (Ne.symm hne)]

def LoopWp (P : Program) (c : Code) (Q : Exit → Act → World → Prop) (a : Act) (w : World) : Prop :=
  ∀ (b : Frame) (k : List Item) (cs : List Frame), ∃ e a' w', Q e a' w' ∧ Arrives P (lone (b.at a (.code c :: .inLoop c :: k)) cs w) b k cs e a' w'

theorem LoopWp.mono {c : Code} {Q Q' : Exit → Act → World → Prop} (h : LoopWp P c Q a w) (hq : ∀ e a w, Q e a w → Q' e a w) : LoopWp P c Q' a w :=
  fun b k cs => let ⟨e, a', w', q, r⟩ := h b k cs; ⟨e, a', w', hq _ _ _ q, r⟩

theorem LoopWp.loop {c : Code} {Q : Exit → Act → World → Prop} (h : LoopWp P c Q a w) : (Code.loop c).wp P Q a w :=
  fun b k cs => let ⟨e, a', w', q, r⟩ := h b k cs; ⟨e, a', w', q, .of_steps (.one step_loop) r⟩

theorem LoopWp.round {c : Code} {Q : Exit → Act → World → Prop} (h : c.wp P (Exit.then (LoopWp P c Q) Q) a w) : LoopWp P c Q a w := by
  intro b k cs
  obtain ⟨e, a₁, w₁, hq, harr⟩ := h b (.inLoop c :: k) cs
  cases e with
  | normal =>
    obtain ⟨e₂, a₂, w₂, hq₂, harr₂⟩ := hq b k cs
    exact ⟨e₂, a₂, w₂, hq₂, .of_steps (Steps.trans harr (.one step_inLoop)) harr₂⟩
  | exit id => exact ⟨_, a₁, w₁, hq, .pass (x := .inLoop c) rfl (fun _ _ => .inl (by simp)) harr⟩
  | goto l => exact ⟨_, a₁, w₁, hq, .pass (x := .inLoop c) rfl (fun _ _ => .inl (by simp)) harr⟩
  | ret => exact ⟨_, a₁, w₁, hq, .pass (x := .inLoop c) rfl (fun _ _ => .inl (by simp)) harr⟩
  | panic ch => exact ⟨_, a₁, w₁, hq, .pass (x := .inLoop c) rfl (fun _ _ => .inl (by simp)) harr⟩
  | outgrown => exact ⟨_, a₁, w₁, hq, .pass (x := .inLoop c) rfl (fun _ _ => .inl (by simp)) harr⟩

/-- The loop's body. -/
def copyBody (rB rC rD bA bB : Nat) (oB oC oD : Array Oper) (tc : Nat) : Code := .seq (.region rB oB false) (.seq (.cond (.tmp tc) .skip (.exit bA)) (.block bB (.seq (.region rC oC false) (.region rD oD false))))

section
variable {i : CopyI} {oA oB oC oD : Array Oper} {tc rB rC rD bA bB : Nat} (sh : CopyShape i oA oB oC oD tc)
include sh

theorem CopyShape.done (hsz : ∀ t ∈ i.junk, t < a.tmps.size) {Q : Exit → Act → World → Prop} {r : Value} (hit : a.tmps.getD sh.it undef = r)
    (hn : ∀ ty, (Instr.next r false ty).run P w = .ok (.tuple #[.bool false]) w) (hQ : ∀ a', Off i.junk a a' → Q (.exit bA) a' w) : LoopWp P (copyBody rB rC rD bA bB oB oC oD tc) Q a w := by
  refine LoopWp.round ?_
  unfold copyBody
  have hj := sh.hj
  have nxJ : sh.nx ∈ i.junk := by rw [hj]; simp
  have okJ : sh.ok ∈ i.junk := by rw [hj]; simp
  refine wp_seq (wp_region_at sh.eB ?_)
  show wpOps P #[sh.b1, sh.b2] _ [0, 1] a w
  rw [wpOps_cons]
  refine op_val (o := sh.b1) rfl sh.hb1.2.2 (v := .tuple #[.bool false]) (w' := w) ?_ ?_
  · have hit' : a.eval (.tmp sh.it) = r := hit
    simp [execOp, sh.hb1.1, hit', hn]
  rw [sh.hb1.2.1, wpOps_cons]
  refine op_val (o := sh.b2) rfl sh.hb2.2.2 (v := .bool false) (w' := w) ?_ ?_
  · exact run_ex sh.hb2 (vs := #[.bool false]) (by rw [getD_put (hsz _ nxJ)]; simp) rfl
  rw [sh.hb2.2.1]
  show Exit.then _ _ .normal _ _
  simp only [Exit.then]
  refine wp_seq ?_
  refine wp_cond (t := false) ?_ ?_
  · refine (congrArg (fun t => Act.eval _ (.tmp t)) sh.etc).trans ?_
    show ((a.put (some sh.nx) _).put (some sh.ok) (.bool false)).tmps.getD sh.ok undef = _
    rw [getD_put (by rw [size_put]; exact hsz _ okJ)]; simp
  · refine wp_exit ?_
    exact hQ _ (((Off.refl _ _).put nxJ _).put okJ _)

theorem CopyShape.more (hsz : ∀ t ∈ i.junk, t < a.tmps.size) {Q : Exit → Act → World → Prop} {r md k v : Value} {w1 w2 : World} (hit : a.tmps.getD sh.it undef = r) (hdst : a.tmps.getD i.dst undef = md)
    (hn : (Instr.next r false sh.b1.type).run P w = .ok (.tuple #[.bool true, k, v]) w1) (he : (Instr.entry r).run P w1 = .ok (.tuple #[k, v]) w1) (hu : (Instr.mapUpdate i.ty md k v).run P w1 = .ok () w2)
    (hQ : ∀ a', Off i.junk a a' → a'.tmps.getD sh.it undef = r → LoopWp P (copyBody rB rC rD bA bB oB oC oD tc) Q a' w2) : LoopWp P (copyBody rB rC rD bA bB oB oC oD tc) Q a w := by
  refine LoopWp.round ?_
  unfold copyBody
  have hj := sh.hj
  have nd := sh.nd
  simp only [List.nodup_cons, List.mem_cons, List.not_mem_nil, not_or, or_false, not_false_eq_true, List.nodup_nil, and_true] at nd
  have jn : ∀ t, t ∈ [sh.dA, sh.it, sh.nx, sh.ok, sh.en, sh.k0, sh.v0, sh.k1, sh.v1, sh.m2, sh.k2, sh.v2] → t ∈ i.junk := fun t ht => by rw [hj]; exact ht
  have nxJ : sh.nx ∈ i.junk := jn _ (by simp)
  have okJ : sh.ok ∈ i.junk := jn _ (by simp)
  have enJ : sh.en ∈ i.junk := jn _ (by simp)
  have k0J : sh.k0 ∈ i.junk := jn _ (by simp)
  have v0J : sh.v0 ∈ i.junk := jn _ (by simp)
  have k1J : sh.k1 ∈ i.junk := jn _ (by simp)
  have v1J : sh.v1 ∈ i.junk := jn _ (by simp)
  have m2J : sh.m2 ∈ i.junk := jn _ (by simp)
  have k2J : sh.k2 ∈ i.junk := jn _ (by simp)
  have v2J : sh.v2 ∈ i.junk := jn _ (by simp)
  refine wp_seq (wp_region_at sh.eB ?_)
  show wpOps P #[sh.b1, sh.b2] _ [0, 1] a w
  rw [wpOps_cons]
  refine op_val (o := sh.b1) rfl sh.hb1.2.2 (v := .tuple #[.bool true, k, v]) (w' := w1) ?_ ?_
  · have hit' : a.eval (.tmp sh.it) = r := hit
    simp [execOp, sh.hb1.1, hit', hn]
  rw [sh.hb1.2.1, wpOps_cons]
  refine op_val (o := sh.b2) rfl sh.hb2.2.2 (v := .bool true) (w' := w1) ?_ ?_
  · exact run_ex sh.hb2 (vs := #[.bool true, k, v]) (by rw [getD_put (hsz _ nxJ)]; simp) rfl
  rw [sh.hb2.2.1]
  show Exit.then _ _ .normal _ _
  simp only [Exit.then]
  generalize hA1 : (a.put (some sh.nx) (.tuple #[.bool true, k, v])).put (some sh.ok) (.bool true) = a1
  have O1 : Off i.junk a a1 := by rw [← hA1]; exact ((Off.refl _ _).put nxJ _).put okJ _
  have s1 : ∀ t ∈ i.junk, t < a1.tmps.size := fun t ht => by rw [O1.size]; exact hsz t ht
  have hok : a1.tmps.getD sh.ok undef = .bool true := by rw [← hA1, getD_put (by rw [size_put]; exact hsz _ okJ)]; simp
  have hit1 : a1.tmps.getD sh.it undef = r := by
    rw [← hA1, getD_put (by rw [size_put]; exact hsz _ okJ), getD_put (hsz _ nxJ)]
    simp [nd, hit]
  have hdst1 : a1.tmps.getD i.dst undef = md := by rw [O1.look _ (by rw [hj]; simp [nd]), hdst]
  clear hA1
  refine wp_seq (wp_cond (t := true) ?_ (wp_skip ?_))
  · exact (congrArg (fun t => Act.eval a1 (.tmp t)) sh.etc).trans hok
  show Exit.then _ _ .normal _ _
  simp only [Exit.then]
  refine wp_block (wp_seq (wp_region_at sh.eC ?_))
  show wpOps P #[sh.c1, sh.c2, sh.c3, sh.c4, sh.c5] _ [0, 1, 2, 3, 4] a1 w1
  rw [wpOps_cons]
  refine op_val (o := sh.c1) rfl sh.hc1.2.2 (v := .tuple #[k, v]) (w' := w1) ?_ ?_
  · have hit' : a1.eval (.tmp sh.it) = r := hit1
    simp [execOp, sh.hc1.1, hit', he]
  rw [sh.hc1.2.1, wpOps_cons]
  refine op_val (o := sh.c2) rfl sh.hc2.2.2 (v := k) (w' := w1) ?_ ?_
  · exact run_ex sh.hc2 (vs := #[k, v]) (by rw [getD_put (s1 _ enJ)]; simp) rfl
  rw [sh.hc2.2.1, wpOps_cons]
  refine op_val (o := sh.c3) rfl sh.hc3.2.2 (v := v) (w' := w1) ?_ ?_
  · exact run_ex sh.hc3 (vs := #[k, v]) (by rw [getD_put (by rw [size_put]; exact s1 _ k0J), getD_put (s1 _ enJ)]; simp [nd]) rfl
  rw [sh.hc3.2.1]
  generalize hA2 : ((a1.put (some sh.en) (.tuple #[k, v])).put (some sh.k0) k).put (some sh.v0) v = a2
  have O2 : Off i.junk a1 a2 := by rw [← hA2]; exact (((Off.refl _ _).put enJ _).put k0J _).put v0J _
  have s2 : ∀ t ∈ i.junk, t < a2.tmps.size := fun t ht => by rw [O2.size]; exact s1 t ht
  have l2 : ∀ t, a2.tmps.getD t undef = if t = sh.v0 then v else if t = sh.k0 then k else if t = sh.en then .tuple #[k, v] else a1.tmps.getD t undef := fun t => by
    rw [← hA2, getD_put (by rw [size_put, size_put]; exact s1 _ v0J), getD_put (by rw [size_put]; exact s1 _ k0J), getD_put (s1 _ enJ)]
  clear hA2
  rw [wpOps_cons]
  refine op_val (o := sh.c4) rfl sh.hc4.2.2 (run_as sh.hc4) ?_
  rw [sh.hc4.2.1, wpOps_cons]
  refine op_val (o := sh.c5) rfl sh.hc5.2.2 (run_as sh.hc5) ?_
  rw [sh.hc5.2.1]
  show Exit.then _ _ .normal _ _
  simp only [Exit.then]
  generalize hA3 : (a2.put (some sh.k1) _).put (some sh.v1) _ = a3
  have O3 : Off i.junk a2 a3 := by rw [← hA3]; exact ((Off.refl _ _).put k1J _).put v1J _
  have s3 : ∀ t ∈ i.junk, t < a3.tmps.size := fun t ht => by rw [O3.size]; exact s2 t ht
  have l3 : ∀ t, a3.tmps.getD t undef = if t = sh.v1 then v else if t = sh.k1 then k else a2.tmps.getD t undef := fun t => by
    rw [← hA3, getD_put (by rw [size_put]; exact s2 _ v1J), getD_put (s2 _ k1J), getD_put (s2 _ k1J), l2 sh.v0, l2 sh.k0]
    simp [nd]
  clear hA3
  refine wp_region_at sh.eD ?_
  show wpOps P #[sh.d1, sh.d2, sh.d3, sh.d4] _ [0, 1, 2, 3] a3 w1
  rw [wpOps_cons]
  refine op_val (o := sh.d1) rfl sh.hd1.2.2 (run_mv sh.hd1) ?_
  rw [sh.hd1.2.1, wpOps_cons]
  refine op_val (o := sh.d2) rfl sh.hd2.2.2 (run_mv sh.hd2) ?_
  rw [sh.hd2.2.1, wpOps_cons]
  refine op_val (o := sh.d3) rfl sh.hd3.2.2 (run_mv sh.hd3) ?_
  rw [sh.hd3.2.1]
  have hdst3 : a3.tmps.getD i.dst undef = md := by
    rw [O3.look _ (by rw [hj]; simp [nd]), O2.look _ (by rw [hj]; simp [nd]), hdst1]
  generalize hA4 : ((a3.put (some sh.m2) _).put (some sh.k2) _).put (some sh.v2) _ = a4
  have O4 : Off i.junk a3 a4 := by rw [← hA4]; exact (((Off.refl _ _).put m2J _).put k2J _).put v2J _
  have l4 : ∀ t, a4.tmps.getD t undef = if t = sh.v2 then v else if t = sh.k2 then k else if t = sh.m2 then md else a3.tmps.getD t undef := fun t => by
    rw [← hA4]
    simp only [getD_put, size_put, s3 _ m2J, s3 _ k2J, s3 _ v2J, hdst3]
    simp [nd, l3]
  clear hA4
  rw [wpOps_cons]
  refine op_skp (o := sh.d4) rfl sh.hd4.2.2 sh.hd4.2.1 (w' := w2) ?_ ?_
  · have h1 : a4.eval (.tmp sh.m2) = md := (l4 sh.m2).trans (by simp [nd])
    have h2 : a4.eval (.tmp sh.k2) = k := (l4 sh.k2).trans (by simp [nd])
    have h3 : a4.eval (.tmp sh.v2) = v := (l4 sh.v2).trans (by simp)
    simp [execOp, sh.hd4.1, h1, h2, h3, hu]
  show Exit.inBlock _ _ .normal _ _
  simp only [Exit.inBlock, Exit.then]
  refine hQ a4 (((O1.trans O2).trans O3).trans O4) ?_
  rw [l4, l3, l2, hit1]
  simp [nd]

end

/-! ### The whole statement -/

theorem set_same {m : Mem S} {c : Nat} {v : List (PV S)} (h : cellAt m c = some v) : m.set c (some v) = m := by
  unfold cellAt at h
  split at h
  · rename_i v' hv
    cases h
    apply List.ext_getElem?
    intro j
    rw [List.getElem?_set]
    split
    · rename_i e; subst e
      rw [hv]; simp [(List.getElem?_eq_some_iff.1 hv).1]
    · rfl
  · cases h

/-- What is left of a frame, when some slots are forgotten. -/
theorem Inv.offs (h : Inv L g st a w) {js : List Nat} {a' : Act} (ho : Off js a a') {m' : Mem S} (hm : MemInv L g m' w') : Inv L g { st with slots := fun t => bif js.any (Nat.beq t) then .any else st.slots t, mem := m' } a' w' where
  size := ho.size.trans h.size
  slot t := by
    show SRel L g (.slot t) (bif js.any (Nat.beq t) then .any else st.slots t) _
    cases hj : js.any (Nat.beq t) with
    | true => exact ⟨by simp only [cond_true, PRel], trivial⟩
    | false =>
      simp only [cond_false]
      rw [ho.look t (fun ht => by
        have : js.any (Nat.beq t) = true := List.any_eq_true.2 ⟨t, ht, by simp⟩
        rw [hj] at this; cases this)]
      exact h.slot t
  mem := hm
  dfs := by rw [ho.dfs]; exact h.dfs

theorem Fr.heap {w2 : World} (h1 : w2.os = w.os) (h2 : w2.tape = w.tape) (h3 : w2.output = w.output) (h4 : w.heap.size ≤ w2.heap.size) (h5 : ∀ b, b < w.heap.size → (∀ c, g.β c ≠ some b) → w2.heap[b]? = w.heap[b]?) : Fr g w g w2 :=
  ⟨h1, h2, h3, h4, fun b hb hβ hω => ⟨h5 b hb hβ, fun _ => rfl, hω⟩, fun _ _ _ h => h, fun _ _ h => h, fun _ _ h => .inl h⟩

theorem heap_set_ne {w : World} {b r : Nat} {o : Obj} (h : r ≠ b) : (setBlock w b o).heap[r]? = w.heap[r]? := by
  show (w.heap.setIfInBounds b o)[r]? = _
  rw [Array.getElem?_setIfInBounds_ne (Ne.symm h)]
theorem heap_set_eq {w : World} {b : Nat} {o : Obj} (h : b < w.heap.size) : (setBlock w b o).heap[b]? = some o := by
  show (w.heap.setIfInBounds b o)[b]? = _
  simp [h]

theorem copy_sound {np : Nat} (h : Inv L g st a w) {x y : Code} {i : CopyI} (hc : copyOf x y = some i) {e : Ex S} {st' : St S} (hk : copyK P L i st (fun e s => some (e, s)) = some (e, st')) : (Code.seq x y).wp P (ExOk L np g w e st') a w := by
  unfold copyOf at hc
  split at hc
  rotate_left
  · cases hc
  rename_i rA oA bA rB oB tc bE bB rC oC rD oD
  split at hc
  rotate_left
  · cases hc
  rename_i hbE
  subst hbE
  obtain ⟨sh⟩ := copyOps_spec hc
  unfold copyK at hk
  split at hk
  rotate_left
  · cases hk
  rename_i kt et d hz hdst hfit
  obtain ⟨hmt, hkt, _⟩ := emptyM_spec hz
  have hsz : ∀ t ∈ i.junk, t < a.tmps.size := fun t ht => by
    have := List.all_eq_true.1 hfit t ht
    rw [h.size]
    simpa using this
  have nd := sh.nd
  have dAJ : sh.dA ∈ i.junk := by rw [sh.hj]; simp
  have itJ : sh.it ∈ i.junk := by rw [sh.hj]; simp
  simp only [List.nodup_cons, List.mem_cons, List.not_mem_nil, not_or, or_false, not_false_eq_true, List.nodup_nil, and_true] at nd
  have hdstv := (h.slot i.dst).1
  rw [hdst] at hdstv
  simp only [PRel] at hdstv
  obtain ⟨bd, hbd, hdv⟩ := hdstv
  -- up to the loop
  have front : ∀ {src : Value} {w1 : World} {Q : Exit → Act → World → Prop}, a.tmps.getD i.src undef = src → (Instr.range i.ty src).run P w = .ok (.pointer (some ⟨w.heap.size, 0, none⟩)) w1 →
      (∀ a1, Off i.junk a a1 → a1.tmps.getD sh.it undef = .pointer (some ⟨w.heap.size, 0, none⟩) → LoopWp P (copyBody rB rC rD bE bB oB oC oD tc) (Exit.inBlock bE Q) a1 w1) →
      (Code.seq (.region rA oA false) (.block bE (.loop (.seq (.region rB oB false) (.seq (.cond (.tmp tc) .skip (.exit bE)) (.block bB (.seq (.region rC oC false) (.region rD oD false)))))))).wp P Q a w := by
    intro src w1 Q hsrc hrun hloop
    refine wp_seq (wp_region_at sh.eA ?_)
    show wpOps P #[sh.a1, sh.a2] _ [0, 1] a w
    rw [wpOps_cons]
    refine op_val (o := sh.a1) rfl sh.ha1.2.2 (run_mv sh.ha1) ?_
    rw [sh.ha1.2.1, wpOps_cons, hsrc]
    refine op_val (o := sh.a2) rfl sh.ha2.2.2 (v := .pointer (some ⟨w.heap.size, 0, none⟩)) (w' := w1) ?_ ?_
    · have h1 : (a.put (some sh.dA) src).eval (.tmp sh.dA) = src := by
        show (a.put (some sh.dA) src).tmps.getD sh.dA undef = _
        rw [getD_put (hsz _ dAJ)]; simp
      simp [execOp, sh.ha2.1, h1, hrun]
    rw [sh.ha2.2.1]
    show Exit.then _ _ .normal _ _
    simp only [Exit.then]
    refine wp_block (LoopWp.loop (hloop _ (((Off.refl _ _).put dAJ _).put itJ _) ?_))
    rw [getD_put (by rw [size_put]; exact hsz _ itJ)]; simp
  -- nothing is there
  have none_ : ∀ {l2 : List (ByteArray × ByteArray)} {src : Value} {w1 : World}, cellAt st.mem d = some [.mpo (.s l2)] → a.tmps.getD i.src undef = src → (∃ it, w1 = w.alloc it ∧ (Instr.range i.ty src).run P w = .ok (.pointer (some ⟨w.heap.size, 0, none⟩)) w1) →
      (∀ ty, (Instr.next (.pointer (some ⟨w.heap.size, 0, none⟩)) false ty).run P w1 = .ok (.tuple #[.bool false]) w1) →
      (Code.seq (.region rA oA false) (.block bE (.loop (.seq (.region rB oB false) (.seq (.cond (.tmp tc) .skip (.exit bE)) (.block bB (.seq (.region rC oC false) (.region rD oD false)))))))).wp P (ExOk L np g w .normal (st.copied i d l2)) a w := by
    rintro l2 src w1 hcd hsrc ⟨it, rfl, hrun⟩ hn
    refine front hsrc hrun fun a1 O1 hit => ?_
    refine sh.done (fun t ht => by rw [O1.size]; exact hsz t ht) hit hn fun a2 O2 => ?_
    show Exit.inBlock bE _ (.exit bE) a2 _
    simp only [Exit.inBlock, if_true]
    have hheap : ∀ b, b < w.heap.size → (w.alloc it).heap[b]? = w.heap[b]? := fun b hb => heap_alloc_old w it hb
    refine ⟨g, (Fr.heap (w := w) (w2 := w.alloc it) rfl rfl rfl (by rw [World.size_alloc]; omega) fun b hb _ => hheap b hb).toN, rfl, ?_⟩
    refine h.offs (O1.trans O2) ?_
    rw [set_same hcd]
    exact h.mem.of_heap hheap
  split at hk
  · -- the nil map
    rename_i l2 hcd hsrc
    simp only [Option.some.injEq, Prod.mk.injEq] at hk
    obtain ⟨rfl, rfl⟩ := hk
    have hs := (h.slot i.src).1
    rw [hsrc] at hs
    simp only [PRel] at hs
    exact none_ hcd hs ⟨_, rfl, run_range_nilMap w i.ty kt et hmt⟩ fun ty => run_next_nilMap w ty _ _ _
  · rename_i l2 c hcd hsrc
    split at hk
    rotate_left
    · cases hk
    rename_i l hcc hcd'
    have hne : c ≠ d := fun e => by subst e; simp at hcd'
    have hs := (h.slot i.src).1
    rw [hsrc] at hs
    simp only [PRel] at hs
    obtain ⟨b, hb, hs⟩ := hs
    obtain ⟨b', vs, ty, q1, q2, _, _⟩ := h.mem.cell c _ hcc
    rw [hb] at q1; cases q1
    cases ty with
    | cells t hn => cases hn
    | map x0 es k he hr =>
    cases he
    have hgb : w.heap[b]? = some (.map es k) := q2
    obtain ⟨b', vs', ty', q1, q2', _, _⟩ := h.mem.cell d _ hcd
    rw [hbd] at q1; cases q1
    cases ty' with
    | cells t hn => cases hn
    | map x2 es2 k2 he2 hr2 =>
    cases he2
    have hgd : w.heap[bd]? = some (.map es2 k2) := q2'
    have hbne : b ≠ bd := fun e => by subst e; exact hne (h.mem.inj c d b hb hbd)
    have hlb : b < w.heap.size := (Array.getElem?_eq_some_iff.1 hgb).1
    have hlbd : bd < w.heap.size := (Array.getElem?_eq_some_iff.1 hgd).1
    have hrange := run_range_map (P := P) w i.ty kt et b es k hmt hgb
    obtain ⟨hlen, hk⟩ := cond_some hk
    simp only [Option.some.injEq, Prod.mk.injEq] at hk
    obtain ⟨rfl, rfl⟩ := hk
    have hes : es.toList.length = l.length := by
      have := hr.1.length_eq
      simpa [entries, MapC.pairs, pairsOf] using this
    have hb1 : ∀ it, (w.alloc it).heap[b]? = some (.map es k) := fun it => (heap_alloc_old w it hlb).trans hgb
    match l, hlen, hes, hr with
    | [], _, hes, hr =>
      have he0 : es = #[] := by apply Array.ext'; exact List.length_eq_zero_iff.1 hes
      refine none_ hcd hs ⟨_, rfl, hrange⟩ fun ty => ?_
      rcases run_next_at (P := P) (w.alloc (.mapIter (some b) k #[] k)) ty w.heap.size b k k #[] es k (heap_alloc_new w _) (hb1 _) hr.2.1 (Nat.le_refl _) with ⟨_, h2⟩ | ⟨e, he, _⟩
      · exact h2
      · subst he0; simp [leftOf] at he
    | [(kk, vv)], _, hes, hr =>
      obtain ⟨e, hee⟩ : ∃ e, es = #[e] := by
        match hq : es.toList, hes with
        | [e], _ => exact ⟨e, by apply Array.ext'; exact hq⟩
      have hent : e.key = .string kk ∧ e.val = .string vv := by
        have := hr.1
        rw [hee] at this
        simpa [entries, MapC.pairs, pairsOf] using this
      obtain ⟨hkey, hval⟩ := hent
      refine front hs hrange fun a1 O1 hit => ?_
      -- the entry comes
      obtain ⟨w0, hal, hnext⟩ : ∃ w0 : World, (w0 = w.alloc (.mapIter (some b) k #[] k) ∨ w0 = (w.alloc (.mapIter (some b) k #[] k)).drew) ∧ (Instr.next (.pointer (some ⟨w.heap.size, 0, none⟩)) false sh.b1.type).run P (w.alloc (.mapIter (some b) k #[] k)) =
          .ok (.tuple #[.bool true, .string kk, .string vv]) (setBlock w0 w.heap.size (.mapIter (some b) k (#[].push e.born) k)) := by
        rcases run_next_at (P := P) (w.alloc (.mapIter (some b) k #[] k)) sh.b1.type w.heap.size b k k #[] es k (heap_alloc_new w _) (hb1 _) hr.2.1 (Nat.le_refl _) with ⟨h0, _⟩ | ⟨e', he', w1, hal, h2⟩
        · subst hee; simp [leftOf] at h0
        · have hee' : e' = e := by subst hee; simpa [leftOf] using he'
          subst hee'
          rw [hkey, hval] at h2
          exact ⟨w1, hal, h2⟩
      have h0b : ∀ b', b' < w.heap.size → w0.heap[b']? = w.heap[b']? := fun b' hb' => by rcases hal with rfl | rfl <;> exact heap_alloc_old w _ hb'
      have h0s : w0.heap.size = w.heap.size + 1 := by rcases hal with rfl | rfl <;> exact World.size_alloc ..
      have h0o : w0.os = w.os ∧ w0.tape = w.tape ∧ w0.output = w.output := by rcases hal with rfl | rfl <;> exact ⟨rfl, rfl, rfl⟩
      generalize hw1 : setBlock w0 w.heap.size (.mapIter (some b) k (#[].push e.born) k) = w1 at hnext
      have h1r : w1.heap[w.heap.size]? = some (.mapIter (some b) k (#[].push e.born) k) := by rw [← hw1]; exact heap_set_eq (by omega)
      have h1b : ∀ b', b' < w.heap.size → w1.heap[b']? = w.heap[b']? := fun b' hb' => by rw [← hw1, heap_set_ne (by omega)]; exact h0b b' hb'
      have h1s : w1.heap.size = w.heap.size + 1 := by rw [← hw1]; simp [setBlock, h0s]
      have h1o : w1.os = w.os ∧ w1.tape = w.tape ∧ w1.output = w.output := by rw [← hw1]; exact h0o
      have hentry : (Instr.entry (.pointer (some ⟨w.heap.size, 0, none⟩))).run P w1 = .ok (.tuple #[.string kk, .string vv]) w1 := by
        have := run_entry_at (P := P) w1 w.heap.size b k #[] es k e h1r ((h1b b hlb).trans hgb) (by rw [hee]; simp) hr.2.2.1
        rwa [hkey, hval] at this
      obtain ⟨es', k', hupd, hp', hs'⟩ := run_mapSet (f := Value.string) hmt hkt ((h1b bd hlbd).trans hgd) hr2.1 hr2.2 kk vv
      generalize hw2 : ({ w1 with heap := w1.heap.setIfInBounds bd (.map es' k') } : World) = w2 at hupd
      have h2ne : ∀ b', b' ≠ bd → w2.heap[b']? = w1.heap[b']? := fun b' hb' => by rw [← hw2]; exact heap_set_ne (w := w1) hb'
      have h2bd : w2.heap[bd]? = some (.map es' k') := by rw [← hw2]; exact heap_set_eq (w := w1) (by omega)
      have h2s : w2.heap.size = w.heap.size + 1 := by rw [← hw2]; simp [h1s]
      have h2o : w2.os = w.os ∧ w2.tape = w.tape ∧ w2.output = w.output := by rw [← hw2]; exact h1o
      refine sh.more (fun t ht => by rw [O1.size]; exact hsz t ht) hit (md := .map (some bd)) ?_ hnext hentry hupd fun a2 O2 hit2 => ?_
      · rw [O1.look _ (by rw [sh.hj]; simp [nd])]; exact hdv
      -- and no other
      refine sh.done (fun t ht => by rw [O2.size, O1.size]; exact hsz t ht) hit2 (fun ty => ?_) fun a3 O3 => ?_
      · rcases run_next_at (P := P) w2 ty w.heap.size b k k (#[].push e.born) es k ((h2ne _ (by omega)).trans h1r) ((h2ne b hbne).trans ((h1b b hlb).trans hgb)) hr.2.1 (Nat.le_refl _) with ⟨_, h2⟩ | ⟨e', he', _⟩
        · exact h2
        · subst hee; simp [leftOf] at he'
      show Exit.inBlock bE _ (.exit bE) a3 _
      simp only [Exit.inBlock, if_true]
      refine ⟨g, (Fr.heap (w := w) (w2 := w2) h2o.1 h2o.2.1 h2o.2.2 (by omega) fun b' hb' hβ => ?_).toN, rfl, ?_⟩
      · exact (h2ne b' fun e => hβ d (e ▸ hbd)).trans (h1b b' hb')
      · refine h.offs ((O1.trans O2).trans O3) ?_
        have hset := h.mem.setMap (x' := .s (mset l2 kk vv)) hcd hbd hgd (es' := es') (k' := k') ⟨hp', hs'⟩
        refine hset.of_heap fun b' hb' => ?_
        have hb'' : b' < w.heap.size := by simpa using hb'
        by_cases e1 : b' = bd
        · subst e1
          rw [h2bd]; exact (heap_set_eq (w := w) hlbd).symm
        · rw [h2ne b' e1, h1b b' hb'']; exact (heap_set_ne (w := w) e1).symm
    | _ :: _ :: _, hlen, _, _ => simp at hlen
  · cases hk

end
end Go.Proofs.YtanfoijdfcnpoaaGreatDoor.Ev
