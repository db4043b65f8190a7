/- This file proves what the two loops of LexisFull leave that fill a slice of bytes: a row of equal bytes; without any condition. -/
import Derived.Test.YtdhpgcjhiommkaaDoorU1
import Derived.Laws.OwnMore
import Derived.Control
set_option linter.unusedVariables false
set_option linter.unusedSimpArgs false
set_option maxRecDepth 8000
set_option maxHeartbeats 1000000
namespace Go.Proofs.YtdhpgcjhiommkaaDoor.Ev
open Go.RowKit

section
variable {S : Sig} {L : Lay S} {g : Gh} {m : Mem S} {w w' : World}

theorem MemInv.rowAt (h : MemInv L g m w) (hb : Below w.heap.size w w') {blk : Nat} (hk : w.heap.size ≤ blk) {cur : Array Value} {ty : TypeId} (hc : w'.heap[blk]? = some (.cells cur ty (0, 0)))
    {vs : List Value} (hx : ∀ (o : Nat) (v : Value), vs[o]? = some v → cur[o]? = some v) : MemInv L (g.addG blk vs) m w' := by
  have h' : MemInv L g m w' := h.of_heap fun b hb' => hb.block b hb'
  refine ⟨fun c ps hc' => ?_, h'.dom, h'.inj, fun c b hcb o => ?_, fun b o v hv => ?_, fun b r hr => ?_, ?_⟩
  · obtain ⟨b, vs', ty', h1, h2, h3, h4⟩ := h'.cell c ps hc'
    refine ⟨b, vs', ty', h1, h2, h3, fun j p hp => ?_⟩
    obtain ⟨v, hv, hr, ho⟩ := h4 j p hp
    refine ⟨v, hv, hr.mono (fun b o v hv => ?_) (fun _ _ h => h), ho⟩
    show (if b = blk then _ else g.G b o) = some v
    rw [if_neg (by have := h.G_lt hv; omega)]; exact hv
  · show (if b = blk then _ else g.G b o) = none
    rw [if_neg (by have := h.β_lt hcb; omega)]; exact h.βG c b hcb o
  · change (if b = blk then vs[o]? else g.G b o) = some v at hv
    split at hv
    · rename_i e; subst e
      have h1 := hx o v hv
      simp [World.cell?, hc, h1]
    · exact h'.gs b o v hv
  · obtain ⟨h1, h2, h3⟩ := h'.rt b r hr
    refine ⟨h1, h2, fun o ho => ?_⟩
    show (if b = blk then _ else g.G b o) = none
    rw [if_neg (by have := h.ω_lt hr; omega)]; exact h3 o ho
  · exact h'.wok

theorem Fr.rowAt (h : MemInv L g m w) (hb : Below w.heap.size w w') {blk : Nat} (hk : w.heap.size ≤ blk) {vs : List Value} : Fr g w (g.addG blk vs) w' where
  os := hb.os
  tape := hb.tape
  output := hb.output
  size := hb.size
  keep b hb' _ hω := ⟨hb.block b hb', fun o => by show (if b = blk then _ else g.G b o) = _; rw [if_neg (by omega)], hω⟩
  gmono b o v hv := by
    show (if b = blk then _ else g.G b o) = some v
    rw [if_neg (by have := h.G_lt hv; omega)]; exact hv
  βmono _ _ h := h
  βnew _ _ h := .inl h
end

theorem nbF {a b : Nat} : (Nat.beq a b = false) = ¬ a = b := by
  apply propext
  constructor
  · rintro h rfl; rw [Nat.beq_refl] at h; cases h
  · intro h; cases hb : Nat.beq a b with
    | false => rfl
    | true => exact absurd (Nat.eq_of_beq_eq_true hb) h

/-! ### Codes by their places -/

def seqA : Code → Code | .seq a _ => a | c => c
def seqB : Code → Code | .seq _ b => b | c => c
def blkB : Code → Code | .block _ b => b | c => c
def lopB : Code → Code | .loop b => b | c => c
def regO : Code → Array Oper | .region _ ops _ => ops | _ => #[]
def callO : Op → Option Call | .call c => some c | _ => none
theorem callO_eq {o : Op} {c : Call} (h : callO o = some c) : o = .call c := by
  cases o <;> simp [callO] at h
  rw [h]
def opAt (c : Code) (i : Nat) : Oper := ((regO c)[i]?).getD default

section
variable {P : Program} {Q : Exit → Act → World → Prop} {a : Act} {w w' : World}

theorem wpOps_val {ops : Array Oper} {i : Nat} {rest : List Nat} {o : Oper} (h : ops[i]? = some o) (hg : o.guard = none) {v : Value} (hrun : (execOp a.eval o).run P w = .ok (.value v) w') (hk : wpOps P ops Q rest (a.put o.dst v) w') : wpOps P ops Q (i :: rest) a w := by
  simp only [wpOps, h]
  rw [if_pos (by simp [Region.wanted, hg])]
  exact .inl (by unfold Oper.wp; rw [hrun, Oper.upon_value]; exact hk)

theorem wpOps_skip {ops : Array Oper} {i : Nat} {rest : List Nat} {o : Oper} (h : ops[i]? = some o) (hg : o.guard = none) (hd : o.dst = none) (hrun : (execOp a.eval o).run P w = .ok .skip w') (hk : wpOps P ops Q rest a w') : wpOps P ops Q (i :: rest) a w := by
  simp only [wpOps, h]
  rw [if_pos (by simp [Region.wanted, hg])]
  refine .inl ?_
  unfold Oper.wp
  rw [hrun, Oper.upon_skip, hd]
  exact hk

theorem wp_reg {id n : Nat} {ops : Array Oper} (hs : ops.size = n) (h : wpOps P ops Q (List.range n) a w) : (Code.region id ops false).wp P Q a w := wp_region (by rw [hs]; exact h)

theorem run_move {o : Oper} {x : Operand} (ho : o.op = .move x) : (execOp a.eval o).run P w = .ok (.value (a.eval x)) w := by simp [execOp, ho]
theorem run_assign {o : Oper} {x : Operand} (ho : o.op = .assign x) : (execOp a.eval o).run P w = .ok (.value (a.eval x)) w := by simp [execOp, ho]

theorem run_add {o : Oper} {t u : TypeId} {x y : Operand} (ho : o.op = .binOp .add t x y u) {k : IntKind} {n m : Int} (hx : a.eval x = .int k n) (hy : a.eval y = .int k m) : (execOp a.eval o).run P w = .ok (.value (.int k (k.wrap (n + m)))) w := by
  have base : (eqGuard .add t x y (.int k n) (.int k m)).run P w = .ok () w := by unfold eqGuard; rfl
  have : (binOp .add t (.int k n) (.int k m)).run P w = .ok (.int k (k.wrap (n + m))) w := by simp [binOp, Op.intArith]
  simp only [execOp, ho, hx, hy, Sem.run_bind, base, Result.andThen_ok, this, Sem.run_pure]

theorem run_lss {o : Oper} {t u : TypeId} {x y : Operand} (ho : o.op = .binOp .lss t x y u) {k : IntKind} {n m : Int} (hx : a.eval x = .int k n) (hy : a.eval y = .int k m) : (execOp a.eval o).run P w = .ok (.value (.bool (decide (n < m)))) w := by
  have base : (eqGuard .lss t x y (.int k n) (.int k m)).run P w = .ok () w := by unfold eqGuard; rfl
  have : (binOp .lss t (.int k n) (.int k m)).run P w = .ok (.bool (decide (n < m))) w := by simp [binOp, Op.intCmp]
  simp only [execOp, ho, hx, hy, Sem.run_bind, base, Result.andThen_ok, this, Sem.run_pure]

theorem run_len {o : Oper} {c : Call} (ho : o.op = .call c) (hc : c.callee = .builtin .len) {t e : TypeId} {x : Operand} (ht : c.argTypes.toList = [t]) (hx : c.args.toList = [x]) (hu : P.underlying t = some (.slice e)) {ad : Option Addr} {n cp : Nat} (hv : a.eval x = .slice ad n cp) :
    (execOp a.eval o).run P w = .ok (.value (.int .i64 n)) w := by
  have ht' : c.argTypes = #[t] := by apply Array.ext'; simpa using ht
  have hx' : c.args = #[x] := by apply Array.ext'; simpa using hx
  have : (Builtin.len_ #[t] o.type #[a.eval x]).run P w = .ok (.int .i64 n) w := by simp [Builtin.len_, run_underlying hu, hv, goInt]
  simp [execOp, ho, resolve, hc, ht', hx', invoke, builtin, this]

theorem run_indexAddr {o : Oper} {t e : TypeId} {x i : Operand} (ho : o.op = .indexAddr t x i) (hu : P.underlying t = some (.slice e)) (hs : szT P e = some 1) {b n c : Nat} (hx : a.eval x = .slice (some ⟨b, 0, none⟩) n c) {j : Nat} (hi : a.eval i = .int .i64 j) (hj : j < n) :
    (execOp a.eval o).run P w = .ok (.value (.pointer (some ⟨b, j, none⟩))) w := by
  have : (Instr.indexAt t (.slice (some ⟨b, 0, none⟩) n c) (.int .i64 (j : Int))).run P w = .ok (.pointer (some ⟨b, j, none⟩)) w := by
    unfold Instr.indexAt
    have h1 : (j : Int) < (n : Int) := by omega
    simp [asIntOf, run_underlying hu, hj, Nat.not_le_of_lt hj, run_sizeOf hs, add_mk]
  simp [execOp, ho, hx, hi, this]

theorem run_store {o : Oper} {t : TypeId} {x y : Operand} (ho : o.op = .store t x y) (hs : szT P t = some 1) {b j : Nat} (hx : a.eval x = .pointer (some ⟨b, j, none⟩)) {v : Value} (hy : a.eval y = v) (hv : v.cells.toList = [v]) (hone : v.oneCell' = true)
    {cur : Array Value} {ty : TypeId} (hc : w.heap[b]? = some (.cells cur ty (0, 0))) (hj : j < cur.size) :
    (execOp a.eval o).run P w = .ok .skip (w.setRow b (cur.toList.take j ++ [v] ++ cur.toList.drop (j + 1)).toArray) := by
  have hrun := run_storeCells_at P b j ty [v] 0 cur w hc (by simp; omega) (by intro u hu; simp at hu; subst hu; exact hone)
  simp only [Nat.add_zero, List.length_cons, List.length_nil] at hrun
  have hsz : ¬ v.cells.size ≠ 1 := by
    have : v.cells.toList.length = 1 := by rw [hv]; rfl
    simp at this; omega
  simp only [execOp, ho, hx, hy, Instr.storeAt, Instr.sureAddr, storeVar, Sem.run_bind, Sem.run_pure, Result.andThen_ok, run_sizeOf hs, if_neg hsz, hv, hrun]

theorem ev_put {d : Nat} {v : Value} (hd : d < a.tmps.size) (i : Nat) : (a.put (some d) v).eval (.tmp i) = if i = d then v else a.eval (.tmp i) := getD_put hd i
end

noncomputable def c7 : Code := textOf Tryd.prog 7

/-! ### The slice of temporary 3 -/

noncomputable def R1 : Code := seqA (seqB (seqB c7))
noncomputable def L1 : Code := seqA (seqB (seqB (seqB c7)))
noncomputable def A1 : Code := seqA L1
noncomputable def B1 : Code := lopB (blkB (seqB L1))
noncomputable def C1 : Code := seqA B1
noncomputable def D1 : Code := seqA (seqB B1)
noncomputable def E1 : Code := seqA (blkB (seqA (seqB (seqB B1))))
noncomputable def F1 : Code := seqB (blkB (seqA (seqB (seqB B1))))
noncomputable def G1 : Code := seqB (seqB (seqB B1))

theorem shR1 : R1 = .region 2 (regO R1) false := by kernel_rfl
theorem shA1 : A1 = .region 3 (regO A1) false := by kernel_rfl
theorem shC1 : C1 = .region 4 (regO C1) false := by kernel_rfl
theorem shE1 : E1 = .region 5 (regO E1) false := by kernel_rfl
theorem shF1 : F1 = .region 6 (regO F1) false := by kernel_rfl
theorem shG1 : G1 = .region 7 (regO G1) false := by kernel_rfl
theorem shL1 : L1 = .seq A1 (.block 0 (.loop (.seq C1 (.seq (.cond (.tmp 23) .skip (.exit 0)) (.seq (.block 1 (.seq E1 F1)) G1))))) := by kernel_rfl

/-- The temporaries that are written. -/
def wr1 (j : Nat) : Bool := Nat.beq j 17 || (Nat.beq j 18 || (Nat.beq j 19 || (Nat.beq j 3 || (Nat.beq j 20 || (Nat.beq j 21 || (Nat.beq j 22 || (Nat.beq j 23 || (Nat.beq j 24 || (Nat.beq j 4 || (Nat.beq j 25 || (Nat.beq j 26 || (Nat.beq j 27 || (Nat.beq j 28)))))))))))))

/-- What is left. -/
structure Post1 (a : Act) (w : World) (n : Nat) (a' : Act) (w' : World) : Prop where
  size : a'.tmps.size = a.tmps.size
  dfs : a'.defers = a.defers
  other : ∀ j, wr1 j = false → a'.eval (.tmp j) = a.eval (.tmp j)
  slice : a'.eval (.tmp 3) = .slice (some ⟨w.heap.size, 0, none⟩) n n
  below : Below w.heap.size w w'
  row : ∃ cur ty, w'.heap[w.heap.size]? = some (.cells cur ty (0, 0)) ∧ cur.toList = List.replicate n (.int .u8 32)

/-- What holds at the loop's head. -/
structure Inv1 (a : Act) (w : World) (n i : Nat) (a' : Act) (w' : World) : Prop where
  size : a'.tmps.size = a.tmps.size
  dfs : a'.defers = a.defers
  other : ∀ j, wr1 j = false → a'.eval (.tmp j) = a.eval (.tmp j)
  slice : a'.eval (.tmp 3) = .slice (some ⟨w.heap.size, 0, none⟩) n n
  len : a'.eval (.tmp 21) = .int .i64 n
  cnt : a'.eval (.tmp 22) = .int .i64 i
  le : i ≤ n
  below : Below w.heap.size w w'
  row : ∃ cur ty, w'.heap[w.heap.size]? = some (.cells cur ty (0, 0)) ∧ cur.toList = List.replicate i (.int .u8 32) ++ List.replicate (n - i) (.int .u8 0)

theorem fill1 {Q : Exit → Act → World → Prop} {X : Code} {a : Act} {w : World} (hsz : a.tmps.size = 115) {m : Int} {n : Nat} (hm : a.eval (.tmp 0) = .int .i64 m) (hn : IntKind.wrap .i64 (5999 + m) = n) (hb : n ≤ 10000)
    (hX : ∀ a' w', Post1 a w n a' w' → X.wp Tryd.prog Q a' w') : (Code.seq R1 (Code.seq L1 X)).wp Tryd.prog Q a w := by
  have T : Tryd.prog.underlying 34 = some (.slice 5) := by kernel_rfl
  have S5 : szT Tryd.prog 5 = some 1 := by kernel_rfl
  obtain ⟨i5, hi5⟩ : ∃ i, Tryd.prog.info? 5 = some i := Option.isSome_iff_exists.mp (by kernel_rfl)
  have hz5 : (Tryd.prog.info? 5).bind (fun i => i.zero) = some (.int .u8 0) := by kernel_rfl
  have hs5 : (Tryd.prog.info? 5).map (fun i => i.size) = some 1 := by kernel_rfl
  have hb5 : (Tryd.prog.info? 5).map (fun i => i.bytes) = some 1 := by kernel_rfl
  rw [hi5] at hz5 hs5 hb5
  replace hz5 : i5.zero = some (.int .u8 0) := hz5
  replace hs5 : i5.size = 1 := Option.some.inj hs5
  replace hb5 : i5.bytes = 1 := Option.some.inj hb5
  -- the slice is made
  refine wp_seq ?_
  rw [shR1]
  refine wp_reg (n := 4) (by kernel_rfl) ?_
  show wpOps Tryd.prog (regO R1) _ [0, 1, 2, 3] a w
  refine wpOps_val (o := opAt R1 0) (by kernel_rfl) (by kernel_rfl) (run_move (x := .tmp 0) (by kernel_rfl)) ?_
  rw [show (opAt R1 0).dst = some 17 from by kernel_rfl, hm]
  generalize ha1 : a.put (some 17) (.int .i64 m) = x1
  have z1 : x1.tmps.size = 115 := by rw [← ha1, size_put]; exact hsz
  have v1 : ∀ i, x1.eval (.tmp i) = if i = 17 then .int .i64 m else a.eval (.tmp i) := fun i => by rw [← ha1]; exact ev_put (by omega) i
  have hv1 : x1.eval (.tmp 17) = .int .i64 m := (v1 17).trans (if_pos rfl)
  have hc1 : x1.eval (.const (.int .i64 5999)) = .int .i64 5999 := rfl
  refine wpOps_val (o := opAt R1 1) (by kernel_rfl) (by kernel_rfl) (run_add (t := 3) (u := 3) (x := .const (.int .i64 5999)) (y := .tmp 17) (k := .i64) (n := 5999) (m := m) (by kernel_rfl) hc1 hv1) ?_
  rw [show (opAt R1 1).dst = some 18 from by kernel_rfl, hn]
  generalize ha2 : x1.put (some 18) (.int .i64 (n : Int)) = x2
  have z2 : x2.tmps.size = 115 := by rw [← ha2, size_put]; exact z1
  have v2 : ∀ i, x2.eval (.tmp i) = if i = 18 then .int .i64 (n : Int) else x1.eval (.tmp i) := fun i => by rw [← ha2]; exact ev_put (by omega) i
  obtain ⟨w1, hrun, hrow, hgr⟩ := run_make_full (P := Tryd.prog) w w.heap.size 34 5 i5 (.int .u8 0) 1 T hi5 hz5 hs5 .i64 .i64 n (by rw [hb5]; omega) (by simp [maxLen]; omega) (Nat.le_refl _)
  refine wpOps_val (o := opAt R1 2) (v := .slice (some ⟨w.heap.size, 0, none⟩) n n) (w' := w1) (by kernel_rfl) (by kernel_rfl) (by
    have ho : (opAt R1 2).op = .makeSlice 34 (.tmp 18) (.tmp 18) := by kernel_rfl
    have hv : x2.eval (.tmp 18) = .int .i64 (n : Int) := v2 18
    simp [execOp, ho, hv, hrun]) ?_
  rw [show (opAt R1 2).dst = some 19 from by kernel_rfl]
  generalize ha3 : x2.put (some 19) (.slice (some ⟨w.heap.size, 0, none⟩) n n) = x3
  have z3 : x3.tmps.size = 115 := by rw [← ha3, size_put]; exact z2
  have v3 : ∀ i, x3.eval (.tmp i) = if i = 19 then .slice (some ⟨w.heap.size, 0, none⟩) n n else x2.eval (.tmp i) := fun i => by rw [← ha3]; exact ev_put (by omega) i
  refine wpOps_val (o := opAt R1 3) (by kernel_rfl) (by kernel_rfl) (run_assign (x := .tmp 19) (by kernel_rfl)) ?_
  rw [show (opAt R1 3).dst = some 3 from by kernel_rfl, v3 19, if_pos rfl]
  generalize ha4 : x3.put (some 3) (.slice (some ⟨w.heap.size, 0, none⟩) n n) = x4
  have z4 : x4.tmps.size = 115 := by rw [← ha4, size_put]; exact z3
  have v4 : ∀ i, x4.eval (.tmp i) = if i = 3 then .slice (some ⟨w.heap.size, 0, none⟩) n n else x3.eval (.tmp i) := fun i => by rw [← ha4]; exact ev_put (by omega) i
  -- the row that was made
  have hw1 : Below w.heap.size w w1 := ⟨hgr.os, hgr.tape, hgr.output, hgr.size, fun k hk => hgr.block k hk (by simp)⟩
  have hr1 : ∃ cur ty, w1.heap[w.heap.size]? = some (.cells cur ty (0, 0)) ∧ cur.toList = List.replicate n (.int .u8 0) := by
    obtain ⟨hl, ⟨h1, _⟩ | ⟨b, cap, cur, h1, h2, h3, h4, h5, h6, h7⟩⟩ := hrow
    · cases h1
    · cases h1
      refine ⟨cur, 5, h3, ?_⟩
      have hc : (Value.int IntKind.u8 0).cells = #[.int .u8 0] := rfl
      rw [hc, toList_madeCells_one, Nat.mul_one] at h7
      rw [← h7, List.take_of_length_le]
      simp; omega
  -- the loop's head
  show (Code.seq L1 X).wp Tryd.prog Q x4 w1
  refine wp_seq ?_
  rw [shL1]
  refine wp_seq ?_
  rw [shA1]
  refine wp_reg (n := 3) (by kernel_rfl) ?_
  show wpOps Tryd.prog (regO A1) _ [0, 1, 2] x4 w1
  have e4 : x4.eval (.tmp 3) = .slice (some ⟨w.heap.size, 0, none⟩) n n := v4 3
  refine wpOps_val (o := opAt A1 0) (by kernel_rfl) (by kernel_rfl) (run_move (x := .tmp 3) (by kernel_rfl)) ?_
  rw [show (opAt A1 0).dst = some 20 from by kernel_rfl, e4]
  generalize ha5 : x4.put (some 20) (.slice (some ⟨w.heap.size, 0, none⟩) n n) = x5
  have z5 : x5.tmps.size = 115 := by rw [← ha5, size_put]; exact z4
  have v5 : ∀ i, x5.eval (.tmp i) = if i = 20 then .slice (some ⟨w.heap.size, 0, none⟩) n n else x4.eval (.tmp i) := fun i => by rw [← ha5]; exact ev_put (by omega) i
  obtain ⟨c, hc0⟩ : ∃ c, callO (opAt A1 1).op = some c := Option.isSome_iff_exists.mp (by kernel_rfl)
  have hc1 := callO_eq hc0
  have hc2 : (callO (opAt A1 1).op).map (fun c => c.callee) = some (.builtin .len) := by kernel_rfl
  have hc3 : (callO (opAt A1 1).op).map (fun c => c.argTypes.toList) = some [34] := by kernel_rfl
  have hc4 : (callO (opAt A1 1).op).map (fun c => c.args.toList) = some [.tmp 20] := by kernel_rfl
  rw [hc0] at hc2 hc3 hc4
  replace hc2 := Option.some.inj hc2
  replace hc3 := Option.some.inj hc3
  replace hc4 := Option.some.inj hc4
  refine wpOps_val (o := opAt A1 1) (by kernel_rfl) (by kernel_rfl) (run_len hc1 hc2 hc3 hc4 T (v5 20)) ?_
  rw [show (opAt A1 1).dst = some 21 from by kernel_rfl]
  generalize ha6 : x5.put (some 21) (.int .i64 (n : Int)) = x6
  have z6 : x6.tmps.size = 115 := by rw [← ha6, size_put]; exact z5
  have v6 : ∀ i, x6.eval (.tmp i) = if i = 21 then .int .i64 (n : Int) else x5.eval (.tmp i) := fun i => by rw [← ha6]; exact ev_put (by omega) i
  refine wpOps_val (o := opAt A1 2) (by kernel_rfl) (by kernel_rfl) (run_move (x := .const (.int .i64 0)) (by kernel_rfl)) ?_
  rw [show (opAt A1 2).dst = some 22 from by kernel_rfl]
  generalize ha7 : x6.put (some 22) (x6.eval (.const (.int .i64 0))) = x7
  have z7 : x7.tmps.size = 115 := by rw [← ha7, size_put]; exact z6
  have v7 : ∀ i, x7.eval (.tmp i) = if i = 22 then .int .i64 0 else x6.eval (.tmp i) := fun i => by rw [← ha7]; exact ev_put (by omega) i
  have d7 : x7.defers = a.defers := by rw [← ha7, defers_put, ← ha6, defers_put, ← ha5, defers_put, ← ha4, defers_put, ← ha3, defers_put, ← ha2, defers_put, ← ha1, defers_put]
  show (Code.block 0 _).wp Tryd.prog _ x7 w1
  refine wp_block (wp_loop (fun a' w' => ∃ i, Inv1 a w n i a' w') (fun a' _ => n - (intOf (a'.eval (.tmp 22))).toNat) ⟨0, ?_⟩ ?_)
  · refine ⟨z7.trans hsz.symm, d7, fun j hj => ?_, ?_, ?_, ?_, Nat.zero_le _, hw1, ?_⟩
    · simp only [wr1, Bool.or_eq_false_iff, nbF] at hj
      simp only [v7, v6, v5, v4, v3, v2, v1]
      rw [if_neg hj.2.2.2.2.2.2.1, if_neg hj.2.2.2.2.2.1, if_neg hj.2.2.2.2.1, if_neg hj.2.2.2.1, if_neg hj.2.2.1, if_neg hj.2.1, if_neg hj.1]
    · rw [v7, if_neg (by decide), v6, if_neg (by decide), v5, if_neg (by decide), e4]
    · rw [v7, if_neg (by decide), v6, if_pos rfl]
    · rw [v7, if_pos rfl]; rfl
    · obtain ⟨cur, ty, h1, h2⟩ := hr1
      exact ⟨cur, ty, h1, by simpa using h2⟩
  · rintro a1 w2 ⟨i, hI⟩
    refine wp_seq ?_
    rw [shC1]
    refine wp_reg (n := 1) (by kernel_rfl) ?_
    show wpOps Tryd.prog (regO C1) _ [0] a1 w2
    refine wpOps_val (o := opAt C1 0) (by kernel_rfl) (by kernel_rfl) (run_lss (t := 3) (u := 3) (x := .tmp 22) (y := .tmp 21) (by kernel_rfl) hI.cnt hI.len) ?_
    rw [show (opAt C1 0).dst = some 23 from by kernel_rfl]
    have y0 : a1.tmps.size = 115 := hI.size.trans hsz
    generalize hq1 : a1.put (some 23) (.bool (decide ((i : Int) < (n : Int)))) = y1
    have t1 : y1.tmps.size = 115 := by rw [← hq1, size_put]; exact y0
    have u1 : ∀ i', y1.eval (.tmp i') = if i' = 23 then .bool (decide ((i : Int) < (n : Int))) else a1.eval (.tmp i') := fun i' => by rw [← hq1]; exact ev_put (by omega) i'
    have f1 : y1.defers = a1.defers := by rw [← hq1, defers_put]
    show (Code.seq (.cond (.tmp 23) .skip (.exit 0)) (.seq (.block 1 (.seq E1 F1)) G1)).wp Tryd.prog _ y1 w2
    refine wp_seq ?_
    by_cases hin : i < n
    · refine wp_cond_true (by rw [u1, if_pos rfl, decide_eq_true (by omega)]) (wp_skip ?_)
      show (Code.seq (.block 1 (.seq E1 F1)) G1).wp Tryd.prog _ y1 w2
      refine wp_seq (wp_block (wp_seq ?_))
      rw [shE1]
      refine wp_reg (n := 2) (by kernel_rfl) ?_
      show wpOps Tryd.prog (regO E1) _ [0, 1] y1 w2
      have g1 : y1.eval (.tmp 22) = .int .i64 (i : Int) := by rw [u1, if_neg (by decide)]; exact hI.cnt
      refine wpOps_val (o := opAt E1 0) (by kernel_rfl) (by kernel_rfl) (run_move (x := .tmp 22) (by kernel_rfl)) ?_
      rw [show (opAt E1 0).dst = some 24 from by kernel_rfl, g1]
      generalize hq2 : y1.put (some 24) (.int .i64 (i : Int)) = y2
      have t2 : y2.tmps.size = 115 := by rw [← hq2, size_put]; exact t1
      have u2 : ∀ i', y2.eval (.tmp i') = if i' = 24 then .int .i64 (i : Int) else y1.eval (.tmp i') := fun i' => by rw [← hq2]; exact ev_put (by omega) i'
      refine wpOps_val (o := opAt E1 1) (by kernel_rfl) (by kernel_rfl) (run_assign (x := .tmp 24) (by kernel_rfl)) ?_
      rw [show (opAt E1 1).dst = some 4 from by kernel_rfl, u2 24, if_pos rfl]
      generalize hq3 : y2.put (some 4) (.int .i64 (i : Int)) = y3
      have t3 : y3.tmps.size = 115 := by rw [← hq3, size_put]; exact t2
      have u3 : ∀ i', y3.eval (.tmp i') = if i' = 4 then .int .i64 (i : Int) else y2.eval (.tmp i') := fun i' => by rw [← hq3]; exact ev_put (by omega) i'
      show (F1).wp Tryd.prog _ y3 w2
      rw [shF1]
      refine wp_reg (n := 4) (by kernel_rfl) ?_
      show wpOps Tryd.prog (regO F1) _ [0, 1, 2, 3] y3 w2
      have g3 : y3.eval (.tmp 3) = .slice (some ⟨w.heap.size, 0, none⟩) n n := by rw [u3, if_neg (by decide), u2, if_neg (by decide), u1, if_neg (by decide)]; exact hI.slice
      refine wpOps_val (o := opAt F1 0) (by kernel_rfl) (by kernel_rfl) (run_move (x := .tmp 3) (by kernel_rfl)) ?_
      rw [show (opAt F1 0).dst = some 25 from by kernel_rfl, g3]
      generalize hq4 : y3.put (some 25) (.slice (some ⟨w.heap.size, 0, none⟩) n n) = y4
      have t4 : y4.tmps.size = 115 := by rw [← hq4, size_put]; exact t3
      have u4 : ∀ i', y4.eval (.tmp i') = if i' = 25 then .slice (some ⟨w.heap.size, 0, none⟩) n n else y3.eval (.tmp i') := fun i' => by rw [← hq4]; exact ev_put (by omega) i'
      have g4 : y4.eval (.tmp 4) = .int .i64 (i : Int) := by rw [u4, if_neg (by decide), u3, if_pos rfl]
      refine wpOps_val (o := opAt F1 1) (by kernel_rfl) (by kernel_rfl) (run_move (x := .tmp 4) (by kernel_rfl)) ?_
      rw [show (opAt F1 1).dst = some 26 from by kernel_rfl, g4]
      generalize hq5 : y4.put (some 26) (.int .i64 (i : Int)) = y5
      have t5 : y5.tmps.size = 115 := by rw [← hq5, size_put]; exact t4
      have u5 : ∀ i', y5.eval (.tmp i') = if i' = 26 then .int .i64 (i : Int) else y4.eval (.tmp i') := fun i' => by rw [← hq5]; exact ev_put (by omega) i'
      have g5 : y5.eval (.tmp 25) = .slice (some ⟨w.heap.size, 0, none⟩) n n := by rw [u5, if_neg (by decide), u4, if_pos rfl]
      refine wpOps_val (o := opAt F1 2) (by kernel_rfl) (by kernel_rfl) (run_indexAddr (x := .tmp 25) (i := .tmp 26) (by kernel_rfl) T S5 g5 (u5 26) hin) ?_
      rw [show (opAt F1 2).dst = some 27 from by kernel_rfl]
      generalize hq6 : y5.put (some 27) (.pointer (some ⟨w.heap.size, i, none⟩)) = y6
      have t6 : y6.tmps.size = 115 := by rw [← hq6, size_put]; exact t5
      have u6 : ∀ i', y6.eval (.tmp i') = if i' = 27 then .pointer (some ⟨w.heap.size, i, none⟩) else y5.eval (.tmp i') := fun i' => by rw [← hq6]; exact ev_put (by omega) i'
      obtain ⟨cur, ty, hcur, hlist⟩ := hI.row
      have hcs : cur.size = n := by
        have := congrArg List.length hlist
        simp at this; have := hI.le; omega
      refine wpOps_skip (o := opAt F1 3) (by kernel_rfl) (by kernel_rfl) (by kernel_rfl) (run_store (x := .tmp 27) (y := .const (.int .u8 32)) (v := .int .u8 32) (by kernel_rfl) S5 (u6 27) rfl rfl rfl hcur (by omega)) ?_
      generalize hw3 : w2.setRow w.heap.size (cur.toList.take i ++ [Value.int .u8 32] ++ cur.toList.drop (i + 1)).toArray = w3
      show (G1).wp Tryd.prog _ y6 w3
      rw [shG1]
      refine wp_reg (n := 2) (by kernel_rfl) ?_
      show wpOps Tryd.prog (regO G1) _ [0, 1] y6 w3
      have g6 : y6.eval (.tmp 22) = .int .i64 (i : Int) := by rw [u6, if_neg (by decide), u5, if_neg (by decide), u4, if_neg (by decide), u3, if_neg (by decide), u2, if_neg (by decide), g1]
      refine wpOps_val (o := opAt G1 0) (by kernel_rfl) (by kernel_rfl) (run_add (t := 3) (u := 3) (x := .tmp 22) (y := .const (.int .i64 1)) (by kernel_rfl) g6 rfl) ?_
      rw [show (opAt G1 0).dst = some 28 from by kernel_rfl, show IntKind.wrap .i64 ((i : Int) + 1) = ((i + 1 : Nat) : Int) from by
        simp only [IntKind.wrap, IntKind.signed, IntKind.bits]; simp; omega]
      generalize hq7 : y6.put (some 28) (.int .i64 ((i + 1 : Nat) : Int)) = y7
      have t7 : y7.tmps.size = 115 := by rw [← hq7, size_put]; exact t6
      have u7 : ∀ i', y7.eval (.tmp i') = if i' = 28 then .int .i64 ((i + 1 : Nat) : Int) else y6.eval (.tmp i') := fun i' => by rw [← hq7]; exact ev_put (by omega) i'
      refine wpOps_val (o := opAt G1 1) (by kernel_rfl) (by kernel_rfl) (run_move (x := .tmp 28) (by kernel_rfl)) ?_
      rw [show (opAt G1 1).dst = some 22 from by kernel_rfl, u7 28, if_pos rfl]
      generalize hq8 : y7.put (some 22) (.int .i64 ((i + 1 : Nat) : Int)) = y8
      have t8 : y8.tmps.size = 115 := by rw [← hq8, size_put]; exact t7
      have u8 : ∀ i', y8.eval (.tmp i') = if i' = 22 then .int .i64 ((i + 1 : Nat) : Int) else y7.eval (.tmp i') := fun i' => by rw [← hq8]; exact ev_put (by omega) i'
      have d8 : y8.defers = a.defers := by rw [← hq8, defers_put, ← hq7, defers_put, ← hq6, defers_put, ← hq5, defers_put, ← hq4, defers_put, ← hq3, defers_put, ← hq2, defers_put, ← hq1, defers_put]; exact hI.dfs
      have hlist' : (cur.toList.take i ++ [Value.int .u8 32] ++ cur.toList.drop (i + 1)) = List.replicate (i + 1) (.int .u8 32) ++ List.replicate (n - (i + 1)) (.int .u8 0) := by
        rw [hlist, List.take_append_of_le_length (by simp), List.take_of_length_le (by simp), List.drop_append, List.drop_eq_nil_of_le (by simp), List.nil_append, List.length_replicate, List.drop_replicate, List.replicate_succ']
        congr 2; omega
      show (∃ i, Inv1 a w n i y8 w3) ∧ n - (intOf (y8.eval (.tmp 22))).toNat < n - (intOf (a1.eval (.tmp 22))).toNat
      refine ⟨⟨i + 1, t8.trans hsz.symm, d8, fun j hj => ?_, ?_, ?_, ?_, hin, ?_, ?_⟩, ?_⟩
      · rw [← hI.other j hj]
        simp only [wr1, Bool.or_eq_false_iff, nbF] at hj
        simp only [u8, u7, u6, u5, u4, u3, u2, u1]
        rw [if_neg hj.2.2.2.2.2.2.1, if_neg hj.2.2.2.2.2.2.2.2.2.2.2.2.2, if_neg hj.2.2.2.2.2.2.2.2.2.2.2.2.1, if_neg hj.2.2.2.2.2.2.2.2.2.2.2.1, if_neg hj.2.2.2.2.2.2.2.2.2.2.1, if_neg hj.2.2.2.2.2.2.2.2.2.1, if_neg hj.2.2.2.2.2.2.2.2.1, if_neg hj.2.2.2.2.2.2.2.1]
      · rw [u8, if_neg (by decide), u7, if_neg (by decide), u6, if_neg (by decide), u5, if_neg (by decide), u4, if_neg (by decide), g3]
      · rw [u8, if_neg (by decide), u7, if_neg (by decide), u6, if_neg (by decide), u5, if_neg (by decide), u4, if_neg (by decide), u3, if_neg (by decide), u2, if_neg (by decide), u1, if_neg (by decide)]; exact hI.len
      · rw [u8, if_pos rfl]
      · rw [← hw3]
        exact ⟨hI.below.os, hI.below.tape, hI.below.output, by simpa using hI.below.size, fun k hk => (setRow_other w2 w.heap.size k _ (by omega)).trans (hI.below.block k hk)⟩
      · rw [← hw3]
        exact ⟨_, ty, setRow_heap w2 w.heap.size cur _ ty (0, 0) hcur, by simpa using hlist'⟩
      · rw [u8, if_pos rfl, hI.cnt]
        simp only [intOf]; omega
    · refine wp_cond_false (by rw [u1, if_pos rfl, decide_eq_false (by omega)]) (wp_exit ?_)
      show X.wp Tryd.prog Q y1 w2
      have hii : i = n := by have := hI.le; omega
      refine hX y1 w2 ⟨t1.trans hsz.symm, f1.trans hI.dfs, fun j hj => ?_, ?_, hI.below, ?_⟩
      · rw [← hI.other j hj]
        simp only [wr1, Bool.or_eq_false_iff, nbF] at hj
        rw [u1, if_neg (by exact hj.2.2.2.2.2.2.2.1)]
      · rw [u1, if_neg (by decide)]; exact hI.slice
      · obtain ⟨cur, ty, h1, h2⟩ := hI.row
        exact ⟨cur, ty, h1, by rw [h2, hii]; simp⟩

/-! ### The slice of temporary 5 -/

noncomputable def R2 : Code := seqA (seqB (seqB (seqB (seqB c7))))
noncomputable def L2 : Code := seqA (seqB (seqB (seqB (seqB (seqB c7)))))
noncomputable def A2 : Code := seqA L2
noncomputable def B2 : Code := lopB (blkB (seqB L2))
noncomputable def C2 : Code := seqA B2
noncomputable def D2 : Code := seqA (seqB B2)
noncomputable def E2 : Code := seqA (blkB (seqA (seqB (seqB B2))))
noncomputable def F2 : Code := seqB (blkB (seqA (seqB (seqB B2))))
noncomputable def G2 : Code := seqB (seqB (seqB B2))

theorem shR2 : R2 = .region 8 (regO R2) false := by kernel_rfl
theorem shA2 : A2 = .region 9 (regO A2) false := by kernel_rfl
theorem shC2 : C2 = .region 10 (regO C2) false := by kernel_rfl
theorem shE2 : E2 = .region 11 (regO E2) false := by kernel_rfl
theorem shF2 : F2 = .region 12 (regO F2) false := by kernel_rfl
theorem shG2 : G2 = .region 13 (regO G2) false := by kernel_rfl
theorem shL2 : L2 = .seq A2 (.block 2 (.loop (.seq C2 (.seq (.cond (.tmp 35) .skip (.exit 2)) (.seq (.block 3 (.seq E2 F2)) G2))))) := by kernel_rfl

/-- The temporaries that are written. -/
def wr2 (j : Nat) : Bool := Nat.beq j 29 || (Nat.beq j 30 || (Nat.beq j 31 || (Nat.beq j 5 || (Nat.beq j 32 || (Nat.beq j 33 || (Nat.beq j 34 || (Nat.beq j 35 || (Nat.beq j 36 || (Nat.beq j 6 || (Nat.beq j 37 || (Nat.beq j 38 || (Nat.beq j 39 || (Nat.beq j 40)))))))))))))

/-- What is left. -/
structure Post2 (a : Act) (w : World) (n : Nat) (a' : Act) (w' : World) : Prop where
  size : a'.tmps.size = a.tmps.size
  dfs : a'.defers = a.defers
  other : ∀ j, wr2 j = false → a'.eval (.tmp j) = a.eval (.tmp j)
  slice : a'.eval (.tmp 5) = .slice (some ⟨w.heap.size, 0, none⟩) n n
  below : Below w.heap.size w w'
  row : ∃ cur ty, w'.heap[w.heap.size]? = some (.cells cur ty (0, 0)) ∧ cur.toList = List.replicate n (.int .u8 97)

/-- What holds at the loop's head. -/
structure Inv2 (a : Act) (w : World) (n i : Nat) (a' : Act) (w' : World) : Prop where
  size : a'.tmps.size = a.tmps.size
  dfs : a'.defers = a.defers
  other : ∀ j, wr2 j = false → a'.eval (.tmp j) = a.eval (.tmp j)
  slice : a'.eval (.tmp 5) = .slice (some ⟨w.heap.size, 0, none⟩) n n
  len : a'.eval (.tmp 33) = .int .i64 n
  cnt : a'.eval (.tmp 34) = .int .i64 i
  le : i ≤ n
  below : Below w.heap.size w w'
  row : ∃ cur ty, w'.heap[w.heap.size]? = some (.cells cur ty (0, 0)) ∧ cur.toList = List.replicate i (.int .u8 97) ++ List.replicate (n - i) (.int .u8 0)

theorem fill2 {Q : Exit → Act → World → Prop} {X : Code} {a : Act} {w : World} (hsz : a.tmps.size = 115) {m : Int} {n : Nat} (hm : a.eval (.tmp 0) = .int .i64 m) (hn : IntKind.wrap .i64 (15 + m) = n) (hb : n ≤ 10000)
    (hX : ∀ a' w', Post2 a w n a' w' → X.wp Tryd.prog Q a' w') : (Code.seq R2 (Code.seq L2 X)).wp Tryd.prog Q a w := by
  have T : Tryd.prog.underlying 34 = some (.slice 5) := by kernel_rfl
  have S5 : szT Tryd.prog 5 = some 1 := by kernel_rfl
  obtain ⟨i5, hi5⟩ : ∃ i, Tryd.prog.info? 5 = some i := Option.isSome_iff_exists.mp (by kernel_rfl)
  have hz5 : (Tryd.prog.info? 5).bind (fun i => i.zero) = some (.int .u8 0) := by kernel_rfl
  have hs5 : (Tryd.prog.info? 5).map (fun i => i.size) = some 1 := by kernel_rfl
  have hb5 : (Tryd.prog.info? 5).map (fun i => i.bytes) = some 1 := by kernel_rfl
  rw [hi5] at hz5 hs5 hb5
  replace hz5 : i5.zero = some (.int .u8 0) := hz5
  replace hs5 : i5.size = 1 := Option.some.inj hs5
  replace hb5 : i5.bytes = 1 := Option.some.inj hb5
  -- the slice is made
  refine wp_seq ?_
  rw [shR2]
  refine wp_reg (n := 4) (by kernel_rfl) ?_
  show wpOps Tryd.prog (regO R2) _ [0, 1, 2, 3] a w
  refine wpOps_val (o := opAt R2 0) (by kernel_rfl) (by kernel_rfl) (run_move (x := .tmp 0) (by kernel_rfl)) ?_
  rw [show (opAt R2 0).dst = some 29 from by kernel_rfl, hm]
  generalize ha1 : a.put (some 29) (.int .i64 m) = x1
  have z1 : x1.tmps.size = 115 := by rw [← ha1, size_put]; exact hsz
  have v1 : ∀ i, x1.eval (.tmp i) = if i = 29 then .int .i64 m else a.eval (.tmp i) := fun i => by rw [← ha1]; exact ev_put (by omega) i
  have hv1 : x1.eval (.tmp 29) = .int .i64 m := (v1 29).trans (if_pos rfl)
  have hc1 : x1.eval (.const (.int .i64 15)) = .int .i64 15 := rfl
  refine wpOps_val (o := opAt R2 1) (by kernel_rfl) (by kernel_rfl) (run_add (t := 3) (u := 3) (x := .const (.int .i64 15)) (y := .tmp 29) (k := .i64) (n := 15) (m := m) (by kernel_rfl) hc1 hv1) ?_
  rw [show (opAt R2 1).dst = some 30 from by kernel_rfl, hn]
  generalize ha2 : x1.put (some 30) (.int .i64 (n : Int)) = x2
  have z2 : x2.tmps.size = 115 := by rw [← ha2, size_put]; exact z1
  have v2 : ∀ i, x2.eval (.tmp i) = if i = 30 then .int .i64 (n : Int) else x1.eval (.tmp i) := fun i => by rw [← ha2]; exact ev_put (by omega) i
  obtain ⟨w1, hrun, hrow, hgr⟩ := run_make_full (P := Tryd.prog) w w.heap.size 34 5 i5 (.int .u8 0) 1 T hi5 hz5 hs5 .i64 .i64 n (by rw [hb5]; omega) (by simp [maxLen]; omega) (Nat.le_refl _)
  refine wpOps_val (o := opAt R2 2) (v := .slice (some ⟨w.heap.size, 0, none⟩) n n) (w' := w1) (by kernel_rfl) (by kernel_rfl) (by
    have ho : (opAt R2 2).op = .makeSlice 34 (.tmp 30) (.tmp 30) := by kernel_rfl
    have hv : x2.eval (.tmp 30) = .int .i64 (n : Int) := v2 30
    simp [execOp, ho, hv, hrun]) ?_
  rw [show (opAt R2 2).dst = some 31 from by kernel_rfl]
  generalize ha3 : x2.put (some 31) (.slice (some ⟨w.heap.size, 0, none⟩) n n) = x3
  have z3 : x3.tmps.size = 115 := by rw [← ha3, size_put]; exact z2
  have v3 : ∀ i, x3.eval (.tmp i) = if i = 31 then .slice (some ⟨w.heap.size, 0, none⟩) n n else x2.eval (.tmp i) := fun i => by rw [← ha3]; exact ev_put (by omega) i
  refine wpOps_val (o := opAt R2 3) (by kernel_rfl) (by kernel_rfl) (run_assign (x := .tmp 31) (by kernel_rfl)) ?_
  rw [show (opAt R2 3).dst = some 5 from by kernel_rfl, v3 31, if_pos rfl]
  generalize ha4 : x3.put (some 5) (.slice (some ⟨w.heap.size, 0, none⟩) n n) = x4
  have z4 : x4.tmps.size = 115 := by rw [← ha4, size_put]; exact z3
  have v4 : ∀ i, x4.eval (.tmp i) = if i = 5 then .slice (some ⟨w.heap.size, 0, none⟩) n n else x3.eval (.tmp i) := fun i => by rw [← ha4]; exact ev_put (by omega) i
  -- the row that was made
  have hw1 : Below w.heap.size w w1 := ⟨hgr.os, hgr.tape, hgr.output, hgr.size, fun k hk => hgr.block k hk (by simp)⟩
  have hr1 : ∃ cur ty, w1.heap[w.heap.size]? = some (.cells cur ty (0, 0)) ∧ cur.toList = List.replicate n (.int .u8 0) := by
    obtain ⟨hl, ⟨h1, _⟩ | ⟨b, cap, cur, h1, h2, h3, h4, h5, h6, h7⟩⟩ := hrow
    · cases h1
    · cases h1
      refine ⟨cur, 5, h3, ?_⟩
      have hc : (Value.int IntKind.u8 0).cells = #[.int .u8 0] := rfl
      rw [hc, toList_madeCells_one, Nat.mul_one] at h7
      rw [← h7, List.take_of_length_le]
      simp; omega
  -- the loop's head
  show (Code.seq L2 X).wp Tryd.prog Q x4 w1
  refine wp_seq ?_
  rw [shL2]
  refine wp_seq ?_
  rw [shA2]
  refine wp_reg (n := 3) (by kernel_rfl) ?_
  show wpOps Tryd.prog (regO A2) _ [0, 1, 2] x4 w1
  have e4 : x4.eval (.tmp 5) = .slice (some ⟨w.heap.size, 0, none⟩) n n := v4 5
  refine wpOps_val (o := opAt A2 0) (by kernel_rfl) (by kernel_rfl) (run_move (x := .tmp 5) (by kernel_rfl)) ?_
  rw [show (opAt A2 0).dst = some 32 from by kernel_rfl, e4]
  generalize ha5 : x4.put (some 32) (.slice (some ⟨w.heap.size, 0, none⟩) n n) = x5
  have z5 : x5.tmps.size = 115 := by rw [← ha5, size_put]; exact z4
  have v5 : ∀ i, x5.eval (.tmp i) = if i = 32 then .slice (some ⟨w.heap.size, 0, none⟩) n n else x4.eval (.tmp i) := fun i => by rw [← ha5]; exact ev_put (by omega) i
  obtain ⟨c, hc0⟩ : ∃ c, callO (opAt A2 1).op = some c := Option.isSome_iff_exists.mp (by kernel_rfl)
  have hc1 := callO_eq hc0
  have hc2 : (callO (opAt A2 1).op).map (fun c => c.callee) = some (.builtin .len) := by kernel_rfl
  have hc3 : (callO (opAt A2 1).op).map (fun c => c.argTypes.toList) = some [34] := by kernel_rfl
  have hc4 : (callO (opAt A2 1).op).map (fun c => c.args.toList) = some [.tmp 32] := by kernel_rfl
  rw [hc0] at hc2 hc3 hc4
  replace hc2 := Option.some.inj hc2
  replace hc3 := Option.some.inj hc3
  replace hc4 := Option.some.inj hc4
  refine wpOps_val (o := opAt A2 1) (by kernel_rfl) (by kernel_rfl) (run_len hc1 hc2 hc3 hc4 T (v5 32)) ?_
  rw [show (opAt A2 1).dst = some 33 from by kernel_rfl]
  generalize ha6 : x5.put (some 33) (.int .i64 (n : Int)) = x6
  have z6 : x6.tmps.size = 115 := by rw [← ha6, size_put]; exact z5
  have v6 : ∀ i, x6.eval (.tmp i) = if i = 33 then .int .i64 (n : Int) else x5.eval (.tmp i) := fun i => by rw [← ha6]; exact ev_put (by omega) i
  refine wpOps_val (o := opAt A2 2) (by kernel_rfl) (by kernel_rfl) (run_move (x := .const (.int .i64 0)) (by kernel_rfl)) ?_
  rw [show (opAt A2 2).dst = some 34 from by kernel_rfl]
  generalize ha7 : x6.put (some 34) (x6.eval (.const (.int .i64 0))) = x7
  have z7 : x7.tmps.size = 115 := by rw [← ha7, size_put]; exact z6
  have v7 : ∀ i, x7.eval (.tmp i) = if i = 34 then .int .i64 0 else x6.eval (.tmp i) := fun i => by rw [← ha7]; exact ev_put (by omega) i
  have d7 : x7.defers = a.defers := by rw [← ha7, defers_put, ← ha6, defers_put, ← ha5, defers_put, ← ha4, defers_put, ← ha3, defers_put, ← ha2, defers_put, ← ha1, defers_put]
  show (Code.block 2 _).wp Tryd.prog _ x7 w1
  refine wp_block (wp_loop (fun a' w' => ∃ i, Inv2 a w n i a' w') (fun a' _ => n - (intOf (a'.eval (.tmp 34))).toNat) ⟨0, ?_⟩ ?_)
  · refine ⟨z7.trans hsz.symm, d7, fun j hj => ?_, ?_, ?_, ?_, Nat.zero_le _, hw1, ?_⟩
    · simp only [wr2, Bool.or_eq_false_iff, nbF] at hj
      simp only [v7, v6, v5, v4, v3, v2, v1]
      rw [if_neg hj.2.2.2.2.2.2.1, if_neg hj.2.2.2.2.2.1, if_neg hj.2.2.2.2.1, if_neg hj.2.2.2.1, if_neg hj.2.2.1, if_neg hj.2.1, if_neg hj.1]
    · rw [v7, if_neg (by decide), v6, if_neg (by decide), v5, if_neg (by decide), e4]
    · rw [v7, if_neg (by decide), v6, if_pos rfl]
    · rw [v7, if_pos rfl]; rfl
    · obtain ⟨cur, ty, h1, h2⟩ := hr1
      exact ⟨cur, ty, h1, by simpa using h2⟩
  · rintro a1 w2 ⟨i, hI⟩
    refine wp_seq ?_
    rw [shC2]
    refine wp_reg (n := 1) (by kernel_rfl) ?_
    show wpOps Tryd.prog (regO C2) _ [0] a1 w2
    refine wpOps_val (o := opAt C2 0) (by kernel_rfl) (by kernel_rfl) (run_lss (t := 3) (u := 3) (x := .tmp 34) (y := .tmp 33) (by kernel_rfl) hI.cnt hI.len) ?_
    rw [show (opAt C2 0).dst = some 35 from by kernel_rfl]
    have y0 : a1.tmps.size = 115 := hI.size.trans hsz
    generalize hq1 : a1.put (some 35) (.bool (decide ((i : Int) < (n : Int)))) = y1
    have t1 : y1.tmps.size = 115 := by rw [← hq1, size_put]; exact y0
    have u1 : ∀ i', y1.eval (.tmp i') = if i' = 35 then .bool (decide ((i : Int) < (n : Int))) else a1.eval (.tmp i') := fun i' => by rw [← hq1]; exact ev_put (by omega) i'
    have f1 : y1.defers = a1.defers := by rw [← hq1, defers_put]
    show (Code.seq (.cond (.tmp 35) .skip (.exit 2)) (.seq (.block 3 (.seq E2 F2)) G2)).wp Tryd.prog _ y1 w2
    refine wp_seq ?_
    by_cases hin : i < n
    · refine wp_cond_true (by rw [u1, if_pos rfl, decide_eq_true (by omega)]) (wp_skip ?_)
      show (Code.seq (.block 3 (.seq E2 F2)) G2).wp Tryd.prog _ y1 w2
      refine wp_seq (wp_block (wp_seq ?_))
      rw [shE2]
      refine wp_reg (n := 2) (by kernel_rfl) ?_
      show wpOps Tryd.prog (regO E2) _ [0, 1] y1 w2
      have g1 : y1.eval (.tmp 34) = .int .i64 (i : Int) := by rw [u1, if_neg (by decide)]; exact hI.cnt
      refine wpOps_val (o := opAt E2 0) (by kernel_rfl) (by kernel_rfl) (run_move (x := .tmp 34) (by kernel_rfl)) ?_
      rw [show (opAt E2 0).dst = some 36 from by kernel_rfl, g1]
      generalize hq2 : y1.put (some 36) (.int .i64 (i : Int)) = y2
      have t2 : y2.tmps.size = 115 := by rw [← hq2, size_put]; exact t1
      have u2 : ∀ i', y2.eval (.tmp i') = if i' = 36 then .int .i64 (i : Int) else y1.eval (.tmp i') := fun i' => by rw [← hq2]; exact ev_put (by omega) i'
      refine wpOps_val (o := opAt E2 1) (by kernel_rfl) (by kernel_rfl) (run_assign (x := .tmp 36) (by kernel_rfl)) ?_
      rw [show (opAt E2 1).dst = some 6 from by kernel_rfl, u2 36, if_pos rfl]
      generalize hq3 : y2.put (some 6) (.int .i64 (i : Int)) = y3
      have t3 : y3.tmps.size = 115 := by rw [← hq3, size_put]; exact t2
      have u3 : ∀ i', y3.eval (.tmp i') = if i' = 6 then .int .i64 (i : Int) else y2.eval (.tmp i') := fun i' => by rw [← hq3]; exact ev_put (by omega) i'
      show (F2).wp Tryd.prog _ y3 w2
      rw [shF2]
      refine wp_reg (n := 4) (by kernel_rfl) ?_
      show wpOps Tryd.prog (regO F2) _ [0, 1, 2, 3] y3 w2
      have g3 : y3.eval (.tmp 5) = .slice (some ⟨w.heap.size, 0, none⟩) n n := by rw [u3, if_neg (by decide), u2, if_neg (by decide), u1, if_neg (by decide)]; exact hI.slice
      refine wpOps_val (o := opAt F2 0) (by kernel_rfl) (by kernel_rfl) (run_move (x := .tmp 5) (by kernel_rfl)) ?_
      rw [show (opAt F2 0).dst = some 37 from by kernel_rfl, g3]
      generalize hq4 : y3.put (some 37) (.slice (some ⟨w.heap.size, 0, none⟩) n n) = y4
      have t4 : y4.tmps.size = 115 := by rw [← hq4, size_put]; exact t3
      have u4 : ∀ i', y4.eval (.tmp i') = if i' = 37 then .slice (some ⟨w.heap.size, 0, none⟩) n n else y3.eval (.tmp i') := fun i' => by rw [← hq4]; exact ev_put (by omega) i'
      have g4 : y4.eval (.tmp 6) = .int .i64 (i : Int) := by rw [u4, if_neg (by decide), u3, if_pos rfl]
      refine wpOps_val (o := opAt F2 1) (by kernel_rfl) (by kernel_rfl) (run_move (x := .tmp 6) (by kernel_rfl)) ?_
      rw [show (opAt F2 1).dst = some 38 from by kernel_rfl, g4]
      generalize hq5 : y4.put (some 38) (.int .i64 (i : Int)) = y5
      have t5 : y5.tmps.size = 115 := by rw [← hq5, size_put]; exact t4
      have u5 : ∀ i', y5.eval (.tmp i') = if i' = 38 then .int .i64 (i : Int) else y4.eval (.tmp i') := fun i' => by rw [← hq5]; exact ev_put (by omega) i'
      have g5 : y5.eval (.tmp 37) = .slice (some ⟨w.heap.size, 0, none⟩) n n := by rw [u5, if_neg (by decide), u4, if_pos rfl]
      refine wpOps_val (o := opAt F2 2) (by kernel_rfl) (by kernel_rfl) (run_indexAddr (x := .tmp 37) (i := .tmp 38) (by kernel_rfl) T S5 g5 (u5 38) hin) ?_
      rw [show (opAt F2 2).dst = some 39 from by kernel_rfl]
      generalize hq6 : y5.put (some 39) (.pointer (some ⟨w.heap.size, i, none⟩)) = y6
      have t6 : y6.tmps.size = 115 := by rw [← hq6, size_put]; exact t5
      have u6 : ∀ i', y6.eval (.tmp i') = if i' = 39 then .pointer (some ⟨w.heap.size, i, none⟩) else y5.eval (.tmp i') := fun i' => by rw [← hq6]; exact ev_put (by omega) i'
      obtain ⟨cur, ty, hcur, hlist⟩ := hI.row
      have hcs : cur.size = n := by
        have := congrArg List.length hlist
        simp at this; have := hI.le; omega
      refine wpOps_skip (o := opAt F2 3) (by kernel_rfl) (by kernel_rfl) (by kernel_rfl) (run_store (x := .tmp 39) (y := .const (.int .u8 97)) (v := .int .u8 97) (by kernel_rfl) S5 (u6 39) rfl rfl rfl hcur (by omega)) ?_
      generalize hw3 : w2.setRow w.heap.size (cur.toList.take i ++ [Value.int .u8 97] ++ cur.toList.drop (i + 1)).toArray = w3
      show (G2).wp Tryd.prog _ y6 w3
      rw [shG2]
      refine wp_reg (n := 2) (by kernel_rfl) ?_
      show wpOps Tryd.prog (regO G2) _ [0, 1] y6 w3
      have g6 : y6.eval (.tmp 34) = .int .i64 (i : Int) := by rw [u6, if_neg (by decide), u5, if_neg (by decide), u4, if_neg (by decide), u3, if_neg (by decide), u2, if_neg (by decide), g1]
      refine wpOps_val (o := opAt G2 0) (by kernel_rfl) (by kernel_rfl) (run_add (t := 3) (u := 3) (x := .tmp 34) (y := .const (.int .i64 1)) (by kernel_rfl) g6 rfl) ?_
      rw [show (opAt G2 0).dst = some 40 from by kernel_rfl, show IntKind.wrap .i64 ((i : Int) + 1) = ((i + 1 : Nat) : Int) from by
        simp only [IntKind.wrap, IntKind.signed, IntKind.bits]; simp; omega]
      generalize hq7 : y6.put (some 40) (.int .i64 ((i + 1 : Nat) : Int)) = y7
      have t7 : y7.tmps.size = 115 := by rw [← hq7, size_put]; exact t6
      have u7 : ∀ i', y7.eval (.tmp i') = if i' = 40 then .int .i64 ((i + 1 : Nat) : Int) else y6.eval (.tmp i') := fun i' => by rw [← hq7]; exact ev_put (by omega) i'
      refine wpOps_val (o := opAt G2 1) (by kernel_rfl) (by kernel_rfl) (run_move (x := .tmp 40) (by kernel_rfl)) ?_
      rw [show (opAt G2 1).dst = some 34 from by kernel_rfl, u7 40, if_pos rfl]
      generalize hq8 : y7.put (some 34) (.int .i64 ((i + 1 : Nat) : Int)) = y8
      have t8 : y8.tmps.size = 115 := by rw [← hq8, size_put]; exact t7
      have u8 : ∀ i', y8.eval (.tmp i') = if i' = 34 then .int .i64 ((i + 1 : Nat) : Int) else y7.eval (.tmp i') := fun i' => by rw [← hq8]; exact ev_put (by omega) i'
      have d8 : y8.defers = a.defers := by rw [← hq8, defers_put, ← hq7, defers_put, ← hq6, defers_put, ← hq5, defers_put, ← hq4, defers_put, ← hq3, defers_put, ← hq2, defers_put, ← hq1, defers_put]; exact hI.dfs
      have hlist' : (cur.toList.take i ++ [Value.int .u8 97] ++ cur.toList.drop (i + 1)) = List.replicate (i + 1) (.int .u8 97) ++ List.replicate (n - (i + 1)) (.int .u8 0) := by
        rw [hlist, List.take_append_of_le_length (by simp), List.take_of_length_le (by simp), List.drop_append, List.drop_eq_nil_of_le (by simp), List.nil_append, List.length_replicate, List.drop_replicate, List.replicate_succ']
        congr 2; omega
      show (∃ i, Inv2 a w n i y8 w3) ∧ n - (intOf (y8.eval (.tmp 34))).toNat < n - (intOf (a1.eval (.tmp 34))).toNat
      refine ⟨⟨i + 1, t8.trans hsz.symm, d8, fun j hj => ?_, ?_, ?_, ?_, hin, ?_, ?_⟩, ?_⟩
      · rw [← hI.other j hj]
        simp only [wr2, Bool.or_eq_false_iff, nbF] at hj
        simp only [u8, u7, u6, u5, u4, u3, u2, u1]
        rw [if_neg hj.2.2.2.2.2.2.1, if_neg hj.2.2.2.2.2.2.2.2.2.2.2.2.2, if_neg hj.2.2.2.2.2.2.2.2.2.2.2.2.1, if_neg hj.2.2.2.2.2.2.2.2.2.2.2.1, if_neg hj.2.2.2.2.2.2.2.2.2.2.1, if_neg hj.2.2.2.2.2.2.2.2.2.1, if_neg hj.2.2.2.2.2.2.2.2.1, if_neg hj.2.2.2.2.2.2.2.1]
      · rw [u8, if_neg (by decide), u7, if_neg (by decide), u6, if_neg (by decide), u5, if_neg (by decide), u4, if_neg (by decide), g3]
      · rw [u8, if_neg (by decide), u7, if_neg (by decide), u6, if_neg (by decide), u5, if_neg (by decide), u4, if_neg (by decide), u3, if_neg (by decide), u2, if_neg (by decide), u1, if_neg (by decide)]; exact hI.len
      · rw [u8, if_pos rfl]
      · rw [← hw3]
        exact ⟨hI.below.os, hI.below.tape, hI.below.output, by simpa using hI.below.size, fun k hk => (setRow_other w2 w.heap.size k _ (by omega)).trans (hI.below.block k hk)⟩
      · rw [← hw3]
        exact ⟨_, ty, setRow_heap w2 w.heap.size cur _ ty (0, 0) hcur, by simpa using hlist'⟩
      · rw [u8, if_pos rfl, hI.cnt]
        simp only [intOf]; omega
    · refine wp_cond_false (by rw [u1, if_pos rfl, decide_eq_false (by omega)]) (wp_exit ?_)
      show X.wp Tryd.prog Q y1 w2
      have hii : i = n := by have := hI.le; omega
      refine hX y1 w2 ⟨t1.trans hsz.symm, f1.trans hI.dfs, fun j hj => ?_, ?_, hI.below, ?_⟩
      · rw [← hI.other j hj]
        simp only [wr2, Bool.or_eq_false_iff, nbF] at hj
        rw [u1, if_neg (by exact hj.2.2.2.2.2.2.2.1)]
      · rw [u1, if_neg (by decide)]; exact hI.slice
      · obtain ⟨cur, ty, h1, h2⟩ := hI.row
        exact ⟨cur, ty, h1, by rw [h2, hii]; simp⟩

end Go.Proofs.YtdhpgcjhiommkaaDoor.Ev
