/- This file proves that the evaluator's arithmetic, comparisons, conversions, slicing and indexing give the model's values; without any condition. -/
import Derived.Test.YtdhpgcjhiommkaaDoorEvP
import Derived.Laws.BytesString
import Derived.Laws.StructEq
set_option linter.unusedVariables false
set_option linter.unusedSimpArgs false
namespace Go.Proofs.YtdhpgcjhiommkaaDoor.Ev

section
variable {S : Sig} {P : Program} {L : Lay S} {g : Gh} {st : St S} {a : Act} {w : World}

theorem PRel.d_int {β : Nat → Option Nat} {G : Nat → Nat → Option Value} {k : IntKind} {n : Int} {v : Value} (h : PRel L β G (.d (.int k n)) v) : v = .int k n := by
  simp only [PRel] at h; cases h; rfl
theorem PRel.d_str {β : Nat → Option Nat} {G : Nat → Nat → Option Value} {s : ByteArray} {v : Value} (h : PRel L β G (.d (.str s)) v) : v = .string s := by
  simp only [PRel] at h; cases h; rfl
theorem PRel.d_bool {β : Nat → Option Nat} {G : Nat → Nat → Option Value} {b : Bool} {v : Value} (h : PRel L β G (.d (.bool b)) v) : v = .bool b := by
  simp only [PRel] at h; cases h; rfl

theorem part_plain {t : TypeId} {d : TypeDesc} (hu : P.underlying t = some d) (hd : d = .bool ∨ d = .string ∨ ∃ k, d = .int k) {xs : Array Value} {o : Nat} {v : Value} (hv : xs[o]? = some v) : (part t xs o).run P w = .ok v w := by
  rcases hd with rfl | rfl | ⟨k, rfl⟩ <;> simp [part, isAgg, run_underlying hu, hv]

theorem eqFlds_run {β : Nat → Option Nat} {G : Nat → Nat → Option Value} {d : Nat} {cs ds : List (PV S)} {vs us : List Value} (hc : PRels L β G cs vs) (hd : PRels L β G ds us) : ∀ {fs : List Field} {t : Bool},
    eqFlds P fs cs ds = some t → (Op.eqFields (d + 1) vs.toArray us.toArray fs).run P w = .ok t w
  | [], t, h => by
    simp only [eqFlds, Option.some.injEq] at h
    subst h; rfl
  | f :: r, t, h => by
    simp only [eqFlds] at h
    have fin : ∀ {b t' : Bool} {v u : Value}, (f.name == "_") = false → (part f.type vs.toArray f.offset).run P w = .ok v w → (part f.type us.toArray f.offset).run P w = .ok u w →
        (Op.equalIn (d + 1) f.type v u).run P w = .ok b w → eqFlds P r cs ds = some t' → (Op.eqFields (d + 1) vs.toArray us.toArray (f :: r)).run P w = .ok (b && t') w := by
      intro b t' v u hn h1 h2 h3 h4
      have hn' : f.name ≠ "_" := by simpa using hn
      simp only [Op.eqFields, if_pos hn', Sem.run_bind, h1, h2, h3, Result.andThen_ok]
      cases b with
      | false => rfl
      | true => simpa using eqFlds_run hc hd h4
    split at h
    · rename_i k k1 a1 k2 b1 t' e1 e2 e3 e4 e5
      split at h
      · rename_i hk
        subst hk
        cases h
        obtain ⟨v, hv, hr⟩ := hc.get e3
        obtain ⟨u, hu, hr'⟩ := hd.get e4
        cases hr.d_int; cases hr'.d_int
        exact fin e1 (part_plain e2 (.inr (.inr ⟨_, rfl⟩)) (by simpa using hv)) (part_plain e2 (.inr (.inr ⟨_, rfl⟩)) (by simpa using hu)) (run_equalIn_int w d _ _ _ _ _ e2) e5
      · cases h
    · rename_i a1 b1 t' e1 e2 e3 e4 e5
      cases h
      obtain ⟨v, hv, hr⟩ := hc.get e3
      obtain ⟨u, hu, hr'⟩ := hd.get e4
      cases hr.d_str; cases hr'.d_str
      exact fin e1 (part_plain e2 (.inr (.inl rfl)) (by simpa using hv)) (part_plain e2 (.inr (.inl rfl)) (by simpa using hu)) (run_equalIn_string w d _ _ _ e2) e5
    · rename_i a1 b1 t' e1 e2 e3 e4 e5
      cases h
      obtain ⟨v, hv, hr⟩ := hc.get e3
      obtain ⟨u, hu, hr'⟩ := hd.get e4
      cases hr.d_bool; cases hr'.d_bool
      exact fin e1 (part_plain e2 (.inl rfl) (by simpa using hv)) (part_plain e2 (.inl rfl) (by simpa using hu)) (run_equalIn_bool' w d _ _ _ e2) e5
    · cases h

/-- The value that a binary operation gives, if the evaluator gives one. -/
theorem binK_run (h : Inv L g st a w) {o : Oper} {op : BinOp} {xt yt : TypeId} {x y : Operand} (ho : o.op = .binOp op xt x y yt) {p q : PV S} (hp : rd P L st xt x = some p) (hq : rd P L st yt y = some q)
    {out : Out S} (hk : binK P o op xt x y p q some = some out) : ∃ (r : DV S) (v : Value), out = val o (.d r) ∧ DRel L g.G r v ∧ (execOp a.eval o).run P w = .ok (.value v) w := by
  have hx := (rd_rel h hp).1
  have hy := (rd_rel h hq).1
  unfold binK at hk
  split at hk
  · rename_i k a1 k' b1
    have ex := hx.d_int
    have ey := hy.d_int
    split at hk
    · rename_i hkk
      subst hkk
      have base : ∀ (r : Value), (eqGuard op xt x y (.int k a1) (.int k b1)).run P w = .ok () w := by
        intro r; unfold eqGuard; cases op <;> rfl
      have mk : ∀ (r : DV S) (v : Value), DRel L g.G r v → (binOp op xt (.int k a1) (.int k b1)).run P w = .ok v w → (execOp a.eval o).run P w = .ok (.value v) w := by
        intro r v _ hr
        simp only [execOp, ho, ex, ey, Sem.run_bind, base v, Result.andThen_ok, hr, Sem.run_pure]
      split at hk
      · cases hk; exact ⟨_, _, rfl, .int _ _, mk _ _ (.int _ _) (by simp [binOp, Op.intArith])⟩
      · cases hk; exact ⟨_, _, rfl, .int _ _, mk _ _ (.int _ _) (by simp [binOp, Op.intArith])⟩
      · cases hk; exact ⟨_, _, rfl, .int _ _, mk _ _ (.int _ _) (by simp [binOp, Op.intArith])⟩
      · cases hb : (b1 == 0)
        · rw [hb] at hk; cases hk
          have : ¬ b1 = 0 := by simpa using hb
          exact ⟨_, _, rfl, .int _ _, mk _ _ (.int _ _) (by simp [binOp, Op.intDiv, this])⟩
        · rw [hb] at hk; cases hk
      · cases hb : (b1 == 0)
        · rw [hb] at hk; cases hk
          have : ¬ b1 = 0 := by simpa using hb
          exact ⟨_, _, rfl, .int _ _, mk _ _ (.int _ _) (by simp [binOp, Op.intDiv, this])⟩
        · rw [hb] at hk; cases hk
      · rename_i h1 h2 h3 h4 h5
        cases hc : cmpInt op a1 b1 with
        | none => rw [hc] at hk; cases hk
        | some c =>
          rw [hc] at hk; cases hk
          refine ⟨_, _, rfl, .bool _, mk _ _ (.bool c) ?_⟩
          unfold cmpInt at hc
          cases op <;> simp at hc <;> subst hc <;> simp [binOp, Op.intCmp]
    · cases hk
  · rename_i s1 s2
    have ex := hx.d_str
    have ey := hy.d_str
    have base : (eqGuard op xt x y (.string s1) (.string s2)).run P w = .ok () w := by unfold eqGuard; cases op <;> rfl
    have mk : ∀ (v : Value), (binOp op xt (.string s1) (.string s2)).run P w = .ok v w → (execOp a.eval o).run P w = .ok (.value v) w := by
      intro v hr
      simp only [execOp, ho, ex, ey, Sem.run_bind, base, Result.andThen_ok, hr, Sem.run_pure]
    split at hk
    · cases hb : decide (s1.size + s2.size ≤ 9223372036854775807)
      · rw [hb] at hk; cases hk
      · rw [hb] at hk; cases hk
        refine ⟨_, _, rfl, .str _, mk _ ?_⟩
        have hle : s1.size + s2.size ≤ 9223372036854775807 := of_decide_eq_true hb
        have : ¬ (((s1.size + s2.size : Nat) : Int) > IntKind.i64.max) := by
          have e : IntKind.i64.max = 9223372036854775807 := by decide
          rw [e]; omega
        simp only [binOp, Op.stringOp, if_neg this, Sem.run_pure]
    · cases hk; exact ⟨_, _, rfl, .bool _, mk _ (by simp [binOp, Op.stringOp, strEq])⟩
    · cases hk; exact ⟨_, _, rfl, .bool _, mk _ (by simp [binOp, Op.stringOp, strEq])⟩
    · cases hk
  · rename_i b1 b2
    have ex := hx.d_bool
    have ey := hy.d_bool
    have base : (eqGuard op xt x y (.bool b1) (.bool b2)).run P w = .ok () w := by unfold eqGuard; cases op <;> rfl
    split at hk
    · have hu : P.underlying xt = some .bool := by assumption
      cases hk
      refine ⟨_, .bool (b1 == b2), rfl, .bool _, ?_⟩
      have : (Op.equal xt (.bool b1) (.bool b2)).run P w = .ok (b1 == b2) w := by
        unfold Op.equal Op.maxDepth Op.equalIn
        rw [Sem.run_bind, run_underlying hu]; rfl
      simp only [execOp, ho, ex, ey, Sem.run_bind, base, Result.andThen_ok, binOp, this, Sem.run_pure]
    · have hu : P.underlying xt = some .bool := by assumption
      cases hk
      refine ⟨_, .bool (!(b1 == b2)), rfl, .bool _, ?_⟩
      have : (Op.equal xt (.bool b1) (.bool b2)).run P w = .ok (b1 == b2) w := by
        unfold Op.equal Op.maxDepth Op.equalIn
        rw [Sem.run_bind, run_underlying hu]; rfl
      simp only [execOp, ho, ex, ey, Sem.run_bind, base, Result.andThen_ok, binOp, this, Sem.run_pure]
    · cases hk
  · simp only [PRel] at hx hy
    split at hk
    · obtain ⟨ms, hu⟩ : ∃ ms, P.underlying xt = some (.interface ms) := ⟨_, by assumption⟩
      cases hk
      refine ⟨_, .bool true, rfl, .bool _, ?_⟩
      have base : ∀ z, (eqGuard .eql xt x (.const z) .nilIface .nilIface).run P w = .ok () w := by intro z; unfold eqGuard; simp
      have : (Op.equal xt .nilIface .nilIface).run P w = .ok true w := by
        unfold Op.equal Op.maxDepth Op.equalIn
        rw [Sem.run_bind, run_underlying hu]; rfl
      simp only [execOp, ho, hx, hy, Sem.run_bind, base, Result.andThen_ok, binOp, this, Sem.run_pure]
    · obtain ⟨ms, hu⟩ : ∃ ms, P.underlying xt = some (.interface ms) := ⟨_, by assumption⟩
      cases hk
      refine ⟨_, .bool false, rfl, .bool _, ?_⟩
      have base : ∀ z, (eqGuard .neq xt x (.const z) .nilIface .nilIface).run P w = .ok () w := by intro z; unfold eqGuard; simp
      have : (Op.equal xt .nilIface .nilIface).run P w = .ok true w := by
        unfold Op.equal Op.maxDepth Op.equalIn
        rw [Sem.run_bind, run_underlying hu]; rfl
      simp only [execOp, ho, hx, hy, Sem.run_bind, base, Result.andThen_ok, binOp, this, Sem.run_pure]; rfl
    · cases hk
  · simp only [PRel] at hx hy
    obtain ⟨u, hx, _⟩ := hx
    split at hk
    · obtain ⟨ms, hu⟩ : ∃ ms, P.underlying xt = some (.interface ms) := ⟨_, by assumption⟩
      cases hk
      refine ⟨_, .bool false, rfl, .bool _, ?_⟩
      have base : ∀ t', (eqGuard .eql xt x y (.iface t' u) .nilIface).run P w = .ok () w := by intro t'; unfold eqGuard; rfl
      have : ∀ t', (Op.equal xt (.iface t' u) .nilIface).run P w = .ok false w := by
        intro t'
        unfold Op.equal Op.maxDepth Op.equalIn
        rw [Sem.run_bind, run_underlying hu]; rfl
      simp only [execOp, ho, hx, hy, Sem.run_bind, base, Result.andThen_ok, binOp, this, Sem.run_pure]
    · obtain ⟨ms, hu⟩ : ∃ ms, P.underlying xt = some (.interface ms) := ⟨_, by assumption⟩
      cases hk
      refine ⟨_, .bool true, rfl, .bool _, ?_⟩
      have base : ∀ t', (eqGuard .neq xt x y (.iface t' u) .nilIface).run P w = .ok () w := by intro t'; unfold eqGuard; rfl
      have : ∀ t', (Op.equal xt (.iface t' u) .nilIface).run P w = .ok false w := by
        intro t'
        unfold Op.equal Op.maxDepth Op.equalIn
        rw [Sem.run_bind, run_underlying hu]; rfl
      simp only [execOp, ho, hx, hy, Sem.run_bind, base, Result.andThen_ok, binOp, this, Sem.run_pure]; rfl
    · cases hk
  · rename_i cs ds
    split at hk
    · rename_i fs e1 e3 e4
      split at hk
      · rename_i t e5
        cases hk
        simp only [PRel] at hx hy
        obtain ⟨vs, hx, hvs⟩ := hx
        obtain ⟨us, hy, hus⟩ := hy
        refine ⟨_, .bool t, rfl, .bool _, ?_⟩
        have hfs : P.fieldsOf xt = fs := by simp [Program.fieldsOf, e1]
        have := eqFlds_run (w := w) (d := 9998) hvs hus e5
        simp only [execOp, ho, hx, hy, Sem.run_bind, run_eqGuard_agg w _ _ _ _ _ _ e3, Result.andThen_ok, run_eql_struct]
        rw [run_equalIn_agg w 9999 xt _ _ (by rw [hfs]; exact e1) e4, hfs, this]
        rfl
      · cases hk
    · cases hk
  · cases hk

theorem step_bin (h : Inv L g st a w) {o : Oper} {op : BinOp} {xt yt : TypeId} {x y : Operand} (ho : o.op = .binOp op xt x y yt) {p q : PV S} (hp : rd P L st xt x = some p) (hq : rd P L st yt y = some q)
    {out : Out S} (hk : binK P o op xt x y p q some = some out) (hd : ∀ e, out = .ok e → fits st.nt e.w = true) : StepOk P L g w st o a out := by
  obtain ⟨r, v, rfl, hr, hrun⟩ := binK_run h ho hp hq hk
  exact step_val h (hd _ rfl) hrun (by simpa only [PRel] using hr) rfl

theorem bytes_cells {k : S.K} {l : List (S.El k)} {ns : List Int} (hb : byteList (l.map (L.cells k)) = some ns) :
    ns.length = l.length ∧ ∀ (i : Nat) (x : S.El k), l[i]? = some x → ∃ n, ns[i]? = some n ∧ L.cells k x = [.int .u8 n] := by
  induction l generalizing ns with
  | nil => simp [byteList] at hb; subst hb; simp
  | cons x l ih =>
    simp only [List.map_cons] at hb
    generalize hc : L.cells k x = cs at hb
    unfold byteList at hb
    split at hb
    · rename_i h; simp at h
    · rename_i n r heq
      simp at heq
      obtain ⟨rfl, rfl⟩ := heq
      cases hr : byteList (l.map (L.cells k)) with
      | none => simp [hr] at hb
      | some ms =>
        simp [hr] at hb; subst hb
        obtain ⟨h1, h2⟩ := ih hr
        refine ⟨by simp [h1], fun i y hy => ?_⟩
        cases i with
        | zero => simp at hy; subst hy; exact ⟨n, rfl, hc⟩
        | succ i => simp at hy; obtain ⟨m, e1, e2⟩ := h2 i y hy; exact ⟨m, by simpa using e1, e2⟩
    · cases hb

/-- The bytes of a slice, loaded. -/
theorem load_bytes (h : MemInv L g st.mem w) {k : S.K} {l : List (S.El k)} {ns : List Int} (hb : byteList (l.map (L.cells k)) = some ns) {v : Value} (hv : DRel L g.G (.sl k l) v) :
    v = .slice none 0 0 ∧ ns = [] ∨ ∃ ad c, v = .slice (some ad) l.length c ∧ (loadCells ad l.length).run P w = .ok (ns.map (Value.int .u8)).toArray w := by
  obtain ⟨hlen, hcell⟩ := bytes_cells hb
  rcases hv.sl_inv with ⟨rfl, rfl⟩ | ⟨rfl, ad, c, rfl⟩ | ⟨b, o, c, rfl, hc, hrel⟩
  · exact .inl ⟨rfl, by simpa using hlen⟩
  · have : ns = [] := by simpa using hlen
    subst this
    exact .inr ⟨ad, c, rfl, by simp [loadCells, loadCellsFrom]⟩
  · refine .inr ⟨_, c, rfl, ?_⟩
    by_cases hl : l = []
    · subst hl; simp at hlen; subst hlen; simp [loadCells, loadCellsFrom]
    · have hsz : L.sz k = 1 := by
        obtain ⟨x, l', rfl⟩ : ∃ x l', l = x :: l' := by cases l with | nil => exact absurd rfl hl | cons x l' => exact ⟨x, l', rfl⟩
        obtain ⟨n, _, hx⟩ := hcell 0 x rfl
        have := L.len k x; rw [hx] at this; simpa using this.symm
      have := run_loadCells_list (P := P) w ⟨b, o, none⟩ (ns.map (Value.int .u8)) (fun j v hv => by
        rw [add_mk]
        simp only [List.getElem?_map, Option.map_eq_some_iff] at hv
        obtain ⟨n, hn, rfl⟩ := hv
        have hj : j < l.length := by have := (List.getElem?_eq_some_iff.1 hn).1; omega
        obtain ⟨n', hn', hx⟩ := hcell j l[j] (List.getElem?_eq_getElem hj)
        rw [hn] at hn'; cases hn'
        obtain ⟨u, hu, hr⟩ := hrel j l[j] (List.getElem?_eq_getElem hj) 0 _ (by rw [hx]; rfl)
        cases hr
        have := h.gs _ _ _ hu
        simpa [hsz] using this)
      simp only [List.length_map, hlen] at this
      exact this

theorem step_conv (h : Inv L g st a w) {o : Oper} {src dst : TypeId} {x : Operand} (ho : o.op = .convert src dst x) {p : PV S} (hp : rd P L st src x = some p)
    {out : Out S} (hk : convK P L o src dst p some = some out) (hd : ∀ e, out = .ok e → fits st.nt e.w = true) : StepOk P L g w st o a out := by
  have hx := (rd_rel h hp).1
  have mk : ∀ (v : Value), (convert src dst (a.eval x)).run P w = .ok v w → (execOp a.eval o).run P w = .ok (.value v) w := by
    intro v hr
    simp only [execOp, ho, Sem.run_bind, Result.andThen_ok, hr, Sem.run_pure]
  unfold convK at hk
  split at hk
  · rename_i d k kk n hs ht
    cases hk
    refine step_val h (hd _ rfl) (mk (.int k (k.wrap n)) ?_) (by simp only [PRel]; exact .int _ _) rfl
    rw [hx.d_int]
    unfold convert
    simp only [Sem.run_bind, run_underlying hs, run_underlying ht, Result.andThen_ok]
    cases d <;> rfl
  · rename_i d s hs ht
    cases hk
    refine step_val h (hd _ rfl) (mk (.string s) ?_) (by simp only [PRel]; exact .str _) rfl
    rw [hx.d_str]
    unfold convert
    simp only [Sem.run_bind, run_underlying hs, run_underlying ht, Result.andThen_ok]
    cases d <;> rfl
  · rename_i d kk n hs ht
    cases hk
    refine step_val h (hd _ rfl) (mk (.string (Utf8.encode n)) ?_) (by simp only [PRel]; exact .str _) rfl
    rw [hx.d_int]
    unfold convert
    simp only [Sem.run_bind, run_underlying hs, run_underlying ht, Result.andThen_ok]
    cases d <;> rfl
  · rename_i e hs ht _ _
    split at hk
    · rename_i k l hu hv
      cases hb : byteList (l.map (L.cells k)) with
      | none => simp [hb] at hk
      | some ns =>
        simp only [hb] at hk
        cases hk
        have hr := hx.dv hv
        refine step_val h (hd _ rfl) (mk (.string (strOf ns)) ?_) (by simp only [PRel]; exact .str _) rfl
        rcases load_bytes (P := P) h.mem hb hr with ⟨e1, rfl⟩ | ⟨ad, c, e1, hl⟩
        · rw [e1, run_convert_bytes_string w src dst e none 0 0 hs hu ht]; rfl
        · rw [e1, run_convert_bytes_string w src dst e _ _ _ hs hu ht, run_bytesToString w ad l.length c ns hl]; rfl
    · cases hk
  · cases hk

theorem bound_run (h : Inv L g st a w) {x : Operand} {d n : Int} (hr : boundOr st (some x) d = some n) {y : Nat} {code : BoundsCode} (h0 : 0 ≤ n) (h1 : n ≤ y) :
    (Instr.sliceBound (a.eval x) y code).run P w = .ok n.toNat w := by
  obtain ⟨k, hk⟩ := boundOr_rel h hr
  rw [hk]
  simp [Instr.sliceBound, asIntOf, h0, h1]

theorem cond_some {α : Type} {b : Bool} {x : Option α} {y : α} (h : cond b x none = some y) : b = true ∧ x = some y := by cases b <;> simp_all

theorem sliceBounds_run (h : Inv L g st a w) {lo hi : Option Operand} {len cap : Nat} {l u : Int} (hl : boundOr st lo 0 = some l) (hu : boundOr st hi len = some u)
    (b0 : 0 ≤ l) (b1 : l ≤ u) (b2 : u ≤ cap) (b : Bool) : (Instr.sliceBounds b len cap (lo.map a.eval) (hi.map a.eval) none).run P w = .ok (l.toNat, u.toNat, cap) w := by
  have hcap : (u.toNat : Int) = u := by omega
  cases hi with
  | none =>
    simp [boundOr] at hu; subst hu
    cases lo with
    | none => simp [boundOr] at hl; subst hl; simp [Instr.sliceBounds]
    | some z =>
      have := fun code => bound_run (P := P) h hl (y := len) (code := code) b0 b1
      simp [Instr.sliceBounds, this]
  | some y =>
    have h1 := fun code => bound_run (P := P) h hu (y := cap) (code := code) (by omega) b2
    cases lo with
    | none => simp [boundOr] at hl; subst hl; simp [Instr.sliceBounds, h1]
    | some z =>
      have h2 := fun code => bound_run (P := P) h hl (y := u.toNat) (code := code) b0 (by omega)
      simp [Instr.sliceBounds, h1, h2]

theorem slice_rel {G : Nat → Nat → Option Value} {k : S.K} {l : List (S.El k)} {b o x y m : Nat} (hm : y ≤ m + x)
    (hrel : ∀ (i : Nat) (e : S.El k), l[i]? = some e → ∀ (j : Nat) (d : DV S), (L.cells k e)[j]? = some d → ∃ u, G b (o + i * L.sz k + j) = some u ∧ DRel L G d u) (h1 : x ≤ y) (h2 : y ≤ l.length) :
    DRel L G (.sl k ((l.take y).drop x)) (.slice (some ⟨b, o + x * L.sz k, none⟩) (y - x) m) := by
  have hl : ((l.take y).drop x).length = y - x := by simp; omega
  rw [← hl]
  refine DRel.sl_mk (by rw [hl]; omega) fun i e he j d hd => ?_
  have hi : x + i < y := by have := (List.getElem?_eq_some_iff.1 he).1; simp at this; omega
  simp only [List.getElem?_drop, List.getElem?_take, hi, if_true] at he
  obtain ⟨u, hu, hr⟩ := hrel (x + i) e he j d hd
  refine ⟨u, ?_, hr⟩
  rw [← hu]; congr 1; rw [Nat.add_mul]; omega

theorem add_eq (b o j : Nat) : (⟨b, o, none⟩ : Addr).add j = ⟨b, o + j, none⟩ := add_mk b o j

theorem step_slice (h : Inv L g st a w) {o : Oper} {t : TypeId} {x : Operand} {lo hi mx : Option Operand} (ho : o.op = .slice t x lo hi mx) {p : PV S} (hp : rd P L st t x = some p)
    {out : Out S} (hk : sliceK P L o st t p lo hi mx some = some out) (hd : ∀ e, out = .ok e → fits st.nt e.w = true) : StepOk P L g w st o a out := by
  have hx := (rd_rel h hp).1
  have mk : ∀ (v : Value), (Instr.sliceAt t (a.eval x) (lo.map a.eval) (hi.map a.eval) (mx.map a.eval)).run P w = .ok v w → (execOp a.eval o).run P w = .ok (.value v) w := by
    intro v hr
    simp only [execOp, ho, Sem.run_bind, Result.andThen_ok, hr, Sem.run_pure]
  unfold sliceK at hk
  split at hk
  · rename_i s hu hv
    have hs := hx.dv hv
    split at hk
    · rename_i l u hl hu'
      obtain ⟨hb, hk⟩ := cond_some hk
      cases hk
      simp only [Bool.and_eq_true, decide_eq_true_eq] at hb
      obtain ⟨b0, b1, b2⟩ := hb
      refine step_val h (hd _ rfl) (mk (.string (s.extract l.toNat u.toNat)) ?_) (by simp only [PRel]; exact .str _) rfl
      have ex : a.eval x = .string s := by generalize a.eval x = v at hs; cases hs; rfl
      unfold Instr.sliceAt
      rw [Sem.run_bind, run_underlying hu]
      simp only [Result.andThen_ok, Option.map_none]
      unfold Instr.slice
      rw [Sem.run_bind, run_underlying hu]
      simp [ex, sliceBounds_run (P := P) h hl hu' b0 b1 b2]
    · cases hk
  · rename_i e k l hu hv
    have hs := hx.dv hv
    split at hk
    · rename_i hmx
      split at hk
      · rename_i sz hsz
        split at hk
        · rename_i heq
          split at hk
          · rename_i lo' hi' hl hh
            obtain ⟨hb, hk⟩ := cond_some hk
            cases hk
            simp only [Bool.and_eq_true, decide_eq_true_eq] at hb
            obtain ⟨b0, b1, b2⟩ := hb
            rcases hs.sl_inv with ⟨rfl, ex⟩ | ⟨rfl, ad, c, ex⟩ | ⟨b, q, c, ex, hc, hrel⟩
            · simp at b2
              have e1 : lo' = 0 := by omega
              have e2 : hi' = 0 := by omega
              subst e1; subst e2
              refine step_val h (hd _ rfl) (mk (.slice none 0 0) ?_) (by simp only [PRel]; exact .nil _) rfl
              unfold Instr.sliceAt
              rw [Sem.run_bind, run_underlying hu]
              simp only [Result.andThen_ok, Option.map_none]
              unfold Instr.slice
              rw [Sem.run_bind, run_underlying hu]
              have := fun z => sliceBounds_run (P := P) h (len := 0) (cap := 0) hl hh b0 b1 (by omega) z
              simp at this
              simp [ex, this, run_sizeOf hsz]
            · simp at b2
              have e1 : lo' = 0 := by omega
              have e2 : hi' = 0 := by omega
              subst e1; subst e2
              refine step_val h (hd _ rfl) (mk (.slice (some ad) 0 c) ?_) (by simp only [PRel]; exact .emp _ ad c) rfl
              unfold Instr.sliceAt
              rw [Sem.run_bind, run_underlying hu]
              simp only [Result.andThen_ok, Option.map_none]
              unfold Instr.slice
              rw [Sem.run_bind, run_underlying hu]
              have := fun z => sliceBounds_run (P := P) h (len := 0) (cap := c) hl hh b0 b1 (by omega) z
              simp at this
              simp [ex, this, run_sizeOf hsz, Addr.add]
            · refine step_val h (hd _ rfl) (mk (.slice (some ⟨b, if c = lo'.toNat then q else q + lo'.toNat * sz, none⟩) (hi'.toNat - lo'.toNat) (c - lo'.toNat)) ?_) ?_ rfl
              · unfold Instr.sliceAt
                rw [Sem.run_bind, run_underlying hu]
                simp only [Result.andThen_ok, Option.map_none]
                unfold Instr.slice
                rw [Sem.run_bind, run_underlying hu]
                have := fun z => sliceBounds_run (P := P) h (len := l.length) (cap := c) hl hh b0 b1 (by omega) z
                simp [ex, this, run_sizeOf hsz, add_mk]
                split <;> rfl
              · simp only [PRel]
                rw [heq]
                by_cases hcl : c = lo'.toNat
                · rw [if_pos hcl]
                  have e1 : hi'.toNat - lo'.toNat = 0 := by omega
                  have e2 : (l.take hi'.toNat).drop lo'.toNat = [] := by
                    apply List.drop_eq_nil_of_le; simp; omega
                  rw [e1, e2]
                  exact DRel.sl_mk (l := []) (by simp) (by simp)
                · rw [if_neg hcl]
                  exact slice_rel (by omega) hrel (by omega) (by omega)
          · cases hk
        · cases hk
      · cases hk
    · split at hk
      · rename_i k1 _ _ _ k2 sz hsz
        have hb : ∀ (len cap : Nat) (b : Bool), (Instr.sliceBounds b len cap none (some (.int k2 0)) (some (.int k1 0))).run P w = .ok (0, 0, 0) w := by
          intro len cap b
          cases b <;> simp [Instr.sliceBounds, Instr.sliceBound, asIntOf]
        have ec : ∀ v, a.eval (.const v) = v := fun _ => rfl
        obtain ⟨hmade, hk⟩ := cond_some hk
        cases hk
        have hpl : Plain (a.eval x) := by
          cases p <;> simp only [PV.made, Bool.false_eq_true] at hmade
          · simp only [PRel] at hx; exact hx.2.2
          · simp only [PRel] at hx; exact hx.2
        rcases hs.sl_plain hpl with ⟨_, ex⟩ | ⟨b, q, c, ex, hc, hrel⟩
        · refine step_val h (hd _ rfl) (mk (.slice none 0 0) ?_) (by simp only [PRel]; exact ⟨.nil _, by intro a n c e; cases e; rfl, Plain.nil⟩) rfl
          unfold Instr.sliceAt
          rw [Sem.run_bind, run_underlying hu]
          simp only [Result.andThen_ok, Option.map_none]
          unfold Instr.slice
          rw [Sem.run_bind, run_underlying hu]
          simp [ex, ec, hb, run_sizeOf hsz]
        · refine step_val h (hd _ rfl) (mk (.slice (some ⟨b, q, none⟩) 0 0) ?_) (by simp only [PRel]; exact ⟨DRel.sl_mk (l := []) (by simp) (by simp), by intro a n c e; cases e; rfl, Plain.mk b q 0 0⟩) rfl
          unfold Instr.sliceAt
          rw [Sem.run_bind, run_underlying hu]
          simp only [Result.andThen_ok, Option.map_none]
          unfold Instr.slice
          rw [Sem.run_bind, run_underlying hu]
          simp [ex, ec, hb, run_sizeOf hsz]
      · cases hk
    · cases hk
  · cases hk

theorem rdEl_get {k : S.K} {l : List (S.El k)} {n : Int} (h0 : 0 ≤ n) (h1 : n < (l.length : Int)) : l[n.toNat]? = some (rdEl L k l n) := by
  have : n.toNat < l.length := by omega
  simp [rdEl, List.getElem?_eq_getElem this]

theorem step_indexAddr (h : Inv L g st a w) {o : Oper} {t : TypeId} {x i : Operand} (ho : o.op = .indexAddr t x i) {e : TypeId} (hu : P.underlying t = some (.slice e)) {k : S.K} {l : List (S.El k)}
    {p : PV S} (hp : rd P L st t x = some p) (hv : p.dv? = some (.sl k l)) {n : Int} (hn : boundOr st (some i) 0 = some n) (hs : szT P e = some (L.sz k)) (h0 : 0 ≤ n) (h1 : n < (l.length : Int))
    (hd : fits st.nt (wr o.dst (.dp k (rdEl L k l n) 0)) = true) : StepOk P L g w st o a (val o (.dp k (rdEl L k l n) 0)) := by
  have hx := (rd_rel h hp).1.dv hv
  obtain ⟨kk, hi⟩ := boundOr_rel h hn
  have hlen : n.toNat < l.length := by omega
  rcases hx.sl_inv with ⟨rfl, _⟩ | ⟨rfl, _⟩ | ⟨b, q, c, ex, hc, hrel⟩
  · simp at hlen
  · simp at hlen
  · refine step_val h hd (v := .pointer (some ⟨b, q + n.toNat * L.sz k, none⟩)) ?_ ?_ rfl
    · have : (Instr.indexAt t (.slice (some ⟨b, q, none⟩) l.length c) (.int kk n)).run P w = .ok (.pointer (some ⟨b, q + n.toNat * L.sz k, none⟩)) w := by
        unfold Instr.indexAt
        simp [asIntOf, run_underlying hu, h0, h1, run_sizeOf hs, add_mk]
      simp [execOp, ho, ex, hi, this]
    · simp only [PRel]
      exact ⟨b, q + n.toNat * L.sz k, by simp, fun j d hd => hrel _ _ (rdEl_get h0 h1) j d hd⟩

theorem step_index (h : Inv L g st a w) {o : Oper} {t : TypeId} {x i : Operand} (ho : o.op = .index t x i) (hu : P.underlying t = some .string) {s : ByteArray}
    (hp : rd P L st t x = some (.d (.str s))) {n : Int} (hn : boundOr st (some i) 0 = some n) (h0 : 0 ≤ n) (h1 : n < (s.size : Int))
    (hd : fits st.nt (wr o.dst (.d (.int .u8 (bt s n)) : PV S)) = true) : StepOk P L g w st o a (val o (.d (.int .u8 (bt s n)))) := by
  have ex := (rd_rel h hp).1.d_str
  obtain ⟨kk, hi⟩ := boundOr_rel h hn
  have hlen : n.toNat < s.size := by omega
  refine step_val h hd (v := .int .u8 (bt s n)) ?_ (by simp only [PRel]; exact .int _ _) rfl
  have : (Instr.index t (.string s) (.int kk n)).run P w = .ok (.int .u8 (bt s n)) w := by
    unfold Instr.index
    have hg : s[n.toNat]? = some (s.data.toList.getD n.toNat 0) := by
      have hd : n.toNat < s.data.toList.length := by simpa using hlen
      rw [List.getD_eq_getElem?_getD, List.getElem?_eq_getElem hd]
      simp [hlen]
      rfl
    simp [asIntOf, run_underlying hu, h0, hg, bt]
  simp [execOp, ho, ex, hi, this]

theorem step_typeAssert_yes (h : Inv L g st a w) {o : Oper} {x : Operand} {t ty : TypeId} (ho : o.op = .typeAssert x t ty true) {d : TypeDesc} (hu : P.underlying ty = some d) (hi : ∀ ms, d ≠ .interface ms)
    {p : PV S} (hp : rd P L st 0 x = some (.iface ty p)) (hd : fits st.nt (wr o.dst (.tup [p, .d (.bool true)])) = true) : StepOk P L g w st o a (val o (.tup [p, .d (.bool true)])) := by
  have hx := (rd_rel h hp).1
  simp only [PRel] at hx
  obtain ⟨u, ex, hr⟩ := hx
  refine step_val h hd (v := .tuple #[u, .bool true]) ?_ (by simp only [PRel, PRels]; exact ⟨[u, .bool true], rfl, hr, .bool _, trivial⟩) rfl
  have : (Instr.typeAssert (.iface ty u) t ty true).run P w = .ok (.tuple #[u, .bool true]) w := by
    unfold Instr.typeAssert
    rw [Sem.run_bind, run_underlying hu]
    simp only [Result.andThen_ok]
    cases d <;> first | (simp; done) | exact absurd rfl (hi _)
  simp [execOp, ho, ex, this]

theorem zero_value {t : TypeId} {p : PV S} (hz : zeroPV P L t = some p) (G : Nat → Nat → Option Value) (β : Nat → Option Nat) :
    ∃ v, (∀ w, (zeroValue t).run P w = .ok v w) ∧ PRel L β G p v := by
  unfold zeroPV at hz
  split at hz
  · rename_i z hi
    refine ⟨z, fun w => ?_, (constAt_rel hz).1⟩
    cases h : P.info? t with
    | none => simp [h] at hi
    | some i => simp [h] at hi; simp [zeroValue, typeInfo, h, hi]
  · cases hz

theorem step_typeAssert_no (h : Inv L g st a w) {o : Oper} {x : Operand} {t ty : TypeId} (ho : o.op = .typeAssert x t ty true) {d : TypeDesc} (hu : P.underlying ty = some d) (hi : ∀ ms, d ≠ .interface ms)
    {p : PV S} (hp : rd P L st 0 x = some p) (hno : p = .nilif ∨ ∃ t' q, p = .iface t' q ∧ t' ≠ ty) {q : PV S} (hz : zeroPV P L ty = some q)
    (hd : fits st.nt (wr o.dst (.tup [q, .d (.bool false)])) = true) : StepOk P L g w st o a (val o (.tup [q, .d (.bool false)])) := by
  have hx := (rd_rel h hp).1
  obtain ⟨v, hv, hr⟩ := zero_value hz g.G g.β
  refine step_val h hd (v := .tuple #[v, .bool false]) ?_ (by simp only [PRel, PRels]; exact ⟨[v, .bool false], rfl, hr, .bool _, trivial⟩) rfl
  have : (Instr.typeAssert (a.eval x) t ty true).run P w = .ok (.tuple #[v, .bool false]) w := by
    rcases hno with rfl | ⟨t', q', rfl, hne⟩ <;> simp only [PRel] at hx
    · rw [hx]
      unfold Instr.typeAssert
      rw [Sem.run_bind, run_underlying hu]
      simp only [Result.andThen_ok]
      cases d <;> first | (simp [hv]; done) | exact absurd rfl (hi _)
    · obtain ⟨u, ex, _⟩ := hx
      rw [ex]
      unfold Instr.typeAssert
      rw [Sem.run_bind, run_underlying hu]
      simp only [Result.andThen_ok]
      cases d <;> first | (simp [hv, hne]; done) | exact absurd rfl (hi _)
  simp [execOp, ho, this]

theorem step_len (h : Inv L g st a w) {o : Oper} {c : Call} (ho : o.op = .call c) (hc : c.callee = .builtin .len) {t : TypeId} {x : Operand} (ht : c.argTypes.toList = [t]) (hx : c.args.toList = [x])
    {p : PV S} (hp : rd P L st t x = some p) {n : Nat} (hn : (∃ e k l, P.underlying t = some (.slice e) ∧ p.dv? = some (.sl k l) ∧ n = l.length) ∨ (∃ s, P.underlying t = some .string ∧ p.dv? = some (.str s) ∧ n = s.size))
    (hd : fits st.nt (wr o.dst (.d (.int .i64 n) : PV S)) = true) : StepOk P L g w st o a (val o (.d (.int .i64 n))) := by
  have hr := (rd_rel h hp).1
  have ht' : c.argTypes = #[t] := by apply Array.ext'; simpa using ht
  have hx' : c.args = #[x] := by apply Array.ext'; simpa using hx
  refine step_val h hd (v := .int .i64 n) ?_ (by simp only [PRel]; exact .int _ _) rfl
  have : (Builtin.len_ #[t] o.type #[a.eval x]).run P w = .ok (.int .i64 n) w := by
    rcases hn with ⟨e, k, l, hu, hv, rfl⟩ | ⟨s, hu, hv, rfl⟩
    · have hs := hr.dv hv
      rcases hs.sl_inv with ⟨rfl, ex⟩ | ⟨rfl, ad, c, ex⟩ | ⟨b, q, c, ex, _, _⟩ <;> simp [Builtin.len_, run_underlying hu, ex, goInt]
    · have hs := hr.dv hv
      have ex : a.eval x = .string s := by generalize a.eval x = v at hs; cases hs; rfl
      simp [Builtin.len_, run_underlying hu, ex, goInt]
  simp [execOp, ho, resolve, hc, ht', hx', invoke, builtin, this]

theorem step_min (h : Inv L g st a w) {o : Oper} {c : Call} (ho : o.op = .call c) (hc : c.callee = .builtin .min) {t u : TypeId} {x y : Operand} (hx : c.args.toList = [x, y])
    {k k' : IntKind} {m n : Int} (hp : rd P L st t x = some (.d (.int k m))) (hq : rd P L st u y = some (.d (.int k' n)))
    (hd : fits st.nt (wr o.dst (.d (.int k (min2 m n)) : PV S)) = true) : StepOk P L g w st o a (val o (.d (.int k (min2 m n)))) := by
  have e1 := (rd_rel h hp).1.d_int
  have e2 := (rd_rel h hq).1.d_int
  have hx' : c.args = #[x, y] := by apply Array.ext'; simpa using hx
  refine step_val h hd (v := .int k (min2 m n)) ?_ (by simp only [PRel]; exact .int _ _) rfl
  simp [execOp, ho, resolve, hc, hx', invoke, builtin, Builtin.min_, e1, e2, Builtin.min2, min2]

end
end Go.Proofs.YtdhpgcjhiommkaaDoor.Ev
