/- This file proves how layer 1's arguments are read as typed values, and what the rows' listed variables hold; without any condition. -/
import Derived.Test.YtdhpgcjhiommkaaDoorV0
import Derived.Test.YtdhpgcjhiommkaaDoorSh
import Derived.Test.YtdhpgcjhiommkaaDoorChecked
import Derived.Test.YtdhpgcjhiommkaaDoorRows
import Derived.Lib.LaidTab
import Derived.Stop.LaidErr
set_option linter.unusedVariables false
set_option linter.unusedSimpArgs false
namespace Go.Proofs.YtdhpgcjhiommkaaDoor.Ev
open Go.Proofs Go.ChangeShapes Go.WideShapes Go.ChangeAt Go.RowKit

theorem ownT : ownKnob Tryd.prog.godebug = none := by kernel_rfl
theorem laidT : laidOutB Tryd.prog = true := by kernel_rfl
theorem dok : DOk Tryd.prog lay dfT := by
  intro f args m u u' m' h
  cases h

theorem alls_cons {α β : Type} {R : α → β → Prop} {a : α} {l : List α} {ds : List β} (h : Alls R (a :: l) ds) : ∃ d r, ds = d :: r ∧ R a d ∧ Alls R l r := by
  cases h with
  | cons h1 h2 => exact ⟨_, _, rfl, h1, h2⟩
theorem alls_nil {α β : Type} {R : α → β → Prop} {ds : List β} (h : Alls R [] ds) : ds = [] := by cases h; rfl

theorem dv_int {d : DV sig} {k : IntKind} (h : DvT lay (.int k) d) : ∃ n, d = .int k n := by cases h; exact ⟨_, rfl⟩
theorem dv_str {d : DV sig} (h : DvT lay .string d) : ∃ s, d = .str s := by cases h; exact ⟨_, rfl⟩

theorem reads1 : Reads Tryd.prog lay where
  key e k h := by
    have h' : (bif Nat.beq e 32 then some Key.tok else bif Nat.beq e 5 then some Key.u8 else bif Nat.beq e 9 then some Key.str else none) = some k := h
    cases h1 : Nat.beq e 32 with
    | true =>
      have := Nat.eq_of_beq_eq_true h1
      subst this
      rw [h1] at h'; cases h'
      refine ⟨[.int .i64, .string, .int .i64], by kernel_rfl, by kernel_rfl, by kernel_rfl, by show 1 ≤ 3; omega, fun ds hd => ?_⟩
      obtain ⟨d0, r0, rfl, e0, hd⟩ := alls_cons hd
      obtain ⟨d1, r1, rfl, e1, hd⟩ := alls_cons hd
      obtain ⟨d2, r2, rfl, e2, hd⟩ := alls_cons hd
      cases alls_nil hd
      obtain ⟨a, rfl⟩ := dv_int e0
      obtain ⟨b, rfl⟩ := dv_str e1
      obtain ⟨c, rfl⟩ := dv_int e2
      exact ⟨(⟨a, b, c⟩ : Tok), rfl⟩
    | false =>
    cases h2 : Nat.beq e 5 with
    | true =>
      have := Nat.eq_of_beq_eq_true h2
      subst this
      rw [h1, h2] at h'; cases h'
      refine ⟨[.int .u8], by kernel_rfl, by kernel_rfl, by kernel_rfl, by show 1 ≤ 1; omega, fun ds hd => ?_⟩
      obtain ⟨d0, r0, rfl, e0, hd⟩ := alls_cons hd
      cases alls_nil hd
      obtain ⟨a, rfl⟩ := dv_int e0
      exact ⟨(a : Int), rfl⟩
    | false =>
    cases h3 : Nat.beq e 9 with
    | true =>
      have := Nat.eq_of_beq_eq_true h3
      subst this
      rw [h1, h2, h3] at h'; cases h'
      refine ⟨[.string], by kernel_rfl, by kernel_rfl, by kernel_rfl, by show 1 ≤ 1; omega, fun ds hd => ?_⟩
      obtain ⟨d0, r0, rfl, e0, hd⟩ := alls_cons hd
      cases alls_nil hd
      obtain ⟨a, rfl⟩ := dv_str e0
      exact ⟨(a : ByteArray), rfl⟩
    | false => rw [h1, h2, h3] at h'; cases h'

theorem arg_of {t : TypeId} {p : PV sig} (h : Arg Tryd.prog lay t p) {b : Bool} {ts : List TypeDesc} (h1 : aggT Tryd.prog t = some b) (h2 : flat Tryd.prog 8 t = some ts) :
    ∃ ds, Alls (DvT lay) ts ds ∧ (∀ d ∈ ds, VOk Tryd.prog lay d) ∧ p = argP b ds := by
  obtain ⟨b', ts', ds, e1, e2, e3, e4, e5⟩ := h
  rw [h1] at e1; cases e1
  rw [h2] at e2; cases e2
  exact ⟨ds, e3, e4, e5⟩

theorem arg_int {p : PV sig} (h : Arg Tryd.prog lay 3 p) : ∃ n : Int, p = .d (.int .i64 n) := by
  obtain ⟨ds, h1, _, rfl⟩ := arg_of h (b := false) (ts := [.int .i64]) (by kernel_rfl) (by kernel_rfl)
  obtain ⟨d0, r0, rfl, e0, hd⟩ := alls_cons h1
  cases alls_nil hd
  obtain ⟨n, rfl⟩ := dv_int e0
  exact ⟨n, rfl⟩

theorem arg_str {p : PV sig} (h : Arg Tryd.prog lay 9 p) : ∃ s : ByteArray, p = .d (.str s) ∧ s.size ≤ 140737488355328 := by
  obtain ⟨ds, h1, h2, rfl⟩ := arg_of h (b := false) (ts := [.string]) (by kernel_rfl) (by kernel_rfl)
  obtain ⟨d0, r0, rfl, e0, hd⟩ := alls_cons h1
  cases alls_nil hd
  obtain ⟨s, rfl⟩ := dv_str e0
  refine ⟨s, rfl, ?_⟩
  cases h2 _ (List.mem_cons_self ..) with
  | str _ h => have := reachBytes_lt; omega

theorem toks_ok {l : List Tok} (h : VOk Tryd.prog lay (.sl Key.tok l)) : l.length * 32 ≤ 140737488351232 ∧ ∀ x ∈ l, x.text.size ≤ 140737488355328 := by
  have key : ∀ {x : DV sig}, VOk Tryd.prog lay x → x = .sl Key.tok l → l.length * 32 ≤ 140737488351232 ∧ ∀ x ∈ l, x.text.size ≤ 140737488355328 := by
    intro x hx
    cases hx with
    | bool b => intro h; cases h
    | int k n _ => intro h; cases h
    | str s _ => intro h; cases h
    | sl e k l' hk hl hcs =>
      intro h
      cases h
      have he : e = 32 := by
        have h' : (bif Nat.beq e 32 then some Key.tok else bif Nat.beq e 5 then some Key.u8 else bif Nat.beq e 9 then some Key.str else none) = some Key.tok := hk
        cases h1 : Nat.beq e 32 with
        | true => exact Nat.eq_of_beq_eq_true h1
        | false =>
          rw [h1] at h'
          cases h2 : Nat.beq e 5 with
          | true => rw [h2] at h'; cases h'
          | false =>
            rw [h2] at h'
            cases h3 : Nat.beq e 9 with
            | true => rw [h3] at h'; cases h'
            | false => rw [h3] at h'; cases h'
      subst he
      have hb : Tryd.prog.bytesOf 32 = 32 := by kernel_rfl
      rw [hb] at hl
      refine ⟨hl, fun x hx => ?_⟩
      have hx2 := hcs x hx (.str x.text) (List.mem_cons_of_mem _ (List.mem_cons_self ..))
      cases hx2 with
      | str _ h => have := reachBytes_lt; omega
  exact key h rfl

theorem arg_toks {p : PV sig} (h : Arg Tryd.prog lay 22 p) : ∃ l : List Tok, p = .d (.sl Key.tok l) ∧ (l.length * 32 ≤ 140737488351232 ∧ ∀ x ∈ l, x.text.size ≤ 140737488355328) := by
  obtain ⟨ds, h1, h2, rfl⟩ := arg_of h (b := false) (ts := [.slice 32]) (by kernel_rfl) (by kernel_rfl)
  obtain ⟨d0, r0, rfl, e0, hd⟩ := alls_cons h1
  cases alls_nil hd
  have : ∃ l : List Tok, d0 = .sl Key.tok l := by
    cases e0 with
    | sl e k l hk =>
      have : some Key.tok = some k := hk
      cases this
      exact ⟨l, rfl⟩
  obtain ⟨l, rfl⟩ := this
  exact ⟨l, rfl, toks_ok (h2 _ (List.mem_cons_self ..))⟩

/-! ### What the rows list -/

theorem starErr : "*" ++ "errors.errorString" = "*errors.errorString" := by decide
theorem row108 (u : TypeId) (h : Tryd.prog.typeName? 3 u = some "*errors.errorString") : u = 108 :=
  typeName_ptr_named (nm := "errors.errorString") (by rw [starErr]; kernel_rfl) (by kernel_rfl) (by decide) u (by rw [starErr]; exact h)

theorem err_fix {n : String} {g : Nat} {text : List UInt8} {r : List (String × DataW Unit)} {w : World} (h : laidMet Tryd.prog ((n, .iface "*errors.errorString" (.ptr (.agg [.lit (.string text)]))) :: r) w)
    (hg : Tryd.prog.globalNamed n = some g) (ht : (Tryd.prog.globals[g]?).map (·.type) = some 74) : ∃ te pe ty fr, w.heap[g]? = some (.cells #[.iface te pe] ty fr) := by
  obtain ⟨a, s, hv, _⟩ := laid_sentinel h hg ht Tryd.underlying74 row108 Tryd.underlying108 Tryd.underlying110 rfl rfl Tryd.underlying9 (by kernel_rfl) (by kernel_rfl)
  unfold World.var? at hv
  rw [hg, Option.bind_some] at hv
  split at hv
  · rename_i cs ty fr hc
    cases hv
    exact ⟨_, _, _, _, hc⟩
  · cases hv

theorem tab_fix {k : IntKind} {zs : List Int} {g : Nat} {w : World} {n : String} (h : Lib.TabIs Tryd.prog w n k zs) (hg : Tryd.prog.globalNamed n = some g) : ∃ ty fr, w.heap[g]? = some (.cells (zs.map fun z => Value.int k z).toArray ty fr) := by
  unfold Lib.TabIs World.var? at h
  rw [hg, Option.bind_some] at h
  split at h
  · rename_i cs ty fr hc
    cases h
    exact ⟨_, _, hc⟩
  · cases h

theorem laid_fix (w : World) (h : laidMet Tryd.prog Rows.lexisTokensRow.laid w) : ∀ b, lay.fixB b = true → ∃ o, w.heap[b]? = some o ∧ lay.fixOk b o := by
  have h3 : laidMet Tryd.prog (("internal/strconv.uint64pow10", Lib.tabData .u64 Lib.pow10Tab) :: [("strconv.ErrRange", Rows.laid_strconv_ErrRange), ("strconv.ErrSyntax", Rows.laid_strconv_ErrSyntax)]) w := h.tail.tail
  obtain ⟨ty, fr, ht⟩ := tab_fix (Lib.tabIs_of_head (g := 3) (t := 112) (e := 95) (n := 20) (by kernel_rfl) (by kernel_rfl) (by kernel_rfl) (by kernel_rfl) (by kernel_rfl) (by kernel_rfl) h3) (g := 3) (by kernel_rfl)
  obtain ⟨te2, pe2, ty2, fr2, h2⟩ := err_fix h3.tail (g := 2) (by kernel_rfl) (by kernel_rfl)
  obtain ⟨te1, pe1, ty1, fr1, h1⟩ := err_fix h3.tail.tail (g := 1) (by kernel_rfl) (by kernel_rfl)
  intro b hb
  have hb' : (Nat.beq b 1 || (Nat.beq b 2 || Nat.beq b 3)) = true := hb
  simp only [Bool.or_eq_true] at hb'
  rcases hb' with e | e | e <;> have e := Nat.eq_of_beq_eq_true e <;> subst e
  · refine ⟨_, h1, ?_⟩
    show fixOk1 1 _
    exact ⟨fun _ => ⟨_, _, _, _, rfl⟩, fun h => by cases h⟩
  · refine ⟨_, h2, ?_⟩
    show fixOk1 2 _
    exact ⟨fun _ => ⟨_, _, _, _, rfl⟩, fun h => by cases h⟩
  · refine ⟨_, ht, ?_⟩
    show fixOk1 3 _
    exact ⟨fun h => (by rcases h with h | h <;> cases h), fun _ => ⟨_, _, rfl⟩⟩

/-! ### One start that fits -/

abbrev synS : ByteArray := { data := #[105, 110, 118, 97, 108, 105, 100, 32, 115, 121, 110, 116, 97, 120] }
abbrev rngS : ByteArray := { data := #[118, 97, 108, 117, 101, 32, 111, 117, 116, 32, 111, 102, 32, 114, 97, 110, 103, 101] }
noncomputable def low : Nat := (World.holding Tryd.prog default ⟨#[], #[], []⟩).heap.size
def nums : DataW Unit → List Value
  | .agg l => l.map fun | .lit (.int k n) => .int k n | _ => .bool false
  | _ => []
def setVar (vs : List Value) : Obj → Obj
  | .cells _ t frozen => .cells vs.toArray t frozen
  | o => o
/-- The settled world with two blocks more, each an error; the listed variables hold what their initialisers lay. -/
noncomputable def laidWorld (os : Os) : World :=
  let w0 := World.holding Tryd.prog os ⟨#[.cells #[.string synS] 110, .cells #[.string rngS] 110], #[], []⟩
  { w0 with heap := ((((w0.heap.modify 1 (setVar [.iface 108 (.pointer (some ⟨low, 0, none⟩))])).modify 2 (setVar [.iface 108 (.pointer (some ⟨low + 1, 0, none⟩))])).modify 3 (setVar (nums Rows.laid_internal_strconv_uint64pow10))).modify 4
      (setVar (nums Rows.laid_math_bits_deBruijn32tab))).modify 5 (setVar (nums Rows.laid_math_bits_deBruijn64tab)) }
theorem laidWorld_met (os : Os) (args : Array Value) : laidMet Tryd.prog Rows.lexisTokensRow.laid ((laidWorld os).forCall (fun _ _ => 0) ⟨#[], args, []⟩).memory :=
  laidMet_of_run' 8 (by kernel_rfl) (by kernel_rfl)

end Go.Proofs.YtdhpgcjhiommkaaDoor.Ev
