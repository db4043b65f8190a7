/- This file proves how layer 2's arguments are read as typed values, and what the rows' listed variables hold; without any condition. -/
import Derived.Test.YtanfoijdfcnpoaaGreatDoorD2
import Derived.Test.YtanfoijdfcnpoaaGreatDoorR0
import Derived.Test.YtanfoijdfcnpoaaGreatDoorSh
import Derived.Test.YtanfoijdfcnpoaaGreatDoorChecked
import Derived.Test.YtanfoijdfcnpoaaGreatDoorRows
import Derived.Lib.LaidTab
import Derived.Stop.LaidErr
set_option linter.unusedVariables false
set_option linter.unusedSimpArgs false
namespace Go.Proofs.YtanfoijdfcnpoaaGreatDoor.Ev
open Go.Proofs Go.ChangeShapes Go.WideShapes Go.ChangeAt Go.RowKit

theorem ownT : ownKnob Tryz.prog.godebug = none := by kernel_rfl
theorem laidT : laidOutB Tryz.prog = true := by kernel_rfl
theorem alls_cons {α β : Type} {R : α → β → Prop} {a : α} {l : List α} {ds : List β} (h : Alls R (a :: l) ds) : ∃ d r, ds = d :: r ∧ R a d ∧ Alls R l r := by
  cases h with
  | cons h1 h2 => exact ⟨_, _, rfl, h1, h2⟩
theorem alls_nil {α β : Type} {R : α → β → Prop} {ds : List β} (h : Alls R [] ds) : ds = [] := by cases h; rfl

theorem dv_int {d : DV sig} {k : IntKind} (h : DvT lay (.int k) d) : ∃ n, d = .int k n := by cases h; exact ⟨_, rfl⟩
theorem dv_str {d : DV sig} (h : DvT lay .string d) : ∃ s, d = .str s := by cases h; exact ⟨_, rfl⟩

theorem dv_raws {d : DV sig} (h : DvT lay (.slice 24) d) : ∃ l : List Rw, d = .sl Key.raw l := by
  cases h with
  | sl e k l hk =>
    have : some Key.raw = some k := hk
    cases this
    exact ⟨l, rfl⟩

theorem dv_parts {d : DV sig} (h : DvT lay (.slice 98) d) : ∃ l : List Pt, d = .sl Key.part l := by
  cases h with
  | sl e k l hk =>
    have : some Key.part = some k := hk
    cases this
    exact ⟨l, rfl⟩

theorem key_inv {e : TypeId} {k : Key} (h : lay.key e = some k) : (e = 69 ∧ k = .tok) ∨ (e = 5 ∧ k = .u8) ∨ (e = 9 ∧ k = .str) ∨ (e = 24 ∧ k = .raw) ∨ (e = 3 ∧ k = .int) ∨ (e = 98 ∧ k = .part) ∨ (e = 52 ∧ k = .item) := by
  have step : ∀ {n : Nat} {x y : Option Key}, (bif Nat.beq e n then x else y) = some k → (e = n ∧ x = some k) ∨ y = some k := by
    intro n x y h
    cases hb : Nat.beq e n with
    | true => rw [hb] at h; exact .inl ⟨Nat.eq_of_beq_eq_true hb, h⟩
    | false => rw [hb] at h; exact .inr h
  have h' : (bif Nat.beq e 69 then some Key.tok else bif Nat.beq e 5 then some Key.u8 else bif Nat.beq e 9 then some Key.str else bif Nat.beq e 24 then some Key.raw else bif Nat.beq e 3 then some Key.int else bif Nat.beq e 98 then some Key.part else bif Nat.beq e 52 then some Key.item else none) = some k := h
  rcases step h' with ⟨h1, h2⟩ | h'
  · cases h2; exact .inl ⟨h1, rfl⟩
  rcases step h' with ⟨h1, h2⟩ | h'
  · cases h2; exact .inr (.inl ⟨h1, rfl⟩)
  rcases step h' with ⟨h1, h2⟩ | h'
  · cases h2; exact .inr (.inr (.inl ⟨h1, rfl⟩))
  rcases step h' with ⟨h1, h2⟩ | h'
  · cases h2; exact .inr (.inr (.inr (.inl ⟨h1, rfl⟩)))
  rcases step h' with ⟨h1, h2⟩ | h'
  · cases h2; exact .inr (.inr (.inr (.inr (.inl ⟨h1, rfl⟩))))
  rcases step h' with ⟨h1, h2⟩ | h'
  · cases h2; exact .inr (.inr (.inr (.inr (.inr (.inl ⟨h1, rfl⟩)))))
  rcases step h' with ⟨h1, h2⟩ | h'
  · cases h2; exact .inr (.inr (.inr (.inr (.inr (.inr ⟨h1, rfl⟩)))))
  cases h'

theorem reads1 : Reads Tryz.prog lay where
  key e k h := by
    rcases key_inv h with ⟨rfl, rfl⟩ | ⟨rfl, rfl⟩ | ⟨rfl, rfl⟩ | ⟨rfl, rfl⟩ | ⟨rfl, rfl⟩ | ⟨rfl, rfl⟩ | ⟨rfl, rfl⟩
    · refine ⟨[.int .i64, .string, .int .i64], by kernel_rfl, by kernel_rfl, by kernel_rfl, by show 1 ≤ 3; omega, fun ds hd => ?_⟩
      obtain ⟨d0, r0, rfl, e0, hd⟩ := alls_cons hd
      obtain ⟨d1, r1, rfl, e1, hd⟩ := alls_cons hd
      obtain ⟨d2, r2, rfl, e2, hd⟩ := alls_cons hd
      cases alls_nil hd
      obtain ⟨a, rfl⟩ := dv_int e0
      obtain ⟨b, rfl⟩ := dv_str e1
      obtain ⟨c, rfl⟩ := dv_int e2
      exact ⟨(⟨a, b, c⟩ : Tok), rfl⟩
    · refine ⟨[.int .u8], by kernel_rfl, by kernel_rfl, by kernel_rfl, by show 1 ≤ 1; omega, fun ds hd => ?_⟩
      obtain ⟨d0, r0, rfl, e0, hd⟩ := alls_cons hd
      cases alls_nil hd
      obtain ⟨a, rfl⟩ := dv_int e0
      exact ⟨(a : Int), rfl⟩
    · refine ⟨[.string], by kernel_rfl, by kernel_rfl, by kernel_rfl, by show 1 ≤ 1; omega, fun ds hd => ?_⟩
      obtain ⟨d0, r0, rfl, e0, hd⟩ := alls_cons hd
      cases alls_nil hd
      obtain ⟨a, rfl⟩ := dv_str e0
      exact ⟨(a : ByteArray), rfl⟩
    · refine ⟨[.int .i64, .string, .slice 24], by kernel_rfl, by kernel_rfl, by kernel_rfl, by show 1 ≤ 3; omega, fun ds hd => ?_⟩
      obtain ⟨d0, r0, rfl, e0, hd⟩ := alls_cons hd
      obtain ⟨d1, r1, rfl, e1, hd⟩ := alls_cons hd
      obtain ⟨d2, r2, rfl, e2, hd⟩ := alls_cons hd
      cases alls_nil hd
      obtain ⟨a, rfl⟩ := dv_int e0
      obtain ⟨b, rfl⟩ := dv_str e1
      obtain ⟨c, rfl⟩ := dv_raws e2
      exact ⟨(⟨a, b, c⟩ : Rw), rfl⟩
    · refine ⟨[.int .i64], by kernel_rfl, by kernel_rfl, by kernel_rfl, by show 1 ≤ 1; omega, fun ds hd => ?_⟩
      obtain ⟨d0, r0, rfl, e0, hd⟩ := alls_cons hd
      cases alls_nil hd
      obtain ⟨a, rfl⟩ := dv_int e0
      exact ⟨(a : Int), rfl⟩
    · refine ⟨[.int .i64, .string, .string, .int .i64, .int .i64, .string, .slice 24, .slice 98], by kernel_rfl, by kernel_rfl, by kernel_rfl, by show 1 ≤ 8; omega, fun ds hd => ?_⟩
      obtain ⟨d0, r0, rfl, e0, hd⟩ := alls_cons hd
      obtain ⟨d1, r1, rfl, e1, hd⟩ := alls_cons hd
      obtain ⟨d2, r2, rfl, e2, hd⟩ := alls_cons hd
      obtain ⟨d3, r3, rfl, e3, hd⟩ := alls_cons hd
      obtain ⟨d4, r4, rfl, e4, hd⟩ := alls_cons hd
      obtain ⟨d5, r5, rfl, e5, hd⟩ := alls_cons hd
      obtain ⟨d6, r6, rfl, e6, hd⟩ := alls_cons hd
      obtain ⟨d7, r7, rfl, e7, hd⟩ := alls_cons hd
      cases alls_nil hd
      obtain ⟨a0, rfl⟩ := dv_int e0
      obtain ⟨a1, rfl⟩ := dv_str e1
      obtain ⟨a2, rfl⟩ := dv_str e2
      obtain ⟨a3, rfl⟩ := dv_int e3
      obtain ⟨a4, rfl⟩ := dv_int e4
      obtain ⟨a5, rfl⟩ := dv_str e5
      obtain ⟨a6, rfl⟩ := dv_raws e6
      obtain ⟨a7, rfl⟩ := dv_parts e7
      exact ⟨(⟨a0, a1, a2, a3, ⟨a4, a5, a6⟩, a7⟩ : Pt), rfl⟩
    · refine ⟨[.string, .string, .int .i64, .string, .slice 24, .slice 98], by kernel_rfl, by kernel_rfl, by kernel_rfl, by show 1 ≤ 6; omega, fun ds hd => ?_⟩
      obtain ⟨d0, r0, rfl, e0, hd⟩ := alls_cons hd
      obtain ⟨d1, r1, rfl, e1, hd⟩ := alls_cons hd
      obtain ⟨d2, r2, rfl, e2, hd⟩ := alls_cons hd
      obtain ⟨d3, r3, rfl, e3, hd⟩ := alls_cons hd
      obtain ⟨d4, r4, rfl, e4, hd⟩ := alls_cons hd
      obtain ⟨d5, r5, rfl, e5, hd⟩ := alls_cons hd
      cases alls_nil hd
      obtain ⟨a0, rfl⟩ := dv_str e0
      obtain ⟨a1, rfl⟩ := dv_str e1
      obtain ⟨a2, rfl⟩ := dv_int e2
      obtain ⟨a3, rfl⟩ := dv_str e3
      obtain ⟨a4, rfl⟩ := dv_raws e4
      obtain ⟨a5, rfl⟩ := dv_parts e5
      exact ⟨(⟨a0, a1, ⟨a2, a3, a4⟩, a5⟩ : It), rfl⟩

theorem arg_of {t : TypeId} {p : PV sig} (h : Arg Tryz.prog lay t p) {b : Bool} {ts : List TypeDesc} (h1 : aggT Tryz.prog t = some b) (h2 : flat Tryz.prog 8 t = some ts) :
    ∃ ds, Alls (DvT lay) ts ds ∧ (∀ d ∈ ds, VOk Tryz.prog lay d) ∧ p = argP b ds := by
  obtain ⟨b', ts', ds, e1, e2, e3, e4, e5⟩ := h
  rw [h1] at e1; cases e1
  rw [h2] at e2; cases e2
  exact ⟨ds, e3, e4, e5⟩

theorem arg_int {p : PV sig} (h : Arg Tryz.prog lay 3 p) : ∃ n : Int, p = .d (.int .i64 n) := by
  obtain ⟨ds, h1, _, rfl⟩ := arg_of h (b := false) (ts := [.int .i64]) (by kernel_rfl) (by kernel_rfl)
  obtain ⟨d0, r0, rfl, e0, hd⟩ := alls_cons h1
  cases alls_nil hd
  obtain ⟨n, rfl⟩ := dv_int e0
  exact ⟨n, rfl⟩

theorem arg_str {p : PV sig} (h : Arg Tryz.prog lay 9 p) : ∃ s : ByteArray, p = .d (.str s) ∧ s.size ≤ 140737488355328 := by
  obtain ⟨ds, h1, h2, rfl⟩ := arg_of h (b := false) (ts := [.string]) (by kernel_rfl) (by kernel_rfl)
  obtain ⟨d0, r0, rfl, e0, hd⟩ := alls_cons h1
  cases alls_nil hd
  obtain ⟨s, rfl⟩ := dv_str e0
  refine ⟨s, rfl, ?_⟩
  cases h2 _ (List.mem_cons_self ..) with
  | str _ h => have := reachBytes_lt; omega

theorem raws_ok {l : List Rw} (h : VOk Tryz.prog lay (.sl Key.raw l)) : l.length * 48 ≤ 140737488351232 ∧ ∀ x ∈ l, VOk Tryz.prog lay (.str x.name) ∧ VOk Tryz.prog lay (.sl Key.raw x.args) := by
  have key : ∀ {x : DV sig}, VOk Tryz.prog lay x → x = .sl Key.raw l → l.length * 48 ≤ 140737488351232 ∧ ∀ x ∈ l, VOk Tryz.prog lay (.str x.name) ∧ VOk Tryz.prog lay (.sl Key.raw x.args) := by
    intro x hx
    cases hx with
    | bool b => intro h; cases h
    | int k n _ => intro h; cases h
    | str s _ => intro h; cases h
    | sl e k l' hk hl hcs =>
      intro h
      cases h
      have he : e = 24 := by
        rcases key_inv hk with ⟨_, h⟩ | ⟨_, h⟩ | ⟨_, h⟩ | ⟨h, _⟩ | ⟨_, h⟩ | ⟨_, h⟩ | ⟨_, h⟩ <;> first | exact h | cases h
      subst he
      have hb : Tryz.prog.bytesOf 24 = 48 := by kernel_rfl
      rw [hb] at hl
      exact ⟨hl, fun x hx => ⟨hcs x hx (.str x.name) (List.mem_cons_of_mem _ (List.mem_cons_self ..)), hcs x hx (.sl Key.raw x.args) (List.mem_cons_of_mem _ (List.mem_cons_of_mem _ (List.mem_cons_self ..)))⟩⟩
  exact key h rfl

theorem str_ok {s : ByteArray} (h : VOk Tryz.prog lay (.str s)) : s.size ≤ 140737488355328 := by
  cases h with
  | str _ h => have := reachBytes_lt; omega

theorem rw_ok (t : Rw) : VOk Tryz.prog lay (.str t.name) → VOk Tryz.prog lay (.sl Key.raw t.args) → t.Ok := by
  induction t using Rw.ind with
  | h op name args ih =>
    intro h1 h2
    obtain ⟨h3, h4⟩ := raws_ok h2
    exact .mk op name args (str_ok h1) h3 fun x hx => ih x hx (h4 x hx).1 (h4 x hx).2

theorem arg_raw {p : PV sig} (h : Arg Tryz.prog lay 24 p) : ∃ t : Rw, p = .agg [.d (.int .i64 t.op), .d (.str t.name), .d (.sl Key.raw t.args)] ∧ t.Ok := by
  obtain ⟨ds, h1, h2, rfl⟩ := arg_of h (b := true) (ts := [.int .i64, .string, .slice 24]) (by kernel_rfl) (by kernel_rfl)
  obtain ⟨d0, r0, rfl, e0, hd⟩ := alls_cons h1
  obtain ⟨d1, r1, rfl, e1, hd⟩ := alls_cons hd
  obtain ⟨d2, r2, rfl, e2, hd⟩ := alls_cons hd
  cases alls_nil hd
  obtain ⟨a, rfl⟩ := dv_int e0
  obtain ⟨b, rfl⟩ := dv_str e1
  obtain ⟨c, rfl⟩ := dv_raws e2
  exact ⟨⟨a, b, c⟩, rfl, rw_ok _ (h2 _ (List.mem_cons_of_mem _ (List.mem_cons_self ..))) (h2 _ (List.mem_cons_of_mem _ (List.mem_cons_of_mem _ (List.mem_cons_self ..))))⟩

/-! ### What the rows list -/

theorem starErr : "*" ++ "errors.errorString" = "*errors.errorString" := by decide
theorem rowErr (u : TypeId) (h : Tryz.prog.typeName? 3 u = some "*errors.errorString") : u = 190 :=
  typeName_ptr_named (nm := "errors.errorString") (by rw [starErr]; kernel_rfl) (by kernel_rfl) (by decide) u (by rw [starErr]; exact h)

theorem err_fix {n : String} {g : Nat} {text : List UInt8} {r : List (String × DataW Unit)} {w : World} (h : laidMet Tryz.prog ((n, .iface "*errors.errorString" (.ptr (.agg [.lit (.string text)]))) :: r) w)
    (hg : Tryz.prog.globalNamed n = some g) (ht : (Tryz.prog.globals[g]?).map (·.type) = some 152) : ∃ te pe ty fr, w.heap[g]? = some (.cells #[.iface te pe] ty fr) := by
  obtain ⟨a, s, hv, _⟩ := laid_sentinel h hg ht Tryz.underlying152 rowErr Tryz.underlying190 Tryz.underlying192 rfl rfl Tryz.underlying9 (by kernel_rfl) (by kernel_rfl)
  unfold World.var? at hv
  rw [hg, Option.bind_some] at hv
  split at hv
  · rename_i cs ty fr hc
    cases hv
    exact ⟨_, _, _, _, hc⟩
  · cases hv

theorem tab_fix {k : IntKind} {zs : List Int} {g : Nat} {w : World} {n : String} (h : Lib.TabIs Tryz.prog w n k zs) (hg : Tryz.prog.globalNamed n = some g) : ∃ ty fr, w.heap[g]? = some (.cells (zs.map fun z => Value.int k z).toArray ty fr) := by
  unfold Lib.TabIs World.var? at h
  rw [hg, Option.bind_some] at h
  split at h
  · rename_i cs ty fr hc
    cases h
    exact ⟨_, _, hc⟩
  · cases h

theorem laid_fix (w : World) (h : laidMet Tryz.prog Rows.syntaxExprsRow.laid w) : ∀ b, lay.fixB b = true → ∃ o, w.heap[b]? = some o ∧ lay.fixOk b o := by
  have h3 : laidMet Tryz.prog (("internal/strconv.uint64pow10", Lib.tabData .u64 Lib.pow10Tab) :: [("strconv.ErrRange", Rows.laid_strconv_ErrRange), ("strconv.ErrSyntax", Rows.laid_strconv_ErrSyntax)]) w := h.tail.tail
  obtain ⟨ty, fr, ht⟩ := tab_fix (Lib.tabIs_of_head (g := 1) (t := 176) (e := 160) (n := 20) (by kernel_rfl) (by kernel_rfl) (by kernel_rfl) (by kernel_rfl) (by kernel_rfl) (by kernel_rfl) h3) (g := 1) (by kernel_rfl)
  obtain ⟨te2, pe2, ty2, fr2, h2⟩ := err_fix h3.tail (g := 3) (by kernel_rfl) (by kernel_rfl)
  obtain ⟨te1, pe1, ty1, fr1, h1⟩ := err_fix h3.tail.tail (g := 2) (by kernel_rfl) (by kernel_rfl)
  have hS : ∃ o, w.heap[2]? = some o ∧ lay.fixOk 2 o := ⟨_, h1, by
    show fixOk1 2 _
    exact ⟨fun _ => ⟨_, _, _, _, rfl⟩, fun h => by cases h⟩⟩
  have hR : ∃ o, w.heap[3]? = some o ∧ lay.fixOk 3 o := ⟨_, h2, by
    show fixOk1 3 _
    exact ⟨fun _ => ⟨_, _, _, _, rfl⟩, fun h => by cases h⟩⟩
  have hT : ∃ o, w.heap[1]? = some o ∧ lay.fixOk 1 o := ⟨_, ht, by
    show fixOk1 1 _
    exact ⟨fun h => (by rcases h with h | h <;> cases h), fun _ => ⟨_, _, rfl⟩⟩⟩
  intro b hb
  have hb' : (Nat.beq b 1 || (Nat.beq b 2 || Nat.beq b 3)) = true := hb
  simp only [Bool.or_eq_true] at hb'
  rcases hb' with e | e | e <;> have e := Nat.eq_of_beq_eq_true e <;> subst e <;> first | exact hS | exact hR | exact hT

/-! ### One start that fits -/

abbrev synS : ByteArray := { data := #[105, 110, 118, 97, 108, 105, 100, 32, 115, 121, 110, 116, 97, 120] }
abbrev rngS : ByteArray := { data := #[118, 97, 108, 117, 101, 32, 111, 117, 116, 32, 111, 102, 32, 114, 97, 110, 103, 101] }
noncomputable def low : Nat := (World.holding Tryz.prog default ⟨#[], #[], []⟩).heap.size
def nums : DataW Unit → List Value
  | .agg l => l.map fun | .lit (.int k n) => .int k n | _ => .bool false
  | _ => []
def setVar (vs : List Value) : Obj → Obj
  | .cells _ t frozen => .cells vs.toArray t frozen
  | o => o
/-- The settled world with two blocks more, each an error; the listed variables hold what their initialisers lay. -/
noncomputable def laidWorld (os : Os) : World :=
  let w0 := World.holding Tryz.prog os ⟨#[.cells #[.string synS] 192, .cells #[.string rngS] 192], #[], []⟩
  { w0 with heap := ((((w0.heap.modify 2 (setVar [.iface 190 (.pointer (some ⟨low, 0, none⟩))])).modify 3 (setVar [.iface 190 (.pointer (some ⟨low + 1, 0, none⟩))])).modify 1 (setVar (nums Rows.laid_internal_strconv_uint64pow10))).modify 4
      (setVar (nums Rows.laid_math_bits_deBruijn32tab))).modify 5 (setVar (nums Rows.laid_math_bits_deBruijn64tab)) }
theorem laidWorld_met (os : Os) (args : Array Value) : laidMet Tryz.prog Rows.syntaxExprsRow.laid ((laidWorld os).forCall (fun _ _ => 0) ⟨#[], args, []⟩).memory :=
  laidMet_of_run' 8 (by kernel_rfl) (by kernel_rfl)

end Go.Proofs.YtanfoijdfcnpoaaGreatDoor.Ev
