/- This file proves that what the library's functions are told to answer is what they do, in every world that the evaluator's relation allows; without any condition. -/
import Derived.Test.YtanfoijdfcnpoaaGreatDoorU0
import Derived.Test.YtanfoijdfcnpoaaGreatDoorT2
import Derived.Test.YtanfoijdfcnpoaaGreatDoorEvN
import Derived.WalkSmall
set_option linter.unusedVariables false
namespace Go.Proofs.YtanfoijdfcnpoaaGreatDoor.Ev
open Go.RowKit

/-- A function by its number is entered. -/
theorem enters (hp : Fit Tryz.prog) (f : FuncId) {n : Func} {c : Code} (h : Tryz.prog.funcs[f]? = some n) (hb : n.body = some c) (vs : Array Value) (w : World) : (callFunc f vs).run Tryz.prog w = .ok (.enter f vs) w := run_enter hp h hb vs w

theorem fr_below {g : Gh} {w w' : World} {m : Mem sig} (hm : MemInv lay g m w) (h : Below w.heap.size w w') : Fr g w g w' where
  os := h.os
  tape := h.tape
  output := h.output
  size := h.size
  keep b hb _ hω := ⟨h.block b hb, fun _ => rfl, hω⟩
  gmono _ _ _ h := h
  βmono _ _ h := h
  βnew _ _ h := .inl h

/-- A call that gives a value without pointers and turns nothing that was there. -/
theorem told_ok {f : FuncId} {args : List (PV sig)} {p : PV sig} (hent : ∀ (vs : Array Value) (w : World), (callFunc f vs).run Tryz.prog w = .ok (.enter f vs) w)
    (h : ∀ (g : Gh) (vs : List Value) (w : World), MemInv lay g [] w → PRels lay g.β g.G args vs → Calls Tryz.prog f vs.toArray w fun e w' => ∃ v, e = .returned v ∧ PRel lay g.β g.G p v ∧ Below w.heap.size w w')
    (hp : ∀ k l, p ≠ .own k l) : CallOk Tryz.prog lay f args [] (.ret p, []) := by
  intro g vs w hm hl ha
  have hrel : PRels lay g.β g.G args vs := PRels.of_get hl fun i p hp => by
    obtain ⟨v, h1, h2⟩ := ha i p hp
    exact ⟨v, h1, h2.1⟩
  refine .inl ⟨hent _ _, (h g vs w hm hrel).mono fun e w' ⟨v, he, hv, hb⟩ => ⟨g, fr_below hm hb, hm.of_heap fun b hb' => hb.block b hb', v, he, hv, ?_⟩⟩
  cases p <;> first | trivial | exact absurd rfl (hp _ _)

theorem fit1 : Fit Tryz.prog where
  mixed := by kernel_rfl
  named := by kernel_rfl
  loops := by kernel_rfl

section
variable {g : Gh} {w : World} {m : Mem sig}

theorem fix_at {b : Nat} (hb : lay.fixB b = true) (hm : MemInv lay g m w) : ∃ o, w.heap[b]? = some o ∧ fixOk1 b o := (hm.wok b hb).2.2

theorem cell_err {b : Nat} (hm : MemInv lay g m w) (hb : b = 2 ∨ b = 3) : ∃ te pe, w.cell? ⟨b, 0, none⟩ = some (.iface te pe) := by
  obtain ⟨o, h1, h2, _⟩ := fix_at (b := b) (by rcases hb with rfl | rfl <;> rfl) hm
  obtain ⟨te, pe, ty, fr, rfl⟩ := h2 hb
  exact ⟨te, pe, by simp [World.cell?, h1]⟩

theorem tab_is (hm : MemInv lay g m w) : Lib.TabIs Tryz.prog w "internal/strconv.uint64pow10" .u64 Lib.pow10Tab := by
  obtain ⟨o, h1, _, h2⟩ := fix_at (b := 1) rfl hm
  obtain ⟨ty, fr, rfl⟩ := h2 rfl
  unfold Lib.TabIs World.var?
  rw [show Tryz.prog.globalNamed "internal/strconv.uint64pow10" = some 1 from by kernel_rfl]
  simp [h1]

end

theorem prels1 {β : Nat → Option Nat} {G : Nat → Nat → Option Value} {p : PV sig} {vs : List Value} (h : PRels lay β G [p] vs) : ∃ v, vs = [v] ∧ PRel lay β G p v := by
  obtain _ | ⟨v, _ | ⟨u, r⟩⟩ := vs <;> simp only [PRels] at h
  · exact ⟨v, rfl, h.1⟩
  · exact h.2.elim
theorem prels2 {β : Nat → Option Nat} {G : Nat → Nat → Option Value} {p q : PV sig} {vs : List Value} (h : PRels lay β G [p, q] vs) : ∃ v u, vs = [v, u] ∧ PRel lay β G p v ∧ PRel lay β G q u := by
  obtain _ | ⟨v, r⟩ := vs
  · simp only [PRels] at h
  · have h1 := h.1
    obtain ⟨u, rfl, h2⟩ := prels1 h.2
    exact ⟨v, u, rfl, h1, h2⟩

theorem okStr {s : ByteArray} {β : Nat → Option Nat} {G : Nat → Nat → Option Value} : PRel lay β G (.d (.str s)) (.string s) := by simp only [PRel]; exact .str _
theorem okInt {k : IntKind} {n : Int} {β : Nat → Option Nat} {G : Nat → Nat → Option Value} : PRel lay β G (.d (.int k n)) (.int k n) := by simp only [PRel]; exact .int _ _

theorem ok_itoa (n : Int) (h0 : -9223372036854775808 ≤ n) (h1 : n ≤ 9223372036854775807) : CallOk Tryz.prog lay 95 [.d (.int .i64 n)] [] (.ret (.d (.str ⟨(Lib.itoa n).toArray⟩)), []) := by
  refine told_ok (enters fit1 95 (n := fnOf Tryz.prog 95) (c := textOf Tryz.prog 95) (by kernel_rfl) (by kernel_rfl)) (fun g vs w hm hr => ?_) (by simp)
  obtain ⟨v, rfl, hv⟩ := prels1 hr
  cases hv.d_int
  refine (Tryz.itoa n h0 h1 w (tab_is hm)).mono fun e w' ⟨he, k, os, hw⟩ => ⟨_, he, okStr, ?_⟩
  subst hw
  exact (below_drewN (Below.refl _ _) k).trans ⟨rfl, rfl, rfl, by simp [Sort.grow], fun k hk => by
    show (w.heap ++ os)[k]? = w.heap[k]?
    exact Array.getElem?_append_left hk⟩

theorem ok_indexByte (s : ByteArray) (c : Int) : CallOk Tryz.prog lay 103 [.d (.str s), .d (.int .u8 c)] [] (.ret (.d (.int .i64 (Lib.indexByte s.data.toList c.toNat.toUInt8))), []) := by
  refine told_ok (enters fit1 103 (n := fnOf Tryz.prog 103) (c := textOf Tryz.prog 103) (by kernel_rfl) (by kernel_rfl)) (fun g vs w hm hr => ?_) (by simp)
  obtain ⟨v, u, rfl, hv, hu⟩ := prels2 hr
  cases hv.d_str; cases hu.d_int
  refine (Tryz.indexByte s c w).mono fun e w' ⟨he, hw⟩ => ⟨_, he, okInt, ?_⟩
  subst hw; exact Below.refl _ _

theorem ok_atoi (s : ByteArray) (hs : s.size ≤ 140737488355328) (v : Int) (h : Lib.atoiAll s.data.toList = .ok v) :
    CallOk Tryz.prog lay 139 [.d (.str s)] [] (.ret (.tup [.d (.int .i64 v), .nilif]), []) := by
  refine told_ok (enters fit1 139 (n := fnOf Tryz.prog 139) (c := textOf Tryz.prog 139) (by kernel_rfl) (by kernel_rfl)) (fun g vs w hm hr => ?_) (by simp)
  obtain ⟨u, rfl, hu⟩ := prels1 hr
  cases hu.d_str
  refine (Tryz.atoi_ok s (by omega) v h w).mono fun e w' ⟨he, hw⟩ => ⟨_, he, ?_, ?_⟩
  · simp only [PRel]
    exact ⟨[.int .i64 v, .nilIface], rfl, by simp only [PRels]; exact ⟨okInt, by simp only [PRel], trivial⟩⟩
  · rcases hw with rfl | ⟨t, rfl⟩
    · exact Below.refl _ _
    · exact Lib.bytesWorld_below _ _ _

theorem ok_atoi_bad (s : ByteArray) (hs : s.size ≤ 140737488355328) (n : Int) (h : (Lib.atoiAll s.data.toList = Lib.NumEnd.syntax ∧ n = 0) ∨ (Lib.atoiAll s.data.toList = .range ∧ n = Lib.atoiSat s.data.toList)) :
    CallOk Tryz.prog lay 139 [.d (.str s)] [] (.ret (.tup [.d (.int .i64 n), .iface 171 .any]), []) := by
  refine told_ok (enters fit1 139 (n := fnOf Tryz.prog 139) (c := textOf Tryz.prog 139) (by kernel_rfl) (by kernel_rfl)) (fun g vs w hm hr => ?_) (by simp)
  obtain ⟨u, rfl, hu⟩ := prels1 hr
  cases hu.d_str
  have fin : ∀ N, PRel lay g.β g.G (.tup [.d (.int .i64 n), .iface 171 .any]) (.tuple #[.int .i64 n, .iface 171 (.pointer (some ⟨N, 0, none⟩))]) := by
    intro N
    simp only [PRel]
    exact ⟨[.int .i64 n, .iface 171 (.pointer (some ⟨N, 0, none⟩))], rfl, by simp only [PRels]; exact ⟨okInt, by simp only [PRel]; exact ⟨_, rfl, trivial⟩, trivial⟩⟩
  rcases h with ⟨h, rfl⟩ | ⟨h, rfl⟩
  · obtain ⟨te, pe, hc⟩ := cell_err hm (.inl rfl)
    exact (Tryz.atoi_syntax s (by omega) h _ w hc (.inr ⟨te, pe, rfl⟩)).mono fun e w' ⟨N, he, hw⟩ => ⟨_, he, fin N, hw⟩
  · obtain ⟨te, pe, hc⟩ := cell_err hm (.inr rfl)
    exact (Tryz.atoi_range s (by omega) h _ w hc (.inr ⟨te, pe, rfl⟩)).mono fun e w' ⟨N, he, hw⟩ => ⟨_, he, fin N, hw⟩

/-! ### As the tables tell it -/

theorem told139 (s : ByteArray) : (∀ ρ (K : Res sig × Mem sig → Option ρ), toldAtoi s (fun n => K (.ret (.tup [.d (.int .i64 n), .nilif]), [])) (fun n => K (.ret (.tup [.d (.int .i64 n), .iface 171 .any]), [])) = none) ∨
    ∃ r, CallOk Tryz.prog lay 139 [.d (.str s)] [] r ∧ ∀ ρ (K : Res sig × Mem sig → Option ρ), toldAtoi s (fun n => K (.ret (.tup [.d (.int .i64 n), .nilif]), [])) (fun n => K (.ret (.tup [.d (.int .i64 n), .iface 171 .any]), [])) = K r := by
  unfold toldAtoi
  by_cases hs : s.size ≤ 140737488355328
  · simp only [hs, decide_true, cond_true]
    rcases h : Lib.atoiAll s.data.toList with v | _ | _
    · exact .inr ⟨_, ok_atoi s hs v h, fun _ _ => rfl⟩
    · exact .inr ⟨_, ok_atoi_bad s hs 0 (.inl ⟨h, rfl⟩), fun _ _ => rfl⟩
    · exact .inr ⟨_, ok_atoi_bad s hs _ (.inr ⟨h, rfl⟩), fun _ _ => rfl⟩
  · simp only [hs, decide_false, cond_false]
    exact .inl fun _ _ => trivial

theorem told95 (n : Int) : (∀ ρ (K : Res sig × Mem sig → Option ρ), toldItoa n (fun x => K (.ret (.d (.str x)), [])) = none) ∨
    ∃ r, CallOk Tryz.prog lay 95 [.d (.int .i64 n)] [] r ∧ ∀ ρ (K : Res sig × Mem sig → Option ρ), toldItoa n (fun x => K (.ret (.d (.str x)), [])) = K r := by
  unfold toldItoa
  by_cases h0 : -9223372036854775808 ≤ n <;> by_cases h1 : n ≤ 9223372036854775807 <;> simp only [h0, h1, decide_true, decide_false, Bool.and_true, Bool.and_false, cond_true, cond_false]
  · exact .inr ⟨_, ok_itoa n h0 h1, fun _ _ => rfl⟩
  all_goals exact .inl fun _ _ => trivial

theorem told103 (s : ByteArray) (c : Int) : (∀ ρ (K : Res sig × Mem sig → Option ρ), toldIndexByte s c (fun x => K (.ret (.d (.int .i64 x)), [])) = none) ∨
    ∃ r, CallOk Tryz.prog lay 103 [.d (.str s), .d (.int .u8 c)] [] r ∧ ∀ ρ (K : Res sig × Mem sig → Option ρ), toldIndexByte s c (fun x => K (.ret (.d (.int .i64 x)), [])) = K r :=
  .inr ⟨_, ok_indexByte s c, fun _ _ => rfl⟩

end Go.Proofs.YtanfoijdfcnpoaaGreatDoor.Ev
