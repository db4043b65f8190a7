/- This file proves nothing of the program: it defines how plain values are read as arguments of the typed functions, and the tables of these. -/
import Derived.Test.YtanfoijdfcnpoaaDoorG1
set_option linter.unusedVariables false
set_option linter.unusedSimpArgs false
namespace Go.Proofs.YtanfoijdfcnpoaaDoor.Ev

section
variable (C : Tab) (ρ : Type) (args : List (PV sig)) (m : Mem sig) (K : Res sig × Mem sig → Option ρ)

def Rc3_0 : Option ρ :=
  uC args fun x0 x1 => uRw .d x0 fun a1 => u0 x1 <| uE m <| C.c3_0 ρ a1 (fun y0 => K (.ret (.d (.bool y0)), []))

def Rc8_0 : Option ρ :=
  uC args fun x0 x1 => uI .i64 x0 fun a1 => u0 x1 <| uE m <| C.c8_0 ρ a1 (fun y0 => K (.ret (.d (.bool y0)), []))

def Rc9_0 : Option ρ :=
  uC args fun x0 x1 => uRw .d x0 fun a1 => u0 x1 <| uE m <| C.c9_0 ρ a1 (fun y0 => K (.ret (.d (.int .i64 y0)), []))

def Rc10_0 : Option ρ :=
  uC args fun x0 x1 => uRw .d x0 fun a1 => u0 x1 <| uE m <| C.c10_0 ρ a1 (fun y0 y1 => K (.ret (.tup [.d (.str y0), .d (.int .i64 y1)]), []))

def Rc11_0 : Option ρ :=
  uC args fun x0 x1 => uRw .d x0 fun a1 => u0 x1 <| uE m <| C.c11_0 ρ a1 (fun y0 => K (.ret (.d (.bool y0)), []))

def Rc12_0 : Option ρ :=
  u0 args <| uE m <| C.c12_0 ρ (fun y0 => K (.ret (.d (.bool y0)), []))

def Rc13_0 : Option ρ :=
  uC args fun x0 x1 => uRw .d x0 fun a1 => u0 x1 <| uE m <| C.c13_0 ρ a1 (fun y0 => K (.ret (.d (.str y0)), []))

def Rc14_0 : Option ρ :=
  uC args fun x0 x1 => uStr x0 fun a1 => u0 x1 <| uE m <| C.c14_0 ρ a1 (fun y0 y1 y2 => K (.ret (.tup [.agg [.d (.int .i64 y0.op), .d (.str y0.name), .d (.sl Key.raw y0.args)], .d (.int .i64 y1), .d (.int .i64 y2)]), []))

def Rc15_0 : Option ρ :=
  uC args fun x0 x1 => uRw .d x0 fun a1 => uC x1 fun x2 x3 => uRw .d x2 fun a2 => u0 x3 <| uE m <| C.c15_0 ρ a1 a2 (fun y0 => K (.ret (.d (.bool y0)), []))

def Rc20_0 : Option ρ :=
  uC args fun x0 x1 => uStr x0 fun a1 => u0 x1 <| uE m <| C.c20_0 ρ a1 (fun y0 y1 y2 => K (.ret (.tup [.d (.sl Key.item y0), .d (.int .i64 y1), .d (.int .i64 y2)]), []))

def Rc22_0 : Option ρ :=
  uC args fun x0 x1 => uRw .d x0 fun a1 => uC x1 fun x2 x3 => uI .i64 x2 fun a2 => uC x3 fun x4 x5 => uP 0 0 x4 <| u0 x5 <| uM m fun x7 x6 => uC x7 fun x8 x9 => uI .i64 x8 fun a3 => u0 x9 <| uE x6 <| C.c22_0 ρ a1 a2 a3 (fun y0 y1 => K (.ret (.d (.bool y0)), [some [.d (.int .i64 y1)]]))

def Rc23_0 : Option ρ :=
  uC args fun x0 x1 => uRw .d x0 fun a1 => uC x1 fun x2 x3 => uS (S:=sig) .d Key.int x2 fun (a2 : List Int) => u0 x3 <| uE m <| C.c23_0 ρ a1 a2 (fun y0 => K (.ret (.d (.str y0)), []))

def Rc24_0 : Option ρ :=
  uC args fun x0 x1 => uRw .d x0 fun a1 => uC x1 fun x2 x3 => uI .i64 x2 fun a2 => u0 x3 <| uE m <| C.c24_0 ρ a1 a2 (fun y0 => K (.ret (.d (.int .i64 y0)), []))

def Rc25_0 : Option ρ :=
  uC args fun x0 x1 => uRw .d x0 fun a1 => uC x1 fun x2 x3 => uI .i64 x2 fun a2 => u0 x3 <| uE m <| C.c25_0 ρ a1 a2 (fun y0 => K (.ret (.d (.bool y0)), []))

def Rc26_0 : Option ρ :=
  uC args fun x0 x1 => uStr x0 fun a1 => uC x1 fun x2 x3 => uB x2 fun a2 => u0 x3 <| uE m <| C.c26_0 ρ a1 a2 (fun y0 => K (.ret (.d (.str y0)), []))

def Rc27_0 : Option ρ :=
  uC args fun x0 x1 => uRw .d x0 fun a1 => u0 x1 <| uE m <| C.c27_0 ρ a1 (fun y0 => K (.ret (.d (.bool y0)), []))

def Rc28_0 : Option ρ :=
  uC args fun x0 x1 => uStr x0 fun a1 => u0 x1 <| uE m <| C.c28_0 ρ a1 (fun y0 y1 y2 => K (.ret (.tup [.d (.sl Key.tok y0), .d (.int .i64 y1), .d (.int .i64 y2)]), []))

def Rc30_0 : Option ρ :=
  uC args fun x0 x1 => uP 0 0 x0 <| u0 x1 <| uM m fun x3 x2 => uC x3 fun x4 x5 => uS (S:=sig) .d Key.tok x4 fun (a1 : List Tok) => uC x5 fun x6 x7 => uI .i64 x6 fun a2 => u0 x7 <| uE x2 <| C.c30_0 ρ a1 a2 (fun y0 y1 y2 => K (.ret (.agg [.d (.int .i64 y0.op), .d (.str y0.name), .d (.sl Key.raw y0.args)]), [some [.d (.sl Key.tok y1), .d (.int .i64 y2)]])) (fun y0 y1 y2 y3 => K (.pan (.iface 90 (.agg [.d (.int .i64 y0), .d (.int .i64 y1)])), [some [.d (.sl Key.tok y2), .d (.int .i64 y3)]]))

def Rc31_0 : Option ρ :=
  uC args fun x0 x1 => uP 0 0 x0 <| u0 x1 <| uM m fun x3 x2 => uC x3 fun x4 x5 => uS (S:=sig) .d Key.tok x4 fun (a1 : List Tok) => uC x5 fun x6 x7 => uI .i64 x6 fun a2 => u0 x7 <| uE x2 <| C.c31_0 ρ a1 a2 (fun y0 y1 y2 => K (.ret (.agg [.d (.int .i64 y0.kind), .d (.str y0.text), .d (.int .i64 (y0.at_))]), [some [.d (.sl Key.tok y1), .d (.int .i64 y2)]]))

def Rc32_0 : Option ρ :=
  uC args fun x0 x1 => uP 0 0 x0 <| u0 x1 <| uM m fun x3 x2 => uC x3 fun x4 x5 => uS (S:=sig) .d Key.tok x4 fun (a1 : List Tok) => uC x5 fun x6 x7 => uI .i64 x6 fun a2 => u0 x7 <| uE x2 <| C.c32_0 ρ a1 a2 (fun y0 y1 y2 y3 => K (.pan (.iface 90 (.agg [.d (.int .i64 y0), .d (.int .i64 y1)])), [some [.d (.sl Key.tok y2), .d (.int .i64 y3)]]))

def Rc37_0 : Option ρ :=
  uC args fun x0 x1 => uP 0 0 x0 <| u0 x1 <| uM m fun x3 x2 => uC x3 fun x4 x5 => uS (S:=sig) .d Key.tok x4 fun (a1 : List Tok) => uC x5 fun x6 x7 => uI .i64 x6 fun a2 => u0 x7 <| uE x2 <| C.c37_0 ρ a1 a2 (fun y0 y1 => K (.ret (.fn (.func 52) [] [.ptr 1 0]), [some [.d (.sl Key.tok y0), .d (.int .i64 y1)], some [.ptr 0 0]]))

def Rc38_0 : Option ρ :=
  uC args fun x0 x1 => uIt .d .d x0 fun a1 => u0 x1 <| uE m <| C.c38_0 ρ a1 (fun y0 => K (.ret (.d (.int .i64 y0)), []))

def Rc40_0 : Option ρ :=
  uC args fun x0 x1 => uStr x0 fun a1 => u0 x1 <| uE m <| C.c40_0 ρ a1 (fun y0 => K (.ret (.d (.bool y0)), []))

def Rc41_0 : Option ρ :=
  uC args fun x0 x1 => uS (S:=sig) .d Key.int x0 fun (a1 : List Int) => uC x1 fun x2 x3 => uI .i64 x2 fun a2 => u0 x3 <| uE m <| C.c41_0 ρ a1 a2 (fun y0 => K (.ret (.d (.bool y0)), []))

def Rc42_0 : Option ρ :=
  uC args fun x0 x1 => uStr x0 fun a1 => u0 x1 <| uE m <| C.c42_0 ρ a1 (fun y0 => K (.ret (.d (.bool y0)), []))

def Rc43_0 : Option ρ :=
  uC args fun x0 x1 => uP 0 0 x0 <| u0 x1 <| uM m fun x3 x2 => uC x3 fun x4 x5 => uStr x4 fun a1 => uC x5 fun x6 x7 => uI .i64 x6 fun a2 => u0 x7 <| uE x2 <| C.c43_0 ρ a1 a2 (fun y0 y1 => K (.ret (.tup []), [some [.d (.str y0), .d (.int .i64 y1)]]))

def Rc44_0 : Option ρ :=
  uC args fun x0 x1 => uI .u8 x0 fun a1 => u0 x1 <| uE m <| C.c44_0 ρ a1 (fun y0 => K (.ret (.fn (.func 64) [] [.ptr 1 0]), [some [.d (.int .u8 y0)], some [.fn (.func 62) [] []]])) (fun y0 => K (.ret (.fn (.func 67) [] [.ptr 1 0]), [some [.d (.int .u8 y0)], some [.fn (.func 62) [] []]])) (fun y0 => K (.ret (.fn (.func 69) [] [.ptr 1 0]), [some [.d (.int .u8 y0)], some [.fn (.func 62) [] []]])) (fun y0 => K (.ret (.fn (.func 71) [] [.ptr 1 0]), [some [.d (.int .u8 y0)], some [.fn (.func 62) [] []]])) (fun y0 => K (.ret (.fn (.func 72) [] [.ptr 1 0]), [some [.d (.int .u8 y0)], some [.fn (.func 62) [] []]])) (K (.ret (.fn (.func 73) [] []), [])) (fun y0 => K (.ret (.fn (.func 74) [] [.ptr 1 0]), [some [.d (.int .u8 y0)], some [.fn (.func 62) [] []]])) (fun y0 => K (.ret (.fn (.func 75) [] [.ptr 1 0, .ptr 0 0]), [some [.d (.int .u8 y0)], some [.fn (.func 62) [] []]]))

def Rc45_0 : Option ρ :=
  uC args fun x0 x1 => uP 0 0 x0 <| uC x1 fun x2 x3 => uS (S:=sig) .d Key.str x2 fun (a1 : List ByteArray) => u0 x3 <| uM m fun x5 x4 => uC x5 fun x6 x7 => uS (S:=sig) .d Key.tok x6 fun (a2 : List Tok) => uC x7 fun x8 x9 => uI .i64 x8 fun a3 => u0 x9 <| uE x4 <| C.c45_0 ρ a1 a2 a3 (fun y0 y1 y2 => K (.ret (.d (.bool y0)), [some [.d (.sl Key.tok y1), .d (.int .i64 y2)]]))

def Rc46_0 : Option ρ :=
  uC args fun x0 x1 => uP 0 0 x0 <| u0 x1 <| uM m fun x3 x2 => uC x3 fun x4 x5 => uS (S:=sig) .d Key.tok x4 fun (a1 : List Tok) => uC x5 fun x6 x7 => uI .i64 x6 fun a2 => u0 x7 <| uE x2 <| C.c46_0 ρ a1 a2 (fun y0 y1 y2 => K (.ret (.agg [.d (.int .i64 y0.op), .d (.str y0.name), .d (.sl Key.raw y0.args)]), [some [.d (.sl Key.tok y1), .d (.int .i64 y2)]])) (fun y0 y1 y2 y3 => K (.pan (.iface 90 (.agg [.d (.int .i64 y0), .d (.int .i64 y1)])), [some [.d (.sl Key.tok y2), .d (.int .i64 y3)]]))

def Rc47_0 : Option ρ :=
  uC args fun x0 x1 => uP 0 0 x0 <| u0 x1 <| uM m fun x3 x2 => uC x3 fun x4 x5 => uS (S:=sig) .d Key.tok x4 fun (a1 : List Tok) => uC x5 fun x6 x7 => uI .i64 x6 fun a2 => u0 x7 <| uE x2 <| C.c47_0 ρ a1 a2 (fun y0 y1 y2 y3 => K (.ret (.tup [.agg [.d (.int .i64 y0.op), .d (.str y0.name), .d (.sl Key.raw y0.args)], .d (.bool y1)]), [some [.d (.sl Key.tok y2), .d (.int .i64 y3)]])) (fun y0 y1 y2 y3 => K (.pan (.iface 90 (.agg [.d (.int .i64 y0), .d (.int .i64 y1)])), [some [.d (.sl Key.tok y2), .d (.int .i64 y3)]]))

def Rc48_0 : Option ρ :=
  uC args fun x0 x1 => uS (S:=sig) .d Key.str x0 fun (a1 : List ByteArray) => uC x1 fun x2 x3 => uStr x2 fun a2 => u0 x3 <| uE m <| C.c48_0 ρ a1 a2 (fun y0 => K (.ret (.d (.bool y0)), []))

def Rc53_0 : Option ρ :=
  uC args fun x0 x1 => uP 0 0 x0 <| u0 x1 <| uM m fun x3 x2 => uC x3 fun x4 x5 => uS (S:=sig) .d Key.tok x4 fun (a1 : List Tok) => uC x5 fun x6 x7 => uI .i64 x6 fun a2 => u0 x7 <| uE x2 <| C.c53_0 ρ a1 a2 (fun y0 y1 y2 => K (.ret (.agg [.d (.str y0.word), .d (.str y0.name), .d (.int .i64 y0.raw.op), .d (.str y0.raw.name), .d (.sl Key.raw y0.raw.args), .d (.sl Key.part y0.parts)]), [some [.d (.sl Key.tok y1), .d (.int .i64 y2)]])) (fun y0 y1 y2 y3 => K (.pan (.iface 90 (.agg [.d (.int .i64 y0), .d (.int .i64 y1)])), [some [.d (.sl Key.tok y2), .d (.int .i64 y3)]]))

def Rc54_0 : Option ρ :=
  uC args fun x0 x1 => uStr x0 fun a1 => u0 x1 <| uE m <| C.c54_0 ρ a1 (fun y0 => K (.ret (.d (.bool y0)), []))

def Rc55_0 : Option ρ :=
  uC args fun x0 x1 => uRw .d x0 fun a1 => u0 x1 <| uE m <| C.c55_0 ρ a1 (fun y0 => K (.ret (.d (.bool y0)), []))

def Rc56_0 : Option ρ :=
  uC args fun x0 x1 => uPt .d .d x0 fun a1 => uC x1 fun x2 x3 => uI .i64 x2 fun a2 => uC x3 fun x4 x5 => uP 0 0 x4 <| u0 x5 <| uM m fun x7 x6 => uC x7 fun x8 x9 => uI .i64 x8 fun a3 => u0 x9 <| uE x6 <| C.c56_0 ρ a1 a2 a3 (fun y0 y1 => K (.ret (.d (.bool y0)), [some [.d (.int .i64 y1)]]))

def Rc57_0 : Option ρ :=
  uC args fun x0 x1 => uStr x0 fun a1 => u0 x1 <| uE m <| C.c57_0 ρ a1 (fun y0 => K (.ret (.d (.bool y0)), []))

def Rc58_0 : Option ρ :=
  uC args fun x0 x1 => uS (S:=sig) .d Key.int x0 fun (a1 : List Int) => uC x1 fun x2 x3 => uI .i64 x2 fun a2 => u0 x3 <| uE m <| C.c58_0 ρ a1 a2 (fun y0 => K (.ret (.d (.int .i64 y0)), []))

def Rc59_0 : Option ρ :=
  uC args fun x0 x1 => uStr x0 fun a1 => u0 x1 <| uE m <| C.c59_0 ρ a1 (fun y0 => K (.ret (.d (.bool y0)), []))

def Rc60_0 : Option ρ :=
  uC args fun x0 x1 => uP 0 0 x0 <| uC x1 fun x2 x3 => uI .i64 x2 fun a1 => u0 x3 <| uM m fun x5 x4 => uC x5 fun x6 x7 => uStr x6 fun a2 => uC x7 fun x8 x9 => uI .i64 x8 fun a3 => u0 x9 <| uE x4 <| C.c60_0 ρ a1 a2 a3 (fun y0 y1 y2 => K (.ret (.d (.int .u8 y0)), [some [.d (.str y1), .d (.int .i64 y2)]]))

def Rc61_0 : Option ρ :=
  uC args fun x0 x1 => uStr x0 fun a1 => uC x1 fun x2 x3 => uI .u8 x2 fun a2 => u0 x3 <| uE m <| C.c61_0 ρ a1 a2 (fun y0 => K (.ret (.d (.int .i64 y0)), []))

def Rc62_0 : Option ρ :=
  uC args fun x0 x1 => uI .i64 x0 fun a1 => uC x1 fun x2 x3 => uStr x2 fun a2 => uC x3 fun x4 x5 => uB x4 fun a3 => u0 x5 <| uE m <| C.c62_0 ρ a1 a2 a3 (fun y0 y1 => K (.ret (.tup [.d (.int .i64 y0), .d (.str y1)]), []))

def Rc63_0 : Option ρ :=
  uC args fun x0 x1 => uI .u8 x0 fun a1 => u0 x1 <| uE m <| C.c63_0 ρ a1 (fun y0 => K (.ret (.d (.bool y0)), []))

def Rc64_0 : Option ρ :=
  uC args fun x0 x1 => uP 0 0 x0 <| uC x1 fun x2 x3 => uP 1 0 x2 <| u0 x3 <| uM m fun x5 x4 => uC x5 fun x6 x7 => uStr x6 fun a1 => uC x7 fun x8 x9 => uI .i64 x8 fun a2 => u0 x9 <| uM x4 fun x11 x10 => uC x11 fun x12 x13 => uFn 62 x12 fun x14 x15 => u0 x14 <| u0 x15 <| u0 x13 <| uE x10 <| C.c64_0 ρ a1 a2 (fun y0 y1 y2 y3 => K (.ret (.tup [.d (.int .i64 y0), .d (.str y1)]), [some [.d (.str y2), .d (.int .i64 y3)], some [.fn (.func 62) [] []]]))

def Rc65_0 : Option ρ :=
  uC args fun x0 x1 => uP 0 0 x0 <| uC x1 fun x2 x3 => uI .i64 x2 fun a1 => u0 x3 <| uM m fun x5 x4 => uC x5 fun x6 x7 => uStr x6 fun a2 => uC x7 fun x8 x9 => uI .i64 x8 fun a3 => u0 x9 <| uE x4 <| C.c65_0 ρ a1 a2 a3 (fun y0 y1 y2 => K (.ret (.d (.str y0)), [some [.d (.str y1), .d (.int .i64 y2)]]))

def Rc66_0 : Option ρ :=
  uC args fun x0 x1 => uI .u8 x0 fun a1 => u0 x1 <| uE m <| C.c66_0 ρ a1 (fun y0 => K (.ret (.d (.bool y0)), []))

def Rc67_0 : Option ρ :=
  uC args fun x0 x1 => uP 0 0 x0 <| uC x1 fun x2 x3 => uP 1 0 x2 <| u0 x3 <| uM m fun x5 x4 => uC x5 fun x6 x7 => uStr x6 fun a1 => uC x7 fun x8 x9 => uI .i64 x8 fun a2 => u0 x9 <| uM x4 fun x11 x10 => uC x11 fun x12 x13 => uFn 62 x12 fun x14 x15 => u0 x14 <| u0 x15 <| u0 x13 <| uE x10 <| C.c67_0 ρ a1 a2 (fun y0 y1 y2 y3 => K (.ret (.tup [.d (.int .i64 y0), .d (.str y1)]), [some [.d (.str y2), .d (.int .i64 y3)], some [.fn (.func 62) [] []]]))

def Rc68_0 : Option ρ :=
  uC args fun x0 x1 => uI .u8 x0 fun a1 => u0 x1 <| uE m <| C.c68_0 ρ a1 (fun y0 => K (.ret (.d (.bool y0)), []))

def Rc69_0 : Option ρ :=
  uC args fun x0 x1 => uP 0 0 x0 <| uC x1 fun x2 x3 => uP 1 0 x2 <| u0 x3 <| uM m fun x5 x4 => uC x5 fun x6 x7 => uStr x6 fun a1 => uC x7 fun x8 x9 => uI .i64 x8 fun a2 => u0 x9 <| uM x4 fun x11 x10 => uC x11 fun x12 x13 => uFn 62 x12 fun x14 x15 => u0 x14 <| u0 x15 <| u0 x13 <| uE x10 <| C.c69_0 ρ a1 a2 (fun y0 y1 y2 y3 => K (.ret (.tup [.d (.int .i64 y0), .d (.str y1)]), [some [.d (.str y2), .d (.int .i64 y3)], some [.fn (.func 62) [] []]]))

def Rc70_0 : Option ρ :=
  uC args fun x0 x1 => uStr x0 fun a1 => u0 x1 <| uE m <| C.c70_0 ρ a1 (fun y0 => K (.ret (.d (.bool y0)), []))

def Rc71_0 : Option ρ :=
  uC args fun x0 x1 => uP 0 0 x0 <| uC x1 fun x2 x3 => uP 1 0 x2 <| u0 x3 <| uM m fun x5 x4 => uC x5 fun x6 x7 => uStr x6 fun a1 => uC x7 fun x8 x9 => uI .i64 x8 fun a2 => u0 x9 <| uM x4 fun x11 x10 => uC x11 fun x12 x13 => uFn 62 x12 fun x14 x15 => u0 x14 <| u0 x15 <| u0 x13 <| uE x10 <| C.c71_0 ρ a1 a2 (fun y0 y1 y2 y3 => K (.ret (.tup [.d (.int .i64 y0), .d (.str y1)]), [some [.d (.str y2), .d (.int .i64 y3)], some [.fn (.func 62) [] []]]))

def Rc72_0 : Option ρ :=
  uC args fun x0 x1 => uP 0 0 x0 <| uC x1 fun x2 x3 => uP 1 0 x2 <| u0 x3 <| uM m fun x5 x4 => uC x5 fun x6 x7 => uStr x6 fun a1 => uC x7 fun x8 x9 => uI .i64 x8 fun a2 => u0 x9 <| uM x4 fun x11 x10 => uC x11 fun x12 x13 => uFn 62 x12 fun x14 x15 => u0 x14 <| u0 x15 <| u0 x13 <| uE x10 <| C.c72_0 ρ a1 a2 (fun y0 y1 y2 y3 => K (.ret (.tup [.d (.int .i64 y0), .d (.str y1)]), [some [.d (.str y2), .d (.int .i64 y3)], some [.fn (.func 62) [] []]]))

def Rc73_0 : Option ρ :=
  uC args fun x0 x1 => uP 0 0 x0 <| u0 x1 <| uM m fun x3 x2 => uC x3 fun x4 x5 => uStr x4 fun a1 => uC x5 fun x6 x7 => uI .i64 x6 fun a2 => u0 x7 <| uE x2 <| C.c73_0 ρ a1 a2 (fun y0 y1 y2 y3 => K (.ret (.tup [.d (.int .i64 y0), .d (.str y1)]), [some [.d (.str y2), .d (.int .i64 y3)]]))

def Rc74_0 : Option ρ :=
  uC args fun x0 x1 => uP 0 0 x0 <| uC x1 fun x2 x3 => uP 1 0 x2 <| u0 x3 <| uM m fun x5 x4 => uC x5 fun x6 x7 => uStr x6 fun a1 => uC x7 fun x8 x9 => uI .i64 x8 fun a2 => u0 x9 <| uM x4 fun x11 x10 => uC x11 fun x12 x13 => uFn 62 x12 fun x14 x15 => u0 x14 <| u0 x15 <| u0 x13 <| uE x10 <| C.c74_0 ρ a1 a2 (fun y0 y1 y2 y3 => K (.ret (.tup [.d (.int .i64 y0), .d (.str y1)]), [some [.d (.str y2), .d (.int .i64 y3)], some [.fn (.func 62) [] []]]))

def Rc75_0 : Option ρ :=
  uC args fun x0 x1 => uP 0 0 x0 <| uC x1 fun x2 x3 => uP 1 0 x2 <| uC x3 fun x4 x5 => uP 2 0 x4 <| u0 x5 <| uM m fun x7 x6 => uC x7 fun x8 x9 => uStr x8 fun a1 => uC x9 fun x10 x11 => uI .i64 x10 fun a2 => u0 x11 <| uM x6 fun x13 x12 => uC x13 fun x14 x15 => uFn 62 x14 fun x16 x17 => u0 x16 <| u0 x17 <| u0 x15 <| uM x12 fun x19 x18 => uC x19 fun x20 x21 => uI .u8 x20 fun a3 => u0 x21 <| uE x18 <| C.c75_0 ρ a1 a2 a3 (fun y0 y1 y2 y3 y4 => K (.ret (.tup [.d (.int .i64 y0), .d (.str y1)]), [some [.d (.str y2), .d (.int .i64 y3)], some [.fn (.func 62) [] []], some [.d (.int .u8 y4)]]))

def Rc76_0 : Option ρ :=
  uC args fun x0 x1 => uP 0 0 x0 <| u0 x1 <| uM m fun x3 x2 => uC x3 fun x4 x5 => uS (S:=sig) .d Key.tok x4 fun (a1 : List Tok) => uC x5 fun x6 x7 => uI .i64 x6 fun a2 => u0 x7 <| uE x2 <| C.c76_0 ρ a1 a2 (fun y0 y1 y2 => K (.ret (.d (.str y0)), [some [.d (.sl Key.tok y1), .d (.int .i64 y2)]])) (fun y0 y1 y2 y3 => K (.pan (.iface 90 (.agg [.d (.int .i64 y0), .d (.int .i64 y1)])), [some [.d (.sl Key.tok y2), .d (.int .i64 y3)]]))

def Rc77_0 : Option ρ :=
  uC args fun x0 x1 => uP 0 0 x0 <| uC x1 fun x2 x3 => uStr x2 fun a1 => u0 x3 <| uM m fun x5 x4 => uC x5 fun x6 x7 => uS (S:=sig) .d Key.tok x6 fun (a2 : List Tok) => uC x7 fun x8 x9 => uI .i64 x8 fun a3 => u0 x9 <| uE x4 <| C.c77_0 ρ a1 a2 a3 (fun y0 y1 => K (.ret (.tup []), [some [.d (.sl Key.tok y0), .d (.int .i64 y1)]])) (fun y0 y1 y2 y3 => K (.pan (.iface 90 (.agg [.d (.int .i64 y0), .d (.int .i64 y1)])), [some [.d (.sl Key.tok y2), .d (.int .i64 y3)]]))

def Rc78_0 : Option ρ :=
  uC args fun x0 x1 => uP 0 0 x0 <| u0 x1 <| uM m fun x3 x2 => uC x3 fun x4 x5 => uS (S:=sig) .d Key.tok x4 fun (a1 : List Tok) => uC x5 fun x6 x7 => uI .i64 x6 fun a2 => u0 x7 <| uE x2 <| C.c78_0 ρ a1 a2 (fun y0 y1 y2 => K (.ret (.agg [.d (.int .i64 y0.op), .d (.str y0.name), .d (.sl Key.raw y0.args)]), [some [.d (.sl Key.tok y1), .d (.int .i64 y2)]])) (fun y0 y1 y2 y3 => K (.pan (.iface 90 (.agg [.d (.int .i64 y0), .d (.int .i64 y1)])), [some [.d (.sl Key.tok y2), .d (.int .i64 y3)]]))

def Rc79_0 : Option ρ :=
  uC args fun x0 x1 => uP 0 0 x0 <| u0 x1 <| uM m fun x3 x2 => uC x3 fun x4 x5 => uS (S:=sig) .d Key.tok x4 fun (a1 : List Tok) => uC x5 fun x6 x7 => uI .i64 x6 fun a2 => u0 x7 <| uE x2 <| C.c79_0 ρ a1 a2 (fun y0 y1 y2 => K (.ret (.d (.bool y0)), [some [.d (.sl Key.tok y1), .d (.int .i64 y2)]]))

def Rc80_0 : Option ρ :=
  uC args fun x0 x1 => uS (S:=sig) .d Key.str x0 fun (a1 : List ByteArray) => uC x1 fun x2 x3 => uStr x2 fun a2 => u0 x3 <| uE m <| C.c80_0 ρ a1 a2 (fun y0 => K (.ret (.d (.int .i64 y0)), []))

def Rc81_0 : Option ρ :=
  uC args fun x0 x1 => uP 0 0 x0 <| uC x1 fun x2 x3 => uStr x2 fun a1 => u0 x3 <| uM m fun x5 x4 => uC x5 fun x6 x7 => uS (S:=sig) .d Key.tok x6 fun (a2 : List Tok) => uC x7 fun x8 x9 => uI .i64 x8 fun a3 => u0 x9 <| uE x4 <| C.c81_0 ρ a1 a2 a3 (fun y0 y1 y2 => K (.ret (.d (.sl Key.part y0)), [some [.d (.sl Key.tok y1), .d (.int .i64 y2)]])) (fun y0 y1 y2 y3 => K (.pan (.iface 90 (.agg [.d (.int .i64 y0), .d (.int .i64 y1)])), [some [.d (.sl Key.tok y2), .d (.int .i64 y3)]]))

def Rc82_0 : Option ρ :=
  uC args fun x0 x1 => uStr x0 fun a1 => uC x1 fun x2 x3 => uFn 63 x2 fun x4 x5 => u0 x4 <| u0 x5 <| u0 x3 <| uE m <| C.c82_0 ρ a1 (fun y0 => K (.ret (.d (.bool y0)), []))

def Rc82_1 : Option ρ :=
  uC args fun x0 x1 => uStr x0 fun a1 => uC x1 fun x2 x3 => uFn 66 x2 fun x4 x5 => u0 x4 <| u0 x5 <| u0 x3 <| uE m <| C.c82_1 ρ a1 (fun y0 => K (.ret (.d (.bool y0)), []))

def Rc83_0 : Option ρ :=
  uC args fun x0 x1 => uI .u8 x0 fun a1 => u0 x1 <| uE m <| C.c83_0 ρ a1 (fun y0 => K (.ret (.d (.bool y0)), []))

def Rc84_0 : Option ρ :=
  uC args fun x0 x1 => uStr x0 fun a1 => uC x1 fun x2 x3 => uI .i64 x2 fun a2 => u0 x3 <| uE m <| C.c84_0 ρ a1 a2 (fun y0 => K (.ret (.d (.int .i64 y0)), []))

def Rc86_0 : Option ρ :=
  uC args fun x0 x1 => uI .u8 x0 fun a1 => u0 x1 <| uE m <| C.c86_0 ρ a1 (fun y0 => K (.ret (.d (.bool y0)), []))

def Rc87_0 : Option ρ :=
  uC args fun x0 x1 => uStr x0 fun a1 => u0 x1 <| uE m <| C.c87_0 ρ a1 (fun y0 => K (.ret (.tup [.d (.int .i64 y0), .nilif]), [])) (fun y0 => K (.ret (.tup [.d (.int .i64 y0), .iface 122 (.any)]), []))

def Rc88_0 : Option ρ :=
  uC args fun x0 x1 => uI .i64 x0 fun a1 => u0 x1 <| uE m <| C.c88_0 ρ a1 (fun y0 => K (.ret (.d (.str y0)), []))

def Rc89_0 : Option ρ :=
  uC args fun x0 x1 => uTok  x0 fun a1 => u0 x1 <| uE m <| C.c89_0 ρ a1 (fun y0 => K (.ret (.d (.bool y0)), []))

def Rc90_0 : Option ρ :=
  uC args fun x0 x1 => uP 0 0 x0 <| u0 x1 <| uM m fun x3 x2 => uC x3 fun x4 x5 => uS (S:=sig) .d Key.tok x4 fun (a1 : List Tok) => uC x5 fun x6 x7 => uI .i64 x6 fun a2 => u0 x7 <| uE x2 <| C.c90_0 ρ a1 a2 (fun y0 y1 y2 => K (.ret (.agg [.d (.int .i64 y0.kind), .d (.str y0.text), .d (.int .i64 (y0.at_))]), [some [.d (.sl Key.tok y1), .d (.int .i64 y2)]]))

def Rc91_0 : Option ρ :=
  uC args fun x0 x1 => uP 0 0 x0 <| u0 x1 <| uM m fun x3 x2 => uC x3 fun x4 x5 => uS (S:=sig) .d Key.tok x4 fun (a1 : List Tok) => uC x5 fun x6 x7 => uI .i64 x6 fun a2 => u0 x7 <| uE x2 <| C.c91_0 ρ a1 a2 (fun y0 y1 y2 => K (.ret (.agg [.d (.int .i64 y0.op), .d (.str y0.sign), .d (.str y0.name), .d (.int .i64 y0.num), .d (.int .i64 y0.raw.op), .d (.str y0.raw.name), .d (.sl Key.raw y0.raw.args), .d (.sl Key.part y0.parts)]), [some [.d (.sl Key.tok y1), .d (.int .i64 y2)]])) (fun y0 y1 y2 y3 => K (.pan (.iface 90 (.agg [.d (.int .i64 y0), .d (.int .i64 y1)])), [some [.d (.sl Key.tok y2), .d (.int .i64 y3)]]))

def Rc92_0 : Option ρ :=
  uC args fun x0 x1 => uI .u8 x0 fun a1 => u0 x1 <| uE m <| C.c92_0 ρ a1 (fun y0 => K (.ret (.d (.bool y0)), []))

def Rc93_0 : Option ρ :=
  uC args fun x0 x1 => uI .u8 x0 fun a1 => u0 x1 <| uE m <| C.c93_0 ρ a1 (fun y0 => K (.ret (.d (.bool y0)), []))

def Rc98_0 : Option ρ :=
  uC args fun x0 x1 => uP 0 0 x0 <| uC x1 fun x2 x3 => uI .i64 x2 fun a1 => u0 x3 <| uM m fun x5 x4 => uC x5 fun x6 x7 => uS (S:=sig) .d Key.tok x6 fun (a2 : List Tok) => uC x7 fun x8 x9 => uI .i64 x8 fun a3 => u0 x9 <| uE x4 <| C.c98_0 ρ a1 a2 a3 (fun y0 y1 y2 => K (.ret (.agg [.d (.int .i64 y0.kind), .d (.str y0.text), .d (.int .i64 (y0.at_))]), [some [.d (.sl Key.tok y1), .d (.int .i64 y2)]]))

end
section
variable (C : Tab) (ρ : Type) (vs : List (PV sig)) (m : Mem sig) (ds : List (FuncId × List (PV sig))) (nt : Nat) (K : Ex sig → St sig → Option ρ)

def Rl8_4_0 : Option ρ :=
  uN nt 130 <| uC vs fun x0 x1 => uI .i64 x0 fun a1 => uC x1 fun x2 x3 => uP 0 0 x2 <| uC x3 fun x4 x5 => uI .i64 x4 fun a2 => uC x5 fun x6 x7 => uI .i64 x6 fun a3 => u0 x7 <| uM m fun x9 x8 => uRwL .full x9 fun a4 => uE x8 <| uDe ds <| C.l8_4_0 ρ a1 a2 a3 a4 (fun y0 y1 => K (.exit 0) (canon [0, 3] [.d (.int .i64 y0), .ptr 0 0] [some [.d (.int .i64 y1.op), .d (.str y1.name), .full Key.raw y1.args]] [] 130))

def Rl8_9_0 : Option ρ :=
  uN nt 130 <| uC vs fun x0 x1 => uI .i64 x0 fun a1 => uC x1 fun x2 x3 => uP 0 0 x2 <| uC x3 fun x4 x5 => uP 1 0 x4 <| uC x5 fun x6 x7 => uI .i64 x6 fun a2 => u0 x7 <| uM m fun x9 x8 => uRwL .full x9 fun a3 => uM x8 fun x11 x10 => uRwL .full x11 fun a4 => uE x10 <| uDe ds <| C.l8_9_0 ρ a1 a2 a3 a4 (fun y0 y1 y2 => K (.exit 2) (canon [0, 3, 4] [.d (.int .i64 y0), .ptr 0 0, .ptr 1 0] [some [.d (.int .i64 y1.op), .d (.str y1.name), .full Key.raw y1.args], some [.d (.int .i64 y2.op), .d (.str y2.name), .full Key.raw y2.args]] [] 130))

def Rl8_16_0 : Option ρ :=
  uN nt 130 <| uC vs fun x0 x1 => uI .i64 x0 fun a1 => uC x1 fun x2 x3 => uP 0 0 x2 <| uC x3 fun x4 x5 => uP 2 0 x4 <| uC x5 fun x6 x7 => uI .i64 x6 fun a2 => uC x7 fun x8 x9 => uS (S:=sig) .full Key.raw x8 fun (a3 : List Rw) => uC x9 fun x10 x11 => uI .i64 x10 fun a4 => uC x11 fun x12 x13 => uI .i64 x12 fun a5 => u0 x13 <| uM m fun x15 x14 => uRwL .full x15 fun a6 => uM x14 fun x17 x16 => uRwL .full x17 fun a7 => uM x16 fun x19 x18 => uRwL .full x19 fun a8 => uE x18 <| uDe ds <| C.l8_16_0 ρ a1 a2 a3 a4 a5 a6 a7 a8 (fun y0 y1 y2 y3 y4 => K (.exit 4) (canon [0, 3, 6, 7] [.d (.int .i64 y0), .ptr 0 0, .ptr 2 0, .d (.int .i64 y1)] [some [.d (.int .i64 y2.op), .d (.str y2.name), .full Key.raw y2.args], some [.d (.int .i64 y3.op), .d (.str y3.name), .full Key.raw y3.args], some [.d (.int .i64 y4.op), .d (.str y4.name), .full Key.raw y4.args]] [] 130))

def Rl8_22_0 : Option ρ :=
  uN nt 130 <| uC vs fun x0 x1 => uI .i64 x0 fun a1 => uC x1 fun x2 x3 => uP 0 0 x2 <| uC x3 fun x4 x5 => uP 2 0 x4 <| uC x5 fun x6 x7 => uI .i64 x6 fun a2 => uC x7 fun x8 x9 => uI .i64 x8 fun a3 => uC x9 fun x10 x11 => uI .i64 x10 fun a4 => u0 x11 <| uM m fun x13 x12 => uRwL .full x13 fun a5 => uM x12 fun x15 x14 => uRwL .full x15 fun a6 => uM x14 fun x17 x16 => uRwL .full x17 fun a7 => uE x16 <| uDe ds <| C.l8_22_0 ρ a1 a2 a3 a4 a5 a6 a7 (fun y0 y1 y2 y3 y4 => K (.exit 6) (canon [0, 3, 6, 7] [.d (.int .i64 y0), .ptr 0 0, .ptr 2 0, .d (.int .i64 y1)] [some [.d (.int .i64 y2.op), .d (.str y2.name), .full Key.raw y2.args], some [.d (.int .i64 y3.op), .d (.str y3.name), .full Key.raw y3.args], some [.d (.int .i64 y4.op), .d (.str y4.name), .full Key.raw y4.args]] [] 130))

def Rl8_27_0 : Option ρ :=
  uN nt 130 <| uC vs fun x0 x1 => uI .i64 x0 fun a1 => uC x1 fun x2 x3 => uP 0 0 x2 <| uC x3 fun x4 x5 => uP 2 0 x4 <| uC x5 fun x6 x7 => uI .i64 x6 fun a2 => uC x7 fun x8 x9 => uI .i64 x8 fun a3 => uC x9 fun x10 x11 => uI .i64 x10 fun a4 => u0 x11 <| uM m fun x13 x12 => uRwL .full x13 fun a5 => uM x12 fun x15 x14 => uRwL .full x15 fun a6 => uM x14 fun x17 x16 => uRwL .full x17 fun a7 => uE x16 <| uDe ds <| C.l8_27_0 ρ a1 a2 a3 a4 a5 a6 a7 (fun y0 y1 y2 y3 y4 => K (.exit 8) (canon [0, 3, 6, 7] [.d (.int .i64 y0), .ptr 0 0, .ptr 2 0, .d (.int .i64 y1)] [some [.d (.int .i64 y2.op), .d (.str y2.name), .full Key.raw y2.args], some [.d (.int .i64 y3.op), .d (.str y3.name), .full Key.raw y3.args], some [.d (.int .i64 y4.op), .d (.str y4.name), .full Key.raw y4.args]] [] 130))

def Rl8_33_0 : Option ρ :=
  uN nt 130 <| uC vs fun x0 x1 => uI .i64 x0 fun a1 => uC x1 fun x2 x3 => uP 0 0 x2 <| uC x3 fun x4 x5 => uP 2 0 x4 <| uC x5 fun x6 x7 => uI .i64 x6 fun a2 => uC x7 fun x8 x9 => uS (S:=sig) .own Key.u8 x8 fun (a3 : List Int) => uC x9 fun x10 x11 => uI .i64 x10 fun a4 => uC x11 fun x12 x13 => uI .i64 x12 fun a5 => u0 x13 <| uM m fun x15 x14 => uRwL .full x15 fun a6 => uM x14 fun x17 x16 => uRwL .full x17 fun a7 => uM x16 fun x19 x18 => uRwL .full x19 fun a8 => uE x18 <| uDe ds <| C.l8_33_0 ρ a1 a2 a3 a4 a5 a6 a7 a8 (fun y0 y1 y2 y3 y4 y5 => K (.exit 10) (canon [0, 3, 6, 7, 10] [.d (.int .i64 y0), .ptr 0 0, .ptr 2 0, .d (.int .i64 y1), .own Key.u8 y2] [some [.d (.int .i64 y3.op), .d (.str y3.name), .full Key.raw y3.args], some [.d (.int .i64 y4.op), .d (.str y4.name), .full Key.raw y4.args], some [.d (.int .i64 y5.op), .d (.str y5.name), .full Key.raw y5.args]] [] 130))

def Rl15_4_0 : Option ρ :=
  uN nt 46 <| uC vs fun x0 x1 => uP 0 0 x0 <| uC x1 fun x2 x3 => uP 1 0 x2 <| uC x3 fun x4 x5 => uI .i64 x4 fun a1 => u0 x5 <| uM m fun x7 x6 => uRwL .d x7 fun a2 => uM x6 fun x9 x8 => uRwL .d x9 fun a3 => uE x8 <| uDe ds <| C.l15_4_0 ρ a1 a2 a3 (fun y0 => K .ret (canon [4] [.d (.bool y0)] [] [] 46)) (K (.exit 0) (canon [] [] [] [] 46))

def Rl20_11_0 : Option ρ :=
  uN nt 45 <| uC vs fun x0 x1 => uP 0 0 x0 <| uC x1 fun x2 x3 => uP 1 0 x2 <| uC x3 fun x4 x5 => uP 2 0 x4 <| uC x5 fun x6 x7 => uS (S:=sig) .d Key.item x6 fun (a1 : List It) => uC x7 fun x8 x9 => uI .i64 x8 fun a2 => uC x9 fun x10 x11 => uI .i64 x10 fun a3 => u0 x11 <| uM m fun x13 x12 => uC x13 fun x14 x15 => uS (S:=sig) .d Key.item x14 fun (a4 : List It) => u0 x15 <| uM x12 fun x17 x16 => uC x17 fun x18 x19 => uI .i64 x18 fun a5 => u0 x19 <| uM x16 fun x21 x20 => uC x21 fun x22 x23 => uI .i64 x22 fun a6 => u0 x23 <| uE x20 <| uD 1000000 ds fun x24 x25 => uC x24 fun x26 x27 => uY x26 fun mk => u0 x27 <| uD 29 x25 fun x28 x29 => uC x28 fun x30 x31 => uP 1 0 x30 <| uC x31 fun x32 x33 => uP 2 0 x32 <| u0 x33 <| uD 36 x29 fun x34 x35 => uC x34 fun x36 x37 => uP 2 0 x36 <| uC x37 fun x38 x39 => uP 0 0 x38 <| u0 x39 <| uDe x35 <| C.l20_11_0 ρ a1 a2 a3 a4 a5 a6 mk (fun y0 y1 y2 => K (.exit 2) (canon [2, 3, 4] [.ptr 0 0, .ptr 1 0, .ptr 2 0] [some [.d (.sl Key.item y0)], some [.d (.int .i64 y1)], some [.d (.int .i64 y2)]] [(1000000, [.fn (.yield mk) [] []]), (29, [.ptr 1 0, .ptr 2 0]), (36, [.ptr 2 0, .ptr 0 0])] 45)) (fun y0 y1 y2 => K .ret (canon [2, 3, 4] [.ptr 0 0, .ptr 1 0, .ptr 2 0] [some [.full Key.item y0], some [.d (.int .i64 y1)], some [.d (.int .i64 y2)]] [(1000000, [.fn (.yield mk) [] []]), (29, [.ptr 1 0, .ptr 2 0]), (36, [.ptr 2 0, .ptr 0 0])] 45))

def Rl22_20_0 : Option ρ :=
  uN nt 72 <| uC vs fun x0 x1 => uI .i64 x0 fun a1 => uC x1 fun x2 x3 => uP 0 0 x2 <| uC x3 fun x4 x5 => uS (S:=sig) .d Key.raw x4 fun (a2 : List Rw) => uC x5 fun x6 x7 => uI .i64 x6 fun a3 => uC x7 fun x8 x9 => uI .i64 x8 fun a4 => u0 x9 <| uM m fun x11 x10 => uC x11 fun x12 x13 => uI .i64 x12 fun a5 => u0 x13 <| uE x10 <| uDe ds <| C.l22_20_0 ρ a1 a2 a3 a4 a5 (fun y0 y1 => K .ret (canon [6] [.d (.bool y0)] [some [.d (.int .i64 y1)]] [] 72)) (fun y0 => K (.exit 1) (canon [] [] [some [.d (.int .i64 y0)]] [] 72))

def Rl24_3_0 : Option ρ :=
  uN nt 34 <| uC vs fun x0 x1 => uI .i64 x0 fun a1 => uC x1 fun x2 x3 => uP 0 0 x2 <| uC x3 fun x4 x5 => uI .i64 x4 fun a2 => uC x5 fun x6 x7 => uI .i64 x6 fun a3 => u0 x7 <| uM m fun x9 x8 => uRwL .d x9 fun a4 => uE x8 <| uDe ds <| C.l24_3_0 ρ a1 a2 a3 a4 (fun y0 y1 => K (.exit 0) (canon [1, 5] [.d (.int .i64 y0), .d (.int .i64 y1)] [] [] 34))

def Rl25_18_0 : Option ρ :=
  uN nt 62 <| uC vs fun x0 x1 => uI .i64 x0 fun a1 => uC x1 fun x2 x3 => uP 0 0 x2 <| uC x3 fun x4 x5 => uI .i64 x4 fun a2 => u0 x5 <| uM m fun x7 x6 => uRwL .d x7 fun a3 => uE x6 <| uDe ds <| C.l25_18_0 ρ a1 a2 a3 (fun y0 => K .ret (canon [4] [.d (.bool y0)] [] [] 62)) (K (.exit 1) (canon [] [] [] [] 62))

def Rl28_6_0 : Option ρ :=
  uN nt 69 <| uC vs fun x0 x1 => uStr x0 fun a1 => uC x1 fun x2 x3 => uP 0 0 x2 <| uC x3 fun x4 x5 => uS (S:=sig) .own Key.tok x4 fun (a2 : List Tok) => u0 x5 <| uM m fun x7 x6 => uC x7 fun x8 x9 => uStr x8 fun a3 => uC x9 fun x10 x11 => uI .i64 x10 fun a4 => u0 x11 <| uE x6 <| uDe ds <| C.l28_6_0 ρ a1 a2 a3 a4 (fun y0 y1 => K (.exit 0) (canon [0, 6] [.d (.str y0), .own Key.tok y1] [] [] 69)) (fun y0 y1 y2 => K .ret (canon [2, 3, 4] [.full Key.tok y0, .d (.int .i64 y1), .d (.int .i64 y2)] [] [] 69))

def Rl30_4_0 : Option ρ :=
  uN nt 63 <| uC vs fun x0 x1 => uP 0 0 x0 <| uC x1 fun x2 x3 => uP 1 0 x2 <| uC x3 fun x4 x5 => uP 2 0 x4 <| uC x5 fun x6 x7 => uB x6 fun a1 => u0 x7 <| uM m fun x9 x8 => uC x9 fun x10 x11 => uS (S:=sig) .d Key.tok x10 fun (a2 : List Tok) => uC x11 fun x12 x13 => uI .i64 x12 fun a3 => u0 x13 <| uM x8 fun x15 x14 => uRwL .full x15 fun a4 => uM x14 fun x17 x16 => uRwL .d x17 fun a5 => uE x16 <| uDe ds <| C.l30_4_0 ρ a1 a2 a3 a4 a5 (fun y0 y1 y2 y3 => K (.exit 1) (canon [2, 3] [.ptr 1 0, .ptr 2 0] [some [.d (.sl Key.tok y0), .d (.int .i64 y1)], some [.d (.int .i64 y2.op), .d (.str y2.name), .full Key.raw y2.args], some [.d (.int .i64 y3.op), .d (.str y3.name), .d (.sl Key.raw y3.args)]] [] 63)) (fun y0 y1 y2 y3 y4 => K (.pan (.iface 90 (.agg [.d (.int .i64 y3), .d (.int .i64 y4)]))) (canon [2] [.ptr 1 0] [some [.d (.sl Key.tok y0), .d (.int .i64 y1)], some [.d (.int .i64 y2.op), .d (.str y2.name), .full Key.raw y2.args]] [] 63))

def Rl38_9_0 : Option ρ :=
  uN nt 53 <| uC vs fun x0 x1 => uP 1 0 x0 <| uC x1 fun x2 x3 => uS (S:=sig) .d Key.part x2 fun (a1 : List Pt) => uC x3 fun x4 x5 => uI .i64 x4 fun a2 => uC x5 fun x6 x7 => uI .i64 x6 fun a3 => u0 x7 <| uM m fun x9 x8 => uItL .d .d x9 fun a4 => uM x8 fun x11 x10 => uC x11 fun x12 x13 => uI .i64 x12 fun a5 => u0 x13 <| uE x10 <| uDe ds <| C.l38_9_0 ρ a1 a2 a3 a4 a5 (K (.exit 0) (canon [] [] [] [] 53)) (fun y0 => K .ret (canon [2] [.d (.int .i64 y0)] [] [] 53))

def Rl43_0_0 : Option ρ :=
  uN nt 102 <| uC vs fun x0 x1 => uP 0 0 x0 <| u0 x1 <| uM m fun x3 x2 => uC x3 fun x4 x5 => uStr x4 fun a1 => uC x5 fun x6 x7 => uI .i64 x6 fun a2 => u0 x7 <| uE x2 <| uDe ds <| C.l43_0_0 ρ a1 a2 (fun y0 y1 => K (.exit 0) (canon [] [] [some [.d (.str y0), .d (.int .i64 y1)]] [] 102))

def Rl47_2_0 : Option ρ :=
  uN nt 23 <| uC vs fun x0 x1 => uP 0 0 x0 <| uC x1 fun x2 x3 => uP 1 0 x2 <| uC x3 fun x4 x5 => uP 2 0 x4 <| u0 x5 <| uM m fun x7 x6 => uC x7 fun x8 x9 => uS (S:=sig) .d Key.tok x8 fun (a1 : List Tok) => uC x9 fun x10 x11 => uI .i64 x10 fun a2 => u0 x11 <| uM x6 fun x13 x12 => uRwL .full x13 fun a3 => uM x12 fun x15 x14 => uRwL .d x15 fun a4 => uE x14 <| uDe ds <| C.l47_2_0 ρ a1 a2 a3 a4 (fun y0 y1 y2 y3 => K (.exit 0) (canon [0, 2, 4] [.ptr 0 0, .ptr 1 0, .ptr 2 0] [some [.d (.sl Key.tok y0), .d (.int .i64 y1)], some [.d (.int .i64 y2.op), .d (.str y2.name), .full Key.raw y2.args], some [.d (.int .i64 y3.op), .d (.str y3.name), .d (.sl Key.raw y3.args)]] [] 23)) (fun y0 y1 y2 y3 y4 => K (.pan (.iface 90 (.agg [.d (.int .i64 y3), .d (.int .i64 y4)]))) (canon [2, 3] [.ptr 1 0, .any] [some [.d (.sl Key.tok y0), .d (.int .i64 y1)], some [.d (.int .i64 y2.op), .d (.str y2.name), .d (.sl Key.raw y2.args)]] [] 23))

def Rl56_32_0 : Option ρ :=
  uN nt 205 <| uC vs fun x0 x1 => uI .i64 x0 fun a1 => uC x1 fun x2 x3 => uP 0 0 x2 <| uC x3 fun x4 x5 => uP 1 0 x4 <| uC x5 fun x6 x7 => uP 2 0 x6 <| uC x7 fun x8 x9 => uS (S:=sig) .d Key.part x8 fun (a2 : List Pt) => uC x9 fun x10 x11 => uI .i64 x10 fun a3 => uC x11 fun x12 x13 => uI .i64 x12 fun a4 => u0 x13 <| uM m fun x15 x14 => uC x15 fun x16 x17 => uI .i64 x16 fun a5 => u0 x17 <| uM x14 fun x19 x18 => uPtL .d .d x19 fun a6 => uM x18 fun x21 x20 => uPtL .full .full x21 fun a7 => uE x20 <| uDe ds <| C.l56_32_0 ρ a1 a2 a3 a4 a5 a6 a7 (fun y0 y1 => K .ret (canon [6] [.d (.bool y0)] [some [.d (.int .i64 y1)]] [] 205)) (fun y0 y1 y2 => K (.exit 1) (canon [3, 7] [.ptr 1 0, .ptr 2 0] [some [.d (.int .i64 y0)], some [.d (.int .i64 y1.op), .d (.str y1.sign), .d (.str y1.name), .d (.int .i64 y1.num), .d (.int .i64 y1.raw.op), .d (.str y1.raw.name), .d (.sl Key.raw y1.raw.args), .d (.sl Key.part y1.parts)], some [.d (.int .i64 y2.op), .d (.str y2.sign), .d (.str y2.name), .d (.int .i64 y2.num), .d (.int .i64 y2.raw.op), .d (.str y2.raw.name), .full Key.raw y2.raw.args, .full Key.part y2.parts]] [] 205))

def Rl58_2_0 : Option ρ :=
  uN nt 19 <| uC vs fun x0 x1 => uS (S:=sig) .d Key.int x0 fun (a1 : List Int) => uC x1 fun x2 x3 => uI .i64 x2 fun a2 => uC x3 fun x4 x5 => uI .i64 x4 fun a3 => uC x5 fun x6 x7 => uI .i64 x6 fun a4 => u0 x7 <| uE m <| uDe ds <| C.l58_2_0 ρ a1 a2 a3 a4 (fun y0 => K .ret (canon [4] [.d (.int .i64 y0)] [] [] 19)) (K (.exit 0) (canon [] [] [] [] 19))

def Rl65_2_0 : Option ρ :=
  uN nt 42 <| uC vs fun x0 x1 => uP 0 0 x0 <| uC x1 fun x2 x3 => uI .i64 x2 fun a1 => uC x3 fun x4 x5 => uI .i64 x4 fun a2 => u0 x5 <| uM m fun x7 x6 => uC x7 fun x8 x9 => uStr x8 fun a3 => uC x9 fun x10 x11 => uI .i64 x10 fun a4 => u0 x11 <| uE x6 <| uDe ds <| C.l65_2_0 ρ a1 a2 a3 a4 (fun y0 y1 y2 y3 => K (.exit 0) (canon [0, 1, 5] [.ptr 0 0, .d (.int .i64 y0), .d (.int .i64 y1)] [some [.d (.str y2), .d (.int .i64 y3)]] [] 42))

def Rl80_2_0 : Option ρ :=
  uN nt 19 <| uC vs fun x0 x1 => uS (S:=sig) .d Key.str x0 fun (a1 : List ByteArray) => uC x1 fun x2 x3 => uStr x2 fun a2 => uC x3 fun x4 x5 => uI .i64 x4 fun a3 => uC x5 fun x6 x7 => uI .i64 x6 fun a4 => u0 x7 <| uE m <| uDe ds <| C.l80_2_0 ρ a1 a2 a3 a4 (fun y0 => K .ret (canon [4] [.d (.int .i64 y0)] [] [] 19)) (K (.exit 0) (canon [] [] [] [] 19))

def Rl81_2_0 : Option ρ :=
  uN nt 24 <| uC vs fun x0 x1 => uP 0 0 x0 <| uC x1 fun x2 x3 => uStr x2 fun a1 => uC x3 fun x4 x5 => uS (S:=sig) .own Key.part x4 fun (a2 : List Pt) => u0 x5 <| uM m fun x7 x6 => uC x7 fun x8 x9 => uS (S:=sig) .d Key.tok x8 fun (a3 : List Tok) => uC x9 fun x10 x11 => uI .i64 x10 fun a4 => u0 x11 <| uE x6 <| uDe ds <| C.l81_2_0 ρ a1 a2 a3 a4 (fun y0 y1 y2 => K (.exit 0) (canon [0, 5] [.ptr 0 0, .own Key.part y0] [some [.d (.sl Key.tok y1), .d (.int .i64 y2)]] [] 24)) (fun y0 y1 y2 y3 => K (.pan (.iface 90 (.agg [.d (.int .i64 y2), .d (.int .i64 y3)]))) (canon [4] [.any] [some [.d (.sl Key.tok y0), .d (.int .i64 y1)]] [] 24))

def Rl82_4_0 : Option ρ :=
  uN nt 32 <| uC vs fun x0 x1 => uStr x0 fun a1 => uC x1 fun x2 x3 => uI .i64 x2 fun a2 => uC x3 fun x4 x5 => uI .i64 x4 fun a3 => u0 x5 <| uE m <| uDe ds <| C.l82_4_0 ρ a1 a2 a3 (K (.exit 0) (canon [] [] [] [] 32)) (fun y0 => K .ret (canon [4] [.d (.bool y0)] [] [] 32))

def Rl84_1_0 : Option ρ :=
  uN nt 18 <| uC vs fun x0 x1 => uStr x0 fun a1 => uC x1 fun x2 x3 => uI .i64 x2 fun a2 => u0 x3 <| uE m <| uDe ds <| C.l84_1_0 ρ a1 a2 (fun y0 => K (.exit 0) (canon [1] [.d (.int .i64 y0)] [] [] 18))

end

def modeId : PV sig → Nat
  | .d (.sl _ _) => 1
  | .full _ _ => 2
  | .own _ _ => 3
  | _ => 0

def fnId : PV sig → Nat
  | .fn (.func g) _ _ => g
  | _ => 0

section
variable (C : Tab) (ρ : Type) (args : List (PV sig)) (m : Mem sig) (K : Res sig × Mem sig → Option ρ)

def T3 : Option ρ := Rc3_0 C ρ args m K

def T8 : Option ρ := Rc8_0 C ρ args m K

def T9 : Option ρ := Rc9_0 C ρ args m K

def T10 : Option ρ := Rc10_0 C ρ args m K

def T11 : Option ρ := Rc11_0 C ρ args m K

def T12 : Option ρ := Rc12_0 C ρ args m K

def T13 : Option ρ := Rc13_0 C ρ args m K

def T14 : Option ρ := Rc14_0 C ρ args m K

def T15 : Option ρ := Rc15_0 C ρ args m K

def T20 : Option ρ := Rc20_0 C ρ args m K

def T22 : Option ρ := Rc22_0 C ρ args m K

def T23 : Option ρ := Rc23_0 C ρ args m K

def T24 : Option ρ := Rc24_0 C ρ args m K

def T25 : Option ρ := Rc25_0 C ρ args m K

def T26 : Option ρ := Rc26_0 C ρ args m K

def T27 : Option ρ := Rc27_0 C ρ args m K

def T28 : Option ρ := Rc28_0 C ρ args m K

def T30 : Option ρ := Rc30_0 C ρ args m K

def T31 : Option ρ := Rc31_0 C ρ args m K

def T32 : Option ρ := Rc32_0 C ρ args m K

def T37 : Option ρ := Rc37_0 C ρ args m K

def T38 : Option ρ := Rc38_0 C ρ args m K

def T40 : Option ρ := Rc40_0 C ρ args m K

def T41 : Option ρ := Rc41_0 C ρ args m K

def T42 : Option ρ := Rc42_0 C ρ args m K

def T43 : Option ρ := Rc43_0 C ρ args m K

def T44 : Option ρ := Rc44_0 C ρ args m K

def T45 : Option ρ := Rc45_0 C ρ args m K

def T46 : Option ρ := Rc46_0 C ρ args m K

def T47 : Option ρ := Rc47_0 C ρ args m K

def T48 : Option ρ := Rc48_0 C ρ args m K

def T53 : Option ρ := Rc53_0 C ρ args m K

def T54 : Option ρ := Rc54_0 C ρ args m K

def T55 : Option ρ := Rc55_0 C ρ args m K

def T56 : Option ρ := Rc56_0 C ρ args m K

def T57 : Option ρ := Rc57_0 C ρ args m K

def T58 : Option ρ := Rc58_0 C ρ args m K

def T59 : Option ρ := Rc59_0 C ρ args m K

def T60 : Option ρ := Rc60_0 C ρ args m K

def T61 : Option ρ := Rc61_0 C ρ args m K

def T62 : Option ρ := Rc62_0 C ρ args m K

def T63 : Option ρ := Rc63_0 C ρ args m K

def T64 : Option ρ := Rc64_0 C ρ args m K

def T65 : Option ρ := Rc65_0 C ρ args m K

def T66 : Option ρ := Rc66_0 C ρ args m K

def T67 : Option ρ := Rc67_0 C ρ args m K

def T68 : Option ρ := Rc68_0 C ρ args m K

def T69 : Option ρ := Rc69_0 C ρ args m K

def T70 : Option ρ := Rc70_0 C ρ args m K

def T71 : Option ρ := Rc71_0 C ρ args m K

def T72 : Option ρ := Rc72_0 C ρ args m K

def T73 : Option ρ := Rc73_0 C ρ args m K

def T74 : Option ρ := Rc74_0 C ρ args m K

def T75 : Option ρ := Rc75_0 C ρ args m K

def T76 : Option ρ := Rc76_0 C ρ args m K

def T77 : Option ρ := Rc77_0 C ρ args m K

def T78 : Option ρ := Rc78_0 C ρ args m K

def T79 : Option ρ := Rc79_0 C ρ args m K

def T80 : Option ρ := Rc80_0 C ρ args m K

def T81 : Option ρ := Rc81_0 C ρ args m K

def T82 : Option ρ := bif Nat.beq (fnId (args.getD 1 .any)) 63 then Rc82_0 C ρ args m K else bif Nat.beq (fnId (args.getD 1 .any)) 66 then Rc82_1 C ρ args m K else none

def T83 : Option ρ := Rc83_0 C ρ args m K

def T84 : Option ρ := Rc84_0 C ρ args m K

def T86 : Option ρ := Rc86_0 C ρ args m K

def T87 : Option ρ := Rc87_0 C ρ args m K

def T88 : Option ρ := Rc88_0 C ρ args m K

def T89 : Option ρ := Rc89_0 C ρ args m K

def T90 : Option ρ := Rc90_0 C ρ args m K

def T91 : Option ρ := Rc91_0 C ρ args m K

def T92 : Option ρ := Rc92_0 C ρ args m K

def T93 : Option ρ := Rc93_0 C ρ args m K

def T98 : Option ρ := Rc98_0 C ρ args m K

end

/-- The table of functions. -/
def T (C : Tab) : CallT sig := fun ρ f args m K =>
  bif Nat.beq f 3 then T3 C ρ args m K else
  bif Nat.beq f 8 then T8 C ρ args m K else
  bif Nat.beq f 9 then T9 C ρ args m K else
  bif Nat.beq f 10 then T10 C ρ args m K else
  bif Nat.beq f 11 then T11 C ρ args m K else
  bif Nat.beq f 12 then T12 C ρ args m K else
  bif Nat.beq f 13 then T13 C ρ args m K else
  bif Nat.beq f 14 then T14 C ρ args m K else
  bif Nat.beq f 15 then T15 C ρ args m K else
  bif Nat.beq f 20 then T20 C ρ args m K else
  bif Nat.beq f 22 then T22 C ρ args m K else
  bif Nat.beq f 23 then T23 C ρ args m K else
  bif Nat.beq f 24 then T24 C ρ args m K else
  bif Nat.beq f 25 then T25 C ρ args m K else
  bif Nat.beq f 26 then T26 C ρ args m K else
  bif Nat.beq f 27 then T27 C ρ args m K else
  bif Nat.beq f 28 then T28 C ρ args m K else
  bif Nat.beq f 30 then T30 C ρ args m K else
  bif Nat.beq f 31 then T31 C ρ args m K else
  bif Nat.beq f 32 then T32 C ρ args m K else
  bif Nat.beq f 37 then T37 C ρ args m K else
  bif Nat.beq f 38 then T38 C ρ args m K else
  bif Nat.beq f 40 then T40 C ρ args m K else
  bif Nat.beq f 41 then T41 C ρ args m K else
  bif Nat.beq f 42 then T42 C ρ args m K else
  bif Nat.beq f 43 then T43 C ρ args m K else
  bif Nat.beq f 44 then T44 C ρ args m K else
  bif Nat.beq f 45 then T45 C ρ args m K else
  bif Nat.beq f 46 then T46 C ρ args m K else
  bif Nat.beq f 47 then T47 C ρ args m K else
  bif Nat.beq f 48 then T48 C ρ args m K else
  bif Nat.beq f 53 then T53 C ρ args m K else
  bif Nat.beq f 54 then T54 C ρ args m K else
  bif Nat.beq f 55 then T55 C ρ args m K else
  bif Nat.beq f 56 then T56 C ρ args m K else
  bif Nat.beq f 57 then T57 C ρ args m K else
  bif Nat.beq f 58 then T58 C ρ args m K else
  bif Nat.beq f 59 then T59 C ρ args m K else
  bif Nat.beq f 60 then T60 C ρ args m K else
  bif Nat.beq f 61 then T61 C ρ args m K else
  bif Nat.beq f 62 then T62 C ρ args m K else
  bif Nat.beq f 63 then T63 C ρ args m K else
  bif Nat.beq f 64 then T64 C ρ args m K else
  bif Nat.beq f 65 then T65 C ρ args m K else
  bif Nat.beq f 66 then T66 C ρ args m K else
  bif Nat.beq f 67 then T67 C ρ args m K else
  bif Nat.beq f 68 then T68 C ρ args m K else
  bif Nat.beq f 69 then T69 C ρ args m K else
  bif Nat.beq f 70 then T70 C ρ args m K else
  bif Nat.beq f 71 then T71 C ρ args m K else
  bif Nat.beq f 72 then T72 C ρ args m K else
  bif Nat.beq f 73 then T73 C ρ args m K else
  bif Nat.beq f 74 then T74 C ρ args m K else
  bif Nat.beq f 75 then T75 C ρ args m K else
  bif Nat.beq f 76 then T76 C ρ args m K else
  bif Nat.beq f 77 then T77 C ρ args m K else
  bif Nat.beq f 78 then T78 C ρ args m K else
  bif Nat.beq f 79 then T79 C ρ args m K else
  bif Nat.beq f 80 then T80 C ρ args m K else
  bif Nat.beq f 81 then T81 C ρ args m K else
  bif Nat.beq f 82 then T82 C ρ args m K else
  bif Nat.beq f 83 then T83 C ρ args m K else
  bif Nat.beq f 84 then T84 C ρ args m K else
  bif Nat.beq f 86 then T86 C ρ args m K else
  bif Nat.beq f 87 then T87 C ρ args m K else
  bif Nat.beq f 88 then T88 C ρ args m K else
  bif Nat.beq f 89 then T89 C ρ args m K else
  bif Nat.beq f 90 then T90 C ρ args m K else
  bif Nat.beq f 91 then T91 C ρ args m K else
  bif Nat.beq f 92 then T92 C ρ args m K else
  bif Nat.beq f 93 then T93 C ρ args m K else
  bif Nat.beq f 98 then T98 C ρ args m K else none

/-- The table of loops. -/
def LT (C : Tab) : LoopT sig := fun ρ f np key st K =>
  bif Nat.beq f 8 && (Nat.beq np 0 && Nat.beq key 4) then Rl8_4_0 C ρ (seenV (PK 8 0 4 0) st) (seenM 0 (PK 8 0 4 0) st) st.dfs st.nt K else
  bif Nat.beq f 8 && (Nat.beq np 0 && Nat.beq key 9) then Rl8_9_0 C ρ (seenV (PK 8 0 9 0) st) (seenM 0 (PK 8 0 9 0) st) st.dfs st.nt K else
  bif Nat.beq f 8 && (Nat.beq np 0 && Nat.beq key 16) then Rl8_16_0 C ρ (seenV (PK 8 0 16 0) st) (seenM 0 (PK 8 0 16 0) st) st.dfs st.nt K else
  bif Nat.beq f 8 && (Nat.beq np 0 && Nat.beq key 22) then Rl8_22_0 C ρ (seenV (PK 8 0 22 0) st) (seenM 0 (PK 8 0 22 0) st) st.dfs st.nt K else
  bif Nat.beq f 8 && (Nat.beq np 0 && Nat.beq key 27) then Rl8_27_0 C ρ (seenV (PK 8 0 27 0) st) (seenM 0 (PK 8 0 27 0) st) st.dfs st.nt K else
  bif Nat.beq f 8 && (Nat.beq np 0 && Nat.beq key 33) then Rl8_33_0 C ρ (seenV (PK 8 0 33 0) st) (seenM 0 (PK 8 0 33 0) st) st.dfs st.nt K else
  bif Nat.beq f 15 && (Nat.beq np 0 && Nat.beq key 4) then Rl15_4_0 C ρ (seenV (PK 15 0 4 0) st) (seenM 0 (PK 15 0 4 0) st) st.dfs st.nt K else
  bif Nat.beq f 20 && (Nat.beq np 0 && Nat.beq key 11) then Rl20_11_0 C ρ (seenV (PK 20 0 11 0) st) (seenM 0 (PK 20 0 11 0) st) st.dfs st.nt K else
  bif Nat.beq f 22 && (Nat.beq np 1 && Nat.beq key 20) then Rl22_20_0 C ρ (seenV (PK 22 1 20 0) st) (seenM 1 (PK 22 1 20 0) st) st.dfs st.nt K else
  bif Nat.beq f 24 && (Nat.beq np 0 && Nat.beq key 3) then Rl24_3_0 C ρ (seenV (PK 24 0 3 0) st) (seenM 0 (PK 24 0 3 0) st) st.dfs st.nt K else
  bif Nat.beq f 25 && (Nat.beq np 0 && Nat.beq key 18) then Rl25_18_0 C ρ (seenV (PK 25 0 18 0) st) (seenM 0 (PK 25 0 18 0) st) st.dfs st.nt K else
  bif Nat.beq f 28 && (Nat.beq np 0 && Nat.beq key 6) then Rl28_6_0 C ρ (seenV (PK 28 0 6 0) st) (seenM 0 (PK 28 0 6 0) st) st.dfs st.nt K else
  bif Nat.beq f 30 && (Nat.beq np 1 && Nat.beq key 4) then Rl30_4_0 C ρ (seenV (PK 30 1 4 0) st) (seenM 1 (PK 30 1 4 0) st) st.dfs st.nt K else
  bif Nat.beq f 38 && (Nat.beq np 0 && Nat.beq key 9) then Rl38_9_0 C ρ (seenV (PK 38 0 9 0) st) (seenM 0 (PK 38 0 9 0) st) st.dfs st.nt K else
  bif Nat.beq f 43 && (Nat.beq np 1 && Nat.beq key 0) then Rl43_0_0 C ρ (seenV (PK 43 1 0 0) st) (seenM 1 (PK 43 1 0 0) st) st.dfs st.nt K else
  bif Nat.beq f 47 && (Nat.beq np 1 && Nat.beq key 2) then Rl47_2_0 C ρ (seenV (PK 47 1 2 0) st) (seenM 1 (PK 47 1 2 0) st) st.dfs st.nt K else
  bif Nat.beq f 56 && (Nat.beq np 1 && Nat.beq key 32) then Rl56_32_0 C ρ (seenV (PK 56 1 32 0) st) (seenM 1 (PK 56 1 32 0) st) st.dfs st.nt K else
  bif Nat.beq f 58 && (Nat.beq np 0 && Nat.beq key 2) then Rl58_2_0 C ρ (seenV (PK 58 0 2 0) st) (seenM 0 (PK 58 0 2 0) st) st.dfs st.nt K else
  bif Nat.beq f 65 && (Nat.beq np 1 && Nat.beq key 2) then Rl65_2_0 C ρ (seenV (PK 65 1 2 0) st) (seenM 1 (PK 65 1 2 0) st) st.dfs st.nt K else
  bif Nat.beq f 80 && (Nat.beq np 0 && Nat.beq key 2) then Rl80_2_0 C ρ (seenV (PK 80 0 2 0) st) (seenM 0 (PK 80 0 2 0) st) st.dfs st.nt K else
  bif Nat.beq f 81 && (Nat.beq np 1 && Nat.beq key 2) then Rl81_2_0 C ρ (seenV (PK 81 1 2 0) st) (seenM 1 (PK 81 1 2 0) st) st.dfs st.nt K else
  bif Nat.beq f 82 && (Nat.beq np 0 && Nat.beq key 4) then Rl82_4_0 C ρ (seenV (PK 82 0 4 0) st) (seenM 0 (PK 82 0 4 0) st) st.dfs st.nt K else
  bif Nat.beq f 84 && (Nat.beq np 0 && Nat.beq key 1) then Rl84_1_0 C ρ (seenV (PK 84 0 1 0) st) (seenM 0 (PK 84 0 1 0) st) st.dfs st.nt K else none

end Go.Proofs.YtanfoijdfcnpoaaDoor.Ev
