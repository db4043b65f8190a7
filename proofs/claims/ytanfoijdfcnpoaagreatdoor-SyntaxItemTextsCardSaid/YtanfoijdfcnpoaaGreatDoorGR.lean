/- This file proves nothing of the program: it defines how plain values are read as arguments of the typed functions, and the tables of these. -/
import Derived.Test.YtanfoijdfcnpoaaGreatDoorG1
set_option linter.unusedVariables false
set_option linter.unusedSimpArgs false
namespace Go.Proofs.YtanfoijdfcnpoaaGreatDoor.Ev

section
variable (C : Tab) (ρ : Type) (args : List (PV sig)) (m : Mem sig) (K : Res sig × Mem sig → Option ρ)

def Rc7_0 : Option ρ :=
  uC args fun x0 x1 => uIt .d .d x0 fun a1 => u0 x1 <| uE m <| C.c7_0 ρ a1 (fun y0 => K (.ret (.d (.bool y0)), []))

def Rc8_0 : Option ρ :=
  uC args fun x0 x1 => uStr x0 fun a1 => u0 x1 <| uE m <| C.c8_0 ρ a1 (fun y0 y1 y2 => K (.ret (.tup [.agg [.d (.int .i64 y0.op), .d (.str y0.name), .d (.sl Key.raw y0.args)], .d (.int .i64 y1), .d (.int .i64 y2)]), []))

def Rc10_0 : Option ρ :=
  uC args fun x0 x1 => uRw .d x0 fun a1 => uC x1 fun x2 x3 => uRw .d x2 fun a2 => u0 x3 <| uE m <| C.c10_0 ρ a1 a2 (fun y0 => K (.ret (.d (.bool y0)), []))

def Rc11_0 : Option ρ :=
  u0 args <| uE m <| C.c11_0 ρ (fun y0 => K (.ret (.d (.bool y0)), []))

def Rc13_0 : Option ρ :=
  uC args fun x0 x1 => uRw .d x0 fun a1 => u0 x1 <| uE m <| C.c13_0 ρ a1 (fun y0 => K (.ret (.d (.bool y0)), []))

def Rc14_0 : Option ρ :=
  uC args fun x0 x1 => uStr x0 fun a1 => u0 x1 <| uE m <| C.c14_0 ρ a1 (fun y0 => K (.ret (.d (.bool y0)), []))

def Rc21_0 : Option ρ :=
  uC args fun x0 x1 => uStr x0 fun a1 => u0 x1 <| uE m <| C.c21_0 ρ a1 (fun y0 y1 y2 => K (.ret (.tup [.d (.sl Key.item y0), .d (.int .i64 y1), .d (.int .i64 y2)]), []))

def Rc23_0 : Option ρ :=
  uC args fun x0 x1 => uIt .d .d x0 fun a1 => uC x1 fun x2 x3 => uIt .d .d x2 fun a2 => u0 x3 <| uE m <| C.c23_0 ρ a1 a2 (fun y0 => K (.ret (.d (.bool y0)), []))

def Rc24_0 : Option ρ :=
  uC args fun x0 x1 => uIt .d .d x0 fun a1 => u0 x1 <| uE m <| C.c24_0 ρ a1 (fun y0 => K (.ret (.d (.int .i64 y0)), []))

def Rc25_0 : Option ρ :=
  uC args fun x0 x1 => uIt .d .d x0 fun a1 => u0 x1 <| uE m <| C.c25_0 ρ a1 (fun y0 y1 => K (.ret (.tup [.d (.str y0), .d (.int .i64 y1)]), []))

def Rc26_0 : Option ρ :=
  uC args fun x0 x1 => uIt .d .d x0 fun a1 => u0 x1 <| uE m <| C.c26_0 ρ a1 (fun y0 => K (.ret (.d (.bool y0)), []))

def Rc27_0 : Option ρ :=
  uC args fun x0 x1 => uIt .d .d x0 fun a1 => u0 x1 <| uE m <| C.c27_0 ρ a1 (fun y0 => K (.ret (.d (.str y0)), []))

def Rc28_0 : Option ρ :=
  uC args fun x0 x1 => uStr x0 fun a1 => u0 x1 <| uE m <| C.c28_0 ρ a1 (fun y0 y1 y2 => K (.ret (.tup [.d (.sl Key.tok y0), .d (.int .i64 y1), .d (.int .i64 y2)]), []))

def Rc30_0 : Option ρ :=
  uC args fun x0 x1 => uP 0 0 x0 <| u0 x1 <| uM m fun x3 x2 => uC x3 fun x4 x5 => uS (S:=sig) .d Key.tok x4 fun (a1 : List Tok) => uC x5 fun x6 x7 => uI .i64 x6 fun a2 => u0 x7 <| uE x2 <| C.c30_0 ρ a1 a2 (fun y0 y1 y2 => K (.ret (.agg [.d (.int .i64 y0.op), .d (.str y0.name), .d (.sl Key.raw y0.args)]), [some [.d (.sl Key.tok y1), .d (.int .i64 y2)]])) (fun y0 y1 y2 y3 => K (.pan (.iface 114 (.agg [.d (.int .i64 y0), .d (.int .i64 y1)])), [some [.d (.sl Key.tok y2), .d (.int .i64 y3)]]))

def Rc31_0 : Option ρ :=
  uC args fun x0 x1 => uP 0 0 x0 <| u0 x1 <| uM m fun x3 x2 => uC x3 fun x4 x5 => uS (S:=sig) .d Key.tok x4 fun (a1 : List Tok) => uC x5 fun x6 x7 => uI .i64 x6 fun a2 => u0 x7 <| uE x2 <| C.c31_0 ρ a1 a2 (fun y0 y1 y2 => K (.ret (.agg [.d (.int .i64 y0.kind), .d (.str y0.text), .d (.int .i64 (y0.at_))]), [some [.d (.sl Key.tok y1), .d (.int .i64 y2)]]))

def Rc32_0 : Option ρ :=
  uC args fun x0 x1 => uP 0 0 x0 <| u0 x1 <| uM m fun x3 x2 => uC x3 fun x4 x5 => uS (S:=sig) .d Key.tok x4 fun (a1 : List Tok) => uC x5 fun x6 x7 => uI .i64 x6 fun a2 => u0 x7 <| uE x2 <| C.c32_0 ρ a1 a2 (fun y0 y1 y2 y3 => K (.pan (.iface 114 (.agg [.d (.int .i64 y0), .d (.int .i64 y1)])), [some [.d (.sl Key.tok y2), .d (.int .i64 y3)]]))

def Rc33_0 : Option ρ :=
  uC args fun x0 x1 => uRw .d x0 fun a1 => u0 x1 <| uE m <| C.c33_0 ρ a1 (fun y0 => K (.ret (.d (.int .i64 y0)), []))

def Rc37_0 : Option ρ :=
  uC args fun x0 x1 => uRw .d x0 fun a1 => u0 x1 <| uE m <| C.c37_0 ρ a1 (fun y0 y1 => K (.ret (.tup [.d (.str y0), .d (.int .i64 y1)]), []))

def Rc38_0 : Option ρ :=
  uC args fun x0 x1 => uStr x0 fun a1 => u0 x1 <| uE m <| C.c38_0 ρ a1 (fun y0 => K (.ret (.d (.bool y0)), []))

def Rc42_0 : Option ρ :=
  uC args fun x0 x1 => uRw .d x0 fun a1 => uC x1 fun x2 x3 => uI .i64 x2 fun a2 => u0 x3 <| uE m <| C.c42_0 ρ a1 a2 (fun y0 => K (.ret (.d (.int .i64 y0)), []))

def Rc43_0 : Option ρ :=
  uC args fun x0 x1 => uRw .d x0 fun a1 => uC x1 fun x2 x3 => uI .i64 x2 fun a2 => u0 x3 <| uE m <| C.c43_0 ρ a1 a2 (fun y0 => K (.ret (.d (.bool y0)), []))

def Rc44_0 : Option ρ :=
  uC args fun x0 x1 => uStr x0 fun a1 => u0 x1 <| uE m <| C.c44_0 ρ a1 (fun y0 => K (.ret (.d (.bool y0)), []))

def Rc51_0 : Option ρ :=
  uC args fun x0 x1 => uP 0 0 x0 <| u0 x1 <| uM m fun x3 x2 => uC x3 fun x4 x5 => uS (S:=sig) .d Key.tok x4 fun (a1 : List Tok) => uC x5 fun x6 x7 => uI .i64 x6 fun a2 => u0 x7 <| uE x2 <| C.c51_0 ρ a1 a2 (fun y0 y1 => K (.ret (.fn (.func 87) [] [.ptr 1 0]), [some [.d (.sl Key.tok y0), .d (.int .i64 y1)], some [.ptr 0 0]]))

def Rc53_0 : Option ρ :=
  uC args fun x0 x1 => uPt .d .d x0 fun a1 => uC x1 fun x2 x3 => uPt .d .d x2 fun a2 => u0 x3 <| uE m <| C.c53_0 ρ a1 a2 (fun y0 => K (.ret (.d (.bool y0)), []))

def Rc54_0 : Option ρ :=
  uC args fun x0 x1 => uStr x0 fun a1 => u0 x1 <| uE m <| C.c54_0 ρ a1 (fun y0 => K (.ret (.d (.bool y0)), []))

def Rc55_0 : Option ρ :=
  uC args fun x0 x1 => uRw .d x0 fun a1 => u0 x1 <| uE m <| C.c55_0 ρ a1 (fun y0 => K (.ret (.d (.bool y0)), []))

def Rc56_0 : Option ρ :=
  uC args fun x0 x1 => uPt .d .d x0 fun a1 => uC x1 fun x2 x3 => uI .i64 x2 fun a2 => uC x3 fun x4 x5 => uP 0 0 x4 <| u0 x5 <| uM m fun x7 x6 => uC x7 fun x8 x9 => uI .i64 x8 fun a3 => u0 x9 <| uE x6 <| C.c56_0 ρ a1 a2 a3 (fun y0 y1 => K (.ret (.d (.bool y0)), [some [.d (.int .i64 y1)]]))

def Rc57_0 : Option ρ :=
  uC args fun x0 x1 => uRw .d x0 fun a1 => uC x1 fun x2 x3 => uS (S:=sig) .d Key.int x2 fun (a2 : List Int) => u0 x3 <| uE m <| C.c57_0 ρ a1 a2 (fun y0 => K (.ret (.d (.str y0)), []))

def Rc58_0 : Option ρ :=
  uC args fun x0 x1 => uS (S:=sig) .d Key.part x0 fun (a1 : List Pt) => u0 x1 <| uE m <| C.c58_0 ρ a1 (fun y0 => K (.ret (.d (.str y0)), []))

def Rc59_0 : Option ρ :=
  uC args fun x0 x1 => uStr x0 fun a1 => u0 x1 <| uE m <| C.c59_0 ρ a1 (fun y0 => K (.ret (.d (.bool y0)), []))

def Rc60_0 : Option ρ :=
  uC args fun x0 x1 => uRw .d x0 fun a1 => u0 x1 <| uE m <| C.c60_0 ρ a1 (fun y0 => K (.ret (.d (.bool y0)), []))

def Rc61_0 : Option ρ :=
  uC args fun x0 x1 => uS (S:=sig) .d Key.part x0 fun (a1 : List Pt) => uC x1 fun x2 x3 => uI .i64 x2 fun a2 => u0 x3 <| uE m <| C.c61_0 ρ a1 a2 (fun y0 => K (.ret (.d (.int .i64 y0)), []))

def Rc62_0 : Option ρ :=
  uC args fun x0 x1 => uPt .d .d x0 fun a1 => uC x1 fun x2 x3 => uI .i64 x2 fun a2 => u0 x3 <| uE m <| C.c62_0 ρ a1 a2 (fun y0 => K (.ret (.d (.bool y0)), []))

def Rc63_0 : Option ρ :=
  uC args fun x0 x1 => uRw .d x0 fun a1 => u0 x1 <| uE m <| C.c63_0 ρ a1 (fun y0 => K (.ret (.d (.str y0)), []))

def Rc64_0 : Option ρ :=
  uC args fun x0 x1 => uPt .d .d x0 fun a1 => u0 x1 <| uE m <| C.c64_0 ρ a1 (fun y0 => K (.ret (.d (.str y0)), []))

def Rc65_0 : Option ρ :=
  uC args fun x0 x1 => uP 0 0 x0 <| u0 x1 <| uM m fun x3 x2 => uC x3 fun x4 x5 => uStr x4 fun a1 => uC x5 fun x6 x7 => uI .i64 x6 fun a2 => u0 x7 <| uE x2 <| C.c65_0 ρ a1 a2 (fun y0 y1 => K (.ret (.tup []), [some [.d (.str y0), .d (.int .i64 y1)]]))

def Rc66_0 : Option ρ :=
  uC args fun x0 x1 => uI .u8 x0 fun a1 => u0 x1 <| uE m <| C.c66_0 ρ a1 (fun y0 => K (.ret (.fn (.func 105) [] [.ptr 1 0]), [some [.d (.int .u8 y0)], some [.fn (.func 104) [] []]])) (fun y0 => K (.ret (.fn (.func 108) [] [.ptr 1 0]), [some [.d (.int .u8 y0)], some [.fn (.func 104) [] []]])) (fun y0 => K (.ret (.fn (.func 110) [] [.ptr 1 0]), [some [.d (.int .u8 y0)], some [.fn (.func 104) [] []]])) (fun y0 => K (.ret (.fn (.func 112) [] [.ptr 1 0]), [some [.d (.int .u8 y0)], some [.fn (.func 104) [] []]])) (fun y0 => K (.ret (.fn (.func 113) [] [.ptr 1 0]), [some [.d (.int .u8 y0)], some [.fn (.func 104) [] []]])) (K (.ret (.fn (.func 114) [] []), [])) (fun y0 => K (.ret (.fn (.func 115) [] [.ptr 1 0]), [some [.d (.int .u8 y0)], some [.fn (.func 104) [] []]])) (fun y0 => K (.ret (.fn (.func 116) [] [.ptr 1 0, .ptr 0 0]), [some [.d (.int .u8 y0)], some [.fn (.func 104) [] []]]))

def Rc67_0 : Option ρ :=
  uC args fun x0 x1 => uP 0 0 x0 <| uC x1 fun x2 x3 => uS (S:=sig) .d Key.str x2 fun (a1 : List ByteArray) => u0 x3 <| uM m fun x5 x4 => uC x5 fun x6 x7 => uS (S:=sig) .d Key.tok x6 fun (a2 : List Tok) => uC x7 fun x8 x9 => uI .i64 x8 fun a3 => u0 x9 <| uE x4 <| C.c67_0 ρ a1 a2 a3 (fun y0 y1 y2 => K (.ret (.d (.bool y0)), [some [.d (.sl Key.tok y1), .d (.int .i64 y2)]]))

def Rc68_0 : Option ρ :=
  uC args fun x0 x1 => uP 0 0 x0 <| u0 x1 <| uM m fun x3 x2 => uC x3 fun x4 x5 => uS (S:=sig) .d Key.tok x4 fun (a1 : List Tok) => uC x5 fun x6 x7 => uI .i64 x6 fun a2 => u0 x7 <| uE x2 <| C.c68_0 ρ a1 a2 (fun y0 y1 y2 => K (.ret (.agg [.d (.int .i64 y0.op), .d (.str y0.name), .d (.sl Key.raw y0.args)]), [some [.d (.sl Key.tok y1), .d (.int .i64 y2)]])) (fun y0 y1 y2 y3 => K (.pan (.iface 114 (.agg [.d (.int .i64 y0), .d (.int .i64 y1)])), [some [.d (.sl Key.tok y2), .d (.int .i64 y3)]]))

def Rc69_0 : Option ρ :=
  uC args fun x0 x1 => uP 0 0 x0 <| u0 x1 <| uM m fun x3 x2 => uC x3 fun x4 x5 => uS (S:=sig) .d Key.tok x4 fun (a1 : List Tok) => uC x5 fun x6 x7 => uI .i64 x6 fun a2 => u0 x7 <| uE x2 <| C.c69_0 ρ a1 a2 (fun y0 y1 y2 y3 => K (.ret (.tup [.agg [.d (.int .i64 y0.op), .d (.str y0.name), .d (.sl Key.raw y0.args)], .d (.bool y1)]), [some [.d (.sl Key.tok y2), .d (.int .i64 y3)]])) (fun y0 y1 y2 y3 => K (.pan (.iface 114 (.agg [.d (.int .i64 y0), .d (.int .i64 y1)])), [some [.d (.sl Key.tok y2), .d (.int .i64 y3)]]))

def Rc70_0 : Option ρ :=
  uC args fun x0 x1 => uRw .d x0 fun a1 => uC x1 fun x2 x3 => uI .i64 x2 fun a2 => uC x3 fun x4 x5 => uP 0 0 x4 <| u0 x5 <| uM m fun x7 x6 => uC x7 fun x8 x9 => uI .i64 x8 fun a3 => u0 x9 <| uE x6 <| C.c70_0 ρ a1 a2 a3 (fun y0 y1 => K (.ret (.d (.bool y0)), [some [.d (.int .i64 y1)]]))

def Rc77_0 : Option ρ :=
  uC args fun x0 x1 => uStr x0 fun a1 => u0 x1 <| uE m <| C.c77_0 ρ a1 (fun y0 => K (.ret (.d (.bool y0)), []))

def Rc78_0 : Option ρ :=
  uC args fun x0 x1 => uS (S:=sig) .d Key.str x0 fun (a1 : List ByteArray) => uC x1 fun x2 x3 => uStr x2 fun a2 => u0 x3 <| uE m <| C.c78_0 ρ a1 a2 (fun y0 => K (.ret (.d (.bool y0)), []))

def Rc82_0 : Option ρ :=
  uC args fun x0 x1 => uI .u8 x0 fun a1 => u0 x1 <| uE m <| C.c82_0 ρ a1 (fun y0 => K (.ret (.d (.bool y0)), []))

def Rc83_0 : Option ρ :=
  uC args fun x0 x1 => uStr x0 fun a1 => uC x1 fun x2 x3 => uI .i64 x2 fun a2 => u0 x3 <| uE m <| C.c83_0 ρ a1 a2 (fun y0 => K (.ret (.d (.int .i64 y0)), []))

def Rc86_0 : Option ρ :=
  uC args fun x0 x1 => uI .i64 x0 fun a1 => u0 x1 <| uE m <| C.c86_0 ρ a1 (fun y0 => K (.ret (.d (.str y0)), []))

def Rc88_0 : Option ρ :=
  uC args fun x0 x1 => uP 0 0 x0 <| u0 x1 <| uM m fun x3 x2 => uC x3 fun x4 x5 => uS (S:=sig) .d Key.tok x4 fun (a1 : List Tok) => uC x5 fun x6 x7 => uI .i64 x6 fun a2 => u0 x7 <| uE x2 <| C.c88_0 ρ a1 a2 (fun y0 y1 y2 => K (.ret (.agg [.d (.str y0.word), .d (.str y0.name), .d (.int .i64 y0.raw.op), .d (.str y0.raw.name), .d (.sl Key.raw y0.raw.args), .d (.sl Key.part y0.parts)]), [some [.d (.sl Key.tok y1), .d (.int .i64 y2)]])) (fun y0 y1 y2 y3 => K (.pan (.iface 114 (.agg [.d (.int .i64 y0), .d (.int .i64 y1)])), [some [.d (.sl Key.tok y2), .d (.int .i64 y3)]]))

def Rc92_0 : Option ρ :=
  uC args fun x0 x1 => uStr x0 fun a1 => uC x1 fun x2 x3 => uFn 93 x2 fun x4 x5 => u0 x4 <| u0 x5 <| u0 x3 <| uE m <| C.c92_0 ρ a1 (fun y0 => K (.ret (.d (.bool y0)), []))

def Rc92_1 : Option ρ :=
  uC args fun x0 x1 => uStr x0 fun a1 => uC x1 fun x2 x3 => uFn 107 x2 fun x4 x5 => u0 x4 <| u0 x5 <| u0 x3 <| uE m <| C.c92_1 ρ a1 (fun y0 => K (.ret (.d (.bool y0)), []))

def Rc93_0 : Option ρ :=
  uC args fun x0 x1 => uI .u8 x0 fun a1 => u0 x1 <| uE m <| C.c93_0 ρ a1 (fun y0 => K (.ret (.d (.bool y0)), []))

def Rc94_0 : Option ρ :=
  uC args fun x0 x1 => uS (S:=sig) .d Key.int x0 fun (a1 : List Int) => uC x1 fun x2 x3 => uI .i64 x2 fun a2 => u0 x3 <| uE m <| C.c94_0 ρ a1 a2 (fun y0 => K (.ret (.d (.bool y0)), []))

def Rc95_0 : Option ρ :=
  uC args fun x0 x1 => uI .i64 x0 fun a1 => u0 x1 <| uE m <| C.c95_0 ρ a1 (fun y0 => K (.ret (.d (.str y0)), []))

def Rc96_0 : Option ρ :=
  uC args fun x0 x1 => uS (S:=sig) .d Key.str x0 fun (a1 : List ByteArray) => uC x1 fun x2 x3 => uStr x2 fun a2 => u0 x3 <| uE m <| C.c96_0 ρ a1 a2 (fun y0 => K (.ret (.d (.str y0)), []))

def Rc97_0 : Option ρ :=
  uC args fun x0 x1 => uI .u8 x0 fun a1 => u0 x1 <| uE m <| C.c97_0 ρ a1 (fun y0 => K (.ret (.d (.bool y0)), []))

def Rc98_0 : Option ρ :=
  uC args fun x0 x1 => uStr x0 fun a1 => uC x1 fun x2 x3 => uS (S:=sig) .d Key.str x2 fun (a2 : List ByteArray) => u0 x3 <| uE m <| C.c98_0 ρ a1 a2 (fun y0 => K (.ret (.d (.bool y0)), []))

def Rc99_0 : Option ρ :=
  uC args fun x0 x1 => uStr x0 fun a1 => uC x1 fun x2 x3 => uB x2 fun a2 => u0 x3 <| uE m <| C.c99_0 ρ a1 a2 (fun y0 => K (.ret (.d (.str y0)), []))

def Rc100_0 : Option ρ :=
  uC args fun x0 x1 => uRw .d x0 fun a1 => u0 x1 <| uE m <| C.c100_0 ρ a1 (fun y0 => K (.ret (.d (.bool y0)), []))

def Rc101_0 : Option ρ :=
  uC args fun x0 x1 => uS (S:=sig) .d Key.part x0 fun (a1 : List Pt) => u0 x1 <| uE m <| C.c101_0 ρ a1 (fun y0 => K (.ret (.d (.str y0)), []))

def Rc102_0 : Option ρ :=
  uC args fun x0 x1 => uP 0 0 x0 <| uC x1 fun x2 x3 => uI .i64 x2 fun a1 => u0 x3 <| uM m fun x5 x4 => uC x5 fun x6 x7 => uStr x6 fun a2 => uC x7 fun x8 x9 => uI .i64 x8 fun a3 => u0 x9 <| uE x4 <| C.c102_0 ρ a1 a2 a3 (fun y0 y1 y2 => K (.ret (.d (.int .u8 y0)), [some [.d (.str y1), .d (.int .i64 y2)]]))

def Rc103_0 : Option ρ :=
  uC args fun x0 x1 => uStr x0 fun a1 => uC x1 fun x2 x3 => uI .u8 x2 fun a2 => u0 x3 <| uE m <| C.c103_0 ρ a1 a2 (fun y0 => K (.ret (.d (.int .i64 y0)), []))

def Rc104_0 : Option ρ :=
  uC args fun x0 x1 => uI .i64 x0 fun a1 => uC x1 fun x2 x3 => uStr x2 fun a2 => uC x3 fun x4 x5 => uB x4 fun a3 => u0 x5 <| uE m <| C.c104_0 ρ a1 a2 a3 (fun y0 y1 => K (.ret (.tup [.d (.int .i64 y0), .d (.str y1)]), []))

def Rc105_0 : Option ρ :=
  uC args fun x0 x1 => uP 0 0 x0 <| uC x1 fun x2 x3 => uP 1 0 x2 <| u0 x3 <| uM m fun x5 x4 => uC x5 fun x6 x7 => uStr x6 fun a1 => uC x7 fun x8 x9 => uI .i64 x8 fun a2 => u0 x9 <| uM x4 fun x11 x10 => uC x11 fun x12 x13 => uFn 104 x12 fun x14 x15 => u0 x14 <| u0 x15 <| u0 x13 <| uE x10 <| C.c105_0 ρ a1 a2 (fun y0 y1 y2 y3 => K (.ret (.tup [.d (.int .i64 y0), .d (.str y1)]), [some [.d (.str y2), .d (.int .i64 y3)], some [.fn (.func 104) [] []]]))

def Rc106_0 : Option ρ :=
  uC args fun x0 x1 => uP 0 0 x0 <| uC x1 fun x2 x3 => uI .i64 x2 fun a1 => u0 x3 <| uM m fun x5 x4 => uC x5 fun x6 x7 => uStr x6 fun a2 => uC x7 fun x8 x9 => uI .i64 x8 fun a3 => u0 x9 <| uE x4 <| C.c106_0 ρ a1 a2 a3 (fun y0 y1 y2 => K (.ret (.d (.str y0)), [some [.d (.str y1), .d (.int .i64 y2)]]))

def Rc107_0 : Option ρ :=
  uC args fun x0 x1 => uI .u8 x0 fun a1 => u0 x1 <| uE m <| C.c107_0 ρ a1 (fun y0 => K (.ret (.d (.bool y0)), []))

def Rc108_0 : Option ρ :=
  uC args fun x0 x1 => uP 0 0 x0 <| uC x1 fun x2 x3 => uP 1 0 x2 <| u0 x3 <| uM m fun x5 x4 => uC x5 fun x6 x7 => uStr x6 fun a1 => uC x7 fun x8 x9 => uI .i64 x8 fun a2 => u0 x9 <| uM x4 fun x11 x10 => uC x11 fun x12 x13 => uFn 104 x12 fun x14 x15 => u0 x14 <| u0 x15 <| u0 x13 <| uE x10 <| C.c108_0 ρ a1 a2 (fun y0 y1 y2 y3 => K (.ret (.tup [.d (.int .i64 y0), .d (.str y1)]), [some [.d (.str y2), .d (.int .i64 y3)], some [.fn (.func 104) [] []]]))

def Rc109_0 : Option ρ :=
  uC args fun x0 x1 => uI .u8 x0 fun a1 => u0 x1 <| uE m <| C.c109_0 ρ a1 (fun y0 => K (.ret (.d (.bool y0)), []))

def Rc110_0 : Option ρ :=
  uC args fun x0 x1 => uP 0 0 x0 <| uC x1 fun x2 x3 => uP 1 0 x2 <| u0 x3 <| uM m fun x5 x4 => uC x5 fun x6 x7 => uStr x6 fun a1 => uC x7 fun x8 x9 => uI .i64 x8 fun a2 => u0 x9 <| uM x4 fun x11 x10 => uC x11 fun x12 x13 => uFn 104 x12 fun x14 x15 => u0 x14 <| u0 x15 <| u0 x13 <| uE x10 <| C.c110_0 ρ a1 a2 (fun y0 y1 y2 y3 => K (.ret (.tup [.d (.int .i64 y0), .d (.str y1)]), [some [.d (.str y2), .d (.int .i64 y3)], some [.fn (.func 104) [] []]]))

def Rc111_0 : Option ρ :=
  uC args fun x0 x1 => uStr x0 fun a1 => u0 x1 <| uE m <| C.c111_0 ρ a1 (fun y0 => K (.ret (.d (.bool y0)), []))

def Rc112_0 : Option ρ :=
  uC args fun x0 x1 => uP 0 0 x0 <| uC x1 fun x2 x3 => uP 1 0 x2 <| u0 x3 <| uM m fun x5 x4 => uC x5 fun x6 x7 => uStr x6 fun a1 => uC x7 fun x8 x9 => uI .i64 x8 fun a2 => u0 x9 <| uM x4 fun x11 x10 => uC x11 fun x12 x13 => uFn 104 x12 fun x14 x15 => u0 x14 <| u0 x15 <| u0 x13 <| uE x10 <| C.c112_0 ρ a1 a2 (fun y0 y1 y2 y3 => K (.ret (.tup [.d (.int .i64 y0), .d (.str y1)]), [some [.d (.str y2), .d (.int .i64 y3)], some [.fn (.func 104) [] []]]))

def Rc113_0 : Option ρ :=
  uC args fun x0 x1 => uP 0 0 x0 <| uC x1 fun x2 x3 => uP 1 0 x2 <| u0 x3 <| uM m fun x5 x4 => uC x5 fun x6 x7 => uStr x6 fun a1 => uC x7 fun x8 x9 => uI .i64 x8 fun a2 => u0 x9 <| uM x4 fun x11 x10 => uC x11 fun x12 x13 => uFn 104 x12 fun x14 x15 => u0 x14 <| u0 x15 <| u0 x13 <| uE x10 <| C.c113_0 ρ a1 a2 (fun y0 y1 y2 y3 => K (.ret (.tup [.d (.int .i64 y0), .d (.str y1)]), [some [.d (.str y2), .d (.int .i64 y3)], some [.fn (.func 104) [] []]]))

def Rc114_0 : Option ρ :=
  uC args fun x0 x1 => uP 0 0 x0 <| u0 x1 <| uM m fun x3 x2 => uC x3 fun x4 x5 => uStr x4 fun a1 => uC x5 fun x6 x7 => uI .i64 x6 fun a2 => u0 x7 <| uE x2 <| C.c114_0 ρ a1 a2 (fun y0 y1 y2 y3 => K (.ret (.tup [.d (.int .i64 y0), .d (.str y1)]), [some [.d (.str y2), .d (.int .i64 y3)]]))

def Rc115_0 : Option ρ :=
  uC args fun x0 x1 => uP 0 0 x0 <| uC x1 fun x2 x3 => uP 1 0 x2 <| u0 x3 <| uM m fun x5 x4 => uC x5 fun x6 x7 => uStr x6 fun a1 => uC x7 fun x8 x9 => uI .i64 x8 fun a2 => u0 x9 <| uM x4 fun x11 x10 => uC x11 fun x12 x13 => uFn 104 x12 fun x14 x15 => u0 x14 <| u0 x15 <| u0 x13 <| uE x10 <| C.c115_0 ρ a1 a2 (fun y0 y1 y2 y3 => K (.ret (.tup [.d (.int .i64 y0), .d (.str y1)]), [some [.d (.str y2), .d (.int .i64 y3)], some [.fn (.func 104) [] []]]))

def Rc116_0 : Option ρ :=
  uC args fun x0 x1 => uP 0 0 x0 <| uC x1 fun x2 x3 => uP 1 0 x2 <| uC x3 fun x4 x5 => uP 2 0 x4 <| u0 x5 <| uM m fun x7 x6 => uC x7 fun x8 x9 => uStr x8 fun a1 => uC x9 fun x10 x11 => uI .i64 x10 fun a2 => u0 x11 <| uM x6 fun x13 x12 => uC x13 fun x14 x15 => uFn 104 x14 fun x16 x17 => u0 x16 <| u0 x17 <| u0 x15 <| uM x12 fun x19 x18 => uC x19 fun x20 x21 => uI .u8 x20 fun a3 => u0 x21 <| uE x18 <| C.c116_0 ρ a1 a2 a3 (fun y0 y1 y2 y3 y4 => K (.ret (.tup [.d (.int .i64 y0), .d (.str y1)]), [some [.d (.str y2), .d (.int .i64 y3)], some [.fn (.func 104) [] []], some [.d (.int .u8 y4)]]))

def Rc117_0 : Option ρ :=
  uC args fun x0 x1 => uP 0 0 x0 <| u0 x1 <| uM m fun x3 x2 => uC x3 fun x4 x5 => uS (S:=sig) .d Key.tok x4 fun (a1 : List Tok) => uC x5 fun x6 x7 => uI .i64 x6 fun a2 => u0 x7 <| uE x2 <| C.c117_0 ρ a1 a2 (fun y0 y1 y2 => K (.ret (.d (.str y0)), [some [.d (.sl Key.tok y1), .d (.int .i64 y2)]])) (fun y0 y1 y2 y3 => K (.pan (.iface 114 (.agg [.d (.int .i64 y0), .d (.int .i64 y1)])), [some [.d (.sl Key.tok y2), .d (.int .i64 y3)]]))

def Rc118_0 : Option ρ :=
  uC args fun x0 x1 => uP 0 0 x0 <| uC x1 fun x2 x3 => uStr x2 fun a1 => u0 x3 <| uM m fun x5 x4 => uC x5 fun x6 x7 => uS (S:=sig) .d Key.tok x6 fun (a2 : List Tok) => uC x7 fun x8 x9 => uI .i64 x8 fun a3 => u0 x9 <| uE x4 <| C.c118_0 ρ a1 a2 a3 (fun y0 y1 => K (.ret (.tup []), [some [.d (.sl Key.tok y0), .d (.int .i64 y1)]])) (fun y0 y1 y2 y3 => K (.pan (.iface 114 (.agg [.d (.int .i64 y0), .d (.int .i64 y1)])), [some [.d (.sl Key.tok y2), .d (.int .i64 y3)]]))

def Rc119_0 : Option ρ :=
  uC args fun x0 x1 => uP 0 0 x0 <| u0 x1 <| uM m fun x3 x2 => uC x3 fun x4 x5 => uS (S:=sig) .d Key.tok x4 fun (a1 : List Tok) => uC x5 fun x6 x7 => uI .i64 x6 fun a2 => u0 x7 <| uE x2 <| C.c119_0 ρ a1 a2 (fun y0 y1 y2 => K (.ret (.agg [.d (.int .i64 y0.op), .d (.str y0.name), .d (.sl Key.raw y0.args)]), [some [.d (.sl Key.tok y1), .d (.int .i64 y2)]])) (fun y0 y1 y2 y3 => K (.pan (.iface 114 (.agg [.d (.int .i64 y0), .d (.int .i64 y1)])), [some [.d (.sl Key.tok y2), .d (.int .i64 y3)]]))

def Rc120_0 : Option ρ :=
  uC args fun x0 x1 => uP 0 0 x0 <| u0 x1 <| uM m fun x3 x2 => uC x3 fun x4 x5 => uS (S:=sig) .d Key.tok x4 fun (a1 : List Tok) => uC x5 fun x6 x7 => uI .i64 x6 fun a2 => u0 x7 <| uE x2 <| C.c120_0 ρ a1 a2 (fun y0 y1 y2 => K (.ret (.d (.bool y0)), [some [.d (.sl Key.tok y1), .d (.int .i64 y2)]]))

def Rc126_0 : Option ρ :=
  uC args fun x0 x1 => uS (S:=sig) .d Key.str x0 fun (a1 : List ByteArray) => uC x1 fun x2 x3 => uStr x2 fun a2 => u0 x3 <| uE m <| C.c126_0 ρ a1 a2 (fun y0 => K (.ret (.d (.int .i64 y0)), []))

def Rc127_0 : Option ρ :=
  uC args fun x0 x1 => uI .u8 x0 fun a1 => u0 x1 <| uE m <| C.c127_0 ρ a1 (fun y0 => K (.ret (.d (.bool y0)), []))

def Rc129_0 : Option ρ :=
  uC args fun x0 x1 => uP 0 0 x0 <| uC x1 fun x2 x3 => uStr x2 fun a1 => u0 x3 <| uM m fun x5 x4 => uC x5 fun x6 x7 => uS (S:=sig) .d Key.tok x6 fun (a2 : List Tok) => uC x7 fun x8 x9 => uI .i64 x8 fun a3 => u0 x9 <| uE x4 <| C.c129_0 ρ a1 a2 a3 (fun y0 y1 y2 => K (.ret (.d (.sl Key.part y0)), [some [.d (.sl Key.tok y1), .d (.int .i64 y2)]])) (fun y0 y1 y2 y3 => K (.pan (.iface 114 (.agg [.d (.int .i64 y0), .d (.int .i64 y1)])), [some [.d (.sl Key.tok y2), .d (.int .i64 y3)]]))

def Rc132_0 : Option ρ :=
  uC args fun x0 x1 => uI .u8 x0 fun a1 => u0 x1 <| uE m <| C.c132_0 ρ a1 (fun y0 => K (.ret (.d (.bool y0)), []))

def Rc133_0 : Option ρ :=
  uC args fun x0 x1 => uS (S:=sig) .d Key.int x0 fun (a1 : List Int) => uC x1 fun x2 x3 => uI .i64 x2 fun a2 => u0 x3 <| uE m <| C.c133_0 ρ a1 a2 (fun y0 => K (.ret (.d (.int .i64 y0)), []))

def Rc139_0 : Option ρ :=
  uC args fun x0 x1 => uStr x0 fun a1 => u0 x1 <| uE m <| C.c139_0 ρ a1 (fun y0 => K (.ret (.tup [.d (.int .i64 y0), .nilif]), [])) (fun y0 => K (.ret (.tup [.d (.int .i64 y0), .iface 171 (.any)]), []))

def Rc140_0 : Option ρ :=
  uC args fun x0 x1 => uTok  x0 fun a1 => u0 x1 <| uE m <| C.c140_0 ρ a1 (fun y0 => K (.ret (.d (.bool y0)), []))

def Rc141_0 : Option ρ :=
  uC args fun x0 x1 => uP 0 0 x0 <| u0 x1 <| uM m fun x3 x2 => uC x3 fun x4 x5 => uS (S:=sig) .d Key.tok x4 fun (a1 : List Tok) => uC x5 fun x6 x7 => uI .i64 x6 fun a2 => u0 x7 <| uE x2 <| C.c141_0 ρ a1 a2 (fun y0 y1 y2 => K (.ret (.agg [.d (.int .i64 y0.kind), .d (.str y0.text), .d (.int .i64 (y0.at_))]), [some [.d (.sl Key.tok y1), .d (.int .i64 y2)]]))

def Rc142_0 : Option ρ :=
  uC args fun x0 x1 => uP 0 0 x0 <| u0 x1 <| uM m fun x3 x2 => uC x3 fun x4 x5 => uS (S:=sig) .d Key.tok x4 fun (a1 : List Tok) => uC x5 fun x6 x7 => uI .i64 x6 fun a2 => u0 x7 <| uE x2 <| C.c142_0 ρ a1 a2 (fun y0 y1 y2 => K (.ret (.agg [.d (.int .i64 y0.op), .d (.str y0.sign), .d (.str y0.name), .d (.int .i64 y0.num), .d (.int .i64 y0.raw.op), .d (.str y0.raw.name), .d (.sl Key.raw y0.raw.args), .d (.sl Key.part y0.parts)]), [some [.d (.sl Key.tok y1), .d (.int .i64 y2)]])) (fun y0 y1 y2 y3 => K (.pan (.iface 114 (.agg [.d (.int .i64 y0), .d (.int .i64 y1)])), [some [.d (.sl Key.tok y2), .d (.int .i64 y3)]]))

def Rc150_0 : Option ρ :=
  uC args fun x0 x1 => uP 0 0 x0 <| uC x1 fun x2 x3 => uI .i64 x2 fun a1 => u0 x3 <| uM m fun x5 x4 => uC x5 fun x6 x7 => uS (S:=sig) .d Key.tok x6 fun (a2 : List Tok) => uC x7 fun x8 x9 => uI .i64 x8 fun a3 => u0 x9 <| uE x4 <| C.c150_0 ρ a1 a2 a3 (fun y0 y1 y2 => K (.ret (.agg [.d (.int .i64 y0.kind), .d (.str y0.text), .d (.int .i64 (y0.at_))]), [some [.d (.sl Key.tok y1), .d (.int .i64 y2)]]))

end
section
variable (C : Tab) (ρ : Type) (vs : List (PV sig)) (m : Mem sig) (ds : List (FuncId × List (PV sig))) (nt : Nat) (K : Ex sig → St sig → Option ρ)

def Rl10_4_0 : Option ρ :=
  uN nt 46 <| uC vs fun x0 x1 => uP 0 0 x0 <| uC x1 fun x2 x3 => uP 1 0 x2 <| uC x3 fun x4 x5 => uI .i64 x4 fun a1 => u0 x5 <| uM m fun x7 x6 => uRwL .d x7 fun a2 => uM x6 fun x9 x8 => uRwL .d x9 fun a3 => uE x8 <| uDe ds <| C.l10_4_0 ρ a1 a2 a3 (fun y0 => K .ret (canon [4] [.d (.bool y0)] [] [] 46)) (K (.exit 0) (canon [] [] [] [] 46))

def Rl21_11_0 : Option ρ :=
  uN nt 45 <| uC vs fun x0 x1 => uP 0 0 x0 <| uC x1 fun x2 x3 => uP 1 0 x2 <| uC x3 fun x4 x5 => uP 2 0 x4 <| uC x5 fun x6 x7 => uS (S:=sig) .d Key.item x6 fun (a1 : List It) => uC x7 fun x8 x9 => uI .i64 x8 fun a2 => uC x9 fun x10 x11 => uI .i64 x10 fun a3 => u0 x11 <| uM m fun x13 x12 => uC x13 fun x14 x15 => uS (S:=sig) .d Key.item x14 fun (a4 : List It) => u0 x15 <| uM x12 fun x17 x16 => uC x17 fun x18 x19 => uI .i64 x18 fun a5 => u0 x19 <| uM x16 fun x21 x20 => uC x21 fun x22 x23 => uI .i64 x22 fun a6 => u0 x23 <| uE x20 <| uD 1000000 ds fun x24 x25 => uC x24 fun x26 x27 => uY x26 fun mk => u0 x27 <| uD 29 x25 fun x28 x29 => uC x28 fun x30 x31 => uP 1 0 x30 <| uC x31 fun x32 x33 => uP 2 0 x32 <| u0 x33 <| uD 50 x29 fun x34 x35 => uC x34 fun x36 x37 => uP 2 0 x36 <| uC x37 fun x38 x39 => uP 0 0 x38 <| u0 x39 <| uDe x35 <| C.l21_11_0 ρ a1 a2 a3 a4 a5 a6 mk (fun y0 y1 y2 => K (.exit 2) (canon [2, 3, 4] [.ptr 0 0, .ptr 1 0, .ptr 2 0] [some [.d (.sl Key.item y0)], some [.d (.int .i64 y1)], some [.d (.int .i64 y2)]] [(1000000, [.fn (.yield mk) [] []]), (29, [.ptr 1 0, .ptr 2 0]), (50, [.ptr 2 0, .ptr 0 0])] 45)) (fun y0 y1 y2 => K .ret (canon [2, 3, 4] [.ptr 0 0, .ptr 1 0, .ptr 2 0] [some [.full Key.item y0], some [.d (.int .i64 y1)], some [.d (.int .i64 y2)]] [(1000000, [.fn (.yield mk) [] []]), (29, [.ptr 1 0, .ptr 2 0]), (50, [.ptr 2 0, .ptr 0 0])] 45))

def Rl23_4_0 : Option ρ :=
  uN nt 54 <| uC vs fun x0 x1 => uP 0 0 x0 <| uC x1 fun x2 x3 => uP 1 0 x2 <| uC x3 fun x4 x5 => uI .i64 x4 fun a1 => u0 x5 <| uM m fun x7 x6 => uItL .d .d x7 fun a2 => uM x6 fun x9 x8 => uItL .d .d x9 fun a3 => uE x8 <| uDe ds <| C.l23_4_0 ρ a1 a2 a3 (K (.exit 0) (canon [] [] [] [] 54)) (fun y0 => K .ret (canon [4] [.d (.bool y0)] [] [] 54))

def Rl24_9_0 : Option ρ :=
  uN nt 53 <| uC vs fun x0 x1 => uP 1 0 x0 <| uC x1 fun x2 x3 => uS (S:=sig) .d Key.part x2 fun (a1 : List Pt) => uC x3 fun x4 x5 => uI .i64 x4 fun a2 => uC x5 fun x6 x7 => uI .i64 x6 fun a3 => u0 x7 <| uM m fun x9 x8 => uItL .d .d x9 fun a4 => uM x8 fun x11 x10 => uC x11 fun x12 x13 => uI .i64 x12 fun a5 => u0 x13 <| uE x10 <| uDe ds <| C.l24_9_0 ρ a1 a2 a3 a4 a5 (K (.exit 0) (canon [] [] [] [] 53)) (fun y0 => K .ret (canon [2] [.d (.int .i64 y0)] [] [] 53))

def Rl26_6_0 : Option ρ :=
  uN nt 61 <| uC vs fun x0 x1 => uP 0 0 x0 <| uC x1 fun x2 x3 => uI .i64 x2 fun a1 => u0 x3 <| uM m fun x5 x4 => uItL .d .d x5 fun a2 => uE x4 <| uDe ds <| C.l26_6_0 ρ a1 a2 (K (.exit 0) (canon [] [] [] [] 61)) (fun y0 => K .ret (canon [2] [.d (.bool y0)] [] [] 61))

def Rl27_5_0 : Option ρ :=
  uN nt 35 <| uC vs fun x0 x1 => uStr x0 fun a1 => uC x1 fun x2 x3 => uS (S:=sig) .d Key.part x2 fun (a2 : List Pt) => uC x3 fun x4 x5 => uI .i64 x4 fun a3 => uC x5 fun x6 x7 => uI .i64 x6 fun a4 => u0 x7 <| uE m <| uDe ds <| C.l27_5_0 ρ a1 a2 a3 a4 (fun y0 => K (.exit 0) (canon [3] [.d (.str y0)] [] [] 35))

def Rl28_6_0 : Option ρ :=
  uN nt 69 <| uC vs fun x0 x1 => uStr x0 fun a1 => uC x1 fun x2 x3 => uP 0 0 x2 <| uC x3 fun x4 x5 => uS (S:=sig) .own Key.tok x4 fun (a2 : List Tok) => u0 x5 <| uM m fun x7 x6 => uC x7 fun x8 x9 => uStr x8 fun a3 => uC x9 fun x10 x11 => uI .i64 x10 fun a4 => u0 x11 <| uE x6 <| uDe ds <| C.l28_6_0 ρ a1 a2 a3 a4 (fun y0 y1 => K (.exit 0) (canon [0, 6] [.d (.str y0), .own Key.tok y1] [] [] 69)) (fun y0 y1 y2 => K .ret (canon [2, 3, 4] [.full Key.tok y0, .d (.int .i64 y1), .d (.int .i64 y2)] [] [] 69))

def Rl30_4_0 : Option ρ :=
  uN nt 63 <| uC vs fun x0 x1 => uP 0 0 x0 <| uC x1 fun x2 x3 => uP 1 0 x2 <| uC x3 fun x4 x5 => uP 2 0 x4 <| uC x5 fun x6 x7 => uB x6 fun a1 => u0 x7 <| uM m fun x9 x8 => uC x9 fun x10 x11 => uS (S:=sig) .d Key.tok x10 fun (a2 : List Tok) => uC x11 fun x12 x13 => uI .i64 x12 fun a3 => u0 x13 <| uM x8 fun x15 x14 => uRwL .full x15 fun a4 => uM x14 fun x17 x16 => uRwL .d x17 fun a5 => uE x16 <| uDe ds <| C.l30_4_0 ρ a1 a2 a3 a4 a5 (fun y0 y1 y2 y3 => K (.exit 1) (canon [2, 3] [.ptr 1 0, .ptr 2 0] [some [.d (.sl Key.tok y0), .d (.int .i64 y1)], some [.d (.int .i64 y2.op), .d (.str y2.name), .full Key.raw y2.args], some [.d (.int .i64 y3.op), .d (.str y3.name), .d (.sl Key.raw y3.args)]] [] 63)) (fun y0 y1 y2 y3 y4 => K (.pan (.iface 114 (.agg [.d (.int .i64 y3), .d (.int .i64 y4)]))) (canon [2] [.ptr 1 0] [some [.d (.sl Key.tok y0), .d (.int .i64 y1)], some [.d (.int .i64 y2.op), .d (.str y2.name), .full Key.raw y2.args]] [] 63))

def Rl42_3_0 : Option ρ :=
  uN nt 34 <| uC vs fun x0 x1 => uI .i64 x0 fun a1 => uC x1 fun x2 x3 => uP 0 0 x2 <| uC x3 fun x4 x5 => uI .i64 x4 fun a2 => uC x5 fun x6 x7 => uI .i64 x6 fun a3 => u0 x7 <| uM m fun x9 x8 => uRwL .d x9 fun a4 => uE x8 <| uDe ds <| C.l42_3_0 ρ a1 a2 a3 a4 (fun y0 y1 => K (.exit 0) (canon [1, 5] [.d (.int .i64 y0), .d (.int .i64 y1)] [] [] 34))

def Rl43_18_0 : Option ρ :=
  uN nt 62 <| uC vs fun x0 x1 => uI .i64 x0 fun a1 => uC x1 fun x2 x3 => uP 0 0 x2 <| uC x3 fun x4 x5 => uI .i64 x4 fun a2 => u0 x5 <| uM m fun x7 x6 => uRwL .d x7 fun a3 => uE x6 <| uDe ds <| C.l43_18_0 ρ a1 a2 a3 (fun y0 => K .ret (canon [4] [.d (.bool y0)] [] [] 62)) (K (.exit 1) (canon [] [] [] [] 62))

def Rl53_4_0 : Option ρ :=
  uN nt 68 <| uC vs fun x0 x1 => uP 0 0 x0 <| uC x1 fun x2 x3 => uP 1 0 x2 <| uC x3 fun x4 x5 => uI .i64 x4 fun a1 => u0 x5 <| uM m fun x7 x6 => uPtL .d .d x7 fun a2 => uM x6 fun x9 x8 => uPtL .d .d x9 fun a3 => uE x8 <| uDe ds <| C.l53_4_0 ρ a1 a2 a3 (fun y0 => K .ret (canon [4] [.d (.bool y0)] [] [] 68)) (K (.exit 0) (canon [] [] [] [] 68))

def Rl56_32_0 : Option ρ :=
  uN nt 205 <| uC vs fun x0 x1 => uI .i64 x0 fun a1 => uC x1 fun x2 x3 => uP 0 0 x2 <| uC x3 fun x4 x5 => uP 1 0 x4 <| uC x5 fun x6 x7 => uP 2 0 x6 <| uC x7 fun x8 x9 => uS (S:=sig) .d Key.part x8 fun (a2 : List Pt) => uC x9 fun x10 x11 => uI .i64 x10 fun a3 => uC x11 fun x12 x13 => uI .i64 x12 fun a4 => u0 x13 <| uM m fun x15 x14 => uC x15 fun x16 x17 => uI .i64 x16 fun a5 => u0 x17 <| uM x14 fun x19 x18 => uPtL .d .d x19 fun a6 => uM x18 fun x21 x20 => uPtL .full .full x21 fun a7 => uE x20 <| uDe ds <| C.l56_32_0 ρ a1 a2 a3 a4 a5 a6 a7 (fun y0 y1 => K .ret (canon [6] [.d (.bool y0)] [some [.d (.int .i64 y1)]] [] 205)) (fun y0 y1 y2 => K (.exit 1) (canon [3, 7] [.ptr 1 0, .ptr 2 0] [some [.d (.int .i64 y0)], some [.d (.int .i64 y1.op), .d (.str y1.sign), .d (.str y1.name), .d (.int .i64 y1.num), .d (.int .i64 y1.raw.op), .d (.str y1.raw.name), .d (.sl Key.raw y1.raw.args), .d (.sl Key.part y1.parts)], some [.d (.int .i64 y2.op), .d (.str y2.sign), .d (.str y2.name), .d (.int .i64 y2.num), .d (.int .i64 y2.raw.op), .d (.str y2.raw.name), .full Key.raw y2.raw.args, .full Key.part y2.parts]] [] 205))

def Rl58_3_0 : Option ρ :=
  uN nt 64 <| uC vs fun x0 x1 => uS (S:=sig) .own Key.str x0 fun (a1 : List ByteArray) => uC x1 fun x2 x3 => uS (S:=sig) .d Key.part x2 fun (a2 : List Pt) => uC x3 fun x4 x5 => uI .i64 x4 fun a3 => uC x5 fun x6 x7 => uI .i64 x6 fun a4 => u0 x7 <| uE m <| uDe ds <| C.l58_3_0 ρ a1 a2 a3 a4 (fun y0 => K (.exit 0) (canon [3] [.own Key.str y0] [] [] 64))

def Rl61_3_0 : Option ρ :=
  uN nt 35 <| uC vs fun x0 x1 => uS (S:=sig) .d Key.part x0 fun (a1 : List Pt) => uC x1 fun x2 x3 => uI .i64 x2 fun a2 => uC x3 fun x4 x5 => uI .i64 x4 fun a3 => uC x5 fun x6 x7 => uI .i64 x6 fun a4 => u0 x7 <| uE m <| uDe ds <| C.l61_3_0 ρ a1 a2 a3 a4 (fun y0 y1 => K (.exit 0) (canon [1, 5] [.d (.int .i64 y0), .d (.int .i64 y1)] [] [] 35))

def Rl62_23_0 : Option ρ :=
  uN nt 229 <| uC vs fun x0 x1 => uI .i64 x0 fun a1 => uC x1 fun x2 x3 => uP 0 0 x2 <| uC x3 fun x4 x5 => uB x4 fun a2 => uC x5 fun x6 x7 => uI .i64 x6 fun a3 => u0 x7 <| uM m fun x9 x8 => uPtL .d .d x9 fun a4 => uE x8 <| uDe ds <| C.l62_23_0 ρ a1 a2 a3 a4 (fun y0 => K .ret (canon [4] [.d (.bool y0)] [] [] 229)) (fun y0 y1 => K (.exit 1) (canon [2, 5] [.ptr 0 0, .d (.bool y0)] [some [.d (.int .i64 y1.op), .d (.str y1.sign), .d (.str y1.name), .d (.int .i64 y1.num), .d (.int .i64 y1.raw.op), .d (.str y1.raw.name), .d (.sl Key.raw y1.raw.args), .d (.sl Key.part y1.parts)]] [] 229))

def Rl65_0_0 : Option ρ :=
  uN nt 102 <| uC vs fun x0 x1 => uP 0 0 x0 <| u0 x1 <| uM m fun x3 x2 => uC x3 fun x4 x5 => uStr x4 fun a1 => uC x5 fun x6 x7 => uI .i64 x6 fun a2 => u0 x7 <| uE x2 <| uDe ds <| C.l65_0_0 ρ a1 a2 (fun y0 y1 => K (.exit 0) (canon [] [] [some [.d (.str y0), .d (.int .i64 y1)]] [] 102))

def Rl69_2_0 : Option ρ :=
  uN nt 23 <| uC vs fun x0 x1 => uP 0 0 x0 <| uC x1 fun x2 x3 => uP 1 0 x2 <| uC x3 fun x4 x5 => uP 2 0 x4 <| u0 x5 <| uM m fun x7 x6 => uC x7 fun x8 x9 => uS (S:=sig) .d Key.tok x8 fun (a1 : List Tok) => uC x9 fun x10 x11 => uI .i64 x10 fun a2 => u0 x11 <| uM x6 fun x13 x12 => uRwL .full x13 fun a3 => uM x12 fun x15 x14 => uRwL .d x15 fun a4 => uE x14 <| uDe ds <| C.l69_2_0 ρ a1 a2 a3 a4 (fun y0 y1 y2 y3 => K (.exit 0) (canon [0, 2, 4] [.ptr 0 0, .ptr 1 0, .ptr 2 0] [some [.d (.sl Key.tok y0), .d (.int .i64 y1)], some [.d (.int .i64 y2.op), .d (.str y2.name), .full Key.raw y2.args], some [.d (.int .i64 y3.op), .d (.str y3.name), .d (.sl Key.raw y3.args)]] [] 23)) (fun y0 y1 y2 y3 y4 => K (.pan (.iface 114 (.agg [.d (.int .i64 y3), .d (.int .i64 y4)]))) (canon [2, 3] [.ptr 1 0, .any] [some [.d (.sl Key.tok y0), .d (.int .i64 y1)], some [.d (.int .i64 y2.op), .d (.str y2.name), .d (.sl Key.raw y2.args)]] [] 23))

def Rl70_20_0 : Option ρ :=
  uN nt 72 <| uC vs fun x0 x1 => uI .i64 x0 fun a1 => uC x1 fun x2 x3 => uP 0 0 x2 <| uC x3 fun x4 x5 => uS (S:=sig) .d Key.raw x4 fun (a2 : List Rw) => uC x5 fun x6 x7 => uI .i64 x6 fun a3 => uC x7 fun x8 x9 => uI .i64 x8 fun a4 => u0 x9 <| uM m fun x11 x10 => uC x11 fun x12 x13 => uI .i64 x12 fun a5 => u0 x13 <| uE x10 <| uDe ds <| C.l70_20_0 ρ a1 a2 a3 a4 a5 (fun y0 y1 => K .ret (canon [6] [.d (.bool y0)] [some [.d (.int .i64 y1)]] [] 72)) (fun y0 => K (.exit 1) (canon [] [] [some [.d (.int .i64 y0)]] [] 72))

def Rl83_1_0 : Option ρ :=
  uN nt 18 <| uC vs fun x0 x1 => uStr x0 fun a1 => uC x1 fun x2 x3 => uI .i64 x2 fun a2 => u0 x3 <| uE m <| uDe ds <| C.l83_1_0 ρ a1 a2 (fun y0 => K (.exit 0) (canon [1] [.d (.int .i64 y0)] [] [] 18))

def Rl86_2_0 : Option ρ :=
  uN nt 23 <| uC vs fun x0 x1 => uI .i64 x0 fun a1 => uC x1 fun x2 x3 => uStr x2 fun a2 => u0 x3 <| uE m <| uDe ds <| C.l86_2_0 ρ a1 a2 (fun y0 => K (.exit 0) (canon [3] [.d (.str y0)] [] [] 23))

def Rl92_4_0 : Option ρ :=
  uN nt 32 <| uC vs fun x0 x1 => uStr x0 fun a1 => uC x1 fun x2 x3 => uI .i64 x2 fun a2 => uC x3 fun x4 x5 => uI .i64 x4 fun a3 => u0 x5 <| uE m <| uDe ds <| C.l92_4_0 ρ a1 a2 a3 (K (.exit 0) (canon [] [] [] [] 32)) (fun y0 => K .ret (canon [4] [.d (.bool y0)] [] [] 32))

def Rl98_2_0 : Option ρ :=
  uN nt 17 <| uC vs fun x0 x1 => uStr x0 fun a1 => uC x1 fun x2 x3 => uS (S:=sig) .d Key.str x2 fun (a2 : List ByteArray) => uC x3 fun x4 x5 => uI .i64 x4 fun a3 => uC x5 fun x6 x7 => uI .i64 x6 fun a4 => u0 x7 <| uE m <| uDe ds <| C.l98_2_0 ρ a1 a2 a3 a4 (fun y0 => K .ret (canon [4] [.d (.bool y0)] [] [] 17)) (K (.exit 0) (canon [] [] [] [] 17))

def Rl101_3_0 : Option ρ :=
  uN nt 23 <| uC vs fun x0 x1 => uStr x0 fun a1 => uC x1 fun x2 x3 => uS (S:=sig) .d Key.part x2 fun (a2 : List Pt) => uC x3 fun x4 x5 => uI .i64 x4 fun a3 => uC x5 fun x6 x7 => uI .i64 x6 fun a4 => u0 x7 <| uE m <| uDe ds <| C.l101_3_0 ρ a1 a2 a3 a4 (fun y0 => K (.exit 0) (canon [3] [.d (.str y0)] [] [] 23))

def Rl106_2_0 : Option ρ :=
  uN nt 42 <| uC vs fun x0 x1 => uP 0 0 x0 <| uC x1 fun x2 x3 => uI .i64 x2 fun a1 => uC x3 fun x4 x5 => uI .i64 x4 fun a2 => u0 x5 <| uM m fun x7 x6 => uC x7 fun x8 x9 => uStr x8 fun a3 => uC x9 fun x10 x11 => uI .i64 x10 fun a4 => u0 x11 <| uE x6 <| uDe ds <| C.l106_2_0 ρ a1 a2 a3 a4 (fun y0 y1 y2 y3 => K (.exit 0) (canon [0, 1, 5] [.ptr 0 0, .d (.int .i64 y0), .d (.int .i64 y1)] [some [.d (.str y2), .d (.int .i64 y3)]] [] 42))

def Rl126_2_0 : Option ρ :=
  uN nt 19 <| uC vs fun x0 x1 => uS (S:=sig) .d Key.str x0 fun (a1 : List ByteArray) => uC x1 fun x2 x3 => uStr x2 fun a2 => uC x3 fun x4 x5 => uI .i64 x4 fun a3 => uC x5 fun x6 x7 => uI .i64 x6 fun a4 => u0 x7 <| uE m <| uDe ds <| C.l126_2_0 ρ a1 a2 a3 a4 (fun y0 => K .ret (canon [4] [.d (.int .i64 y0)] [] [] 19)) (K (.exit 0) (canon [] [] [] [] 19))

def Rl129_2_0 : Option ρ :=
  uN nt 24 <| uC vs fun x0 x1 => uP 0 0 x0 <| uC x1 fun x2 x3 => uStr x2 fun a1 => uC x3 fun x4 x5 => uS (S:=sig) .own Key.part x4 fun (a2 : List Pt) => u0 x5 <| uM m fun x7 x6 => uC x7 fun x8 x9 => uS (S:=sig) .d Key.tok x8 fun (a3 : List Tok) => uC x9 fun x10 x11 => uI .i64 x10 fun a4 => u0 x11 <| uE x6 <| uDe ds <| C.l129_2_0 ρ a1 a2 a3 a4 (fun y0 y1 y2 => K (.exit 0) (canon [0, 5] [.ptr 0 0, .own Key.part y0] [some [.d (.sl Key.tok y1), .d (.int .i64 y2)]] [] 24)) (fun y0 y1 y2 y3 => K (.pan (.iface 114 (.agg [.d (.int .i64 y2), .d (.int .i64 y3)]))) (canon [4] [.any] [some [.d (.sl Key.tok y0), .d (.int .i64 y1)]] [] 24))

def Rl133_2_0 : Option ρ :=
  uN nt 19 <| uC vs fun x0 x1 => uS (S:=sig) .d Key.int x0 fun (a1 : List Int) => uC x1 fun x2 x3 => uI .i64 x2 fun a2 => uC x3 fun x4 x5 => uI .i64 x4 fun a3 => uC x5 fun x6 x7 => uI .i64 x6 fun a4 => u0 x7 <| uE m <| uDe ds <| C.l133_2_0 ρ a1 a2 a3 a4 (fun y0 => K .ret (canon [4] [.d (.int .i64 y0)] [] [] 19)) (K (.exit 0) (canon [] [] [] [] 19))

end

def modeId : PV sig → Nat
  | .d (.sl _ _) => 1
  | .full _ _ => 2
  | .own _ _ => 3
  | _ => 0

def fnId : PV sig → Nat
  | .fn (.func g) _ _ => g
  | _ => 0

section
variable (C : Tab) (ρ : Type) (args : List (PV sig)) (m : Mem sig) (K : Res sig × Mem sig → Option ρ)

def T7 : Option ρ := Rc7_0 C ρ args m K

def T8 : Option ρ := Rc8_0 C ρ args m K

def T10 : Option ρ := Rc10_0 C ρ args m K

def T11 : Option ρ := Rc11_0 C ρ args m K

def T13 : Option ρ := Rc13_0 C ρ args m K

def T14 : Option ρ := Rc14_0 C ρ args m K

def T21 : Option ρ := Rc21_0 C ρ args m K

def T23 : Option ρ := Rc23_0 C ρ args m K

def T24 : Option ρ := Rc24_0 C ρ args m K

def T25 : Option ρ := Rc25_0 C ρ args m K

def T26 : Option ρ := Rc26_0 C ρ args m K

def T27 : Option ρ := Rc27_0 C ρ args m K

def T28 : Option ρ := Rc28_0 C ρ args m K

def T30 : Option ρ := Rc30_0 C ρ args m K

def T31 : Option ρ := Rc31_0 C ρ args m K

def T32 : Option ρ := Rc32_0 C ρ args m K

def T33 : Option ρ := Rc33_0 C ρ args m K

def T37 : Option ρ := Rc37_0 C ρ args m K

def T38 : Option ρ := Rc38_0 C ρ args m K

def T42 : Option ρ := Rc42_0 C ρ args m K

def T43 : Option ρ := Rc43_0 C ρ args m K

def T44 : Option ρ := Rc44_0 C ρ args m K

def T51 : Option ρ := Rc51_0 C ρ args m K

def T53 : Option ρ := Rc53_0 C ρ args m K

def T54 : Option ρ := Rc54_0 C ρ args m K

def T55 : Option ρ := Rc55_0 C ρ args m K

def T56 : Option ρ := Rc56_0 C ρ args m K

def T57 : Option ρ := Rc57_0 C ρ args m K

def T58 : Option ρ := Rc58_0 C ρ args m K

def T59 : Option ρ := Rc59_0 C ρ args m K

def T60 : Option ρ := Rc60_0 C ρ args m K

def T61 : Option ρ := Rc61_0 C ρ args m K

def T62 : Option ρ := Rc62_0 C ρ args m K

def T63 : Option ρ := Rc63_0 C ρ args m K

def T64 : Option ρ := Rc64_0 C ρ args m K

def T65 : Option ρ := Rc65_0 C ρ args m K

def T66 : Option ρ := Rc66_0 C ρ args m K

def T67 : Option ρ := Rc67_0 C ρ args m K

def T68 : Option ρ := Rc68_0 C ρ args m K

def T69 : Option ρ := Rc69_0 C ρ args m K

def T70 : Option ρ := Rc70_0 C ρ args m K

def T77 : Option ρ := Rc77_0 C ρ args m K

def T78 : Option ρ := Rc78_0 C ρ args m K

def T82 : Option ρ := Rc82_0 C ρ args m K

def T83 : Option ρ := Rc83_0 C ρ args m K

def T86 : Option ρ := Rc86_0 C ρ args m K

def T88 : Option ρ := Rc88_0 C ρ args m K

def T92 : Option ρ := bif Nat.beq (fnId (args.getD 1 .any)) 93 then Rc92_0 C ρ args m K else bif Nat.beq (fnId (args.getD 1 .any)) 107 then Rc92_1 C ρ args m K else none

def T93 : Option ρ := Rc93_0 C ρ args m K

def T94 : Option ρ := Rc94_0 C ρ args m K

def T95 : Option ρ := Rc95_0 C ρ args m K

def T96 : Option ρ := Rc96_0 C ρ args m K

def T97 : Option ρ := Rc97_0 C ρ args m K

def T98 : Option ρ := Rc98_0 C ρ args m K

def T99 : Option ρ := Rc99_0 C ρ args m K

def T100 : Option ρ := Rc100_0 C ρ args m K

def T101 : Option ρ := Rc101_0 C ρ args m K

def T102 : Option ρ := Rc102_0 C ρ args m K

def T103 : Option ρ := Rc103_0 C ρ args m K

def T104 : Option ρ := Rc104_0 C ρ args m K

def T105 : Option ρ := Rc105_0 C ρ args m K

def T106 : Option ρ := Rc106_0 C ρ args m K

def T107 : Option ρ := Rc107_0 C ρ args m K

def T108 : Option ρ := Rc108_0 C ρ args m K

def T109 : Option ρ := Rc109_0 C ρ args m K

def T110 : Option ρ := Rc110_0 C ρ args m K

def T111 : Option ρ := Rc111_0 C ρ args m K

def T112 : Option ρ := Rc112_0 C ρ args m K

def T113 : Option ρ := Rc113_0 C ρ args m K

def T114 : Option ρ := Rc114_0 C ρ args m K

def T115 : Option ρ := Rc115_0 C ρ args m K

def T116 : Option ρ := Rc116_0 C ρ args m K

def T117 : Option ρ := Rc117_0 C ρ args m K

def T118 : Option ρ := Rc118_0 C ρ args m K

def T119 : Option ρ := Rc119_0 C ρ args m K

def T120 : Option ρ := Rc120_0 C ρ args m K

def T126 : Option ρ := Rc126_0 C ρ args m K

def T127 : Option ρ := Rc127_0 C ρ args m K

def T129 : Option ρ := Rc129_0 C ρ args m K

def T132 : Option ρ := Rc132_0 C ρ args m K

def T133 : Option ρ := Rc133_0 C ρ args m K

def T139 : Option ρ := Rc139_0 C ρ args m K

def T140 : Option ρ := Rc140_0 C ρ args m K

def T141 : Option ρ := Rc141_0 C ρ args m K

def T142 : Option ρ := Rc142_0 C ρ args m K

def T150 : Option ρ := Rc150_0 C ρ args m K

end

/-- The table of functions. -/
def T (C : Tab) : CallT sig := fun ρ f args m K =>
  bif Nat.beq f 7 then T7 C ρ args m K else
  bif Nat.beq f 8 then T8 C ρ args m K else
  bif Nat.beq f 10 then T10 C ρ args m K else
  bif Nat.beq f 11 then T11 C ρ args m K else
  bif Nat.beq f 13 then T13 C ρ args m K else
  bif Nat.beq f 14 then T14 C ρ args m K else
  bif Nat.beq f 21 then T21 C ρ args m K else
  bif Nat.beq f 23 then T23 C ρ args m K else
  bif Nat.beq f 24 then T24 C ρ args m K else
  bif Nat.beq f 25 then T25 C ρ args m K else
  bif Nat.beq f 26 then T26 C ρ args m K else
  bif Nat.beq f 27 then T27 C ρ args m K else
  bif Nat.beq f 28 then T28 C ρ args m K else
  bif Nat.beq f 30 then T30 C ρ args m K else
  bif Nat.beq f 31 then T31 C ρ args m K else
  bif Nat.beq f 32 then T32 C ρ args m K else
  bif Nat.beq f 33 then T33 C ρ args m K else
  bif Nat.beq f 37 then T37 C ρ args m K else
  bif Nat.beq f 38 then T38 C ρ args m K else
  bif Nat.beq f 42 then T42 C ρ args m K else
  bif Nat.beq f 43 then T43 C ρ args m K else
  bif Nat.beq f 44 then T44 C ρ args m K else
  bif Nat.beq f 51 then T51 C ρ args m K else
  bif Nat.beq f 53 then T53 C ρ args m K else
  bif Nat.beq f 54 then T54 C ρ args m K else
  bif Nat.beq f 55 then T55 C ρ args m K else
  bif Nat.beq f 56 then T56 C ρ args m K else
  bif Nat.beq f 57 then T57 C ρ args m K else
  bif Nat.beq f 58 then T58 C ρ args m K else
  bif Nat.beq f 59 then T59 C ρ args m K else
  bif Nat.beq f 60 then T60 C ρ args m K else
  bif Nat.beq f 61 then T61 C ρ args m K else
  bif Nat.beq f 62 then T62 C ρ args m K else
  bif Nat.beq f 63 then T63 C ρ args m K else
  bif Nat.beq f 64 then T64 C ρ args m K else
  bif Nat.beq f 65 then T65 C ρ args m K else
  bif Nat.beq f 66 then T66 C ρ args m K else
  bif Nat.beq f 67 then T67 C ρ args m K else
  bif Nat.beq f 68 then T68 C ρ args m K else
  bif Nat.beq f 69 then T69 C ρ args m K else
  bif Nat.beq f 70 then T70 C ρ args m K else
  bif Nat.beq f 77 then T77 C ρ args m K else
  bif Nat.beq f 78 then T78 C ρ args m K else
  bif Nat.beq f 82 then T82 C ρ args m K else
  bif Nat.beq f 83 then T83 C ρ args m K else
  bif Nat.beq f 86 then T86 C ρ args m K else
  bif Nat.beq f 88 then T88 C ρ args m K else
  bif Nat.beq f 92 then T92 C ρ args m K else
  bif Nat.beq f 93 then T93 C ρ args m K else
  bif Nat.beq f 94 then T94 C ρ args m K else
  bif Nat.beq f 95 then T95 C ρ args m K else
  bif Nat.beq f 96 then T96 C ρ args m K else
  bif Nat.beq f 97 then T97 C ρ args m K else
  bif Nat.beq f 98 then T98 C ρ args m K else
  bif Nat.beq f 99 then T99 C ρ args m K else
  bif Nat.beq f 100 then T100 C ρ args m K else
  bif Nat.beq f 101 then T101 C ρ args m K else
  bif Nat.beq f 102 then T102 C ρ args m K else
  bif Nat.beq f 103 then T103 C ρ args m K else
  bif Nat.beq f 104 then T104 C ρ args m K else
  bif Nat.beq f 105 then T105 C ρ args m K else
  bif Nat.beq f 106 then T106 C ρ args m K else
  bif Nat.beq f 107 then T107 C ρ args m K else
  bif Nat.beq f 108 then T108 C ρ args m K else
  bif Nat.beq f 109 then T109 C ρ args m K else
  bif Nat.beq f 110 then T110 C ρ args m K else
  bif Nat.beq f 111 then T111 C ρ args m K else
  bif Nat.beq f 112 then T112 C ρ args m K else
  bif Nat.beq f 113 then T113 C ρ args m K else
  bif Nat.beq f 114 then T114 C ρ args m K else
  bif Nat.beq f 115 then T115 C ρ args m K else
  bif Nat.beq f 116 then T116 C ρ args m K else
  bif Nat.beq f 117 then T117 C ρ args m K else
  bif Nat.beq f 118 then T118 C ρ args m K else
  bif Nat.beq f 119 then T119 C ρ args m K else
  bif Nat.beq f 120 then T120 C ρ args m K else
  bif Nat.beq f 126 then T126 C ρ args m K else
  bif Nat.beq f 127 then T127 C ρ args m K else
  bif Nat.beq f 129 then T129 C ρ args m K else
  bif Nat.beq f 132 then T132 C ρ args m K else
  bif Nat.beq f 133 then T133 C ρ args m K else
  bif Nat.beq f 139 then T139 C ρ args m K else
  bif Nat.beq f 140 then T140 C ρ args m K else
  bif Nat.beq f 141 then T141 C ρ args m K else
  bif Nat.beq f 142 then T142 C ρ args m K else
  bif Nat.beq f 150 then T150 C ρ args m K else none

/-- The table of loops. -/
def LT (C : Tab) : LoopT sig := fun ρ f np key st K =>
  bif Nat.beq f 10 && (Nat.beq np 0 && Nat.beq key 4) then Rl10_4_0 C ρ (seenV (PK 10 0 4 0) st) (seenM 0 (PK 10 0 4 0) st) st.dfs st.nt K else
  bif Nat.beq f 21 && (Nat.beq np 0 && Nat.beq key 11) then Rl21_11_0 C ρ (seenV (PK 21 0 11 0) st) (seenM 0 (PK 21 0 11 0) st) st.dfs st.nt K else
  bif Nat.beq f 23 && (Nat.beq np 0 && Nat.beq key 4) then Rl23_4_0 C ρ (seenV (PK 23 0 4 0) st) (seenM 0 (PK 23 0 4 0) st) st.dfs st.nt K else
  bif Nat.beq f 24 && (Nat.beq np 0 && Nat.beq key 9) then Rl24_9_0 C ρ (seenV (PK 24 0 9 0) st) (seenM 0 (PK 24 0 9 0) st) st.dfs st.nt K else
  bif Nat.beq f 26 && (Nat.beq np 0 && Nat.beq key 6) then Rl26_6_0 C ρ (seenV (PK 26 0 6 0) st) (seenM 0 (PK 26 0 6 0) st) st.dfs st.nt K else
  bif Nat.beq f 27 && (Nat.beq np 0 && Nat.beq key 5) then Rl27_5_0 C ρ (seenV (PK 27 0 5 0) st) (seenM 0 (PK 27 0 5 0) st) st.dfs st.nt K else
  bif Nat.beq f 28 && (Nat.beq np 0 && Nat.beq key 6) then Rl28_6_0 C ρ (seenV (PK 28 0 6 0) st) (seenM 0 (PK 28 0 6 0) st) st.dfs st.nt K else
  bif Nat.beq f 30 && (Nat.beq np 1 && Nat.beq key 4) then Rl30_4_0 C ρ (seenV (PK 30 1 4 0) st) (seenM 1 (PK 30 1 4 0) st) st.dfs st.nt K else
  bif Nat.beq f 42 && (Nat.beq np 0 && Nat.beq key 3) then Rl42_3_0 C ρ (seenV (PK 42 0 3 0) st) (seenM 0 (PK 42 0 3 0) st) st.dfs st.nt K else
  bif Nat.beq f 43 && (Nat.beq np 0 && Nat.beq key 18) then Rl43_18_0 C ρ (seenV (PK 43 0 18 0) st) (seenM 0 (PK 43 0 18 0) st) st.dfs st.nt K else
  bif Nat.beq f 53 && (Nat.beq np 0 && Nat.beq key 4) then Rl53_4_0 C ρ (seenV (PK 53 0 4 0) st) (seenM 0 (PK 53 0 4 0) st) st.dfs st.nt K else
  bif Nat.beq f 56 && (Nat.beq np 1 && Nat.beq key 32) then Rl56_32_0 C ρ (seenV (PK 56 1 32 0) st) (seenM 1 (PK 56 1 32 0) st) st.dfs st.nt K else
  bif Nat.beq f 58 && (Nat.beq np 0 && Nat.beq key 3) then Rl58_3_0 C ρ (seenV (PK 58 0 3 0) st) (seenM 0 (PK 58 0 3 0) st) st.dfs st.nt K else
  bif Nat.beq f 61 && (Nat.beq np 0 && Nat.beq key 3) then Rl61_3_0 C ρ (seenV (PK 61 0 3 0) st) (seenM 0 (PK 61 0 3 0) st) st.dfs st.nt K else
  bif Nat.beq f 62 && (Nat.beq np 0 && Nat.beq key 23) then Rl62_23_0 C ρ (seenV (PK 62 0 23 0) st) (seenM 0 (PK 62 0 23 0) st) st.dfs st.nt K else
  bif Nat.beq f 65 && (Nat.beq np 1 && Nat.beq key 0) then Rl65_0_0 C ρ (seenV (PK 65 1 0 0) st) (seenM 1 (PK 65 1 0 0) st) st.dfs st.nt K else
  bif Nat.beq f 69 && (Nat.beq np 1 && Nat.beq key 2) then Rl69_2_0 C ρ (seenV (PK 69 1 2 0) st) (seenM 1 (PK 69 1 2 0) st) st.dfs st.nt K else
  bif Nat.beq f 70 && (Nat.beq np 1 && Nat.beq key 20) then Rl70_20_0 C ρ (seenV (PK 70 1 20 0) st) (seenM 1 (PK 70 1 20 0) st) st.dfs st.nt K else
  bif Nat.beq f 83 && (Nat.beq np 0 && Nat.beq key 1) then Rl83_1_0 C ρ (seenV (PK 83 0 1 0) st) (seenM 0 (PK 83 0 1 0) st) st.dfs st.nt K else
  bif Nat.beq f 86 && (Nat.beq np 0 && Nat.beq key 2) then Rl86_2_0 C ρ (seenV (PK 86 0 2 0) st) (seenM 0 (PK 86 0 2 0) st) st.dfs st.nt K else
  bif Nat.beq f 92 && (Nat.beq np 0 && Nat.beq key 4) then Rl92_4_0 C ρ (seenV (PK 92 0 4 0) st) (seenM 0 (PK 92 0 4 0) st) st.dfs st.nt K else
  bif Nat.beq f 98 && (Nat.beq np 0 && Nat.beq key 2) then Rl98_2_0 C ρ (seenV (PK 98 0 2 0) st) (seenM 0 (PK 98 0 2 0) st) st.dfs st.nt K else
  bif Nat.beq f 101 && (Nat.beq np 0 && Nat.beq key 3) then Rl101_3_0 C ρ (seenV (PK 101 0 3 0) st) (seenM 0 (PK 101 0 3 0) st) st.dfs st.nt K else
  bif Nat.beq f 106 && (Nat.beq np 1 && Nat.beq key 2) then Rl106_2_0 C ρ (seenV (PK 106 1 2 0) st) (seenM 1 (PK 106 1 2 0) st) st.dfs st.nt K else
  bif Nat.beq f 126 && (Nat.beq np 0 && Nat.beq key 2) then Rl126_2_0 C ρ (seenV (PK 126 0 2 0) st) (seenM 0 (PK 126 0 2 0) st) st.dfs st.nt K else
  bif Nat.beq f 129 && (Nat.beq np 1 && Nat.beq key 2) then Rl129_2_0 C ρ (seenV (PK 129 1 2 0) st) (seenM 1 (PK 129 1 2 0) st) st.dfs st.nt K else
  bif Nat.beq f 133 && (Nat.beq np 0 && Nat.beq key 2) then Rl133_2_0 C ρ (seenV (PK 133 0 2 0) st) (seenM 0 (PK 133 0 2 0) st) st.dfs st.nt K else none

end Go.Proofs.YtanfoijdfcnpoaaGreatDoor.Ev
