/- This file proves nothing of the program: it defines how plain values are read as arguments of the typed functions, and the tables of these. -/
import Derived.Test.YtanfoijdfcnpoaaGreatDoorG1
set_option linter.unusedVariables false
set_option linter.unusedSimpArgs false
namespace Go.Proofs.YtanfoijdfcnpoaaGreatDoor.Ev

section
variable (C : Tab) (ρ : Type) (args : List (PV sig)) (m : Mem sig) (K : Res sig × Mem sig → Option ρ)

def Rc4_0 : Option ρ :=
  uC args fun x0 x1 => uRw .d x0 fun a1 => uC x1 fun x2 x3 => uStr x2 fun a2 => uC x3 fun x4 x5 => uStr x4 fun a3 => u0 x5 <| uE m <| C.c4_0 ρ a1 a2 a3 (fun y0 => K (.ret (.d (.bool y0)), []))

def Rc5_0 : Option ρ :=
  uC args fun x0 x1 => uRw .d x0 fun a1 => uC x1 fun x2 x3 => uStr x2 fun a2 => uC x3 fun x4 x5 => uStr x4 fun a3 => u0 x5 <| uE m <| C.c5_0 ρ a1 a2 a3 (fun y0 => K (.ret (.d (.bool y0)), []))

def Rc8_0 : Option ρ :=
  uC args fun x0 x1 => uStr x0 fun a1 => u0 x1 <| uE m <| C.c8_0 ρ a1 (fun y0 y1 y2 => K (.ret (.tup [.agg [.d (.int .i64 y0.op), .d (.str y0.name), .d (.sl Key.raw y0.args)], .d (.int .i64 y1), .d (.int .i64 y2)]), []))

def Rc10_0 : Option ρ :=
  uC args fun x0 x1 => uRw .d x0 fun a1 => uC x1 fun x2 x3 => uRw .d x2 fun a2 => u0 x3 <| uE m <| C.c10_0 ρ a1 a2 (fun y0 => K (.ret (.d (.bool y0)), []))

def Rc11_0 : Option ρ :=
  u0 args <| uE m <| C.c11_0 ρ (fun y0 => K (.ret (.d (.bool y0)), []))

def Rc12_0 : Option ρ :=
  uC args fun x0 x1 => uRw .d x0 fun a1 => uC x1 fun x2 x3 => uStr x2 fun a2 => uC x3 fun x4 x5 => uStr x4 fun a3 => u0 x5 <| uE m <| C.c12_0 ρ a1 a2 a3 (fun y0 y1 => K (.ret (.tup [.agg [.d (.int .i64 y0.op), .d (.str y0.name), .d (.sl Key.raw y0.args)], .d (.int .i64 y1)]), []))

def Rc13_0 : Option ρ :=
  uC args fun x0 x1 => uRw .d x0 fun a1 => u0 x1 <| uE m <| C.c13_0 ρ a1 (fun y0 => K (.ret (.d (.bool y0)), []))

def Rc14_0 : Option ρ :=
  uC args fun x0 x1 => uStr x0 fun a1 => u0 x1 <| uE m <| C.c14_0 ρ a1 (fun y0 => K (.ret (.d (.bool y0)), []))

def Rc15_0 : Option ρ :=
  uC args fun x0 x1 => uRw .d x0 fun a1 => uC x1 fun x2 x3 => uStr x2 fun a2 => uC x3 fun x4 x5 => uStr x4 fun a3 => u0 x5 <| uE m <| C.c15_0 ρ a1 a2 a3 (fun y0 => K (.ret (.agg [.d (.int .i64 y0.op), .d (.str y0.name), .d (.sl Key.raw y0.args)]), []))

def Rc16_0 : Option ρ :=
  uC args fun x0 x1 => uRw .d x0 fun a1 => u0 x1 <| uE m <| C.c16_0 ρ a1 (fun y0 y1 => K (.ret (.tup [.d (.sl Key.str y0), .d (.int .i64 y1)]), []))

def Rc17_0 : Option ρ :=
  uC args fun x0 x1 => uS (S:=sig) .d Key.str x0 fun (a1 : List ByteArray) => uC x1 fun x2 x3 => uStr x2 fun a2 => u0 x3 <| uE m <| C.c17_0 ρ a1 a2 (fun y0 => K (.ret (.d (.bool y0)), []))

def Rc18_0 : Option ρ :=
  uC args fun x0 x1 => uS (S:=sig) .d Key.str x0 fun (a1 : List ByteArray) => uC x1 fun x2 x3 => uS (S:=sig) .d Key.str x2 fun (a2 : List ByteArray) => u0 x3 <| uE m <| C.c18_0 ρ a1 a2 (fun y0 => K (.ret (.d (.bool y0)), []))

def Rc19_0 : Option ρ :=
  uC args fun x0 x1 => uRw .d x0 fun a1 => uC x1 fun x2 x3 => uStr x2 fun a2 => u0 x3 <| uE m <| C.c19_0 ρ a1 a2 (fun y0 => K (.ret (.d (.bool y0)), []))

def Rc20_0 : Option ρ :=
  uC args fun x0 x1 => uRw .d x0 fun a1 => uC x1 fun x2 x3 => uRw .d x2 fun a2 => u0 x3 <| uE m <| C.c20_0 ρ a1 a2 (fun y0 => K (.ret (.d (.bool y0)), []))

def Rc28_0 : Option ρ :=
  uC args fun x0 x1 => uStr x0 fun a1 => u0 x1 <| uE m <| C.c28_0 ρ a1 (fun y0 y1 y2 => K (.ret (.tup [.d (.sl Key.tok y0), .d (.int .i64 y1), .d (.int .i64 y2)]), []))

def Rc30_0 : Option ρ :=
  uC args fun x0 x1 => uP 0 0 x0 <| u0 x1 <| uM m fun x3 x2 => uC x3 fun x4 x5 => uS (S:=sig) .d Key.tok x4 fun (a1 : List Tok) => uC x5 fun x6 x7 => uI .i64 x6 fun a2 => u0 x7 <| uE x2 <| C.c30_0 ρ a1 a2 (fun y0 y1 y2 => K (.ret (.agg [.d (.int .i64 y0.op), .d (.str y0.name), .d (.sl Key.raw y0.args)]), [some [.d (.sl Key.tok y1), .d (.int .i64 y2)]])) (fun y0 y1 y2 y3 => K (.pan (.iface 114 (.agg [.d (.int .i64 y0), .d (.int .i64 y1)])), [some [.d (.sl Key.tok y2), .d (.int .i64 y3)]]))

def Rc31_0 : Option ρ :=
  uC args fun x0 x1 => uP 0 0 x0 <| u0 x1 <| uM m fun x3 x2 => uC x3 fun x4 x5 => uS (S:=sig) .d Key.tok x4 fun (a1 : List Tok) => uC x5 fun x6 x7 => uI .i64 x6 fun a2 => u0 x7 <| uE x2 <| C.c31_0 ρ a1 a2 (fun y0 y1 y2 => K (.ret (.agg [.d (.int .i64 y0.kind), .d (.str y0.text), .d (.int .i64 (y0.at_))]), [some [.d (.sl Key.tok y1), .d (.int .i64 y2)]]))

def Rc32_0 : Option ρ :=
  uC args fun x0 x1 => uP 0 0 x0 <| u0 x1 <| uM m fun x3 x2 => uC x3 fun x4 x5 => uS (S:=sig) .d Key.tok x4 fun (a1 : List Tok) => uC x5 fun x6 x7 => uI .i64 x6 fun a2 => u0 x7 <| uE x2 <| C.c32_0 ρ a1 a2 (fun y0 y1 y2 y3 => K (.pan (.iface 114 (.agg [.d (.int .i64 y0), .d (.int .i64 y1)])), [some [.d (.sl Key.tok y2), .d (.int .i64 y3)]]))

def Rc33_0 : Option ρ :=
  uC args fun x0 x1 => uRw .d x0 fun a1 => u0 x1 <| uE m <| C.c33_0 ρ a1 (fun y0 => K (.ret (.d (.int .i64 y0)), []))

def Rc37_0 : Option ρ :=
  uC args fun x0 x1 => uRw .d x0 fun a1 => u0 x1 <| uE m <| C.c37_0 ρ a1 (fun y0 y1 => K (.ret (.tup [.d (.str y0), .d (.int .i64 y1)]), []))

def Rc38_0 : Option ρ :=
  uC args fun x0 x1 => uStr x0 fun a1 => u0 x1 <| uE m <| C.c38_0 ρ a1 (fun y0 => K (.ret (.d (.bool y0)), []))

def Rc39_0 : Option ρ :=
  uC args fun x0 x1 => uRw .d x0 fun a1 => uC x1 fun x2 x3 => uMp 0 x2 <| u0 x3 <| uM m fun x5 x4 => uC x5 fun x6 x7 => uMb x6 fun a2 => u0 x7 <| uE x4 <| C.c39_0 ρ a1 a2 (fun y0 => K (.ret (.tup []), [some [.mpo (.b y0)]]))

def Rc40_0 : Option ρ :=
  uC args fun x0 x1 => uP 0 0 x0 <| uC x1 fun x2 x3 => uRw .d x2 fun a1 => uC x3 fun x4 x5 => uS (S:=sig) .d Key.str x4 fun (a2 : List ByteArray) => uC x5 fun x6 x7 => uNilmp x6 <| u0 x7 <| uM m fun x9 x8 => uC x9 fun x10 x11 => uStr x10 fun a3 => uC x11 fun x12 x13 => uStr x12 fun a4 => uC x13 fun x14 x15 => uMp 1 x14 <| uC x15 fun x16 x17 => uI .i64 x16 fun a5 => u0 x17 <| uM x8 fun x19 x18 => uC x19 fun x20 x21 => uMb x20 fun a6 => u0 x21 <| uE x18 <| C.c40_0 ρ a1 a2 a3 a4 a5 a6 (fun y0 y1 y2 y3 y4 => K (.ret (.agg [.d (.int .i64 y0.op), .d (.str y0.name), .d (.sl Key.raw y0.args)]), [some [.d (.str y1), .d (.str y2), .mp 1, .d (.int .i64 y3)], some [.mpo (.b y4)]]))

def Rc40_1 : Option ρ :=
  uC args fun x0 x1 => uP 0 0 x0 <| uC x1 fun x2 x3 => uRw .d x2 fun a1 => uC x3 fun x4 x5 => uS (S:=sig) .d Key.str x4 fun (a2 : List ByteArray) => uC x5 fun x6 x7 => uMp 1 x6 <| u0 x7 <| uM m fun x9 x8 => uC x9 fun x10 x11 => uStr x10 fun a3 => uC x11 fun x12 x13 => uStr x12 fun a4 => uC x13 fun x14 x15 => uMp 2 x14 <| uC x15 fun x16 x17 => uI .i64 x16 fun a5 => u0 x17 <| uM x8 fun x19 x18 => uC x19 fun x20 x21 => uMs x20 fun a6 => u0 x21 <| uM x18 fun x23 x22 => uC x23 fun x24 x25 => uMb x24 fun a7 => u0 x25 <| uE x22 <| C.c40_1 ρ a1 a2 a3 a4 a5 a6 a7 (fun y0 y1 y2 y3 y4 y5 => K (.ret (.agg [.d (.int .i64 y0.op), .d (.str y0.name), .d (.sl Key.raw y0.args)]), [some [.d (.str y1), .d (.str y2), .mp 2, .d (.int .i64 y3)], some [.mpo (.s y4)], some [.mpo (.b y5)]]))

def Rc41_0 : Option ρ :=
  uC args fun x0 x1 => uRw .d x0 fun a1 => u0 x1 <| uE m <| C.c41_0 ρ a1 (fun y0 => K (.ret (.agg [.d (.int .i64 y0.op), .d (.str y0.name), .d (.sl Key.raw y0.args)]), []))

def Rc42_0 : Option ρ :=
  uC args fun x0 x1 => uRw .d x0 fun a1 => uC x1 fun x2 x3 => uI .i64 x2 fun a2 => u0 x3 <| uE m <| C.c42_0 ρ a1 a2 (fun y0 => K (.ret (.d (.int .i64 y0)), []))

def Rc43_0 : Option ρ :=
  uC args fun x0 x1 => uRw .d x0 fun a1 => uC x1 fun x2 x3 => uI .i64 x2 fun a2 => u0 x3 <| uE m <| C.c43_0 ρ a1 a2 (fun y0 => K (.ret (.d (.bool y0)), []))

def Rc44_0 : Option ρ :=
  uC args fun x0 x1 => uStr x0 fun a1 => u0 x1 <| uE m <| C.c44_0 ρ a1 (fun y0 => K (.ret (.d (.bool y0)), []))

def Rc45_0 : Option ρ :=
  uC args fun x0 x1 => uRw .d x0 fun a1 => uC x1 fun x2 x3 => uS (S:=sig) .full Key.str x2 fun (a2 : List ByteArray) => u0 x3 <| uE m <| C.c45_0 ρ a1 a2 (fun y0 => K (.ret (.own Key.str y0), []))

def Rc45_1 : Option ρ :=
  uC args fun x0 x1 => uRw .d x0 fun a1 => uC x1 fun x2 x3 => uS (S:=sig) .own Key.str x2 fun (a2 : List ByteArray) => u0 x3 <| uE m <| C.c45_1 ρ a1 a2 (fun y0 => K (.ret (.own Key.str y0), []))

def Rc46_0 : Option ρ :=
  uC args fun x0 x1 => uRw .d x0 fun a1 => uC x1 fun x2 x3 => uStr x2 fun a2 => uC x3 fun x4 x5 => uStr x4 fun a3 => uC x5 fun x6 x7 => uS (S:=sig) .d Key.str x6 fun (a4 : List ByteArray) => u0 x7 <| uE m <| C.c46_0 ρ a1 a2 a3 a4 (fun y0 y1 => K (.ret (.tup [.agg [.d (.int .i64 y0.op), .d (.str y0.name), .d (.sl Key.raw y0.args)], .d (.sl Key.str y1)]), []))

def Rc47_0 : Option ρ :=
  uC args fun x0 x1 => uRw .d x0 fun a1 => uC x1 fun x2 x3 => uStr x2 fun a2 => uC x3 fun x4 x5 => uStr x4 fun a3 => u0 x5 <| uE m <| C.c47_0 ρ a1 a2 a3 (fun y0 => K (.ret (.agg [.d (.int .i64 y0.op), .d (.str y0.name), .d (.sl Key.raw y0.args)]), []))

def Rc48_0 : Option ρ :=
  uC args fun x0 x1 => uRw .d x0 fun a1 => uC x1 fun x2 x3 => uS (S:=sig) .full Key.str x2 fun (a2 : List ByteArray) => uC x3 fun x4 x5 => uS (S:=sig) .full Key.str x4 fun (a3 : List ByteArray) => u0 x5 <| uE m <| C.c48_0 ρ a1 a2 a3 (fun y0 => K (.ret (.own Key.str y0), []))

def Rc48_1 : Option ρ :=
  uC args fun x0 x1 => uRw .d x0 fun a1 => uC x1 fun x2 x3 => uS (S:=sig) .d Key.str x2 fun (a2 : List ByteArray) => uC x3 fun x4 x5 => uS (S:=sig) .own Key.str x4 fun (a3 : List ByteArray) => u0 x5 <| uE m <| C.c48_1 ρ a1 a2 a3 (fun y0 => K (.ret (.own Key.str y0), []))

def Rc48_2 : Option ρ :=
  uC args fun x0 x1 => uRw .d x0 fun a1 => uC x1 fun x2 x3 => uS (S:=sig) .own Key.str x2 fun (a2 : List ByteArray) => uC x3 fun x4 x5 => uS (S:=sig) .own Key.str x4 fun (a3 : List ByteArray) => u0 x5 <| uE m <| C.c48_2 ρ a1 a2 a3 (fun y0 => K (.ret (.own Key.str y0), []))

def Rc48_3 : Option ρ :=
  uC args fun x0 x1 => uRw .d x0 fun a1 => uC x1 fun x2 x3 => uS (S:=sig) .d Key.str x2 fun (a2 : List ByteArray) => uC x3 fun x4 x5 => uS (S:=sig) .full Key.str x4 fun (a3 : List ByteArray) => u0 x5 <| uE m <| C.c48_3 ρ a1 a2 a3 (fun y0 => K (.ret (.own Key.str y0), []))

def Rc49_0 : Option ρ :=
  uC args fun x0 x1 => uS (S:=sig) .d Key.raw x0 fun (a1 : List Rw) => uC x1 fun x2 x3 => uS (S:=sig) .d Key.raw x2 fun (a2 : List Rw) => uC x3 fun x4 x5 => uFn 20 x4 fun x6 x7 => u0 x6 <| u0 x7 <| u0 x5 <| uE m <| C.c49_0 ρ a1 a2 (fun y0 => K (.ret (.d (.bool y0)), []))

def Rc54_0 : Option ρ :=
  uC args fun x0 x1 => uStr x0 fun a1 => u0 x1 <| uE m <| C.c54_0 ρ a1 (fun y0 => K (.ret (.d (.bool y0)), []))

def Rc57_0 : Option ρ :=
  uC args fun x0 x1 => uRw .d x0 fun a1 => uC x1 fun x2 x3 => uS (S:=sig) .d Key.int x2 fun (a2 : List Int) => u0 x3 <| uE m <| C.c57_0 ρ a1 a2 (fun y0 => K (.ret (.d (.str y0)), []))

def Rc65_0 : Option ρ :=
  uC args fun x0 x1 => uP 0 0 x0 <| u0 x1 <| uM m fun x3 x2 => uC x3 fun x4 x5 => uStr x4 fun a1 => uC x5 fun x6 x7 => uI .i64 x6 fun a2 => u0 x7 <| uE x2 <| C.c65_0 ρ a1 a2 (fun y0 y1 => K (.ret (.tup []), [some [.d (.str y0), .d (.int .i64 y1)]]))

def Rc66_0 : Option ρ :=
  uC args fun x0 x1 => uI .u8 x0 fun a1 => u0 x1 <| uE m <| C.c66_0 ρ a1 (fun y0 => K (.ret (.fn (.func 105) [] [.ptr 1 0]), [some [.d (.int .u8 y0)], some [.fn (.func 104) [] []]])) (fun y0 => K (.ret (.fn (.func 108) [] [.ptr 1 0]), [some [.d (.int .u8 y0)], some [.fn (.func 104) [] []]])) (fun y0 => K (.ret (.fn (.func 110) [] [.ptr 1 0]), [some [.d (.int .u8 y0)], some [.fn (.func 104) [] []]])) (fun y0 => K (.ret (.fn (.func 112) [] [.ptr 1 0]), [some [.d (.int .u8 y0)], some [.fn (.func 104) [] []]])) (fun y0 => K (.ret (.fn (.func 113) [] [.ptr 1 0]), [some [.d (.int .u8 y0)], some [.fn (.func 104) [] []]])) (K (.ret (.fn (.func 114) [] []), [])) (fun y0 => K (.ret (.fn (.func 115) [] [.ptr 1 0]), [some [.d (.int .u8 y0)], some [.fn (.func 104) [] []]])) (fun y0 => K (.ret (.fn (.func 116) [] [.ptr 1 0, .ptr 0 0]), [some [.d (.int .u8 y0)], some [.fn (.func 104) [] []]]))

def Rc67_0 : Option ρ :=
  uC args fun x0 x1 => uP 0 0 x0 <| uC x1 fun x2 x3 => uS (S:=sig) .d Key.str x2 fun (a1 : List ByteArray) => u0 x3 <| uM m fun x5 x4 => uC x5 fun x6 x7 => uS (S:=sig) .d Key.tok x6 fun (a2 : List Tok) => uC x7 fun x8 x9 => uI .i64 x8 fun a3 => u0 x9 <| uE x4 <| C.c67_0 ρ a1 a2 a3 (fun y0 y1 y2 => K (.ret (.d (.bool y0)), [some [.d (.sl Key.tok y1), .d (.int .i64 y2)]]))

def Rc68_0 : Option ρ :=
  uC args fun x0 x1 => uP 0 0 x0 <| u0 x1 <| uM m fun x3 x2 => uC x3 fun x4 x5 => uS (S:=sig) .d Key.tok x4 fun (a1 : List Tok) => uC x5 fun x6 x7 => uI .i64 x6 fun a2 => u0 x7 <| uE x2 <| C.c68_0 ρ a1 a2 (fun y0 y1 y2 => K (.ret (.agg [.d (.int .i64 y0.op), .d (.str y0.name), .d (.sl Key.raw y0.args)]), [some [.d (.sl Key.tok y1), .d (.int .i64 y2)]])) (fun y0 y1 y2 y3 => K (.pan (.iface 114 (.agg [.d (.int .i64 y0), .d (.int .i64 y1)])), [some [.d (.sl Key.tok y2), .d (.int .i64 y3)]]))

def Rc69_0 : Option ρ :=
  uC args fun x0 x1 => uP 0 0 x0 <| u0 x1 <| uM m fun x3 x2 => uC x3 fun x4 x5 => uS (S:=sig) .d Key.tok x4 fun (a1 : List Tok) => uC x5 fun x6 x7 => uI .i64 x6 fun a2 => u0 x7 <| uE x2 <| C.c69_0 ρ a1 a2 (fun y0 y1 y2 y3 => K (.ret (.tup [.agg [.d (.int .i64 y0.op), .d (.str y0.name), .d (.sl Key.raw y0.args)], .d (.bool y1)]), [some [.d (.sl Key.tok y2), .d (.int .i64 y3)]])) (fun y0 y1 y2 y3 => K (.pan (.iface 114 (.agg [.d (.int .i64 y0), .d (.int .i64 y1)])), [some [.d (.sl Key.tok y2), .d (.int .i64 y3)]]))

def Rc70_0 : Option ρ :=
  uC args fun x0 x1 => uRw .d x0 fun a1 => uC x1 fun x2 x3 => uI .i64 x2 fun a2 => uC x3 fun x4 x5 => uP 0 0 x4 <| u0 x5 <| uM m fun x7 x6 => uC x7 fun x8 x9 => uI .i64 x8 fun a3 => u0 x9 <| uE x6 <| C.c70_0 ρ a1 a2 a3 (fun y0 y1 => K (.ret (.d (.bool y0)), [some [.d (.int .i64 y1)]]))

def Rc77_0 : Option ρ :=
  uC args fun x0 x1 => uStr x0 fun a1 => u0 x1 <| uE m <| C.c77_0 ρ a1 (fun y0 => K (.ret (.d (.bool y0)), []))

def Rc78_0 : Option ρ :=
  uC args fun x0 x1 => uS (S:=sig) .d Key.str x0 fun (a1 : List ByteArray) => uC x1 fun x2 x3 => uStr x2 fun a2 => u0 x3 <| uE m <| C.c78_0 ρ a1 a2 (fun y0 => K (.ret (.d (.bool y0)), []))

def Rc79_0 : Option ρ :=
  uC args fun x0 x1 => uRw .d x0 fun a1 => u0 x1 <| uE m <| C.c79_0 ρ a1 (fun y0 => K (.ret (.d (.bool y0)), []))

def Rc80_0 : Option ρ :=
  uC args fun x0 x1 => uS (S:=sig) .d Key.str x0 fun (a1 : List ByteArray) => u0 x1 <| uE m <| C.c80_0 ρ a1 (fun y0 => K (.ret (.own Key.str y0), []))

def Rc81_0 : Option ρ :=
  uC args fun x0 x1 => uP 0 0 x0 <| u0 x1 <| uM m fun x3 x2 => uC x3 fun x4 x5 => uStr x4 fun a1 => uC x5 fun x6 x7 => uStr x6 fun a2 => uC x7 fun x8 x9 => uMp 1 x8 <| uC x9 fun x10 x11 => uI .i64 x10 fun a3 => u0 x11 <| uM x2 fun x13 x12 => uC x13 fun x14 x15 => uMb x14 fun a4 => u0 x15 <| uE x12 <| C.c81_0 ρ a1 a2 a3 a4 (fun y0 y1 y2 y3 y4 => K (.ret (.d (.str y0)), [some [.d (.str y1), .d (.str y2), .mp 1, .d (.int .i64 y3)], some [.mpo (.b y4)]]))

def Rc82_0 : Option ρ :=
  uC args fun x0 x1 => uI .u8 x0 fun a1 => u0 x1 <| uE m <| C.c82_0 ρ a1 (fun y0 => K (.ret (.d (.bool y0)), []))

def Rc83_0 : Option ρ :=
  uC args fun x0 x1 => uStr x0 fun a1 => uC x1 fun x2 x3 => uI .i64 x2 fun a2 => u0 x3 <| uE m <| C.c83_0 ρ a1 a2 (fun y0 => K (.ret (.d (.int .i64 y0)), []))

def Rc84_0 : Option ρ :=
  uC args fun x0 x1 => uS (S:=sig) .d Key.str x0 fun (a1 : List ByteArray) => uC x1 fun x2 x3 => uStr x2 fun a2 => u0 x3 <| uE m <| C.c84_0 ρ a1 a2 (fun y0 => K (.ret (.d (.bool y0)), []))

def Rc85_0 : Option ρ :=
  uC args fun x0 x1 => uRw .d x0 fun a1 => u0 x1 <| uE m <| C.c85_0 ρ a1 (fun y0 => K (.ret (.own Key.str y0), [])) (fun y0 => K (.ret (.d (.sl Key.str y0)), []))

def Rc86_0 : Option ρ :=
  uC args fun x0 x1 => uI .i64 x0 fun a1 => u0 x1 <| uE m <| C.c86_0 ρ a1 (fun y0 => K (.ret (.d (.str y0)), []))

def Rc92_0 : Option ρ :=
  uC args fun x0 x1 => uStr x0 fun a1 => uC x1 fun x2 x3 => uFn 93 x2 fun x4 x5 => u0 x4 <| u0 x5 <| u0 x3 <| uE m <| C.c92_0 ρ a1 (fun y0 => K (.ret (.d (.bool y0)), []))

def Rc92_1 : Option ρ :=
  uC args fun x0 x1 => uStr x0 fun a1 => uC x1 fun x2 x3 => uFn 107 x2 fun x4 x5 => u0 x4 <| u0 x5 <| u0 x3 <| uE m <| C.c92_1 ρ a1 (fun y0 => K (.ret (.d (.bool y0)), []))

def Rc93_0 : Option ρ :=
  uC args fun x0 x1 => uI .u8 x0 fun a1 => u0 x1 <| uE m <| C.c93_0 ρ a1 (fun y0 => K (.ret (.d (.bool y0)), []))

def Rc94_0 : Option ρ :=
  uC args fun x0 x1 => uS (S:=sig) .d Key.int x0 fun (a1 : List Int) => uC x1 fun x2 x3 => uI .i64 x2 fun a2 => u0 x3 <| uE m <| C.c94_0 ρ a1 a2 (fun y0 => K (.ret (.d (.bool y0)), []))

def Rc95_0 : Option ρ :=
  uC args fun x0 x1 => uI .i64 x0 fun a1 => u0 x1 <| uE m <| C.c95_0 ρ a1 (fun y0 => K (.ret (.d (.str y0)), []))

def Rc97_0 : Option ρ :=
  uC args fun x0 x1 => uI .u8 x0 fun a1 => u0 x1 <| uE m <| C.c97_0 ρ a1 (fun y0 => K (.ret (.d (.bool y0)), []))

def Rc102_0 : Option ρ :=
  uC args fun x0 x1 => uP 0 0 x0 <| uC x1 fun x2 x3 => uI .i64 x2 fun a1 => u0 x3 <| uM m fun x5 x4 => uC x5 fun x6 x7 => uStr x6 fun a2 => uC x7 fun x8 x9 => uI .i64 x8 fun a3 => u0 x9 <| uE x4 <| C.c102_0 ρ a1 a2 a3 (fun y0 y1 y2 => K (.ret (.d (.int .u8 y0)), [some [.d (.str y1), .d (.int .i64 y2)]]))

def Rc103_0 : Option ρ :=
  uC args fun x0 x1 => uStr x0 fun a1 => uC x1 fun x2 x3 => uI .u8 x2 fun a2 => u0 x3 <| uE m <| C.c103_0 ρ a1 a2 (fun y0 => K (.ret (.d (.int .i64 y0)), []))

def Rc104_0 : Option ρ :=
  uC args fun x0 x1 => uI .i64 x0 fun a1 => uC x1 fun x2 x3 => uStr x2 fun a2 => uC x3 fun x4 x5 => uB x4 fun a3 => u0 x5 <| uE m <| C.c104_0 ρ a1 a2 a3 (fun y0 y1 => K (.ret (.tup [.d (.int .i64 y0), .d (.str y1)]), []))

def Rc105_0 : Option ρ :=
  uC args fun x0 x1 => uP 0 0 x0 <| uC x1 fun x2 x3 => uP 1 0 x2 <| u0 x3 <| uM m fun x5 x4 => uC x5 fun x6 x7 => uStr x6 fun a1 => uC x7 fun x8 x9 => uI .i64 x8 fun a2 => u0 x9 <| uM x4 fun x11 x10 => uC x11 fun x12 x13 => uFn 104 x12 fun x14 x15 => u0 x14 <| u0 x15 <| u0 x13 <| uE x10 <| C.c105_0 ρ a1 a2 (fun y0 y1 y2 y3 => K (.ret (.tup [.d (.int .i64 y0), .d (.str y1)]), [some [.d (.str y2), .d (.int .i64 y3)], some [.fn (.func 104) [] []]]))

def Rc106_0 : Option ρ :=
  uC args fun x0 x1 => uP 0 0 x0 <| uC x1 fun x2 x3 => uI .i64 x2 fun a1 => u0 x3 <| uM m fun x5 x4 => uC x5 fun x6 x7 => uStr x6 fun a2 => uC x7 fun x8 x9 => uI .i64 x8 fun a3 => u0 x9 <| uE x4 <| C.c106_0 ρ a1 a2 a3 (fun y0 y1 y2 => K (.ret (.d (.str y0)), [some [.d (.str y1), .d (.int .i64 y2)]]))

def Rc107_0 : Option ρ :=
  uC args fun x0 x1 => uI .u8 x0 fun a1 => u0 x1 <| uE m <| C.c107_0 ρ a1 (fun y0 => K (.ret (.d (.bool y0)), []))

def Rc108_0 : Option ρ :=
  uC args fun x0 x1 => uP 0 0 x0 <| uC x1 fun x2 x3 => uP 1 0 x2 <| u0 x3 <| uM m fun x5 x4 => uC x5 fun x6 x7 => uStr x6 fun a1 => uC x7 fun x8 x9 => uI .i64 x8 fun a2 => u0 x9 <| uM x4 fun x11 x10 => uC x11 fun x12 x13 => uFn 104 x12 fun x14 x15 => u0 x14 <| u0 x15 <| u0 x13 <| uE x10 <| C.c108_0 ρ a1 a2 (fun y0 y1 y2 y3 => K (.ret (.tup [.d (.int .i64 y0), .d (.str y1)]), [some [.d (.str y2), .d (.int .i64 y3)], some [.fn (.func 104) [] []]]))

def Rc109_0 : Option ρ :=
  uC args fun x0 x1 => uI .u8 x0 fun a1 => u0 x1 <| uE m <| C.c109_0 ρ a1 (fun y0 => K (.ret (.d (.bool y0)), []))

def Rc110_0 : Option ρ :=
  uC args fun x0 x1 => uP 0 0 x0 <| uC x1 fun x2 x3 => uP 1 0 x2 <| u0 x3 <| uM m fun x5 x4 => uC x5 fun x6 x7 => uStr x6 fun a1 => uC x7 fun x8 x9 => uI .i64 x8 fun a2 => u0 x9 <| uM x4 fun x11 x10 => uC x11 fun x12 x13 => uFn 104 x12 fun x14 x15 => u0 x14 <| u0 x15 <| u0 x13 <| uE x10 <| C.c110_0 ρ a1 a2 (fun y0 y1 y2 y3 => K (.ret (.tup [.d (.int .i64 y0), .d (.str y1)]), [some [.d (.str y2), .d (.int .i64 y3)], some [.fn (.func 104) [] []]]))

def Rc111_0 : Option ρ :=
  uC args fun x0 x1 => uStr x0 fun a1 => u0 x1 <| uE m <| C.c111_0 ρ a1 (fun y0 => K (.ret (.d (.bool y0)), []))

def Rc112_0 : Option ρ :=
  uC args fun x0 x1 => uP 0 0 x0 <| uC x1 fun x2 x3 => uP 1 0 x2 <| u0 x3 <| uM m fun x5 x4 => uC x5 fun x6 x7 => uStr x6 fun a1 => uC x7 fun x8 x9 => uI .i64 x8 fun a2 => u0 x9 <| uM x4 fun x11 x10 => uC x11 fun x12 x13 => uFn 104 x12 fun x14 x15 => u0 x14 <| u0 x15 <| u0 x13 <| uE x10 <| C.c112_0 ρ a1 a2 (fun y0 y1 y2 y3 => K (.ret (.tup [.d (.int .i64 y0), .d (.str y1)]), [some [.d (.str y2), .d (.int .i64 y3)], some [.fn (.func 104) [] []]]))

def Rc113_0 : Option ρ :=
  uC args fun x0 x1 => uP 0 0 x0 <| uC x1 fun x2 x3 => uP 1 0 x2 <| u0 x3 <| uM m fun x5 x4 => uC x5 fun x6 x7 => uStr x6 fun a1 => uC x7 fun x8 x9 => uI .i64 x8 fun a2 => u0 x9 <| uM x4 fun x11 x10 => uC x11 fun x12 x13 => uFn 104 x12 fun x14 x15 => u0 x14 <| u0 x15 <| u0 x13 <| uE x10 <| C.c113_0 ρ a1 a2 (fun y0 y1 y2 y3 => K (.ret (.tup [.d (.int .i64 y0), .d (.str y1)]), [some [.d (.str y2), .d (.int .i64 y3)], some [.fn (.func 104) [] []]]))

def Rc114_0 : Option ρ :=
  uC args fun x0 x1 => uP 0 0 x0 <| u0 x1 <| uM m fun x3 x2 => uC x3 fun x4 x5 => uStr x4 fun a1 => uC x5 fun x6 x7 => uI .i64 x6 fun a2 => u0 x7 <| uE x2 <| C.c114_0 ρ a1 a2 (fun y0 y1 y2 y3 => K (.ret (.tup [.d (.int .i64 y0), .d (.str y1)]), [some [.d (.str y2), .d (.int .i64 y3)]]))

def Rc115_0 : Option ρ :=
  uC args fun x0 x1 => uP 0 0 x0 <| uC x1 fun x2 x3 => uP 1 0 x2 <| u0 x3 <| uM m fun x5 x4 => uC x5 fun x6 x7 => uStr x6 fun a1 => uC x7 fun x8 x9 => uI .i64 x8 fun a2 => u0 x9 <| uM x4 fun x11 x10 => uC x11 fun x12 x13 => uFn 104 x12 fun x14 x15 => u0 x14 <| u0 x15 <| u0 x13 <| uE x10 <| C.c115_0 ρ a1 a2 (fun y0 y1 y2 y3 => K (.ret (.tup [.d (.int .i64 y0), .d (.str y1)]), [some [.d (.str y2), .d (.int .i64 y3)], some [.fn (.func 104) [] []]]))

def Rc116_0 : Option ρ :=
  uC args fun x0 x1 => uP 0 0 x0 <| uC x1 fun x2 x3 => uP 1 0 x2 <| uC x3 fun x4 x5 => uP 2 0 x4 <| u0 x5 <| uM m fun x7 x6 => uC x7 fun x8 x9 => uStr x8 fun a1 => uC x9 fun x10 x11 => uI .i64 x10 fun a2 => u0 x11 <| uM x6 fun x13 x12 => uC x13 fun x14 x15 => uFn 104 x14 fun x16 x17 => u0 x16 <| u0 x17 <| u0 x15 <| uM x12 fun x19 x18 => uC x19 fun x20 x21 => uI .u8 x20 fun a3 => u0 x21 <| uE x18 <| C.c116_0 ρ a1 a2 a3 (fun y0 y1 y2 y3 y4 => K (.ret (.tup [.d (.int .i64 y0), .d (.str y1)]), [some [.d (.str y2), .d (.int .i64 y3)], some [.fn (.func 104) [] []], some [.d (.int .u8 y4)]]))

def Rc117_0 : Option ρ :=
  uC args fun x0 x1 => uP 0 0 x0 <| u0 x1 <| uM m fun x3 x2 => uC x3 fun x4 x5 => uS (S:=sig) .d Key.tok x4 fun (a1 : List Tok) => uC x5 fun x6 x7 => uI .i64 x6 fun a2 => u0 x7 <| uE x2 <| C.c117_0 ρ a1 a2 (fun y0 y1 y2 => K (.ret (.d (.str y0)), [some [.d (.sl Key.tok y1), .d (.int .i64 y2)]])) (fun y0 y1 y2 y3 => K (.pan (.iface 114 (.agg [.d (.int .i64 y0), .d (.int .i64 y1)])), [some [.d (.sl Key.tok y2), .d (.int .i64 y3)]]))

def Rc118_0 : Option ρ :=
  uC args fun x0 x1 => uP 0 0 x0 <| uC x1 fun x2 x3 => uStr x2 fun a1 => u0 x3 <| uM m fun x5 x4 => uC x5 fun x6 x7 => uS (S:=sig) .d Key.tok x6 fun (a2 : List Tok) => uC x7 fun x8 x9 => uI .i64 x8 fun a3 => u0 x9 <| uE x4 <| C.c118_0 ρ a1 a2 a3 (fun y0 y1 => K (.ret (.tup []), [some [.d (.sl Key.tok y0), .d (.int .i64 y1)]])) (fun y0 y1 y2 y3 => K (.pan (.iface 114 (.agg [.d (.int .i64 y0), .d (.int .i64 y1)])), [some [.d (.sl Key.tok y2), .d (.int .i64 y3)]]))

def Rc119_0 : Option ρ :=
  uC args fun x0 x1 => uP 0 0 x0 <| u0 x1 <| uM m fun x3 x2 => uC x3 fun x4 x5 => uS (S:=sig) .d Key.tok x4 fun (a1 : List Tok) => uC x5 fun x6 x7 => uI .i64 x6 fun a2 => u0 x7 <| uE x2 <| C.c119_0 ρ a1 a2 (fun y0 y1 y2 => K (.ret (.agg [.d (.int .i64 y0.op), .d (.str y0.name), .d (.sl Key.raw y0.args)]), [some [.d (.sl Key.tok y1), .d (.int .i64 y2)]])) (fun y0 y1 y2 y3 => K (.pan (.iface 114 (.agg [.d (.int .i64 y0), .d (.int .i64 y1)])), [some [.d (.sl Key.tok y2), .d (.int .i64 y3)]]))

def Rc120_0 : Option ρ :=
  uC args fun x0 x1 => uP 0 0 x0 <| u0 x1 <| uM m fun x3 x2 => uC x3 fun x4 x5 => uS (S:=sig) .d Key.tok x4 fun (a1 : List Tok) => uC x5 fun x6 x7 => uI .i64 x6 fun a2 => u0 x7 <| uE x2 <| C.c120_0 ρ a1 a2 (fun y0 y1 y2 => K (.ret (.d (.bool y0)), [some [.d (.sl Key.tok y1), .d (.int .i64 y2)]]))

def Rc126_0 : Option ρ :=
  uC args fun x0 x1 => uS (S:=sig) .d Key.str x0 fun (a1 : List ByteArray) => uC x1 fun x2 x3 => uStr x2 fun a2 => u0 x3 <| uE m <| C.c126_0 ρ a1 a2 (fun y0 => K (.ret (.d (.int .i64 y0)), []))

def Rc127_0 : Option ρ :=
  uC args fun x0 x1 => uI .u8 x0 fun a1 => u0 x1 <| uE m <| C.c127_0 ρ a1 (fun y0 => K (.ret (.d (.bool y0)), []))

def Rc128_0 : Option ρ :=
  uC args fun x0 x1 => uRw .d x0 fun a1 => uC x1 fun x2 x3 => uS (S:=sig) .full Key.str x2 fun (a2 : List ByteArray) => uC x3 fun x4 x5 => uS (S:=sig) .full Key.str x4 fun (a3 : List ByteArray) => u0 x5 <| uE m <| C.c128_0 ρ a1 a2 a3 (fun y0 => K (.ret (.own Key.str y0), [])) (fun y0 => K (.ret (.full Key.str y0), []))

def Rc128_1 : Option ρ :=
  uC args fun x0 x1 => uRw .d x0 fun a1 => uC x1 fun x2 x3 => uS (S:=sig) .d Key.str x2 fun (a2 : List ByteArray) => uC x3 fun x4 x5 => uS (S:=sig) .own Key.str x4 fun (a3 : List ByteArray) => u0 x5 <| uE m <| C.c128_1 ρ a1 a2 a3 (fun y0 => K (.ret (.own Key.str y0), []))

def Rc128_2 : Option ρ :=
  uC args fun x0 x1 => uRw .d x0 fun a1 => uC x1 fun x2 x3 => uS (S:=sig) .d Key.str x2 fun (a2 : List ByteArray) => uC x3 fun x4 x5 => uS (S:=sig) .full Key.str x4 fun (a3 : List ByteArray) => u0 x5 <| uE m <| C.c128_2 ρ a1 a2 a3 (fun y0 => K (.ret (.own Key.str y0), [])) (fun y0 => K (.ret (.full Key.str y0), []))

def Rc132_0 : Option ρ :=
  uC args fun x0 x1 => uI .u8 x0 fun a1 => u0 x1 <| uE m <| C.c132_0 ρ a1 (fun y0 => K (.ret (.d (.bool y0)), []))

def Rc133_0 : Option ρ :=
  uC args fun x0 x1 => uS (S:=sig) .d Key.int x0 fun (a1 : List Int) => uC x1 fun x2 x3 => uI .i64 x2 fun a2 => u0 x3 <| uE m <| C.c133_0 ρ a1 a2 (fun y0 => K (.ret (.d (.int .i64 y0)), []))

def Rc139_0 : Option ρ :=
  uC args fun x0 x1 => uStr x0 fun a1 => u0 x1 <| uE m <| C.c139_0 ρ a1 (fun y0 => K (.ret (.tup [.d (.int .i64 y0), .nilif]), [])) (fun y0 => K (.ret (.tup [.d (.int .i64 y0), .iface 171 (.any)]), []))

def Rc140_0 : Option ρ :=
  uC args fun x0 x1 => uTok  x0 fun a1 => u0 x1 <| uE m <| C.c140_0 ρ a1 (fun y0 => K (.ret (.d (.bool y0)), []))

def Rc141_0 : Option ρ :=
  uC args fun x0 x1 => uP 0 0 x0 <| u0 x1 <| uM m fun x3 x2 => uC x3 fun x4 x5 => uS (S:=sig) .d Key.tok x4 fun (a1 : List Tok) => uC x5 fun x6 x7 => uI .i64 x6 fun a2 => u0 x7 <| uE x2 <| C.c141_0 ρ a1 a2 (fun y0 y1 y2 => K (.ret (.agg [.d (.int .i64 y0.kind), .d (.str y0.text), .d (.int .i64 (y0.at_))]), [some [.d (.sl Key.tok y1), .d (.int .i64 y2)]]))

end
section
variable (C : Tab) (ρ : Type) (vs : List (PV sig)) (m : Mem sig) (ds : List (FuncId × List (PV sig))) (nt : Nat) (K : Ex sig → St sig → Option ρ)

def Rl5_10_0 : Option ρ :=
  uN nt 118 <| uC vs fun x0 x1 => uStr x0 fun a1 => uC x1 fun x2 x3 => uStr x2 fun a2 => uC x3 fun x4 x5 => uP 0 0 x4 <| uC x5 fun x6 x7 => uP 1 0 x6 <| uC x7 fun x8 x9 => uS (S:=sig) .d Key.str x8 fun (a3 : List ByteArray) => uC x9 fun x10 x11 => uS (S:=sig) .d Key.str x10 fun (a4 : List ByteArray) => uC x11 fun x12 x13 => uS (S:=sig) .own Key.str x12 fun (a5 : List ByteArray) => uC x13 fun x14 x15 => uS (S:=sig) .d Key.str x14 fun (a6 : List ByteArray) => uC x15 fun x16 x17 => uI .i64 x16 fun a7 => uC x17 fun x18 x19 => uI .i64 x18 fun a8 => u0 x19 <| uM m fun x21 x20 => uRwL .d x21 fun a9 => uM x20 fun x23 x22 => uRwL .d x23 fun a10 => uE x22 <| uDe ds <| C.l5_10_0 ρ a1 a2 a3 a4 a5 a6 a7 a8 a9 a10 (fun y0 y1 y2 y3 y4 y5 y6 => K (.exit 0) (canon [1, 2, 3, 7, 9, 11, 13] [.d (.str y0), .d (.str y1), .ptr 0 0, .ptr 1 0, .d (.sl Key.str y2), .d (.sl Key.str y3), .own Key.str y4] [some [.d (.int .i64 y5.op), .d (.str y5.name), .d (.sl Key.raw y5.args)], some [.d (.int .i64 y6.op), .d (.str y6.name), .d (.sl Key.raw y6.args)]] [] 118))

def Rl10_4_0 : Option ρ :=
  uN nt 46 <| uC vs fun x0 x1 => uP 0 0 x0 <| uC x1 fun x2 x3 => uP 1 0 x2 <| uC x3 fun x4 x5 => uI .i64 x4 fun a1 => u0 x5 <| uM m fun x7 x6 => uRwL .d x7 fun a2 => uM x6 fun x9 x8 => uRwL .d x9 fun a3 => uE x8 <| uDe ds <| C.l10_4_0 ρ a1 a2 a3 (fun y0 => K .ret (canon [4] [.d (.bool y0)] [] [] 46)) (K (.exit 0) (canon [] [] [] [] 46))

def Rl17_2_0 : Option ρ :=
  uN nt 17 <| uC vs fun x0 x1 => uStr x0 fun a1 => uC x1 fun x2 x3 => uS (S:=sig) .d Key.str x2 fun (a2 : List ByteArray) => uC x3 fun x4 x5 => uI .i64 x4 fun a3 => uC x5 fun x6 x7 => uI .i64 x6 fun a4 => u0 x7 <| uE m <| uDe ds <| C.l17_2_0 ρ a1 a2 a3 a4 (fun y0 => K .ret (canon [4] [.d (.bool y0)] [] [] 17)) (K (.exit 0) (canon [] [] [] [] 17))

def Rl18_4_0 : Option ρ :=
  uN nt 26 <| uC vs fun x0 x1 => uS (S:=sig) .d Key.str x0 fun (a1 : List ByteArray) => uC x1 fun x2 x3 => uS (S:=sig) .d Key.str x2 fun (a2 : List ByteArray) => uC x3 fun x4 x5 => uI .i64 x4 fun a3 => uC x5 fun x6 x7 => uI .i64 x6 fun a4 => u0 x7 <| uE m <| uDe ds <| C.l18_4_0 ρ a1 a2 a3 a4 (fun y0 => K .ret (canon [4] [.d (.bool y0)] [] [] 26)) (K (.exit 0) (canon [] [] [] [] 26))

def Rl19_4_0 : Option ρ :=
  uN nt 34 <| uC vs fun x0 x1 => uStr x0 fun a1 => uC x1 fun x2 x3 => uP 0 0 x2 <| uC x3 fun x4 x5 => uI .i64 x4 fun a2 => uC x5 fun x6 x7 => uI .i64 x6 fun a3 => u0 x7 <| uM m fun x9 x8 => uRwL .d x9 fun a4 => uE x8 <| uDe ds <| C.l19_4_0 ρ a1 a2 a3 a4 (fun y0 => K .ret (canon [4] [.d (.bool y0)] [] [] 34)) (K (.exit 0) (canon [] [] [] [] 34))

def Rl28_6_0 : Option ρ :=
  uN nt 69 <| uC vs fun x0 x1 => uStr x0 fun a1 => uC x1 fun x2 x3 => uP 0 0 x2 <| uC x3 fun x4 x5 => uS (S:=sig) .own Key.tok x4 fun (a2 : List Tok) => u0 x5 <| uM m fun x7 x6 => uC x7 fun x8 x9 => uStr x8 fun a3 => uC x9 fun x10 x11 => uI .i64 x10 fun a4 => u0 x11 <| uE x6 <| uDe ds <| C.l28_6_0 ρ a1 a2 a3 a4 (fun y0 y1 => K (.exit 0) (canon [0, 6] [.d (.str y0), .own Key.tok y1] [] [] 69)) (fun y0 y1 y2 => K .ret (canon [2, 3, 4] [.full Key.tok y0, .d (.int .i64 y1), .d (.int .i64 y2)] [] [] 69))

def Rl30_4_0 : Option ρ :=
  uN nt 63 <| uC vs fun x0 x1 => uP 0 0 x0 <| uC x1 fun x2 x3 => uP 1 0 x2 <| uC x3 fun x4 x5 => uP 3 0 x4 <| uC x5 fun x6 x7 => uB x6 fun a1 => u0 x7 <| uM m fun x9 x8 => uC x9 fun x10 x11 => uS (S:=sig) .d Key.tok x10 fun (a2 : List Tok) => uC x11 fun x12 x13 => uI .i64 x12 fun a3 => u0 x13 <| uM x8 fun x15 x14 => uRwL .full x15 fun a4 => uMn x14 fun x16 => uM x16 fun x18 x17 => uRwL .d x18 fun a5 => uE x17 <| uDe ds <| C.l30_4_0 ρ a1 a2 a3 a4 a5 (fun y0 y1 y2 y3 => K (.exit 1) (canon [2, 3] [.ptr 1 0, .ptr 3 0] [some [.d (.sl Key.tok y0), .d (.int .i64 y1)], some [.d (.int .i64 y2.op), .d (.str y2.name), .full Key.raw y2.args], none, some [.d (.int .i64 y3.op), .d (.str y3.name), .d (.sl Key.raw y3.args)]] [] 63)) (fun y0 y1 y2 y3 y4 => K (.pan (.iface 114 (.agg [.d (.int .i64 y3), .d (.int .i64 y4)]))) (canon [2] [.ptr 1 0] [some [.d (.sl Key.tok y0), .d (.int .i64 y1)], some [.d (.int .i64 y2.op), .d (.str y2.name), .full Key.raw y2.args]] [] 63))

def Rl39_3_0 : Option ρ :=
  uN nt 20 <| uC vs fun x0 x1 => uMp 0 x0 <| uC x1 fun x2 x3 => uS (S:=sig) .d Key.raw x2 fun (a1 : List Rw) => uC x3 fun x4 x5 => uI .i64 x4 fun a2 => uC x5 fun x6 x7 => uI .i64 x6 fun a3 => u0 x7 <| uM m fun x9 x8 => uC x9 fun x10 x11 => uMb x10 fun a4 => u0 x11 <| uE x8 <| uDe ds <| C.l39_3_0 ρ a1 a2 a3 a4 (fun y0 => K (.exit 0) (canon [] [] [some [.mpo (.b y0)]] [] 20))

def Rl40_23_0 : Option ρ :=
  uN nt 145 <| uC vs fun x0 x1 => uP 0 0 x0 <| uC x1 fun x2 x3 => uS (S:=sig) .d Key.str x2 fun (a1 : List ByteArray) => uC x3 fun x4 x5 => uNilmp x4 <| uC x5 fun x6 x7 => uP 3 0 x6 <| uC x7 fun x8 x9 => uP 4 0 x8 <| uC x9 fun x10 x11 => uS (S:=sig) .d Key.raw x10 fun (a2 : List Rw) => uC x11 fun x12 x13 => uI .i64 x12 fun a3 => uC x13 fun x14 x15 => uI .i64 x14 fun a4 => u0 x15 <| uM m fun x17 x16 => uC x17 fun x18 x19 => uStr x18 fun a5 => uC x19 fun x20 x21 => uStr x20 fun a6 => uC x21 fun x22 x23 => uMp 1 x22 <| uC x23 fun x24 x25 => uI .i64 x24 fun a7 => u0 x25 <| uM x16 fun x27 x26 => uC x27 fun x28 x29 => uMb x28 fun a8 => u0 x29 <| uM x26 fun x31 x30 => uRwL .d x31 fun a9 => uM x30 fun x33 x32 => uRwL .full x33 fun a10 => uM x32 fun x35 x34 => uRwL .own x35 fun a11 => uE x34 <| uDe ds <| C.l40_23_0 ρ a1 a2 a3 a4 a5 a6 a7 a8 a9 a10 a11 (fun y0 y1 y2 y3 y4 y5 y6 => K (.exit 4) (canon [8, 9] [.ptr 3 0, .ptr 4 0] [some [.d (.str y0), .d (.str y1), .mp 1, .d (.int .i64 y2)], some [.mpo (.b y3)], some [.d (.int .i64 y4.op), .d (.str y4.name), .d (.sl Key.raw y4.args)], some [.d (.int .i64 y5.op), .d (.str y5.name), .full Key.raw y5.args], some [.d (.int .i64 y6.op), .d (.str y6.name), .own Key.raw y6.args]] [] 145))

def Rl40_23_1 : Option ρ :=
  uN nt 145 <| uC vs fun x0 x1 => uP 0 0 x0 <| uC x1 fun x2 x3 => uS (S:=sig) .d Key.str x2 fun (a1 : List ByteArray) => uC x3 fun x4 x5 => uMp 1 x4 <| uC x5 fun x6 x7 => uP 4 0 x6 <| uC x7 fun x8 x9 => uP 5 0 x8 <| uC x9 fun x10 x11 => uS (S:=sig) .d Key.raw x10 fun (a2 : List Rw) => uC x11 fun x12 x13 => uI .i64 x12 fun a3 => uC x13 fun x14 x15 => uI .i64 x14 fun a4 => u0 x15 <| uM m fun x17 x16 => uC x17 fun x18 x19 => uStr x18 fun a5 => uC x19 fun x20 x21 => uStr x20 fun a6 => uC x21 fun x22 x23 => uMp 2 x22 <| uC x23 fun x24 x25 => uI .i64 x24 fun a7 => u0 x25 <| uM x16 fun x27 x26 => uC x27 fun x28 x29 => uMs x28 fun a8 => u0 x29 <| uM x26 fun x31 x30 => uC x31 fun x32 x33 => uMb x32 fun a9 => u0 x33 <| uM x30 fun x35 x34 => uRwL .d x35 fun a10 => uM x34 fun x37 x36 => uRwL .full x37 fun a11 => uM x36 fun x39 x38 => uRwL .own x39 fun a12 => uE x38 <| uDe ds <| C.l40_23_1 ρ a1 a2 a3 a4 a5 a6 a7 a8 a9 a10 a11 a12 (fun y0 y1 y2 y3 y4 y5 y6 y7 => K (.exit 4) (canon [8, 9] [.ptr 4 0, .ptr 5 0] [some [.d (.str y0), .d (.str y1), .mp 2, .d (.int .i64 y2)], some [.mpo (.s y3)], some [.mpo (.b y4)], some [.d (.int .i64 y5.op), .d (.str y5.name), .d (.sl Key.raw y5.args)], some [.d (.int .i64 y6.op), .d (.str y6.name), .full Key.raw y6.args], some [.d (.int .i64 y7.op), .d (.str y7.name), .own Key.raw y7.args]] [] 145))

def Rl41_3_0 : Option ρ :=
  uN nt 27 <| uC vs fun x0 x1 => uP 1 0 x0 <| uC x1 fun x2 x3 => uP 2 0 x2 <| uC x3 fun x4 x5 => uS (S:=sig) .d Key.raw x4 fun (a1 : List Rw) => uC x5 fun x6 x7 => uI .i64 x6 fun a2 => uC x7 fun x8 x9 => uI .i64 x8 fun a3 => u0 x9 <| uM m fun x11 x10 => uRwL .d x11 fun a4 => uM x10 fun x13 x12 => uRwL .full x13 fun a5 => uM x12 fun x15 x14 => uRwL .own x15 fun a6 => uE x14 <| uDe ds <| C.l41_3_0 ρ a1 a2 a3 a4 a5 a6 (fun y0 y1 y2 => K (.exit 0) (canon [2, 3] [.ptr 1 0, .ptr 2 0] [some [.d (.int .i64 y0.op), .d (.str y0.name), .d (.sl Key.raw y0.args)], some [.d (.int .i64 y1.op), .d (.str y1.name), .full Key.raw y1.args], some [.d (.int .i64 y2.op), .d (.str y2.name), .own Key.raw y2.args]] [] 27))

def Rl42_3_0 : Option ρ :=
  uN nt 34 <| uC vs fun x0 x1 => uI .i64 x0 fun a1 => uC x1 fun x2 x3 => uP 0 0 x2 <| uC x3 fun x4 x5 => uI .i64 x4 fun a2 => uC x5 fun x6 x7 => uI .i64 x6 fun a3 => u0 x7 <| uM m fun x9 x8 => uRwL .d x9 fun a4 => uE x8 <| uDe ds <| C.l42_3_0 ρ a1 a2 a3 a4 (fun y0 y1 => K (.exit 0) (canon [1, 5] [.d (.int .i64 y0), .d (.int .i64 y1)] [] [] 34))

def Rl43_18_0 : Option ρ :=
  uN nt 62 <| uC vs fun x0 x1 => uI .i64 x0 fun a1 => uC x1 fun x2 x3 => uP 0 0 x2 <| uC x3 fun x4 x5 => uI .i64 x4 fun a2 => u0 x5 <| uM m fun x7 x6 => uRwL .d x7 fun a3 => uE x6 <| uDe ds <| C.l43_18_0 ρ a1 a2 a3 (fun y0 => K .ret (canon [4] [.d (.bool y0)] [] [] 62)) (K (.exit 1) (canon [] [] [] [] 62))

def Rl45_4_0 : Option ρ :=
  uN nt 36 <| uC vs fun x0 x1 => uS (S:=sig) .own Key.str x0 fun (a1 : List ByteArray) => uC x1 fun x2 x3 => uP 0 0 x2 <| uC x3 fun x4 x5 => uI .i64 x4 fun a2 => u0 x5 <| uM m fun x7 x6 => uRwL .d x7 fun a3 => uE x6 <| uDe ds <| C.l45_4_0 ρ a1 a2 a3 (fun y0 => K (.exit 0) (canon [1] [.own Key.str y0] [] [] 36))

def Rl46_9_0 : Option ρ :=
  uN nt 119 <| uC vs fun x0 x1 => uStr x0 fun a1 => uC x1 fun x2 x3 => uStr x2 fun a2 => uC x3 fun x4 x5 => uS (S:=sig) .d Key.str x4 fun (a3 : List ByteArray) => uC x5 fun x6 x7 => uP 0 0 x6 <| uC x7 fun x8 x9 => uP 1 0 x8 <| uC x9 fun x10 x11 => uP 2 0 x10 <| uC x11 fun x12 x13 => uB x12 fun a4 => uC x13 fun x14 x15 => uP 3 0 x14 <| uC x15 fun x16 x17 => uB x16 fun a5 => uC x17 fun x18 x19 => uI .i64 x18 fun a6 => u0 x19 <| uM m fun x21 x20 => uRwL .d x21 fun a7 => uM x20 fun x23 x22 => uRwL .full x23 fun a8 => uM x22 fun x25 x24 => uRwL .full x25 fun a9 => uM x24 fun x27 x26 => uRwL .d x27 fun a10 => uE x26 <| uDe ds <| C.l46_9_0 ρ a1 a2 a3 a4 a5 a6 a7 a8 a9 a10 (fun y0 y1 y2 y3 y4 y5 y6 y7 y8 y9 => K (.exit 0) (canon [1, 2, 3, 4, 8, 10, 11, 12, 13, 14] [.d (.str y0), .d (.str y1), .d (.sl Key.str y2), .ptr 0 0, .ptr 1 0, .ptr 2 0, .d (.bool y3), .ptr 3 0, .d (.bool y4), .d (.int .i64 y5)] [some [.d (.int .i64 y6.op), .d (.str y6.name), .d (.sl Key.raw y6.args)], some [.d (.int .i64 y7.op), .d (.str y7.name), .full Key.raw y7.args], some [.d (.int .i64 y8.op), .d (.str y8.name), .full Key.raw y8.args], some [.d (.int .i64 y9.op), .d (.str y9.name), .d (.sl Key.raw y9.args)]] [] 119))

def Rl48_8_0 : Option ρ :=
  uN nt 65 <| uC vs fun x0 x1 => uS (S:=sig) .d Key.str x0 fun (a1 : List ByteArray) => uC x1 fun x2 x3 => uS (S:=sig) .own Key.str x2 fun (a2 : List ByteArray) => uC x3 fun x4 x5 => uS (S:=sig) .d Key.raw x4 fun (a3 : List Rw) => uC x5 fun x6 x7 => uI .i64 x6 fun a4 => uC x7 fun x8 x9 => uI .i64 x8 fun a5 => u0 x9 <| uE m <| uDe ds <| C.l48_8_0 ρ a1 a2 a3 a4 a5 (fun y0 => K (.exit 1) (canon [2] [.own Key.str y0] [] [] 65))

def Rl49_4_0 : Option ρ :=
  uN nt 32 <| uC vs fun x0 x1 => uS (S:=sig) .d Key.raw x0 fun (a1 : List Rw) => uC x1 fun x2 x3 => uFn 20 x2 fun x4 x5 => u0 x4 <| u0 x5 <| uC x3 fun x6 x7 => uS (S:=sig) .d Key.raw x6 fun (a2 : List Rw) => uC x7 fun x8 x9 => uI .i64 x8 fun a3 => uC x9 fun x10 x11 => uI .i64 x10 fun a4 => u0 x11 <| uE m <| uDe ds <| C.l49_4_0 ρ a1 a2 a3 a4 (fun y0 => K .ret (canon [6] [.d (.bool y0)] [] [] 32)) (K (.exit 0) (canon [] [] [] [] 32))

def Rl65_0_0 : Option ρ :=
  uN nt 102 <| uC vs fun x0 x1 => uP 0 0 x0 <| u0 x1 <| uM m fun x3 x2 => uC x3 fun x4 x5 => uStr x4 fun a1 => uC x5 fun x6 x7 => uI .i64 x6 fun a2 => u0 x7 <| uE x2 <| uDe ds <| C.l65_0_0 ρ a1 a2 (fun y0 y1 => K (.exit 0) (canon [] [] [some [.d (.str y0), .d (.int .i64 y1)]] [] 102))

def Rl69_2_0 : Option ρ :=
  uN nt 23 <| uC vs fun x0 x1 => uP 0 0 x0 <| uC x1 fun x2 x3 => uP 1 0 x2 <| uC x3 fun x4 x5 => uP 2 0 x4 <| u0 x5 <| uM m fun x7 x6 => uC x7 fun x8 x9 => uS (S:=sig) .d Key.tok x8 fun (a1 : List Tok) => uC x9 fun x10 x11 => uI .i64 x10 fun a2 => u0 x11 <| uM x6 fun x13 x12 => uRwL .full x13 fun a3 => uM x12 fun x15 x14 => uRwL .d x15 fun a4 => uE x14 <| uDe ds <| C.l69_2_0 ρ a1 a2 a3 a4 (fun y0 y1 y2 y3 => K (.exit 0) (canon [0, 2, 4] [.ptr 0 0, .ptr 1 0, .ptr 2 0] [some [.d (.sl Key.tok y0), .d (.int .i64 y1)], some [.d (.int .i64 y2.op), .d (.str y2.name), .full Key.raw y2.args], some [.d (.int .i64 y3.op), .d (.str y3.name), .d (.sl Key.raw y3.args)]] [] 23)) (fun y0 y1 y2 y3 y4 => K (.pan (.iface 114 (.agg [.d (.int .i64 y3), .d (.int .i64 y4)]))) (canon [2, 3] [.ptr 1 0, .any] [some [.d (.sl Key.tok y0), .d (.int .i64 y1)], some [.d (.int .i64 y2.op), .d (.str y2.name), .d (.sl Key.raw y2.args)]] [] 23))

def Rl70_20_0 : Option ρ :=
  uN nt 72 <| uC vs fun x0 x1 => uI .i64 x0 fun a1 => uC x1 fun x2 x3 => uP 0 0 x2 <| uC x3 fun x4 x5 => uS (S:=sig) .d Key.raw x4 fun (a2 : List Rw) => uC x5 fun x6 x7 => uI .i64 x6 fun a3 => uC x7 fun x8 x9 => uI .i64 x8 fun a4 => u0 x9 <| uM m fun x11 x10 => uC x11 fun x12 x13 => uI .i64 x12 fun a5 => u0 x13 <| uE x10 <| uDe ds <| C.l70_20_0 ρ a1 a2 a3 a4 a5 (fun y0 y1 => K .ret (canon [6] [.d (.bool y0)] [some [.d (.int .i64 y1)]] [] 72)) (fun y0 => K (.exit 1) (canon [] [] [some [.d (.int .i64 y0)]] [] 72))

def Rl81_1_0 : Option ρ :=
  uN nt 30 <| uC vs fun x0 x1 => uP 0 0 x0 <| u0 x1 <| uM m fun x3 x2 => uC x3 fun x4 x5 => uStr x4 fun a1 => uC x5 fun x6 x7 => uStr x6 fun a2 => uC x7 fun x8 x9 => uMp 1 x8 <| uC x9 fun x10 x11 => uI .i64 x10 fun a3 => u0 x11 <| uM x2 fun x13 x12 => uC x13 fun x14 x15 => uMb x14 fun a4 => u0 x15 <| uE x12 <| uDe ds <| C.l81_1_0 ρ a1 a2 a3 a4 (fun y0 y1 y2 y3 y4 => K .ret (canon [2] [.d (.str y0)] [some [.d (.str y1), .d (.str y2), .mp 1, .d (.int .i64 y3)], some [.mpo (.b y4)]] [] 30))

def Rl83_1_0 : Option ρ :=
  uN nt 18 <| uC vs fun x0 x1 => uStr x0 fun a1 => uC x1 fun x2 x3 => uI .i64 x2 fun a2 => u0 x3 <| uE m <| uDe ds <| C.l83_1_0 ρ a1 a2 (fun y0 => K (.exit 0) (canon [1] [.d (.int .i64 y0)] [] [] 18))

def Rl84_2_0 : Option ρ :=
  uN nt 17 <| uC vs fun x0 x1 => uStr x0 fun a1 => uC x1 fun x2 x3 => uS (S:=sig) .d Key.str x2 fun (a2 : List ByteArray) => uC x3 fun x4 x5 => uI .i64 x4 fun a3 => uC x5 fun x6 x7 => uI .i64 x6 fun a4 => u0 x7 <| uE m <| uDe ds <| C.l84_2_0 ρ a1 a2 a3 a4 (fun y0 => K .ret (canon [4] [.d (.bool y0)] [] [] 17)) (K (.exit 0) (canon [] [] [] [] 17))

def Rl86_2_0 : Option ρ :=
  uN nt 23 <| uC vs fun x0 x1 => uI .i64 x0 fun a1 => uC x1 fun x2 x3 => uStr x2 fun a2 => u0 x3 <| uE m <| uDe ds <| C.l86_2_0 ρ a1 a2 (fun y0 => K (.exit 0) (canon [3] [.d (.str y0)] [] [] 23))

def Rl92_4_0 : Option ρ :=
  uN nt 32 <| uC vs fun x0 x1 => uStr x0 fun a1 => uC x1 fun x2 x3 => uI .i64 x2 fun a2 => uC x3 fun x4 x5 => uI .i64 x4 fun a3 => u0 x5 <| uE m <| uDe ds <| C.l92_4_0 ρ a1 a2 a3 (K (.exit 0) (canon [] [] [] [] 32)) (fun y0 => K .ret (canon [4] [.d (.bool y0)] [] [] 32))

def Rl106_2_0 : Option ρ :=
  uN nt 42 <| uC vs fun x0 x1 => uP 0 0 x0 <| uC x1 fun x2 x3 => uI .i64 x2 fun a1 => uC x3 fun x4 x5 => uI .i64 x4 fun a2 => u0 x5 <| uM m fun x7 x6 => uC x7 fun x8 x9 => uStr x8 fun a3 => uC x9 fun x10 x11 => uI .i64 x10 fun a4 => u0 x11 <| uE x6 <| uDe ds <| C.l106_2_0 ρ a1 a2 a3 a4 (fun y0 y1 y2 y3 => K (.exit 0) (canon [0, 1, 5] [.ptr 0 0, .d (.int .i64 y0), .d (.int .i64 y1)] [some [.d (.str y2), .d (.int .i64 y3)]] [] 42))

def Rl126_2_0 : Option ρ :=
  uN nt 19 <| uC vs fun x0 x1 => uS (S:=sig) .d Key.str x0 fun (a1 : List ByteArray) => uC x1 fun x2 x3 => uStr x2 fun a2 => uC x3 fun x4 x5 => uI .i64 x4 fun a3 => uC x5 fun x6 x7 => uI .i64 x6 fun a4 => u0 x7 <| uE m <| uDe ds <| C.l126_2_0 ρ a1 a2 a3 a4 (fun y0 => K .ret (canon [4] [.d (.int .i64 y0)] [] [] 19)) (K (.exit 0) (canon [] [] [] [] 19))

def Rl128_14_0 : Option ρ :=
  uN nt 72 <| uC vs fun x0 x1 => uS (S:=sig) .d Key.str x0 fun (a1 : List ByteArray) => uC x1 fun x2 x3 => uS (S:=sig) .own Key.str x2 fun (a2 : List ByteArray) => uC x3 fun x4 x5 => uP 0 0 x4 <| uC x5 fun x6 x7 => uI .i64 x6 fun a3 => u0 x7 <| uM m fun x9 x8 => uRwL .d x9 fun a4 => uE x8 <| uDe ds <| C.l128_14_0 ρ a1 a2 a3 a4 (fun y0 => K (.exit 1) (canon [2] [.own Key.str y0] [] [] 72))

def Rl133_2_0 : Option ρ :=
  uN nt 19 <| uC vs fun x0 x1 => uS (S:=sig) .d Key.int x0 fun (a1 : List Int) => uC x1 fun x2 x3 => uI .i64 x2 fun a2 => uC x3 fun x4 x5 => uI .i64 x4 fun a3 => uC x5 fun x6 x7 => uI .i64 x6 fun a4 => u0 x7 <| uE m <| uDe ds <| C.l133_2_0 ρ a1 a2 a3 a4 (fun y0 => K .ret (canon [4] [.d (.int .i64 y0)] [] [] 19)) (K (.exit 0) (canon [] [] [] [] 19))

end

def modeId : PV sig → Nat
  | .d (.sl _ _) => 1
  | .full _ _ => 2
  | .own _ _ => 3
  | .nilmp => 4
  | .mp _ => 5
  | _ => 0

def fnId : PV sig → Nat
  | .fn (.func g) _ _ => g
  | _ => 0

section
variable (C : Tab) (ρ : Type) (args : List (PV sig)) (m : Mem sig) (K : Res sig × Mem sig → Option ρ)

def T4 : Option ρ := Rc4_0 C ρ args m K

def T5 : Option ρ := Rc5_0 C ρ args m K

def T8 : Option ρ := Rc8_0 C ρ args m K

def T10 : Option ρ := Rc10_0 C ρ args m K

def T11 : Option ρ := Rc11_0 C ρ args m K

def T12 : Option ρ := Rc12_0 C ρ args m K

def T13 : Option ρ := Rc13_0 C ρ args m K

def T14 : Option ρ := Rc14_0 C ρ args m K

def T15 : Option ρ := Rc15_0 C ρ args m K

def T16 : Option ρ := Rc16_0 C ρ args m K

def T17 : Option ρ := Rc17_0 C ρ args m K

def T18 : Option ρ := Rc18_0 C ρ args m K

def T19 : Option ρ := Rc19_0 C ρ args m K

def T20 : Option ρ := Rc20_0 C ρ args m K

def T28 : Option ρ := Rc28_0 C ρ args m K

def T30 : Option ρ := Rc30_0 C ρ args m K

def T31 : Option ρ := Rc31_0 C ρ args m K

def T32 : Option ρ := Rc32_0 C ρ args m K

def T33 : Option ρ := Rc33_0 C ρ args m K

def T37 : Option ρ := Rc37_0 C ρ args m K

def T38 : Option ρ := Rc38_0 C ρ args m K

def T39 : Option ρ := Rc39_0 C ρ args m K

def T40 : Option ρ := bif Nat.beq (modeId (args.getD 3 .any)) 4 then Rc40_0 C ρ args m K else bif Nat.beq (modeId (args.getD 3 .any)) 5 then Rc40_1 C ρ args m K else none

def T41 : Option ρ := Rc41_0 C ρ args m K

def T42 : Option ρ := Rc42_0 C ρ args m K

def T43 : Option ρ := Rc43_0 C ρ args m K

def T44 : Option ρ := Rc44_0 C ρ args m K

def T45 : Option ρ := bif Nat.beq (modeId (args.getD 1 .any)) 2 then Rc45_0 C ρ args m K else bif Nat.beq (modeId (args.getD 1 .any)) 3 then Rc45_1 C ρ args m K else none

def T46 : Option ρ := Rc46_0 C ρ args m K

def T47 : Option ρ := Rc47_0 C ρ args m K

def T48 : Option ρ := bif Nat.beq (modeId (args.getD 1 .any)) 2 && Nat.beq (modeId (args.getD 2 .any)) 2 then Rc48_0 C ρ args m K else bif Nat.beq (modeId (args.getD 1 .any)) 1 && Nat.beq (modeId (args.getD 2 .any)) 3 then Rc48_1 C ρ args m K else bif Nat.beq (modeId (args.getD 1 .any)) 3 && Nat.beq (modeId (args.getD 2 .any)) 3 then Rc48_2 C ρ args m K else bif Nat.beq (modeId (args.getD 1 .any)) 1 && Nat.beq (modeId (args.getD 2 .any)) 2 then Rc48_3 C ρ args m K else none

def T49 : Option ρ := Rc49_0 C ρ args m K

def T54 : Option ρ := Rc54_0 C ρ args m K

def T57 : Option ρ := Rc57_0 C ρ args m K

def T65 : Option ρ := Rc65_0 C ρ args m K

def T66 : Option ρ := Rc66_0 C ρ args m K

def T67 : Option ρ := Rc67_0 C ρ args m K

def T68 : Option ρ := Rc68_0 C ρ args m K

def T69 : Option ρ := Rc69_0 C ρ args m K

def T70 : Option ρ := Rc70_0 C ρ args m K

def T77 : Option ρ := Rc77_0 C ρ args m K

def T78 : Option ρ := Rc78_0 C ρ args m K

def T79 : Option ρ := Rc79_0 C ρ args m K

def T80 : Option ρ := Rc80_0 C ρ args m K

def T81 : Option ρ := Rc81_0 C ρ args m K

def T82 : Option ρ := Rc82_0 C ρ args m K

def T83 : Option ρ := Rc83_0 C ρ args m K

def T84 : Option ρ := Rc84_0 C ρ args m K

def T85 : Option ρ := Rc85_0 C ρ args m K

def T86 : Option ρ := Rc86_0 C ρ args m K

def T92 : Option ρ := bif Nat.beq (fnId (args.getD 1 .any)) 93 then Rc92_0 C ρ args m K else bif Nat.beq (fnId (args.getD 1 .any)) 107 then Rc92_1 C ρ args m K else none

def T93 : Option ρ := Rc93_0 C ρ args m K

def T94 : Option ρ := Rc94_0 C ρ args m K

def T95 : Option ρ := Rc95_0 C ρ args m K

def T97 : Option ρ := Rc97_0 C ρ args m K

def T102 : Option ρ := Rc102_0 C ρ args m K

def T103 : Option ρ := Rc103_0 C ρ args m K

def T104 : Option ρ := Rc104_0 C ρ args m K

def T105 : Option ρ := Rc105_0 C ρ args m K

def T106 : Option ρ := Rc106_0 C ρ args m K

def T107 : Option ρ := Rc107_0 C ρ args m K

def T108 : Option ρ := Rc108_0 C ρ args m K

def T109 : Option ρ := Rc109_0 C ρ args m K

def T110 : Option ρ := Rc110_0 C ρ args m K

def T111 : Option ρ := Rc111_0 C ρ args m K

def T112 : Option ρ := Rc112_0 C ρ args m K

def T113 : Option ρ := Rc113_0 C ρ args m K

def T114 : Option ρ := Rc114_0 C ρ args m K

def T115 : Option ρ := Rc115_0 C ρ args m K

def T116 : Option ρ := Rc116_0 C ρ args m K

def T117 : Option ρ := Rc117_0 C ρ args m K

def T118 : Option ρ := Rc118_0 C ρ args m K

def T119 : Option ρ := Rc119_0 C ρ args m K

def T120 : Option ρ := Rc120_0 C ρ args m K

def T126 : Option ρ := Rc126_0 C ρ args m K

def T127 : Option ρ := Rc127_0 C ρ args m K

def T128 : Option ρ := bif Nat.beq (modeId (args.getD 1 .any)) 2 && Nat.beq (modeId (args.getD 2 .any)) 2 then Rc128_0 C ρ args m K else bif Nat.beq (modeId (args.getD 1 .any)) 1 && Nat.beq (modeId (args.getD 2 .any)) 3 then Rc128_1 C ρ args m K else bif Nat.beq (modeId (args.getD 1 .any)) 1 && Nat.beq (modeId (args.getD 2 .any)) 2 then Rc128_2 C ρ args m K else none

def T132 : Option ρ := Rc132_0 C ρ args m K

def T133 : Option ρ := Rc133_0 C ρ args m K

def T139 : Option ρ := Rc139_0 C ρ args m K

def T140 : Option ρ := Rc140_0 C ρ args m K

def T141 : Option ρ := Rc141_0 C ρ args m K

end

/-- The table of functions. -/
def T (C : Tab) : CallT sig := fun ρ f args m K =>
  bif Nat.beq f 4 then T4 C ρ args m K else
  bif Nat.beq f 5 then T5 C ρ args m K else
  bif Nat.beq f 8 then T8 C ρ args m K else
  bif Nat.beq f 10 then T10 C ρ args m K else
  bif Nat.beq f 11 then T11 C ρ args m K else
  bif Nat.beq f 12 then T12 C ρ args m K else
  bif Nat.beq f 13 then T13 C ρ args m K else
  bif Nat.beq f 14 then T14 C ρ args m K else
  bif Nat.beq f 15 then T15 C ρ args m K else
  bif Nat.beq f 16 then T16 C ρ args m K else
  bif Nat.beq f 17 then T17 C ρ args m K else
  bif Nat.beq f 18 then T18 C ρ args m K else
  bif Nat.beq f 19 then T19 C ρ args m K else
  bif Nat.beq f 20 then T20 C ρ args m K else
  bif Nat.beq f 28 then T28 C ρ args m K else
  bif Nat.beq f 30 then T30 C ρ args m K else
  bif Nat.beq f 31 then T31 C ρ args m K else
  bif Nat.beq f 32 then T32 C ρ args m K else
  bif Nat.beq f 33 then T33 C ρ args m K else
  bif Nat.beq f 37 then T37 C ρ args m K else
  bif Nat.beq f 38 then T38 C ρ args m K else
  bif Nat.beq f 39 then T39 C ρ args m K else
  bif Nat.beq f 40 then T40 C ρ args m K else
  bif Nat.beq f 41 then T41 C ρ args m K else
  bif Nat.beq f 42 then T42 C ρ args m K else
  bif Nat.beq f 43 then T43 C ρ args m K else
  bif Nat.beq f 44 then T44 C ρ args m K else
  bif Nat.beq f 45 then T45 C ρ args m K else
  bif Nat.beq f 46 then T46 C ρ args m K else
  bif Nat.beq f 47 then T47 C ρ args m K else
  bif Nat.beq f 48 then T48 C ρ args m K else
  bif Nat.beq f 49 then T49 C ρ args m K else
  bif Nat.beq f 54 then T54 C ρ args m K else
  bif Nat.beq f 57 then T57 C ρ args m K else
  bif Nat.beq f 65 then T65 C ρ args m K else
  bif Nat.beq f 66 then T66 C ρ args m K else
  bif Nat.beq f 67 then T67 C ρ args m K else
  bif Nat.beq f 68 then T68 C ρ args m K else
  bif Nat.beq f 69 then T69 C ρ args m K else
  bif Nat.beq f 70 then T70 C ρ args m K else
  bif Nat.beq f 77 then T77 C ρ args m K else
  bif Nat.beq f 78 then T78 C ρ args m K else
  bif Nat.beq f 79 then T79 C ρ args m K else
  bif Nat.beq f 80 then T80 C ρ args m K else
  bif Nat.beq f 81 then T81 C ρ args m K else
  bif Nat.beq f 82 then T82 C ρ args m K else
  bif Nat.beq f 83 then T83 C ρ args m K else
  bif Nat.beq f 84 then T84 C ρ args m K else
  bif Nat.beq f 85 then T85 C ρ args m K else
  bif Nat.beq f 86 then T86 C ρ args m K else
  bif Nat.beq f 92 then T92 C ρ args m K else
  bif Nat.beq f 93 then T93 C ρ args m K else
  bif Nat.beq f 94 then T94 C ρ args m K else
  bif Nat.beq f 95 then T95 C ρ args m K else
  bif Nat.beq f 97 then T97 C ρ args m K else
  bif Nat.beq f 102 then T102 C ρ args m K else
  bif Nat.beq f 103 then T103 C ρ args m K else
  bif Nat.beq f 104 then T104 C ρ args m K else
  bif Nat.beq f 105 then T105 C ρ args m K else
  bif Nat.beq f 106 then T106 C ρ args m K else
  bif Nat.beq f 107 then T107 C ρ args m K else
  bif Nat.beq f 108 then T108 C ρ args m K else
  bif Nat.beq f 109 then T109 C ρ args m K else
  bif Nat.beq f 110 then T110 C ρ args m K else
  bif Nat.beq f 111 then T111 C ρ args m K else
  bif Nat.beq f 112 then T112 C ρ args m K else
  bif Nat.beq f 113 then T113 C ρ args m K else
  bif Nat.beq f 114 then T114 C ρ args m K else
  bif Nat.beq f 115 then T115 C ρ args m K else
  bif Nat.beq f 116 then T116 C ρ args m K else
  bif Nat.beq f 117 then T117 C ρ args m K else
  bif Nat.beq f 118 then T118 C ρ args m K else
  bif Nat.beq f 119 then T119 C ρ args m K else
  bif Nat.beq f 120 then T120 C ρ args m K else
  bif Nat.beq f 126 then T126 C ρ args m K else
  bif Nat.beq f 127 then T127 C ρ args m K else
  bif Nat.beq f 128 then T128 C ρ args m K else
  bif Nat.beq f 132 then T132 C ρ args m K else
  bif Nat.beq f 133 then T133 C ρ args m K else
  bif Nat.beq f 139 then T139 C ρ args m K else
  bif Nat.beq f 140 then T140 C ρ args m K else
  bif Nat.beq f 141 then T141 C ρ args m K else none

/-- The table of loops. -/
def LT (C : Tab) : LoopT sig := fun ρ f np key st K =>
  bif Nat.beq f 5 && (Nat.beq np 0 && Nat.beq key 10) then Rl5_10_0 C ρ (seenV (PK 5 0 10 0) st) (seenM 0 (PK 5 0 10 0) st) st.dfs st.nt K else
  bif Nat.beq f 10 && (Nat.beq np 0 && Nat.beq key 4) then Rl10_4_0 C ρ (seenV (PK 10 0 4 0) st) (seenM 0 (PK 10 0 4 0) st) st.dfs st.nt K else
  bif Nat.beq f 17 && (Nat.beq np 0 && Nat.beq key 2) then Rl17_2_0 C ρ (seenV (PK 17 0 2 0) st) (seenM 0 (PK 17 0 2 0) st) st.dfs st.nt K else
  bif Nat.beq f 18 && (Nat.beq np 0 && Nat.beq key 4) then Rl18_4_0 C ρ (seenV (PK 18 0 4 0) st) (seenM 0 (PK 18 0 4 0) st) st.dfs st.nt K else
  bif Nat.beq f 19 && (Nat.beq np 0 && Nat.beq key 4) then Rl19_4_0 C ρ (seenV (PK 19 0 4 0) st) (seenM 0 (PK 19 0 4 0) st) st.dfs st.nt K else
  bif Nat.beq f 28 && (Nat.beq np 0 && Nat.beq key 6) then Rl28_6_0 C ρ (seenV (PK 28 0 6 0) st) (seenM 0 (PK 28 0 6 0) st) st.dfs st.nt K else
  bif Nat.beq f 30 && (Nat.beq np 1 && Nat.beq key 4) then Rl30_4_0 C ρ (seenV (PK 30 1 4 0) st) (seenM 1 (PK 30 1 4 0) st) st.dfs st.nt K else
  bif Nat.beq f 39 && (Nat.beq np 1 && Nat.beq key 3) then Rl39_3_0 C ρ (seenV (PK 39 1 3 0) st) (seenM 1 (PK 39 1 3 0) st) st.dfs st.nt K else
  bif Nat.beq f 40 && (Nat.beq np 2 && Nat.beq key 23) then Rl40_23_0 C ρ (seenV (PK 40 2 23 0) st) (seenM 2 (PK 40 2 23 0) st) st.dfs st.nt K else
  bif Nat.beq f 40 && (Nat.beq np 3 && Nat.beq key 23) then Rl40_23_1 C ρ (seenV (PK 40 3 23 0) st) (seenM 3 (PK 40 3 23 0) st) st.dfs st.nt K else
  bif Nat.beq f 41 && (Nat.beq np 0 && Nat.beq key 3) then Rl41_3_0 C ρ (seenV (PK 41 0 3 0) st) (seenM 0 (PK 41 0 3 0) st) st.dfs st.nt K else
  bif Nat.beq f 42 && (Nat.beq np 0 && Nat.beq key 3) then Rl42_3_0 C ρ (seenV (PK 42 0 3 0) st) (seenM 0 (PK 42 0 3 0) st) st.dfs st.nt K else
  bif Nat.beq f 43 && (Nat.beq np 0 && Nat.beq key 18) then Rl43_18_0 C ρ (seenV (PK 43 0 18 0) st) (seenM 0 (PK 43 0 18 0) st) st.dfs st.nt K else
  bif Nat.beq f 45 && (Nat.beq np 0 && Nat.beq key 4) then Rl45_4_0 C ρ (seenV (PK 45 0 4 0) st) (seenM 0 (PK 45 0 4 0) st) st.dfs st.nt K else
  bif Nat.beq f 46 && (Nat.beq np 0 && Nat.beq key 9) then Rl46_9_0 C ρ (seenV (PK 46 0 9 0) st) (seenM 0 (PK 46 0 9 0) st) st.dfs st.nt K else
  bif Nat.beq f 48 && (Nat.beq np 0 && Nat.beq key 8) then Rl48_8_0 C ρ (seenV (PK 48 0 8 0) st) (seenM 0 (PK 48 0 8 0) st) st.dfs st.nt K else
  bif Nat.beq f 49 && (Nat.beq np 0 && Nat.beq key 4) then Rl49_4_0 C ρ (seenV (PK 49 0 4 0) st) (seenM 0 (PK 49 0 4 0) st) st.dfs st.nt K else
  bif Nat.beq f 65 && (Nat.beq np 1 && Nat.beq key 0) then Rl65_0_0 C ρ (seenV (PK 65 1 0 0) st) (seenM 1 (PK 65 1 0 0) st) st.dfs st.nt K else
  bif Nat.beq f 69 && (Nat.beq np 1 && Nat.beq key 2) then Rl69_2_0 C ρ (seenV (PK 69 1 2 0) st) (seenM 1 (PK 69 1 2 0) st) st.dfs st.nt K else
  bif Nat.beq f 70 && (Nat.beq np 1 && Nat.beq key 20) then Rl70_20_0 C ρ (seenV (PK 70 1 20 0) st) (seenM 1 (PK 70 1 20 0) st) st.dfs st.nt K else
  bif Nat.beq f 81 && (Nat.beq np 2 && Nat.beq key 1) then Rl81_1_0 C ρ (seenV (PK 81 2 1 0) st) (seenM 2 (PK 81 2 1 0) st) st.dfs st.nt K else
  bif Nat.beq f 83 && (Nat.beq np 0 && Nat.beq key 1) then Rl83_1_0 C ρ (seenV (PK 83 0 1 0) st) (seenM 0 (PK 83 0 1 0) st) st.dfs st.nt K else
  bif Nat.beq f 84 && (Nat.beq np 0 && Nat.beq key 2) then Rl84_2_0 C ρ (seenV (PK 84 0 2 0) st) (seenM 0 (PK 84 0 2 0) st) st.dfs st.nt K else
  bif Nat.beq f 86 && (Nat.beq np 0 && Nat.beq key 2) then Rl86_2_0 C ρ (seenV (PK 86 0 2 0) st) (seenM 0 (PK 86 0 2 0) st) st.dfs st.nt K else
  bif Nat.beq f 92 && (Nat.beq np 0 && Nat.beq key 4) then Rl92_4_0 C ρ (seenV (PK 92 0 4 0) st) (seenM 0 (PK 92 0 4 0) st) st.dfs st.nt K else
  bif Nat.beq f 106 && (Nat.beq np 1 && Nat.beq key 2) then Rl106_2_0 C ρ (seenV (PK 106 1 2 0) st) (seenM 1 (PK 106 1 2 0) st) st.dfs st.nt K else
  bif Nat.beq f 126 && (Nat.beq np 0 && Nat.beq key 2) then Rl126_2_0 C ρ (seenV (PK 126 0 2 0) st) (seenM 0 (PK 126 0 2 0) st) st.dfs st.nt K else
  bif Nat.beq f 128 && (Nat.beq np 0 && Nat.beq key 14) then Rl128_14_0 C ρ (seenV (PK 128 0 14 0) st) (seenM 0 (PK 128 0 14 0) st) st.dfs st.nt K else
  bif Nat.beq f 133 && (Nat.beq np 0 && Nat.beq key 2) then Rl133_2_0 C ρ (seenV (PK 133 0 2 0) st) (seenM 0 (PK 133 0 2 0) st) st.dfs st.nt K else none

end Go.Proofs.YtanfoijdfcnpoaaGreatDoor.Ev
