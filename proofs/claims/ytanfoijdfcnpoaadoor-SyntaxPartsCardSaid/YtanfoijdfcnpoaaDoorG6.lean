/- This file proves that the evaluator does with each function and loop what the typed functions say; without any condition. -/
import Derived.Test.YtanfoijdfcnpoaaDoorGR
set_option linter.unusedVariables false
set_option linter.unusedSimpArgs false
namespace Go.Proofs.YtanfoijdfcnpoaaDoor.Ev

theorem gc10_0 (C : Tab) (ρ : Type) (K : Res sig × Mem sig → Option ρ) (a1 : Rw) : evF Tryd.prog lay (T C) (LT C) hints dfT 10 [.agg [.d (.int .i64 a1.op), .d (.str a1.name), .d (.sl Key.raw a1.args)]] [] K =
    Gc10_0 C ρ a1 (fun (y0 : ByteArray) (y1 : Int) => K (.ret (.tup [.d (.str y0), .d (.int .i64 y1)]), [])) := by kernel_rfl

theorem gc14_0 (C : Tab) (ρ : Type) (K : Res sig × Mem sig → Option ρ) (a1 : ByteArray) : evF Tryd.prog lay (T C) (LT C) hints dfT 14 [.d (.str a1)] [] K =
    Gc14_0 C ρ a1 (fun (y0 : Rw) (y1 : Int) (y2 : Int) => K (.ret (.tup [.agg [.d (.int .i64 y0.op), .d (.str y0.name), .d (.sl Key.raw y0.args)], .d (.int .i64 y1), .d (.int .i64 y2)]), [])) := by kernel_rfl

theorem gc23_0 (C : Tab) (ρ : Type) (K : Res sig × Mem sig → Option ρ) (a1 : Rw) (a2 : List Int) : evF Tryd.prog lay (T C) (LT C) hints dfT 23 [.agg [.d (.int .i64 a1.op), .d (.str a1.name), .d (.sl Key.raw a1.args)], .d (.sl Key.int a2)] [] K =
    Gc23_0 C ρ a1 a2 (fun (y0 : ByteArray) => K (.ret (.d (.str y0)), [])) := by kernel_rfl

theorem gc27_0 (C : Tab) (ρ : Type) (K : Res sig × Mem sig → Option ρ) (a1 : Rw) : evF Tryd.prog lay (T C) (LT C) hints dfT 27 [.agg [.d (.int .i64 a1.op), .d (.str a1.name), .d (.sl Key.raw a1.args)]] [] K =
    Gc27_0 C ρ a1 (fun (y0 : Bool) => K (.ret (.d (.bool y0)), [])) := by kernel_rfl

theorem gc32_0 (C : Tab) (ρ : Type) (K : Res sig × Mem sig → Option ρ) (a1 : List Tok) (a2 : Int) : evF Tryd.prog lay (T C) (LT C) hints dfT 32 [.ptr 0 0] [some [.d (.sl Key.tok a1), .d (.int .i64 a2)]] K =
    Gc32_0 C ρ a1 a2 (fun (y0 : Int) (y1 : Int) (y2 : List Tok) (y3 : Int) => K (.pan (.iface 90 (.agg [.d (.int .i64 y0), .d (.int .i64 y1)])), [some [.d (.sl Key.tok y2), .d (.int .i64 y3)]])) := by kernel_rfl

theorem gc40_0 (C : Tab) (ρ : Type) (K : Res sig × Mem sig → Option ρ) (a1 : ByteArray) : evF Tryd.prog lay (T C) (LT C) hints dfT 40 [.d (.str a1)] [] K =
    Gc40_0 C ρ a1 (fun (y0 : Bool) => K (.ret (.d (.bool y0)), [])) := by kernel_rfl

theorem gc44_0 (C : Tab) (ρ : Type) (K : Res sig × Mem sig → Option ρ) (a1 : Int) : evF Tryd.prog lay (T C) (LT C) hints dfT 44 [.d (.int .u8 a1)] [] K =
    Gc44_0 C ρ a1 (fun (y0 : Int) => K (.ret (.fn (.func 64) [] [.ptr 1 0]), [some [.d (.int .u8 y0)], some [.fn (.func 62) [] []]])) (fun (y0 : Int) => K (.ret (.fn (.func 67) [] [.ptr 1 0]), [some [.d (.int .u8 y0)], some [.fn (.func 62) [] []]])) (fun (y0 : Int) => K (.ret (.fn (.func 69) [] [.ptr 1 0]), [some [.d (.int .u8 y0)], some [.fn (.func 62) [] []]])) (fun (y0 : Int) => K (.ret (.fn (.func 71) [] [.ptr 1 0]), [some [.d (.int .u8 y0)], some [.fn (.func 62) [] []]])) (fun (y0 : Int) => K (.ret (.fn (.func 72) [] [.ptr 1 0]), [some [.d (.int .u8 y0)], some [.fn (.func 62) [] []]])) (K (.ret (.fn (.func 73) [] []), [])) (fun (y0 : Int) => K (.ret (.fn (.func 74) [] [.ptr 1 0]), [some [.d (.int .u8 y0)], some [.fn (.func 62) [] []]])) (fun (y0 : Int) => K (.ret (.fn (.func 75) [] [.ptr 1 0, .ptr 0 0]), [some [.d (.int .u8 y0)], some [.fn (.func 62) [] []]])) := by kernel_rfl

theorem gc48_0 (C : Tab) (ρ : Type) (K : Res sig × Mem sig → Option ρ) (a1 : List ByteArray) (a2 : ByteArray) : evF Tryd.prog lay (T C) (LT C) hints dfT 48 [.d (.sl Key.str a1), .d (.str a2)] [] K =
    Gc48_0 C ρ a1 a2 (fun (y0 : Bool) => K (.ret (.d (.bool y0)), [])) := by kernel_rfl

theorem gc56_0 (C : Tab) (ρ : Type) (K : Res sig × Mem sig → Option ρ) (a1 : Pt) (a2 : Int) (a3 : Int) : evF Tryd.prog lay (T C) (LT C) hints dfT 56 [.agg [.d (.int .i64 a1.op), .d (.str a1.sign), .d (.str a1.name), .d (.int .i64 a1.num), .d (.int .i64 a1.raw.op), .d (.str a1.raw.name), .d (.sl Key.raw a1.raw.args), .d (.sl Key.part a1.parts)], .d (.int .i64 a2), .ptr 0 0] [some [.d (.int .i64 a3)]] K =
    Gc56_0 C ρ a1 a2 a3 (fun (y0 : Bool) (y1 : Int) => K (.ret (.d (.bool y0)), [some [.d (.int .i64 y1)]])) := by kernel_rfl

theorem gc60_0 (C : Tab) (ρ : Type) (K : Res sig × Mem sig → Option ρ) (a1 : Int) (a2 : ByteArray) (a3 : Int) : evF Tryd.prog lay (T C) (LT C) hints dfT 60 [.ptr 0 0, .d (.int .i64 a1)] [some [.d (.str a2), .d (.int .i64 a3)]] K =
    Gc60_0 C ρ a1 a2 a3 (fun (y0 : Int) (y1 : ByteArray) (y2 : Int) => K (.ret (.d (.int .u8 y0)), [some [.d (.str y1), .d (.int .i64 y2)]])) := by kernel_rfl

theorem gc65_0 (C : Tab) (ρ : Type) (K : Res sig × Mem sig → Option ρ) (a1 : Int) (a2 : ByteArray) (a3 : Int) : evF Tryd.prog lay (T C) (LT C) hints dfT 65 [.ptr 0 0, .d (.int .i64 a1)] [some [.d (.str a2), .d (.int .i64 a3)]] K =
    Gc65_0 C ρ a1 a2 a3 (fun (y0 : ByteArray) (y1 : ByteArray) (y2 : Int) => K (.ret (.d (.str y0)), [some [.d (.str y1), .d (.int .i64 y2)]])) := by kernel_rfl

theorem gc69_0 (C : Tab) (ρ : Type) (K : Res sig × Mem sig → Option ρ) (a1 : ByteArray) (a2 : Int) : evF Tryd.prog lay (T C) (LT C) hints dfT 69 [.ptr 0 0, .ptr 1 0] [some [.d (.str a1), .d (.int .i64 a2)], some [.fn (.func 62) [] []]] K =
    Gc69_0 C ρ a1 a2 (fun (y0 : Int) (y1 : ByteArray) (y2 : ByteArray) (y3 : Int) => K (.ret (.tup [.d (.int .i64 y0), .d (.str y1)]), [some [.d (.str y2), .d (.int .i64 y3)], some [.fn (.func 62) [] []]])) := by kernel_rfl

theorem gc73_0 (C : Tab) (ρ : Type) (K : Res sig × Mem sig → Option ρ) (a1 : ByteArray) (a2 : Int) : evF Tryd.prog lay (T C) (LT C) hints dfT 73 [.ptr 0 0] [some [.d (.str a1), .d (.int .i64 a2)]] K =
    Gc73_0 C ρ a1 a2 (fun (y0 : Int) (y1 : ByteArray) (y2 : ByteArray) (y3 : Int) => K (.ret (.tup [.d (.int .i64 y0), .d (.str y1)]), [some [.d (.str y2), .d (.int .i64 y3)]])) := by kernel_rfl

theorem gc77_0 (C : Tab) (ρ : Type) (K : Res sig × Mem sig → Option ρ) (a1 : ByteArray) (a2 : List Tok) (a3 : Int) : evF Tryd.prog lay (T C) (LT C) hints dfT 77 [.ptr 0 0, .d (.str a1)] [some [.d (.sl Key.tok a2), .d (.int .i64 a3)]] K =
    Gc77_0 C ρ a1 a2 a3 (fun (y0 : List Tok) (y1 : Int) => K (.ret (.tup []), [some [.d (.sl Key.tok y0), .d (.int .i64 y1)]])) (fun (y0 : Int) (y1 : Int) (y2 : List Tok) (y3 : Int) => K (.pan (.iface 90 (.agg [.d (.int .i64 y0), .d (.int .i64 y1)])), [some [.d (.sl Key.tok y2), .d (.int .i64 y3)]])) := by kernel_rfl

theorem gc81_0 (C : Tab) (ρ : Type) (K : Res sig × Mem sig → Option ρ) (a1 : ByteArray) (a2 : List Tok) (a3 : Int) : evF Tryd.prog lay (T C) (LT C) hints dfT 81 [.ptr 0 0, .d (.str a1)] [some [.d (.sl Key.tok a2), .d (.int .i64 a3)]] K =
    Gc81_0 C ρ a1 a2 a3 (fun (y0 : List Pt) (y1 : List Tok) (y2 : Int) => K (.ret (.d (.sl Key.part y0)), [some [.d (.sl Key.tok y1), .d (.int .i64 y2)]])) (fun (y0 : Int) (y1 : Int) (y2 : List Tok) (y3 : Int) => K (.pan (.iface 90 (.agg [.d (.int .i64 y0), .d (.int .i64 y1)])), [some [.d (.sl Key.tok y2), .d (.int .i64 y3)]])) := by kernel_rfl

theorem gc84_0 (C : Tab) (ρ : Type) (K : Res sig × Mem sig → Option ρ) (a1 : ByteArray) (a2 : Int) : evF Tryd.prog lay (T C) (LT C) hints dfT 84 [.d (.str a1), .d (.int .i64 a2)] [] K =
    Gc84_0 C ρ a1 a2 (fun (y0 : Int) => K (.ret (.d (.int .i64 y0)), [])) := by kernel_rfl

theorem gc91_0 (C : Tab) (ρ : Type) (K : Res sig × Mem sig → Option ρ) (a1 : List Tok) (a2 : Int) : evF Tryd.prog lay (T C) (LT C) hints dfT 91 [.ptr 0 0] [some [.d (.sl Key.tok a1), .d (.int .i64 a2)]] K =
    Gc91_0 C ρ a1 a2 (fun (y0 : Pt) (y1 : List Tok) (y2 : Int) => K (.ret (.agg [.d (.int .i64 y0.op), .d (.str y0.sign), .d (.str y0.name), .d (.int .i64 y0.num), .d (.int .i64 y0.raw.op), .d (.str y0.raw.name), .d (.sl Key.raw y0.raw.args), .d (.sl Key.part y0.parts)]), [some [.d (.sl Key.tok y1), .d (.int .i64 y2)]])) (fun (y0 : Int) (y1 : Int) (y2 : List Tok) (y3 : Int) => K (.pan (.iface 90 (.agg [.d (.int .i64 y0), .d (.int .i64 y1)])), [some [.d (.sl Key.tok y2), .d (.int .i64 y3)]])) := by kernel_rfl

theorem gl7_9_0 (C : Tab) (ρ : Type) (K : Ex sig → St sig → Option ρ) (a1 : List It) (a2 : List It) (a3 : List It) (a4 : Int) (a5 : Int) : evK Tryd.prog lay (T C) (LT C) hints 7 0 (bodyOf Tryd.prog 7 9) (canon [5, 8, 11, 73, 74] [.d (.sl Key.item a1), .d (.sl Key.item a2), .d (.sl Key.item a3), .d (.int .i64 a4), .d (.int .i64 a5)] [] [] 102) (loopNext (LT C) PK 7 0 9 K) =
    Gl7_9_0 C ρ a1 a2 a3 a4 a5 (K (.exit 0) (canon [] [] [] [] 102)) (fun (y0 : Bool) => K .ret (canon [4] [.d (.bool y0)] [] [] 102)) := by kernel_rfl

theorem gl22_20_0 (C : Tab) (ρ : Type) (K : Ex sig → St sig → Option ρ) (a1 : Int) (a2 : List Rw) (a3 : Int) (a4 : Int) (a5 : Int) : evK Tryd.prog lay (T C) (LT C) hints 22 1 (bodyOf Tryd.prog 22 20) (canon [1, 2, 59, 60, 61] [.d (.int .i64 a1), .ptr 0 0, .d (.sl Key.raw a2), .d (.int .i64 a3), .d (.int .i64 a4)] [some [.d (.int .i64 a5)]] [] 72) (loopNext (LT C) PK 22 1 20 K) =
    Gl22_20_0 C ρ a1 a2 a3 a4 a5 (fun (y0 : Bool) (y1 : Int) => K .ret (canon [6] [.d (.bool y0)] [some [.d (.int .i64 y1)]] [] 72)) (fun (y0 : Int) => K (.exit 1) (canon [] [] [some [.d (.int .i64 y0)]] [] 72)) := by kernel_rfl

theorem gl30_4_0 (C : Tab) (ρ : Type) (K : Ex sig → St sig → Option ρ) (a1 : Bool) (a2 : List Tok) (a3 : Int) (a4 : Rw) (a5 : Rw) : evK Tryd.prog lay (T C) (LT C) hints 30 1 (bodyOf Tryd.prog 30 4) (canon [0, 2, 3, 4] [.ptr 0 0, .ptr 1 0, .ptr 2 0, .d (.bool a1)] [some [.d (.sl Key.tok a2), .d (.int .i64 a3)], some [.d (.int .i64 a4.op), .d (.str a4.name), .full Key.raw a4.args], some [.d (.int .i64 a5.op), .d (.str a5.name), .d (.sl Key.raw a5.args)]] [] 63) (loopNext (LT C) PK 30 1 4 K) =
    Gl30_4_0 C ρ a1 a2 a3 a4 a5 (fun (y0 : List Tok) (y1 : Int) (y2 : Rw) (y3 : Rw) => K (.exit 1) (canon [2, 3] [.ptr 1 0, .ptr 2 0] [some [.d (.sl Key.tok y0), .d (.int .i64 y1)], some [.d (.int .i64 y2.op), .d (.str y2.name), .full Key.raw y2.args], some [.d (.int .i64 y3.op), .d (.str y3.name), .d (.sl Key.raw y3.args)]] [] 63)) (fun (y0 : List Tok) (y1 : Int) (y2 : Rw) (y3 : Int) (y4 : Int) => K (.pan (.iface 90 (.agg [.d (.int .i64 y3), .d (.int .i64 y4)]))) (canon [2] [.ptr 1 0] [some [.d (.sl Key.tok y0), .d (.int .i64 y1)], some [.d (.int .i64 y2.op), .d (.str y2.name), .full Key.raw y2.args]] [] 63)) := by kernel_rfl

theorem gl47_2_0 (C : Tab) (ρ : Type) (K : Ex sig → St sig → Option ρ) (a1 : List Tok) (a2 : Int) (a3 : Rw) (a4 : Rw) : evK Tryd.prog lay (T C) (LT C) hints 47 1 (bodyOf Tryd.prog 47 2) (canon [0, 2, 4] [.ptr 0 0, .ptr 1 0, .ptr 2 0] [some [.d (.sl Key.tok a1), .d (.int .i64 a2)], some [.d (.int .i64 a3.op), .d (.str a3.name), .full Key.raw a3.args], some [.d (.int .i64 a4.op), .d (.str a4.name), .d (.sl Key.raw a4.args)]] [] 23) (loopNext (LT C) PK 47 1 2 K) =
    Gl47_2_0 C ρ a1 a2 a3 a4 (fun (y0 : List Tok) (y1 : Int) (y2 : Rw) (y3 : Rw) => K (.exit 0) (canon [0, 2, 4] [.ptr 0 0, .ptr 1 0, .ptr 2 0] [some [.d (.sl Key.tok y0), .d (.int .i64 y1)], some [.d (.int .i64 y2.op), .d (.str y2.name), .full Key.raw y2.args], some [.d (.int .i64 y3.op), .d (.str y3.name), .d (.sl Key.raw y3.args)]] [] 23)) (fun (y0 : List Tok) (y1 : Int) (y2 : Rw) (y3 : Int) (y4 : Int) => K (.pan (.iface 90 (.agg [.d (.int .i64 y3), .d (.int .i64 y4)]))) (canon [2, 3] [.ptr 1 0, .any] [some [.d (.sl Key.tok y0), .d (.int .i64 y1)], some [.d (.int .i64 y2.op), .d (.str y2.name), .d (.sl Key.raw y2.args)]] [] 23)) := by kernel_rfl

theorem gl80_2_0 (C : Tab) (ρ : Type) (K : Ex sig → St sig → Option ρ) (a1 : List ByteArray) (a2 : ByteArray) (a3 : Int) (a4 : Int) : evK Tryd.prog lay (T C) (LT C) hints 80 0 (bodyOf Tryd.prog 80 2) (canon [0, 1, 7, 8] [.d (.sl Key.str a1), .d (.str a2), .d (.int .i64 a3), .d (.int .i64 a4)] [] [] 19) (loopNext (LT C) PK 80 0 2 K) =
    Gl80_2_0 C ρ a1 a2 a3 a4 (fun (y0 : Int) => K .ret (canon [4] [.d (.int .i64 y0)] [] [] 19)) (K (.exit 0) (canon [] [] [] [] 19)) := by kernel_rfl

end Go.Proofs.YtanfoijdfcnpoaaDoor.Ev
