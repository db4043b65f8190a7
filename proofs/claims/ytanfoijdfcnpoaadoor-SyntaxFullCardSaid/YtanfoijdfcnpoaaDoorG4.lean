/- This file proves that the evaluator does with each function and loop what the typed functions say; without any condition. -/
import Derived.Test.YtanfoijdfcnpoaaDoorGR
set_option linter.unusedVariables false
set_option linter.unusedSimpArgs false
namespace Go.Proofs.YtanfoijdfcnpoaaDoor.Ev

theorem gc8_0 (C : Tab) (ρ : Type) (K : Res sig × Mem sig → Option ρ) (a1 : Int) : evF Tryd.prog lay (T C) (LT C) hints dfT 8 [.d (.int .i64 a1)] [] K =
    Gc8_0 C ρ a1 (fun (y0 : Bool) => K (.ret (.d (.bool y0)), [])) := by kernel_rfl

theorem gc12_0 (C : Tab) (ρ : Type) (K : Res sig × Mem sig → Option ρ) : evF Tryd.prog lay (T C) (LT C) hints dfT 12 [] [] K =
    Gc12_0 C ρ (fun (y0 : Bool) => K (.ret (.d (.bool y0)), [])) := by kernel_rfl

theorem gc22_0 (C : Tab) (ρ : Type) (K : Res sig × Mem sig → Option ρ) (a1 : Rw) (a2 : Int) (a3 : Int) : evF Tryd.prog lay (T C) (LT C) hints dfT 22 [.agg [.d (.int .i64 a1.op), .d (.str a1.name), .d (.sl Key.raw a1.args)], .d (.int .i64 a2), .ptr 0 0] [some [.d (.int .i64 a3)]] K =
    Gc22_0 C ρ a1 a2 a3 (fun (y0 : Bool) (y1 : Int) => K (.ret (.d (.bool y0)), [some [.d (.int .i64 y1)]])) := by kernel_rfl

theorem gc26_0 (C : Tab) (ρ : Type) (K : Res sig × Mem sig → Option ρ) (a1 : ByteArray) (a2 : Bool) : evF Tryd.prog lay (T C) (LT C) hints dfT 26 [.d (.str a1), .d (.bool a2)] [] K =
    Gc26_0 C ρ a1 a2 (fun (y0 : ByteArray) => K (.ret (.d (.str y0)), [])) := by kernel_rfl

theorem gc31_0 (C : Tab) (ρ : Type) (K : Res sig × Mem sig → Option ρ) (a1 : List Tok) (a2 : Int) : evF Tryd.prog lay (T C) (LT C) hints dfT 31 [.ptr 0 0] [some [.d (.sl Key.tok a1), .d (.int .i64 a2)]] K =
    Gc31_0 C ρ a1 a2 (fun (y0 : Tok) (y1 : List Tok) (y2 : Int) => K (.ret (.agg [.d (.int .i64 y0.kind), .d (.str y0.text), .d (.int .i64 (y0.at_))]), [some [.d (.sl Key.tok y1), .d (.int .i64 y2)]])) := by kernel_rfl

theorem gc40_0 (C : Tab) (ρ : Type) (K : Res sig × Mem sig → Option ρ) (a1 : ByteArray) : evF Tryd.prog lay (T C) (LT C) hints dfT 40 [.d (.str a1)] [] K =
    Gc40_0 C ρ a1 (fun (y0 : Bool) => K (.ret (.d (.bool y0)), [])) := by kernel_rfl

theorem gc44_0 (C : Tab) (ρ : Type) (K : Res sig × Mem sig → Option ρ) (a1 : Int) : evF Tryd.prog lay (T C) (LT C) hints dfT 44 [.d (.int .u8 a1)] [] K =
    Gc44_0 C ρ a1 (fun (y0 : Int) => K (.ret (.fn (.func 64) [] [.ptr 1 0]), [some [.d (.int .u8 y0)], some [.fn (.func 62) [] []]])) (fun (y0 : Int) => K (.ret (.fn (.func 67) [] [.ptr 1 0]), [some [.d (.int .u8 y0)], some [.fn (.func 62) [] []]])) (fun (y0 : Int) => K (.ret (.fn (.func 69) [] [.ptr 1 0]), [some [.d (.int .u8 y0)], some [.fn (.func 62) [] []]])) (fun (y0 : Int) => K (.ret (.fn (.func 71) [] [.ptr 1 0]), [some [.d (.int .u8 y0)], some [.fn (.func 62) [] []]])) (fun (y0 : Int) => K (.ret (.fn (.func 72) [] [.ptr 1 0]), [some [.d (.int .u8 y0)], some [.fn (.func 62) [] []]])) (K (.ret (.fn (.func 73) [] []), [])) (fun (y0 : Int) => K (.ret (.fn (.func 74) [] [.ptr 1 0]), [some [.d (.int .u8 y0)], some [.fn (.func 62) [] []]])) (fun (y0 : Int) => K (.ret (.fn (.func 75) [] [.ptr 1 0, .ptr 0 0]), [some [.d (.int .u8 y0)], some [.fn (.func 62) [] []]])) := by kernel_rfl

theorem gc48_0 (C : Tab) (ρ : Type) (K : Res sig × Mem sig → Option ρ) (a1 : List ByteArray) (a2 : ByteArray) : evF Tryd.prog lay (T C) (LT C) hints dfT 48 [.d (.sl Key.str a1), .d (.str a2)] [] K =
    Gc48_0 C ρ a1 a2 (fun (y0 : Bool) => K (.ret (.d (.bool y0)), [])) := by kernel_rfl

theorem gc56_0 (C : Tab) (ρ : Type) (K : Res sig × Mem sig → Option ρ) (a1 : Pt) (a2 : Int) (a3 : Int) : evF Tryd.prog lay (T C) (LT C) hints dfT 56 [.agg [.d (.int .i64 a1.op), .d (.str a1.sign), .d (.str a1.name), .d (.int .i64 a1.num), .d (.int .i64 a1.raw.op), .d (.str a1.raw.name), .d (.sl Key.raw a1.raw.args), .d (.sl Key.part a1.parts)], .d (.int .i64 a2), .ptr 0 0] [some [.d (.int .i64 a3)]] K =
    Gc56_0 C ρ a1 a2 a3 (fun (y0 : Bool) (y1 : Int) => K (.ret (.d (.bool y0)), [some [.d (.int .i64 y1)]])) := by kernel_rfl

theorem gc60_0 (C : Tab) (ρ : Type) (K : Res sig × Mem sig → Option ρ) (a1 : Int) (a2 : ByteArray) (a3 : Int) : evF Tryd.prog lay (T C) (LT C) hints dfT 60 [.ptr 0 0, .d (.int .i64 a1)] [some [.d (.str a2), .d (.int .i64 a3)]] K =
    Gc60_0 C ρ a1 a2 a3 (fun (y0 : Int) (y1 : ByteArray) (y2 : Int) => K (.ret (.d (.int .u8 y0)), [some [.d (.str y1), .d (.int .i64 y2)]])) := by kernel_rfl

theorem gc65_0 (C : Tab) (ρ : Type) (K : Res sig × Mem sig → Option ρ) (a1 : Int) (a2 : ByteArray) (a3 : Int) : evF Tryd.prog lay (T C) (LT C) hints dfT 65 [.ptr 0 0, .d (.int .i64 a1)] [some [.d (.str a2), .d (.int .i64 a3)]] K =
    Gc65_0 C ρ a1 a2 a3 (fun (y0 : ByteArray) (y1 : ByteArray) (y2 : Int) => K (.ret (.d (.str y0)), [some [.d (.str y1), .d (.int .i64 y2)]])) := by kernel_rfl

theorem gc69_0 (C : Tab) (ρ : Type) (K : Res sig × Mem sig → Option ρ) (a1 : ByteArray) (a2 : Int) : evF Tryd.prog lay (T C) (LT C) hints dfT 69 [.ptr 0 0, .ptr 1 0] [some [.d (.str a1), .d (.int .i64 a2)], some [.fn (.func 62) [] []]] K =
    Gc69_0 C ρ a1 a2 (fun (y0 : Int) (y1 : ByteArray) (y2 : ByteArray) (y3 : Int) => K (.ret (.tup [.d (.int .i64 y0), .d (.str y1)]), [some [.d (.str y2), .d (.int .i64 y3)], some [.fn (.func 62) [] []]])) := by kernel_rfl

theorem gc73_0 (C : Tab) (ρ : Type) (K : Res sig × Mem sig → Option ρ) (a1 : ByteArray) (a2 : Int) : evF Tryd.prog lay (T C) (LT C) hints dfT 73 [.ptr 0 0] [some [.d (.str a1), .d (.int .i64 a2)]] K =
    Gc73_0 C ρ a1 a2 (fun (y0 : Int) (y1 : ByteArray) (y2 : ByteArray) (y3 : Int) => K (.ret (.tup [.d (.int .i64 y0), .d (.str y1)]), [some [.d (.str y2), .d (.int .i64 y3)]])) := by kernel_rfl

theorem gc77_0 (C : Tab) (ρ : Type) (K : Res sig × Mem sig → Option ρ) (a1 : ByteArray) (a2 : List Tok) (a3 : Int) : evF Tryd.prog lay (T C) (LT C) hints dfT 77 [.ptr 0 0, .d (.str a1)] [some [.d (.sl Key.tok a2), .d (.int .i64 a3)]] K =
    Gc77_0 C ρ a1 a2 a3 (fun (y0 : List Tok) (y1 : Int) => K (.ret (.tup []), [some [.d (.sl Key.tok y0), .d (.int .i64 y1)]])) (fun (y0 : Int) (y1 : Int) (y2 : List Tok) (y3 : Int) => K (.pan (.iface 90 (.agg [.d (.int .i64 y0), .d (.int .i64 y1)])), [some [.d (.sl Key.tok y2), .d (.int .i64 y3)]])) := by kernel_rfl

theorem gc81_0 (C : Tab) (ρ : Type) (K : Res sig × Mem sig → Option ρ) (a1 : ByteArray) (a2 : List Tok) (a3 : Int) : evF Tryd.prog lay (T C) (LT C) hints dfT 81 [.ptr 0 0, .d (.str a1)] [some [.d (.sl Key.tok a2), .d (.int .i64 a3)]] K =
    Gc81_0 C ρ a1 a2 a3 (fun (y0 : List Pt) (y1 : List Tok) (y2 : Int) => K (.ret (.d (.sl Key.part y0)), [some [.d (.sl Key.tok y1), .d (.int .i64 y2)]])) (fun (y0 : Int) (y1 : Int) (y2 : List Tok) (y3 : Int) => K (.pan (.iface 90 (.agg [.d (.int .i64 y0), .d (.int .i64 y1)])), [some [.d (.sl Key.tok y2), .d (.int .i64 y3)]])) := by kernel_rfl

theorem gc84_0 (C : Tab) (ρ : Type) (K : Res sig × Mem sig → Option ρ) (a1 : ByteArray) (a2 : Int) : evF Tryd.prog lay (T C) (LT C) hints dfT 84 [.d (.str a1), .d (.int .i64 a2)] [] K =
    Gc84_0 C ρ a1 a2 (fun (y0 : Int) => K (.ret (.d (.int .i64 y0)), [])) := by kernel_rfl

theorem gc91_0 (C : Tab) (ρ : Type) (K : Res sig × Mem sig → Option ρ) (a1 : List Tok) (a2 : Int) : evF Tryd.prog lay (T C) (LT C) hints dfT 91 [.ptr 0 0] [some [.d (.sl Key.tok a1), .d (.int .i64 a2)]] K =
    Gc91_0 C ρ a1 a2 (fun (y0 : Pt) (y1 : List Tok) (y2 : Int) => K (.ret (.agg [.d (.int .i64 y0.op), .d (.str y0.sign), .d (.str y0.name), .d (.int .i64 y0.num), .d (.int .i64 y0.raw.op), .d (.str y0.raw.name), .d (.sl Key.raw y0.raw.args), .d (.sl Key.part y0.parts)]), [some [.d (.sl Key.tok y1), .d (.int .i64 y2)]])) (fun (y0 : Int) (y1 : Int) (y2 : List Tok) (y3 : Int) => K (.pan (.iface 90 (.agg [.d (.int .i64 y0), .d (.int .i64 y1)])), [some [.d (.sl Key.tok y2), .d (.int .i64 y3)]])) := by kernel_rfl

theorem gl8_4_0 (C : Tab) (ρ : Type) (K : Ex sig → St sig → Option ρ) (a1 : Int) (a2 : Int) (a3 : Int) (a4 : Rw) : evK Tryd.prog lay (T C) (LT C) hints 8 0 (bodyOf Tryd.prog 8 4) (canon [0, 3, 21, 22] [.d (.int .i64 a1), .ptr 0 0, .d (.int .i64 a2), .d (.int .i64 a3)] [some [.d (.int .i64 a4.op), .d (.str a4.name), .full Key.raw a4.args]] [] 130) (loopNext (LT C) PK 8 0 4 K) =
    Gl8_4_0 C ρ a1 a2 a3 a4 (fun (y0 : Int) (y1 : Rw) => K (.exit 0) (canon [0, 3] [.d (.int .i64 y0), .ptr 0 0] [some [.d (.int .i64 y1.op), .d (.str y1.name), .full Key.raw y1.args]] [] 130)) := by kernel_rfl

theorem gl8_27_0 (C : Tab) (ρ : Type) (K : Ex sig → St sig → Option ρ) (a1 : Int) (a2 : Int) (a3 : Int) (a4 : Int) (a5 : Rw) (a6 : Rw) (a7 : Rw) : evK Tryd.prog lay (T C) (LT C) hints 8 0 (bodyOf Tryd.prog 8 27) (canon [0, 3, 6, 7, 70, 71] [.d (.int .i64 a1), .ptr 0 0, .ptr 2 0, .d (.int .i64 a2), .d (.int .i64 a3), .d (.int .i64 a4)] [some [.d (.int .i64 a5.op), .d (.str a5.name), .full Key.raw a5.args], some [.d (.int .i64 a6.op), .d (.str a6.name), .full Key.raw a6.args], some [.d (.int .i64 a7.op), .d (.str a7.name), .full Key.raw a7.args]] [] 130) (loopNext (LT C) PK 8 0 27 K) =
    Gl8_27_0 C ρ a1 a2 a3 a4 a5 a6 a7 (fun (y0 : Int) (y1 : Int) (y2 : Rw) (y3 : Rw) (y4 : Rw) => K (.exit 8) (canon [0, 3, 6, 7] [.d (.int .i64 y0), .ptr 0 0, .ptr 2 0, .d (.int .i64 y1)] [some [.d (.int .i64 y2.op), .d (.str y2.name), .full Key.raw y2.args], some [.d (.int .i64 y3.op), .d (.str y3.name), .full Key.raw y3.args], some [.d (.int .i64 y4.op), .d (.str y4.name), .full Key.raw y4.args]] [] 130)) := by kernel_rfl

theorem gl22_20_0 (C : Tab) (ρ : Type) (K : Ex sig → St sig → Option ρ) (a1 : Int) (a2 : List Rw) (a3 : Int) (a4 : Int) (a5 : Int) : evK Tryd.prog lay (T C) (LT C) hints 22 1 (bodyOf Tryd.prog 22 20) (canon [1, 2, 59, 60, 61] [.d (.int .i64 a1), .ptr 0 0, .d (.sl Key.raw a2), .d (.int .i64 a3), .d (.int .i64 a4)] [some [.d (.int .i64 a5)]] [] 72) (loopNext (LT C) PK 22 1 20 K) =
    Gl22_20_0 C ρ a1 a2 a3 a4 a5 (fun (y0 : Bool) (y1 : Int) => K .ret (canon [6] [.d (.bool y0)] [some [.d (.int .i64 y1)]] [] 72)) (fun (y0 : Int) => K (.exit 1) (canon [] [] [some [.d (.int .i64 y0)]] [] 72)) := by kernel_rfl

theorem gl30_4_0 (C : Tab) (ρ : Type) (K : Ex sig → St sig → Option ρ) (a1 : Bool) (a2 : List Tok) (a3 : Int) (a4 : Rw) (a5 : Rw) : evK Tryd.prog lay (T C) (LT C) hints 30 1 (bodyOf Tryd.prog 30 4) (canon [0, 2, 3, 4] [.ptr 0 0, .ptr 1 0, .ptr 2 0, .d (.bool a1)] [some [.d (.sl Key.tok a2), .d (.int .i64 a3)], some [.d (.int .i64 a4.op), .d (.str a4.name), .full Key.raw a4.args], some [.d (.int .i64 a5.op), .d (.str a5.name), .d (.sl Key.raw a5.args)]] [] 63) (loopNext (LT C) PK 30 1 4 K) =
    Gl30_4_0 C ρ a1 a2 a3 a4 a5 (fun (y0 : List Tok) (y1 : Int) (y2 : Rw) (y3 : Rw) => K (.exit 1) (canon [2, 3] [.ptr 1 0, .ptr 2 0] [some [.d (.sl Key.tok y0), .d (.int .i64 y1)], some [.d (.int .i64 y2.op), .d (.str y2.name), .full Key.raw y2.args], some [.d (.int .i64 y3.op), .d (.str y3.name), .d (.sl Key.raw y3.args)]] [] 63)) (fun (y0 : List Tok) (y1 : Int) (y2 : Rw) (y3 : Int) (y4 : Int) => K (.pan (.iface 90 (.agg [.d (.int .i64 y3), .d (.int .i64 y4)]))) (canon [2] [.ptr 1 0] [some [.d (.sl Key.tok y0), .d (.int .i64 y1)], some [.d (.int .i64 y2.op), .d (.str y2.name), .full Key.raw y2.args]] [] 63)) := by kernel_rfl

theorem gl56_32_0 (C : Tab) (ρ : Type) (K : Ex sig → St sig → Option ρ) (a1 : Int) (a2 : List Pt) (a3 : Int) (a4 : Int) (a5 : Int) (a6 : Pt) (a7 : Pt) : evK Tryd.prog lay (T C) (LT C) hints 56 1 (bodyOf Tryd.prog 56 32) (canon [1, 2, 3, 7, 121, 122, 123] [.d (.int .i64 a1), .ptr 0 0, .ptr 1 0, .ptr 2 0, .d (.sl Key.part a2), .d (.int .i64 a3), .d (.int .i64 a4)] [some [.d (.int .i64 a5)], some [.d (.int .i64 a6.op), .d (.str a6.sign), .d (.str a6.name), .d (.int .i64 a6.num), .d (.int .i64 a6.raw.op), .d (.str a6.raw.name), .d (.sl Key.raw a6.raw.args), .d (.sl Key.part a6.parts)], some [.d (.int .i64 a7.op), .d (.str a7.sign), .d (.str a7.name), .d (.int .i64 a7.num), .d (.int .i64 a7.raw.op), .d (.str a7.raw.name), .full Key.raw a7.raw.args, .full Key.part a7.parts]] [] 205) (loopNext (LT C) PK 56 1 32 K) =
    Gl56_32_0 C ρ a1 a2 a3 a4 a5 a6 a7 (fun (y0 : Bool) (y1 : Int) => K .ret (canon [6] [.d (.bool y0)] [some [.d (.int .i64 y1)]] [] 205)) (fun (y0 : Int) (y1 : Pt) (y2 : Pt) => K (.exit 1) (canon [3, 7] [.ptr 1 0, .ptr 2 0] [some [.d (.int .i64 y0)], some [.d (.int .i64 y1.op), .d (.str y1.sign), .d (.str y1.name), .d (.int .i64 y1.num), .d (.int .i64 y1.raw.op), .d (.str y1.raw.name), .d (.sl Key.raw y1.raw.args), .d (.sl Key.part y1.parts)], some [.d (.int .i64 y2.op), .d (.str y2.sign), .d (.str y2.name), .d (.int .i64 y2.num), .d (.int .i64 y2.raw.op), .d (.str y2.raw.name), .full Key.raw y2.raw.args, .full Key.part y2.parts]] [] 205)) := by kernel_rfl

theorem gl81_2_0 (C : Tab) (ρ : Type) (K : Ex sig → St sig → Option ρ) (a1 : ByteArray) (a2 : List Pt) (a3 : List Tok) (a4 : Int) : evK Tryd.prog lay (T C) (LT C) hints 81 1 (bodyOf Tryd.prog 81 2) (canon [0, 1, 5] [.ptr 0 0, .d (.str a1), .own Key.part a2] [some [.d (.sl Key.tok a3), .d (.int .i64 a4)]] [] 24) (loopNext (LT C) PK 81 1 2 K) =
    Gl81_2_0 C ρ a1 a2 a3 a4 (fun (y0 : List Pt) (y1 : List Tok) (y2 : Int) => K (.exit 0) (canon [0, 5] [.ptr 0 0, .own Key.part y0] [some [.d (.sl Key.tok y1), .d (.int .i64 y2)]] [] 24)) (fun (y0 : List Tok) (y1 : Int) (y2 : Int) (y3 : Int) => K (.pan (.iface 90 (.agg [.d (.int .i64 y2), .d (.int .i64 y3)]))) (canon [4] [.any] [some [.d (.sl Key.tok y0), .d (.int .i64 y1)]] [] 24)) := by kernel_rfl

end Go.Proofs.YtanfoijdfcnpoaaDoor.Ev
