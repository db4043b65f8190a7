/- This file proves that the evaluator does with each function and loop what the typed functions say; without any condition. -/
import Derived.Test.YtanfoijdfcnpoaaDoorGR
set_option linter.unusedVariables false
set_option linter.unusedSimpArgs false
namespace Go.Proofs.YtanfoijdfcnpoaaDoor.Ev

theorem gc10_0 (C : Tab) (ρ : Type) (K : Res sig × Mem sig → Option ρ) (a1 : Rw) : evF Tryd.prog lay (T C) (LT C) hints dfT 10 [.agg [.d (.int .i64 a1.op), .d (.str a1.name), .d (.sl Key.raw a1.args)]] [] K =
    Gc10_0 C ρ a1 (fun (y0 : ByteArray) (y1 : Int) => K (.ret (.tup [.d (.str y0), .d (.int .i64 y1)]), [])) := by kernel_rfl

theorem gc14_0 (C : Tab) (ρ : Type) (K : Res sig × Mem sig → Option ρ) (a1 : ByteArray) : evF Tryd.prog lay (T C) (LT C) hints dfT 14 [.d (.str a1)] [] K =
    Gc14_0 C ρ a1 (fun (y0 : Rw) (y1 : Int) (y2 : Int) => K (.ret (.tup [.agg [.d (.int .i64 y0.op), .d (.str y0.name), .d (.sl Key.raw y0.args)], .d (.int .i64 y1), .d (.int .i64 y2)]), [])) := by kernel_rfl

theorem gc24_0 (C : Tab) (ρ : Type) (K : Res sig × Mem sig → Option ρ) (a1 : Rw) (a2 : Int) : evF Tryd.prog lay (T C) (LT C) hints dfT 24 [.agg [.d (.int .i64 a1.op), .d (.str a1.name), .d (.sl Key.raw a1.args)], .d (.int .i64 a2)] [] K =
    Gc24_0 C ρ a1 a2 (fun (y0 : Int) => K (.ret (.d (.int .i64 y0)), [])) := by kernel_rfl

theorem gc28_0 (C : Tab) (ρ : Type) (K : Res sig × Mem sig → Option ρ) (a1 : ByteArray) : evF Tryd.prog lay (T C) (LT C) hints dfT 28 [.d (.str a1)] [] K =
    Gc28_0 C ρ a1 (fun (y0 : List Tok) (y1 : Int) (y2 : Int) => K (.ret (.tup [.d (.sl Key.tok y0), .d (.int .i64 y1), .d (.int .i64 y2)]), [])) := by kernel_rfl

theorem gc37_0 (C : Tab) (ρ : Type) (K : Res sig × Mem sig → Option ρ) (a1 : List Tok) (a2 : Int) : evF Tryd.prog lay (T C) (LT C) hints dfT 37 [.ptr 0 0] [some [.d (.sl Key.tok a1), .d (.int .i64 a2)]] K =
    Gc37_0 C ρ a1 a2 (fun (y0 : List Tok) (y1 : Int) => K (.ret (.fn (.func 52) [] [.ptr 1 0]), [some [.d (.sl Key.tok y0), .d (.int .i64 y1)], some [.ptr 0 0]])) := by kernel_rfl

theorem gc42_0 (C : Tab) (ρ : Type) (K : Res sig × Mem sig → Option ρ) (a1 : ByteArray) : evF Tryd.prog lay (T C) (LT C) hints dfT 42 [.d (.str a1)] [] K =
    Gc42_0 C ρ a1 (fun (y0 : Bool) => K (.ret (.d (.bool y0)), [])) := by kernel_rfl

theorem gc46_0 (C : Tab) (ρ : Type) (K : Res sig × Mem sig → Option ρ) (a1 : List Tok) (a2 : Int) : evF Tryd.prog lay (T C) (LT C) hints dfT 46 [.ptr 0 0] [some [.d (.sl Key.tok a1), .d (.int .i64 a2)]] K =
    Gc46_0 C ρ a1 a2 (fun (y0 : Rw) (y1 : List Tok) (y2 : Int) => K (.ret (.agg [.d (.int .i64 y0.op), .d (.str y0.name), .d (.sl Key.raw y0.args)]), [some [.d (.sl Key.tok y1), .d (.int .i64 y2)]])) (fun (y0 : Int) (y1 : Int) (y2 : List Tok) (y3 : Int) => K (.pan (.iface 90 (.agg [.d (.int .i64 y0), .d (.int .i64 y1)])), [some [.d (.sl Key.tok y2), .d (.int .i64 y3)]])) := by kernel_rfl

theorem gc54_0 (C : Tab) (ρ : Type) (K : Res sig × Mem sig → Option ρ) (a1 : ByteArray) : evF Tryd.prog lay (T C) (LT C) hints dfT 54 [.d (.str a1)] [] K =
    Gc54_0 C ρ a1 (fun (y0 : Bool) => K (.ret (.d (.bool y0)), [])) := by kernel_rfl

theorem gc58_0 (C : Tab) (ρ : Type) (K : Res sig × Mem sig → Option ρ) (a1 : List Int) (a2 : Int) : evF Tryd.prog lay (T C) (LT C) hints dfT 58 [.d (.sl Key.int a1), .d (.int .i64 a2)] [] K =
    Gc58_0 C ρ a1 a2 (fun (y0 : Int) => K (.ret (.d (.int .i64 y0)), [])) := by kernel_rfl

theorem gc63_0 (C : Tab) (ρ : Type) (K : Res sig × Mem sig → Option ρ) (a1 : Int) : evF Tryd.prog lay (T C) (LT C) hints dfT 63 [.d (.int .u8 a1)] [] K =
    Gc63_0 C ρ a1 (fun (y0 : Bool) => K (.ret (.d (.bool y0)), [])) := by kernel_rfl

theorem gc67_0 (C : Tab) (ρ : Type) (K : Res sig × Mem sig → Option ρ) (a1 : ByteArray) (a2 : Int) : evF Tryd.prog lay (T C) (LT C) hints dfT 67 [.ptr 0 0, .ptr 1 0] [some [.d (.str a1), .d (.int .i64 a2)], some [.fn (.func 62) [] []]] K =
    Gc67_0 C ρ a1 a2 (fun (y0 : Int) (y1 : ByteArray) (y2 : ByteArray) (y3 : Int) => K (.ret (.tup [.d (.int .i64 y0), .d (.str y1)]), [some [.d (.str y2), .d (.int .i64 y3)], some [.fn (.func 62) [] []]])) := by kernel_rfl

theorem gc71_0 (C : Tab) (ρ : Type) (K : Res sig × Mem sig → Option ρ) (a1 : ByteArray) (a2 : Int) : evF Tryd.prog lay (T C) (LT C) hints dfT 71 [.ptr 0 0, .ptr 1 0] [some [.d (.str a1), .d (.int .i64 a2)], some [.fn (.func 62) [] []]] K =
    Gc71_0 C ρ a1 a2 (fun (y0 : Int) (y1 : ByteArray) (y2 : ByteArray) (y3 : Int) => K (.ret (.tup [.d (.int .i64 y0), .d (.str y1)]), [some [.d (.str y2), .d (.int .i64 y3)], some [.fn (.func 62) [] []]])) := by kernel_rfl

theorem gc75_0 (C : Tab) (ρ : Type) (K : Res sig × Mem sig → Option ρ) (a1 : ByteArray) (a2 : Int) (a3 : Int) : evF Tryd.prog lay (T C) (LT C) hints dfT 75 [.ptr 0 0, .ptr 1 0, .ptr 2 0] [some [.d (.str a1), .d (.int .i64 a2)], some [.fn (.func 62) [] []], some [.d (.int .u8 a3)]] K =
    Gc75_0 C ρ a1 a2 a3 (fun (y0 : Int) (y1 : ByteArray) (y2 : ByteArray) (y3 : Int) (y4 : Int) => K (.ret (.tup [.d (.int .i64 y0), .d (.str y1)]), [some [.d (.str y2), .d (.int .i64 y3)], some [.fn (.func 62) [] []], some [.d (.int .u8 y4)]])) := by kernel_rfl

theorem gc79_0 (C : Tab) (ρ : Type) (K : Res sig × Mem sig → Option ρ) (a1 : List Tok) (a2 : Int) : evF Tryd.prog lay (T C) (LT C) hints dfT 79 [.ptr 0 0] [some [.d (.sl Key.tok a1), .d (.int .i64 a2)]] K =
    Gc79_0 C ρ a1 a2 (fun (y0 : Bool) (y1 : List Tok) (y2 : Int) => K (.ret (.d (.bool y0)), [some [.d (.sl Key.tok y1), .d (.int .i64 y2)]])) := by kernel_rfl

theorem gc82_1 (C : Tab) (ρ : Type) (K : Res sig × Mem sig → Option ρ) (a1 : ByteArray) : evF Tryd.prog lay (T C) (LT C) hints dfT 82 [.d (.str a1), .fn (.func 66) [] []] [] K =
    Gc82_1 C ρ a1 (fun (y0 : Bool) => K (.ret (.d (.bool y0)), [])) := by kernel_rfl

theorem gc89_0 (C : Tab) (ρ : Type) (K : Res sig × Mem sig → Option ρ) (a1 : Tok) : evF Tryd.prog lay (T C) (LT C) hints dfT 89 [.agg [.d (.int .i64 a1.kind), .d (.str a1.text), .d (.int .i64 (a1.at_))]] [] K =
    Gc89_0 C ρ a1 (fun (y0 : Bool) => K (.ret (.d (.bool y0)), [])) := by kernel_rfl

theorem gc93_0 (C : Tab) (ρ : Type) (K : Res sig × Mem sig → Option ρ) (a1 : Int) : evF Tryd.prog lay (T C) (LT C) hints dfT 93 [.d (.int .u8 a1)] [] K =
    Gc93_0 C ρ a1 (fun (y0 : Bool) => K (.ret (.d (.bool y0)), [])) := by kernel_rfl

theorem gl8_16_0 (C : Tab) (ρ : Type) (K : Ex sig → St sig → Option ρ) (a1 : Int) (a2 : Int) (a3 : List Rw) (a4 : Int) (a5 : Int) (a6 : Rw) (a7 : Rw) (a8 : Rw) : evK Tryd.prog lay (T C) (LT C) hints 8 0 (bodyOf Tryd.prog 8 16) (canon [0, 3, 6, 7, 45, 46, 47] [.d (.int .i64 a1), .ptr 0 0, .ptr 2 0, .d (.int .i64 a2), .full Key.raw a3, .d (.int .i64 a4), .d (.int .i64 a5)] [some [.d (.int .i64 a6.op), .d (.str a6.name), .full Key.raw a6.args], some [.d (.int .i64 a7.op), .d (.str a7.name), .full Key.raw a7.args], some [.d (.int .i64 a8.op), .d (.str a8.name), .full Key.raw a8.args]] [] 130) (loopNext (LT C) PK 8 0 16 K) =
    Gl8_16_0 C ρ a1 a2 a3 a4 a5 a6 a7 a8 (fun (y0 : Int) (y1 : Int) (y2 : Rw) (y3 : Rw) (y4 : Rw) => K (.exit 4) (canon [0, 3, 6, 7] [.d (.int .i64 y0), .ptr 0 0, .ptr 2 0, .d (.int .i64 y1)] [some [.d (.int .i64 y2.op), .d (.str y2.name), .full Key.raw y2.args], some [.d (.int .i64 y3.op), .d (.str y3.name), .full Key.raw y3.args], some [.d (.int .i64 y4.op), .d (.str y4.name), .full Key.raw y4.args]] [] 130)) := by kernel_rfl

theorem gl15_4_0 (C : Tab) (ρ : Type) (K : Ex sig → St sig → Option ρ) (a1 : Int) (a2 : Rw) (a3 : Rw) : evK Tryd.prog lay (T C) (LT C) hints 15 0 (bodyOf Tryd.prog 15 4) (canon [2, 3, 5] [.ptr 0 0, .ptr 1 0, .d (.int .i64 a1)] [some [.d (.int .i64 a2.op), .d (.str a2.name), .d (.sl Key.raw a2.args)], some [.d (.int .i64 a3.op), .d (.str a3.name), .d (.sl Key.raw a3.args)]] [] 46) (loopNext (LT C) PK 15 0 4 K) =
    Gl15_4_0 C ρ a1 a2 a3 (fun (y0 : Bool) => K .ret (canon [4] [.d (.bool y0)] [] [] 46)) (K (.exit 0) (canon [] [] [] [] 46)) := by kernel_rfl

theorem gl25_18_0 (C : Tab) (ρ : Type) (K : Ex sig → St sig → Option ρ) (a1 : Int) (a2 : Int) (a3 : Rw) : evK Tryd.prog lay (T C) (LT C) hints 25 0 (bodyOf Tryd.prog 25 18) (canon [1, 2, 7] [.d (.int .i64 a1), .ptr 0 0, .d (.int .i64 a2)] [some [.d (.int .i64 a3.op), .d (.str a3.name), .d (.sl Key.raw a3.args)]] [] 62) (loopNext (LT C) PK 25 0 18 K) =
    Gl25_18_0 C ρ a1 a2 a3 (fun (y0 : Bool) => K .ret (canon [4] [.d (.bool y0)] [] [] 62)) (K (.exit 1) (canon [] [] [] [] 62)) := by kernel_rfl

theorem gl43_0_0 (C : Tab) (ρ : Type) (K : Ex sig → St sig → Option ρ) (a1 : ByteArray) (a2 : Int) : evK Tryd.prog lay (T C) (LT C) hints 43 1 (bodyOf Tryd.prog 43 0) (canon [0] [.ptr 0 0] [some [.d (.str a1), .d (.int .i64 a2)]] [] 102) (loopNext (LT C) PK 43 1 0 K) =
    Gl43_0_0 C ρ a1 a2 (fun (y0 : ByteArray) (y1 : Int) => K (.exit 0) (canon [] [] [some [.d (.str y0), .d (.int .i64 y1)]] [] 102)) := by kernel_rfl

theorem gl65_2_0 (C : Tab) (ρ : Type) (K : Ex sig → St sig → Option ρ) (a1 : Int) (a2 : Int) (a3 : ByteArray) (a4 : Int) : evK Tryd.prog lay (T C) (LT C) hints 65 1 (bodyOf Tryd.prog 65 2) (canon [0, 1, 5] [.ptr 0 0, .d (.int .i64 a1), .d (.int .i64 a2)] [some [.d (.str a3), .d (.int .i64 a4)]] [] 42) (loopNext (LT C) PK 65 1 2 K) =
    Gl65_2_0 C ρ a1 a2 a3 a4 (fun (y0 : Int) (y1 : Int) (y2 : ByteArray) (y3 : Int) => K (.exit 0) (canon [0, 1, 5] [.ptr 0 0, .d (.int .i64 y0), .d (.int .i64 y1)] [some [.d (.str y2), .d (.int .i64 y3)]] [] 42)) := by kernel_rfl

theorem gl84_1_0 (C : Tab) (ρ : Type) (K : Ex sig → St sig → Option ρ) (a1 : ByteArray) (a2 : Int) : evK Tryd.prog lay (T C) (LT C) hints 84 0 (bodyOf Tryd.prog 84 1) (canon [0, 1] [.d (.str a1), .d (.int .i64 a2)] [] [] 18) (loopNext (LT C) PK 84 0 1 K) =
    Gl84_1_0 C ρ a1 a2 (fun (y0 : Int) => K (.exit 0) (canon [1] [.d (.int .i64 y0)] [] [] 18)) := by kernel_rfl

end Go.Proofs.YtanfoijdfcnpoaaDoor.Ev
