/- This file proves that the evaluator does with each function and loop what the typed functions say; without any condition. -/
import Derived.Test.YtanfoijdfcnpoaaDoorG1
set_option linter.unusedVariables false
set_option linter.unusedSimpArgs false
namespace Go.Proofs.YtanfoijdfcnpoaaDoor.Ev

theorem gc5_0 (C : Tab) (ρ : Type) (K : Res sig × Mem sig → Option ρ) (a1 : Rw) (a2 : Rw) (a3 : Rw) : evF Tryd.prog lay (T C) (LT C) hints dfT 5 [.agg [.d (.int .i64 a1.op), .d (.str a1.name), .d (.sl Key.raw a1.args)], .agg [.d (.int .i64 a2.op), .d (.str a2.name), .d (.sl Key.raw a2.args)], .agg [.d (.int .i64 a3.op), .d (.str a3.name), .d (.sl Key.raw a3.args)]] [] K =
    Gc5_0 C ρ a1 a2 a3 (fun (y0 : Bool) => K (.ret (.d (.bool y0)), [])) := by kernel_rfl

theorem gc12_0 (C : Tab) (ρ : Type) (K : Res sig × Mem sig → Option ρ) : evF Tryd.prog lay (T C) (LT C) hints dfT 12 [] [] K =
    Gc12_0 C ρ (fun (y0 : Bool) => K (.ret (.d (.bool y0)), [])) := by kernel_rfl

theorem gc16_0 (C : Tab) (ρ : Type) (K : Res sig × Mem sig → Option ρ) (a1 : Rw) (a2 : Rw) : evF Tryd.prog lay (T C) (LT C) hints dfT 16 [.agg [.d (.int .i64 a1.op), .d (.str a1.name), .d (.sl Key.raw a1.args)], .agg [.d (.int .i64 a2.op), .d (.str a2.name), .d (.sl Key.raw a2.args)]] [] K =
    Gc16_0 C ρ a1 a2 (fun (y0 : Bool) => K (.ret (.d (.bool y0)), [])) := by kernel_rfl

theorem gc25_0 (C : Tab) (ρ : Type) (K : Res sig × Mem sig → Option ρ) (a1 : Rw) (a2 : Int) : evF Tryd.prog lay (T C) (LT C) hints dfT 25 [.agg [.d (.int .i64 a1.op), .d (.str a1.name), .d (.sl Key.raw a1.args)], .d (.int .i64 a2)] [] K =
    Gc25_0 C ρ a1 a2 (fun (y0 : Bool) => K (.ret (.d (.bool y0)), [])) := by kernel_rfl

theorem gc30_0 (C : Tab) (ρ : Type) (K : Res sig × Mem sig → Option ρ) (a1 : List Tok) (a2 : Int) : evF Tryd.prog lay (T C) (LT C) hints dfT 30 [.ptr 0 0] [some [.d (.sl Key.tok a1), .d (.int .i64 a2)]] K =
    Gc30_0 C ρ a1 a2 (fun (y0 : Rw) (y1 : List Tok) (y2 : Int) => K (.ret (.agg [.d (.int .i64 y0.op), .d (.str y0.name), .d (.sl Key.raw y0.args)]), [some [.d (.sl Key.tok y1), .d (.int .i64 y2)]])) (fun (y0 : Int) (y1 : Int) (y2 : List Tok) (y3 : Int) => K (.pan (.iface 90 (.agg [.d (.int .i64 y0), .d (.int .i64 y1)])), [some [.d (.sl Key.tok y2), .d (.int .i64 y3)]])) := by kernel_rfl

theorem gc40_0 (C : Tab) (ρ : Type) (K : Res sig × Mem sig → Option ρ) (a1 : ByteArray) : evF Tryd.prog lay (T C) (LT C) hints dfT 40 [.d (.str a1)] [] K =
    Gc40_0 C ρ a1 (fun (y0 : Bool) => K (.ret (.d (.bool y0)), [])) := by kernel_rfl

theorem gc44_0 (C : Tab) (ρ : Type) (K : Res sig × Mem sig → Option ρ) (a1 : Int) : evF Tryd.prog lay (T C) (LT C) hints dfT 44 [.d (.int .u8 a1)] [] K =
    Gc44_0 C ρ a1 (fun (y0 : Int) => K (.ret (.fn (.func 64) [] [.ptr 1 0]), [some [.d (.int .u8 y0)], some [.fn (.func 62) [] []]])) (fun (y0 : Int) => K (.ret (.fn (.func 67) [] [.ptr 1 0]), [some [.d (.int .u8 y0)], some [.fn (.func 62) [] []]])) (fun (y0 : Int) => K (.ret (.fn (.func 69) [] [.ptr 1 0]), [some [.d (.int .u8 y0)], some [.fn (.func 62) [] []]])) (fun (y0 : Int) => K (.ret (.fn (.func 71) [] [.ptr 1 0]), [some [.d (.int .u8 y0)], some [.fn (.func 62) [] []]])) (fun (y0 : Int) => K (.ret (.fn (.func 72) [] [.ptr 1 0]), [some [.d (.int .u8 y0)], some [.fn (.func 62) [] []]])) (K (.ret (.fn (.func 73) [] []), [])) (fun (y0 : Int) => K (.ret (.fn (.func 74) [] [.ptr 1 0]), [some [.d (.int .u8 y0)], some [.fn (.func 62) [] []]])) (fun (y0 : Int) => K (.ret (.fn (.func 75) [] [.ptr 1 0, .ptr 0 0]), [some [.d (.int .u8 y0)], some [.fn (.func 62) [] []]])) := by kernel_rfl

theorem gc48_0 (C : Tab) (ρ : Type) (K : Res sig × Mem sig → Option ρ) (a1 : List ByteArray) (a2 : ByteArray) : evF Tryd.prog lay (T C) (LT C) hints dfT 48 [.d (.sl Key.str a1), .d (.str a2)] [] K =
    Gc48_0 C ρ a1 a2 (fun (y0 : Bool) => K (.ret (.d (.bool y0)), [])) := by kernel_rfl

theorem gc59_0 (C : Tab) (ρ : Type) (K : Res sig × Mem sig → Option ρ) (a1 : ByteArray) : evF Tryd.prog lay (T C) (LT C) hints dfT 59 [.d (.str a1)] [] K =
    Gc59_0 C ρ a1 (fun (y0 : Bool) => K (.ret (.d (.bool y0)), [])) := by kernel_rfl

theorem gc64_0 (C : Tab) (ρ : Type) (K : Res sig × Mem sig → Option ρ) (a1 : ByteArray) (a2 : Int) : evF Tryd.prog lay (T C) (LT C) hints dfT 64 [.ptr 0 0, .ptr 1 0] [some [.d (.str a1), .d (.int .i64 a2)], some [.fn (.func 62) [] []]] K =
    Gc64_0 C ρ a1 a2 (fun (y0 : Int) (y1 : ByteArray) (y2 : ByteArray) (y3 : Int) => K (.ret (.tup [.d (.int .i64 y0), .d (.str y1)]), [some [.d (.str y2), .d (.int .i64 y3)], some [.fn (.func 62) [] []]])) := by kernel_rfl

theorem gc68_0 (C : Tab) (ρ : Type) (K : Res sig × Mem sig → Option ρ) (a1 : Int) : evF Tryd.prog lay (T C) (LT C) hints dfT 68 [.d (.int .u8 a1)] [] K =
    Gc68_0 C ρ a1 (fun (y0 : Bool) => K (.ret (.d (.bool y0)), [])) := by kernel_rfl

theorem gc72_0 (C : Tab) (ρ : Type) (K : Res sig × Mem sig → Option ρ) (a1 : ByteArray) (a2 : Int) : evF Tryd.prog lay (T C) (LT C) hints dfT 72 [.ptr 0 0, .ptr 1 0] [some [.d (.str a1), .d (.int .i64 a2)], some [.fn (.func 62) [] []]] K =
    Gc72_0 C ρ a1 a2 (fun (y0 : Int) (y1 : ByteArray) (y2 : ByteArray) (y3 : Int) => K (.ret (.tup [.d (.int .i64 y0), .d (.str y1)]), [some [.d (.str y2), .d (.int .i64 y3)], some [.fn (.func 62) [] []]])) := by kernel_rfl

theorem gc76_0 (C : Tab) (ρ : Type) (K : Res sig × Mem sig → Option ρ) (a1 : List Tok) (a2 : Int) : evF Tryd.prog lay (T C) (LT C) hints dfT 76 [.ptr 0 0] [some [.d (.sl Key.tok a1), .d (.int .i64 a2)]] K =
    Gc76_0 C ρ a1 a2 (fun (y0 : ByteArray) (y1 : List Tok) (y2 : Int) => K (.ret (.d (.str y0)), [some [.d (.sl Key.tok y1), .d (.int .i64 y2)]])) (fun (y0 : Int) (y1 : Int) (y2 : List Tok) (y3 : Int) => K (.pan (.iface 90 (.agg [.d (.int .i64 y0), .d (.int .i64 y1)])), [some [.d (.sl Key.tok y2), .d (.int .i64 y3)]])) := by kernel_rfl

theorem gc80_0 (C : Tab) (ρ : Type) (K : Res sig × Mem sig → Option ρ) (a1 : List ByteArray) (a2 : ByteArray) : evF Tryd.prog lay (T C) (LT C) hints dfT 80 [.d (.sl Key.str a1), .d (.str a2)] [] K =
    Gc80_0 C ρ a1 a2 (fun (y0 : Int) => K (.ret (.d (.int .i64 y0)), [])) := by kernel_rfl

theorem gc84_0 (C : Tab) (ρ : Type) (K : Res sig × Mem sig → Option ρ) (a1 : ByteArray) (a2 : Int) : evF Tryd.prog lay (T C) (LT C) hints dfT 84 [.d (.str a1), .d (.int .i64 a2)] [] K =
    Gc84_0 C ρ a1 a2 (fun (y0 : Int) => K (.ret (.d (.int .i64 y0)), [])) := by kernel_rfl

theorem gc92_0 (C : Tab) (ρ : Type) (K : Res sig × Mem sig → Option ρ) (a1 : Int) : evF Tryd.prog lay (T C) (LT C) hints dfT 92 [.d (.int .u8 a1)] [] K =
    Gc92_0 C ρ a1 (fun (y0 : Bool) => K (.ret (.d (.bool y0)), [])) := by kernel_rfl

theorem gl24_3_0 (C : Tab) (ρ : Type) (K : Ex sig → St sig → Option ρ) (a1 : Int) (a2 : Int) (a3 : Int) (a4 : Rw) : evK Tryd.prog lay (T C) (LT C) hints 24 0 (bodyOf Tryd.prog 24 3) (canon [1, 2, 5, 6] [.d (.int .i64 a1), .ptr 0 0, .d (.int .i64 a2), .d (.int .i64 a3)] [some [.d (.int .i64 a4.op), .d (.str a4.name), .d (.sl Key.raw a4.args)]] [] 34) (loopNext (LT C) PK 24 0 3 K) =
    Gl24_3_0 C ρ a1 a2 a3 a4 (fun (y0 : Int) (y1 : Int) => K (.exit 0) (canon [1, 5] [.d (.int .i64 y0), .d (.int .i64 y1)] [] [] 34)) := by kernel_rfl

theorem gl33_4_0 (C : Tab) (ρ : Type) (K : Ex sig → St sig → Option ρ) (a1 : List Rw) (a2 : List Rw) (a3 : Int) (a4 : Int) : evK Tryd.prog lay (T C) (LT C) hints 33 0 (bodyOf Tryd.prog 33 4) (canon [1, 2, 15, 16, 17] [.d (.sl Key.raw a1), .fn (.func 16) [] [], .d (.sl Key.raw a2), .d (.int .i64 a3), .d (.int .i64 a4)] [] [] 32) (loopNext (LT C) PK 33 0 4 K) =
    Gl33_4_0 C ρ a1 a2 a3 a4 (fun (y0 : Bool) => K .ret (canon [6] [.d (.bool y0)] [] [] 32)) (K (.exit 0) (canon [] [] [] [] 32)) := by kernel_rfl

theorem gl65_2_0 (C : Tab) (ρ : Type) (K : Ex sig → St sig → Option ρ) (a1 : Int) (a2 : Int) (a3 : ByteArray) (a4 : Int) : evK Tryd.prog lay (T C) (LT C) hints 65 1 (bodyOf Tryd.prog 65 2) (canon [0, 1, 5] [.ptr 0 0, .d (.int .i64 a1), .d (.int .i64 a2)] [some [.d (.str a3), .d (.int .i64 a4)]] [] 42) (loopNext (LT C) PK 65 1 2 K) =
    Gl65_2_0 C ρ a1 a2 a3 a4 (fun (y0 : Int) (y1 : Int) (y2 : ByteArray) (y3 : Int) => K (.exit 0) (canon [0, 1, 5] [.ptr 0 0, .d (.int .i64 y0), .d (.int .i64 y1)] [some [.d (.str y2), .d (.int .i64 y3)]] [] 42)) := by kernel_rfl

end Go.Proofs.YtanfoijdfcnpoaaDoor.Ev
