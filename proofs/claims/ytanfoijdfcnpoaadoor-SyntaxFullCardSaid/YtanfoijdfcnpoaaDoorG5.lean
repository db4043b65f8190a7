/- This file proves that the evaluator does with each function and loop what the typed functions say; without any condition. -/
import Derived.Test.YtanfoijdfcnpoaaDoorGR
set_option linter.unusedVariables false
set_option linter.unusedSimpArgs false
namespace Go.Proofs.YtanfoijdfcnpoaaDoor.Ev

theorem gc9_0 (C : Tab) (ρ : Type) (K : Res sig × Mem sig → Option ρ) (a1 : Rw) : evF Tryd.prog lay (T C) (LT C) hints dfT 9 [.agg [.d (.int .i64 a1.op), .d (.str a1.name), .d (.sl Key.raw a1.args)]] [] K =
    Gc9_0 C ρ a1 (fun (y0 : Int) => K (.ret (.d (.int .i64 y0)), [])) := by kernel_rfl

theorem gc13_0 (C : Tab) (ρ : Type) (K : Res sig × Mem sig → Option ρ) (a1 : Rw) : evF Tryd.prog lay (T C) (LT C) hints dfT 13 [.agg [.d (.int .i64 a1.op), .d (.str a1.name), .d (.sl Key.raw a1.args)]] [] K =
    Gc13_0 C ρ a1 (fun (y0 : ByteArray) => K (.ret (.d (.str y0)), [])) := by kernel_rfl

theorem gc23_0 (C : Tab) (ρ : Type) (K : Res sig × Mem sig → Option ρ) (a1 : Rw) (a2 : List Int) : evF Tryd.prog lay (T C) (LT C) hints dfT 23 [.agg [.d (.int .i64 a1.op), .d (.str a1.name), .d (.sl Key.raw a1.args)], .d (.sl Key.int a2)] [] K =
    Gc23_0 C ρ a1 a2 (fun (y0 : ByteArray) => K (.ret (.d (.str y0)), [])) := by kernel_rfl

theorem gc27_0 (C : Tab) (ρ : Type) (K : Res sig × Mem sig → Option ρ) (a1 : Rw) : evF Tryd.prog lay (T C) (LT C) hints dfT 27 [.agg [.d (.int .i64 a1.op), .d (.str a1.name), .d (.sl Key.raw a1.args)]] [] K =
    Gc27_0 C ρ a1 (fun (y0 : Bool) => K (.ret (.d (.bool y0)), [])) := by kernel_rfl

theorem gc32_0 (C : Tab) (ρ : Type) (K : Res sig × Mem sig → Option ρ) (a1 : List Tok) (a2 : Int) : evF Tryd.prog lay (T C) (LT C) hints dfT 32 [.ptr 0 0] [some [.d (.sl Key.tok a1), .d (.int .i64 a2)]] K =
    Gc32_0 C ρ a1 a2 (fun (y0 : Int) (y1 : Int) (y2 : List Tok) (y3 : Int) => K (.pan (.iface 90 (.agg [.d (.int .i64 y0), .d (.int .i64 y1)])), [some [.d (.sl Key.tok y2), .d (.int .i64 y3)]])) := by kernel_rfl

theorem gc41_0 (C : Tab) (ρ : Type) (K : Res sig × Mem sig → Option ρ) (a1 : List Int) (a2 : Int) : evF Tryd.prog lay (T C) (LT C) hints dfT 41 [.d (.sl Key.int a1), .d (.int .i64 a2)] [] K =
    Gc41_0 C ρ a1 a2 (fun (y0 : Bool) => K (.ret (.d (.bool y0)), [])) := by kernel_rfl

theorem gc45_0 (C : Tab) (ρ : Type) (K : Res sig × Mem sig → Option ρ) (a1 : List ByteArray) (a2 : List Tok) (a3 : Int) : evF Tryd.prog lay (T C) (LT C) hints dfT 45 [.ptr 0 0, .d (.sl Key.str a1)] [some [.d (.sl Key.tok a2), .d (.int .i64 a3)]] K =
    Gc45_0 C ρ a1 a2 a3 (fun (y0 : Bool) (y1 : List Tok) (y2 : Int) => K (.ret (.d (.bool y0)), [some [.d (.sl Key.tok y1), .d (.int .i64 y2)]])) := by kernel_rfl

theorem gc53_0 (C : Tab) (ρ : Type) (K : Res sig × Mem sig → Option ρ) (a1 : List Tok) (a2 : Int) : evF Tryd.prog lay (T C) (LT C) hints dfT 53 [.ptr 0 0] [some [.d (.sl Key.tok a1), .d (.int .i64 a2)]] K =
    Gc53_0 C ρ a1 a2 (fun (y0 : It) (y1 : List Tok) (y2 : Int) => K (.ret (.agg [.d (.str y0.word), .d (.str y0.name), .d (.int .i64 y0.raw.op), .d (.str y0.raw.name), .d (.sl Key.raw y0.raw.args), .d (.sl Key.part y0.parts)]), [some [.d (.sl Key.tok y1), .d (.int .i64 y2)]])) (fun (y0 : Int) (y1 : Int) (y2 : List Tok) (y3 : Int) => K (.pan (.iface 90 (.agg [.d (.int .i64 y0), .d (.int .i64 y1)])), [some [.d (.sl Key.tok y2), .d (.int .i64 y3)]])) := by kernel_rfl

theorem gc57_0 (C : Tab) (ρ : Type) (K : Res sig × Mem sig → Option ρ) (a1 : ByteArray) : evF Tryd.prog lay (T C) (LT C) hints dfT 57 [.d (.str a1)] [] K =
    Gc57_0 C ρ a1 (fun (y0 : Bool) => K (.ret (.d (.bool y0)), [])) := by kernel_rfl

theorem gc62_0 (C : Tab) (ρ : Type) (K : Res sig × Mem sig → Option ρ) (a1 : Int) (a2 : ByteArray) (a3 : Bool) : evF Tryd.prog lay (T C) (LT C) hints dfT 62 [.d (.int .i64 a1), .d (.str a2), .d (.bool a3)] [] K =
    Gc62_0 C ρ a1 a2 a3 (fun (y0 : Int) (y1 : ByteArray) => K (.ret (.tup [.d (.int .i64 y0), .d (.str y1)]), [])) := by kernel_rfl

theorem gc66_0 (C : Tab) (ρ : Type) (K : Res sig × Mem sig → Option ρ) (a1 : Int) : evF Tryd.prog lay (T C) (LT C) hints dfT 66 [.d (.int .u8 a1)] [] K =
    Gc66_0 C ρ a1 (fun (y0 : Bool) => K (.ret (.d (.bool y0)), [])) := by kernel_rfl

theorem gc70_0 (C : Tab) (ρ : Type) (K : Res sig × Mem sig → Option ρ) (a1 : ByteArray) : evF Tryd.prog lay (T C) (LT C) hints dfT 70 [.d (.str a1)] [] K =
    Gc70_0 C ρ a1 (fun (y0 : Bool) => K (.ret (.d (.bool y0)), [])) := by kernel_rfl

theorem gc74_0 (C : Tab) (ρ : Type) (K : Res sig × Mem sig → Option ρ) (a1 : ByteArray) (a2 : Int) : evF Tryd.prog lay (T C) (LT C) hints dfT 74 [.ptr 0 0, .ptr 1 0] [some [.d (.str a1), .d (.int .i64 a2)], some [.fn (.func 62) [] []]] K =
    Gc74_0 C ρ a1 a2 (fun (y0 : Int) (y1 : ByteArray) (y2 : ByteArray) (y3 : Int) => K (.ret (.tup [.d (.int .i64 y0), .d (.str y1)]), [some [.d (.str y2), .d (.int .i64 y3)], some [.fn (.func 62) [] []]])) := by kernel_rfl

theorem gc78_0 (C : Tab) (ρ : Type) (K : Res sig × Mem sig → Option ρ) (a1 : List Tok) (a2 : Int) : evF Tryd.prog lay (T C) (LT C) hints dfT 78 [.ptr 0 0] [some [.d (.sl Key.tok a1), .d (.int .i64 a2)]] K =
    Gc78_0 C ρ a1 a2 (fun (y0 : Rw) (y1 : List Tok) (y2 : Int) => K (.ret (.agg [.d (.int .i64 y0.op), .d (.str y0.name), .d (.sl Key.raw y0.args)]), [some [.d (.sl Key.tok y1), .d (.int .i64 y2)]])) (fun (y0 : Int) (y1 : Int) (y2 : List Tok) (y3 : Int) => K (.pan (.iface 90 (.agg [.d (.int .i64 y0), .d (.int .i64 y1)])), [some [.d (.sl Key.tok y2), .d (.int .i64 y3)]])) := by kernel_rfl

theorem gc82_0 (C : Tab) (ρ : Type) (K : Res sig × Mem sig → Option ρ) (a1 : ByteArray) : evF Tryd.prog lay (T C) (LT C) hints dfT 82 [.d (.str a1), .fn (.func 63) [] []] [] K =
    Gc82_0 C ρ a1 (fun (y0 : Bool) => K (.ret (.d (.bool y0)), [])) := by kernel_rfl

theorem gc86_0 (C : Tab) (ρ : Type) (K : Res sig × Mem sig → Option ρ) (a1 : Int) : evF Tryd.prog lay (T C) (LT C) hints dfT 86 [.d (.int .u8 a1)] [] K =
    Gc86_0 C ρ a1 (fun (y0 : Bool) => K (.ret (.d (.bool y0)), [])) := by kernel_rfl

theorem gc92_0 (C : Tab) (ρ : Type) (K : Res sig × Mem sig → Option ρ) (a1 : Int) : evF Tryd.prog lay (T C) (LT C) hints dfT 92 [.d (.int .u8 a1)] [] K =
    Gc92_0 C ρ a1 (fun (y0 : Bool) => K (.ret (.d (.bool y0)), [])) := by kernel_rfl

theorem gl8_9_0 (C : Tab) (ρ : Type) (K : Ex sig → St sig → Option ρ) (a1 : Int) (a2 : Int) (a3 : Rw) (a4 : Rw) : evK Tryd.prog lay (T C) (LT C) hints 8 0 (bodyOf Tryd.prog 8 9) (canon [0, 3, 4, 30] [.d (.int .i64 a1), .ptr 0 0, .ptr 1 0, .d (.int .i64 a2)] [some [.d (.int .i64 a3.op), .d (.str a3.name), .full Key.raw a3.args], some [.d (.int .i64 a4.op), .d (.str a4.name), .full Key.raw a4.args]] [] 130) (loopNext (LT C) PK 8 0 9 K) =
    Gl8_9_0 C ρ a1 a2 a3 a4 (fun (y0 : Int) (y1 : Rw) (y2 : Rw) => K (.exit 2) (canon [0, 3, 4] [.d (.int .i64 y0), .ptr 0 0, .ptr 1 0] [some [.d (.int .i64 y1.op), .d (.str y1.name), .full Key.raw y1.args], some [.d (.int .i64 y2.op), .d (.str y2.name), .full Key.raw y2.args]] [] 130)) := by kernel_rfl

theorem gl8_33_0 (C : Tab) (ρ : Type) (K : Ex sig → St sig → Option ρ) (a1 : Int) (a2 : Int) (a3 : List Int) (a4 : Int) (a5 : Int) (a6 : Rw) (a7 : Rw) (a8 : Rw) : evK Tryd.prog lay (T C) (LT C) hints 8 0 (bodyOf Tryd.prog 8 33) (canon [0, 3, 6, 7, 10, 81, 82] [.d (.int .i64 a1), .ptr 0 0, .ptr 2 0, .d (.int .i64 a2), .own Key.u8 a3, .d (.int .i64 a4), .d (.int .i64 a5)] [some [.d (.int .i64 a6.op), .d (.str a6.name), .full Key.raw a6.args], some [.d (.int .i64 a7.op), .d (.str a7.name), .full Key.raw a7.args], some [.d (.int .i64 a8.op), .d (.str a8.name), .full Key.raw a8.args]] [] 130) (loopNext (LT C) PK 8 0 33 K) =
    Gl8_33_0 C ρ a1 a2 a3 a4 a5 a6 a7 a8 (fun (y0 : Int) (y1 : Int) (y2 : List Int) (y3 : Rw) (y4 : Rw) (y5 : Rw) => K (.exit 10) (canon [0, 3, 6, 7, 10] [.d (.int .i64 y0), .ptr 0 0, .ptr 2 0, .d (.int .i64 y1), .own Key.u8 y2] [some [.d (.int .i64 y3.op), .d (.str y3.name), .full Key.raw y3.args], some [.d (.int .i64 y4.op), .d (.str y4.name), .full Key.raw y4.args], some [.d (.int .i64 y5.op), .d (.str y5.name), .full Key.raw y5.args]] [] 130)) := by kernel_rfl

theorem gl24_3_0 (C : Tab) (ρ : Type) (K : Ex sig → St sig → Option ρ) (a1 : Int) (a2 : Int) (a3 : Int) (a4 : Rw) : evK Tryd.prog lay (T C) (LT C) hints 24 0 (bodyOf Tryd.prog 24 3) (canon [1, 2, 5, 6] [.d (.int .i64 a1), .ptr 0 0, .d (.int .i64 a2), .d (.int .i64 a3)] [some [.d (.int .i64 a4.op), .d (.str a4.name), .d (.sl Key.raw a4.args)]] [] 34) (loopNext (LT C) PK 24 0 3 K) =
    Gl24_3_0 C ρ a1 a2 a3 a4 (fun (y0 : Int) (y1 : Int) => K (.exit 0) (canon [1, 5] [.d (.int .i64 y0), .d (.int .i64 y1)] [] [] 34)) := by kernel_rfl

theorem gl38_9_0 (C : Tab) (ρ : Type) (K : Ex sig → St sig → Option ρ) (a1 : List Pt) (a2 : Int) (a3 : Int) (a4 : It) (a5 : Int) : evK Tryd.prog lay (T C) (LT C) hints 38 0 (bodyOf Tryd.prog 38 9) (canon [3, 43, 44, 45] [.ptr 1 0, .d (.sl Key.part a1), .d (.int .i64 a2), .d (.int .i64 a3)] [some [.d (.str a4.word), .d (.str a4.name), .d (.int .i64 a4.raw.op), .d (.str a4.raw.name), .d (.sl Key.raw a4.raw.args), .d (.sl Key.part a4.parts)], some [.d (.int .i64 a5)]] [] 53) (loopNext (LT C) PK 38 0 9 K) =
    Gl38_9_0 C ρ a1 a2 a3 a4 a5 (K (.exit 0) (canon [] [] [] [] 53)) (fun (y0 : Int) => K .ret (canon [2] [.d (.int .i64 y0)] [] [] 53)) := by kernel_rfl

theorem gl58_2_0 (C : Tab) (ρ : Type) (K : Ex sig → St sig → Option ρ) (a1 : List Int) (a2 : Int) (a3 : Int) (a4 : Int) : evK Tryd.prog lay (T C) (LT C) hints 58 0 (bodyOf Tryd.prog 58 2) (canon [0, 1, 7, 8] [.d (.sl Key.int a1), .d (.int .i64 a2), .d (.int .i64 a3), .d (.int .i64 a4)] [] [] 19) (loopNext (LT C) PK 58 0 2 K) =
    Gl58_2_0 C ρ a1 a2 a3 a4 (fun (y0 : Int) => K .ret (canon [4] [.d (.int .i64 y0)] [] [] 19)) (K (.exit 0) (canon [] [] [] [] 19)) := by kernel_rfl

theorem gl82_4_0 (C : Tab) (ρ : Type) (K : Ex sig → St sig → Option ρ) (a1 : ByteArray) (a2 : Int) (a3 : Int) : evK Tryd.prog lay (T C) (LT C) hints 82 0 (bodyOf Tryd.prog 82 4) (canon [0, 22, 23] [.d (.str a1), .d (.int .i64 a2), .d (.int .i64 a3)] [] [] 32) (loopNext (LT C) PK 82 0 4 K) =
    Gl82_4_0 C ρ a1 a2 a3 (K (.exit 0) (canon [] [] [] [] 32)) (fun (y0 : Bool) => K .ret (canon [4] [.d (.bool y0)] [] [] 32)) := by kernel_rfl

end Go.Proofs.YtanfoijdfcnpoaaDoor.Ev
