/- This file proves that the evaluator does with each function and loop what the typed functions say; without any condition. -/
import Derived.Test.YtanfoijdfcnpoaaGreatDoorGR
set_option linter.unusedVariables false
set_option linter.unusedSimpArgs false
namespace Go.Proofs.YtanfoijdfcnpoaaGreatDoor.Ev

theorem gc8_0 (C : Tab) (ρ : Type) (K : Res sig × Mem sig → Option ρ) (a1 : ByteArray) : evF Tryz.prog lay (T C) (LT C) hints dfT 8 [.d (.str a1)] [] K =
    Gc8_0 C ρ a1 (fun (y0 : Rw) (y1 : Int) (y2 : Int) => K (.ret (.tup [.agg [.d (.int .i64 y0.op), .d (.str y0.name), .d (.sl Key.raw y0.args)], .d (.int .i64 y1), .d (.int .i64 y2)]), [])) := by kernel_rfl

theorem gc14_0 (C : Tab) (ρ : Type) (K : Res sig × Mem sig → Option ρ) (a1 : ByteArray) : evF Tryz.prog lay (T C) (LT C) hints dfT 14 [.d (.str a1)] [] K =
    Gc14_0 C ρ a1 (fun (y0 : Bool) => K (.ret (.d (.bool y0)), [])) := by kernel_rfl

theorem gc26_0 (C : Tab) (ρ : Type) (K : Res sig × Mem sig → Option ρ) (a1 : It) : evF Tryz.prog lay (T C) (LT C) hints dfT 26 [.agg [.d (.str a1.word), .d (.str a1.name), .d (.int .i64 a1.raw.op), .d (.str a1.raw.name), .d (.sl Key.raw a1.raw.args), .d (.sl Key.part a1.parts)]] [] K =
    Gc26_0 C ρ a1 (fun (y0 : Bool) => K (.ret (.d (.bool y0)), [])) := by kernel_rfl

theorem gc32_0 (C : Tab) (ρ : Type) (K : Res sig × Mem sig → Option ρ) (a1 : List Tok) (a2 : Int) : evF Tryz.prog lay (T C) (LT C) hints dfT 32 [.ptr 0 0] [some [.d (.sl Key.tok a1), .d (.int .i64 a2)]] K =
    Gc32_0 C ρ a1 a2 (fun (y0 : Int) (y1 : Int) (y2 : List Tok) (y3 : Int) => K (.pan (.iface 114 (.agg [.d (.int .i64 y0), .d (.int .i64 y1)])), [some [.d (.sl Key.tok y2), .d (.int .i64 y3)]])) := by kernel_rfl

theorem gc36_0 (C : Tab) (ρ : Type) (K : Res sig × Mem sig → Option ρ) (a1 : List Tok) (a2 : Int) (a3 : Bool) : evF Tryz.prog lay (T C) (LT C) hints dfT 36 [.ptr 0 0] [some [.d (.sl Key.tok a1), .d (.int .i64 a2), .d (.bool a3)]] K =
    Gc36_0 C ρ a1 a2 a3 (fun (y0 : Tok) (y1 : List Tok) (y2 : Int) (y3 : Bool) => K (.ret (.agg [.d (.int .i64 y0.kind), .d (.str y0.text), .d (.int .i64 (y0.at_))]), [some [.d (.sl Key.tok y1), .d (.int .i64 y2), .d (.bool y3)]])) := by kernel_rfl

theorem gc43_0 (C : Tab) (ρ : Type) (K : Res sig × Mem sig → Option ρ) (a1 : Rw) (a2 : Int) : evF Tryz.prog lay (T C) (LT C) hints dfT 43 [.agg [.d (.int .i64 a1.op), .d (.str a1.name), .d (.sl Key.raw a1.args)], .d (.int .i64 a2)] [] K =
    Gc43_0 C ρ a1 a2 (fun (y0 : Bool) => K (.ret (.d (.bool y0)), [])) := by kernel_rfl

theorem gc53_0 (C : Tab) (ρ : Type) (K : Res sig × Mem sig → Option ρ) (a1 : Pt) (a2 : Pt) : evF Tryz.prog lay (T C) (LT C) hints dfT 53 [.agg [.d (.int .i64 a1.op), .d (.str a1.sign), .d (.str a1.name), .d (.int .i64 a1.num), .d (.int .i64 a1.raw.op), .d (.str a1.raw.name), .d (.sl Key.raw a1.raw.args), .d (.sl Key.part a1.parts)], .agg [.d (.int .i64 a2.op), .d (.str a2.sign), .d (.str a2.name), .d (.int .i64 a2.num), .d (.int .i64 a2.raw.op), .d (.str a2.raw.name), .d (.sl Key.raw a2.raw.args), .d (.sl Key.part a2.parts)]] [] K =
    Gc53_0 C ρ a1 a2 (fun (y0 : Bool) => K (.ret (.d (.bool y0)), [])) := by kernel_rfl

theorem gc57_0 (C : Tab) (ρ : Type) (K : Res sig × Mem sig → Option ρ) (a1 : Rw) (a2 : List Int) : evF Tryz.prog lay (T C) (LT C) hints dfT 57 [.agg [.d (.int .i64 a1.op), .d (.str a1.name), .d (.sl Key.raw a1.args)], .d (.sl Key.int a2)] [] K =
    Gc57_0 C ρ a1 a2 (fun (y0 : ByteArray) => K (.ret (.d (.str y0)), [])) := by kernel_rfl

theorem gc62_0 (C : Tab) (ρ : Type) (K : Res sig × Mem sig → Option ρ) (a1 : Pt) (a2 : Int) : evF Tryz.prog lay (T C) (LT C) hints dfT 62 [.agg [.d (.int .i64 a1.op), .d (.str a1.sign), .d (.str a1.name), .d (.int .i64 a1.num), .d (.int .i64 a1.raw.op), .d (.str a1.raw.name), .d (.sl Key.raw a1.raw.args), .d (.sl Key.part a1.parts)], .d (.int .i64 a2)] [] K =
    Gc62_0 C ρ a1 a2 (fun (y0 : Bool) => K (.ret (.d (.bool y0)), [])) := by kernel_rfl

theorem gc68_0 (C : Tab) (ρ : Type) (K : Res sig × Mem sig → Option ρ) (a1 : List Tok) (a2 : Int) : evF Tryz.prog lay (T C) (LT C) hints dfT 68 [.ptr 0 0] [some [.d (.sl Key.tok a1), .d (.int .i64 a2)]] K =
    Gc68_0 C ρ a1 a2 (fun (y0 : Rw) (y1 : List Tok) (y2 : Int) => K (.ret (.agg [.d (.int .i64 y0.op), .d (.str y0.name), .d (.sl Key.raw y0.args)]), [some [.d (.sl Key.tok y1), .d (.int .i64 y2)]])) (fun (y0 : Int) (y1 : Int) (y2 : List Tok) (y3 : Int) => K (.pan (.iface 114 (.agg [.d (.int .i64 y0), .d (.int .i64 y1)])), [some [.d (.sl Key.tok y2), .d (.int .i64 y3)]])) := by kernel_rfl

theorem gc72_0 (C : Tab) (ρ : Type) (K : Res sig × Mem sig → Option ρ) (a1 : ByteArray) (a2 : Int) : evF Tryz.prog lay (T C) (LT C) hints dfT 72 [.d (.str a1), .d (.int .i64 a2)] [] K =
    Gc72_0 C ρ a1 a2 (fun (y0 : Tok) (y1 : Bool) => K (.ret (.tup [.agg [.d (.int .i64 y0.kind), .d (.str y0.text), .d (.int .i64 (y0.at_))], .d (.bool y1)]), [])) := by kernel_rfl

theorem gc76_0 (C : Tab) (ρ : Type) (K : Res sig × Mem sig → Option ρ) (a1 : ByteArray) (a2 : List Tok) (a3 : Int) (a4 : Bool) : evF Tryz.prog lay (T C) (LT C) hints dfT 76 [.ptr 0 0, .d (.str a1)] [some [.d (.sl Key.tok a2), .d (.int .i64 a3), .d (.bool a4)]] K =
    Gc76_0 C ρ a1 a2 a3 a4 (fun (y0 : Bool) (y1 : List Tok) (y2 : Int) (y3 : Bool) => K (.ret (.d (.bool y0)), [some [.d (.sl Key.tok y1), .d (.int .i64 y2), .d (.bool y3)]])) := by kernel_rfl

theorem gc83_0 (C : Tab) (ρ : Type) (K : Res sig × Mem sig → Option ρ) (a1 : ByteArray) (a2 : Int) : evF Tryz.prog lay (T C) (LT C) hints dfT 83 [.d (.str a1), .d (.int .i64 a2)] [] K =
    Gc83_0 C ρ a1 a2 (fun (y0 : Int) => K (.ret (.d (.int .i64 y0)), [])) := by kernel_rfl

theorem gc91_0 (C : Tab) (ρ : Type) (K : Res sig × Mem sig → Option ρ) (a1 : ByteArray) (a2 : List Tok) (a3 : Int) (a4 : Bool) : evF Tryz.prog lay (T C) (LT C) hints dfT 91 [.ptr 0 0, .d (.str a1)] [some [.d (.sl Key.tok a2), .d (.int .i64 a3), .d (.bool a4)]] K =
    Gc91_0 C ρ a1 a2 a3 a4 (fun (y0 : List Pt) (y1 : List Tok) (y2 : Int) (y3 : Bool) => K (.ret (.d (.sl Key.part y0)), [some [.d (.sl Key.tok y1), .d (.int .i64 y2), .d (.bool y3)]])) := by kernel_rfl

theorem gc94_0 (C : Tab) (ρ : Type) (K : Res sig × Mem sig → Option ρ) (a1 : List Int) (a2 : Int) : evF Tryz.prog lay (T C) (LT C) hints dfT 94 [.d (.sl Key.int a1), .d (.int .i64 a2)] [] K =
    Gc94_0 C ρ a1 a2 (fun (y0 : Bool) => K (.ret (.d (.bool y0)), [])) := by kernel_rfl

theorem gc104_0 (C : Tab) (ρ : Type) (K : Res sig × Mem sig → Option ρ) (a1 : Int) (a2 : ByteArray) (a3 : Bool) : evF Tryz.prog lay (T C) (LT C) hints dfT 104 [.d (.int .i64 a1), .d (.str a2), .d (.bool a3)] [] K =
    Gc104_0 C ρ a1 a2 a3 (fun (y0 : Int) (y1 : ByteArray) => K (.ret (.tup [.d (.int .i64 y0), .d (.str y1)]), [])) := by kernel_rfl

theorem gc108_0 (C : Tab) (ρ : Type) (K : Res sig × Mem sig → Option ρ) (a1 : ByteArray) (a2 : Int) : evF Tryz.prog lay (T C) (LT C) hints dfT 108 [.ptr 0 0, .ptr 1 0] [some [.d (.str a1), .d (.int .i64 a2)], some [.fn (.func 104) [] []]] K =
    Gc108_0 C ρ a1 a2 (fun (y0 : Int) (y1 : ByteArray) (y2 : ByteArray) (y3 : Int) => K (.ret (.tup [.d (.int .i64 y0), .d (.str y1)]), [some [.d (.str y2), .d (.int .i64 y3)], some [.fn (.func 104) [] []]])) := by kernel_rfl

theorem gc112_0 (C : Tab) (ρ : Type) (K : Res sig × Mem sig → Option ρ) (a1 : ByteArray) (a2 : Int) : evF Tryz.prog lay (T C) (LT C) hints dfT 112 [.ptr 0 0, .ptr 1 0] [some [.d (.str a1), .d (.int .i64 a2)], some [.fn (.func 104) [] []]] K =
    Gc112_0 C ρ a1 a2 (fun (y0 : Int) (y1 : ByteArray) (y2 : ByteArray) (y3 : Int) => K (.ret (.tup [.d (.int .i64 y0), .d (.str y1)]), [some [.d (.str y2), .d (.int .i64 y3)], some [.fn (.func 104) [] []]])) := by kernel_rfl

theorem gc116_0 (C : Tab) (ρ : Type) (K : Res sig × Mem sig → Option ρ) (a1 : ByteArray) (a2 : Int) (a3 : Int) : evF Tryz.prog lay (T C) (LT C) hints dfT 116 [.ptr 0 0, .ptr 1 0, .ptr 2 0] [some [.d (.str a1), .d (.int .i64 a2)], some [.fn (.func 104) [] []], some [.d (.int .u8 a3)]] K =
    Gc116_0 C ρ a1 a2 a3 (fun (y0 : Int) (y1 : ByteArray) (y2 : ByteArray) (y3 : Int) (y4 : Int) => K (.ret (.tup [.d (.int .i64 y0), .d (.str y1)]), [some [.d (.str y2), .d (.int .i64 y3)], some [.fn (.func 104) [] []], some [.d (.int .u8 y4)]])) := by kernel_rfl

theorem gc120_0 (C : Tab) (ρ : Type) (K : Res sig × Mem sig → Option ρ) (a1 : List Tok) (a2 : Int) : evF Tryz.prog lay (T C) (LT C) hints dfT 120 [.ptr 0 0] [some [.d (.sl Key.tok a1), .d (.int .i64 a2)]] K =
    Gc120_0 C ρ a1 a2 (fun (y0 : Bool) (y1 : List Tok) (y2 : Int) => K (.ret (.d (.bool y0)), [some [.d (.sl Key.tok y1), .d (.int .i64 y2)]])) := by kernel_rfl

theorem gc124_0 (C : Tab) (ρ : Type) (K : Res sig × Mem sig → Option ρ) (a1 : List Tok) (a2 : Int) (a3 : Bool) : evF Tryz.prog lay (T C) (LT C) hints dfT 124 [.ptr 0 0] [some [.d (.sl Key.tok a1), .d (.int .i64 a2), .d (.bool a3)]] K =
    Gc124_0 C ρ a1 a2 a3 (fun (y0 : Rw) (y1 : List Tok) (y2 : Int) (y3 : Bool) => K (.ret (.agg [.d (.int .i64 y0.op), .d (.str y0.name), .d (.sl Key.raw y0.args)]), [some [.d (.sl Key.tok y1), .d (.int .i64 y2), .d (.bool y3)]])) := by kernel_rfl

theorem gc129_0 (C : Tab) (ρ : Type) (K : Res sig × Mem sig → Option ρ) (a1 : ByteArray) (a2 : List Tok) (a3 : Int) : evF Tryz.prog lay (T C) (LT C) hints dfT 129 [.ptr 0 0, .d (.str a1)] [some [.d (.sl Key.tok a2), .d (.int .i64 a3)]] K =
    Gc129_0 C ρ a1 a2 a3 (fun (y0 : List Pt) (y1 : List Tok) (y2 : Int) => K (.ret (.d (.sl Key.part y0)), [some [.d (.sl Key.tok y1), .d (.int .i64 y2)]])) (fun (y0 : Int) (y1 : Int) (y2 : List Tok) (y3 : Int) => K (.pan (.iface 114 (.agg [.d (.int .i64 y0), .d (.int .i64 y1)])), [some [.d (.sl Key.tok y2), .d (.int .i64 y3)]])) := by kernel_rfl

theorem gc133_0 (C : Tab) (ρ : Type) (K : Res sig × Mem sig → Option ρ) (a1 : List Int) (a2 : Int) : evF Tryz.prog lay (T C) (LT C) hints dfT 133 [.d (.sl Key.int a1), .d (.int .i64 a2)] [] K =
    Gc133_0 C ρ a1 a2 (fun (y0 : Int) => K (.ret (.d (.int .i64 y0)), [])) := by kernel_rfl

theorem gc143_0 (C : Tab) (ρ : Type) (K : Res sig × Mem sig → Option ρ) (a1 : List Tok) (a2 : Int) (a3 : Bool) : evF Tryz.prog lay (T C) (LT C) hints dfT 143 [.ptr 0 0] [some [.d (.sl Key.tok a1), .d (.int .i64 a2), .d (.bool a3)]] K =
    Gc143_0 C ρ a1 a2 a3 (fun (y0 : Pt) (y1 : List Tok) (y2 : Int) (y3 : Bool) => K (.ret (.agg [.d (.int .i64 y0.op), .d (.str y0.sign), .d (.str y0.name), .d (.int .i64 y0.num), .d (.int .i64 y0.raw.op), .d (.str y0.raw.name), .d (.sl Key.raw y0.raw.args), .d (.sl Key.part y0.parts)]), [some [.d (.sl Key.tok y1), .d (.int .i64 y2), .d (.bool y3)]])) := by kernel_rfl

theorem gl10_4_0 (C : Tab) (ρ : Type) (K : Ex sig → St sig → Option ρ) (a1 : Int) (a2 : Rw) (a3 : Rw) : evK Tryz.prog lay (T C) (LT C) hints 10 0 (bodyOf Tryz.prog 10 4) (canon [2, 3, 5] [.ptr 0 0, .ptr 1 0, .d (.int .i64 a1)] [some [.d (.int .i64 a2.op), .d (.str a2.name), .d (.sl Key.raw a2.args)], some [.d (.int .i64 a3.op), .d (.str a3.name), .d (.sl Key.raw a3.args)]] [] 46) (loopNext (LT C) PK 10 0 4 K) =
    Gl10_4_0 C ρ a1 a2 a3 (fun (y0 : Bool) => K .ret (canon [4] [.d (.bool y0)] [] [] 46)) (K (.exit 0) (canon [] [] [] [] 46)) := by kernel_rfl

theorem gl23_4_0 (C : Tab) (ρ : Type) (K : Ex sig → St sig → Option ρ) (a1 : Int) (a2 : It) (a3 : It) : evK Tryz.prog lay (T C) (LT C) hints 23 0 (bodyOf Tryz.prog 23 4) (canon [2, 3, 5] [.ptr 0 0, .ptr 1 0, .d (.int .i64 a1)] [some [.d (.str a2.word), .d (.str a2.name), .d (.int .i64 a2.raw.op), .d (.str a2.raw.name), .d (.sl Key.raw a2.raw.args), .d (.sl Key.part a2.parts)], some [.d (.str a3.word), .d (.str a3.name), .d (.int .i64 a3.raw.op), .d (.str a3.raw.name), .d (.sl Key.raw a3.raw.args), .d (.sl Key.part a3.parts)]] [] 54) (loopNext (LT C) PK 23 0 4 K) =
    Gl23_4_0 C ρ a1 a2 a3 (K (.exit 0) (canon [] [] [] [] 54)) (fun (y0 : Bool) => K .ret (canon [4] [.d (.bool y0)] [] [] 54)) := by kernel_rfl

theorem gl30_4_0 (C : Tab) (ρ : Type) (K : Ex sig → St sig → Option ρ) (a1 : Bool) (a2 : List Tok) (a3 : Int) (a4 : Rw) (a5 : Rw) : evK Tryz.prog lay (T C) (LT C) hints 30 1 (bodyOf Tryz.prog 30 4) (canon [0, 2, 3, 4] [.ptr 0 0, .ptr 1 0, .ptr 2 0, .d (.bool a1)] [some [.d (.sl Key.tok a2), .d (.int .i64 a3)], some [.d (.int .i64 a4.op), .d (.str a4.name), .full Key.raw a4.args], some [.d (.int .i64 a5.op), .d (.str a5.name), .d (.sl Key.raw a5.args)]] [] 63) (loopNext (LT C) PK 30 1 4 K) =
    Gl30_4_0 C ρ a1 a2 a3 a4 a5 (fun (y0 : List Tok) (y1 : Int) (y2 : Rw) (y3 : Rw) => K (.exit 1) (canon [2, 3] [.ptr 1 0, .ptr 2 0] [some [.d (.sl Key.tok y0), .d (.int .i64 y1)], some [.d (.int .i64 y2.op), .d (.str y2.name), .full Key.raw y2.args], some [.d (.int .i64 y3.op), .d (.str y3.name), .d (.sl Key.raw y3.args)]] [] 63)) (fun (y0 : List Tok) (y1 : Int) (y2 : Rw) (y3 : Int) (y4 : Int) => K (.pan (.iface 114 (.agg [.d (.int .i64 y3), .d (.int .i64 y4)]))) (canon [2] [.ptr 1 0] [some [.d (.sl Key.tok y0), .d (.int .i64 y1)], some [.d (.int .i64 y2.op), .d (.str y2.name), .full Key.raw y2.args]] [] 63)) := by kernel_rfl

theorem gl43_18_0 (C : Tab) (ρ : Type) (K : Ex sig → St sig → Option ρ) (a1 : Int) (a2 : Int) (a3 : Rw) : evK Tryz.prog lay (T C) (LT C) hints 43 0 (bodyOf Tryz.prog 43 18) (canon [1, 2, 7] [.d (.int .i64 a1), .ptr 0 0, .d (.int .i64 a2)] [some [.d (.int .i64 a3.op), .d (.str a3.name), .d (.sl Key.raw a3.args)]] [] 62) (loopNext (LT C) PK 43 0 18 K) =
    Gl43_18_0 C ρ a1 a2 a3 (fun (y0 : Bool) => K .ret (canon [4] [.d (.bool y0)] [] [] 62)) (K (.exit 1) (canon [] [] [] [] 62)) := by kernel_rfl

theorem gl62_23_0 (C : Tab) (ρ : Type) (K : Ex sig → St sig → Option ρ) (a1 : Int) (a2 : Bool) (a3 : Int) (a4 : Pt) : evK Tryz.prog lay (T C) (LT C) hints 62 0 (bodyOf Tryz.prog 62 23) (canon [1, 2, 5, 6] [.d (.int .i64 a1), .ptr 0 0, .d (.bool a2), .d (.int .i64 a3)] [some [.d (.int .i64 a4.op), .d (.str a4.sign), .d (.str a4.name), .d (.int .i64 a4.num), .d (.int .i64 a4.raw.op), .d (.str a4.raw.name), .d (.sl Key.raw a4.raw.args), .d (.sl Key.part a4.parts)]] [] 229) (loopNext (LT C) PK 62 0 23 K) =
    Gl62_23_0 C ρ a1 a2 a3 a4 (fun (y0 : Bool) => K .ret (canon [4] [.d (.bool y0)] [] [] 229)) (fun (y0 : Bool) (y1 : Pt) => K (.exit 1) (canon [2, 5] [.ptr 0 0, .d (.bool y0)] [some [.d (.int .i64 y1.op), .d (.str y1.sign), .d (.str y1.name), .d (.int .i64 y1.num), .d (.int .i64 y1.raw.op), .d (.str y1.raw.name), .d (.sl Key.raw y1.raw.args), .d (.sl Key.part y1.parts)]] [] 229)) := by kernel_rfl

theorem gl71_1_0 (C : Tab) (ρ : Type) (K : Ex sig → St sig → Option ρ) (a1 : ByteArray) (a2 : Int) : evK Tryz.prog lay (T C) (LT C) hints 71 0 (bodyOf Tryz.prog 71 1) (canon [0, 1] [.d (.str a1), .d (.int .i64 a2)] [] [] 59) (loopNext (LT C) PK 71 0 1 K) =
    Gl71_1_0 C ρ a1 a2 (fun (y0 : Int) => K .ret (canon [4] [.d (.int .i64 y0)] [] [] 59)) (fun (y0 : Int) => K (.exit 0) (canon [1] [.d (.int .i64 y0)] [] [] 59)) := by kernel_rfl

theorem gl91_2_0 (C : Tab) (ρ : Type) (K : Ex sig → St sig → Option ρ) (a1 : ByteArray) (a2 : List Pt) (a3 : List Tok) (a4 : Int) (a5 : Bool) : evK Tryz.prog lay (T C) (LT C) hints 91 1 (bodyOf Tryz.prog 91 2) (canon [0, 1, 5] [.ptr 0 0, .d (.str a1), .own Key.part a2] [some [.d (.sl Key.tok a3), .d (.int .i64 a4), .d (.bool a5)]] [] 26) (loopNext (LT C) PK 91 1 2 K) =
    Gl91_2_0 C ρ a1 a2 a3 a4 a5 (fun (y0 : ByteArray) (y1 : List Pt) (y2 : List Tok) (y3 : Int) (y4 : Bool) => K (.exit 0) (canon [0, 1, 5] [.ptr 0 0, .d (.str y0), .own Key.part y1] [some [.d (.sl Key.tok y2), .d (.int .i64 y3), .d (.bool y4)]] [] 26)) := by kernel_rfl

theorem gl122_5_0 (C : Tab) (ρ : Type) (K : Ex sig → St sig → Option ρ) (a1 : ByteArray) (a2 : Int) (a3 : Int) : evK Tryz.prog lay (T C) (LT C) hints 122 0 (bodyOf Tryz.prog 122 5) (canon [0, 4, 5] [.d (.str a1), .d (.int .i64 a2), .d (.int .i64 a3)] [] [] 51) (loopNext (LT C) PK 122 0 5 K) =
    Gl122_5_0 C ρ a1 a2 a3 (fun (y0 : Int) (y1 : Bool) => K .ret (canon [2, 3] [.d (.int .i64 y0), .d (.bool y1)] [] [] 51)) (fun (y0 : Int) => K (.exit 0) (canon [4] [.d (.int .i64 y0)] [] [] 51)) := by kernel_rfl

end Go.Proofs.YtanfoijdfcnpoaaGreatDoor.Ev
