/- This file proves that the evaluator does with each function and loop what the typed functions say; without any condition. -/
import Derived.Test.YtanfoijdfcnpoaaDoorGR
set_option linter.unusedVariables false
set_option linter.unusedSimpArgs false
namespace Go.Proofs.YtanfoijdfcnpoaaDoor.Ev

theorem gc7_0 (C : Tab) (ρ : Type) (K : Res sig × Mem sig → Option ρ) (a1 : ByteArray) (a2 : ByteArray) : evF Tryd.prog lay (T C) (LT C) hints dfT 7 [.d (.str a1), .d (.str a2)] [] K =
    Gc7_0 C ρ a1 a2 (fun (y0 : Bool) => K (.ret (.d (.bool y0)), [])) := by kernel_rfl

theorem gc12_0 (C : Tab) (ρ : Type) (K : Res sig × Mem sig → Option ρ) : evF Tryd.prog lay (T C) (LT C) hints dfT 12 [] [] K =
    Gc12_0 C ρ (fun (y0 : Bool) => K (.ret (.d (.bool y0)), [])) := by kernel_rfl

theorem gc21_0 (C : Tab) (ρ : Type) (K : Res sig × Mem sig → Option ρ) (a1 : It) (a2 : It) : evF Tryd.prog lay (T C) (LT C) hints dfT 21 [.agg [.d (.str a1.word), .d (.str a1.name), .d (.int .i64 a1.raw.op), .d (.str a1.raw.name), .d (.sl Key.raw a1.raw.args), .d (.sl Key.part a1.parts)], .agg [.d (.str a2.word), .d (.str a2.name), .d (.int .i64 a2.raw.op), .d (.str a2.raw.name), .d (.sl Key.raw a2.raw.args), .d (.sl Key.part a2.parts)]] [] K =
    Gc21_0 C ρ a1 a2 (fun (y0 : Bool) => K (.ret (.d (.bool y0)), [])) := by kernel_rfl

theorem gc25_0 (C : Tab) (ρ : Type) (K : Res sig × Mem sig → Option ρ) (a1 : Rw) (a2 : Int) : evF Tryd.prog lay (T C) (LT C) hints dfT 25 [.agg [.d (.int .i64 a1.op), .d (.str a1.name), .d (.sl Key.raw a1.args)], .d (.int .i64 a2)] [] K =
    Gc25_0 C ρ a1 a2 (fun (y0 : Bool) => K (.ret (.d (.bool y0)), [])) := by kernel_rfl

theorem gc30_0 (C : Tab) (ρ : Type) (K : Res sig × Mem sig → Option ρ) (a1 : List Tok) (a2 : Int) : evF Tryd.prog lay (T C) (LT C) hints dfT 30 [.ptr 0 0] [some [.d (.sl Key.tok a1), .d (.int .i64 a2)]] K =
    Gc30_0 C ρ a1 a2 (fun (y0 : Rw) (y1 : List Tok) (y2 : Int) => K (.ret (.agg [.d (.int .i64 y0.op), .d (.str y0.name), .d (.sl Key.raw y0.args)]), [some [.d (.sl Key.tok y1), .d (.int .i64 y2)]])) (fun (y0 : Int) (y1 : Int) (y2 : List Tok) (y3 : Int) => K (.pan (.iface 90 (.agg [.d (.int .i64 y0), .d (.int .i64 y1)])), [some [.d (.sl Key.tok y2), .d (.int .i64 y3)]])) := by kernel_rfl

theorem gc38_0 (C : Tab) (ρ : Type) (K : Res sig × Mem sig → Option ρ) (a1 : It) : evF Tryd.prog lay (T C) (LT C) hints dfT 38 [.agg [.d (.str a1.word), .d (.str a1.name), .d (.int .i64 a1.raw.op), .d (.str a1.raw.name), .d (.sl Key.raw a1.raw.args), .d (.sl Key.part a1.parts)]] [] K =
    Gc38_0 C ρ a1 (fun (y0 : Int) => K (.ret (.d (.int .i64 y0)), [])) := by kernel_rfl

theorem gc42_0 (C : Tab) (ρ : Type) (K : Res sig × Mem sig → Option ρ) (a1 : ByteArray) : evF Tryd.prog lay (T C) (LT C) hints dfT 42 [.d (.str a1)] [] K =
    Gc42_0 C ρ a1 (fun (y0 : Bool) => K (.ret (.d (.bool y0)), [])) := by kernel_rfl

theorem gc46_0 (C : Tab) (ρ : Type) (K : Res sig × Mem sig → Option ρ) (a1 : List Tok) (a2 : Int) : evF Tryd.prog lay (T C) (LT C) hints dfT 46 [.ptr 0 0] [some [.d (.sl Key.tok a1), .d (.int .i64 a2)]] K =
    Gc46_0 C ρ a1 a2 (fun (y0 : Rw) (y1 : List Tok) (y2 : Int) => K (.ret (.agg [.d (.int .i64 y0.op), .d (.str y0.name), .d (.sl Key.raw y0.args)]), [some [.d (.sl Key.tok y1), .d (.int .i64 y2)]])) (fun (y0 : Int) (y1 : Int) (y2 : List Tok) (y3 : Int) => K (.pan (.iface 90 (.agg [.d (.int .i64 y0), .d (.int .i64 y1)])), [some [.d (.sl Key.tok y2), .d (.int .i64 y3)]])) := by kernel_rfl

theorem gc54_0 (C : Tab) (ρ : Type) (K : Res sig × Mem sig → Option ρ) (a1 : ByteArray) : evF Tryd.prog lay (T C) (LT C) hints dfT 54 [.d (.str a1)] [] K =
    Gc54_0 C ρ a1 (fun (y0 : Bool) => K (.ret (.d (.bool y0)), [])) := by kernel_rfl

theorem gc58_0 (C : Tab) (ρ : Type) (K : Res sig × Mem sig → Option ρ) (a1 : List Int) (a2 : Int) : evF Tryd.prog lay (T C) (LT C) hints dfT 58 [.d (.sl Key.int a1), .d (.int .i64 a2)] [] K =
    Gc58_0 C ρ a1 a2 (fun (y0 : Int) => K (.ret (.d (.int .i64 y0)), [])) := by kernel_rfl

theorem gc63_0 (C : Tab) (ρ : Type) (K : Res sig × Mem sig → Option ρ) (a1 : Int) : evF Tryd.prog lay (T C) (LT C) hints dfT 63 [.d (.int .u8 a1)] [] K =
    Gc63_0 C ρ a1 (fun (y0 : Bool) => K (.ret (.d (.bool y0)), [])) := by kernel_rfl

theorem gc67_0 (C : Tab) (ρ : Type) (K : Res sig × Mem sig → Option ρ) (a1 : ByteArray) (a2 : Int) : evF Tryd.prog lay (T C) (LT C) hints dfT 67 [.ptr 0 0, .ptr 1 0] [some [.d (.str a1), .d (.int .i64 a2)], some [.fn (.func 62) [] []]] K =
    Gc67_0 C ρ a1 a2 (fun (y0 : Int) (y1 : ByteArray) (y2 : ByteArray) (y3 : Int) => K (.ret (.tup [.d (.int .i64 y0), .d (.str y1)]), [some [.d (.str y2), .d (.int .i64 y3)], some [.fn (.func 62) [] []]])) := by kernel_rfl

theorem gc71_0 (C : Tab) (ρ : Type) (K : Res sig × Mem sig → Option ρ) (a1 : ByteArray) (a2 : Int) : evF Tryd.prog lay (T C) (LT C) hints dfT 71 [.ptr 0 0, .ptr 1 0] [some [.d (.str a1), .d (.int .i64 a2)], some [.fn (.func 62) [] []]] K =
    Gc71_0 C ρ a1 a2 (fun (y0 : Int) (y1 : ByteArray) (y2 : ByteArray) (y3 : Int) => K (.ret (.tup [.d (.int .i64 y0), .d (.str y1)]), [some [.d (.str y2), .d (.int .i64 y3)], some [.fn (.func 62) [] []]])) := by kernel_rfl

theorem gc75_0 (C : Tab) (ρ : Type) (K : Res sig × Mem sig → Option ρ) (a1 : ByteArray) (a2 : Int) (a3 : Int) : evF Tryd.prog lay (T C) (LT C) hints dfT 75 [.ptr 0 0, .ptr 1 0, .ptr 2 0] [some [.d (.str a1), .d (.int .i64 a2)], some [.fn (.func 62) [] []], some [.d (.int .u8 a3)]] K =
    Gc75_0 C ρ a1 a2 a3 (fun (y0 : Int) (y1 : ByteArray) (y2 : ByteArray) (y3 : Int) (y4 : Int) => K (.ret (.tup [.d (.int .i64 y0), .d (.str y1)]), [some [.d (.str y2), .d (.int .i64 y3)], some [.fn (.func 62) [] []], some [.d (.int .u8 y4)]])) := by kernel_rfl

theorem gc79_0 (C : Tab) (ρ : Type) (K : Res sig × Mem sig → Option ρ) (a1 : List Tok) (a2 : Int) : evF Tryd.prog lay (T C) (LT C) hints dfT 79 [.ptr 0 0] [some [.d (.sl Key.tok a1), .d (.int .i64 a2)]] K =
    Gc79_0 C ρ a1 a2 (fun (y0 : Bool) (y1 : List Tok) (y2 : Int) => K (.ret (.d (.bool y0)), [some [.d (.sl Key.tok y1), .d (.int .i64 y2)]])) := by kernel_rfl

theorem gc82_1 (C : Tab) (ρ : Type) (K : Res sig × Mem sig → Option ρ) (a1 : ByteArray) : evF Tryd.prog lay (T C) (LT C) hints dfT 82 [.d (.str a1), .fn (.func 66) [] []] [] K =
    Gc82_1 C ρ a1 (fun (y0 : Bool) => K (.ret (.d (.bool y0)), [])) := by kernel_rfl

theorem gc89_0 (C : Tab) (ρ : Type) (K : Res sig × Mem sig → Option ρ) (a1 : Tok) : evF Tryd.prog lay (T C) (LT C) hints dfT 89 [.agg [.d (.int .i64 a1.kind), .d (.str a1.text), .d (.int .i64 (a1.at_))]] [] K =
    Gc89_0 C ρ a1 (fun (y0 : Bool) => K (.ret (.d (.bool y0)), [])) := by kernel_rfl

theorem gc93_0 (C : Tab) (ρ : Type) (K : Res sig × Mem sig → Option ρ) (a1 : Int) : evF Tryd.prog lay (T C) (LT C) hints dfT 93 [.d (.int .u8 a1)] [] K =
    Gc93_0 C ρ a1 (fun (y0 : Bool) => K (.ret (.d (.bool y0)), [])) := by kernel_rfl

theorem gl20_11_0 (C : Tab) (ρ : Type) (K : Ex sig → St sig → Option ρ) (a1 : List It) (a2 : Int) (a3 : Int) (a4 : List It) (a5 : Int) (a6 : Int) (mk : Nat) : evK Tryd.prog lay (T C) (LT C) hints 20 0 (bodyOf Tryd.prog 20 11) (canon [2, 3, 4, 31, 32, 33] [.ptr 0 0, .ptr 1 0, .ptr 2 0, .d (.sl Key.item a1), .d (.int .i64 a2), .d (.int .i64 a3)] [some [.d (.sl Key.item a4)], some [.d (.int .i64 a5)], some [.d (.int .i64 a6)]] [(1000000, [.fn (.yield mk) [] []]), (29, [.ptr 1 0, .ptr 2 0]), (36, [.ptr 2 0, .ptr 0 0])] 45) (loopNext (LT C) PK 20 0 11 K) =
    Gl20_11_0 C ρ a1 a2 a3 a4 a5 a6 mk (fun (y0 : List It) (y1 : Int) (y2 : Int) => K (.exit 2) (canon [2, 3, 4] [.ptr 0 0, .ptr 1 0, .ptr 2 0] [some [.d (.sl Key.item y0)], some [.d (.int .i64 y1)], some [.d (.int .i64 y2)]] [(1000000, [.fn (.yield mk) [] []]), (29, [.ptr 1 0, .ptr 2 0]), (36, [.ptr 2 0, .ptr 0 0])] 45)) (fun (y0 : List It) (y1 : Int) (y2 : Int) => K .ret (canon [2, 3, 4] [.ptr 0 0, .ptr 1 0, .ptr 2 0] [some [.full Key.item y0], some [.d (.int .i64 y1)], some [.d (.int .i64 y2)]] [(1000000, [.fn (.yield mk) [] []]), (29, [.ptr 1 0, .ptr 2 0]), (36, [.ptr 2 0, .ptr 0 0])] 45)) := by kernel_rfl

theorem gl25_18_0 (C : Tab) (ρ : Type) (K : Ex sig → St sig → Option ρ) (a1 : Int) (a2 : Int) (a3 : Rw) : evK Tryd.prog lay (T C) (LT C) hints 25 0 (bodyOf Tryd.prog 25 18) (canon [1, 2, 7] [.d (.int .i64 a1), .ptr 0 0, .d (.int .i64 a2)] [some [.d (.int .i64 a3.op), .d (.str a3.name), .d (.sl Key.raw a3.args)]] [] 62) (loopNext (LT C) PK 25 0 18 K) =
    Gl25_18_0 C ρ a1 a2 a3 (fun (y0 : Bool) => K .ret (canon [4] [.d (.bool y0)] [] [] 62)) (K (.exit 1) (canon [] [] [] [] 62)) := by kernel_rfl

theorem gl39_4_0 (C : Tab) (ρ : Type) (K : Ex sig → St sig → Option ρ) (a1 : Int) (a2 : Pt) (a3 : Pt) : evK Tryd.prog lay (T C) (LT C) hints 39 0 (bodyOf Tryd.prog 39 4) (canon [2, 3, 5] [.ptr 0 0, .ptr 1 0, .d (.int .i64 a1)] [some [.d (.int .i64 a2.op), .d (.str a2.sign), .d (.str a2.name), .d (.int .i64 a2.num), .d (.int .i64 a2.raw.op), .d (.str a2.raw.name), .d (.sl Key.raw a2.raw.args), .d (.sl Key.part a2.parts)], some [.d (.int .i64 a3.op), .d (.str a3.sign), .d (.str a3.name), .d (.int .i64 a3.num), .d (.int .i64 a3.raw.op), .d (.str a3.raw.name), .d (.sl Key.raw a3.raw.args), .d (.sl Key.part a3.parts)]] [] 68) (loopNext (LT C) PK 39 0 4 K) =
    Gl39_4_0 C ρ a1 a2 a3 (fun (y0 : Bool) => K .ret (canon [4] [.d (.bool y0)] [] [] 68)) (K (.exit 0) (canon [] [] [] [] 68)) := by kernel_rfl

theorem gl58_2_0 (C : Tab) (ρ : Type) (K : Ex sig → St sig → Option ρ) (a1 : List Int) (a2 : Int) (a3 : Int) (a4 : Int) : evK Tryd.prog lay (T C) (LT C) hints 58 0 (bodyOf Tryd.prog 58 2) (canon [0, 1, 7, 8] [.d (.sl Key.int a1), .d (.int .i64 a2), .d (.int .i64 a3), .d (.int .i64 a4)] [] [] 19) (loopNext (LT C) PK 58 0 2 K) =
    Gl58_2_0 C ρ a1 a2 a3 a4 (fun (y0 : Int) => K .ret (canon [4] [.d (.int .i64 y0)] [] [] 19)) (K (.exit 0) (canon [] [] [] [] 19)) := by kernel_rfl

theorem gl82_4_0 (C : Tab) (ρ : Type) (K : Ex sig → St sig → Option ρ) (a1 : ByteArray) (a2 : Int) (a3 : Int) : evK Tryd.prog lay (T C) (LT C) hints 82 0 (bodyOf Tryd.prog 82 4) (canon [0, 22, 23] [.d (.str a1), .d (.int .i64 a2), .d (.int .i64 a3)] [] [] 32) (loopNext (LT C) PK 82 0 4 K) =
    Gl82_4_0 C ρ a1 a2 a3 (K (.exit 0) (canon [] [] [] [] 32)) (fun (y0 : Bool) => K .ret (canon [4] [.d (.bool y0)] [] [] 32)) := by kernel_rfl

end Go.Proofs.YtanfoijdfcnpoaaDoor.Ev
