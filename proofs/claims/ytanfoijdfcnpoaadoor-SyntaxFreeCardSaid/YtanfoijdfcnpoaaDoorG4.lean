/- This file proves that the evaluator does with each function and loop what the typed functions say; without any condition. -/
import Derived.Test.YtanfoijdfcnpoaaDoorG1
set_option linter.unusedVariables false
set_option linter.unusedSimpArgs false
namespace Go.Proofs.YtanfoijdfcnpoaaDoor.Ev

theorem gc4_0 (C : Tab) (ρ : Type) (K : Res sig × Mem sig → Option ρ) (a1 : Rw) (a2 : Rw) : evF Tryd.prog lay (T C) (LT C) hints dfT 4 [.agg [.d (.int .i64 a1.op), .d (.str a1.name), .d (.sl Key.raw a1.args)], .agg [.d (.int .i64 a2.op), .d (.str a2.name), .d (.sl Key.raw a2.args)]] [] K =
    Gc4_0 C ρ a1 a2 (fun (y0 : Bool) => K (.ret (.d (.bool y0)), [])) := by kernel_rfl

theorem gc10_0 (C : Tab) (ρ : Type) (K : Res sig × Mem sig → Option ρ) (a1 : Rw) : evF Tryd.prog lay (T C) (LT C) hints dfT 10 [.agg [.d (.int .i64 a1.op), .d (.str a1.name), .d (.sl Key.raw a1.args)]] [] K =
    Gc10_0 C ρ a1 (fun (y0 : ByteArray) (y1 : Int) => K (.ret (.tup [.d (.str y0), .d (.int .i64 y1)]), [])) := by kernel_rfl

theorem gc14_0 (C : Tab) (ρ : Type) (K : Res sig × Mem sig → Option ρ) (a1 : ByteArray) : evF Tryd.prog lay (T C) (LT C) hints dfT 14 [.d (.str a1)] [] K =
    Gc14_0 C ρ a1 (fun (y0 : Rw) (y1 : Int) (y2 : Int) => K (.ret (.tup [.agg [.d (.int .i64 y0.op), .d (.str y0.name), .d (.sl Key.raw y0.args)], .d (.int .i64 y1), .d (.int .i64 y2)]), [])) := by kernel_rfl

theorem gc18_0 (C : Tab) (ρ : Type) (K : Res sig × Mem sig → Option ρ) (a1 : List ByteArray) (a2 : List ByteArray) : evF Tryd.prog lay (T C) (LT C) hints dfT 18 [.d (.sl Key.str a1), .d (.sl Key.str a2)] [] K =
    Gc18_0 C ρ a1 a2 (fun (y0 : Bool) => K (.ret (.d (.bool y0)), [])) := by kernel_rfl

theorem gc24_0 (C : Tab) (ρ : Type) (K : Res sig × Mem sig → Option ρ) (a1 : Rw) (a2 : Int) : evF Tryd.prog lay (T C) (LT C) hints dfT 24 [.agg [.d (.int .i64 a1.op), .d (.str a1.name), .d (.sl Key.raw a1.args)], .d (.int .i64 a2)] [] K =
    Gc24_0 C ρ a1 a2 (fun (y0 : Int) => K (.ret (.d (.int .i64 y0)), [])) := by kernel_rfl

theorem gc28_0 (C : Tab) (ρ : Type) (K : Res sig × Mem sig → Option ρ) (a1 : ByteArray) : evF Tryd.prog lay (T C) (LT C) hints dfT 28 [.d (.str a1)] [] K =
    Gc28_0 C ρ a1 (fun (y0 : List Tok) (y1 : Int) (y2 : Int) => K (.ret (.tup [.d (.sl Key.tok y0), .d (.int .i64 y1), .d (.int .i64 y2)]), [])) := by kernel_rfl

theorem gc33_0 (C : Tab) (ρ : Type) (K : Res sig × Mem sig → Option ρ) (a1 : List Rw) (a2 : List Rw) : evF Tryd.prog lay (T C) (LT C) hints dfT 33 [.d (.sl Key.raw a1), .d (.sl Key.raw a2), .fn (.func 16) [] []] [] K =
    Gc33_0 C ρ a1 a2 (fun (y0 : Bool) => K (.ret (.d (.bool y0)), [])) := by kernel_rfl

theorem gc35_0 (C : Tab) (ρ : Type) (K : Res sig × Mem sig → Option ρ) (a1 : Rw) (a2 : List ByteArray) (a3 : List ByteArray) : evF Tryd.prog lay (T C) (LT C) hints dfT 35 [.agg [.d (.int .i64 a1.op), .d (.str a1.name), .d (.sl Key.raw a1.args)], .full Key.str a2, .full Key.str a3] [] K =
    Gc35_0 C ρ a1 a2 a3 (fun (y0 : List ByteArray) => K (.ret (.own Key.str y0), [])) (fun (y0 : List ByteArray) => K (.ret (.full Key.str y0), [])) := by kernel_rfl

theorem gc41_0 (C : Tab) (ρ : Type) (K : Res sig × Mem sig → Option ρ) (a1 : List Int) (a2 : Int) : evF Tryd.prog lay (T C) (LT C) hints dfT 41 [.d (.sl Key.int a1), .d (.int .i64 a2)] [] K =
    Gc41_0 C ρ a1 a2 (fun (y0 : Bool) => K (.ret (.d (.bool y0)), [])) := by kernel_rfl

theorem gc45_0 (C : Tab) (ρ : Type) (K : Res sig × Mem sig → Option ρ) (a1 : List ByteArray) (a2 : List Tok) (a3 : Int) : evF Tryd.prog lay (T C) (LT C) hints dfT 45 [.ptr 0 0, .d (.sl Key.str a1)] [some [.d (.sl Key.tok a2), .d (.int .i64 a3)]] K =
    Gc45_0 C ρ a1 a2 a3 (fun (y0 : Bool) (y1 : List Tok) (y2 : Int) => K (.ret (.d (.bool y0)), [some [.d (.sl Key.tok y1), .d (.int .i64 y2)]])) := by kernel_rfl

theorem gc49_0 (C : Tab) (ρ : Type) (K : Res sig × Mem sig → Option ρ) (a1 : Rw) : evF Tryd.prog lay (T C) (LT C) hints dfT 49 [.agg [.d (.int .i64 a1.op), .d (.str a1.name), .d (.sl Key.raw a1.args)]] [] K =
    Gc49_0 C ρ a1 (fun (y0 : Bool) => K (.ret (.d (.bool y0)), [])) := by kernel_rfl

theorem gc58_0 (C : Tab) (ρ : Type) (K : Res sig × Mem sig → Option ρ) (a1 : List Int) (a2 : Int) : evF Tryd.prog lay (T C) (LT C) hints dfT 58 [.d (.sl Key.int a1), .d (.int .i64 a2)] [] K =
    Gc58_0 C ρ a1 a2 (fun (y0 : Int) => K (.ret (.d (.int .i64 y0)), [])) := by kernel_rfl

theorem gc63_0 (C : Tab) (ρ : Type) (K : Res sig × Mem sig → Option ρ) (a1 : Int) : evF Tryd.prog lay (T C) (LT C) hints dfT 63 [.d (.int .u8 a1)] [] K =
    Gc63_0 C ρ a1 (fun (y0 : Bool) => K (.ret (.d (.bool y0)), [])) := by kernel_rfl

theorem gc67_0 (C : Tab) (ρ : Type) (K : Res sig × Mem sig → Option ρ) (a1 : ByteArray) (a2 : Int) : evF Tryd.prog lay (T C) (LT C) hints dfT 67 [.ptr 0 0, .ptr 1 0] [some [.d (.str a1), .d (.int .i64 a2)], some [.fn (.func 62) [] []]] K =
    Gc67_0 C ρ a1 a2 (fun (y0 : Int) (y1 : ByteArray) (y2 : ByteArray) (y3 : Int) => K (.ret (.tup [.d (.int .i64 y0), .d (.str y1)]), [some [.d (.str y2), .d (.int .i64 y3)], some [.fn (.func 62) [] []]])) := by kernel_rfl

theorem gc71_0 (C : Tab) (ρ : Type) (K : Res sig × Mem sig → Option ρ) (a1 : ByteArray) (a2 : Int) : evF Tryd.prog lay (T C) (LT C) hints dfT 71 [.ptr 0 0, .ptr 1 0] [some [.d (.str a1), .d (.int .i64 a2)], some [.fn (.func 62) [] []]] K =
    Gc71_0 C ρ a1 a2 (fun (y0 : Int) (y1 : ByteArray) (y2 : ByteArray) (y3 : Int) => K (.ret (.tup [.d (.int .i64 y0), .d (.str y1)]), [some [.d (.str y2), .d (.int .i64 y3)], some [.fn (.func 62) [] []]])) := by kernel_rfl

theorem gc75_0 (C : Tab) (ρ : Type) (K : Res sig × Mem sig → Option ρ) (a1 : ByteArray) (a2 : Int) (a3 : Int) : evF Tryd.prog lay (T C) (LT C) hints dfT 75 [.ptr 0 0, .ptr 1 0, .ptr 2 0] [some [.d (.str a1), .d (.int .i64 a2)], some [.fn (.func 62) [] []], some [.d (.int .u8 a3)]] K =
    Gc75_0 C ρ a1 a2 a3 (fun (y0 : Int) (y1 : ByteArray) (y2 : ByteArray) (y3 : Int) (y4 : Int) => K (.ret (.tup [.d (.int .i64 y0), .d (.str y1)]), [some [.d (.str y2), .d (.int .i64 y3)], some [.fn (.func 62) [] []], some [.d (.int .u8 y4)]])) := by kernel_rfl

theorem gc79_0 (C : Tab) (ρ : Type) (K : Res sig × Mem sig → Option ρ) (a1 : List Tok) (a2 : Int) : evF Tryd.prog lay (T C) (LT C) hints dfT 79 [.ptr 0 0] [some [.d (.sl Key.tok a1), .d (.int .i64 a2)]] K =
    Gc79_0 C ρ a1 a2 (fun (y0 : Bool) (y1 : List Tok) (y2 : Int) => K (.ret (.d (.bool y0)), [some [.d (.sl Key.tok y1), .d (.int .i64 y2)]])) := by kernel_rfl

theorem gc83_0 (C : Tab) (ρ : Type) (K : Res sig × Mem sig → Option ρ) (a1 : Int) : evF Tryd.prog lay (T C) (LT C) hints dfT 83 [.d (.int .u8 a1)] [] K =
    Gc83_0 C ρ a1 (fun (y0 : Bool) => K (.ret (.d (.bool y0)), [])) := by kernel_rfl

theorem gc90_0 (C : Tab) (ρ : Type) (K : Res sig × Mem sig → Option ρ) (a1 : List Tok) (a2 : Int) : evF Tryd.prog lay (T C) (LT C) hints dfT 90 [.ptr 0 0] [some [.d (.sl Key.tok a1), .d (.int .i64 a2)]] K =
    Gc90_0 C ρ a1 a2 (fun (y0 : Tok) (y1 : List Tok) (y2 : Int) => K (.ret (.agg [.d (.int .i64 y0.kind), .d (.str y0.text), .d (.int .i64 (y0.at_))]), [some [.d (.sl Key.tok y1), .d (.int .i64 y2)]])) := by kernel_rfl

theorem gl18_4_0 (C : Tab) (ρ : Type) (K : Ex sig → St sig → Option ρ) (a1 : List ByteArray) (a2 : List ByteArray) (a3 : Int) (a4 : Int) : evK Tryd.prog lay (T C) (LT C) hints 18 0 (bodyOf Tryd.prog 18 4) (canon [0, 1, 12, 13] [.d (.sl Key.str a1), .d (.sl Key.str a2), .d (.int .i64 a3), .d (.int .i64 a4)] [] [] 26) (loopNext (LT C) PK 18 0 4 K) =
    Gl18_4_0 C ρ a1 a2 a3 a4 (fun (y0 : Bool) => K .ret (canon [4] [.d (.bool y0)] [] [] 26)) (K (.exit 0) (canon [] [] [] [] 26)) := by kernel_rfl

theorem gl28_6_0 (C : Tab) (ρ : Type) (K : Ex sig → St sig → Option ρ) (a1 : ByteArray) (a2 : List Tok) (a3 : ByteArray) (a4 : Int) : evK Tryd.prog lay (T C) (LT C) hints 28 0 (bodyOf Tryd.prog 28 6) (canon [0, 5, 6] [.d (.str a1), .ptr 0 0, .own Key.tok a2] [some [.d (.str a3), .d (.int .i64 a4)]] [] 69) (loopNext (LT C) PK 28 0 6 K) =
    Gl28_6_0 C ρ a1 a2 a3 a4 (fun (y0 : ByteArray) (y1 : List Tok) => K (.exit 0) (canon [0, 6] [.d (.str y0), .own Key.tok y1] [] [] 69)) (fun (y0 : List Tok) (y1 : Int) (y2 : Int) => K .ret (canon [2, 3, 4] [.full Key.tok y0, .d (.int .i64 y1), .d (.int .i64 y2)] [] [] 69)) := by kernel_rfl

theorem gl35_14_0 (C : Tab) (ρ : Type) (K : Ex sig → St sig → Option ρ) (a1 : List ByteArray) (a2 : List ByteArray) (a3 : Int) (a4 : Rw) : evK Tryd.prog lay (T C) (LT C) hints 35 0 (bodyOf Tryd.prog 35 14) (canon [1, 2, 3, 8] [.d (.sl Key.str a1), .own Key.str a2, .ptr 0 0, .d (.int .i64 a3)] [some [.d (.int .i64 a4.op), .d (.str a4.name), .d (.sl Key.raw a4.args)]] [] 72) (loopNext (LT C) PK 35 0 14 K) =
    Gl35_14_0 C ρ a1 a2 a3 a4 (fun (y0 : List ByteArray) => K (.exit 1) (canon [2] [.own Key.str y0] [] [] 72)) := by kernel_rfl

theorem gl58_2_0 (C : Tab) (ρ : Type) (K : Ex sig → St sig → Option ρ) (a1 : List Int) (a2 : Int) (a3 : Int) (a4 : Int) : evK Tryd.prog lay (T C) (LT C) hints 58 0 (bodyOf Tryd.prog 58 2) (canon [0, 1, 7, 8] [.d (.sl Key.int a1), .d (.int .i64 a2), .d (.int .i64 a3), .d (.int .i64 a4)] [] [] 19) (loopNext (LT C) PK 58 0 2 K) =
    Gl58_2_0 C ρ a1 a2 a3 a4 (fun (y0 : Int) => K .ret (canon [4] [.d (.int .i64 y0)] [] [] 19)) (K (.exit 0) (canon [] [] [] [] 19)) := by kernel_rfl

theorem gl84_1_0 (C : Tab) (ρ : Type) (K : Ex sig → St sig → Option ρ) (a1 : ByteArray) (a2 : Int) : evK Tryd.prog lay (T C) (LT C) hints 84 0 (bodyOf Tryd.prog 84 1) (canon [0, 1] [.d (.str a1), .d (.int .i64 a2)] [] [] 18) (loopNext (LT C) PK 84 0 1 K) =
    Gl84_1_0 C ρ a1 a2 (fun (y0 : Int) => K (.exit 0) (canon [1] [.d (.int .i64 y0)] [] [] 18)) := by kernel_rfl

end Go.Proofs.YtanfoijdfcnpoaaDoor.Ev
