/- This file proves that the evaluator does with each function and loop what the typed functions say; without any condition. -/
import Derived.Test.YtdhpgcjhiommkaaDoorG1
set_option linter.unusedVariables false
set_option linter.unusedSimpArgs false
namespace Go.Proofs.YtdhpgcjhiommkaaDoor.Ev

theorem gc4_0 (C : Tab) (ρ : Type) (K : Res sig × Mem sig → Option ρ) (a1 : ByteArray) : evF Tryd.prog lay (T C) (LT C) hints dfT 4 [.d (.str a1)] [] K =
    Gc4_0 C ρ a1 (fun (y0 : Bool) => K (.ret (.d (.bool y0)), [])) := by kernel_rfl

theorem gc9_0 (C : Tab) (ρ : Type) (K : Res sig × Mem sig → Option ρ) (a1 : ByteArray) (a2 : Int) : evF Tryd.prog lay (T C) (LT C) hints dfT 9 [.d (.str a1), .d (.int .i64 a2)] [] K =
    Gc9_0 C ρ a1 a2 (fun (y0 : Bool) => K (.ret (.d (.bool y0)), [])) := by kernel_rfl

theorem gc13_0 (C : Tab) (ρ : Type) (K : Res sig × Mem sig → Option ρ) (a1 : List Tok) (a2 : List Tok) (a3 : Bool) : evF Tryd.prog lay (T C) (LT C) hints dfT 13 [.d (.sl Key.tok a1), .d (.sl Key.tok a2), .d (.bool a3)] [] K =
    Gc13_0 C ρ a1 a2 a3 (fun (y0 : Bool) => K (.ret (.d (.bool y0)), [])) := by kernel_rfl

theorem gc17_0 (C : Tab) (ρ : Type) (K : Res sig × Mem sig → Option ρ) (a1 : ByteArray) : evF Tryd.prog lay (T C) (LT C) hints dfT 17 [.d (.str a1)] [] K =
    Gc17_0 C ρ a1 (fun (y0 : Bool) => K (.ret (.d (.bool y0)), [])) := by kernel_rfl

theorem gc21_0 (C : Tab) (ρ : Type) (K : Res sig × Mem sig → Option ρ) (a1 : ByteArray) (a2 : Int) : evF Tryd.prog lay (T C) (LT C) hints dfT 21 [.d (.str a1), .d (.int .i64 a2)] [] K =
    Gc21_0 C ρ a1 a2 (fun (y0 : Int) (y1 : Int) (y2 : Int) => K (.ret (.tup [.d (.int .i64 y0), .d (.int .i64 y1), .d (.int .i64 y2)]), [])) := by kernel_rfl

theorem gc25_0 (C : Tab) (ρ : Type) (K : Res sig × Mem sig → Option ρ) (a1 : ByteArray) (a2 : Int) : evF Tryd.prog lay (T C) (LT C) hints dfT 25 [.d (.str a1), .d (.int .i64 a2)] [] K =
    Gc25_0 C ρ a1 a2 (fun (y0 : Int) => K (.ret (.d (.int .i64 y0)), [])) := by kernel_rfl

theorem gc28_0 (C : Tab) (ρ : Type) (K : Res sig × Mem sig → Option ρ) (a1 : Int) : evF Tryd.prog lay (T C) (LT C) hints dfT 28 [.d (.int .u8 a1)] [] K =
    Gc28_0 C ρ a1 (fun (y0 : Bool) => K (.ret (.d (.bool y0)), [])) := by kernel_rfl

theorem gc32_0 (C : Tab) (ρ : Type) (K : Res sig × Mem sig → Option ρ) (a1 : Tok) : evF Tryd.prog lay (T C) (LT C) hints dfT 32 [.agg [.d (.int .i64 a1.kind), .d (.str a1.text), .d (.int .i64 (a1.at_))]] [] K =
    Gc32_0 C ρ a1 (fun (y0 : Bool) => K (.ret (.d (.bool y0)), [])) := by kernel_rfl

theorem gc40_0 (C : Tab) (ρ : Type) (K : Res sig × Mem sig → Option ρ) (a1 : ByteArray) (a2 : Int) : evF Tryd.prog lay (T C) (LT C) hints dfT 40 [.ptr 0 0, .ptr 1 0] [some [.d (.str a1), .d (.int .i64 a2)], some [.fn (.func 39) [] []]] K =
    Gc40_0 C ρ a1 a2 (fun (y0 : Int) (y1 : ByteArray) (y2 : ByteArray) (y3 : Int) => K (.ret (.tup [.d (.int .i64 y0), .d (.str y1)]), [some [.d (.str y2), .d (.int .i64 y3)], some [.fn (.func 39) [] []]])) := by kernel_rfl

theorem gc44_0 (C : Tab) (ρ : Type) (K : Res sig × Mem sig → Option ρ) (a1 : ByteArray) (a2 : Int) : evF Tryd.prog lay (T C) (LT C) hints dfT 44 [.ptr 0 0, .ptr 1 0] [some [.d (.str a1), .d (.int .i64 a2)], some [.fn (.func 39) [] []]] K =
    Gc44_0 C ρ a1 a2 (fun (y0 : Int) (y1 : ByteArray) (y2 : ByteArray) (y3 : Int) => K (.ret (.tup [.d (.int .i64 y0), .d (.str y1)]), [some [.d (.str y2), .d (.int .i64 y3)], some [.fn (.func 39) [] []]])) := by kernel_rfl

theorem gc48_0 (C : Tab) (ρ : Type) (K : Res sig × Mem sig → Option ρ) (a1 : ByteArray) (a2 : Int) : evF Tryd.prog lay (T C) (LT C) hints dfT 48 [.ptr 0 0] [some [.d (.str a1), .d (.int .i64 a2)]] K =
    Gc48_0 C ρ a1 a2 (fun (y0 : Int) (y1 : ByteArray) (y2 : ByteArray) (y3 : Int) => K (.ret (.tup [.d (.int .i64 y0), .d (.str y1)]), [some [.d (.str y2), .d (.int .i64 y3)]])) := by kernel_rfl

theorem gc52_0 (C : Tab) (ρ : Type) (K : Res sig × Mem sig → Option ρ) (a1 : ByteArray) (a2 : Int) : evF Tryd.prog lay (T C) (LT C) hints dfT 52 [.d (.str a1), .d (.int .i64 a2)] [] K =
    Gc52_0 C ρ a1 a2 (fun (y0 : Int) => K (.ret (.d (.int .i64 y0)), [])) := by kernel_rfl

theorem gc56_0 (C : Tab) (ρ : Type) (K : Res sig × Mem sig → Option ρ) (a1 : Int) : evF Tryd.prog lay (T C) (LT C) hints dfT 56 [.d (.int .u8 a1)] [] K =
    Gc56_0 C ρ a1 (fun (y0 : Bool) => K (.ret (.d (.bool y0)), [])) := by kernel_rfl

theorem gl6_20_0 (C : Tab) (ρ : Type) (K : Ex sig → St sig → Option ρ) (a1 : Int) (a2 : List Tok) (a3 : ByteArray) (a4 : List Tok) (a5 : Int) (a6 : Int) : evK Tryd.prog lay (T C) (LT C) hints 6 0 (bodyOf Tryd.prog 6 20) (canon [1, 7, 12, 13, 112, 113] [.d (.int .i64 a1), .d (.sl Key.tok a2), .d (.str a3), .d (.sl Key.tok a4), .d (.int .i64 a5), .d (.int .i64 a6)] [] [] 137) (loopNext (LT C) PK 6 0 20 K) =
    Gl6_20_0 C ρ a1 a2 a3 a4 a5 a6 (fun (y0 : Bool) => K .ret (canon [6] [.d (.bool y0)] [] [] 137)) (K (.exit 2) (canon [] [] [] [] 137)) := by kernel_rfl

theorem gl13_4_0 (C : Tab) (ρ : Type) (K : Ex sig → St sig → Option ρ) (a1 : List Tok) (a2 : List Tok) (a3 : Bool) (a4 : Int) (a5 : Int) : evK Tryd.prog lay (T C) (LT C) hints 13 0 (bodyOf Tryd.prog 13 4) (canon [0, 1, 2, 14, 15] [.d (.sl Key.tok a1), .d (.sl Key.tok a2), .d (.bool a3), .d (.int .i64 a4), .d (.int .i64 a5)] [] [] 59) (loopNext (LT C) PK 13 0 4 K) =
    Gl13_4_0 C ρ a1 a2 a3 a4 a5 (fun (y0 : Bool) => K .ret (canon [6] [.d (.bool y0)] [] [] 59)) (K (.exit 0) (canon [] [] [] [] 59)) := by kernel_rfl

theorem gl23_0_0 (C : Tab) (ρ : Type) (K : Ex sig → St sig → Option ρ) (a1 : ByteArray) (a2 : Int) : evK Tryd.prog lay (T C) (LT C) hints 23 1 (bodyOf Tryd.prog 23 0) (canon [0] [.ptr 0 0] [some [.d (.str a1), .d (.int .i64 a2)]] [] 102) (loopNext (LT C) PK 23 1 0 K) =
    Gl23_0_0 C ρ a1 a2 (fun (y0 : ByteArray) (y1 : Int) => K (.exit 0) (canon [] [] [some [.d (.str y0), .d (.int .i64 y1)]] [] 102)) := by kernel_rfl

theorem gl41_2_0 (C : Tab) (ρ : Type) (K : Ex sig → St sig → Option ρ) (a1 : Int) (a2 : Int) (a3 : ByteArray) (a4 : Int) : evK Tryd.prog lay (T C) (LT C) hints 41 1 (bodyOf Tryd.prog 41 2) (canon [0, 1, 5] [.ptr 0 0, .d (.int .i64 a1), .d (.int .i64 a2)] [some [.d (.str a3), .d (.int .i64 a4)]] [] 42) (loopNext (LT C) PK 41 1 2 K) =
    Gl41_2_0 C ρ a1 a2 a3 a4 (fun (y0 : Int) (y1 : Int) (y2 : ByteArray) (y3 : Int) => K (.exit 0) (canon [0, 1, 5] [.ptr 0 0, .d (.int .i64 y0), .d (.int .i64 y1)] [some [.d (.str y2), .d (.int .i64 y3)]] [] 42)) := by kernel_rfl

end Go.Proofs.YtdhpgcjhiommkaaDoor.Ev
