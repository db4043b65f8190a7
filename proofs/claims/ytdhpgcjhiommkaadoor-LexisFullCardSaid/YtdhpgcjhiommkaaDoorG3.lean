/- This file proves that the evaluator does with each function and loop what the typed functions say; without any condition. -/
import Derived.Test.YtdhpgcjhiommkaaDoorG1
set_option linter.unusedVariables false
set_option linter.unusedSimpArgs false
namespace Go.Proofs.YtdhpgcjhiommkaaDoor.Ev

theorem gc3_0 (C : Tab) (ρ : Type) (K : Res sig × Mem sig → Option ρ) (a1 : ByteArray) : evF Tryd.prog lay (T C) (LT C) hints dfT 3 [.d (.str a1)] [] K =
    Gc3_0 C ρ a1 (fun (y0 : Bool) => K (.ret (.d (.bool y0)), [])) := by kernel_rfl

theorem gc8_0 (C : Tab) (ρ : Type) (K : Res sig × Mem sig → Option ρ) (a1 : List Tok) : evF Tryd.prog lay (T C) (LT C) hints dfT 8 [.d (.sl Key.tok a1)] [] K =
    Gc8_0 C ρ a1 (fun (y0 : Bool) => K (.ret (.d (.bool y0)), [])) := by kernel_rfl

theorem gc12_0 (C : Tab) (ρ : Type) (K : Res sig × Mem sig → Option ρ) (a1 : ByteArray) : evF Tryd.prog lay (T C) (LT C) hints dfT 12 [.d (.str a1)] [] K =
    Gc12_0 C ρ a1 (fun (y0 : List Tok) (y1 : Int) (y2 : Int) => K (.ret (.tup [.d (.sl Key.tok y0), .d (.int .i64 y1), .d (.int .i64 y2)]), [])) := by kernel_rfl

theorem gc16_0 (C : Tab) (ρ : Type) (K : Res sig × Mem sig → Option ρ) (a1 : ByteArray) : evF Tryd.prog lay (T C) (LT C) hints dfT 16 [.d (.str a1)] [] K =
    Gc16_0 C ρ a1 (fun (y0 : Bool) => K (.ret (.d (.bool y0)), [])) := by kernel_rfl

theorem gc20_0 (C : Tab) (ρ : Type) (K : Res sig × Mem sig → Option ρ) (a1 : List Tok) : evF Tryd.prog lay (T C) (LT C) hints dfT 20 [.d (.sl Key.tok a1)] [] K =
    Gc20_0 C ρ a1 (fun (y0 : ByteArray) (y1 : Int) => K (.ret (.tup [.d (.str y0), .d (.int .i64 y1)]), [])) := by kernel_rfl

theorem gc24_0 (C : Tab) (ρ : Type) (K : Res sig × Mem sig → Option ρ) (a1 : Int) : evF Tryd.prog lay (T C) (LT C) hints dfT 24 [.d (.int .u8 a1)] [] K =
    Gc24_0 C ρ a1 (fun (y0 : Int) => K (.ret (.fn (.func 40) [] [.ptr 1 0]), [some [.d (.int .u8 y0)], some [.fn (.func 39) [] []]])) (fun (y0 : Int) => K (.ret (.fn (.func 42) [] [.ptr 1 0]), [some [.d (.int .u8 y0)], some [.fn (.func 39) [] []]])) (fun (y0 : Int) => K (.ret (.fn (.func 44) [] [.ptr 1 0]), [some [.d (.int .u8 y0)], some [.fn (.func 39) [] []]])) (fun (y0 : Int) => K (.ret (.fn (.func 46) [] [.ptr 1 0]), [some [.d (.int .u8 y0)], some [.fn (.func 39) [] []]])) (fun (y0 : Int) => K (.ret (.fn (.func 47) [] [.ptr 1 0]), [some [.d (.int .u8 y0)], some [.fn (.func 39) [] []]])) (K (.ret (.fn (.func 48) [] []), [])) (fun (y0 : Int) => K (.ret (.fn (.func 49) [] [.ptr 1 0]), [some [.d (.int .u8 y0)], some [.fn (.func 39) [] []]])) (fun (y0 : Int) => K (.ret (.fn (.func 50) [] [.ptr 1 0, .ptr 0 0]), [some [.d (.int .u8 y0)], some [.fn (.func 39) [] []]])) := by kernel_rfl

theorem gc27_1 (C : Tab) (ρ : Type) (K : Res sig × Mem sig → Option ρ) (a1 : ByteArray) : evF Tryd.prog lay (T C) (LT C) hints dfT 27 [.d (.str a1), .fn (.func 29) [] []] [] K =
    Gc27_1 C ρ a1 (fun (y0 : Bool) => K (.ret (.d (.bool y0)), [])) := by kernel_rfl

theorem gc31_0 (C : Tab) (ρ : Type) (K : Res sig × Mem sig → Option ρ) (a1 : Int) : evF Tryd.prog lay (T C) (LT C) hints dfT 31 [.d (.int .u8 a1)] [] K =
    Gc31_0 C ρ a1 (fun (y0 : Bool) => K (.ret (.d (.bool y0)), [])) := by kernel_rfl

theorem gc39_0 (C : Tab) (ρ : Type) (K : Res sig × Mem sig → Option ρ) (a1 : Int) (a2 : ByteArray) (a3 : Bool) : evF Tryd.prog lay (T C) (LT C) hints dfT 39 [.d (.int .i64 a1), .d (.str a2), .d (.bool a3)] [] K =
    Gc39_0 C ρ a1 a2 a3 (fun (y0 : Int) (y1 : ByteArray) => K (.ret (.tup [.d (.int .i64 y0), .d (.str y1)]), [])) := by kernel_rfl

theorem gc43_0 (C : Tab) (ρ : Type) (K : Res sig × Mem sig → Option ρ) (a1 : Int) : evF Tryd.prog lay (T C) (LT C) hints dfT 43 [.d (.int .u8 a1)] [] K =
    Gc43_0 C ρ a1 (fun (y0 : Bool) => K (.ret (.d (.bool y0)), [])) := by kernel_rfl

theorem gc47_0 (C : Tab) (ρ : Type) (K : Res sig × Mem sig → Option ρ) (a1 : ByteArray) (a2 : Int) : evF Tryd.prog lay (T C) (LT C) hints dfT 47 [.ptr 0 0, .ptr 1 0] [some [.d (.str a1), .d (.int .i64 a2)], some [.fn (.func 39) [] []]] K =
    Gc47_0 C ρ a1 a2 (fun (y0 : Int) (y1 : ByteArray) (y2 : ByteArray) (y3 : Int) => K (.ret (.tup [.d (.int .i64 y0), .d (.str y1)]), [some [.d (.str y2), .d (.int .i64 y3)], some [.fn (.func 39) [] []]])) := by kernel_rfl

theorem gc51_0 (C : Tab) (ρ : Type) (K : Res sig × Mem sig → Option ρ) (a1 : ByteArray) (a2 : Int) : evF Tryd.prog lay (T C) (LT C) hints dfT 51 [.d (.str a1), .d (.int .i64 a2)] [] K =
    Gc51_0 C ρ a1 a2 (fun (y0 : Bool) => K (.ret (.d (.bool y0)), [])) := by kernel_rfl

theorem gc55_0 (C : Tab) (ρ : Type) (K : Res sig × Mem sig → Option ρ) (a1 : ByteArray) (a2 : Int) : evF Tryd.prog lay (T C) (LT C) hints dfT 55 [.d (.str a1), .d (.int .i64 a2)] [] K =
    Gc55_0 C ρ a1 a2 (fun (y0 : Tok) (y1 : Bool) => K (.ret (.tup [.agg [.d (.int .i64 y0.kind), .d (.str y0.text), .d (.int .i64 (y0.at_))], .d (.bool y1)]), [])) := by kernel_rfl

theorem gl6_11_0 (C : Tab) (ρ : Type) (K : Ex sig → St sig → Option ρ) (a1 : ByteArray) (a2 : Int) (a3 : ByteArray) (a4 : List Tok) (a5 : List Int) (a6 : Int) : evK Tryd.prog lay (T C) (LT C) hints 6 0 (bodyOf Tryd.prog 6 11) (canon [0, 1, 2, 7, 10, 11] [.d (.str a1), .d (.int .i64 a2), .d (.str a3), .d (.sl Key.tok a4), .own Key.u8 a5, .d (.int .i64 a6)] [] [] 137) (loopNext (LT C) PK 6 0 11 K) =
    Gl6_11_0 C ρ a1 a2 a3 a4 a5 a6 (fun (y0 : ByteArray) (y1 : Int) (y2 : List Tok) (y3 : List Int) => K (.exit 0) (canon [0, 1, 7, 10] [.d (.str y0), .d (.int .i64 y1), .d (.sl Key.tok y2), .own Key.u8 y3] [] [] 137)) := by kernel_rfl

theorem gl12_5_0 (C : Tab) (ρ : Type) (K : Ex sig → St sig → Option ρ) (a1 : ByteArray) (a2 : List Tok) (a3 : Int) : evK Tryd.prog lay (T C) (LT C) hints 12 0 (bodyOf Tryd.prog 12 5) (canon [0, 5, 6] [.d (.str a1), .own Key.tok a2, .d (.int .i64 a3)] [] [] 45) (loopNext (LT C) PK 12 0 5 K) =
    Gl12_5_0 C ρ a1 a2 a3 (fun (y0 : ByteArray) (y1 : List Tok) => K (.exit 0) (canon [0, 5] [.d (.str y0), .own Key.tok y1] [] [] 45)) (fun (y0 : List Tok) (y1 : Int) (y2 : Int) => K .ret (canon [2, 3, 4] [.full Key.tok y0, .d (.int .i64 y1), .d (.int .i64 y2)] [] [] 45)) := by kernel_rfl

theorem gl22_5_0 (C : Tab) (ρ : Type) (K : Ex sig → St sig → Option ρ) (a1 : ByteArray) (a2 : Int) (a3 : Int) (a4 : Int) (a5 : Int) : evK Tryd.prog lay (T C) (LT C) hints 22 0 (bodyOf Tryd.prog 22 5) (canon [0, 1, 7, 8, 9] [.d (.str a1), .d (.int .i64 a2), .d (.int .i64 a3), .d (.int .i64 a4), .d (.int .i64 a5)] [] [] 33) (loopNext (LT C) PK 22 0 5 K) =
    Gl22_5_0 C ρ a1 a2 a3 a4 a5 (fun (y0 : Int) (y1 : Int) => K (.exit 0) (canon [7, 8] [.d (.int .i64 y0), .d (.int .i64 y1)] [] [] 33)) := by kernel_rfl

theorem gl27_4_0 (C : Tab) (ρ : Type) (K : Ex sig → St sig → Option ρ) (a1 : ByteArray) (a2 : Int) (a3 : Int) : evK Tryd.prog lay (T C) (LT C) hints 27 0 (bodyOf Tryd.prog 27 4) (canon [0, 22, 23] [.d (.str a1), .d (.int .i64 a2), .d (.int .i64 a3)] [] [] 32) (loopNext (LT C) PK 27 0 4 K) =
    Gl27_4_0 C ρ a1 a2 a3 (K (.exit 0) (canon [] [] [] [] 32)) (fun (y0 : Bool) => K .ret (canon [4] [.d (.bool y0)] [] [] 32)) := by kernel_rfl

end Go.Proofs.YtdhpgcjhiommkaaDoor.Ev
