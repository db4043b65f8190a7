/- This file proves that the evaluator does with each function and loop what the typed functions say; without any condition. -/
import Derived.Test.YtdhpgcjhiommkaaDoorG1
set_option linter.unusedVariables false
set_option linter.unusedSimpArgs false
namespace Go.Proofs.YtdhpgcjhiommkaaDoor.Ev

theorem gc6_0 (C : Tab) (ρ : Type) (K : Res sig × Mem sig → Option ρ) (a1 : ByteArray) (a2 : Int) (a3 : ByteArray) : evF Tryd.prog lay (T C) (LT C) hints dfT 6 [.d (.str a1), .d (.int .i64 a2), .d (.str a3)] [] K =
    Gc6_0 C ρ a1 a2 a3 (fun (y0 : Bool) => K (.ret (.d (.bool y0)), [])) := by kernel_rfl

theorem gc11_0 (C : Tab) (ρ : Type) (K : Res sig × Mem sig → Option ρ) (a1 : ByteArray) : evF Tryd.prog lay (T C) (LT C) hints dfT 11 [.d (.str a1)] [] K =
    Gc11_0 C ρ a1 (fun (y0 : List Tok) (y1 : Int) (y2 : Int) => K (.ret (.tup [.d (.sl Key.tok y0), .d (.int .i64 y1), .d (.int .i64 y2)]), [])) := by kernel_rfl

theorem gc15_0 (C : Tab) (ρ : Type) (K : Res sig × Mem sig → Option ρ) (a1 : ByteArray) : evF Tryd.prog lay (T C) (LT C) hints dfT 15 [.d (.str a1)] [] K =
    Gc15_0 C ρ a1 (fun (y0 : Bool) => K (.ret (.d (.bool y0)), [])) := by kernel_rfl

theorem gc19_0 (C : Tab) (ρ : Type) (K : Res sig × Mem sig → Option ρ) (a1 : List Tok) : evF Tryd.prog lay (T C) (LT C) hints dfT 19 [.d (.sl Key.tok a1)] [] K =
    Gc19_0 C ρ a1 (fun (y0 : ByteArray) (y1 : Int) => K (.ret (.tup [.d (.str y0), .d (.int .i64 y1)]), [])) := by kernel_rfl

theorem gc23_0 (C : Tab) (ρ : Type) (K : Res sig × Mem sig → Option ρ) (a1 : ByteArray) (a2 : Int) : evF Tryd.prog lay (T C) (LT C) hints dfT 23 [.ptr 0 0] [some [.d (.str a1), .d (.int .i64 a2)]] K =
    Gc23_0 C ρ a1 a2 (fun (y0 : ByteArray) (y1 : Int) => K (.ret (.tup []), [some [.d (.str y0), .d (.int .i64 y1)]])) := by kernel_rfl

theorem gc27_0 (C : Tab) (ρ : Type) (K : Res sig × Mem sig → Option ρ) (a1 : ByteArray) : evF Tryd.prog lay (T C) (LT C) hints dfT 27 [.d (.str a1), .fn (.func 28) [] []] [] K =
    Gc27_0 C ρ a1 (fun (y0 : Bool) => K (.ret (.d (.bool y0)), [])) := by kernel_rfl

theorem gc30_0 (C : Tab) (ρ : Type) (K : Res sig × Mem sig → Option ρ) (a1 : ByteArray) : evF Tryd.prog lay (T C) (LT C) hints dfT 30 [.d (.str a1)] [] K =
    Gc30_0 C ρ a1 (fun (y0 : Bool) => K (.ret (.d (.bool y0)), [])) := by kernel_rfl

theorem gc37_0 (C : Tab) (ρ : Type) (K : Res sig × Mem sig → Option ρ) (a1 : Int) (a2 : ByteArray) (a3 : Int) : evF Tryd.prog lay (T C) (LT C) hints dfT 37 [.ptr 0 0, .d (.int .i64 a1)] [some [.d (.str a2), .d (.int .i64 a3)]] K =
    Gc37_0 C ρ a1 a2 a3 (fun (y0 : Int) (y1 : ByteArray) (y2 : Int) => K (.ret (.d (.int .u8 y0)), [some [.d (.str y1), .d (.int .i64 y2)]])) := by kernel_rfl

theorem gc42_0 (C : Tab) (ρ : Type) (K : Res sig × Mem sig → Option ρ) (a1 : ByteArray) (a2 : Int) : evF Tryd.prog lay (T C) (LT C) hints dfT 42 [.ptr 0 0, .ptr 1 0] [some [.d (.str a1), .d (.int .i64 a2)], some [.fn (.func 39) [] []]] K =
    Gc42_0 C ρ a1 a2 (fun (y0 : Int) (y1 : ByteArray) (y2 : ByteArray) (y3 : Int) => K (.ret (.tup [.d (.int .i64 y0), .d (.str y1)]), [some [.d (.str y2), .d (.int .i64 y3)], some [.fn (.func 39) [] []]])) := by kernel_rfl

theorem gc46_0 (C : Tab) (ρ : Type) (K : Res sig × Mem sig → Option ρ) (a1 : ByteArray) (a2 : Int) : evF Tryd.prog lay (T C) (LT C) hints dfT 46 [.ptr 0 0, .ptr 1 0] [some [.d (.str a1), .d (.int .i64 a2)], some [.fn (.func 39) [] []]] K =
    Gc46_0 C ρ a1 a2 (fun (y0 : Int) (y1 : ByteArray) (y2 : ByteArray) (y3 : Int) => K (.ret (.tup [.d (.int .i64 y0), .d (.str y1)]), [some [.d (.str y2), .d (.int .i64 y3)], some [.fn (.func 39) [] []]])) := by kernel_rfl

theorem gc50_0 (C : Tab) (ρ : Type) (K : Res sig × Mem sig → Option ρ) (a1 : ByteArray) (a2 : Int) (a3 : Int) : evF Tryd.prog lay (T C) (LT C) hints dfT 50 [.ptr 0 0, .ptr 1 0, .ptr 2 0] [some [.d (.str a1), .d (.int .i64 a2)], some [.fn (.func 39) [] []], some [.d (.int .u8 a3)]] K =
    Gc50_0 C ρ a1 a2 a3 (fun (y0 : Int) (y1 : ByteArray) (y2 : ByteArray) (y3 : Int) (y4 : Int) => K (.ret (.tup [.d (.int .i64 y0), .d (.str y1)]), [some [.d (.str y2), .d (.int .i64 y3)], some [.fn (.func 39) [] []], some [.d (.int .u8 y4)]])) := by kernel_rfl

theorem gc54_0 (C : Tab) (ρ : Type) (K : Res sig × Mem sig → Option ρ) (a1 : ByteArray) : evF Tryd.prog lay (T C) (LT C) hints dfT 54 [.d (.str a1)] [] K =
    Gc54_0 C ρ a1 (fun (y0 : Int) (y1 : Bool) => K (.ret (.tup [.d (.int .i64 y0), .d (.bool y1)]), [])) := by kernel_rfl

theorem gl5_6_0 (C : Tab) (ρ : Type) (K : Ex sig → St sig → Option ρ) (a1 : ByteArray) (a2 : List Tok) (a3 : Int) (a4 : Int) (a5 : List Tok) (a6 : Int) (a7 : Int) : evK Tryd.prog lay (T C) (LT C) hints 5 0 (bodyOf Tryd.prog 5 6) (canon [0, 3, 4, 6, 51, 52, 53] [.d (.str a1), .d (.sl Key.tok a2), .d (.int .i64 a3), .d (.int .i64 a4), .d (.sl Key.tok a5), .d (.int .i64 a6), .d (.int .i64 a7)] [] [] 128) (loopNext (LT C) PK 5 0 6 K) =
    Gl5_6_0 C ρ a1 a2 a3 a4 a5 a6 a7 (fun (y0 : Bool) => K .ret (canon [2] [.d (.bool y0)] [] [] 128)) (fun (y0 : ByteArray) (y1 : List Tok) (y2 : Int) => K (.exit 0) (canon [0, 3, 4] [.d (.str y0), .d (.sl Key.tok y1), .d (.int .i64 y2)] [] [] 128)) := by kernel_rfl

theorem gl11_6_0 (C : Tab) (ρ : Type) (K : Ex sig → St sig → Option ρ) (a1 : ByteArray) (a2 : List Tok) (a3 : ByteArray) (a4 : Int) : evK Tryd.prog lay (T C) (LT C) hints 11 0 (bodyOf Tryd.prog 11 6) (canon [0, 5, 6] [.d (.str a1), .ptr 0 0, .own Key.tok a2] [some [.d (.str a3), .d (.int .i64 a4)]] [] 69) (loopNext (LT C) PK 11 0 6 K) =
    Gl11_6_0 C ρ a1 a2 a3 a4 (fun (y0 : ByteArray) (y1 : List Tok) => K (.exit 0) (canon [0, 6] [.d (.str y0), .own Key.tok y1] [] [] 69)) (fun (y0 : List Tok) (y1 : Int) (y2 : Int) => K .ret (canon [2, 3, 4] [.full Key.tok y0, .d (.int .i64 y1), .d (.int .i64 y2)] [] [] 69)) := by kernel_rfl

theorem gl20_4_0 (C : Tab) (ρ : Type) (K : Ex sig → St sig → Option ρ) (a1 : List Int) (a2 : Bool) (a3 : List Tok) (a4 : Int) (a5 : Int) : evK Tryd.prog lay (T C) (LT C) hints 20 0 (bodyOf Tryd.prog 20 4) (canon [4, 5, 8, 9, 10] [.own Key.u8 a1, .d (.bool a2), .d (.sl Key.tok a3), .d (.int .i64 a4), .d (.int .i64 a5)] [] [] 32) (loopNext (LT C) PK 20 0 4 K) =
    Gl20_4_0 C ρ a1 a2 a3 a4 a5 (fun (y0 : List Int) => K (.exit 0) (canon [4] [.own Key.u8 y0] [] [] 32)) (fun (y0 : ByteArray) (y1 : Int) => K .ret (canon [2, 3] [.d (.str y0), .d (.int .i64 y1)] [] [] 32)) := by kernel_rfl

theorem gl25_6_0 (C : Tab) (ρ : Type) (K : Ex sig → St sig → Option ρ) (a1 : ByteArray) (a2 : Int) : evK Tryd.prog lay (T C) (LT C) hints 25 0 (bodyOf Tryd.prog 25 6) (canon [0, 1] [.d (.str a1), .d (.int .i64 a2)] [] [] 59) (loopNext (LT C) PK 25 0 6 K) =
    Gl25_6_0 C ρ a1 a2 (fun (y0 : ByteArray) (y1 : Int) => K (.exit 3) (canon [0, 1] [.d (.str y0), .d (.int .i64 y1)] [] [] 59)) := by kernel_rfl

theorem gl54_5_0 (C : Tab) (ρ : Type) (K : Ex sig → St sig → Option ρ) (a1 : ByteArray) (a2 : Int) (a3 : Int) : evK Tryd.prog lay (T C) (LT C) hints 54 0 (bodyOf Tryd.prog 54 5) (canon [0, 4, 5] [.d (.str a1), .d (.int .i64 a2), .d (.int .i64 a3)] [] [] 51) (loopNext (LT C) PK 54 0 5 K) =
    Gl54_5_0 C ρ a1 a2 a3 (fun (y0 : Int) (y1 : Bool) => K .ret (canon [2, 3] [.d (.int .i64 y0), .d (.bool y1)] [] [] 51)) (fun (y0 : Int) => K (.exit 0) (canon [4] [.d (.int .i64 y0)] [] [] 51)) := by kernel_rfl

end Go.Proofs.YtdhpgcjhiommkaaDoor.Ev
