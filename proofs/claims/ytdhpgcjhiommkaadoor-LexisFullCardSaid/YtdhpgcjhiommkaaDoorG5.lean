/- This file proves that the evaluator does with each function and loop what the typed functions say; without any condition. -/
import Derived.Test.YtdhpgcjhiommkaaDoorG1
set_option linter.unusedVariables false
set_option linter.unusedSimpArgs false
namespace Go.Proofs.YtdhpgcjhiommkaaDoor.Ev

theorem gc5_0 (C : Tab) (ρ : Type) (K : Res sig × Mem sig → Option ρ) (a1 : ByteArray) : evF Tryd.prog lay (T C) (LT C) hints dfT 5 [.d (.str a1)] [] K =
    Gc5_0 C ρ a1 (fun (y0 : Bool) => K (.ret (.d (.bool y0)), [])) := by kernel_rfl

theorem gc10_0 (C : Tab) (ρ : Type) (K : Res sig × Mem sig → Option ρ) (a1 : ByteArray) (a2 : Int) : evF Tryd.prog lay (T C) (LT C) hints dfT 10 [.d (.str a1), .d (.int .i64 a2)] [] K =
    Gc10_0 C ρ a1 a2 (fun (y0 : Bool) => K (.ret (.d (.bool y0)), [])) := by kernel_rfl

theorem gc14_0 (C : Tab) (ρ : Type) (K : Res sig × Mem sig → Option ρ) : evF Tryd.prog lay (T C) (LT C) hints dfT 14 [] [] K =
    Gc14_0 C ρ (fun (y0 : Bool) => K (.ret (.d (.bool y0)), [])) := by kernel_rfl

theorem gc18_0 (C : Tab) (ρ : Type) (K : Res sig × Mem sig → Option ρ) (a1 : ByteArray) : evF Tryd.prog lay (T C) (LT C) hints dfT 18 [.d (.str a1)] [] K =
    Gc18_0 C ρ a1 (fun (y0 : Bool) => K (.ret (.d (.bool y0)), [])) := by kernel_rfl

theorem gc22_0 (C : Tab) (ρ : Type) (K : Res sig × Mem sig → Option ρ) (a1 : ByteArray) (a2 : Int) : evF Tryd.prog lay (T C) (LT C) hints dfT 22 [.d (.str a1), .d (.int .i64 a2)] [] K =
    Gc22_0 C ρ a1 a2 (fun (y0 : Int) (y1 : Int) (y2 : Int) => K (.ret (.tup [.d (.int .i64 y0), .d (.int .i64 y1), .d (.int .i64 y2)]), [])) := by kernel_rfl

theorem gc26_0 (C : Tab) (ρ : Type) (K : Res sig × Mem sig → Option ρ) (a1 : ByteArray) (a2 : Int) : evF Tryd.prog lay (T C) (LT C) hints dfT 26 [.d (.str a1), .d (.int .i64 a2)] [] K =
    Gc26_0 C ρ a1 a2 (fun (y0 : Tok) (y1 : Bool) => K (.ret (.tup [.agg [.d (.int .i64 y0.kind), .d (.str y0.text), .d (.int .i64 (y0.at_))], .d (.bool y1)]), [])) := by kernel_rfl

theorem gc29_0 (C : Tab) (ρ : Type) (K : Res sig × Mem sig → Option ρ) (a1 : Int) : evF Tryd.prog lay (T C) (LT C) hints dfT 29 [.d (.int .u8 a1)] [] K =
    Gc29_0 C ρ a1 (fun (y0 : Bool) => K (.ret (.d (.bool y0)), [])) := by kernel_rfl

theorem gc34_0 (C : Tab) (ρ : Type) (K : Res sig × Mem sig → Option ρ) (a1 : Tok) : evF Tryd.prog lay (T C) (LT C) hints dfT 34 [.agg [.d (.int .i64 a1.kind), .d (.str a1.text), .d (.int .i64 (a1.at_))]] [] K =
    Gc34_0 C ρ a1 (fun (y0 : Bool) => K (.ret (.d (.bool y0)), [])) := by kernel_rfl

theorem gc41_0 (C : Tab) (ρ : Type) (K : Res sig × Mem sig → Option ρ) (a1 : Int) (a2 : ByteArray) (a3 : Int) : evF Tryd.prog lay (T C) (LT C) hints dfT 41 [.ptr 0 0, .d (.int .i64 a1)] [some [.d (.str a2), .d (.int .i64 a3)]] K =
    Gc41_0 C ρ a1 a2 a3 (fun (y0 : ByteArray) (y1 : ByteArray) (y2 : Int) => K (.ret (.d (.str y0)), [some [.d (.str y1), .d (.int .i64 y2)]])) := by kernel_rfl

theorem gc45_0 (C : Tab) (ρ : Type) (K : Res sig × Mem sig → Option ρ) (a1 : ByteArray) : evF Tryd.prog lay (T C) (LT C) hints dfT 45 [.d (.str a1)] [] K =
    Gc45_0 C ρ a1 (fun (y0 : Bool) => K (.ret (.d (.bool y0)), [])) := by kernel_rfl

theorem gc49_0 (C : Tab) (ρ : Type) (K : Res sig × Mem sig → Option ρ) (a1 : ByteArray) (a2 : Int) : evF Tryd.prog lay (T C) (LT C) hints dfT 49 [.ptr 0 0, .ptr 1 0] [some [.d (.str a1), .d (.int .i64 a2)], some [.fn (.func 39) [] []]] K =
    Gc49_0 C ρ a1 a2 (fun (y0 : Int) (y1 : ByteArray) (y2 : ByteArray) (y3 : Int) => K (.ret (.tup [.d (.int .i64 y0), .d (.str y1)]), [some [.d (.str y2), .d (.int .i64 y3)], some [.fn (.func 39) [] []]])) := by kernel_rfl

theorem gc53_0 (C : Tab) (ρ : Type) (K : Res sig × Mem sig → Option ρ) (a1 : Int) : evF Tryd.prog lay (T C) (LT C) hints dfT 53 [.d (.int .u8 a1)] [] K =
    Gc53_0 C ρ a1 (fun (y0 : Bool) => K (.ret (.d (.bool y0)), [])) := by kernel_rfl

theorem gc67_0 (C : Tab) (ρ : Type) (K : Res sig × Mem sig → Option ρ) (a1 : Int) : evF Tryd.prog lay (T C) (LT C) hints dfT 67 [.d (.int .u8 a1)] [] K =
    Gc67_0 C ρ a1 (fun (y0 : Bool) => K (.ret (.d (.bool y0)), [])) := by kernel_rfl

theorem gl8_9_0 (C : Tab) (ρ : Type) (K : Ex sig → St sig → Option ρ) (a1 : ByteArray) (a2 : List Tok) (a3 : List Tok) (a4 : Int) (a5 : Int) : evK Tryd.prog lay (T C) (LT C) hints 8 0 (bodyOf Tryd.prog 8 9) (canon [3, 7, 41, 42, 43] [.d (.str a1), .own Key.tok a2, .d (.sl Key.tok a3), .d (.int .i64 a4), .d (.int .i64 a5)] [] [] 79) (loopNext (LT C) PK 8 0 9 K) =
    Gl8_9_0 C ρ a1 a2 a3 a4 a5 (fun (y0 : ByteArray) (y1 : List Tok) => K (.exit 0) (canon [3, 7] [.d (.str y0), .own Key.tok y1] [] [] 79)) := by kernel_rfl

theorem gl19_3_0 (C : Tab) (ρ : Type) (K : Ex sig → St sig → Option ρ) (a1 : List ByteArray) (a2 : List Tok) (a3 : Int) (a4 : Int) : evK Tryd.prog lay (T C) (LT C) hints 19 0 (bodyOf Tryd.prog 19 3) (canon [4, 7, 8, 9] [.own Key.str a1, .d (.sl Key.tok a2), .d (.int .i64 a3), .d (.int .i64 a4)] [] [] 27) (loopNext (LT C) PK 19 0 3 K) =
    Gl19_3_0 C ρ a1 a2 a3 a4 (fun (y0 : List ByteArray) => K (.exit 0) (canon [4] [.own Key.str y0] [] [] 27)) (fun (y0 : ByteArray) (y1 : Int) => K .ret (canon [2, 3] [.d (.str y0), .d (.int .i64 y1)] [] [] 27)) := by kernel_rfl

theorem gl25_1_0 (C : Tab) (ρ : Type) (K : Ex sig → St sig → Option ρ) (a1 : ByteArray) (a2 : Int) : evK Tryd.prog lay (T C) (LT C) hints 25 0 (bodyOf Tryd.prog 25 1) (canon [0, 1] [.d (.str a1), .d (.int .i64 a2)] [] [] 59) (loopNext (LT C) PK 25 0 1 K) =
    Gl25_1_0 C ρ a1 a2 (fun (y0 : Int) => K .ret (canon [4] [.d (.int .i64 y0)] [] [] 59)) (fun (y0 : Int) => K (.exit 0) (canon [1] [.d (.int .i64 y0)] [] [] 59)) := by kernel_rfl

theorem gl52_1_0 (C : Tab) (ρ : Type) (K : Ex sig → St sig → Option ρ) (a1 : ByteArray) (a2 : Int) : evK Tryd.prog lay (T C) (LT C) hints 52 0 (bodyOf Tryd.prog 52 1) (canon [0, 1] [.d (.str a1), .d (.int .i64 a2)] [] [] 18) (loopNext (LT C) PK 52 0 1 K) =
    Gl52_1_0 C ρ a1 a2 (fun (y0 : Int) => K (.exit 0) (canon [1] [.d (.int .i64 y0)] [] [] 18)) := by kernel_rfl

end Go.Proofs.YtdhpgcjhiommkaaDoor.Ev
