/- This file proves that the evaluator does with each function and loop what the typed functions say; without any condition. -/
import Derived.Test.YtcgbfghdcjmaeaaG1
set_option linter.unusedVariables false
set_option linter.unusedSimpArgs false
namespace Go.Proofs.Ytcgbfghdcjmaeaa.Ev

theorem gc5_0 (C : Tab) (ρ : Type) (K : Res sig × Mem sig → Option ρ) (a1 : List Sm) (a2 : List Sm) (a3 : Int) (a4 : Int) (a5 : Int) (a6 : List Tm) (a7 : List Sm) (a8 : Int) (a9 : Int) (a10 : Tm) : evF Try.prog lay (T C) (LT C) hints dfT 5 [.agg [.d (.sl Key.sm a1), .d (.sl Key.sm a2), .d (.int .i64 a3), .d (.int .i64 a4), .d (.int .i64 a5), .d (.sl Key.tm a6), .d (.sl Key.sm a7), .d (.int .i64 a8)], .d (.int .i64 a9), .agg [.d (.int .i64 a10.op), .d (.int .i64 a10.head), .d (.int .i64 a10.n), .d (.sl Key.tm a10.args)]] [] K =
    Gc5_0 C ρ a1 a2 a3 a4 a5 a6 a7 a8 a9 a10 (fun (y0 : Bool) => K (.ret (.d (.bool y0)), [])) := by kernel_rfl

theorem gc9_0 (C : Tab) (ρ : Type) (K : Res sig × Mem sig → Option ρ) (a1 : Tm) (a2 : List Tm) (a3 : List Sm) : evF Try.prog lay (T C) (LT C) hints dfT 9 [.agg [.d (.int .i64 a1.op), .d (.int .i64 a1.head), .d (.int .i64 a1.n), .d (.sl Key.tm a1.args)], .d (.sl Key.tm a2), .d (.sl Key.sm a3)] [] K =
    Gc9_0 C ρ a1 a2 a3 (fun (y0 : Bool) => K (.ret (.d (.bool y0)), [])) := by kernel_rfl

theorem gc13_0 (C : Tab) (ρ : Type) (K : Res sig × Mem sig → Option ρ) (a1 : Tm) (a2 : List Tm) (a3 : Sm) : evF Try.prog lay (T C) (LT C) hints dfT 13 [.agg [.d (.int .i64 a1.op), .d (.int .i64 a1.head), .d (.int .i64 a1.n), .d (.sl Key.tm a1.args)], .d (.sl Key.tm a2), .agg [.d (.sl Key.sm a3.args), .d (.int .i64 a3.con)]] [] K =
    Gc13_0 C ρ a1 a2 a3 (fun (y0 : Bool) => K (.ret (.d (.bool y0)), [])) := by kernel_rfl

theorem gc17_0 (C : Tab) (ρ : Type) (K : Res sig × Mem sig → Option ρ) : evF Try.prog lay (T C) (LT C) hints dfT 17 [] [] K =
    Gc17_0 C ρ (fun (y0 : Bool) => K (.ret (.d (.bool y0)), [])) := by kernel_rfl

theorem gc21_0 (C : Tab) (ρ : Type) (K : Res sig × Mem sig → Option ρ) (a1 : Tm) (a2 : Int) (a3 : Int) : evF Try.prog lay (T C) (LT C) hints dfT 21 [.agg [.d (.int .i64 a1.op), .d (.int .i64 a1.head), .d (.int .i64 a1.n), .d (.sl Key.tm a1.args)], .d (.int .i64 a2), .d (.int .i64 a3)] [] K =
    Gc21_0 C ρ a1 a2 a3 (fun (y0 : Tm) (y1 : Int) => K (.ret (.tup [.agg [.d (.int .i64 y0.op), .d (.int .i64 y0.head), .d (.int .i64 y0.n), .d (.sl Key.tm y0.args)], .d (.int .i64 y1)]), [])) := by kernel_rfl

theorem gc25_0 (C : Tab) (ρ : Type) (K : Res sig × Mem sig → Option ρ) (a1 : List Sm) (a2 : Int) : evF Try.prog lay (T C) (LT C) hints dfT 25 [.d (.sl Key.sm a1), .d (.int .i64 a2)] [] K =
    Gc25_0 C ρ a1 a2 (fun (y0 : List Sm) => K (.ret (.d (.sl Key.sm y0)), [])) := by kernel_rfl

theorem gc29_0 (C : Tab) (ρ : Type) (K : Res sig × Mem sig → Option ρ) (a1 : Tm) (a2 : Int) (a3 : Int) (a4 : Int) : evF Try.prog lay (T C) (LT C) hints dfT 29 [.agg [.d (.int .i64 a1.op), .d (.int .i64 a1.head), .d (.int .i64 a1.n), .d (.sl Key.tm a1.args)], .d (.int .i64 a2), .d (.int .i64 a3), .d (.int .i64 a4)] [] K =
    Gc29_0 C ρ a1 a2 a3 a4 (fun (y0 : Tm) => K (.ret (.agg [.d (.int .i64 y0.op), .d (.int .i64 y0.head), .d (.int .i64 y0.n), .d (.sl Key.tm y0.args)]), [])) := by kernel_rfl

theorem gc33_0 (C : Tab) (ρ : Type) (K : Res sig × Mem sig → Option ρ) (a1 : Tm) (a2 : List Tm) (a3 : List Sm) : evF Try.prog lay (T C) (LT C) hints dfT 33 [.agg [.d (.int .i64 a1.op), .d (.int .i64 a1.head), .d (.int .i64 a1.n), .d (.sl Key.tm a1.args)], .d (.sl Key.tm a2), .d (.sl Key.sm a3)] [] K =
    Gc33_0 C ρ a1 a2 a3 (fun (y0 : Tm) (y1 : Int) => K (.ret (.tup [.agg [.d (.int .i64 y0.op), .d (.int .i64 y0.head), .d (.int .i64 y0.n), .d (.sl Key.tm y0.args)], .d (.int .i64 y1)]), [])) := by kernel_rfl

theorem gc37_0 (C : Tab) (ρ : Type) (K : Res sig × Mem sig → Option ρ) (a1 : Tm) (a2 : List Tm) : evF Try.prog lay (T C) (LT C) hints dfT 37 [.agg [.d (.int .i64 a1.op), .d (.int .i64 a1.head), .d (.int .i64 a1.n), .d (.sl Key.tm a1.args)], .d (.sl Key.tm a2)] [] K =
    Gc37_0 C ρ a1 a2 (fun (y0 : Tm) (y1 : Int) => K (.ret (.tup [.agg [.d (.int .i64 y0.op), .d (.int .i64 y0.head), .d (.int .i64 y0.n), .d (.sl Key.tm y0.args)], .d (.int .i64 y1)]), [])) := by kernel_rfl

theorem gc42_0 (C : Tab) (ρ : Type) (K : Res sig × Mem sig → Option ρ) (a1 : Int) : evF Try.prog lay (T C) (LT C) hints dfT 42 [.d (.int .i64 a1)] [] K =
    Gc42_0 C ρ a1 (fun (y0 : Bool) => K (.ret (.d (.bool y0)), [])) := by kernel_rfl

theorem gc46_0 (C : Tab) (ρ : Type) (K : Res sig × Mem sig → Option ρ) (a1 : Tm) : evF Try.prog lay (T C) (LT C) hints dfT 46 [.agg [.d (.int .i64 a1.op), .d (.int .i64 a1.head), .d (.int .i64 a1.n), .d (.sl Key.tm a1.args)]] [] K =
    Gc46_0 C ρ a1 (fun (y0 : Tm) => K (.ret (.agg [.d (.int .i64 y0.op), .d (.int .i64 y0.head), .d (.int .i64 y0.n), .d (.sl Key.tm y0.args)]), [])) := by kernel_rfl

theorem gc50_0 (C : Tab) (ρ : Type) (K : Res sig × Mem sig → Option ρ) (a1 : Tm) (a2 : Int) (a3 : Int) : evF Try.prog lay (T C) (LT C) hints dfT 50 [.agg [.d (.int .i64 a1.op), .d (.int .i64 a1.head), .d (.int .i64 a1.n), .d (.sl Key.tm a1.args)], .d (.int .i64 a2), .d (.int .i64 a3)] [] K =
    Gc50_0 C ρ a1 a2 a3 (fun (y0 : Bool) => K (.ret (.d (.bool y0)), [])) := by kernel_rfl

theorem gc54_0 (C : Tab) (ρ : Type) (K : Res sig × Mem sig → Option ρ) (a1 : Tm) : evF Try.prog lay (T C) (LT C) hints dfT 54 [.agg [.d (.int .i64 a1.op), .d (.int .i64 a1.head), .d (.int .i64 a1.n), .d (.sl Key.tm a1.args)]] [] K =
    Gc54_0 C ρ a1 (fun (y0 : Tm) => K (.ret (.agg [.d (.int .i64 y0.op), .d (.int .i64 y0.head), .d (.int .i64 y0.n), .d (.sl Key.tm y0.args)]), [])) := by kernel_rfl

theorem gc58_0 (C : Tab) (ρ : Type) (K : Res sig × Mem sig → Option ρ) (a1 : Tm) (a2 : Int) : evF Try.prog lay (T C) (LT C) hints dfT 58 [.agg [.d (.int .i64 a1.op), .d (.int .i64 a1.head), .d (.int .i64 a1.n), .d (.sl Key.tm a1.args)], .d (.int .i64 a2)] [] K =
    Gc58_0 C ρ a1 a2 (fun (y0 : Int) => K (.pan (.iface 104 (.agg [.d (.int .i64 y0)])), [])) (fun (y0 : Tm) => K (.ret (.agg [.d (.int .i64 y0.op), .d (.int .i64 y0.head), .d (.int .i64 y0.n), .d (.sl Key.tm y0.args)]), [])) := by kernel_rfl

theorem gc62_0 (C : Tab) (ρ : Type) (K : Res sig × Mem sig → Option ρ) (a1 : Int) : evF Try.prog lay (T C) (LT C) hints dfT 62 [.d (.int .i64 a1)] [] K =
    Gc62_0 C ρ a1 (fun (y0 : Int) => K (.pan (.iface 104 (.agg [.d (.int .i64 y0)])), [])) := by kernel_rfl

theorem gc66_0 (C : Tab) (ρ : Type) (K : Res sig × Mem sig → Option ρ) (a1 : List Sm) : evF Try.prog lay (T C) (LT C) hints dfT 66 [.d (.sl Key.sm a1), .fn (.func 67) [] []] [] K =
    Gc66_0 C ρ a1 (fun (y0 : Bool) => K (.ret (.d (.bool y0)), [])) := by kernel_rfl

theorem gc69_0 (C : Tab) (ρ : Type) (K : Res sig × Mem sig → Option ρ) (a1 : Int) : evF Try.prog lay (T C) (LT C) hints dfT 69 [.d (.int .i64 a1)] [] K =
    Gc69_0 C ρ a1 (fun (y0 : Bool) => K (.ret (.d (.bool y0)), [])) := by kernel_rfl

theorem gc73_0 (C : Tab) (ρ : Type) (K : Res sig × Mem sig → Option ρ) (a1 : Tm) : evF Try.prog lay (T C) (LT C) hints dfT 73 [.agg [.d (.int .i64 a1.op), .d (.int .i64 a1.head), .d (.int .i64 a1.n), .d (.sl Key.tm a1.args)]] [] K =
    Gc73_0 C ρ a1 (fun (y0 : Tm) => K (.ret (.agg [.d (.int .i64 y0.op), .d (.int .i64 y0.head), .d (.int .i64 y0.n), .d (.sl Key.tm y0.args)]), [])) := by kernel_rfl

theorem gc76_0 (C : Tab) (ρ : Type) (K : Res sig × Mem sig → Option ρ) (a1 : Tm) (a2 : Int) : evF Try.prog lay (T C) (LT C) hints dfT 76 [.agg [.d (.int .i64 a1.op), .d (.int .i64 a1.head), .d (.int .i64 a1.n), .full Key.tm a1.args], .d (.int .i64 a2)] [] K =
    Gc76_0 C ρ a1 a2 (fun (y0 : Tm) => K (.ret (.agg [.d (.int .i64 y0.op), .d (.int .i64 y0.head), .d (.int .i64 y0.n), .full Key.tm y0.args]), [])) := by kernel_rfl

theorem gc80_0 (C : Tab) (ρ : Type) (K : Res sig × Mem sig → Option ρ) (a1 : Sm) (a2 : Int) : evF Try.prog lay (T C) (LT C) hints dfT 80 [.agg [.d (.sl Key.sm a1.args), .d (.int .i64 a1.con)], .ptr 0 0] [some [.d (.int .i64 a2)]] K =
    Gc80_0 C ρ a1 a2 (fun (y0 : Bool) (y1 : Int) => K (.ret (.d (.bool y0)), [some [.d (.int .i64 y1)]])) := by kernel_rfl

theorem gc83_0 (C : Tab) (ρ : Type) (K : Res sig × Mem sig → Option ρ) (a1 : List Int) : evF Try.prog lay (T C) (LT C) hints dfT 83 [.d (.sl Key.int a1), .fn (.func 69) [] []] [] K =
    Gc83_0 C ρ a1 (fun (y0 : Int) => K (.ret (.d (.int .i64 y0)), [])) := by kernel_rfl

theorem gc87_0 (C : Tab) (ρ : Type) (K : Res sig × Mem sig → Option ρ) (a1 : Tm) : evF Try.prog lay (T C) (LT C) hints dfT 87 [.agg [.d (.int .i64 a1.op), .d (.int .i64 a1.head), .d (.int .i64 a1.n), .d (.sl Key.tm a1.args)]] [] K =
    Gc87_0 C ρ a1 (fun (y0 : List Tm) (y1 : Tm) => K (.ret (.tup [.d (.sl Key.tm y0), .agg [.d (.int .i64 y1.op), .d (.int .i64 y1.head), .d (.int .i64 y1.n), .d (.sl Key.tm y1.args)]]), [])) := by kernel_rfl

theorem gl22_4_0 (C : Tab) (ρ : Type) (K : Ex sig → St sig → Option ρ) (a1 : List Sm) (a2 : Int) (a3 : Int) (a4 : List Sm) (a5 : List Sm) (a6 : Int) (a7 : Int) (a8 : Int) (a9 : List Tm) (a10 : List Sm) (a11 : Int) : evK Try.prog lay (T C) (LT C) hints 22 0 (bodyOf Try.prog 22 4) (canon [1, 30, 31, 32] [.ptr 0 0, .d (.sl Key.sm a1), .d (.int .i64 a2), .d (.int .i64 a3)] [some [.d (.sl Key.sm a4), .d (.sl Key.sm a5), .d (.int .i64 a6), .d (.int .i64 a7), .d (.int .i64 a8), .d (.sl Key.tm a9), .d (.sl Key.sm a10), .d (.int .i64 a11)]] [] 60) (loopNext (LT C) PK 22 0 4 K) =
    Gl22_4_0 C ρ a1 a2 a3 a4 a5 a6 a7 a8 a9 a10 a11 (fun (y0 : Bool) => K .ret (canon [2] [.d (.bool y0)] [] [] 60)) (fun (y0 : List Sm) (y1 : List Sm) (y2 : Int) (y3 : Int) (y4 : Int) (y5 : List Tm) (y6 : List Sm) (y7 : Int) => K (.exit 0) (canon [1] [.ptr 0 0] [some [.d (.sl Key.sm y0), .d (.sl Key.sm y1), .d (.int .i64 y2), .d (.int .i64 y3), .d (.int .i64 y4), .d (.sl Key.tm y5), .d (.sl Key.sm y6), .d (.int .i64 y7)]] [] 60)) := by kernel_rfl

theorem gl26_4_0 (C : Tab) (ρ : Type) (K : Ex sig → St sig → Option ρ) (a1 : Int) (a2 : Tm) (a3 : Tm) : evK Try.prog lay (T C) (LT C) hints 26 0 (bodyOf Try.prog 26 4) (canon [2, 3, 5] [.ptr 0 0, .ptr 1 0, .d (.int .i64 a1)] [some [.d (.int .i64 a2.op), .d (.int .i64 a2.head), .d (.int .i64 a2.n), .d (.sl Key.tm a2.args)], some [.d (.int .i64 a3.op), .d (.int .i64 a3.head), .d (.int .i64 a3.n), .d (.sl Key.tm a3.args)]] [] 53) (loopNext (LT C) PK 26 0 4 K) =
    Gl26_4_0 C ρ a1 a2 a3 (fun (y0 : Bool) => K .ret (canon [4] [.d (.bool y0)] [] [] 53)) (K (.exit 0) (canon [] [] [] [] 53)) := by kernel_rfl

theorem gl33_4_0 (C : Tab) (ρ : Type) (K : Ex sig → St sig → Option ρ) (a1 : List Tm) (a2 : List Sm) (a3 : Int) (a4 : Tm) (a5 : Tm) : evK Try.prog lay (T C) (LT C) hints 33 0 (bodyOf Try.prog 33 4) (canon [1, 2, 3, 6, 8] [.d (.sl Key.tm a1), .d (.sl Key.sm a2), .ptr 0 0, .ptr 1 0, .d (.int .i64 a3)] [some [.d (.int .i64 a4.op), .d (.int .i64 a4.head), .d (.int .i64 a4.n), .d (.sl Key.tm a4.args)], some [.d (.int .i64 a5.op), .d (.int .i64 a5.head), .d (.int .i64 a5.n), .full Key.tm a5.args]] [] 87) (loopNext (LT C) PK 33 0 4 K) =
    Gl33_4_0 C ρ a1 a2 a3 a4 a5 (fun (y0 : Int) (y1 : Tm) (y2 : Tm) => K .ret (canon [6, 7] [.ptr 1 0, .d (.int .i64 y0)] [some [.d (.int .i64 y1.op), .d (.int .i64 y1.head), .d (.int .i64 y1.n), .d (.sl Key.tm y1.args)], some [.d (.int .i64 y2.op), .d (.int .i64 y2.head), .d (.int .i64 y2.n), .full Key.tm y2.args]] [] 87)) (fun (y0 : List Tm) (y1 : List Sm) (y2 : Tm) (y3 : Tm) => K (.exit 0) (canon [1, 2, 3, 6] [.d (.sl Key.tm y0), .d (.sl Key.sm y1), .ptr 0 0, .ptr 1 0] [some [.d (.int .i64 y2.op), .d (.int .i64 y2.head), .d (.int .i64 y2.n), .d (.sl Key.tm y2.args)], some [.d (.int .i64 y3.op), .d (.int .i64 y3.head), .d (.int .i64 y3.n), .full Key.tm y3.args]] [] 87)) := by kernel_rfl

theorem gl36_2_0 (C : Tab) (ρ : Type) (K : Ex sig → St sig → Option ρ) (a1 : Int) (a2 : Tm) : evK Try.prog lay (T C) (LT C) hints 36 0 (bodyOf Try.prog 36 2) (canon [1, 5] [.ptr 0 0, .d (.int .i64 a1)] [some [.d (.int .i64 a2.op), .d (.int .i64 a2.head), .d (.int .i64 a2.n), .d (.sl Key.tm a2.args)]] [] 75) (loopNext (LT C) PK 36 0 2 K) =
    Gl36_2_0 C ρ a1 a2 (fun (y0 : Int) (y1 : Tm) => K (.exit 0) (canon [1, 5] [.ptr 0 0, .d (.int .i64 y0)] [some [.d (.int .i64 y1.op), .d (.int .i64 y1.head), .d (.int .i64 y1.n), .d (.sl Key.tm y1.args)]] [] 75)) := by kernel_rfl

theorem gl39_4_0 (C : Tab) (ρ : Type) (K : Ex sig → St sig → Option ρ) (a1 : List Sm) (a2 : List Int) (a3 : List Tm) (a4 : Int) (a5 : Int) : evK Try.prog lay (T C) (LT C) hints 39 0 (bodyOf Try.prog 39 4) (canon [1, 2, 12, 13, 14] [.d (.sl Key.sm a1), .d (.sl Key.int a2), .d (.sl Key.tm a3), .d (.int .i64 a4), .d (.int .i64 a5)] [] [] 27) (loopNext (LT C) PK 39 0 4 K) =
    Gl39_4_0 C ρ a1 a2 a3 a4 a5 (fun (y0 : List Sm) (y1 : List Int) => K (.exit 0) (canon [1, 2] [.d (.sl Key.sm y0), .d (.sl Key.int y1)] [] [] 27)) (fun (y0 : Bool) => K .ret (canon [6] [.d (.bool y0)] [] [] 27)) := by kernel_rfl

theorem gl48_18_0 (C : Tab) (ρ : Type) (K : Ex sig → St sig → Option ρ) (a1 : Int) (a2 : Int) (a3 : Tm) : evK Try.prog lay (T C) (LT C) hints 48 0 (bodyOf Try.prog 48 18) (canon [1, 2, 5] [.d (.int .i64 a1), .ptr 0 0, .d (.int .i64 a2)] [some [.d (.int .i64 a3.op), .d (.int .i64 a3.head), .d (.int .i64 a3.n), .d (.sl Key.tm a3.args)]] [] 94) (loopNext (LT C) PK 48 0 18 K) =
    Gl48_18_0 C ρ a1 a2 a3 (fun (y0 : Bool) => K .ret (canon [4] [.d (.bool y0)] [] [] 94)) (K (.exit 1) (canon [] [] [] [] 94)) := by kernel_rfl

theorem gl52_6_0 (C : Tab) (ρ : Type) (K : Ex sig → St sig → Option ρ) (a1 : Int) (a2 : List Sm) (a3 : Int) (a4 : Int) (a5 : Sm) (a6 : Tm) (a7 : Tm) : evK Try.prog lay (T C) (LT C) hints 52 0 (bodyOf Try.prog 52 6) (canon [6, 7, 8, 25, 26, 27] [.ptr 1 0, .d (.int .i64 a1), .ptr 2 0, .d (.sl Key.sm a2), .d (.int .i64 a3), .d (.int .i64 a4)] [some [.d (.sl Key.sm a5.args), .d (.int .i64 a5.con)], some [.d (.int .i64 a6.op), .d (.int .i64 a6.head), .d (.int .i64 a6.n), .full Key.tm a6.args], some [.d (.int .i64 a7.op), .d (.int .i64 a7.head), .d (.int .i64 a7.n), .own Key.tm a7.args]] [] 51) (loopNext (LT C) PK 52 0 6 K) =
    Gl52_6_0 C ρ a1 a2 a3 a4 a5 a6 a7 (fun (y0 : Int) (y1 : Sm) (y2 : Tm) (y3 : Tm) => K (.exit 0) (canon [6, 7, 8] [.ptr 1 0, .d (.int .i64 y0), .ptr 2 0] [some [.d (.sl Key.sm y1.args), .d (.int .i64 y1.con)], some [.d (.int .i64 y2.op), .d (.int .i64 y2.head), .d (.int .i64 y2.n), .full Key.tm y2.args], some [.d (.int .i64 y3.op), .d (.int .i64 y3.head), .d (.int .i64 y3.n), .own Key.tm y3.args]] [] 51)) := by kernel_rfl

theorem gl61_6_0 (C : Tab) (ρ : Type) (K : Ex sig → St sig → Option ρ) (a1 : Int) (a2 : Int) (a3 : Sm) (a4 : Tm) (a5 : Tm) : evK Try.prog lay (T C) (LT C) hints 61 0 (bodyOf Try.prog 61 6) (canon [5, 6, 7, 8, 9] [.ptr 0 0, .ptr 1 0, .d (.int .i64 a1), .ptr 2 0, .d (.int .i64 a2)] [some [.d (.sl Key.sm a3.args), .d (.int .i64 a3.con)], some [.d (.int .i64 a4.op), .d (.int .i64 a4.head), .d (.int .i64 a4.n), .full Key.tm a4.args], some [.d (.int .i64 a5.op), .d (.int .i64 a5.head), .d (.int .i64 a5.n), .own Key.tm a5.args]] [] 54) (loopNext (LT C) PK 61 0 6 K) =
    Gl61_6_0 C ρ a1 a2 a3 a4 a5 (fun (y0 : Int) (y1 : Sm) (y2 : Tm) (y3 : Tm) => K (.exit 0) (canon [6, 7, 8] [.ptr 1 0, .d (.int .i64 y0), .ptr 2 0] [some [.d (.sl Key.sm y1.args), .d (.int .i64 y1.con)], some [.d (.int .i64 y2.op), .d (.int .i64 y2.head), .d (.int .i64 y2.n), .full Key.tm y2.args], some [.d (.int .i64 y3.op), .d (.int .i64 y3.head), .d (.int .i64 y3.n), .own Key.tm y3.args]] [] 54)) := by kernel_rfl

theorem gl75_3_1 (C : Tab) (ρ : Type) (K : Ex sig → St sig → Option ρ) (a1 : Int) (a2 : List Tm) (a3 : Int) (a4 : Int) (a5 : Int) (a6 : Int) (a7 : Tm) (a8 : Tm) (a9 : Tm) : evK Try.prog lay (T C) (LT C) hints 75 2 (bodyOf Try.prog 75 3) (canon [1, 2, 3, 6, 7, 21, 22, 23] [.d (.int .i64 a1), .fn (.func 89) [] [.ptr 0 0, .ptr 1 0], .ptr 2 0, .ptr 3 0, .ptr 4 0, .d (.sl Key.tm a2), .d (.int .i64 a3), .d (.int .i64 a4)] [some [.d (.int .i64 a5)], some [.d (.int .i64 a6)], some [.d (.int .i64 a7.op), .d (.int .i64 a7.head), .d (.int .i64 a7.n), .d (.sl Key.tm a7.args)], some [.d (.int .i64 a8.op), .d (.int .i64 a8.head), .d (.int .i64 a8.n), .full Key.tm a8.args], some [.d (.int .i64 a9.op), .d (.int .i64 a9.head), .d (.int .i64 a9.n), .own Key.tm a9.args]] [] 43) (loopNext (LT C) PK 75 2 3 K) =
    Gl75_3_1 C ρ a1 a2 a3 a4 a5 a6 a7 a8 a9 (fun (y0 : Int) (y1 : Int) (y2 : Tm) (y3 : Tm) (y4 : Tm) => K (.exit 0) (canon [6, 7] [.ptr 3 0, .ptr 4 0] [some [.d (.int .i64 y0)], some [.d (.int .i64 y1)], some [.d (.int .i64 y2.op), .d (.int .i64 y2.head), .d (.int .i64 y2.n), .d (.sl Key.tm y2.args)], some [.d (.int .i64 y3.op), .d (.int .i64 y3.head), .d (.int .i64 y3.n), .full Key.tm y3.args], some [.d (.int .i64 y4.op), .d (.int .i64 y4.head), .d (.int .i64 y4.n), .own Key.tm y4.args]] [] 43)) := by kernel_rfl

theorem gl82_2_1 (C : Tab) (ρ : Type) (K : Ex sig → St sig → Option ρ) (a1 : List Sm) (a2 : Int) (a3 : Int) (a4 : Int) : evK Try.prog lay (T C) (LT C) hints 82 2 (bodyOf Try.prog 82 2) (canon [0, 1, 7, 8] [.d (.sl Key.sm a1), .fn (.func 88) [] [.ptr 0 0], .d (.int .i64 a2), .d (.int .i64 a3)] [some [.ptr 1 0], some [.d (.int .i64 a4)]] [] 19) (loopNext (LT C) PK 82 2 2 K) =
    Gl82_2_1 C ρ a1 a2 a3 a4 (fun (y0 : Int) => K (.exit 0) (canon [] [] [some [.ptr 1 0], some [.d (.int .i64 y0)]] [] 19)) (fun (y0 : Int) (y1 : Int) => K .ret (canon [4] [.d (.int .i64 y0)] [some [.ptr 1 0], some [.d (.int .i64 y1)]] [] 19)) := by kernel_rfl

end Go.Proofs.Ytcgbfghdcjmaeaa.Ev
