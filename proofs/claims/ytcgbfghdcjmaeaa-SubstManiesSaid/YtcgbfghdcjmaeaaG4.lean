/- This file proves that the evaluator does with each function and loop what the typed functions say; without any condition. -/
import Derived.Test.YtcgbfghdcjmaeaaG1
set_option linter.unusedVariables false
set_option linter.unusedSimpArgs false
namespace Go.Proofs.Ytcgbfghdcjmaeaa.Ev

theorem gc4_0 (C : Tab) (ρ : Type) (K : Res sig × Mem sig → Option ρ) (a1 : Int) (a2 : Int) (a3 : Int) (a4 : List Tm) (a5 : Int) (a6 : Int) (a7 : Int) (a8 : Int) (a9 : List Tm) (a10 : List Sm) (a11 : Int) : evF Try.prog lay (T C) (LT C) hints dfT 4 [.agg [.d (.int .i64 a1), .d (.int .i64 a2), .d (.int .i64 a3), .d (.sl Key.tm a4), .d (.int .i64 a5), .d (.int .i64 a6), .d (.int .i64 a7), .d (.int .i64 a8), .d (.sl Key.tm a9), .d (.sl Key.sm a10), .d (.int .i64 a11)]] [] K =
    Gc4_0 C ρ a1 a2 a3 a4 a5 a6 a7 a8 a9 a10 a11 (fun (y0 : Bool) => K (.ret (.d (.bool y0)), [])) := by kernel_rfl

theorem gc8_0 (C : Tab) (ρ : Type) (K : Res sig × Mem sig → Option ρ) (a1 : Tm) (a2 : List Tm) (a3 : Sm) : evF Try.prog lay (T C) (LT C) hints dfT 8 [.agg [.d (.int .i64 a1.op), .d (.int .i64 a1.head), .d (.int .i64 a1.n), .d (.sl Key.tm a1.args)], .d (.sl Key.tm a2), .agg [.d (.sl Key.sm a3.args), .d (.int .i64 a3.con)]] [] K =
    Gc8_0 C ρ a1 a2 a3 (fun (y0 : Bool) => K (.ret (.d (.bool y0)), [])) := by kernel_rfl

theorem gc12_0 (C : Tab) (ρ : Type) (K : Res sig × Mem sig → Option ρ) (a1 : Tm) (a2 : List Tm) : evF Try.prog lay (T C) (LT C) hints dfT 12 [.agg [.d (.int .i64 a1.op), .d (.int .i64 a1.head), .d (.int .i64 a1.n), .d (.sl Key.tm a1.args)], .d (.sl Key.tm a2)] [] K =
    Gc12_0 C ρ a1 a2 (fun (y0 : Bool) => K (.ret (.d (.bool y0)), [])) := by kernel_rfl

theorem gc16_0 (C : Tab) (ρ : Type) (K : Res sig × Mem sig → Option ρ) (a1 : Tm) (a2 : Int) (a3 : Tm) (a4 : Int) : evF Try.prog lay (T C) (LT C) hints dfT 16 [.agg [.d (.int .i64 a1.op), .d (.int .i64 a1.head), .d (.int .i64 a1.n), .d (.sl Key.tm a1.args)], .d (.int .i64 a2), .agg [.d (.int .i64 a3.op), .d (.int .i64 a3.head), .d (.int .i64 a3.n), .d (.sl Key.tm a3.args)], .d (.int .i64 a4)] [] K =
    Gc16_0 C ρ a1 a2 a3 a4 (fun (y0 : Bool) => K (.ret (.d (.bool y0)), [])) := by kernel_rfl

theorem gc20_0 (C : Tab) (ρ : Type) (K : Res sig × Mem sig → Option ρ) (a1 : Tm) (a2 : Int) : evF Try.prog lay (T C) (LT C) hints dfT 20 [.agg [.d (.int .i64 a1.op), .d (.int .i64 a1.head), .d (.int .i64 a1.n), .d (.sl Key.tm a1.args)], .d (.int .i64 a2)] [] K =
    Gc20_0 C ρ a1 a2 (fun (y0 : Bool) => K (.ret (.d (.bool y0)), [])) := by kernel_rfl

theorem gc24_0 (C : Tab) (ρ : Type) (K : Res sig × Mem sig → Option ρ) (a1 : List Sm) (a2 : Int) : evF Try.prog lay (T C) (LT C) hints dfT 24 [.d (.sl Key.sm a1), .d (.int .i64 a2)] [] K =
    Gc24_0 C ρ a1 a2 (fun (y0 : List Sm) => K (.ret (.d (.sl Key.sm y0)), [])) := by kernel_rfl

theorem gc28_0 (C : Tab) (ρ : Type) (K : Res sig × Mem sig → Option ρ) (a1 : Int) (a2 : Int) (a3 : Sm) : evF Try.prog lay (T C) (LT C) hints dfT 28 [.d (.int .i64 a1), .d (.int .i64 a2), .agg [.d (.sl Key.sm a3.args), .d (.int .i64 a3.con)]] [] K =
    Gc28_0 C ρ a1 a2 a3 (fun (y0 : Tm) (y1 : Int) => K (.ret (.tup [.agg [.d (.int .i64 y0.op), .d (.int .i64 y0.head), .d (.int .i64 y0.n), .d (.sl Key.tm y0.args)], .d (.int .i64 y1)]), [])) := by kernel_rfl

theorem gc32_0 (C : Tab) (ρ : Type) (K : Res sig × Mem sig → Option ρ) (a1 : Tm) (a2 : List Tm) (a3 : List Sm) : evF Try.prog lay (T C) (LT C) hints dfT 32 [.agg [.d (.int .i64 a1.op), .d (.int .i64 a1.head), .d (.int .i64 a1.n), .d (.sl Key.tm a1.args)], .d (.sl Key.tm a2), .d (.sl Key.sm a3)] [] K =
    Gc32_0 C ρ a1 a2 a3 (fun (y0 : Tm) (y1 : Int) => K (.ret (.tup [.agg [.d (.int .i64 y0.op), .d (.int .i64 y0.head), .d (.int .i64 y0.n), .d (.sl Key.tm y0.args)], .d (.int .i64 y1)]), [])) := by kernel_rfl

theorem gc36_0 (C : Tab) (ρ : Type) (K : Res sig × Mem sig → Option ρ) (a1 : Tm) : evF Try.prog lay (T C) (LT C) hints dfT 36 [.agg [.d (.int .i64 a1.op), .d (.int .i64 a1.head), .d (.int .i64 a1.n), .d (.sl Key.tm a1.args)]] [] K =
    Gc36_0 C ρ a1 (fun (y0 : Int) (y1 : Int) (y2 : Bool) => K (.ret (.tup [.d (.int .i64 y0), .d (.int .i64 y1), .d (.bool y2)]), [])) := by kernel_rfl

theorem gc41_0 (C : Tab) (ρ : Type) (K : Res sig × Mem sig → Option ρ) (a1 : Tm) (a2 : Int) (a3 : Tm) (a4 : Sm) (a5 : Int) : evF Try.prog lay (T C) (LT C) hints dfT 41 [.ptr 0 0, .agg [.d (.int .i64 a1.op), .d (.int .i64 a1.head), .d (.int .i64 a1.n), .d (.sl Key.tm a1.args)], .d (.int .i64 a2), .agg [.d (.int .i64 a3.op), .d (.int .i64 a3.head), .d (.int .i64 a3.n), .d (.sl Key.tm a3.args)], .agg [.d (.sl Key.sm a4.args), .d (.int .i64 a4.con)]] [some [.d (.int .i64 a5)]] K =
    Gc41_0 C ρ a1 a2 a3 a4 a5 (fun (y0 : Int) (y1 : Int) => K (.pan (.iface 104 (.agg [.d (.int .i64 y0)])), [some [.d (.int .i64 y1)]])) (fun (y0 : Tm) (y1 : Int) => K (.ret (.agg [.d (.int .i64 y0.op), .d (.int .i64 y0.head), .d (.int .i64 y0.n), .d (.sl Key.tm y0.args)]), [some [.d (.int .i64 y1)]])) := by kernel_rfl

theorem gc45_0 (C : Tab) (ρ : Type) (K : Res sig × Mem sig → Option ρ) (a1 : Int) (a2 : List Tm) : evF Try.prog lay (T C) (LT C) hints dfT 45 [.d (.int .i64 a1), .d (.sl Key.tm a2)] [] K =
    Gc45_0 C ρ a1 a2 (fun (y0 : Tm) => K (.ret (.agg [.d (.int .i64 y0.op), .d (.int .i64 y0.head), .d (.int .i64 y0.n), .d (.sl Key.tm y0.args)]), [])) := by kernel_rfl

theorem gc49_0 (C : Tab) (ρ : Type) (K : Res sig × Mem sig → Option ρ) (a1 : Sm) (a2 : Int) : evF Try.prog lay (T C) (LT C) hints dfT 49 [.agg [.d (.sl Key.sm a1.args), .d (.int .i64 a1.con)], .d (.int .i64 a2)] [] K =
    Gc49_0 C ρ a1 a2 (fun (y0 : Int) => K (.ret (.d (.int .i64 y0)), [])) := by kernel_rfl

theorem gc53_0 (C : Tab) (ρ : Type) (K : Res sig × Mem sig → Option ρ) (a1 : Tm) : evF Try.prog lay (T C) (LT C) hints dfT 53 [.agg [.d (.int .i64 a1.op), .d (.int .i64 a1.head), .d (.int .i64 a1.n), .d (.sl Key.tm a1.args)]] [] K =
    Gc53_0 C ρ a1 (fun (y0 : Int) => K (.ret (.d (.int .i64 y0)), [])) := by kernel_rfl

theorem gc57_0 (C : Tab) (ρ : Type) (K : Res sig × Mem sig → Option ρ) (a1 : Tm) (a2 : List Tm) (a3 : Sm) (a4 : Int) : evF Try.prog lay (T C) (LT C) hints dfT 57 [.ptr 0 0, .agg [.d (.int .i64 a1.op), .d (.int .i64 a1.head), .d (.int .i64 a1.n), .d (.sl Key.tm a1.args)], .d (.sl Key.tm a2), .agg [.d (.sl Key.sm a3.args), .d (.int .i64 a3.con)]] [some [.d (.int .i64 a4)]] K =
    Gc57_0 C ρ a1 a2 a3 a4 (fun (y0 : Tm) (y1 : Int) (y2 : Int) => K (.ret (.tup [.agg [.d (.int .i64 y0.op), .d (.int .i64 y0.head), .d (.int .i64 y0.n), .d (.sl Key.tm y0.args)], .d (.int .i64 y1)]), [some [.d (.int .i64 y2)]])) := by kernel_rfl

theorem gc61_0 (C : Tab) (ρ : Type) (K : Res sig × Mem sig → Option ρ) (a1 : Int) (a2 : Int) (a3 : Sm) : evF Try.prog lay (T C) (LT C) hints dfT 61 [.d (.int .i64 a1), .d (.int .i64 a2), .agg [.d (.sl Key.sm a3.args), .d (.int .i64 a3.con)]] [] K =
    Gc61_0 C ρ a1 a2 a3 (fun (y0 : Tm) => K (.ret (.agg [.d (.int .i64 y0.op), .d (.int .i64 y0.head), .d (.int .i64 y0.n), .d (.sl Key.tm y0.args)]), [])) := by kernel_rfl

theorem gc65_0 (C : Tab) (ρ : Type) (K : Res sig × Mem sig → Option ρ) (a1 : Tm) (a2 : Tm) (a3 : Int) : evF Try.prog lay (T C) (LT C) hints dfT 65 [.ptr 0 0, .agg [.d (.int .i64 a1.op), .d (.int .i64 a1.head), .d (.int .i64 a1.n), .d (.sl Key.tm a1.args)], .agg [.d (.int .i64 a2.op), .d (.int .i64 a2.head), .d (.int .i64 a2.n), .d (.sl Key.tm a2.args)]] [some [.d (.int .i64 a3)]] K =
    Gc65_0 C ρ a1 a2 a3 (fun (y0 : Tm) (y1 : Int) (y2 : Int) => K (.ret (.tup [.agg [.d (.int .i64 y0.op), .d (.int .i64 y0.head), .d (.int .i64 y0.n), .d (.sl Key.tm y0.args)], .d (.int .i64 y1)]), [some [.d (.int .i64 y2)]])) := by kernel_rfl

theorem gc68_0 (C : Tab) (ρ : Type) (K : Res sig × Mem sig → Option ρ) (a1 : List Int) : evF Try.prog lay (T C) (LT C) hints dfT 68 [.d (.sl Key.int a1), .fn (.func 69) [] []] [] K =
    Gc68_0 C ρ a1 (fun (y0 : Bool) => K (.ret (.d (.bool y0)), [])) := by kernel_rfl

theorem gc72_0 (C : Tab) (ρ : Type) (K : Res sig × Mem sig → Option ρ) (a1 : Tm) (a2 : Int) : evF Try.prog lay (T C) (LT C) hints dfT 72 [.agg [.d (.int .i64 a1.op), .d (.int .i64 a1.head), .d (.int .i64 a1.n), .d (.sl Key.tm a1.args)], .d (.int .i64 a2)] [] K =
    Gc72_0 C ρ a1 a2 (fun (y0 : Int) => K (.ret (.d (.int .i64 y0)), [])) := by kernel_rfl

theorem gc75_1 (C : Tab) (ρ : Type) (K : Res sig × Mem sig → Option ρ) (a1 : Tm) (a2 : Int) (a3 : Int) (a4 : Int) : evF Try.prog lay (T C) (LT C) hints dfT 75 [.agg [.d (.int .i64 a1.op), .d (.int .i64 a1.head), .d (.int .i64 a1.n), .d (.sl Key.tm a1.args)], .d (.int .i64 a2), .fn (.func 89) [] [.ptr 0 0, .ptr 1 0]] [some [.d (.int .i64 a3)], some [.d (.int .i64 a4)]] K =
    Gc75_1 C ρ a1 a2 a3 a4 (fun (y0 : Tm) (y1 : Int) (y2 : Int) => K (.ret (.agg [.d (.int .i64 y0.op), .d (.int .i64 y0.head), .d (.int .i64 y0.n), .d (.sl Key.tm y0.args)]), [some [.d (.int .i64 y1)], some [.d (.int .i64 y2)]])) := by kernel_rfl

theorem gc79_0 (C : Tab) (ρ : Type) (K : Res sig × Mem sig → Option ρ) (a1 : Tm) : evF Try.prog lay (T C) (LT C) hints dfT 79 [.agg [.d (.int .i64 a1.op), .d (.int .i64 a1.head), .d (.int .i64 a1.n), .d (.sl Key.tm a1.args)]] [] K =
    Gc79_0 C ρ a1 (fun (y0 : Sm) (y1 : Int) => K (.ret (.tup [.agg [.d (.sl Key.sm y0.args), .d (.int .i64 y0.con)], .d (.int .i64 y1)]), [])) := by kernel_rfl

theorem gc82_1 (C : Tab) (ρ : Type) (K : Res sig × Mem sig → Option ρ) (a1 : List Sm) (a2 : Int) : evF Try.prog lay (T C) (LT C) hints dfT 82 [.d (.sl Key.sm a1), .fn (.func 88) [] [.ptr 0 0]] [some [.ptr 1 0], some [.d (.int .i64 a2)]] K =
    Gc82_1 C ρ a1 a2 (fun (y0 : Int) (y1 : Int) => K (.ret (.d (.int .i64 y0)), [some [.ptr 1 0], some [.d (.int .i64 y1)]])) := by kernel_rfl

theorem gc86_0 (C : Tab) (ρ : Type) (K : Res sig × Mem sig → Option ρ) (a1 : Tm) (a2 : Int) (a3 : Int) : evF Try.prog lay (T C) (LT C) hints dfT 86 [.agg [.d (.int .i64 a1.op), .d (.int .i64 a1.head), .d (.int .i64 a1.n), .d (.sl Key.tm a1.args)], .d (.int .i64 a2), .d (.int .i64 a3)] [] K =
    Gc86_0 C ρ a1 a2 a3 (fun (y0 : Tm) => K (.ret (.agg [.d (.int .i64 y0.op), .d (.int .i64 y0.head), .d (.int .i64 y0.n), .d (.sl Key.tm y0.args)]), [])) := by kernel_rfl

theorem gl13_4_0 (C : Tab) (ρ : Type) (K : Ex sig → St sig → Option ρ) (a1 : List Tm) (a2 : Int) (a3 : Int) (a4 : Tm) (a5 : Sm) : evK Try.prog lay (T C) (LT C) hints 13 0 (bodyOf Try.prog 13 4) (canon [1, 3, 5, 33, 34] [.d (.sl Key.tm a1), .ptr 0 0, .ptr 1 0, .d (.int .i64 a2), .d (.int .i64 a3)] [some [.d (.int .i64 a4.op), .d (.int .i64 a4.head), .d (.int .i64 a4.n), .d (.sl Key.tm a4.args)], some [.d (.sl Key.sm a5.args), .d (.int .i64 a5.con)]] [] 130) (loopNext (LT C) PK 13 0 4 K) =
    Gl13_4_0 C ρ a1 a2 a3 a4 a5 (fun (y0 : List Tm) (y1 : Tm) (y2 : Sm) => K (.exit 0) (canon [1, 3, 5] [.d (.sl Key.tm y0), .ptr 0 0, .ptr 1 0] [some [.d (.int .i64 y1.op), .d (.int .i64 y1.head), .d (.int .i64 y1.n), .d (.sl Key.tm y1.args)], some [.d (.sl Key.sm y2.args), .d (.int .i64 y2.con)]] [] 130)) (fun (y0 : Bool) => K .ret (canon [6] [.d (.bool y0)] [] [] 130)) := by kernel_rfl

theorem gl23_23_0 (C : Tab) (ρ : Type) (K : Ex sig → St sig → Option ρ) (a1 : List Sm) (a2 : List Sm) (a3 : Int) (a4 : Int) (a5 : Tm) (a6 : Sm) (a7 : Sm) : evK Try.prog lay (T C) (LT C) hints 23 0 (bodyOf Try.prog 23 23) (canon [0, 1, 6, 12, 103, 104] [.d (.sl Key.sm a1), .d (.sl Key.sm a2), .ptr 0 0, .ptr 2 0, .d (.int .i64 a3), .d (.int .i64 a4)] [some [.d (.int .i64 a5.op), .d (.int .i64 a5.head), .d (.int .i64 a5.n), .d (.sl Key.tm a5.args)], some [.d (.sl Key.sm a6.args), .d (.int .i64 a6.con)], some [.d (.sl Key.sm a7.args), .d (.int .i64 a7.con)]] [] 122) (loopNext (LT C) PK 23 0 23 K) =
    Gl23_23_0 C ρ a1 a2 a3 a4 a5 a6 a7 (fun (y0 : Bool) => K .ret (canon [8] [.d (.bool y0)] [] [] 122)) (K (.exit 3) (canon [] [] [] [] 122)) := by kernel_rfl

theorem gl32_6_0 (C : Tab) (ρ : Type) (K : Ex sig → St sig → Option ρ) (a1 : List Tm) (a2 : List Sm) (a3 : List Tm) (a4 : Int) (a5 : Int) (a6 : Tm) (a7 : Tm) (a8 : Int) (a9 : Int) : evK Try.prog lay (T C) (LT C) hints 32 0 (bodyOf Try.prog 32 6) (canon [1, 2, 3, 6, 7, 8, 33, 34, 35] [.d (.sl Key.tm a1), .d (.sl Key.sm a2), .ptr 0 0, .ptr 1 0, .ptr 2 0, .ptr 3 0, .d (.sl Key.tm a3), .d (.int .i64 a4), .d (.int .i64 a5)] [some [.d (.int .i64 a6.op), .d (.int .i64 a6.head), .d (.int .i64 a6.n), .d (.sl Key.tm a6.args)], some [.d (.int .i64 a7.op), .d (.int .i64 a7.head), .d (.int .i64 a7.n), .full Key.tm a7.args], some [.d (.int .i64 a8)], some [.d (.int .i64 a9)]] [(40, [.ptr 1 0, .ptr 2 0])] 57) (loopNext (LT C) PK 32 0 6 K) =
    Gl32_6_0 C ρ a1 a2 a3 a4 a5 a6 a7 a8 a9 (fun (y0 : Tm) (y1 : Tm) (y2 : Int) => K (.exit 0) (canon [3, 6, 7] [.ptr 0 0, .ptr 1 0, .ptr 2 0] [some [.d (.int .i64 y0.op), .d (.int .i64 y0.head), .d (.int .i64 y0.n), .d (.sl Key.tm y0.args)], some [.d (.int .i64 y1.op), .d (.int .i64 y1.head), .d (.int .i64 y1.n), .full Key.tm y1.args], some [.d (.int .i64 y2)]] [(40, [.ptr 1 0, .ptr 2 0])] 57)) (fun (y0 : Tm) (y1 : Tm) (y2 : Int) (y3 : Int) => K (.pan (.iface 104 (.agg [.d (.int .i64 y3)]))) (canon [6, 7] [.ptr 1 0, .ptr 2 0] [some [.d (.int .i64 y0.op), .d (.int .i64 y0.head), .d (.int .i64 y0.n), .d (.sl Key.tm y0.args)], some [.d (.int .i64 y1.op), .d (.int .i64 y1.head), .d (.int .i64 y1.n), .d (.sl Key.tm y1.args)], some [.d (.int .i64 y2)]] [(40, [.ptr 1 0, .ptr 2 0])] 57)) := by kernel_rfl

theorem gl35_10_0 (C : Tab) (ρ : Type) (K : Ex sig → St sig → Option ρ) (a1 : Int) (a2 : List Tm) (a3 : Int) (a4 : Int) (a5 : Tm) : evK Try.prog lay (T C) (LT C) hints 35 0 (bodyOf Try.prog 35 10) (canon [1, 5, 45, 46, 47] [.ptr 0 0, .d (.int .i64 a1), .d (.sl Key.tm a2), .d (.int .i64 a3), .d (.int .i64 a4)] [some [.d (.int .i64 a5.op), .d (.int .i64 a5.head), .d (.int .i64 a5.n), .d (.sl Key.tm a5.args)]] [] 86) (loopNext (LT C) PK 35 0 10 K) =
    Gl35_10_0 C ρ a1 a2 a3 a4 a5 (fun (y0 : Int) (y1 : Int) (y2 : Int) => K .ret (canon [2, 3, 4] [.d (.int .i64 y0), .d (.int .i64 y1), .d (.int .i64 y2)] [] [] 86)) (fun (y0 : Int) (y1 : Tm) => K (.exit 2) (canon [1, 5] [.ptr 0 0, .d (.int .i64 y0)] [some [.d (.int .i64 y1.op), .d (.int .i64 y1.head), .d (.int .i64 y1.n), .d (.sl Key.tm y1.args)]] [] 86)) := by kernel_rfl

theorem gl38_5_0 (C : Tab) (ρ : Type) (K : Ex sig → St sig → Option ρ) (a1 : List Tm) (a2 : Int) (a3 : Tm) (a4 : Tm) (a5 : Int) : evK Try.prog lay (T C) (LT C) hints 38 0 (bodyOf Try.prog 38 5) (canon [1, 2, 4, 6, 7] [.d (.sl Key.tm a1), .ptr 0 0, .ptr 1 0, .ptr 2 0, .d (.int .i64 a2)] [some [.d (.int .i64 a3.op), .d (.int .i64 a3.head), .d (.int .i64 a3.n), .d (.sl Key.tm a3.args)], some [.d (.int .i64 a4.op), .d (.int .i64 a4.head), .d (.int .i64 a4.n), .full Key.tm a4.args], some [.d (.int .i64 a5)]] [] 43) (loopNext (LT C) PK 38 0 5 K) =
    Gl38_5_0 C ρ a1 a2 a3 a4 a5 (fun (y0 : Tm) (y1 : Tm) => K (.exit 0) (canon [2, 4] [.ptr 0 0, .ptr 1 0] [some [.d (.int .i64 y0.op), .d (.int .i64 y0.head), .d (.int .i64 y0.n), .d (.sl Key.tm y0.args)], some [.d (.int .i64 y1.op), .d (.int .i64 y1.head), .d (.int .i64 y1.n), .full Key.tm y1.args]] [] 43)) (fun (y0 : Int) (y1 : Tm) (y2 : Tm) => K .ret (canon [4, 5] [.ptr 1 0, .d (.int .i64 y0)] [some [.d (.int .i64 y1.op), .d (.int .i64 y1.head), .d (.int .i64 y1.n), .d (.sl Key.tm y1.args)], some [.d (.int .i64 y2.op), .d (.int .i64 y2.head), .d (.int .i64 y2.n), .full Key.tm y2.args]] [] 43)) := by kernel_rfl

theorem gl47_3_0 (C : Tab) (ρ : Type) (K : Ex sig → St sig → Option ρ) (a1 : Int) (a2 : Int) (a3 : Int) (a4 : Tm) : evK Try.prog lay (T C) (LT C) hints 47 0 (bodyOf Try.prog 47 3) (canon [1, 2, 5, 6] [.d (.int .i64 a1), .ptr 0 0, .d (.int .i64 a2), .d (.int .i64 a3)] [some [.d (.int .i64 a4.op), .d (.int .i64 a4.head), .d (.int .i64 a4.n), .d (.sl Key.tm a4.args)]] [] 34) (loopNext (LT C) PK 47 0 3 K) =
    Gl47_3_0 C ρ a1 a2 a3 a4 (fun (y0 : Int) (y1 : Int) => K (.exit 0) (canon [1, 5] [.d (.int .i64 y0), .d (.int .i64 y1)] [] [] 34)) := by kernel_rfl

theorem gl51_6_0 (C : Tab) (ρ : Type) (K : Ex sig → St sig → Option ρ) (a1 : Int) (a2 : Int) (a3 : Int) (a4 : Tm) (a5 : Tm) (a6 : Tm) : evK Try.prog lay (T C) (LT C) hints 51 0 (bodyOf Try.prog 51 6) (canon [1, 2, 3, 6, 7, 8] [.d (.int .i64 a1), .d (.int .i64 a2), .ptr 0 0, .ptr 1 0, .ptr 2 0, .d (.int .i64 a3)] [some [.d (.int .i64 a4.op), .d (.int .i64 a4.head), .d (.int .i64 a4.n), .d (.sl Key.tm a4.args)], some [.d (.int .i64 a5.op), .d (.int .i64 a5.head), .d (.int .i64 a5.n), .full Key.tm a5.args], some [.d (.int .i64 a6.op), .d (.int .i64 a6.head), .d (.int .i64 a6.n), .own Key.tm a6.args]] [] 55) (loopNext (LT C) PK 51 0 6 K) =
    Gl51_6_0 C ρ a1 a2 a3 a4 a5 a6 (fun (y0 : Tm) (y1 : Tm) (y2 : Tm) => K (.exit 0) (canon [6, 7] [.ptr 1 0, .ptr 2 0] [some [.d (.int .i64 y0.op), .d (.int .i64 y0.head), .d (.int .i64 y0.n), .d (.sl Key.tm y0.args)], some [.d (.int .i64 y1.op), .d (.int .i64 y1.head), .d (.int .i64 y1.n), .full Key.tm y1.args], some [.d (.int .i64 y2.op), .d (.int .i64 y2.head), .d (.int .i64 y2.n), .own Key.tm y2.args]] [] 55)) := by kernel_rfl

theorem gl56_2_0 (C : Tab) (ρ : Type) (K : Ex sig → St sig → Option ρ) (a1 : List Tm) (a2 : Int) : evK Try.prog lay (T C) (LT C) hints 56 0 (bodyOf Try.prog 56 2) (canon [0, 3] [.d (.sl Key.tm a1), .d (.int .i64 a2)] [] [] 24) (loopNext (LT C) PK 56 0 2 K) =
    Gl56_2_0 C ρ a1 a2 (fun (y0 : Bool) => K .ret (canon [2] [.d (.bool y0)] [] [] 24)) (fun (y0 : List Tm) => K (.exit 0) (canon [0] [.d (.sl Key.tm y0)] [] [] 24)) := by kernel_rfl

theorem gl75_3_0 (C : Tab) (ρ : Type) (K : Ex sig → St sig → Option ρ) (a1 : Int) (a2 : List Tm) (a3 : Int) (a4 : Int) (a5 : Tm) (a6 : Tm) (a7 : Tm) : evK Try.prog lay (T C) (LT C) hints 75 0 (bodyOf Try.prog 75 3) (canon [1, 2, 3, 6, 7, 21, 22, 23] [.d (.int .i64 a1), .fn (.func 76) [] [], .ptr 0 0, .ptr 1 0, .ptr 2 0, .d (.sl Key.tm a2), .d (.int .i64 a3), .d (.int .i64 a4)] [some [.d (.int .i64 a5.op), .d (.int .i64 a5.head), .d (.int .i64 a5.n), .d (.sl Key.tm a5.args)], some [.d (.int .i64 a6.op), .d (.int .i64 a6.head), .d (.int .i64 a6.n), .full Key.tm a6.args], some [.d (.int .i64 a7.op), .d (.int .i64 a7.head), .d (.int .i64 a7.n), .own Key.tm a7.args]] [] 43) (loopNext (LT C) PK 75 0 3 K) =
    Gl75_3_0 C ρ a1 a2 a3 a4 a5 a6 a7 (fun (y0 : Tm) (y1 : Tm) (y2 : Tm) => K (.exit 0) (canon [6, 7] [.ptr 1 0, .ptr 2 0] [some [.d (.int .i64 y0.op), .d (.int .i64 y0.head), .d (.int .i64 y0.n), .d (.sl Key.tm y0.args)], some [.d (.int .i64 y1.op), .d (.int .i64 y1.head), .d (.int .i64 y1.n), .full Key.tm y1.args], some [.d (.int .i64 y2.op), .d (.int .i64 y2.head), .d (.int .i64 y2.n), .own Key.tm y2.args]] [] 43)) := by kernel_rfl

theorem gl82_2_0 (C : Tab) (ρ : Type) (K : Ex sig → St sig → Option ρ) (a1 : List Sm) (a2 : Int) (a3 : Int) : evK Try.prog lay (T C) (LT C) hints 82 0 (bodyOf Try.prog 82 2) (canon [0, 1, 7, 8] [.d (.sl Key.sm a1), .fn (.func 67) [] [], .d (.int .i64 a2), .d (.int .i64 a3)] [] [] 19) (loopNext (LT C) PK 82 0 2 K) =
    Gl82_2_0 C ρ a1 a2 a3 (K (.exit 0) (canon [] [] [] [] 19)) (fun (y0 : Int) => K .ret (canon [4] [.d (.int .i64 y0)] [] [] 19)) := by kernel_rfl

theorem gl87_2_0 (C : Tab) (ρ : Type) (K : Ex sig → St sig → Option ρ) (a1 : List Tm) (a2 : Tm) (a3 : Tm) : evK Try.prog lay (T C) (LT C) hints 87 0 (bodyOf Try.prog 87 2) (canon [1, 3, 4] [.ptr 0 0, .ptr 1 0, .own Key.tm a1] [some [.d (.int .i64 a2.op), .d (.int .i64 a2.head), .d (.int .i64 a2.n), .d (.sl Key.tm a2.args)], some [.d (.int .i64 a3.op), .d (.int .i64 a3.head), .d (.int .i64 a3.n), .full Key.tm a3.args]] [] 21) (loopNext (LT C) PK 87 0 2 K) =
    Gl87_2_0 C ρ a1 a2 a3 (fun (y0 : List Tm) (y1 : Tm) (y2 : Tm) => K (.exit 0) (canon [1, 3, 4] [.ptr 0 0, .ptr 1 0, .own Key.tm y0] [some [.d (.int .i64 y1.op), .d (.int .i64 y1.head), .d (.int .i64 y1.n), .d (.sl Key.tm y1.args)], some [.d (.int .i64 y2.op), .d (.int .i64 y2.head), .d (.int .i64 y2.n), .full Key.tm y2.args]] [] 21)) := by kernel_rfl

end Go.Proofs.Ytcgbfghdcjmaeaa.Ev
