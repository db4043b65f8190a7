/- This file proves that the evaluator does with each function and loop what the typed functions say; without any condition. -/
import Derived.Test.YtanfoijdfcnpoaaGreatDoorGR
set_option linter.unusedVariables false
set_option linter.unusedSimpArgs false
namespace Go.Proofs.YtanfoijdfcnpoaaGreatDoor.Ev

theorem gc8_0 (C : Tab) (ρ : Type) (K : Res sig × Mem sig → Option ρ) (a1 : ByteArray) : evF Tryz.prog lay (T C) (LT C) hints dfT 8 [.d (.str a1)] [] K =
    Gc8_0 C ρ a1 (fun (y0 : Rw) (y1 : Int) (y2 : Int) => K (.ret (.tup [.agg [.d (.int .i64 y0.op), .d (.str y0.name), .d (.sl Key.raw y0.args)], .d (.int .i64 y1), .d (.int .i64 y2)]), [])) := by kernel_rfl

theorem gc13_0 (C : Tab) (ρ : Type) (K : Res sig × Mem sig → Option ρ) (a1 : Rw) : evF Tryz.prog lay (T C) (LT C) hints dfT 13 [.agg [.d (.int .i64 a1.op), .d (.str a1.name), .d (.sl Key.raw a1.args)]] [] K =
    Gc13_0 C ρ a1 (fun (y0 : Bool) => K (.ret (.d (.bool y0)), [])) := by kernel_rfl

theorem gc17_0 (C : Tab) (ρ : Type) (K : Res sig × Mem sig → Option ρ) (a1 : List ByteArray) (a2 : ByteArray) : evF Tryz.prog lay (T C) (LT C) hints dfT 17 [.d (.sl Key.str a1), .d (.str a2)] [] K =
    Gc17_0 C ρ a1 a2 (fun (y0 : Bool) => K (.ret (.d (.bool y0)), [])) := by kernel_rfl

theorem gc28_0 (C : Tab) (ρ : Type) (K : Res sig × Mem sig → Option ρ) (a1 : ByteArray) : evF Tryz.prog lay (T C) (LT C) hints dfT 28 [.d (.str a1)] [] K =
    Gc28_0 C ρ a1 (fun (y0 : List Tok) (y1 : Int) (y2 : Int) => K (.ret (.tup [.d (.sl Key.tok y0), .d (.int .i64 y1), .d (.int .i64 y2)]), [])) := by kernel_rfl

theorem gc33_0 (C : Tab) (ρ : Type) (K : Res sig × Mem sig → Option ρ) (a1 : Rw) : evF Tryz.prog lay (T C) (LT C) hints dfT 33 [.agg [.d (.int .i64 a1.op), .d (.str a1.name), .d (.sl Key.raw a1.args)]] [] K =
    Gc33_0 C ρ a1 (fun (y0 : Int) => K (.ret (.d (.int .i64 y0)), [])) := by kernel_rfl

theorem gc40_0 (C : Tab) (ρ : Type) (K : Res sig × Mem sig → Option ρ) (a1 : Rw) (a2 : List ByteArray) (a3 : ByteArray) (a4 : ByteArray) (a5 : Int) (a6 : List (ByteArray × Bool)) : evF Tryz.prog lay (T C) (LT C) hints dfT 40 [.ptr 0 0, .agg [.d (.int .i64 a1.op), .d (.str a1.name), .d (.sl Key.raw a1.args)], .d (.sl Key.str a2), .nilmp] [some [.d (.str a3), .d (.str a4), .mp 1, .d (.int .i64 a5)], some [.mpo (.b a6)]] K =
    Gc40_0 C ρ a1 a2 a3 a4 a5 a6 (fun (y0 : Rw) (y1 : ByteArray) (y2 : ByteArray) (y3 : Int) (y4 : List (ByteArray × Bool)) => K (.ret (.agg [.d (.int .i64 y0.op), .d (.str y0.name), .d (.sl Key.raw y0.args)]), [some [.d (.str y1), .d (.str y2), .mp 1, .d (.int .i64 y3)], some [.mpo (.b y4)]])) := by kernel_rfl

theorem gc43_0 (C : Tab) (ρ : Type) (K : Res sig × Mem sig → Option ρ) (a1 : Rw) (a2 : Int) : evF Tryz.prog lay (T C) (LT C) hints dfT 43 [.agg [.d (.int .i64 a1.op), .d (.str a1.name), .d (.sl Key.raw a1.args)], .d (.int .i64 a2)] [] K =
    Gc43_0 C ρ a1 a2 (fun (y0 : Bool) => K (.ret (.d (.bool y0)), [])) := by kernel_rfl

theorem gc46_0 (C : Tab) (ρ : Type) (K : Res sig × Mem sig → Option ρ) (a1 : Rw) (a2 : ByteArray) (a3 : ByteArray) (a4 : List ByteArray) : evF Tryz.prog lay (T C) (LT C) hints dfT 46 [.agg [.d (.int .i64 a1.op), .d (.str a1.name), .d (.sl Key.raw a1.args)], .d (.str a2), .d (.str a3), .d (.sl Key.str a4)] [] K =
    Gc46_0 C ρ a1 a2 a3 a4 (fun (y0 : Rw) (y1 : List ByteArray) => K (.ret (.tup [.agg [.d (.int .i64 y0.op), .d (.str y0.name), .d (.sl Key.raw y0.args)], .d (.sl Key.str y1)]), [])) := by kernel_rfl

theorem gc48_2 (C : Tab) (ρ : Type) (K : Res sig × Mem sig → Option ρ) (a1 : Rw) (a2 : List ByteArray) (a3 : List ByteArray) : evF Tryz.prog lay (T C) (LT C) hints dfT 48 [.agg [.d (.int .i64 a1.op), .d (.str a1.name), .d (.sl Key.raw a1.args)], .own Key.str a2, .own Key.str a3] [] K =
    Gc48_2 C ρ a1 a2 a3 (fun (y0 : List ByteArray) => K (.ret (.own Key.str y0), [])) := by kernel_rfl

theorem gc57_0 (C : Tab) (ρ : Type) (K : Res sig × Mem sig → Option ρ) (a1 : Rw) (a2 : List Int) : evF Tryz.prog lay (T C) (LT C) hints dfT 57 [.agg [.d (.int .i64 a1.op), .d (.str a1.name), .d (.sl Key.raw a1.args)], .d (.sl Key.int a2)] [] K =
    Gc57_0 C ρ a1 a2 (fun (y0 : ByteArray) => K (.ret (.d (.str y0)), [])) := by kernel_rfl

theorem gc68_0 (C : Tab) (ρ : Type) (K : Res sig × Mem sig → Option ρ) (a1 : List Tok) (a2 : Int) : evF Tryz.prog lay (T C) (LT C) hints dfT 68 [.ptr 0 0] [some [.d (.sl Key.tok a1), .d (.int .i64 a2)]] K =
    Gc68_0 C ρ a1 a2 (fun (y0 : Rw) (y1 : List Tok) (y2 : Int) => K (.ret (.agg [.d (.int .i64 y0.op), .d (.str y0.name), .d (.sl Key.raw y0.args)]), [some [.d (.sl Key.tok y1), .d (.int .i64 y2)]])) (fun (y0 : Int) (y1 : Int) (y2 : List Tok) (y3 : Int) => K (.pan (.iface 114 (.agg [.d (.int .i64 y0), .d (.int .i64 y1)])), [some [.d (.sl Key.tok y2), .d (.int .i64 y3)]])) := by kernel_rfl

theorem gc78_0 (C : Tab) (ρ : Type) (K : Res sig × Mem sig → Option ρ) (a1 : List ByteArray) (a2 : ByteArray) : evF Tryz.prog lay (T C) (LT C) hints dfT 78 [.d (.sl Key.str a1), .d (.str a2)] [] K =
    Gc78_0 C ρ a1 a2 (fun (y0 : Bool) => K (.ret (.d (.bool y0)), [])) := by kernel_rfl

theorem gc83_0 (C : Tab) (ρ : Type) (K : Res sig × Mem sig → Option ρ) (a1 : ByteArray) (a2 : Int) : evF Tryz.prog lay (T C) (LT C) hints dfT 83 [.d (.str a1), .d (.int .i64 a2)] [] K =
    Gc83_0 C ρ a1 a2 (fun (y0 : Int) => K (.ret (.d (.int .i64 y0)), [])) := by kernel_rfl

theorem gc92_0 (C : Tab) (ρ : Type) (K : Res sig × Mem sig → Option ρ) (a1 : ByteArray) : evF Tryz.prog lay (T C) (LT C) hints dfT 92 [.d (.str a1), .fn (.func 93) [] []] [] K =
    Gc92_0 C ρ a1 (fun (y0 : Bool) => K (.ret (.d (.bool y0)), [])) := by kernel_rfl

theorem gc97_0 (C : Tab) (ρ : Type) (K : Res sig × Mem sig → Option ρ) (a1 : Int) : evF Tryz.prog lay (T C) (LT C) hints dfT 97 [.d (.int .u8 a1)] [] K =
    Gc97_0 C ρ a1 (fun (y0 : Bool) => K (.ret (.d (.bool y0)), [])) := by kernel_rfl

theorem gc106_0 (C : Tab) (ρ : Type) (K : Res sig × Mem sig → Option ρ) (a1 : Int) (a2 : ByteArray) (a3 : Int) : evF Tryz.prog lay (T C) (LT C) hints dfT 106 [.ptr 0 0, .d (.int .i64 a1)] [some [.d (.str a2), .d (.int .i64 a3)]] K =
    Gc106_0 C ρ a1 a2 a3 (fun (y0 : ByteArray) (y1 : ByteArray) (y2 : Int) => K (.ret (.d (.str y0)), [some [.d (.str y1), .d (.int .i64 y2)]])) := by kernel_rfl

theorem gc110_0 (C : Tab) (ρ : Type) (K : Res sig × Mem sig → Option ρ) (a1 : ByteArray) (a2 : Int) : evF Tryz.prog lay (T C) (LT C) hints dfT 110 [.ptr 0 0, .ptr 1 0] [some [.d (.str a1), .d (.int .i64 a2)], some [.fn (.func 104) [] []]] K =
    Gc110_0 C ρ a1 a2 (fun (y0 : Int) (y1 : ByteArray) (y2 : ByteArray) (y3 : Int) => K (.ret (.tup [.d (.int .i64 y0), .d (.str y1)]), [some [.d (.str y2), .d (.int .i64 y3)], some [.fn (.func 104) [] []]])) := by kernel_rfl

theorem gc114_0 (C : Tab) (ρ : Type) (K : Res sig × Mem sig → Option ρ) (a1 : ByteArray) (a2 : Int) : evF Tryz.prog lay (T C) (LT C) hints dfT 114 [.ptr 0 0] [some [.d (.str a1), .d (.int .i64 a2)]] K =
    Gc114_0 C ρ a1 a2 (fun (y0 : Int) (y1 : ByteArray) (y2 : ByteArray) (y3 : Int) => K (.ret (.tup [.d (.int .i64 y0), .d (.str y1)]), [some [.d (.str y2), .d (.int .i64 y3)]])) := by kernel_rfl

theorem gc118_0 (C : Tab) (ρ : Type) (K : Res sig × Mem sig → Option ρ) (a1 : ByteArray) (a2 : List Tok) (a3 : Int) : evF Tryz.prog lay (T C) (LT C) hints dfT 118 [.ptr 0 0, .d (.str a1)] [some [.d (.sl Key.tok a2), .d (.int .i64 a3)]] K =
    Gc118_0 C ρ a1 a2 a3 (fun (y0 : List Tok) (y1 : Int) => K (.ret (.tup []), [some [.d (.sl Key.tok y0), .d (.int .i64 y1)]])) (fun (y0 : Int) (y1 : Int) (y2 : List Tok) (y3 : Int) => K (.pan (.iface 114 (.agg [.d (.int .i64 y0), .d (.int .i64 y1)])), [some [.d (.sl Key.tok y2), .d (.int .i64 y3)]])) := by kernel_rfl

theorem gc127_0 (C : Tab) (ρ : Type) (K : Res sig × Mem sig → Option ρ) (a1 : Int) : evF Tryz.prog lay (T C) (LT C) hints dfT 127 [.d (.int .u8 a1)] [] K =
    Gc127_0 C ρ a1 (fun (y0 : Bool) => K (.ret (.d (.bool y0)), [])) := by kernel_rfl

theorem gc132_0 (C : Tab) (ρ : Type) (K : Res sig × Mem sig → Option ρ) (a1 : Int) : evF Tryz.prog lay (T C) (LT C) hints dfT 132 [.d (.int .u8 a1)] [] K =
    Gc132_0 C ρ a1 (fun (y0 : Bool) => K (.ret (.d (.bool y0)), [])) := by kernel_rfl

theorem gl5_10_0 (C : Tab) (ρ : Type) (K : Ex sig → St sig → Option ρ) (a1 : ByteArray) (a2 : ByteArray) (a3 : List ByteArray) (a4 : List ByteArray) (a5 : List ByteArray) (a6 : List ByteArray) (a7 : Int) (a8 : Int) (a9 : Rw) (a10 : Rw) : evK Tryz.prog lay (T C) (LT C) hints 5 0 (bodyOf Tryz.prog 5 10) (canon [1, 2, 3, 7, 9, 11, 13, 64, 65, 66] [.d (.str a1), .d (.str a2), .ptr 0 0, .ptr 1 0, .d (.sl Key.str a3), .d (.sl Key.str a4), .own Key.str a5, .d (.sl Key.str a6), .d (.int .i64 a7), .d (.int .i64 a8)] [some [.d (.int .i64 a9.op), .d (.str a9.name), .d (.sl Key.raw a9.args)], some [.d (.int .i64 a10.op), .d (.str a10.name), .d (.sl Key.raw a10.args)]] [] 118) (loopNext (LT C) PK 5 0 10 K) =
    Gl5_10_0 C ρ a1 a2 a3 a4 a5 a6 a7 a8 a9 a10 (fun (y0 : ByteArray) (y1 : ByteArray) (y2 : List ByteArray) (y3 : List ByteArray) (y4 : List ByteArray) (y5 : Rw) (y6 : Rw) => K (.exit 0) (canon [1, 2, 3, 7, 9, 11, 13] [.d (.str y0), .d (.str y1), .ptr 0 0, .ptr 1 0, .d (.sl Key.str y2), .d (.sl Key.str y3), .own Key.str y4] [some [.d (.int .i64 y5.op), .d (.str y5.name), .d (.sl Key.raw y5.args)], some [.d (.int .i64 y6.op), .d (.str y6.name), .d (.sl Key.raw y6.args)]] [] 118)) := by kernel_rfl

theorem gl19_4_0 (C : Tab) (ρ : Type) (K : Ex sig → St sig → Option ρ) (a1 : ByteArray) (a2 : Int) (a3 : Int) (a4 : Rw) : evK Tryz.prog lay (T C) (LT C) hints 19 0 (bodyOf Tryz.prog 19 4) (canon [1, 2, 22, 23] [.d (.str a1), .ptr 0 0, .d (.int .i64 a2), .d (.int .i64 a3)] [some [.d (.int .i64 a4.op), .d (.str a4.name), .d (.sl Key.raw a4.args)]] [] 34) (loopNext (LT C) PK 19 0 4 K) =
    Gl19_4_0 C ρ a1 a2 a3 a4 (fun (y0 : Bool) => K .ret (canon [4] [.d (.bool y0)] [] [] 34)) (K (.exit 0) (canon [] [] [] [] 34)) := by kernel_rfl

theorem gl40_23_0 (C : Tab) (ρ : Type) (K : Ex sig → St sig → Option ρ) (a1 : List ByteArray) (a2 : List Rw) (a3 : Int) (a4 : Int) (a5 : ByteArray) (a6 : ByteArray) (a7 : Int) (a8 : List (ByteArray × Bool)) (a9 : Rw) (a10 : Rw) (a11 : Rw) : evK Tryz.prog lay (T C) (LT C) hints 40 2 (bodyOf Tryz.prog 40 23) (canon [0, 2, 3, 8, 9, 127, 128, 129] [.ptr 0 0, .d (.sl Key.str a1), .nilmp, .ptr 3 0, .ptr 4 0, .d (.sl Key.raw a2), .d (.int .i64 a3), .d (.int .i64 a4)] [some [.d (.str a5), .d (.str a6), .mp 1, .d (.int .i64 a7)], some [.mpo (.b a8)], some [.d (.int .i64 a9.op), .d (.str a9.name), .d (.sl Key.raw a9.args)], some [.d (.int .i64 a10.op), .d (.str a10.name), .full Key.raw a10.args], some [.d (.int .i64 a11.op), .d (.str a11.name), .own Key.raw a11.args]] [] 145) (loopNext (LT C) PK 40 2 23 K) =
    Gl40_23_0 C ρ a1 a2 a3 a4 a5 a6 a7 a8 a9 a10 a11 (fun (y0 : ByteArray) (y1 : ByteArray) (y2 : Int) (y3 : List (ByteArray × Bool)) (y4 : Rw) (y5 : Rw) (y6 : Rw) => K (.exit 4) (canon [8, 9] [.ptr 3 0, .ptr 4 0] [some [.d (.str y0), .d (.str y1), .mp 1, .d (.int .i64 y2)], some [.mpo (.b y3)], some [.d (.int .i64 y4.op), .d (.str y4.name), .d (.sl Key.raw y4.args)], some [.d (.int .i64 y5.op), .d (.str y5.name), .full Key.raw y5.args], some [.d (.int .i64 y6.op), .d (.str y6.name), .own Key.raw y6.args]] [] 145)) := by kernel_rfl

theorem gl43_18_0 (C : Tab) (ρ : Type) (K : Ex sig → St sig → Option ρ) (a1 : Int) (a2 : Int) (a3 : Rw) : evK Tryz.prog lay (T C) (LT C) hints 43 0 (bodyOf Tryz.prog 43 18) (canon [1, 2, 7] [.d (.int .i64 a1), .ptr 0 0, .d (.int .i64 a2)] [some [.d (.int .i64 a3.op), .d (.str a3.name), .d (.sl Key.raw a3.args)]] [] 62) (loopNext (LT C) PK 43 0 18 K) =
    Gl43_18_0 C ρ a1 a2 a3 (fun (y0 : Bool) => K .ret (canon [4] [.d (.bool y0)] [] [] 62)) (K (.exit 1) (canon [] [] [] [] 62)) := by kernel_rfl

theorem gl49_4_0 (C : Tab) (ρ : Type) (K : Ex sig → St sig → Option ρ) (a1 : List Rw) (a2 : List Rw) (a3 : Int) (a4 : Int) : evK Tryz.prog lay (T C) (LT C) hints 49 0 (bodyOf Tryz.prog 49 4) (canon [1, 2, 15, 16, 17] [.d (.sl Key.raw a1), .fn (.func 20) [] [], .d (.sl Key.raw a2), .d (.int .i64 a3), .d (.int .i64 a4)] [] [] 32) (loopNext (LT C) PK 49 0 4 K) =
    Gl49_4_0 C ρ a1 a2 a3 a4 (fun (y0 : Bool) => K .ret (canon [6] [.d (.bool y0)] [] [] 32)) (K (.exit 0) (canon [] [] [] [] 32)) := by kernel_rfl

theorem gl81_1_0 (C : Tab) (ρ : Type) (K : Ex sig → St sig → Option ρ) (a1 : ByteArray) (a2 : ByteArray) (a3 : Int) (a4 : List (ByteArray × Bool)) : evK Tryz.prog lay (T C) (LT C) hints 81 2 (bodyOf Tryz.prog 81 1) (canon [0] [.ptr 0 0] [some [.d (.str a1), .d (.str a2), .mp 1, .d (.int .i64 a3)], some [.mpo (.b a4)]] [] 30) (loopNext (LT C) PK 81 2 1 K) =
    Gl81_1_0 C ρ a1 a2 a3 a4 (fun (y0 : ByteArray) (y1 : ByteArray) (y2 : ByteArray) (y3 : Int) (y4 : List (ByteArray × Bool)) => K .ret (canon [2] [.d (.str y0)] [some [.d (.str y1), .d (.str y2), .mp 1, .d (.int .i64 y3)], some [.mpo (.b y4)]] [] 30)) := by kernel_rfl

theorem gl92_4_0 (C : Tab) (ρ : Type) (K : Ex sig → St sig → Option ρ) (a1 : ByteArray) (a2 : Int) (a3 : Int) : evK Tryz.prog lay (T C) (LT C) hints 92 0 (bodyOf Tryz.prog 92 4) (canon [0, 22, 23] [.d (.str a1), .d (.int .i64 a2), .d (.int .i64 a3)] [] [] 32) (loopNext (LT C) PK 92 0 4 K) =
    Gl92_4_0 C ρ a1 a2 a3 (K (.exit 0) (canon [] [] [] [] 32)) (fun (y0 : Bool) => K .ret (canon [4] [.d (.bool y0)] [] [] 32)) := by kernel_rfl

theorem gl133_2_0 (C : Tab) (ρ : Type) (K : Ex sig → St sig → Option ρ) (a1 : List Int) (a2 : Int) (a3 : Int) (a4 : Int) : evK Tryz.prog lay (T C) (LT C) hints 133 0 (bodyOf Tryz.prog 133 2) (canon [0, 1, 7, 8] [.d (.sl Key.int a1), .d (.int .i64 a2), .d (.int .i64 a3), .d (.int .i64 a4)] [] [] 19) (loopNext (LT C) PK 133 0 2 K) =
    Gl133_2_0 C ρ a1 a2 a3 a4 (fun (y0 : Int) => K .ret (canon [4] [.d (.int .i64 y0)] [] [] 19)) (K (.exit 0) (canon [] [] [] [] 19)) := by kernel_rfl

end Go.Proofs.YtanfoijdfcnpoaaGreatDoor.Ev
