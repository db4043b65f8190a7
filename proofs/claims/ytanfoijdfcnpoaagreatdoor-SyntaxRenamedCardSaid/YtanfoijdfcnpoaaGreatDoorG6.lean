/- This file proves that the evaluator does with each function and loop what the typed functions say; without any condition. -/
import Derived.Test.YtanfoijdfcnpoaaGreatDoorGR
set_option linter.unusedVariables false
set_option linter.unusedSimpArgs false
namespace Go.Proofs.YtanfoijdfcnpoaaGreatDoor.Ev

theorem gc10_0 (C : Tab) (ρ : Type) (K : Res sig × Mem sig → Option ρ) (a1 : Rw) (a2 : Rw) : evF Tryz.prog lay (T C) (LT C) hints dfT 10 [.agg [.d (.int .i64 a1.op), .d (.str a1.name), .d (.sl Key.raw a1.args)], .agg [.d (.int .i64 a2.op), .d (.str a2.name), .d (.sl Key.raw a2.args)]] [] K =
    Gc10_0 C ρ a1 a2 (fun (y0 : Bool) => K (.ret (.d (.bool y0)), [])) := by kernel_rfl

theorem gc14_0 (C : Tab) (ρ : Type) (K : Res sig × Mem sig → Option ρ) (a1 : ByteArray) : evF Tryz.prog lay (T C) (LT C) hints dfT 14 [.d (.str a1)] [] K =
    Gc14_0 C ρ a1 (fun (y0 : Bool) => K (.ret (.d (.bool y0)), [])) := by kernel_rfl

theorem gc18_0 (C : Tab) (ρ : Type) (K : Res sig × Mem sig → Option ρ) (a1 : List ByteArray) (a2 : List ByteArray) : evF Tryz.prog lay (T C) (LT C) hints dfT 18 [.d (.sl Key.str a1), .d (.sl Key.str a2)] [] K =
    Gc18_0 C ρ a1 a2 (fun (y0 : Bool) => K (.ret (.d (.bool y0)), [])) := by kernel_rfl

theorem gc30_0 (C : Tab) (ρ : Type) (K : Res sig × Mem sig → Option ρ) (a1 : List Tok) (a2 : Int) : evF Tryz.prog lay (T C) (LT C) hints dfT 30 [.ptr 0 0] [some [.d (.sl Key.tok a1), .d (.int .i64 a2)]] K =
    Gc30_0 C ρ a1 a2 (fun (y0 : Rw) (y1 : List Tok) (y2 : Int) => K (.ret (.agg [.d (.int .i64 y0.op), .d (.str y0.name), .d (.sl Key.raw y0.args)]), [some [.d (.sl Key.tok y1), .d (.int .i64 y2)]])) (fun (y0 : Int) (y1 : Int) (y2 : List Tok) (y3 : Int) => K (.pan (.iface 114 (.agg [.d (.int .i64 y0), .d (.int .i64 y1)])), [some [.d (.sl Key.tok y2), .d (.int .i64 y3)]])) := by kernel_rfl

theorem gc37_0 (C : Tab) (ρ : Type) (K : Res sig × Mem sig → Option ρ) (a1 : Rw) : evF Tryz.prog lay (T C) (LT C) hints dfT 37 [.agg [.d (.int .i64 a1.op), .d (.str a1.name), .d (.sl Key.raw a1.args)]] [] K =
    Gc37_0 C ρ a1 (fun (y0 : ByteArray) (y1 : Int) => K (.ret (.tup [.d (.str y0), .d (.int .i64 y1)]), [])) := by kernel_rfl

theorem gc40_1 (C : Tab) (ρ : Type) (K : Res sig × Mem sig → Option ρ) (a1 : Rw) (a2 : List ByteArray) (a3 : ByteArray) (a4 : ByteArray) (a5 : Int) (a6 : List (ByteArray × ByteArray)) (a7 : List (ByteArray × Bool)) : evF Tryz.prog lay (T C) (LT C) hints dfT 40 [.ptr 0 0, .agg [.d (.int .i64 a1.op), .d (.str a1.name), .d (.sl Key.raw a1.args)], .d (.sl Key.str a2), .mp 1] [some [.d (.str a3), .d (.str a4), .mp 2, .d (.int .i64 a5)], some [.mpo (.s a6)], some [.mpo (.b a7)]] K =
    Gc40_1 C ρ a1 a2 a3 a4 a5 a6 a7 (fun (y0 : Rw) (y1 : ByteArray) (y2 : ByteArray) (y3 : Int) (y4 : List (ByteArray × ByteArray)) (y5 : List (ByteArray × Bool)) => K (.ret (.agg [.d (.int .i64 y0.op), .d (.str y0.name), .d (.sl Key.raw y0.args)]), [some [.d (.str y1), .d (.str y2), .mp 2, .d (.int .i64 y3)], some [.mpo (.s y4)], some [.mpo (.b y5)]])) := by kernel_rfl

theorem gc44_0 (C : Tab) (ρ : Type) (K : Res sig × Mem sig → Option ρ) (a1 : ByteArray) : evF Tryz.prog lay (T C) (LT C) hints dfT 44 [.d (.str a1)] [] K =
    Gc44_0 C ρ a1 (fun (y0 : Bool) => K (.ret (.d (.bool y0)), [])) := by kernel_rfl

theorem gc47_0 (C : Tab) (ρ : Type) (K : Res sig × Mem sig → Option ρ) (a1 : Rw) (a2 : ByteArray) (a3 : ByteArray) : evF Tryz.prog lay (T C) (LT C) hints dfT 47 [.agg [.d (.int .i64 a1.op), .d (.str a1.name), .d (.sl Key.raw a1.args)], .d (.str a2), .d (.str a3)] [] K =
    Gc47_0 C ρ a1 a2 a3 (fun (y0 : Rw) => K (.ret (.agg [.d (.int .i64 y0.op), .d (.str y0.name), .d (.sl Key.raw y0.args)]), [])) := by kernel_rfl

theorem gc48_3 (C : Tab) (ρ : Type) (K : Res sig × Mem sig → Option ρ) (a1 : Rw) (a2 : List ByteArray) (a3 : List ByteArray) : evF Tryz.prog lay (T C) (LT C) hints dfT 48 [.agg [.d (.int .i64 a1.op), .d (.str a1.name), .d (.sl Key.raw a1.args)], .d (.sl Key.str a2), .full Key.str a3] [] K =
    Gc48_3 C ρ a1 a2 a3 (fun (y0 : List ByteArray) => K (.ret (.own Key.str y0), [])) := by kernel_rfl

theorem gc65_0 (C : Tab) (ρ : Type) (K : Res sig × Mem sig → Option ρ) (a1 : ByteArray) (a2 : Int) : evF Tryz.prog lay (T C) (LT C) hints dfT 65 [.ptr 0 0] [some [.d (.str a1), .d (.int .i64 a2)]] K =
    Gc65_0 C ρ a1 a2 (fun (y0 : ByteArray) (y1 : Int) => K (.ret (.tup []), [some [.d (.str y0), .d (.int .i64 y1)]])) := by kernel_rfl

theorem gc69_0 (C : Tab) (ρ : Type) (K : Res sig × Mem sig → Option ρ) (a1 : List Tok) (a2 : Int) : evF Tryz.prog lay (T C) (LT C) hints dfT 69 [.ptr 0 0] [some [.d (.sl Key.tok a1), .d (.int .i64 a2)]] K =
    Gc69_0 C ρ a1 a2 (fun (y0 : Rw) (y1 : Bool) (y2 : List Tok) (y3 : Int) => K (.ret (.tup [.agg [.d (.int .i64 y0.op), .d (.str y0.name), .d (.sl Key.raw y0.args)], .d (.bool y1)]), [some [.d (.sl Key.tok y2), .d (.int .i64 y3)]])) (fun (y0 : Int) (y1 : Int) (y2 : List Tok) (y3 : Int) => K (.pan (.iface 114 (.agg [.d (.int .i64 y0), .d (.int .i64 y1)])), [some [.d (.sl Key.tok y2), .d (.int .i64 y3)]])) := by kernel_rfl

theorem gc79_0 (C : Tab) (ρ : Type) (K : Res sig × Mem sig → Option ρ) (a1 : Rw) : evF Tryz.prog lay (T C) (LT C) hints dfT 79 [.agg [.d (.int .i64 a1.op), .d (.str a1.name), .d (.sl Key.raw a1.args)]] [] K =
    Gc79_0 C ρ a1 (fun (y0 : Bool) => K (.ret (.d (.bool y0)), [])) := by kernel_rfl

theorem gc84_0 (C : Tab) (ρ : Type) (K : Res sig × Mem sig → Option ρ) (a1 : List ByteArray) (a2 : ByteArray) : evF Tryz.prog lay (T C) (LT C) hints dfT 84 [.d (.sl Key.str a1), .d (.str a2)] [] K =
    Gc84_0 C ρ a1 a2 (fun (y0 : Bool) => K (.ret (.d (.bool y0)), [])) := by kernel_rfl

theorem gc92_1 (C : Tab) (ρ : Type) (K : Res sig × Mem sig → Option ρ) (a1 : ByteArray) : evF Tryz.prog lay (T C) (LT C) hints dfT 92 [.d (.str a1), .fn (.func 107) [] []] [] K =
    Gc92_1 C ρ a1 (fun (y0 : Bool) => K (.ret (.d (.bool y0)), [])) := by kernel_rfl

theorem gc102_0 (C : Tab) (ρ : Type) (K : Res sig × Mem sig → Option ρ) (a1 : Int) (a2 : ByteArray) (a3 : Int) : evF Tryz.prog lay (T C) (LT C) hints dfT 102 [.ptr 0 0, .d (.int .i64 a1)] [some [.d (.str a2), .d (.int .i64 a3)]] K =
    Gc102_0 C ρ a1 a2 a3 (fun (y0 : Int) (y1 : ByteArray) (y2 : Int) => K (.ret (.d (.int .u8 y0)), [some [.d (.str y1), .d (.int .i64 y2)]])) := by kernel_rfl

theorem gc107_0 (C : Tab) (ρ : Type) (K : Res sig × Mem sig → Option ρ) (a1 : Int) : evF Tryz.prog lay (T C) (LT C) hints dfT 107 [.d (.int .u8 a1)] [] K =
    Gc107_0 C ρ a1 (fun (y0 : Bool) => K (.ret (.d (.bool y0)), [])) := by kernel_rfl

theorem gc111_0 (C : Tab) (ρ : Type) (K : Res sig × Mem sig → Option ρ) (a1 : ByteArray) : evF Tryz.prog lay (T C) (LT C) hints dfT 111 [.d (.str a1)] [] K =
    Gc111_0 C ρ a1 (fun (y0 : Bool) => K (.ret (.d (.bool y0)), [])) := by kernel_rfl

theorem gc115_0 (C : Tab) (ρ : Type) (K : Res sig × Mem sig → Option ρ) (a1 : ByteArray) (a2 : Int) : evF Tryz.prog lay (T C) (LT C) hints dfT 115 [.ptr 0 0, .ptr 1 0] [some [.d (.str a1), .d (.int .i64 a2)], some [.fn (.func 104) [] []]] K =
    Gc115_0 C ρ a1 a2 (fun (y0 : Int) (y1 : ByteArray) (y2 : ByteArray) (y3 : Int) => K (.ret (.tup [.d (.int .i64 y0), .d (.str y1)]), [some [.d (.str y2), .d (.int .i64 y3)], some [.fn (.func 104) [] []]])) := by kernel_rfl

theorem gc119_0 (C : Tab) (ρ : Type) (K : Res sig × Mem sig → Option ρ) (a1 : List Tok) (a2 : Int) : evF Tryz.prog lay (T C) (LT C) hints dfT 119 [.ptr 0 0] [some [.d (.sl Key.tok a1), .d (.int .i64 a2)]] K =
    Gc119_0 C ρ a1 a2 (fun (y0 : Rw) (y1 : List Tok) (y2 : Int) => K (.ret (.agg [.d (.int .i64 y0.op), .d (.str y0.name), .d (.sl Key.raw y0.args)]), [some [.d (.sl Key.tok y1), .d (.int .i64 y2)]])) (fun (y0 : Int) (y1 : Int) (y2 : List Tok) (y3 : Int) => K (.pan (.iface 114 (.agg [.d (.int .i64 y0), .d (.int .i64 y1)])), [some [.d (.sl Key.tok y2), .d (.int .i64 y3)]])) := by kernel_rfl

theorem gc128_0 (C : Tab) (ρ : Type) (K : Res sig × Mem sig → Option ρ) (a1 : Rw) (a2 : List ByteArray) (a3 : List ByteArray) : evF Tryz.prog lay (T C) (LT C) hints dfT 128 [.agg [.d (.int .i64 a1.op), .d (.str a1.name), .d (.sl Key.raw a1.args)], .full Key.str a2, .full Key.str a3] [] K =
    Gc128_0 C ρ a1 a2 a3 (fun (y0 : List ByteArray) => K (.ret (.own Key.str y0), [])) (fun (y0 : List ByteArray) => K (.ret (.full Key.str y0), [])) := by kernel_rfl

theorem gc133_0 (C : Tab) (ρ : Type) (K : Res sig × Mem sig → Option ρ) (a1 : List Int) (a2 : Int) : evF Tryz.prog lay (T C) (LT C) hints dfT 133 [.d (.sl Key.int a1), .d (.int .i64 a2)] [] K =
    Gc133_0 C ρ a1 a2 (fun (y0 : Int) => K (.ret (.d (.int .i64 y0)), [])) := by kernel_rfl

theorem gl10_4_0 (C : Tab) (ρ : Type) (K : Ex sig → St sig → Option ρ) (a1 : Int) (a2 : Rw) (a3 : Rw) : evK Tryz.prog lay (T C) (LT C) hints 10 0 (bodyOf Tryz.prog 10 4) (canon [2, 3, 5] [.ptr 0 0, .ptr 1 0, .d (.int .i64 a1)] [some [.d (.int .i64 a2.op), .d (.str a2.name), .d (.sl Key.raw a2.args)], some [.d (.int .i64 a3.op), .d (.str a3.name), .d (.sl Key.raw a3.args)]] [] 46) (loopNext (LT C) PK 10 0 4 K) =
    Gl10_4_0 C ρ a1 a2 a3 (fun (y0 : Bool) => K .ret (canon [4] [.d (.bool y0)] [] [] 46)) (K (.exit 0) (canon [] [] [] [] 46)) := by kernel_rfl

theorem gl28_6_0 (C : Tab) (ρ : Type) (K : Ex sig → St sig → Option ρ) (a1 : ByteArray) (a2 : List Tok) (a3 : ByteArray) (a4 : Int) : evK Tryz.prog lay (T C) (LT C) hints 28 0 (bodyOf Tryz.prog 28 6) (canon [0, 5, 6] [.d (.str a1), .ptr 0 0, .own Key.tok a2] [some [.d (.str a3), .d (.int .i64 a4)]] [] 69) (loopNext (LT C) PK 28 0 6 K) =
    Gl28_6_0 C ρ a1 a2 a3 a4 (fun (y0 : ByteArray) (y1 : List Tok) => K (.exit 0) (canon [0, 6] [.d (.str y0), .own Key.tok y1] [] [] 69)) (fun (y0 : List Tok) (y1 : Int) (y2 : Int) => K .ret (canon [2, 3, 4] [.full Key.tok y0, .d (.int .i64 y1), .d (.int .i64 y2)] [] [] 69)) := by kernel_rfl

theorem gl40_23_1 (C : Tab) (ρ : Type) (K : Ex sig → St sig → Option ρ) (a1 : List ByteArray) (a2 : List Rw) (a3 : Int) (a4 : Int) (a5 : ByteArray) (a6 : ByteArray) (a7 : Int) (a8 : List (ByteArray × ByteArray)) (a9 : List (ByteArray × Bool)) (a10 : Rw) (a11 : Rw) (a12 : Rw) : evK Tryz.prog lay (T C) (LT C) hints 40 3 (bodyOf Tryz.prog 40 23) (canon [0, 2, 3, 8, 9, 127, 128, 129] [.ptr 0 0, .d (.sl Key.str a1), .mp 1, .ptr 4 0, .ptr 5 0, .d (.sl Key.raw a2), .d (.int .i64 a3), .d (.int .i64 a4)] [some [.d (.str a5), .d (.str a6), .mp 2, .d (.int .i64 a7)], some [.mpo (.s a8)], some [.mpo (.b a9)], some [.d (.int .i64 a10.op), .d (.str a10.name), .d (.sl Key.raw a10.args)], some [.d (.int .i64 a11.op), .d (.str a11.name), .full Key.raw a11.args], some [.d (.int .i64 a12.op), .d (.str a12.name), .own Key.raw a12.args]] [] 145) (loopNext (LT C) PK 40 3 23 K) =
    Gl40_23_1 C ρ a1 a2 a3 a4 a5 a6 a7 a8 a9 a10 a11 a12 (fun (y0 : ByteArray) (y1 : ByteArray) (y2 : Int) (y3 : List (ByteArray × ByteArray)) (y4 : List (ByteArray × Bool)) (y5 : Rw) (y6 : Rw) (y7 : Rw) => K (.exit 4) (canon [8, 9] [.ptr 4 0, .ptr 5 0] [some [.d (.str y0), .d (.str y1), .mp 2, .d (.int .i64 y2)], some [.mpo (.s y3)], some [.mpo (.b y4)], some [.d (.int .i64 y5.op), .d (.str y5.name), .d (.sl Key.raw y5.args)], some [.d (.int .i64 y6.op), .d (.str y6.name), .full Key.raw y6.args], some [.d (.int .i64 y7.op), .d (.str y7.name), .own Key.raw y7.args]] [] 145)) := by kernel_rfl

theorem gl45_4_0 (C : Tab) (ρ : Type) (K : Ex sig → St sig → Option ρ) (a1 : List ByteArray) (a2 : Int) (a3 : Rw) : evK Tryz.prog lay (T C) (LT C) hints 45 0 (bodyOf Tryz.prog 45 4) (canon [1, 2, 5] [.own Key.str a1, .ptr 0 0, .d (.int .i64 a2)] [some [.d (.int .i64 a3.op), .d (.str a3.name), .d (.sl Key.raw a3.args)]] [] 36) (loopNext (LT C) PK 45 0 4 K) =
    Gl45_4_0 C ρ a1 a2 a3 (fun (y0 : List ByteArray) => K (.exit 0) (canon [1] [.own Key.str y0] [] [] 36)) := by kernel_rfl

theorem gl65_0_0 (C : Tab) (ρ : Type) (K : Ex sig → St sig → Option ρ) (a1 : ByteArray) (a2 : Int) : evK Tryz.prog lay (T C) (LT C) hints 65 1 (bodyOf Tryz.prog 65 0) (canon [0] [.ptr 0 0] [some [.d (.str a1), .d (.int .i64 a2)]] [] 102) (loopNext (LT C) PK 65 1 0 K) =
    Gl65_0_0 C ρ a1 a2 (fun (y0 : ByteArray) (y1 : Int) => K (.exit 0) (canon [] [] [some [.d (.str y0), .d (.int .i64 y1)]] [] 102)) := by kernel_rfl

theorem gl83_1_0 (C : Tab) (ρ : Type) (K : Ex sig → St sig → Option ρ) (a1 : ByteArray) (a2 : Int) : evK Tryz.prog lay (T C) (LT C) hints 83 0 (bodyOf Tryz.prog 83 1) (canon [0, 1] [.d (.str a1), .d (.int .i64 a2)] [] [] 18) (loopNext (LT C) PK 83 0 1 K) =
    Gl83_1_0 C ρ a1 a2 (fun (y0 : Int) => K (.exit 0) (canon [1] [.d (.int .i64 y0)] [] [] 18)) := by kernel_rfl

theorem gl106_2_0 (C : Tab) (ρ : Type) (K : Ex sig → St sig → Option ρ) (a1 : Int) (a2 : Int) (a3 : ByteArray) (a4 : Int) : evK Tryz.prog lay (T C) (LT C) hints 106 1 (bodyOf Tryz.prog 106 2) (canon [0, 1, 5] [.ptr 0 0, .d (.int .i64 a1), .d (.int .i64 a2)] [some [.d (.str a3), .d (.int .i64 a4)]] [] 42) (loopNext (LT C) PK 106 1 2 K) =
    Gl106_2_0 C ρ a1 a2 a3 a4 (fun (y0 : Int) (y1 : Int) (y2 : ByteArray) (y3 : Int) => K (.exit 0) (canon [0, 1, 5] [.ptr 0 0, .d (.int .i64 y0), .d (.int .i64 y1)] [some [.d (.str y2), .d (.int .i64 y3)]] [] 42)) := by kernel_rfl

end Go.Proofs.YtanfoijdfcnpoaaGreatDoor.Ev
