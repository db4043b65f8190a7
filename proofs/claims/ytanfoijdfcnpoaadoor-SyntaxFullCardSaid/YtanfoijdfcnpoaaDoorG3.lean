/- This file proves that the evaluator does with each function and loop what the typed functions say; without any condition. -/
import Derived.Test.YtanfoijdfcnpoaaDoorGR
set_option linter.unusedVariables false
set_option linter.unusedSimpArgs false
namespace Go.Proofs.YtanfoijdfcnpoaaDoor.Ev

theorem gc3_0 (C : Tab) (ρ : Type) (K : Res sig × Mem sig → Option ρ) (a1 : Rw) : evF Tryd.prog lay (T C) (LT C) hints dfT 3 [.agg [.d (.int .i64 a1.op), .d (.str a1.name), .d (.sl Key.raw a1.args)]] [] K =
    Gc3_0 C ρ a1 (fun (y0 : Bool) => K (.ret (.d (.bool y0)), [])) := by kernel_rfl

theorem gc11_0 (C : Tab) (ρ : Type) (K : Res sig × Mem sig → Option ρ) (a1 : Rw) : evF Tryd.prog lay (T C) (LT C) hints dfT 11 [.agg [.d (.int .i64 a1.op), .d (.str a1.name), .d (.sl Key.raw a1.args)]] [] K =
    Gc11_0 C ρ a1 (fun (y0 : Bool) => K (.ret (.d (.bool y0)), [])) := by kernel_rfl

theorem gc15_0 (C : Tab) (ρ : Type) (K : Res sig × Mem sig → Option ρ) (a1 : Rw) (a2 : Rw) : evF Tryd.prog lay (T C) (LT C) hints dfT 15 [.agg [.d (.int .i64 a1.op), .d (.str a1.name), .d (.sl Key.raw a1.args)], .agg [.d (.int .i64 a2.op), .d (.str a2.name), .d (.sl Key.raw a2.args)]] [] K =
    Gc15_0 C ρ a1 a2 (fun (y0 : Bool) => K (.ret (.d (.bool y0)), [])) := by kernel_rfl

theorem gc25_0 (C : Tab) (ρ : Type) (K : Res sig × Mem sig → Option ρ) (a1 : Rw) (a2 : Int) : evF Tryd.prog lay (T C) (LT C) hints dfT 25 [.agg [.d (.int .i64 a1.op), .d (.str a1.name), .d (.sl Key.raw a1.args)], .d (.int .i64 a2)] [] K =
    Gc25_0 C ρ a1 a2 (fun (y0 : Bool) => K (.ret (.d (.bool y0)), [])) := by kernel_rfl

theorem gc30_0 (C : Tab) (ρ : Type) (K : Res sig × Mem sig → Option ρ) (a1 : List Tok) (a2 : Int) : evF Tryd.prog lay (T C) (LT C) hints dfT 30 [.ptr 0 0] [some [.d (.sl Key.tok a1), .d (.int .i64 a2)]] K =
    Gc30_0 C ρ a1 a2 (fun (y0 : Rw) (y1 : List Tok) (y2 : Int) => K (.ret (.agg [.d (.int .i64 y0.op), .d (.str y0.name), .d (.sl Key.raw y0.args)]), [some [.d (.sl Key.tok y1), .d (.int .i64 y2)]])) (fun (y0 : Int) (y1 : Int) (y2 : List Tok) (y3 : Int) => K (.pan (.iface 90 (.agg [.d (.int .i64 y0), .d (.int .i64 y1)])), [some [.d (.sl Key.tok y2), .d (.int .i64 y3)]])) := by kernel_rfl

theorem gc38_0 (C : Tab) (ρ : Type) (K : Res sig × Mem sig → Option ρ) (a1 : It) : evF Tryd.prog lay (T C) (LT C) hints dfT 38 [.agg [.d (.str a1.word), .d (.str a1.name), .d (.int .i64 a1.raw.op), .d (.str a1.raw.name), .d (.sl Key.raw a1.raw.args), .d (.sl Key.part a1.parts)]] [] K =
    Gc38_0 C ρ a1 (fun (y0 : Int) => K (.ret (.d (.int .i64 y0)), [])) := by kernel_rfl

theorem gc43_0 (C : Tab) (ρ : Type) (K : Res sig × Mem sig → Option ρ) (a1 : ByteArray) (a2 : Int) : evF Tryd.prog lay (T C) (LT C) hints dfT 43 [.ptr 0 0] [some [.d (.str a1), .d (.int .i64 a2)]] K =
    Gc43_0 C ρ a1 a2 (fun (y0 : ByteArray) (y1 : Int) => K (.ret (.tup []), [some [.d (.str y0), .d (.int .i64 y1)]])) := by kernel_rfl

theorem gc47_0 (C : Tab) (ρ : Type) (K : Res sig × Mem sig → Option ρ) (a1 : List Tok) (a2 : Int) : evF Tryd.prog lay (T C) (LT C) hints dfT 47 [.ptr 0 0] [some [.d (.sl Key.tok a1), .d (.int .i64 a2)]] K =
    Gc47_0 C ρ a1 a2 (fun (y0 : Rw) (y1 : Bool) (y2 : List Tok) (y3 : Int) => K (.ret (.tup [.agg [.d (.int .i64 y0.op), .d (.str y0.name), .d (.sl Key.raw y0.args)], .d (.bool y1)]), [some [.d (.sl Key.tok y2), .d (.int .i64 y3)]])) (fun (y0 : Int) (y1 : Int) (y2 : List Tok) (y3 : Int) => K (.pan (.iface 90 (.agg [.d (.int .i64 y0), .d (.int .i64 y1)])), [some [.d (.sl Key.tok y2), .d (.int .i64 y3)]])) := by kernel_rfl

theorem gc55_0 (C : Tab) (ρ : Type) (K : Res sig × Mem sig → Option ρ) (a1 : Rw) : evF Tryd.prog lay (T C) (LT C) hints dfT 55 [.agg [.d (.int .i64 a1.op), .d (.str a1.name), .d (.sl Key.raw a1.args)]] [] K =
    Gc55_0 C ρ a1 (fun (y0 : Bool) => K (.ret (.d (.bool y0)), [])) := by kernel_rfl

theorem gc59_0 (C : Tab) (ρ : Type) (K : Res sig × Mem sig → Option ρ) (a1 : ByteArray) : evF Tryd.prog lay (T C) (LT C) hints dfT 59 [.d (.str a1)] [] K =
    Gc59_0 C ρ a1 (fun (y0 : Bool) => K (.ret (.d (.bool y0)), [])) := by kernel_rfl

theorem gc64_0 (C : Tab) (ρ : Type) (K : Res sig × Mem sig → Option ρ) (a1 : ByteArray) (a2 : Int) : evF Tryd.prog lay (T C) (LT C) hints dfT 64 [.ptr 0 0, .ptr 1 0] [some [.d (.str a1), .d (.int .i64 a2)], some [.fn (.func 62) [] []]] K =
    Gc64_0 C ρ a1 a2 (fun (y0 : Int) (y1 : ByteArray) (y2 : ByteArray) (y3 : Int) => K (.ret (.tup [.d (.int .i64 y0), .d (.str y1)]), [some [.d (.str y2), .d (.int .i64 y3)], some [.fn (.func 62) [] []]])) := by kernel_rfl

theorem gc68_0 (C : Tab) (ρ : Type) (K : Res sig × Mem sig → Option ρ) (a1 : Int) : evF Tryd.prog lay (T C) (LT C) hints dfT 68 [.d (.int .u8 a1)] [] K =
    Gc68_0 C ρ a1 (fun (y0 : Bool) => K (.ret (.d (.bool y0)), [])) := by kernel_rfl

theorem gc72_0 (C : Tab) (ρ : Type) (K : Res sig × Mem sig → Option ρ) (a1 : ByteArray) (a2 : Int) : evF Tryd.prog lay (T C) (LT C) hints dfT 72 [.ptr 0 0, .ptr 1 0] [some [.d (.str a1), .d (.int .i64 a2)], some [.fn (.func 62) [] []]] K =
    Gc72_0 C ρ a1 a2 (fun (y0 : Int) (y1 : ByteArray) (y2 : ByteArray) (y3 : Int) => K (.ret (.tup [.d (.int .i64 y0), .d (.str y1)]), [some [.d (.str y2), .d (.int .i64 y3)], some [.fn (.func 62) [] []]])) := by kernel_rfl

theorem gc76_0 (C : Tab) (ρ : Type) (K : Res sig × Mem sig → Option ρ) (a1 : List Tok) (a2 : Int) : evF Tryd.prog lay (T C) (LT C) hints dfT 76 [.ptr 0 0] [some [.d (.sl Key.tok a1), .d (.int .i64 a2)]] K =
    Gc76_0 C ρ a1 a2 (fun (y0 : ByteArray) (y1 : List Tok) (y2 : Int) => K (.ret (.d (.str y0)), [some [.d (.sl Key.tok y1), .d (.int .i64 y2)]])) (fun (y0 : Int) (y1 : Int) (y2 : List Tok) (y3 : Int) => K (.pan (.iface 90 (.agg [.d (.int .i64 y0), .d (.int .i64 y1)])), [some [.d (.sl Key.tok y2), .d (.int .i64 y3)]])) := by kernel_rfl

theorem gc80_0 (C : Tab) (ρ : Type) (K : Res sig × Mem sig → Option ρ) (a1 : List ByteArray) (a2 : ByteArray) : evF Tryd.prog lay (T C) (LT C) hints dfT 80 [.d (.sl Key.str a1), .d (.str a2)] [] K =
    Gc80_0 C ρ a1 a2 (fun (y0 : Int) => K (.ret (.d (.int .i64 y0)), [])) := by kernel_rfl

theorem gc83_0 (C : Tab) (ρ : Type) (K : Res sig × Mem sig → Option ρ) (a1 : Int) : evF Tryd.prog lay (T C) (LT C) hints dfT 83 [.d (.int .u8 a1)] [] K =
    Gc83_0 C ρ a1 (fun (y0 : Bool) => K (.ret (.d (.bool y0)), [])) := by kernel_rfl

theorem gc90_0 (C : Tab) (ρ : Type) (K : Res sig × Mem sig → Option ρ) (a1 : List Tok) (a2 : Int) : evF Tryd.prog lay (T C) (LT C) hints dfT 90 [.ptr 0 0] [some [.d (.sl Key.tok a1), .d (.int .i64 a2)]] K =
    Gc90_0 C ρ a1 a2 (fun (y0 : Tok) (y1 : List Tok) (y2 : Int) => K (.ret (.agg [.d (.int .i64 y0.kind), .d (.str y0.text), .d (.int .i64 (y0.at_))]), [some [.d (.sl Key.tok y1), .d (.int .i64 y2)]])) := by kernel_rfl

theorem gc98_0 (C : Tab) (ρ : Type) (K : Res sig × Mem sig → Option ρ) (a1 : Int) (a2 : List Tok) (a3 : Int) : evF Tryd.prog lay (T C) (LT C) hints dfT 98 [.ptr 0 0, .d (.int .i64 a1)] [some [.d (.sl Key.tok a2), .d (.int .i64 a3)]] K =
    Gc98_0 C ρ a1 a2 a3 (fun (y0 : Tok) (y1 : List Tok) (y2 : Int) => K (.ret (.agg [.d (.int .i64 y0.kind), .d (.str y0.text), .d (.int .i64 (y0.at_))]), [some [.d (.sl Key.tok y1), .d (.int .i64 y2)]])) := by kernel_rfl

theorem gl8_22_0 (C : Tab) (ρ : Type) (K : Ex sig → St sig → Option ρ) (a1 : Int) (a2 : Int) (a3 : Int) (a4 : Int) (a5 : Rw) (a6 : Rw) (a7 : Rw) : evK Tryd.prog lay (T C) (LT C) hints 8 0 (bodyOf Tryd.prog 8 22) (canon [0, 3, 6, 7, 60, 61] [.d (.int .i64 a1), .ptr 0 0, .ptr 2 0, .d (.int .i64 a2), .d (.int .i64 a3), .d (.int .i64 a4)] [some [.d (.int .i64 a5.op), .d (.str a5.name), .full Key.raw a5.args], some [.d (.int .i64 a6.op), .d (.str a6.name), .full Key.raw a6.args], some [.d (.int .i64 a7.op), .d (.str a7.name), .full Key.raw a7.args]] [] 130) (loopNext (LT C) PK 8 0 22 K) =
    Gl8_22_0 C ρ a1 a2 a3 a4 a5 a6 a7 (fun (y0 : Int) (y1 : Int) (y2 : Rw) (y3 : Rw) (y4 : Rw) => K (.exit 6) (canon [0, 3, 6, 7] [.d (.int .i64 y0), .ptr 0 0, .ptr 2 0, .d (.int .i64 y1)] [some [.d (.int .i64 y2.op), .d (.str y2.name), .full Key.raw y2.args], some [.d (.int .i64 y3.op), .d (.str y3.name), .full Key.raw y3.args], some [.d (.int .i64 y4.op), .d (.str y4.name), .full Key.raw y4.args]] [] 130)) := by kernel_rfl

theorem gl20_11_0 (C : Tab) (ρ : Type) (K : Ex sig → St sig → Option ρ) (a1 : List It) (a2 : Int) (a3 : Int) (a4 : List It) (a5 : Int) (a6 : Int) (mk : Nat) : evK Tryd.prog lay (T C) (LT C) hints 20 0 (bodyOf Tryd.prog 20 11) (canon [2, 3, 4, 31, 32, 33] [.ptr 0 0, .ptr 1 0, .ptr 2 0, .d (.sl Key.item a1), .d (.int .i64 a2), .d (.int .i64 a3)] [some [.d (.sl Key.item a4)], some [.d (.int .i64 a5)], some [.d (.int .i64 a6)]] [(1000000, [.fn (.yield mk) [] []]), (29, [.ptr 1 0, .ptr 2 0]), (36, [.ptr 2 0, .ptr 0 0])] 45) (loopNext (LT C) PK 20 0 11 K) =
    Gl20_11_0 C ρ a1 a2 a3 a4 a5 a6 mk (fun (y0 : List It) (y1 : Int) (y2 : Int) => K (.exit 2) (canon [2, 3, 4] [.ptr 0 0, .ptr 1 0, .ptr 2 0] [some [.d (.sl Key.item y0)], some [.d (.int .i64 y1)], some [.d (.int .i64 y2)]] [(1000000, [.fn (.yield mk) [] []]), (29, [.ptr 1 0, .ptr 2 0]), (36, [.ptr 2 0, .ptr 0 0])] 45)) (fun (y0 : List It) (y1 : Int) (y2 : Int) => K .ret (canon [2, 3, 4] [.ptr 0 0, .ptr 1 0, .ptr 2 0] [some [.full Key.item y0], some [.d (.int .i64 y1)], some [.d (.int .i64 y2)]] [(1000000, [.fn (.yield mk) [] []]), (29, [.ptr 1 0, .ptr 2 0]), (36, [.ptr 2 0, .ptr 0 0])] 45)) := by kernel_rfl

theorem gl28_6_0 (C : Tab) (ρ : Type) (K : Ex sig → St sig → Option ρ) (a1 : ByteArray) (a2 : List Tok) (a3 : ByteArray) (a4 : Int) : evK Tryd.prog lay (T C) (LT C) hints 28 0 (bodyOf Tryd.prog 28 6) (canon [0, 5, 6] [.d (.str a1), .ptr 0 0, .own Key.tok a2] [some [.d (.str a3), .d (.int .i64 a4)]] [] 69) (loopNext (LT C) PK 28 0 6 K) =
    Gl28_6_0 C ρ a1 a2 a3 a4 (fun (y0 : ByteArray) (y1 : List Tok) => K (.exit 0) (canon [0, 6] [.d (.str y0), .own Key.tok y1] [] [] 69)) (fun (y0 : List Tok) (y1 : Int) (y2 : Int) => K .ret (canon [2, 3, 4] [.full Key.tok y0, .d (.int .i64 y1), .d (.int .i64 y2)] [] [] 69)) := by kernel_rfl

theorem gl47_2_0 (C : Tab) (ρ : Type) (K : Ex sig → St sig → Option ρ) (a1 : List Tok) (a2 : Int) (a3 : Rw) (a4 : Rw) : evK Tryd.prog lay (T C) (LT C) hints 47 1 (bodyOf Tryd.prog 47 2) (canon [0, 2, 4] [.ptr 0 0, .ptr 1 0, .ptr 2 0] [some [.d (.sl Key.tok a1), .d (.int .i64 a2)], some [.d (.int .i64 a3.op), .d (.str a3.name), .full Key.raw a3.args], some [.d (.int .i64 a4.op), .d (.str a4.name), .d (.sl Key.raw a4.args)]] [] 23) (loopNext (LT C) PK 47 1 2 K) =
    Gl47_2_0 C ρ a1 a2 a3 a4 (fun (y0 : List Tok) (y1 : Int) (y2 : Rw) (y3 : Rw) => K (.exit 0) (canon [0, 2, 4] [.ptr 0 0, .ptr 1 0, .ptr 2 0] [some [.d (.sl Key.tok y0), .d (.int .i64 y1)], some [.d (.int .i64 y2.op), .d (.str y2.name), .full Key.raw y2.args], some [.d (.int .i64 y3.op), .d (.str y3.name), .d (.sl Key.raw y3.args)]] [] 23)) (fun (y0 : List Tok) (y1 : Int) (y2 : Rw) (y3 : Int) (y4 : Int) => K (.pan (.iface 90 (.agg [.d (.int .i64 y3), .d (.int .i64 y4)]))) (canon [2, 3] [.ptr 1 0, .any] [some [.d (.sl Key.tok y0), .d (.int .i64 y1)], some [.d (.int .i64 y2.op), .d (.str y2.name), .d (.sl Key.raw y2.args)]] [] 23)) := by kernel_rfl

theorem gl80_2_0 (C : Tab) (ρ : Type) (K : Ex sig → St sig → Option ρ) (a1 : List ByteArray) (a2 : ByteArray) (a3 : Int) (a4 : Int) : evK Tryd.prog lay (T C) (LT C) hints 80 0 (bodyOf Tryd.prog 80 2) (canon [0, 1, 7, 8] [.d (.sl Key.str a1), .d (.str a2), .d (.int .i64 a3), .d (.int .i64 a4)] [] [] 19) (loopNext (LT C) PK 80 0 2 K) =
    Gl80_2_0 C ρ a1 a2 a3 a4 (fun (y0 : Int) => K .ret (canon [4] [.d (.int .i64 y0)] [] [] 19)) (K (.exit 0) (canon [] [] [] [] 19)) := by kernel_rfl

end Go.Proofs.YtanfoijdfcnpoaaDoor.Ev
