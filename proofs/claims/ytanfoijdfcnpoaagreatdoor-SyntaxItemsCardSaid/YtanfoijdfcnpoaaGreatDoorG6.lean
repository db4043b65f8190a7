/- This file proves that the evaluator does with each function and loop what the typed functions say; without any condition. -/
import Derived.Test.YtanfoijdfcnpoaaGreatDoorGR
set_option linter.unusedVariables false
set_option linter.unusedSimpArgs false
namespace Go.Proofs.YtanfoijdfcnpoaaGreatDoor.Ev

theorem gc11_0 (C : Tab) (ρ : Type) (K : Res sig × Mem sig → Option ρ) : evF Tryz.prog lay (T C) (LT C) hints dfT 11 [] [] K =
    Gc11_0 C ρ (fun (y0 : Bool) => K (.ret (.d (.bool y0)), [])) := by kernel_rfl

theorem gc23_0 (C : Tab) (ρ : Type) (K : Res sig × Mem sig → Option ρ) (a1 : It) (a2 : It) : evF Tryz.prog lay (T C) (LT C) hints dfT 23 [.agg [.d (.str a1.word), .d (.str a1.name), .d (.int .i64 a1.raw.op), .d (.str a1.raw.name), .d (.sl Key.raw a1.raw.args), .d (.sl Key.part a1.parts)], .agg [.d (.str a2.word), .d (.str a2.name), .d (.int .i64 a2.raw.op), .d (.str a2.raw.name), .d (.sl Key.raw a2.raw.args), .d (.sl Key.part a2.parts)]] [] K =
    Gc23_0 C ρ a1 a2 (fun (y0 : Bool) => K (.ret (.d (.bool y0)), [])) := by kernel_rfl

theorem gc30_0 (C : Tab) (ρ : Type) (K : Res sig × Mem sig → Option ρ) (a1 : List Tok) (a2 : Int) : evF Tryz.prog lay (T C) (LT C) hints dfT 30 [.ptr 0 0] [some [.d (.sl Key.tok a1), .d (.int .i64 a2)]] K =
    Gc30_0 C ρ a1 a2 (fun (y0 : Rw) (y1 : List Tok) (y2 : Int) => K (.ret (.agg [.d (.int .i64 y0.op), .d (.str y0.name), .d (.sl Key.raw y0.args)]), [some [.d (.sl Key.tok y1), .d (.int .i64 y2)]])) (fun (y0 : Int) (y1 : Int) (y2 : List Tok) (y3 : Int) => K (.pan (.iface 114 (.agg [.d (.int .i64 y0), .d (.int .i64 y1)])), [some [.d (.sl Key.tok y2), .d (.int .i64 y3)]])) := by kernel_rfl

theorem gc34_0 (C : Tab) (ρ : Type) (K : Res sig × Mem sig → Option ρ) (a1 : ByteArray) : evF Tryz.prog lay (T C) (LT C) hints dfT 34 [.d (.str a1)] [] K =
    Gc34_0 C ρ a1 (fun (y0 : List Tok) (y1 : Int) (y2 : Int) => K (.ret (.tup [.d (.sl Key.tok y0), .d (.int .i64 y1), .d (.int .i64 y2)]), [])) := by kernel_rfl

theorem gc38_0 (C : Tab) (ρ : Type) (K : Res sig × Mem sig → Option ρ) (a1 : ByteArray) : evF Tryz.prog lay (T C) (LT C) hints dfT 38 [.d (.str a1)] [] K =
    Gc38_0 C ρ a1 (fun (y0 : Bool) => K (.ret (.d (.bool y0)), [])) := by kernel_rfl

theorem gc51_0 (C : Tab) (ρ : Type) (K : Res sig × Mem sig → Option ρ) (a1 : List Tok) (a2 : Int) : evF Tryz.prog lay (T C) (LT C) hints dfT 51 [.ptr 0 0] [some [.d (.sl Key.tok a1), .d (.int .i64 a2)]] K =
    Gc51_0 C ρ a1 a2 (fun (y0 : List Tok) (y1 : Int) => K (.ret (.fn (.func 87) [] [.ptr 1 0]), [some [.d (.sl Key.tok y0), .d (.int .i64 y1)], some [.ptr 0 0]])) := by kernel_rfl

theorem gc55_0 (C : Tab) (ρ : Type) (K : Res sig × Mem sig → Option ρ) (a1 : Rw) : evF Tryz.prog lay (T C) (LT C) hints dfT 55 [.agg [.d (.int .i64 a1.op), .d (.str a1.name), .d (.sl Key.raw a1.args)]] [] K =
    Gc55_0 C ρ a1 (fun (y0 : Bool) => K (.ret (.d (.bool y0)), [])) := by kernel_rfl

theorem gc60_0 (C : Tab) (ρ : Type) (K : Res sig × Mem sig → Option ρ) (a1 : Rw) : evF Tryz.prog lay (T C) (LT C) hints dfT 60 [.agg [.d (.int .i64 a1.op), .d (.str a1.name), .d (.sl Key.raw a1.args)]] [] K =
    Gc60_0 C ρ a1 (fun (y0 : Bool) => K (.ret (.d (.bool y0)), [])) := by kernel_rfl

theorem gc66_0 (C : Tab) (ρ : Type) (K : Res sig × Mem sig → Option ρ) (a1 : Int) : evF Tryz.prog lay (T C) (LT C) hints dfT 66 [.d (.int .u8 a1)] [] K =
    Gc66_0 C ρ a1 (fun (y0 : Int) => K (.ret (.fn (.func 105) [] [.ptr 1 0]), [some [.d (.int .u8 y0)], some [.fn (.func 104) [] []]])) (fun (y0 : Int) => K (.ret (.fn (.func 108) [] [.ptr 1 0]), [some [.d (.int .u8 y0)], some [.fn (.func 104) [] []]])) (fun (y0 : Int) => K (.ret (.fn (.func 110) [] [.ptr 1 0]), [some [.d (.int .u8 y0)], some [.fn (.func 104) [] []]])) (fun (y0 : Int) => K (.ret (.fn (.func 112) [] [.ptr 1 0]), [some [.d (.int .u8 y0)], some [.fn (.func 104) [] []]])) (fun (y0 : Int) => K (.ret (.fn (.func 113) [] [.ptr 1 0]), [some [.d (.int .u8 y0)], some [.fn (.func 104) [] []]])) (K (.ret (.fn (.func 114) [] []), [])) (fun (y0 : Int) => K (.ret (.fn (.func 115) [] [.ptr 1 0]), [some [.d (.int .u8 y0)], some [.fn (.func 104) [] []]])) (fun (y0 : Int) => K (.ret (.fn (.func 116) [] [.ptr 1 0, .ptr 0 0]), [some [.d (.int .u8 y0)], some [.fn (.func 104) [] []]])) := by kernel_rfl

theorem gc70_0 (C : Tab) (ρ : Type) (K : Res sig × Mem sig → Option ρ) (a1 : Rw) (a2 : Int) (a3 : Int) : evF Tryz.prog lay (T C) (LT C) hints dfT 70 [.agg [.d (.int .i64 a1.op), .d (.str a1.name), .d (.sl Key.raw a1.args)], .d (.int .i64 a2), .ptr 0 0] [some [.d (.int .i64 a3)]] K =
    Gc70_0 C ρ a1 a2 a3 (fun (y0 : Bool) (y1 : Int) => K (.ret (.d (.bool y0)), [some [.d (.int .i64 y1)]])) := by kernel_rfl

theorem gc74_0 (C : Tab) (ρ : Type) (K : Res sig × Mem sig → Option ρ) (a1 : List Tok) (a2 : Int) (a3 : Bool) : evF Tryz.prog lay (T C) (LT C) hints dfT 74 [.ptr 0 0] [some [.d (.sl Key.tok a1), .d (.int .i64 a2), .d (.bool a3)]] K =
    Gc74_0 C ρ a1 a2 a3 (fun (y0 : Rw) (y1 : List Tok) (y2 : Int) (y3 : Bool) => K (.ret (.agg [.d (.int .i64 y0.op), .d (.str y0.name), .d (.sl Key.raw y0.args)]), [some [.d (.sl Key.tok y1), .d (.int .i64 y2), .d (.bool y3)]])) := by kernel_rfl

theorem gc78_0 (C : Tab) (ρ : Type) (K : Res sig × Mem sig → Option ρ) (a1 : List ByteArray) (a2 : ByteArray) : evF Tryz.prog lay (T C) (LT C) hints dfT 78 [.d (.sl Key.str a1), .d (.str a2)] [] K =
    Gc78_0 C ρ a1 a2 (fun (y0 : Bool) => K (.ret (.d (.bool y0)), [])) := by kernel_rfl

theorem gc89_0 (C : Tab) (ρ : Type) (K : Res sig × Mem sig → Option ρ) (a1 : List Tok) (a2 : Int) (a3 : Bool) : evF Tryz.prog lay (T C) (LT C) hints dfT 89 [.ptr 0 0] [some [.d (.sl Key.tok a1), .d (.int .i64 a2), .d (.bool a3)]] K =
    Gc89_0 C ρ a1 a2 a3 (fun (y0 : ByteArray) (y1 : List Tok) (y2 : Int) (y3 : Bool) => K (.ret (.d (.str y0)), [some [.d (.sl Key.tok y1), .d (.int .i64 y2), .d (.bool y3)]])) := by kernel_rfl

theorem gc92_1 (C : Tab) (ρ : Type) (K : Res sig × Mem sig → Option ρ) (a1 : ByteArray) : evF Tryz.prog lay (T C) (LT C) hints dfT 92 [.d (.str a1), .fn (.func 107) [] []] [] K =
    Gc92_1 C ρ a1 (fun (y0 : Bool) => K (.ret (.d (.bool y0)), [])) := by kernel_rfl

theorem gc98_0 (C : Tab) (ρ : Type) (K : Res sig × Mem sig → Option ρ) (a1 : ByteArray) (a2 : List ByteArray) : evF Tryz.prog lay (T C) (LT C) hints dfT 98 [.d (.str a1), .d (.sl Key.str a2)] [] K =
    Gc98_0 C ρ a1 a2 (fun (y0 : Bool) => K (.ret (.d (.bool y0)), [])) := by kernel_rfl

theorem gc106_0 (C : Tab) (ρ : Type) (K : Res sig × Mem sig → Option ρ) (a1 : Int) (a2 : ByteArray) (a3 : Int) : evF Tryz.prog lay (T C) (LT C) hints dfT 106 [.ptr 0 0, .d (.int .i64 a1)] [some [.d (.str a2), .d (.int .i64 a3)]] K =
    Gc106_0 C ρ a1 a2 a3 (fun (y0 : ByteArray) (y1 : ByteArray) (y2 : Int) => K (.ret (.d (.str y0)), [some [.d (.str y1), .d (.int .i64 y2)]])) := by kernel_rfl

theorem gc110_0 (C : Tab) (ρ : Type) (K : Res sig × Mem sig → Option ρ) (a1 : ByteArray) (a2 : Int) : evF Tryz.prog lay (T C) (LT C) hints dfT 110 [.ptr 0 0, .ptr 1 0] [some [.d (.str a1), .d (.int .i64 a2)], some [.fn (.func 104) [] []]] K =
    Gc110_0 C ρ a1 a2 (fun (y0 : Int) (y1 : ByteArray) (y2 : ByteArray) (y3 : Int) => K (.ret (.tup [.d (.int .i64 y0), .d (.str y1)]), [some [.d (.str y2), .d (.int .i64 y3)], some [.fn (.func 104) [] []]])) := by kernel_rfl

theorem gc114_0 (C : Tab) (ρ : Type) (K : Res sig × Mem sig → Option ρ) (a1 : ByteArray) (a2 : Int) : evF Tryz.prog lay (T C) (LT C) hints dfT 114 [.ptr 0 0] [some [.d (.str a1), .d (.int .i64 a2)]] K =
    Gc114_0 C ρ a1 a2 (fun (y0 : Int) (y1 : ByteArray) (y2 : ByteArray) (y3 : Int) => K (.ret (.tup [.d (.int .i64 y0), .d (.str y1)]), [some [.d (.str y2), .d (.int .i64 y3)]])) := by kernel_rfl

theorem gc118_0 (C : Tab) (ρ : Type) (K : Res sig × Mem sig → Option ρ) (a1 : ByteArray) (a2 : List Tok) (a3 : Int) : evF Tryz.prog lay (T C) (LT C) hints dfT 118 [.ptr 0 0, .d (.str a1)] [some [.d (.sl Key.tok a2), .d (.int .i64 a3)]] K =
    Gc118_0 C ρ a1 a2 a3 (fun (y0 : List Tok) (y1 : Int) => K (.ret (.tup []), [some [.d (.sl Key.tok y0), .d (.int .i64 y1)]])) (fun (y0 : Int) (y1 : Int) (y2 : List Tok) (y3 : Int) => K (.pan (.iface 114 (.agg [.d (.int .i64 y0), .d (.int .i64 y1)])), [some [.d (.sl Key.tok y2), .d (.int .i64 y3)]])) := by kernel_rfl

theorem gc122_0 (C : Tab) (ρ : Type) (K : Res sig × Mem sig → Option ρ) (a1 : ByteArray) : evF Tryz.prog lay (T C) (LT C) hints dfT 122 [.d (.str a1)] [] K =
    Gc122_0 C ρ a1 (fun (y0 : Int) (y1 : Bool) => K (.ret (.tup [.d (.int .i64 y0), .d (.bool y1)]), [])) := by kernel_rfl

theorem gc126_0 (C : Tab) (ρ : Type) (K : Res sig × Mem sig → Option ρ) (a1 : List ByteArray) (a2 : ByteArray) : evF Tryz.prog lay (T C) (LT C) hints dfT 126 [.d (.sl Key.str a1), .d (.str a2)] [] K =
    Gc126_0 C ρ a1 a2 (fun (y0 : Int) => K (.ret (.d (.int .i64 y0)), [])) := by kernel_rfl

theorem gc131_0 (C : Tab) (ρ : Type) (K : Res sig × Mem sig → Option ρ) (a1 : List Tok) (a2 : Int) (a3 : Bool) : evF Tryz.prog lay (T C) (LT C) hints dfT 131 [.ptr 0 0] [some [.d (.sl Key.tok a1), .d (.int .i64 a2), .d (.bool a3)]] K =
    Gc131_0 C ρ a1 a2 a3 (fun (y0 : Pt) (y1 : List Tok) (y2 : Int) (y3 : Bool) => K (.ret (.agg [.d (.int .i64 y0.op), .d (.str y0.sign), .d (.str y0.name), .d (.int .i64 y0.num), .d (.int .i64 y0.raw.op), .d (.str y0.raw.name), .d (.sl Key.raw y0.raw.args), .d (.sl Key.part y0.parts)]), [some [.d (.sl Key.tok y1), .d (.int .i64 y2), .d (.bool y3)]])) := by kernel_rfl

theorem gc141_0 (C : Tab) (ρ : Type) (K : Res sig × Mem sig → Option ρ) (a1 : List Tok) (a2 : Int) : evF Tryz.prog lay (T C) (LT C) hints dfT 141 [.ptr 0 0] [some [.d (.sl Key.tok a1), .d (.int .i64 a2)]] K =
    Gc141_0 C ρ a1 a2 (fun (y0 : Tok) (y1 : List Tok) (y2 : Int) => K (.ret (.agg [.d (.int .i64 y0.kind), .d (.str y0.text), .d (.int .i64 (y0.at_))]), [some [.d (.sl Key.tok y1), .d (.int .i64 y2)]])) := by kernel_rfl

theorem gc151_0 (C : Tab) (ρ : Type) (K : Res sig × Mem sig → Option ρ) (a1 : Int) (a2 : List Tok) (a3 : Int) (a4 : Bool) : evF Tryz.prog lay (T C) (LT C) hints dfT 151 [.ptr 0 0, .d (.int .i64 a1)] [some [.d (.sl Key.tok a2), .d (.int .i64 a3), .d (.bool a4)]] K =
    Gc151_0 C ρ a1 a2 a3 a4 (fun (y0 : Tok) (y1 : List Tok) (y2 : Int) (y3 : Bool) => K (.ret (.agg [.d (.int .i64 y0.kind), .d (.str y0.text), .d (.int .i64 (y0.at_))]), [some [.d (.sl Key.tok y1), .d (.int .i64 y2), .d (.bool y3)]])) := by kernel_rfl

theorem gl22_6_0 (C : Tab) (ρ : Type) (K : Ex sig → St sig → Option ρ) (a1 : List It) (a2 : List Tok) (a3 : Int) (a4 : Bool) : evK Tryz.prog lay (T C) (LT C) hints 22 0 (bodyOf Tryz.prog 22 6) (canon [8, 9] [.ptr 0 0, .own Key.item a1] [some [.d (.sl Key.tok a2), .d (.int .i64 a3), .d (.bool a4)]] [] 62) (loopNext (LT C) PK 22 0 6 K) =
    Gl22_6_0 C ρ a1 a2 a3 a4 (fun (y0 : List It) (y1 : List Tok) (y2 : Int) (y3 : Bool) => K (.exit 0) (canon [8, 9] [.ptr 0 0, .own Key.item y0] [some [.d (.sl Key.tok y1), .d (.int .i64 y2), .d (.bool y3)]] [] 62)) := by kernel_rfl

theorem gl26_6_0 (C : Tab) (ρ : Type) (K : Ex sig → St sig → Option ρ) (a1 : Int) (a2 : It) : evK Tryz.prog lay (T C) (LT C) hints 26 0 (bodyOf Tryz.prog 26 6) (canon [1, 3] [.ptr 0 0, .d (.int .i64 a1)] [some [.d (.str a2.word), .d (.str a2.name), .d (.int .i64 a2.raw.op), .d (.str a2.raw.name), .d (.sl Key.raw a2.raw.args), .d (.sl Key.part a2.parts)]] [] 61) (loopNext (LT C) PK 26 0 6 K) =
    Gl26_6_0 C ρ a1 a2 (K (.exit 0) (canon [] [] [] [] 61)) (fun (y0 : Bool) => K .ret (canon [2] [.d (.bool y0)] [] [] 61)) := by kernel_rfl

theorem gl35_9_0 (C : Tab) (ρ : Type) (K : Ex sig → St sig → Option ρ) (a1 : Bool) (a2 : List Tok) (a3 : Int) (a4 : Bool) (a5 : Rw) (a6 : Rw) : evK Tryz.prog lay (T C) (LT C) hints 35 1 (bodyOf Tryz.prog 35 9) (canon [0, 2, 3, 4] [.ptr 0 0, .ptr 1 0, .ptr 2 0, .d (.bool a1)] [some [.d (.sl Key.tok a2), .d (.int .i64 a3), .d (.bool a4)], some [.d (.int .i64 a5.op), .d (.str a5.name), .full Key.raw a5.args], some [.d (.int .i64 a6.op), .d (.str a6.name), .d (.sl Key.raw a6.args)]] [] 65) (loopNext (LT C) PK 35 1 9 K) =
    Gl35_9_0 C ρ a1 a2 a3 a4 a5 a6 (fun (y0 : List Tok) (y1 : Int) (y2 : Bool) (y3 : Rw) (y4 : Rw) => K (.exit 0) (canon [2, 3] [.ptr 1 0, .ptr 2 0] [some [.d (.sl Key.tok y0), .d (.int .i64 y1), .d (.bool y2)], some [.d (.int .i64 y3.op), .d (.str y3.name), .full Key.raw y3.args], some [.d (.int .i64 y4.op), .d (.str y4.name), .d (.sl Key.raw y4.args)]] [] 65)) := by kernel_rfl

theorem gl56_32_0 (C : Tab) (ρ : Type) (K : Ex sig → St sig → Option ρ) (a1 : Int) (a2 : List Pt) (a3 : Int) (a4 : Int) (a5 : Int) (a6 : Pt) (a7 : Pt) : evK Tryz.prog lay (T C) (LT C) hints 56 1 (bodyOf Tryz.prog 56 32) (canon [1, 2, 3, 7, 121, 122, 123] [.d (.int .i64 a1), .ptr 0 0, .ptr 1 0, .ptr 2 0, .d (.sl Key.part a2), .d (.int .i64 a3), .d (.int .i64 a4)] [some [.d (.int .i64 a5)], some [.d (.int .i64 a6.op), .d (.str a6.sign), .d (.str a6.name), .d (.int .i64 a6.num), .d (.int .i64 a6.raw.op), .d (.str a6.raw.name), .d (.sl Key.raw a6.raw.args), .d (.sl Key.part a6.parts)], some [.d (.int .i64 a7.op), .d (.str a7.sign), .d (.str a7.name), .d (.int .i64 a7.num), .d (.int .i64 a7.raw.op), .d (.str a7.raw.name), .full Key.raw a7.raw.args, .full Key.part a7.parts]] [] 205) (loopNext (LT C) PK 56 1 32 K) =
    Gl56_32_0 C ρ a1 a2 a3 a4 a5 a6 a7 (fun (y0 : Bool) (y1 : Int) => K .ret (canon [6] [.d (.bool y0)] [some [.d (.int .i64 y1)]] [] 205)) (fun (y0 : Int) (y1 : Pt) (y2 : Pt) => K (.exit 1) (canon [3, 7] [.ptr 1 0, .ptr 2 0] [some [.d (.int .i64 y0)], some [.d (.int .i64 y1.op), .d (.str y1.sign), .d (.str y1.name), .d (.int .i64 y1.num), .d (.int .i64 y1.raw.op), .d (.str y1.raw.name), .d (.sl Key.raw y1.raw.args), .d (.sl Key.part y1.parts)], some [.d (.int .i64 y2.op), .d (.str y2.sign), .d (.str y2.name), .d (.int .i64 y2.num), .d (.int .i64 y2.raw.op), .d (.str y2.raw.name), .full Key.raw y2.raw.args, .full Key.part y2.parts]] [] 205)) := by kernel_rfl

theorem gl69_2_0 (C : Tab) (ρ : Type) (K : Ex sig → St sig → Option ρ) (a1 : List Tok) (a2 : Int) (a3 : Rw) (a4 : Rw) : evK Tryz.prog lay (T C) (LT C) hints 69 1 (bodyOf Tryz.prog 69 2) (canon [0, 2, 4] [.ptr 0 0, .ptr 1 0, .ptr 2 0] [some [.d (.sl Key.tok a1), .d (.int .i64 a2)], some [.d (.int .i64 a3.op), .d (.str a3.name), .full Key.raw a3.args], some [.d (.int .i64 a4.op), .d (.str a4.name), .d (.sl Key.raw a4.args)]] [] 23) (loopNext (LT C) PK 69 1 2 K) =
    Gl69_2_0 C ρ a1 a2 a3 a4 (fun (y0 : List Tok) (y1 : Int) (y2 : Rw) (y3 : Rw) => K (.exit 0) (canon [0, 2, 4] [.ptr 0 0, .ptr 1 0, .ptr 2 0] [some [.d (.sl Key.tok y0), .d (.int .i64 y1)], some [.d (.int .i64 y2.op), .d (.str y2.name), .full Key.raw y2.args], some [.d (.int .i64 y3.op), .d (.str y3.name), .d (.sl Key.raw y3.args)]] [] 23)) (fun (y0 : List Tok) (y1 : Int) (y2 : Rw) (y3 : Int) (y4 : Int) => K (.pan (.iface 114 (.agg [.d (.int .i64 y3), .d (.int .i64 y4)]))) (canon [2, 3] [.ptr 1 0, .any] [some [.d (.sl Key.tok y0), .d (.int .i64 y1)], some [.d (.int .i64 y2.op), .d (.str y2.name), .d (.sl Key.raw y2.args)]] [] 23)) := by kernel_rfl

theorem gl75_2_0 (C : Tab) (ρ : Type) (K : Ex sig → St sig → Option ρ) (a1 : List Tok) (a2 : Int) (a3 : Bool) (a4 : Rw) (a5 : Rw) : evK Tryz.prog lay (T C) (LT C) hints 75 1 (bodyOf Tryz.prog 75 2) (canon [0, 2, 4] [.ptr 0 0, .ptr 1 0, .ptr 2 0] [some [.d (.sl Key.tok a1), .d (.int .i64 a2), .d (.bool a3)], some [.d (.int .i64 a4.op), .d (.str a4.name), .full Key.raw a4.args], some [.d (.int .i64 a5.op), .d (.str a5.name), .d (.sl Key.raw a5.args)]] [] 22) (loopNext (LT C) PK 75 1 2 K) =
    Gl75_2_0 C ρ a1 a2 a3 a4 a5 (fun (y0 : List Tok) (y1 : Int) (y2 : Bool) (y3 : Rw) (y4 : Rw) => K (.exit 0) (canon [0, 2, 4] [.ptr 0 0, .ptr 1 0, .ptr 2 0] [some [.d (.sl Key.tok y0), .d (.int .i64 y1), .d (.bool y2)], some [.d (.int .i64 y3.op), .d (.str y3.name), .full Key.raw y3.args], some [.d (.int .i64 y4.op), .d (.str y4.name), .d (.sl Key.raw y4.args)]] [] 22)) := by kernel_rfl

theorem gl98_2_0 (C : Tab) (ρ : Type) (K : Ex sig → St sig → Option ρ) (a1 : ByteArray) (a2 : List ByteArray) (a3 : Int) (a4 : Int) : evK Tryz.prog lay (T C) (LT C) hints 98 0 (bodyOf Tryz.prog 98 2) (canon [0, 7, 8, 9] [.d (.str a1), .d (.sl Key.str a2), .d (.int .i64 a3), .d (.int .i64 a4)] [] [] 17) (loopNext (LT C) PK 98 0 2 K) =
    Gl98_2_0 C ρ a1 a2 a3 a4 (fun (y0 : Bool) => K .ret (canon [4] [.d (.bool y0)] [] [] 17)) (K (.exit 0) (canon [] [] [] [] 17)) := by kernel_rfl

theorem gl129_2_0 (C : Tab) (ρ : Type) (K : Ex sig → St sig → Option ρ) (a1 : ByteArray) (a2 : List Pt) (a3 : List Tok) (a4 : Int) : evK Tryz.prog lay (T C) (LT C) hints 129 1 (bodyOf Tryz.prog 129 2) (canon [0, 1, 5] [.ptr 0 0, .d (.str a1), .own Key.part a2] [some [.d (.sl Key.tok a3), .d (.int .i64 a4)]] [] 24) (loopNext (LT C) PK 129 1 2 K) =
    Gl129_2_0 C ρ a1 a2 a3 a4 (fun (y0 : List Pt) (y1 : List Tok) (y2 : Int) => K (.exit 0) (canon [0, 5] [.ptr 0 0, .own Key.part y0] [some [.d (.sl Key.tok y1), .d (.int .i64 y2)]] [] 24)) (fun (y0 : List Tok) (y1 : Int) (y2 : Int) (y3 : Int) => K (.pan (.iface 114 (.agg [.d (.int .i64 y2), .d (.int .i64 y3)]))) (canon [4] [.any] [some [.d (.sl Key.tok y0), .d (.int .i64 y1)]] [] 24)) := by kernel_rfl

end Go.Proofs.YtanfoijdfcnpoaaGreatDoor.Ev
