/- This file proves that the evaluator does with each function and loop what the typed functions say; without any condition. -/
import Derived.Test.YtanfoijdfcnpoaaGreatDoorGR
set_option linter.unusedVariables false
set_option linter.unusedSimpArgs false
namespace Go.Proofs.YtanfoijdfcnpoaaGreatDoor.Ev

theorem gc11_0 (C : Tab) (ρ : Type) (K : Res sig × Mem sig → Option ρ) : evF Tryz.prog lay (T C) (LT C) hints dfT 11 [] [] K =
    Gc11_0 C ρ (fun (y0 : Bool) => K (.ret (.d (.bool y0)), [])) := by kernel_rfl

theorem gc24_0 (C : Tab) (ρ : Type) (K : Res sig × Mem sig → Option ρ) (a1 : It) : evF Tryz.prog lay (T C) (LT C) hints dfT 24 [.agg [.d (.str a1.word), .d (.str a1.name), .d (.int .i64 a1.raw.op), .d (.str a1.raw.name), .d (.sl Key.raw a1.raw.args), .d (.sl Key.part a1.parts)]] [] K =
    Gc24_0 C ρ a1 (fun (y0 : Int) => K (.ret (.d (.int .i64 y0)), [])) := by kernel_rfl

theorem gc28_0 (C : Tab) (ρ : Type) (K : Res sig × Mem sig → Option ρ) (a1 : ByteArray) : evF Tryz.prog lay (T C) (LT C) hints dfT 28 [.d (.str a1)] [] K =
    Gc28_0 C ρ a1 (fun (y0 : List Tok) (y1 : Int) (y2 : Int) => K (.ret (.tup [.d (.sl Key.tok y0), .d (.int .i64 y1), .d (.int .i64 y2)]), [])) := by kernel_rfl

theorem gc33_0 (C : Tab) (ρ : Type) (K : Res sig × Mem sig → Option ρ) (a1 : Rw) : evF Tryz.prog lay (T C) (LT C) hints dfT 33 [.agg [.d (.int .i64 a1.op), .d (.str a1.name), .d (.sl Key.raw a1.args)]] [] K =
    Gc33_0 C ρ a1 (fun (y0 : Int) => K (.ret (.d (.int .i64 y0)), [])) := by kernel_rfl

theorem gc43_0 (C : Tab) (ρ : Type) (K : Res sig × Mem sig → Option ρ) (a1 : Rw) (a2 : Int) : evF Tryz.prog lay (T C) (LT C) hints dfT 43 [.agg [.d (.int .i64 a1.op), .d (.str a1.name), .d (.sl Key.raw a1.args)], .d (.int .i64 a2)] [] K =
    Gc43_0 C ρ a1 a2 (fun (y0 : Bool) => K (.ret (.d (.bool y0)), [])) := by kernel_rfl

theorem gc54_0 (C : Tab) (ρ : Type) (K : Res sig × Mem sig → Option ρ) (a1 : ByteArray) : evF Tryz.prog lay (T C) (LT C) hints dfT 54 [.d (.str a1)] [] K =
    Gc54_0 C ρ a1 (fun (y0 : Bool) => K (.ret (.d (.bool y0)), [])) := by kernel_rfl

theorem gc58_0 (C : Tab) (ρ : Type) (K : Res sig × Mem sig → Option ρ) (a1 : List Pt) : evF Tryz.prog lay (T C) (LT C) hints dfT 58 [.d (.sl Key.part a1)] [] K =
    Gc58_0 C ρ a1 (fun (y0 : ByteArray) => K (.ret (.d (.str y0)), [])) := by kernel_rfl

theorem gc62_0 (C : Tab) (ρ : Type) (K : Res sig × Mem sig → Option ρ) (a1 : Pt) (a2 : Int) : evF Tryz.prog lay (T C) (LT C) hints dfT 62 [.agg [.d (.int .i64 a1.op), .d (.str a1.sign), .d (.str a1.name), .d (.int .i64 a1.num), .d (.int .i64 a1.raw.op), .d (.str a1.raw.name), .d (.sl Key.raw a1.raw.args), .d (.sl Key.part a1.parts)], .d (.int .i64 a2)] [] K =
    Gc62_0 C ρ a1 a2 (fun (y0 : Bool) => K (.ret (.d (.bool y0)), [])) := by kernel_rfl

theorem gc66_0 (C : Tab) (ρ : Type) (K : Res sig × Mem sig → Option ρ) (a1 : Int) : evF Tryz.prog lay (T C) (LT C) hints dfT 66 [.d (.int .u8 a1)] [] K =
    Gc66_0 C ρ a1 (fun (y0 : Int) => K (.ret (.fn (.func 105) [] [.ptr 1 0]), [some [.d (.int .u8 y0)], some [.fn (.func 104) [] []]])) (fun (y0 : Int) => K (.ret (.fn (.func 108) [] [.ptr 1 0]), [some [.d (.int .u8 y0)], some [.fn (.func 104) [] []]])) (fun (y0 : Int) => K (.ret (.fn (.func 110) [] [.ptr 1 0]), [some [.d (.int .u8 y0)], some [.fn (.func 104) [] []]])) (fun (y0 : Int) => K (.ret (.fn (.func 112) [] [.ptr 1 0]), [some [.d (.int .u8 y0)], some [.fn (.func 104) [] []]])) (fun (y0 : Int) => K (.ret (.fn (.func 113) [] [.ptr 1 0]), [some [.d (.int .u8 y0)], some [.fn (.func 104) [] []]])) (K (.ret (.fn (.func 114) [] []), [])) (fun (y0 : Int) => K (.ret (.fn (.func 115) [] [.ptr 1 0]), [some [.d (.int .u8 y0)], some [.fn (.func 104) [] []]])) (fun (y0 : Int) => K (.ret (.fn (.func 116) [] [.ptr 1 0, .ptr 0 0]), [some [.d (.int .u8 y0)], some [.fn (.func 104) [] []]])) := by kernel_rfl

theorem gc70_0 (C : Tab) (ρ : Type) (K : Res sig × Mem sig → Option ρ) (a1 : Rw) (a2 : Int) (a3 : Int) : evF Tryz.prog lay (T C) (LT C) hints dfT 70 [.agg [.d (.int .i64 a1.op), .d (.str a1.name), .d (.sl Key.raw a1.args)], .d (.int .i64 a2), .ptr 0 0] [some [.d (.int .i64 a3)]] K =
    Gc70_0 C ρ a1 a2 a3 (fun (y0 : Bool) (y1 : Int) => K (.ret (.d (.bool y0)), [some [.d (.int .i64 y1)]])) := by kernel_rfl

theorem gc83_0 (C : Tab) (ρ : Type) (K : Res sig × Mem sig → Option ρ) (a1 : ByteArray) (a2 : Int) : evF Tryz.prog lay (T C) (LT C) hints dfT 83 [.d (.str a1), .d (.int .i64 a2)] [] K =
    Gc83_0 C ρ a1 a2 (fun (y0 : Int) => K (.ret (.d (.int .i64 y0)), [])) := by kernel_rfl

theorem gc92_1 (C : Tab) (ρ : Type) (K : Res sig × Mem sig → Option ρ) (a1 : ByteArray) : evF Tryz.prog lay (T C) (LT C) hints dfT 92 [.d (.str a1), .fn (.func 107) [] []] [] K =
    Gc92_1 C ρ a1 (fun (y0 : Bool) => K (.ret (.d (.bool y0)), [])) := by kernel_rfl

theorem gc98_0 (C : Tab) (ρ : Type) (K : Res sig × Mem sig → Option ρ) (a1 : ByteArray) (a2 : List ByteArray) : evF Tryz.prog lay (T C) (LT C) hints dfT 98 [.d (.str a1), .d (.sl Key.str a2)] [] K =
    Gc98_0 C ρ a1 a2 (fun (y0 : Bool) => K (.ret (.d (.bool y0)), [])) := by kernel_rfl

theorem gc102_0 (C : Tab) (ρ : Type) (K : Res sig × Mem sig → Option ρ) (a1 : Int) (a2 : ByteArray) (a3 : Int) : evF Tryz.prog lay (T C) (LT C) hints dfT 102 [.ptr 0 0, .d (.int .i64 a1)] [some [.d (.str a2), .d (.int .i64 a3)]] K =
    Gc102_0 C ρ a1 a2 a3 (fun (y0 : Int) (y1 : ByteArray) (y2 : Int) => K (.ret (.d (.int .u8 y0)), [some [.d (.str y1), .d (.int .i64 y2)]])) := by kernel_rfl

theorem gc107_0 (C : Tab) (ρ : Type) (K : Res sig × Mem sig → Option ρ) (a1 : Int) : evF Tryz.prog lay (T C) (LT C) hints dfT 107 [.d (.int .u8 a1)] [] K =
    Gc107_0 C ρ a1 (fun (y0 : Bool) => K (.ret (.d (.bool y0)), [])) := by kernel_rfl

theorem gc111_0 (C : Tab) (ρ : Type) (K : Res sig × Mem sig → Option ρ) (a1 : ByteArray) : evF Tryz.prog lay (T C) (LT C) hints dfT 111 [.d (.str a1)] [] K =
    Gc111_0 C ρ a1 (fun (y0 : Bool) => K (.ret (.d (.bool y0)), [])) := by kernel_rfl

theorem gc115_0 (C : Tab) (ρ : Type) (K : Res sig × Mem sig → Option ρ) (a1 : ByteArray) (a2 : Int) : evF Tryz.prog lay (T C) (LT C) hints dfT 115 [.ptr 0 0, .ptr 1 0] [some [.d (.str a1), .d (.int .i64 a2)], some [.fn (.func 104) [] []]] K =
    Gc115_0 C ρ a1 a2 (fun (y0 : Int) (y1 : ByteArray) (y2 : ByteArray) (y3 : Int) => K (.ret (.tup [.d (.int .i64 y0), .d (.str y1)]), [some [.d (.str y2), .d (.int .i64 y3)], some [.fn (.func 104) [] []]])) := by kernel_rfl

theorem gc119_0 (C : Tab) (ρ : Type) (K : Res sig × Mem sig → Option ρ) (a1 : List Tok) (a2 : Int) : evF Tryz.prog lay (T C) (LT C) hints dfT 119 [.ptr 0 0] [some [.d (.sl Key.tok a1), .d (.int .i64 a2)]] K =
    Gc119_0 C ρ a1 a2 (fun (y0 : Rw) (y1 : List Tok) (y2 : Int) => K (.ret (.agg [.d (.int .i64 y0.op), .d (.str y0.name), .d (.sl Key.raw y0.args)]), [some [.d (.sl Key.tok y1), .d (.int .i64 y2)]])) (fun (y0 : Int) (y1 : Int) (y2 : List Tok) (y3 : Int) => K (.pan (.iface 114 (.agg [.d (.int .i64 y0), .d (.int .i64 y1)])), [some [.d (.sl Key.tok y2), .d (.int .i64 y3)]])) := by kernel_rfl

theorem gc129_0 (C : Tab) (ρ : Type) (K : Res sig × Mem sig → Option ρ) (a1 : ByteArray) (a2 : List Tok) (a3 : Int) : evF Tryz.prog lay (T C) (LT C) hints dfT 129 [.ptr 0 0, .d (.str a1)] [some [.d (.sl Key.tok a2), .d (.int .i64 a3)]] K =
    Gc129_0 C ρ a1 a2 a3 (fun (y0 : List Pt) (y1 : List Tok) (y2 : Int) => K (.ret (.d (.sl Key.part y0)), [some [.d (.sl Key.tok y1), .d (.int .i64 y2)]])) (fun (y0 : Int) (y1 : Int) (y2 : List Tok) (y3 : Int) => K (.pan (.iface 114 (.agg [.d (.int .i64 y0), .d (.int .i64 y1)])), [some [.d (.sl Key.tok y2), .d (.int .i64 y3)]])) := by kernel_rfl

theorem gc141_0 (C : Tab) (ρ : Type) (K : Res sig × Mem sig → Option ρ) (a1 : List Tok) (a2 : Int) : evF Tryz.prog lay (T C) (LT C) hints dfT 141 [.ptr 0 0] [some [.d (.sl Key.tok a1), .d (.int .i64 a2)]] K =
    Gc141_0 C ρ a1 a2 (fun (y0 : Tok) (y1 : List Tok) (y2 : Int) => K (.ret (.agg [.d (.int .i64 y0.kind), .d (.str y0.text), .d (.int .i64 (y0.at_))]), [some [.d (.sl Key.tok y1), .d (.int .i64 y2)]])) := by kernel_rfl

theorem gl21_11_0 (C : Tab) (ρ : Type) (K : Ex sig → St sig → Option ρ) (a1 : List It) (a2 : Int) (a3 : Int) (a4 : List It) (a5 : Int) (a6 : Int) (mk : Nat) : evK Tryz.prog lay (T C) (LT C) hints 21 0 (bodyOf Tryz.prog 21 11) (canon [2, 3, 4, 31, 32, 33] [.ptr 0 0, .ptr 1 0, .ptr 2 0, .d (.sl Key.item a1), .d (.int .i64 a2), .d (.int .i64 a3)] [some [.d (.sl Key.item a4)], some [.d (.int .i64 a5)], some [.d (.int .i64 a6)]] [(1000000, [.fn (.yield mk) [] []]), (29, [.ptr 1 0, .ptr 2 0]), (50, [.ptr 2 0, .ptr 0 0])] 45) (loopNext (LT C) PK 21 0 11 K) =
    Gl21_11_0 C ρ a1 a2 a3 a4 a5 a6 mk (fun (y0 : List It) (y1 : Int) (y2 : Int) => K (.exit 2) (canon [2, 3, 4] [.ptr 0 0, .ptr 1 0, .ptr 2 0] [some [.d (.sl Key.item y0)], some [.d (.int .i64 y1)], some [.d (.int .i64 y2)]] [(1000000, [.fn (.yield mk) [] []]), (29, [.ptr 1 0, .ptr 2 0]), (50, [.ptr 2 0, .ptr 0 0])] 45)) (fun (y0 : List It) (y1 : Int) (y2 : Int) => K .ret (canon [2, 3, 4] [.ptr 0 0, .ptr 1 0, .ptr 2 0] [some [.full Key.item y0], some [.d (.int .i64 y1)], some [.d (.int .i64 y2)]] [(1000000, [.fn (.yield mk) [] []]), (29, [.ptr 1 0, .ptr 2 0]), (50, [.ptr 2 0, .ptr 0 0])] 45)) := by kernel_rfl

theorem gl27_5_0 (C : Tab) (ρ : Type) (K : Ex sig → St sig → Option ρ) (a1 : ByteArray) (a2 : List Pt) (a3 : Int) (a4 : Int) : evK Tryz.prog lay (T C) (LT C) hints 27 0 (bodyOf Tryz.prog 27 5) (canon [3, 21, 22, 23] [.d (.str a1), .d (.sl Key.part a2), .d (.int .i64 a3), .d (.int .i64 a4)] [] [] 35) (loopNext (LT C) PK 27 0 5 K) =
    Gl27_5_0 C ρ a1 a2 a3 a4 (fun (y0 : ByteArray) => K (.exit 0) (canon [3] [.d (.str y0)] [] [] 35)) := by kernel_rfl

theorem gl43_18_0 (C : Tab) (ρ : Type) (K : Ex sig → St sig → Option ρ) (a1 : Int) (a2 : Int) (a3 : Rw) : evK Tryz.prog lay (T C) (LT C) hints 43 0 (bodyOf Tryz.prog 43 18) (canon [1, 2, 7] [.d (.int .i64 a1), .ptr 0 0, .d (.int .i64 a2)] [some [.d (.int .i64 a3.op), .d (.str a3.name), .d (.sl Key.raw a3.args)]] [] 62) (loopNext (LT C) PK 43 0 18 K) =
    Gl43_18_0 C ρ a1 a2 a3 (fun (y0 : Bool) => K .ret (canon [4] [.d (.bool y0)] [] [] 62)) (K (.exit 1) (canon [] [] [] [] 62)) := by kernel_rfl

theorem gl61_3_0 (C : Tab) (ρ : Type) (K : Ex sig → St sig → Option ρ) (a1 : List Pt) (a2 : Int) (a3 : Int) (a4 : Int) : evK Tryz.prog lay (T C) (LT C) hints 61 0 (bodyOf Tryz.prog 61 3) (canon [0, 1, 5, 6] [.d (.sl Key.part a1), .d (.int .i64 a2), .d (.int .i64 a3), .d (.int .i64 a4)] [] [] 35) (loopNext (LT C) PK 61 0 3 K) =
    Gl61_3_0 C ρ a1 a2 a3 a4 (fun (y0 : Int) (y1 : Int) => K (.exit 0) (canon [1, 5] [.d (.int .i64 y0), .d (.int .i64 y1)] [] [] 35)) := by kernel_rfl

theorem gl70_20_0 (C : Tab) (ρ : Type) (K : Ex sig → St sig → Option ρ) (a1 : Int) (a2 : List Rw) (a3 : Int) (a4 : Int) (a5 : Int) : evK Tryz.prog lay (T C) (LT C) hints 70 1 (bodyOf Tryz.prog 70 20) (canon [1, 2, 59, 60, 61] [.d (.int .i64 a1), .ptr 0 0, .d (.sl Key.raw a2), .d (.int .i64 a3), .d (.int .i64 a4)] [some [.d (.int .i64 a5)]] [] 72) (loopNext (LT C) PK 70 1 20 K) =
    Gl70_20_0 C ρ a1 a2 a3 a4 a5 (fun (y0 : Bool) (y1 : Int) => K .ret (canon [6] [.d (.bool y0)] [some [.d (.int .i64 y1)]] [] 72)) (fun (y0 : Int) => K (.exit 1) (canon [] [] [some [.d (.int .i64 y0)]] [] 72)) := by kernel_rfl

theorem gl98_2_0 (C : Tab) (ρ : Type) (K : Ex sig → St sig → Option ρ) (a1 : ByteArray) (a2 : List ByteArray) (a3 : Int) (a4 : Int) : evK Tryz.prog lay (T C) (LT C) hints 98 0 (bodyOf Tryz.prog 98 2) (canon [0, 7, 8, 9] [.d (.str a1), .d (.sl Key.str a2), .d (.int .i64 a3), .d (.int .i64 a4)] [] [] 17) (loopNext (LT C) PK 98 0 2 K) =
    Gl98_2_0 C ρ a1 a2 a3 a4 (fun (y0 : Bool) => K .ret (canon [4] [.d (.bool y0)] [] [] 17)) (K (.exit 0) (canon [] [] [] [] 17)) := by kernel_rfl

theorem gl129_2_0 (C : Tab) (ρ : Type) (K : Ex sig → St sig → Option ρ) (a1 : ByteArray) (a2 : List Pt) (a3 : List Tok) (a4 : Int) : evK Tryz.prog lay (T C) (LT C) hints 129 1 (bodyOf Tryz.prog 129 2) (canon [0, 1, 5] [.ptr 0 0, .d (.str a1), .own Key.part a2] [some [.d (.sl Key.tok a3), .d (.int .i64 a4)]] [] 24) (loopNext (LT C) PK 129 1 2 K) =
    Gl129_2_0 C ρ a1 a2 a3 a4 (fun (y0 : List Pt) (y1 : List Tok) (y2 : Int) => K (.exit 0) (canon [0, 5] [.ptr 0 0, .own Key.part y0] [some [.d (.sl Key.tok y1), .d (.int .i64 y2)]] [] 24)) (fun (y0 : List Tok) (y1 : Int) (y2 : Int) (y3 : Int) => K (.pan (.iface 114 (.agg [.d (.int .i64 y2), .d (.int .i64 y3)]))) (canon [4] [.any] [some [.d (.sl Key.tok y0), .d (.int .i64 y1)]] [] 24)) := by kernel_rfl

end Go.Proofs.YtanfoijdfcnpoaaGreatDoor.Ev
