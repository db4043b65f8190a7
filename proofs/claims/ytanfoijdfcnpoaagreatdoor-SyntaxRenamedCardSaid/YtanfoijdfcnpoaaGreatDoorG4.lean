/- This file proves that the evaluator does with each function and loop what the typed functions say; without any condition. -/
import Derived.Test.YtanfoijdfcnpoaaGreatDoorGR
set_option linter.unusedVariables false
set_option linter.unusedSimpArgs false
namespace Go.Proofs.YtanfoijdfcnpoaaGreatDoor.Ev

theorem gc5_0 (C : Tab) (ρ : Type) (K : Res sig × Mem sig → Option ρ) (a1 : Rw) (a2 : ByteArray) (a3 : ByteArray) : evF Tryz.prog lay (T C) (LT C) hints dfT 5 [.agg [.d (.int .i64 a1.op), .d (.str a1.name), .d (.sl Key.raw a1.args)], .d (.str a2), .d (.str a3)] [] K =
    Gc5_0 C ρ a1 a2 a3 (fun (y0 : Bool) => K (.ret (.d (.bool y0)), [])) := by kernel_rfl

theorem gc12_0 (C : Tab) (ρ : Type) (K : Res sig × Mem sig → Option ρ) (a1 : Rw) (a2 : ByteArray) (a3 : ByteArray) : evF Tryz.prog lay (T C) (LT C) hints dfT 12 [.agg [.d (.int .i64 a1.op), .d (.str a1.name), .d (.sl Key.raw a1.args)], .d (.str a2), .d (.str a3)] [] K =
    Gc12_0 C ρ a1 a2 a3 (fun (y0 : Rw) (y1 : Int) => K (.ret (.tup [.agg [.d (.int .i64 y0.op), .d (.str y0.name), .d (.sl Key.raw y0.args)], .d (.int .i64 y1)]), [])) := by kernel_rfl

theorem gc16_0 (C : Tab) (ρ : Type) (K : Res sig × Mem sig → Option ρ) (a1 : Rw) : evF Tryz.prog lay (T C) (LT C) hints dfT 16 [.agg [.d (.int .i64 a1.op), .d (.str a1.name), .d (.sl Key.raw a1.args)]] [] K =
    Gc16_0 C ρ a1 (fun (y0 : List ByteArray) (y1 : Int) => K (.ret (.tup [.d (.sl Key.str y0), .d (.int .i64 y1)]), [])) := by kernel_rfl

theorem gc20_0 (C : Tab) (ρ : Type) (K : Res sig × Mem sig → Option ρ) (a1 : Rw) (a2 : Rw) : evF Tryz.prog lay (T C) (LT C) hints dfT 20 [.agg [.d (.int .i64 a1.op), .d (.str a1.name), .d (.sl Key.raw a1.args)], .agg [.d (.int .i64 a2.op), .d (.str a2.name), .d (.sl Key.raw a2.args)]] [] K =
    Gc20_0 C ρ a1 a2 (fun (y0 : Bool) => K (.ret (.d (.bool y0)), [])) := by kernel_rfl

theorem gc32_0 (C : Tab) (ρ : Type) (K : Res sig × Mem sig → Option ρ) (a1 : List Tok) (a2 : Int) : evF Tryz.prog lay (T C) (LT C) hints dfT 32 [.ptr 0 0] [some [.d (.sl Key.tok a1), .d (.int .i64 a2)]] K =
    Gc32_0 C ρ a1 a2 (fun (y0 : Int) (y1 : Int) (y2 : List Tok) (y3 : Int) => K (.pan (.iface 114 (.agg [.d (.int .i64 y0), .d (.int .i64 y1)])), [some [.d (.sl Key.tok y2), .d (.int .i64 y3)]])) := by kernel_rfl

theorem gc39_0 (C : Tab) (ρ : Type) (K : Res sig × Mem sig → Option ρ) (a1 : Rw) (a2 : List (ByteArray × Bool)) : evF Tryz.prog lay (T C) (LT C) hints dfT 39 [.agg [.d (.int .i64 a1.op), .d (.str a1.name), .d (.sl Key.raw a1.args)], .mp 0] [some [.mpo (.b a2)]] K =
    Gc39_0 C ρ a1 a2 (fun (y0 : List (ByteArray × Bool)) => K (.ret (.tup []), [some [.mpo (.b y0)]])) := by kernel_rfl

theorem gc42_0 (C : Tab) (ρ : Type) (K : Res sig × Mem sig → Option ρ) (a1 : Rw) (a2 : Int) : evF Tryz.prog lay (T C) (LT C) hints dfT 42 [.agg [.d (.int .i64 a1.op), .d (.str a1.name), .d (.sl Key.raw a1.args)], .d (.int .i64 a2)] [] K =
    Gc42_0 C ρ a1 a2 (fun (y0 : Int) => K (.ret (.d (.int .i64 y0)), [])) := by kernel_rfl

theorem gc45_1 (C : Tab) (ρ : Type) (K : Res sig × Mem sig → Option ρ) (a1 : Rw) (a2 : List ByteArray) : evF Tryz.prog lay (T C) (LT C) hints dfT 45 [.agg [.d (.int .i64 a1.op), .d (.str a1.name), .d (.sl Key.raw a1.args)], .own Key.str a2] [] K =
    Gc45_1 C ρ a1 a2 (fun (y0 : List ByteArray) => K (.ret (.own Key.str y0), [])) := by kernel_rfl

theorem gc48_1 (C : Tab) (ρ : Type) (K : Res sig × Mem sig → Option ρ) (a1 : Rw) (a2 : List ByteArray) (a3 : List ByteArray) : evF Tryz.prog lay (T C) (LT C) hints dfT 48 [.agg [.d (.int .i64 a1.op), .d (.str a1.name), .d (.sl Key.raw a1.args)], .d (.sl Key.str a2), .own Key.str a3] [] K =
    Gc48_1 C ρ a1 a2 a3 (fun (y0 : List ByteArray) => K (.ret (.own Key.str y0), [])) := by kernel_rfl

theorem gc54_0 (C : Tab) (ρ : Type) (K : Res sig × Mem sig → Option ρ) (a1 : ByteArray) : evF Tryz.prog lay (T C) (LT C) hints dfT 54 [.d (.str a1)] [] K =
    Gc54_0 C ρ a1 (fun (y0 : Bool) => K (.ret (.d (.bool y0)), [])) := by kernel_rfl

theorem gc67_0 (C : Tab) (ρ : Type) (K : Res sig × Mem sig → Option ρ) (a1 : List ByteArray) (a2 : List Tok) (a3 : Int) : evF Tryz.prog lay (T C) (LT C) hints dfT 67 [.ptr 0 0, .d (.sl Key.str a1)] [some [.d (.sl Key.tok a2), .d (.int .i64 a3)]] K =
    Gc67_0 C ρ a1 a2 a3 (fun (y0 : Bool) (y1 : List Tok) (y2 : Int) => K (.ret (.d (.bool y0)), [some [.d (.sl Key.tok y1), .d (.int .i64 y2)]])) := by kernel_rfl

theorem gc77_0 (C : Tab) (ρ : Type) (K : Res sig × Mem sig → Option ρ) (a1 : ByteArray) : evF Tryz.prog lay (T C) (LT C) hints dfT 77 [.d (.str a1)] [] K =
    Gc77_0 C ρ a1 (fun (y0 : Bool) => K (.ret (.d (.bool y0)), [])) := by kernel_rfl

theorem gc82_0 (C : Tab) (ρ : Type) (K : Res sig × Mem sig → Option ρ) (a1 : Int) : evF Tryz.prog lay (T C) (LT C) hints dfT 82 [.d (.int .u8 a1)] [] K =
    Gc82_0 C ρ a1 (fun (y0 : Bool) => K (.ret (.d (.bool y0)), [])) := by kernel_rfl

theorem gc86_0 (C : Tab) (ρ : Type) (K : Res sig × Mem sig → Option ρ) (a1 : Int) : evF Tryz.prog lay (T C) (LT C) hints dfT 86 [.d (.int .i64 a1)] [] K =
    Gc86_0 C ρ a1 (fun (y0 : ByteArray) => K (.ret (.d (.str y0)), [])) := by kernel_rfl

theorem gc94_0 (C : Tab) (ρ : Type) (K : Res sig × Mem sig → Option ρ) (a1 : List Int) (a2 : Int) : evF Tryz.prog lay (T C) (LT C) hints dfT 94 [.d (.sl Key.int a1), .d (.int .i64 a2)] [] K =
    Gc94_0 C ρ a1 a2 (fun (y0 : Bool) => K (.ret (.d (.bool y0)), [])) := by kernel_rfl

theorem gc105_0 (C : Tab) (ρ : Type) (K : Res sig × Mem sig → Option ρ) (a1 : ByteArray) (a2 : Int) : evF Tryz.prog lay (T C) (LT C) hints dfT 105 [.ptr 0 0, .ptr 1 0] [some [.d (.str a1), .d (.int .i64 a2)], some [.fn (.func 104) [] []]] K =
    Gc105_0 C ρ a1 a2 (fun (y0 : Int) (y1 : ByteArray) (y2 : ByteArray) (y3 : Int) => K (.ret (.tup [.d (.int .i64 y0), .d (.str y1)]), [some [.d (.str y2), .d (.int .i64 y3)], some [.fn (.func 104) [] []]])) := by kernel_rfl

theorem gc109_0 (C : Tab) (ρ : Type) (K : Res sig × Mem sig → Option ρ) (a1 : Int) : evF Tryz.prog lay (T C) (LT C) hints dfT 109 [.d (.int .u8 a1)] [] K =
    Gc109_0 C ρ a1 (fun (y0 : Bool) => K (.ret (.d (.bool y0)), [])) := by kernel_rfl

theorem gc113_0 (C : Tab) (ρ : Type) (K : Res sig × Mem sig → Option ρ) (a1 : ByteArray) (a2 : Int) : evF Tryz.prog lay (T C) (LT C) hints dfT 113 [.ptr 0 0, .ptr 1 0] [some [.d (.str a1), .d (.int .i64 a2)], some [.fn (.func 104) [] []]] K =
    Gc113_0 C ρ a1 a2 (fun (y0 : Int) (y1 : ByteArray) (y2 : ByteArray) (y3 : Int) => K (.ret (.tup [.d (.int .i64 y0), .d (.str y1)]), [some [.d (.str y2), .d (.int .i64 y3)], some [.fn (.func 104) [] []]])) := by kernel_rfl

theorem gc117_0 (C : Tab) (ρ : Type) (K : Res sig × Mem sig → Option ρ) (a1 : List Tok) (a2 : Int) : evF Tryz.prog lay (T C) (LT C) hints dfT 117 [.ptr 0 0] [some [.d (.sl Key.tok a1), .d (.int .i64 a2)]] K =
    Gc117_0 C ρ a1 a2 (fun (y0 : ByteArray) (y1 : List Tok) (y2 : Int) => K (.ret (.d (.str y0)), [some [.d (.sl Key.tok y1), .d (.int .i64 y2)]])) (fun (y0 : Int) (y1 : Int) (y2 : List Tok) (y3 : Int) => K (.pan (.iface 114 (.agg [.d (.int .i64 y0), .d (.int .i64 y1)])), [some [.d (.sl Key.tok y2), .d (.int .i64 y3)]])) := by kernel_rfl

theorem gc126_0 (C : Tab) (ρ : Type) (K : Res sig × Mem sig → Option ρ) (a1 : List ByteArray) (a2 : ByteArray) : evF Tryz.prog lay (T C) (LT C) hints dfT 126 [.d (.sl Key.str a1), .d (.str a2)] [] K =
    Gc126_0 C ρ a1 a2 (fun (y0 : Int) => K (.ret (.d (.int .i64 y0)), [])) := by kernel_rfl

theorem gc128_2 (C : Tab) (ρ : Type) (K : Res sig × Mem sig → Option ρ) (a1 : Rw) (a2 : List ByteArray) (a3 : List ByteArray) : evF Tryz.prog lay (T C) (LT C) hints dfT 128 [.agg [.d (.int .i64 a1.op), .d (.str a1.name), .d (.sl Key.raw a1.args)], .d (.sl Key.str a2), .full Key.str a3] [] K =
    Gc128_2 C ρ a1 a2 a3 (fun (y0 : List ByteArray) => K (.ret (.own Key.str y0), [])) (fun (y0 : List ByteArray) => K (.ret (.full Key.str y0), [])) := by kernel_rfl

theorem gc141_0 (C : Tab) (ρ : Type) (K : Res sig × Mem sig → Option ρ) (a1 : List Tok) (a2 : Int) : evF Tryz.prog lay (T C) (LT C) hints dfT 141 [.ptr 0 0] [some [.d (.sl Key.tok a1), .d (.int .i64 a2)]] K =
    Gc141_0 C ρ a1 a2 (fun (y0 : Tok) (y1 : List Tok) (y2 : Int) => K (.ret (.agg [.d (.int .i64 y0.kind), .d (.str y0.text), .d (.int .i64 (y0.at_))]), [some [.d (.sl Key.tok y1), .d (.int .i64 y2)]])) := by kernel_rfl

theorem gl18_4_0 (C : Tab) (ρ : Type) (K : Ex sig → St sig → Option ρ) (a1 : List ByteArray) (a2 : List ByteArray) (a3 : Int) (a4 : Int) : evK Tryz.prog lay (T C) (LT C) hints 18 0 (bodyOf Tryz.prog 18 4) (canon [0, 1, 12, 13] [.d (.sl Key.str a1), .d (.sl Key.str a2), .d (.int .i64 a3), .d (.int .i64 a4)] [] [] 26) (loopNext (LT C) PK 18 0 4 K) =
    Gl18_4_0 C ρ a1 a2 a3 a4 (fun (y0 : Bool) => K .ret (canon [4] [.d (.bool y0)] [] [] 26)) (K (.exit 0) (canon [] [] [] [] 26)) := by kernel_rfl

theorem gl39_3_0 (C : Tab) (ρ : Type) (K : Ex sig → St sig → Option ρ) (a1 : List Rw) (a2 : Int) (a3 : Int) (a4 : List (ByteArray × Bool)) : evK Tryz.prog lay (T C) (LT C) hints 39 1 (bodyOf Tryz.prog 39 3) (canon [1, 10, 11, 12] [.mp 0, .d (.sl Key.raw a1), .d (.int .i64 a2), .d (.int .i64 a3)] [some [.mpo (.b a4)]] [] 20) (loopNext (LT C) PK 39 1 3 K) =
    Gl39_3_0 C ρ a1 a2 a3 a4 (fun (y0 : List (ByteArray × Bool)) => K (.exit 0) (canon [] [] [some [.mpo (.b y0)]] [] 20)) := by kernel_rfl

theorem gl42_3_0 (C : Tab) (ρ : Type) (K : Ex sig → St sig → Option ρ) (a1 : Int) (a2 : Int) (a3 : Int) (a4 : Rw) : evK Tryz.prog lay (T C) (LT C) hints 42 0 (bodyOf Tryz.prog 42 3) (canon [1, 2, 5, 6] [.d (.int .i64 a1), .ptr 0 0, .d (.int .i64 a2), .d (.int .i64 a3)] [some [.d (.int .i64 a4.op), .d (.str a4.name), .d (.sl Key.raw a4.args)]] [] 34) (loopNext (LT C) PK 42 0 3 K) =
    Gl42_3_0 C ρ a1 a2 a3 a4 (fun (y0 : Int) (y1 : Int) => K (.exit 0) (canon [1, 5] [.d (.int .i64 y0), .d (.int .i64 y1)] [] [] 34)) := by kernel_rfl

theorem gl48_8_0 (C : Tab) (ρ : Type) (K : Ex sig → St sig → Option ρ) (a1 : List ByteArray) (a2 : List ByteArray) (a3 : List Rw) (a4 : Int) (a5 : Int) : evK Tryz.prog lay (T C) (LT C) hints 48 0 (bodyOf Tryz.prog 48 8) (canon [1, 2, 53, 54, 55] [.d (.sl Key.str a1), .own Key.str a2, .d (.sl Key.raw a3), .d (.int .i64 a4), .d (.int .i64 a5)] [] [] 65) (loopNext (LT C) PK 48 0 8 K) =
    Gl48_8_0 C ρ a1 a2 a3 a4 a5 (fun (y0 : List ByteArray) => K (.exit 1) (canon [2] [.own Key.str y0] [] [] 65)) := by kernel_rfl

theorem gl70_20_0 (C : Tab) (ρ : Type) (K : Ex sig → St sig → Option ρ) (a1 : Int) (a2 : List Rw) (a3 : Int) (a4 : Int) (a5 : Int) : evK Tryz.prog lay (T C) (LT C) hints 70 1 (bodyOf Tryz.prog 70 20) (canon [1, 2, 59, 60, 61] [.d (.int .i64 a1), .ptr 0 0, .d (.sl Key.raw a2), .d (.int .i64 a3), .d (.int .i64 a4)] [some [.d (.int .i64 a5)]] [] 72) (loopNext (LT C) PK 70 1 20 K) =
    Gl70_20_0 C ρ a1 a2 a3 a4 a5 (fun (y0 : Bool) (y1 : Int) => K .ret (canon [6] [.d (.bool y0)] [some [.d (.int .i64 y1)]] [] 72)) (fun (y0 : Int) => K (.exit 1) (canon [] [] [some [.d (.int .i64 y0)]] [] 72)) := by kernel_rfl

theorem gl86_2_0 (C : Tab) (ρ : Type) (K : Ex sig → St sig → Option ρ) (a1 : Int) (a2 : ByteArray) : evK Tryz.prog lay (T C) (LT C) hints 86 0 (bodyOf Tryz.prog 86 2) (canon [0, 3] [.d (.int .i64 a1), .d (.str a2)] [] [] 23) (loopNext (LT C) PK 86 0 2 K) =
    Gl86_2_0 C ρ a1 a2 (fun (y0 : ByteArray) => K (.exit 0) (canon [3] [.d (.str y0)] [] [] 23)) := by kernel_rfl

theorem gl128_14_0 (C : Tab) (ρ : Type) (K : Ex sig → St sig → Option ρ) (a1 : List ByteArray) (a2 : List ByteArray) (a3 : Int) (a4 : Rw) : evK Tryz.prog lay (T C) (LT C) hints 128 0 (bodyOf Tryz.prog 128 14) (canon [1, 2, 3, 8] [.d (.sl Key.str a1), .own Key.str a2, .ptr 0 0, .d (.int .i64 a3)] [some [.d (.int .i64 a4.op), .d (.str a4.name), .d (.sl Key.raw a4.args)]] [] 72) (loopNext (LT C) PK 128 0 14 K) =
    Gl128_14_0 C ρ a1 a2 a3 a4 (fun (y0 : List ByteArray) => K (.exit 1) (canon [2] [.own Key.str y0] [] [] 72)) := by kernel_rfl

end Go.Proofs.YtanfoijdfcnpoaaGreatDoor.Ev
