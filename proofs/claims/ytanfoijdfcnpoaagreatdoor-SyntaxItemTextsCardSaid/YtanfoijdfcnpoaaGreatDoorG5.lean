/- This file proves that the evaluator does with each function and loop what the typed functions say; without any condition. -/
import Derived.Test.YtanfoijdfcnpoaaGreatDoorGR
set_option linter.unusedVariables false
set_option linter.unusedSimpArgs false
namespace Go.Proofs.YtanfoijdfcnpoaaGreatDoor.Ev

theorem gc10_0 (C : Tab) (ρ : Type) (K : Res sig × Mem sig → Option ρ) (a1 : Rw) (a2 : Rw) : evF Tryz.prog lay (T C) (LT C) hints dfT 10 [.agg [.d (.int .i64 a1.op), .d (.str a1.name), .d (.sl Key.raw a1.args)], .agg [.d (.int .i64 a2.op), .d (.str a2.name), .d (.sl Key.raw a2.args)]] [] K =
    Gc10_0 C ρ a1 a2 (fun (y0 : Bool) => K (.ret (.d (.bool y0)), [])) := by kernel_rfl

theorem gc23_0 (C : Tab) (ρ : Type) (K : Res sig × Mem sig → Option ρ) (a1 : It) (a2 : It) : evF Tryz.prog lay (T C) (LT C) hints dfT 23 [.agg [.d (.str a1.word), .d (.str a1.name), .d (.int .i64 a1.raw.op), .d (.str a1.raw.name), .d (.sl Key.raw a1.raw.args), .d (.sl Key.part a1.parts)], .agg [.d (.str a2.word), .d (.str a2.name), .d (.int .i64 a2.raw.op), .d (.str a2.raw.name), .d (.sl Key.raw a2.raw.args), .d (.sl Key.part a2.parts)]] [] K =
    Gc23_0 C ρ a1 a2 (fun (y0 : Bool) => K (.ret (.d (.bool y0)), [])) := by kernel_rfl

theorem gc27_0 (C : Tab) (ρ : Type) (K : Res sig × Mem sig → Option ρ) (a1 : It) : evF Tryz.prog lay (T C) (LT C) hints dfT 27 [.agg [.d (.str a1.word), .d (.str a1.name), .d (.int .i64 a1.raw.op), .d (.str a1.raw.name), .d (.sl Key.raw a1.raw.args), .d (.sl Key.part a1.parts)]] [] K =
    Gc27_0 C ρ a1 (fun (y0 : ByteArray) => K (.ret (.d (.str y0)), [])) := by kernel_rfl

theorem gc32_0 (C : Tab) (ρ : Type) (K : Res sig × Mem sig → Option ρ) (a1 : List Tok) (a2 : Int) : evF Tryz.prog lay (T C) (LT C) hints dfT 32 [.ptr 0 0] [some [.d (.sl Key.tok a1), .d (.int .i64 a2)]] K =
    Gc32_0 C ρ a1 a2 (fun (y0 : Int) (y1 : Int) (y2 : List Tok) (y3 : Int) => K (.pan (.iface 114 (.agg [.d (.int .i64 y0), .d (.int .i64 y1)])), [some [.d (.sl Key.tok y2), .d (.int .i64 y3)]])) := by kernel_rfl

theorem gc42_0 (C : Tab) (ρ : Type) (K : Res sig × Mem sig → Option ρ) (a1 : Rw) (a2 : Int) : evF Tryz.prog lay (T C) (LT C) hints dfT 42 [.agg [.d (.int .i64 a1.op), .d (.str a1.name), .d (.sl Key.raw a1.args)], .d (.int .i64 a2)] [] K =
    Gc42_0 C ρ a1 a2 (fun (y0 : Int) => K (.ret (.d (.int .i64 y0)), [])) := by kernel_rfl

theorem gc53_0 (C : Tab) (ρ : Type) (K : Res sig × Mem sig → Option ρ) (a1 : Pt) (a2 : Pt) : evF Tryz.prog lay (T C) (LT C) hints dfT 53 [.agg [.d (.int .i64 a1.op), .d (.str a1.sign), .d (.str a1.name), .d (.int .i64 a1.num), .d (.int .i64 a1.raw.op), .d (.str a1.raw.name), .d (.sl Key.raw a1.raw.args), .d (.sl Key.part a1.parts)], .agg [.d (.int .i64 a2.op), .d (.str a2.sign), .d (.str a2.name), .d (.int .i64 a2.num), .d (.int .i64 a2.raw.op), .d (.str a2.raw.name), .d (.sl Key.raw a2.raw.args), .d (.sl Key.part a2.parts)]] [] K =
    Gc53_0 C ρ a1 a2 (fun (y0 : Bool) => K (.ret (.d (.bool y0)), [])) := by kernel_rfl

theorem gc57_0 (C : Tab) (ρ : Type) (K : Res sig × Mem sig → Option ρ) (a1 : Rw) (a2 : List Int) : evF Tryz.prog lay (T C) (LT C) hints dfT 57 [.agg [.d (.int .i64 a1.op), .d (.str a1.name), .d (.sl Key.raw a1.args)], .d (.sl Key.int a2)] [] K =
    Gc57_0 C ρ a1 a2 (fun (y0 : ByteArray) => K (.ret (.d (.str y0)), [])) := by kernel_rfl

theorem gc61_0 (C : Tab) (ρ : Type) (K : Res sig × Mem sig → Option ρ) (a1 : List Pt) (a2 : Int) : evF Tryz.prog lay (T C) (LT C) hints dfT 61 [.d (.sl Key.part a1), .d (.int .i64 a2)] [] K =
    Gc61_0 C ρ a1 a2 (fun (y0 : Int) => K (.ret (.d (.int .i64 y0)), [])) := by kernel_rfl

theorem gc65_0 (C : Tab) (ρ : Type) (K : Res sig × Mem sig → Option ρ) (a1 : ByteArray) (a2 : Int) : evF Tryz.prog lay (T C) (LT C) hints dfT 65 [.ptr 0 0] [some [.d (.str a1), .d (.int .i64 a2)]] K =
    Gc65_0 C ρ a1 a2 (fun (y0 : ByteArray) (y1 : Int) => K (.ret (.tup []), [some [.d (.str y0), .d (.int .i64 y1)]])) := by kernel_rfl

theorem gc69_0 (C : Tab) (ρ : Type) (K : Res sig × Mem sig → Option ρ) (a1 : List Tok) (a2 : Int) : evF Tryz.prog lay (T C) (LT C) hints dfT 69 [.ptr 0 0] [some [.d (.sl Key.tok a1), .d (.int .i64 a2)]] K =
    Gc69_0 C ρ a1 a2 (fun (y0 : Rw) (y1 : Bool) (y2 : List Tok) (y3 : Int) => K (.ret (.tup [.agg [.d (.int .i64 y0.op), .d (.str y0.name), .d (.sl Key.raw y0.args)], .d (.bool y1)]), [some [.d (.sl Key.tok y2), .d (.int .i64 y3)]])) (fun (y0 : Int) (y1 : Int) (y2 : List Tok) (y3 : Int) => K (.pan (.iface 114 (.agg [.d (.int .i64 y0), .d (.int .i64 y1)])), [some [.d (.sl Key.tok y2), .d (.int .i64 y3)]])) := by kernel_rfl

theorem gc82_0 (C : Tab) (ρ : Type) (K : Res sig × Mem sig → Option ρ) (a1 : Int) : evF Tryz.prog lay (T C) (LT C) hints dfT 82 [.d (.int .u8 a1)] [] K =
    Gc82_0 C ρ a1 (fun (y0 : Bool) => K (.ret (.d (.bool y0)), [])) := by kernel_rfl

theorem gc92_0 (C : Tab) (ρ : Type) (K : Res sig × Mem sig → Option ρ) (a1 : ByteArray) : evF Tryz.prog lay (T C) (LT C) hints dfT 92 [.d (.str a1), .fn (.func 93) [] []] [] K =
    Gc92_0 C ρ a1 (fun (y0 : Bool) => K (.ret (.d (.bool y0)), [])) := by kernel_rfl

theorem gc97_0 (C : Tab) (ρ : Type) (K : Res sig × Mem sig → Option ρ) (a1 : Int) : evF Tryz.prog lay (T C) (LT C) hints dfT 97 [.d (.int .u8 a1)] [] K =
    Gc97_0 C ρ a1 (fun (y0 : Bool) => K (.ret (.d (.bool y0)), [])) := by kernel_rfl

theorem gc101_0 (C : Tab) (ρ : Type) (K : Res sig × Mem sig → Option ρ) (a1 : List Pt) : evF Tryz.prog lay (T C) (LT C) hints dfT 101 [.d (.sl Key.part a1)] [] K =
    Gc101_0 C ρ a1 (fun (y0 : ByteArray) => K (.ret (.d (.str y0)), [])) := by kernel_rfl

theorem gc106_0 (C : Tab) (ρ : Type) (K : Res sig × Mem sig → Option ρ) (a1 : Int) (a2 : ByteArray) (a3 : Int) : evF Tryz.prog lay (T C) (LT C) hints dfT 106 [.ptr 0 0, .d (.int .i64 a1)] [some [.d (.str a2), .d (.int .i64 a3)]] K =
    Gc106_0 C ρ a1 a2 a3 (fun (y0 : ByteArray) (y1 : ByteArray) (y2 : Int) => K (.ret (.d (.str y0)), [some [.d (.str y1), .d (.int .i64 y2)]])) := by kernel_rfl

theorem gc110_0 (C : Tab) (ρ : Type) (K : Res sig × Mem sig → Option ρ) (a1 : ByteArray) (a2 : Int) : evF Tryz.prog lay (T C) (LT C) hints dfT 110 [.ptr 0 0, .ptr 1 0] [some [.d (.str a1), .d (.int .i64 a2)], some [.fn (.func 104) [] []]] K =
    Gc110_0 C ρ a1 a2 (fun (y0 : Int) (y1 : ByteArray) (y2 : ByteArray) (y3 : Int) => K (.ret (.tup [.d (.int .i64 y0), .d (.str y1)]), [some [.d (.str y2), .d (.int .i64 y3)], some [.fn (.func 104) [] []]])) := by kernel_rfl

theorem gc114_0 (C : Tab) (ρ : Type) (K : Res sig × Mem sig → Option ρ) (a1 : ByteArray) (a2 : Int) : evF Tryz.prog lay (T C) (LT C) hints dfT 114 [.ptr 0 0] [some [.d (.str a1), .d (.int .i64 a2)]] K =
    Gc114_0 C ρ a1 a2 (fun (y0 : Int) (y1 : ByteArray) (y2 : ByteArray) (y3 : Int) => K (.ret (.tup [.d (.int .i64 y0), .d (.str y1)]), [some [.d (.str y2), .d (.int .i64 y3)]])) := by kernel_rfl

theorem gc118_0 (C : Tab) (ρ : Type) (K : Res sig × Mem sig → Option ρ) (a1 : ByteArray) (a2 : List Tok) (a3 : Int) : evF Tryz.prog lay (T C) (LT C) hints dfT 118 [.ptr 0 0, .d (.str a1)] [some [.d (.sl Key.tok a2), .d (.int .i64 a3)]] K =
    Gc118_0 C ρ a1 a2 a3 (fun (y0 : List Tok) (y1 : Int) => K (.ret (.tup []), [some [.d (.sl Key.tok y0), .d (.int .i64 y1)]])) (fun (y0 : Int) (y1 : Int) (y2 : List Tok) (y3 : Int) => K (.pan (.iface 114 (.agg [.d (.int .i64 y0), .d (.int .i64 y1)])), [some [.d (.sl Key.tok y2), .d (.int .i64 y3)]])) := by kernel_rfl

theorem gc127_0 (C : Tab) (ρ : Type) (K : Res sig × Mem sig → Option ρ) (a1 : Int) : evF Tryz.prog lay (T C) (LT C) hints dfT 127 [.d (.int .u8 a1)] [] K =
    Gc127_0 C ρ a1 (fun (y0 : Bool) => K (.ret (.d (.bool y0)), [])) := by kernel_rfl

theorem gc140_0 (C : Tab) (ρ : Type) (K : Res sig × Mem sig → Option ρ) (a1 : Tok) : evF Tryz.prog lay (T C) (LT C) hints dfT 140 [.agg [.d (.int .i64 a1.kind), .d (.str a1.text), .d (.int .i64 (a1.at_))]] [] K =
    Gc140_0 C ρ a1 (fun (y0 : Bool) => K (.ret (.d (.bool y0)), [])) := by kernel_rfl

theorem gl10_4_0 (C : Tab) (ρ : Type) (K : Ex sig → St sig → Option ρ) (a1 : Int) (a2 : Rw) (a3 : Rw) : evK Tryz.prog lay (T C) (LT C) hints 10 0 (bodyOf Tryz.prog 10 4) (canon [2, 3, 5] [.ptr 0 0, .ptr 1 0, .d (.int .i64 a1)] [some [.d (.int .i64 a2.op), .d (.str a2.name), .d (.sl Key.raw a2.args)], some [.d (.int .i64 a3.op), .d (.str a3.name), .d (.sl Key.raw a3.args)]] [] 46) (loopNext (LT C) PK 10 0 4 K) =
    Gl10_4_0 C ρ a1 a2 a3 (fun (y0 : Bool) => K .ret (canon [4] [.d (.bool y0)] [] [] 46)) (K (.exit 0) (canon [] [] [] [] 46)) := by kernel_rfl

theorem gl26_6_0 (C : Tab) (ρ : Type) (K : Ex sig → St sig → Option ρ) (a1 : Int) (a2 : It) : evK Tryz.prog lay (T C) (LT C) hints 26 0 (bodyOf Tryz.prog 26 6) (canon [1, 3] [.ptr 0 0, .d (.int .i64 a1)] [some [.d (.str a2.word), .d (.str a2.name), .d (.int .i64 a2.raw.op), .d (.str a2.raw.name), .d (.sl Key.raw a2.raw.args), .d (.sl Key.part a2.parts)]] [] 61) (loopNext (LT C) PK 26 0 6 K) =
    Gl26_6_0 C ρ a1 a2 (K (.exit 0) (canon [] [] [] [] 61)) (fun (y0 : Bool) => K .ret (canon [2] [.d (.bool y0)] [] [] 61)) := by kernel_rfl

theorem gl42_3_0 (C : Tab) (ρ : Type) (K : Ex sig → St sig → Option ρ) (a1 : Int) (a2 : Int) (a3 : Int) (a4 : Rw) : evK Tryz.prog lay (T C) (LT C) hints 42 0 (bodyOf Tryz.prog 42 3) (canon [1, 2, 5, 6] [.d (.int .i64 a1), .ptr 0 0, .d (.int .i64 a2), .d (.int .i64 a3)] [some [.d (.int .i64 a4.op), .d (.str a4.name), .d (.sl Key.raw a4.args)]] [] 34) (loopNext (LT C) PK 42 0 3 K) =
    Gl42_3_0 C ρ a1 a2 a3 a4 (fun (y0 : Int) (y1 : Int) => K (.exit 0) (canon [1, 5] [.d (.int .i64 y0), .d (.int .i64 y1)] [] [] 34)) := by kernel_rfl

theorem gl58_3_0 (C : Tab) (ρ : Type) (K : Ex sig → St sig → Option ρ) (a1 : List ByteArray) (a2 : List Pt) (a3 : Int) (a4 : Int) : evK Tryz.prog lay (T C) (LT C) hints 58 0 (bodyOf Tryz.prog 58 3) (canon [3, 7, 8, 9] [.own Key.str a1, .d (.sl Key.part a2), .d (.int .i64 a3), .d (.int .i64 a4)] [] [] 64) (loopNext (LT C) PK 58 0 3 K) =
    Gl58_3_0 C ρ a1 a2 a3 a4 (fun (y0 : List ByteArray) => K (.exit 0) (canon [3] [.own Key.str y0] [] [] 64)) := by kernel_rfl

theorem gl69_2_0 (C : Tab) (ρ : Type) (K : Ex sig → St sig → Option ρ) (a1 : List Tok) (a2 : Int) (a3 : Rw) (a4 : Rw) : evK Tryz.prog lay (T C) (LT C) hints 69 1 (bodyOf Tryz.prog 69 2) (canon [0, 2, 4] [.ptr 0 0, .ptr 1 0, .ptr 2 0] [some [.d (.sl Key.tok a1), .d (.int .i64 a2)], some [.d (.int .i64 a3.op), .d (.str a3.name), .full Key.raw a3.args], some [.d (.int .i64 a4.op), .d (.str a4.name), .d (.sl Key.raw a4.args)]] [] 23) (loopNext (LT C) PK 69 1 2 K) =
    Gl69_2_0 C ρ a1 a2 a3 a4 (fun (y0 : List Tok) (y1 : Int) (y2 : Rw) (y3 : Rw) => K (.exit 0) (canon [0, 2, 4] [.ptr 0 0, .ptr 1 0, .ptr 2 0] [some [.d (.sl Key.tok y0), .d (.int .i64 y1)], some [.d (.int .i64 y2.op), .d (.str y2.name), .full Key.raw y2.args], some [.d (.int .i64 y3.op), .d (.str y3.name), .d (.sl Key.raw y3.args)]] [] 23)) (fun (y0 : List Tok) (y1 : Int) (y2 : Rw) (y3 : Int) (y4 : Int) => K (.pan (.iface 114 (.agg [.d (.int .i64 y3), .d (.int .i64 y4)]))) (canon [2, 3] [.ptr 1 0, .any] [some [.d (.sl Key.tok y0), .d (.int .i64 y1)], some [.d (.int .i64 y2.op), .d (.str y2.name), .d (.sl Key.raw y2.args)]] [] 23)) := by kernel_rfl

theorem gl92_4_0 (C : Tab) (ρ : Type) (K : Ex sig → St sig → Option ρ) (a1 : ByteArray) (a2 : Int) (a3 : Int) : evK Tryz.prog lay (T C) (LT C) hints 92 0 (bodyOf Tryz.prog 92 4) (canon [0, 22, 23] [.d (.str a1), .d (.int .i64 a2), .d (.int .i64 a3)] [] [] 32) (loopNext (LT C) PK 92 0 4 K) =
    Gl92_4_0 C ρ a1 a2 a3 (K (.exit 0) (canon [] [] [] [] 32)) (fun (y0 : Bool) => K .ret (canon [4] [.d (.bool y0)] [] [] 32)) := by kernel_rfl

theorem gl126_2_0 (C : Tab) (ρ : Type) (K : Ex sig → St sig → Option ρ) (a1 : List ByteArray) (a2 : ByteArray) (a3 : Int) (a4 : Int) : evK Tryz.prog lay (T C) (LT C) hints 126 0 (bodyOf Tryz.prog 126 2) (canon [0, 1, 7, 8] [.d (.sl Key.str a1), .d (.str a2), .d (.int .i64 a3), .d (.int .i64 a4)] [] [] 19) (loopNext (LT C) PK 126 0 2 K) =
    Gl126_2_0 C ρ a1 a2 a3 a4 (fun (y0 : Int) => K .ret (canon [4] [.d (.int .i64 y0)] [] [] 19)) (K (.exit 0) (canon [] [] [] [] 19)) := by kernel_rfl

end Go.Proofs.YtanfoijdfcnpoaaGreatDoor.Ev
