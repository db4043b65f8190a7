/- This file proves nothing of the program: it defines, for each function and loop of layer 2, what it does to plain values, as read off its code. -/
import Derived.Test.YtanfoijdfcnpoaaDoorT2
set_option linter.unusedVariables false
set_option linter.unusedSimpArgs false
namespace Go.Proofs.YtanfoijdfcnpoaaDoor.Ev

def hints : Hints where
  take := fun f r i => (Nat.beq f 8 && (Nat.beq r 34 && Nat.beq i 0)) || (Nat.beq f 20 && (Nat.beq r 9 && Nat.beq i 0)) || (Nat.beq f 28 && (Nat.beq r 11 && Nat.beq i 0)) || (Nat.beq f 28 && (Nat.beq r 13 && Nat.beq i 0)) || (Nat.beq f 34 && (Nat.beq r 3 && Nat.beq i 0)) || (Nat.beq f 34 && (Nat.beq r 5 && Nat.beq i 5)) || (Nat.beq f 34 && (Nat.beq r 5 && Nat.beq i 6)) || (Nat.beq f 34 && (Nat.beq r 6 && Nat.beq i 10)) || (Nat.beq f 34 && (Nat.beq r 6 && Nat.beq i 11)) || (Nat.beq f 34 && (Nat.beq r 10 && Nat.beq i 2)) || (Nat.beq f 34 && (Nat.beq r 10 && Nat.beq i 3)) || (Nat.beq f 34 && (Nat.beq r 12 && Nat.beq i 0)) || (Nat.beq f 35 && (Nat.beq r 4 && Nat.beq i 0)) || (Nat.beq f 35 && (Nat.beq r 5 && Nat.beq i 0)) || (Nat.beq f 35 && (Nat.beq r 8 && Nat.beq i 5)) || (Nat.beq f 35 && (Nat.beq r 8 && Nat.beq i 6)) || (Nat.beq f 35 && (Nat.beq r 10 && Nat.beq i 0)) || (Nat.beq f 35 && (Nat.beq r 11 && Nat.beq i 0)) || (Nat.beq f 35 && (Nat.beq r 12 && Nat.beq i 5)) || (Nat.beq f 35 && (Nat.beq r 12 && Nat.beq i 6)) || (Nat.beq f 35 && (Nat.beq r 16 && Nat.beq i 6)) || (Nat.beq f 35 && (Nat.beq r 16 && Nat.beq i 7)) || (Nat.beq f 35 && (Nat.beq r 17 && Nat.beq i 0)) || (Nat.beq f 81 && (Nat.beq r 3 && Nat.beq i 0))
  keep := fun f r => none
  full := fun f r i => (Nat.beq f 17 && (Nat.beq r 4 && Nat.beq i 1)) || (Nat.beq f 19 && (Nat.beq r 1 && Nat.beq i 1))
  ret := fun f => Nat.beq f 34 || Nat.beq f 35

def dfT : DeferT sig := fun f => bif Nat.beq f 29 then caughtD f else fun _ _ _ => none

/-- What each function and loop answers, with what is done with it. -/
structure Tab : Type 1 where
  c3_0 : ∀ ρ : Type, Rw → (Bool → Option ρ) → Option ρ
  c4_0 : ∀ ρ : Type, Rw → Rw → (Bool → Option ρ) → Option ρ
  c5_0 : ∀ ρ : Type, Rw → Rw → Rw → (Bool → Option ρ) → Option ρ
  c6_0 : ∀ ρ : Type, Rw → (Bool → Option ρ) → Option ρ
  c9_0 : ∀ ρ : Type, Rw → (Int → Option ρ) → Option ρ
  c10_0 : ∀ ρ : Type, Rw → (ByteArray → Int → Option ρ) → Option ρ
  c11_0 : ∀ ρ : Type, Rw → (Bool → Option ρ) → Option ρ
  c12_0 : ∀ ρ : Type, (Bool → Option ρ) → Option ρ
  c13_0 : ∀ ρ : Type, Rw → (ByteArray → Option ρ) → Option ρ
  c14_0 : ∀ ρ : Type, ByteArray → (Rw → Int → Int → Option ρ) → Option ρ
  c15_0 : ∀ ρ : Type, Rw → Rw → (Bool → Option ρ) → Option ρ
  c16_0 : ∀ ρ : Type, Rw → Rw → (Bool → Option ρ) → Option ρ
  c17_0 : ∀ ρ : Type, Rw → ((List ByteArray) → Int → Option ρ) → Option ρ
  c18_0 : ∀ ρ : Type, (List ByteArray) → (List ByteArray) → (Bool → Option ρ) → Option ρ
  c19_0 : ∀ ρ : Type, Rw → ((List ByteArray) → Option ρ) → ((List ByteArray) → Option ρ) → Option ρ
  c22_0 : ∀ ρ : Type, Rw → Int → Int → (Bool → Int → Option ρ) → Option ρ
  c23_0 : ∀ ρ : Type, Rw → (List Int) → (ByteArray → Option ρ) → Option ρ
  c24_0 : ∀ ρ : Type, Rw → Int → (Int → Option ρ) → Option ρ
  c25_0 : ∀ ρ : Type, Rw → Int → (Bool → Option ρ) → Option ρ
  c26_0 : ∀ ρ : Type, ByteArray → Bool → (ByteArray → Option ρ) → Option ρ
  c27_0 : ∀ ρ : Type, Rw → (Bool → Option ρ) → Option ρ
  c28_0 : ∀ ρ : Type, ByteArray → ((List Tok) → Int → Int → Option ρ) → Option ρ
  c30_0 : ∀ ρ : Type, (List Tok) → Int → (Rw → (List Tok) → Int → Option ρ) → (Int → Int → (List Tok) → Int → Option ρ) → Option ρ
  c31_0 : ∀ ρ : Type, (List Tok) → Int → (Tok → (List Tok) → Int → Option ρ) → Option ρ
  c32_0 : ∀ ρ : Type, (List Tok) → Int → (Int → Int → (List Tok) → Int → Option ρ) → Option ρ
  c33_0 : ∀ ρ : Type, (List Rw) → (List Rw) → (Bool → Option ρ) → Option ρ
  c34_0 : ∀ ρ : Type, Rw → (List ByteArray) → (List ByteArray) → ((List ByteArray) → Option ρ) → Option ρ
  c34_1 : ∀ ρ : Type, Rw → (List ByteArray) → (List ByteArray) → ((List ByteArray) → Option ρ) → Option ρ
  c34_2 : ∀ ρ : Type, Rw → (List ByteArray) → (List ByteArray) → ((List ByteArray) → Option ρ) → Option ρ
  c35_0 : ∀ ρ : Type, Rw → (List ByteArray) → (List ByteArray) → ((List ByteArray) → Option ρ) → ((List ByteArray) → Option ρ) → Option ρ
  c35_1 : ∀ ρ : Type, Rw → (List ByteArray) → (List ByteArray) → ((List ByteArray) → Option ρ) → Option ρ
  c35_2 : ∀ ρ : Type, Rw → (List ByteArray) → (List ByteArray) → ((List ByteArray) → Option ρ) → ((List ByteArray) → Option ρ) → Option ρ
  c40_0 : ∀ ρ : Type, ByteArray → (Bool → Option ρ) → Option ρ
  c41_0 : ∀ ρ : Type, (List Int) → Int → (Bool → Option ρ) → Option ρ
  c42_0 : ∀ ρ : Type, ByteArray → (Bool → Option ρ) → Option ρ
  c43_0 : ∀ ρ : Type, ByteArray → Int → (ByteArray → Int → Option ρ) → Option ρ
  c44_0 : ∀ ρ : Type, Int → (Int → Option ρ) → (Int → Option ρ) → (Int → Option ρ) → (Int → Option ρ) → (Int → Option ρ) → Option ρ → (Int → Option ρ) → (Int → Option ρ) → Option ρ
  c45_0 : ∀ ρ : Type, (List ByteArray) → (List Tok) → Int → (Bool → (List Tok) → Int → Option ρ) → Option ρ
  c46_0 : ∀ ρ : Type, (List Tok) → Int → (Rw → (List Tok) → Int → Option ρ) → (Int → Int → (List Tok) → Int → Option ρ) → Option ρ
  c47_0 : ∀ ρ : Type, (List Tok) → Int → (Rw → Bool → (List Tok) → Int → Option ρ) → (Int → Int → (List Tok) → Int → Option ρ) → Option ρ
  c48_0 : ∀ ρ : Type, (List ByteArray) → ByteArray → (Bool → Option ρ) → Option ρ
  c49_0 : ∀ ρ : Type, Rw → (Bool → Option ρ) → Option ρ
  c50_0 : ∀ ρ : Type, (List ByteArray) → ((List ByteArray) → Option ρ) → Option ρ
  c51_0 : ∀ ρ : Type, (List ByteArray) → ByteArray → (Bool → Option ρ) → Option ρ
  c54_0 : ∀ ρ : Type, ByteArray → (Bool → Option ρ) → Option ρ
  c57_0 : ∀ ρ : Type, ByteArray → (Bool → Option ρ) → Option ρ
  c58_0 : ∀ ρ : Type, (List Int) → Int → (Int → Option ρ) → Option ρ
  c59_0 : ∀ ρ : Type, ByteArray → (Bool → Option ρ) → Option ρ
  c60_0 : ∀ ρ : Type, Int → ByteArray → Int → (Int → ByteArray → Int → Option ρ) → Option ρ
  c61_0 : ∀ ρ : Type, ByteArray → Int → (Int → Option ρ) → Option ρ
  c62_0 : ∀ ρ : Type, Int → ByteArray → Bool → (Int → ByteArray → Option ρ) → Option ρ
  c63_0 : ∀ ρ : Type, Int → (Bool → Option ρ) → Option ρ
  c64_0 : ∀ ρ : Type, ByteArray → Int → (Int → ByteArray → ByteArray → Int → Option ρ) → Option ρ
  c65_0 : ∀ ρ : Type, Int → ByteArray → Int → (ByteArray → ByteArray → Int → Option ρ) → Option ρ
  c66_0 : ∀ ρ : Type, Int → (Bool → Option ρ) → Option ρ
  c67_0 : ∀ ρ : Type, ByteArray → Int → (Int → ByteArray → ByteArray → Int → Option ρ) → Option ρ
  c68_0 : ∀ ρ : Type, Int → (Bool → Option ρ) → Option ρ
  c69_0 : ∀ ρ : Type, ByteArray → Int → (Int → ByteArray → ByteArray → Int → Option ρ) → Option ρ
  c70_0 : ∀ ρ : Type, ByteArray → (Bool → Option ρ) → Option ρ
  c71_0 : ∀ ρ : Type, ByteArray → Int → (Int → ByteArray → ByteArray → Int → Option ρ) → Option ρ
  c72_0 : ∀ ρ : Type, ByteArray → Int → (Int → ByteArray → ByteArray → Int → Option ρ) → Option ρ
  c73_0 : ∀ ρ : Type, ByteArray → Int → (Int → ByteArray → ByteArray → Int → Option ρ) → Option ρ
  c74_0 : ∀ ρ : Type, ByteArray → Int → (Int → ByteArray → ByteArray → Int → Option ρ) → Option ρ
  c75_0 : ∀ ρ : Type, ByteArray → Int → Int → (Int → ByteArray → ByteArray → Int → Int → Option ρ) → Option ρ
  c76_0 : ∀ ρ : Type, (List Tok) → Int → (ByteArray → (List Tok) → Int → Option ρ) → (Int → Int → (List Tok) → Int → Option ρ) → Option ρ
  c77_0 : ∀ ρ : Type, ByteArray → (List Tok) → Int → ((List Tok) → Int → Option ρ) → (Int → Int → (List Tok) → Int → Option ρ) → Option ρ
  c78_0 : ∀ ρ : Type, (List Tok) → Int → (Rw → (List Tok) → Int → Option ρ) → (Int → Int → (List Tok) → Int → Option ρ) → Option ρ
  c79_0 : ∀ ρ : Type, (List Tok) → Int → (Bool → (List Tok) → Int → Option ρ) → Option ρ
  c80_0 : ∀ ρ : Type, (List ByteArray) → ByteArray → (Int → Option ρ) → Option ρ
  c82_0 : ∀ ρ : Type, ByteArray → (Bool → Option ρ) → Option ρ
  c82_1 : ∀ ρ : Type, ByteArray → (Bool → Option ρ) → Option ρ
  c83_0 : ∀ ρ : Type, Int → (Bool → Option ρ) → Option ρ
  c84_0 : ∀ ρ : Type, ByteArray → Int → (Int → Option ρ) → Option ρ
  c86_0 : ∀ ρ : Type, Int → (Bool → Option ρ) → Option ρ
  c87_0 : ∀ ρ : Type, ByteArray → (Int → Option ρ) → (Int → Option ρ) → Option ρ
  c88_0 : ∀ ρ : Type, Int → (ByteArray → Option ρ) → Option ρ
  c89_0 : ∀ ρ : Type, Tok → (Bool → Option ρ) → Option ρ
  c90_0 : ∀ ρ : Type, (List Tok) → Int → (Tok → (List Tok) → Int → Option ρ) → Option ρ
  c92_0 : ∀ ρ : Type, Int → (Bool → Option ρ) → Option ρ
  c93_0 : ∀ ρ : Type, Int → (Bool → Option ρ) → Option ρ
  l15_4_0 : ∀ ρ : Type, Int → Rw → Rw → (Bool → Option ρ) → Option ρ → Option ρ
  l18_4_0 : ∀ ρ : Type, (List ByteArray) → (List ByteArray) → Int → Int → (Bool → Option ρ) → Option ρ → Option ρ
  l22_20_0 : ∀ ρ : Type, Int → (List Rw) → Int → Int → Int → (Bool → Int → Option ρ) → (Int → Option ρ) → Option ρ
  l24_3_0 : ∀ ρ : Type, Int → Int → Int → Rw → (Int → Int → Option ρ) → Option ρ
  l25_18_0 : ∀ ρ : Type, Int → Int → Rw → (Bool → Option ρ) → Option ρ → Option ρ
  l28_6_0 : ∀ ρ : Type, ByteArray → (List Tok) → ByteArray → Int → (ByteArray → (List Tok) → Option ρ) → ((List Tok) → Int → Int → Option ρ) → Option ρ
  l30_4_0 : ∀ ρ : Type, Bool → (List Tok) → Int → Rw → Rw → ((List Tok) → Int → Rw → Rw → Option ρ) → ((List Tok) → Int → Rw → Int → Int → Option ρ) → Option ρ
  l33_4_0 : ∀ ρ : Type, (List Rw) → (List Rw) → Int → Int → (Bool → Option ρ) → Option ρ → Option ρ
  l34_8_0 : ∀ ρ : Type, (List ByteArray) → (List ByteArray) → (List Rw) → Int → Int → ((List ByteArray) → Option ρ) → Option ρ
  l35_14_0 : ∀ ρ : Type, (List ByteArray) → (List ByteArray) → Int → Rw → ((List ByteArray) → Option ρ) → Option ρ
  l43_0_0 : ∀ ρ : Type, ByteArray → Int → (ByteArray → Int → Option ρ) → Option ρ
  l47_2_0 : ∀ ρ : Type, (List Tok) → Int → Rw → Rw → ((List Tok) → Int → Rw → Rw → Option ρ) → ((List Tok) → Int → Rw → Int → Int → Option ρ) → Option ρ
  l51_2_0 : ∀ ρ : Type, ByteArray → (List ByteArray) → Int → Int → (Bool → Option ρ) → Option ρ → Option ρ
  l58_2_0 : ∀ ρ : Type, (List Int) → Int → Int → Int → (Int → Option ρ) → Option ρ → Option ρ
  l65_2_0 : ∀ ρ : Type, Int → Int → ByteArray → Int → (Int → Int → ByteArray → Int → Option ρ) → Option ρ
  l80_2_0 : ∀ ρ : Type, (List ByteArray) → ByteArray → Int → Int → (Int → Option ρ) → Option ρ → Option ρ
  l82_4_0 : ∀ ρ : Type, ByteArray → Int → Int → Option ρ → (Bool → Option ρ) → Option ρ
  l84_1_0 : ∀ ρ : Type, ByteArray → Int → (Int → Option ρ) → Option ρ

/-- truss/trusslaw02.SyntaxTexts -/
def Gc3_0 (C : Tab) (ρ : Type) (a1 : Rw) (k0 : (Bool → Option ρ)) : Option ρ :=
  C.c9_0 ρ (⟨a1.op, a1.name, a1.args⟩ : Rw) (fun (r2 : Int) => C.c10_0 ρ (⟨a1.op, a1.name, a1.args⟩ : Rw) (fun (r3 : ByteArray) (r4 : Int) => C.c11_0 ρ (⟨a1.op, a1.name, a1.args⟩ : Rw) (fun (r5 : Bool) => cond (!r5) (cond (r2 == (2 : Int)) (cond (r4 == (2 : Int)) (cond (strEq r3 (ByteArray.mk #[])) (C.c12_0 ρ (fun (r6 : Bool) => k0 r6)) (k0 false)) (k0 false)) (k0 false)) (cond (r2 != (0 : Int)) (k0 false) (cond (r4 != (0 : Int)) (k0 false) (C.c13_0 ρ (⟨a1.op, a1.name, a1.args⟩ : Rw) (fun (r7 : ByteArray) => cond (!strEq r3 r7) (k0 false) (cond (decide ((r3.size : Int) > (6000 : Int))) (C.c12_0 ρ (fun (r8 : Bool) => k0 r8)) (C.c14_0 ρ r3 (fun (r9 : Rw) (r10 : Int) (r11 : Int) => cond (r11 == (0 : Int)) (cond (r10 == (0 : Int)) (C.c15_0 ρ (⟨r9.op, r9.name, r9.args⟩ : Rw) (⟨a1.op, a1.name, a1.args⟩ : Rw) (fun (r12 : Bool) => cond r12 (C.c12_0 ρ (fun (r13 : Bool) => k0 r13)) (k0 false))) (k0 false)) (k0 false)))))))))))

/-- truss/trusslaw02.SyntaxSame -/
def Gc4_0 (C : Tab) (ρ : Type) (a1 : Rw) (a2 : Rw) (k0 : (Bool → Option ρ)) : Option ρ :=
  C.c16_0 ρ (⟨a1.op, a1.name, a1.args⟩ : Rw) (⟨a2.op, a2.name, a2.args⟩ : Rw) (fun (r3 : Bool) => C.c15_0 ρ (⟨a1.op, a1.name, a1.args⟩ : Rw) (⟨a2.op, a2.name, a2.args⟩ : Rw) (fun (r4 : Bool) => cond (r3 == r4) (C.c16_0 ρ (⟨a2.op, a2.name, a2.args⟩ : Rw) (⟨a1.op, a1.name, a1.args⟩ : Rw) (fun (r5 : Bool) => C.c15_0 ρ (⟨a1.op, a1.name, a1.args⟩ : Rw) (⟨a2.op, a2.name, a2.args⟩ : Rw) (fun (r6 : Bool) => cond (r5 == r6) (C.c16_0 ρ (⟨a1.op, a1.name, a1.args⟩ : Rw) (⟨a1.op, a1.name, a1.args⟩ : Rw) (fun (r7 : Bool) => cond r7 (C.c12_0 ρ (fun (r8 : Bool) => k0 r8)) (k0 false))) (k0 false)))) (k0 false)))

/-- truss/trusslaw02.SyntaxArrows -/
def Gc5_0 (C : Tab) (ρ : Type) (a1 : Rw) (a2 : Rw) (a3 : Rw) (k0 : (Bool → Option ρ)) : Option ρ :=
  C.c11_0 ρ (⟨(6 : Int), (ByteArray.mk #[]), [(⟨a3.op, a3.name, a3.args⟩ : Rw), (⟨(6 : Int), (ByteArray.mk #[]), [(⟨a2.op, a2.name, a2.args⟩ : Rw), (⟨a1.op, a1.name, a1.args⟩ : Rw)]⟩ : Rw)]⟩ : Rw) (fun (r4 : Bool) => cond (!r4) (C.c12_0 ρ (fun (r5 : Bool) => k0 r5)) (C.c10_0 ρ (⟨a1.op, a1.name, a1.args⟩ : Rw) (fun (r6 : ByteArray) (r7 : Int) => C.c10_0 ρ (⟨a2.op, a2.name, a2.args⟩ : Rw) (fun (r8 : ByteArray) (r9 : Int) => C.c10_0 ρ (⟨a3.op, a3.name, a3.args⟩ : Rw) (fun (r10 : ByteArray) (r11 : Int) => cond (r7 != (0 : Int)) (cond (r7 == (0 : Int)) (cond (r9 == (0 : Int)) (cond (r11 == (0 : Int)) (C.c12_0 ρ (fun (r12 : Bool) => k0 r12)) (k0 false)) (k0 false)) (k0 false)) (cond (r9 != (0 : Int)) (cond (r7 == (0 : Int)) (cond (r9 == (0 : Int)) (cond (r11 == (0 : Int)) (C.c12_0 ρ (fun (r13 : Bool) => k0 r13)) (k0 false)) (k0 false)) (k0 false)) (cond (r11 != (0 : Int)) (cond (r7 == (0 : Int)) (cond (r9 == (0 : Int)) (cond (r11 == (0 : Int)) (C.c12_0 ρ (fun (r14 : Bool) => k0 r14)) (k0 false)) (k0 false)) (k0 false)) (cond (decide ((IntKind.wrap .i64 ((IntKind.wrap .i64 ((r6.size : Int) + (r8.size : Int))) + (r10.size : Int))) > (5960 : Int))) (cond (r7 == (0 : Int)) (cond (r9 == (0 : Int)) (cond (r11 == (0 : Int)) (C.c12_0 ρ (fun (r15 : Bool) => k0 r15)) (k0 false)) (k0 false)) (k0 false)) (cond (decide ((ByteArray.mk #[40]).size + r6.size ≤ 9223372036854775807)) (cond (decide (((ByteArray.mk #[40]) ++ r6).size + (ByteArray.mk #[41, 32, 60, 45, 32, 40]).size ≤ 9223372036854775807)) (cond (decide ((((ByteArray.mk #[40]) ++ r6) ++ (ByteArray.mk #[41, 32, 60, 45, 32, 40])).size + r8.size ≤ 9223372036854775807)) (cond (decide (((((ByteArray.mk #[40]) ++ r6) ++ (ByteArray.mk #[41, 32, 60, 45, 32, 40])) ++ r8).size + (ByteArray.mk #[41, 32, 60, 45, 32, 40]).size ≤ 9223372036854775807)) (cond (decide ((((((ByteArray.mk #[40]) ++ r6) ++ (ByteArray.mk #[41, 32, 60, 45, 32, 40])) ++ r8) ++ (ByteArray.mk #[41, 32, 60, 45, 32, 40])).size + r10.size ≤ 9223372036854775807)) (cond (decide (((((((ByteArray.mk #[40]) ++ r6) ++ (ByteArray.mk #[41, 32, 60, 45, 32, 40])) ++ r8) ++ (ByteArray.mk #[41, 32, 60, 45, 32, 40])) ++ r10).size + (ByteArray.mk #[41]).size ≤ 9223372036854775807)) (C.c14_0 ρ (((((((ByteArray.mk #[40]) ++ r6) ++ (ByteArray.mk #[41, 32, 60, 45, 32, 40])) ++ r8) ++ (ByteArray.mk #[41, 32, 60, 45, 32, 40])) ++ r10) ++ (ByteArray.mk #[41])) (fun (r16 : Rw) (r17 : Int) (r18 : Int) => cond (decide ((ByteArray.mk #[40]).size + r10.size ≤ 9223372036854775807)) (cond (decide (((ByteArray.mk #[40]) ++ r10).size + (ByteArray.mk #[41, 32, 45, 62, 32, 40]).size ≤ 9223372036854775807)) (cond (decide ((((ByteArray.mk #[40]) ++ r10) ++ (ByteArray.mk #[41, 32, 45, 62, 32, 40])).size + r8.size ≤ 9223372036854775807)) (cond (decide (((((ByteArray.mk #[40]) ++ r10) ++ (ByteArray.mk #[41, 32, 45, 62, 32, 40])) ++ r8).size + (ByteArray.mk #[41, 32, 45, 62, 32, 40]).size ≤ 9223372036854775807)) (cond (decide ((((((ByteArray.mk #[40]) ++ r10) ++ (ByteArray.mk #[41, 32, 45, 62, 32, 40])) ++ r8) ++ (ByteArray.mk #[41, 32, 45, 62, 32, 40])).size + r6.size ≤ 9223372036854775807)) (cond (decide (((((((ByteArray.mk #[40]) ++ r10) ++ (ByteArray.mk #[41, 32, 45, 62, 32, 40])) ++ r8) ++ (ByteArray.mk #[41, 32, 45, 62, 32, 40])) ++ r6).size + (ByteArray.mk #[41]).size ≤ 9223372036854775807)) (C.c14_0 ρ (((((((ByteArray.mk #[40]) ++ r10) ++ (ByteArray.mk #[41, 32, 45, 62, 32, 40])) ++ r8) ++ (ByteArray.mk #[41, 32, 45, 62, 32, 40])) ++ r6) ++ (ByteArray.mk #[41])) (fun (r19 : Rw) (r20 : Int) (r21 : Int) => cond (r18 == (0 : Int)) (cond (r21 == (0 : Int)) (C.c16_0 ρ (⟨(6 : Int), (ByteArray.mk #[]), [(⟨a3.op, a3.name, a3.args⟩ : Rw), (⟨(6 : Int), (ByteArray.mk #[]), [(⟨a2.op, a2.name, a2.args⟩ : Rw), (⟨a1.op, a1.name, a1.args⟩ : Rw)]⟩ : Rw)]⟩ : Rw) (⟨r16.op, r16.name, r16.args⟩ : Rw) (fun (r22 : Bool) => cond r22 (C.c16_0 ρ (⟨(6 : Int), (ByteArray.mk #[]), [(⟨a3.op, a3.name, a3.args⟩ : Rw), (⟨(6 : Int), (ByteArray.mk #[]), [(⟨a2.op, a2.name, a2.args⟩ : Rw), (⟨a1.op, a1.name, a1.args⟩ : Rw)]⟩ : Rw)]⟩ : Rw) (⟨r19.op, r19.name, r19.args⟩ : Rw) (fun (r23 : Bool) => cond r23 (C.c12_0 ρ (fun (r24 : Bool) => k0 r24)) (k0 false))) (k0 false))) (k0 false)) (k0 false))) (none)) (none)) (none)) (none)) (none)) (none))) (none)) (none)) (none)) (none)) (none)) (none))))))))))

/-- truss/trusslaw02.SyntaxFree -/
def Gc6_0 (C : Tab) (ρ : Type) (a1 : Rw) (k0 : (Bool → Option ρ)) : Option ρ :=
  C.c17_0 ρ (⟨a1.op, a1.name, a1.args⟩ : Rw) (fun (r2 : List ByteArray) (r3 : Int) => C.c11_0 ρ (⟨a1.op, a1.name, a1.args⟩ : Rw) (fun (r4 : Bool) => cond (!r4) (cond (r3 == (2 : Int)) (cond (((List.length r2 : Nat) : Int) == (0 : Int)) (C.c12_0 ρ (fun (r5 : Bool) => k0 r5)) (k0 false)) (k0 false)) (cond (r3 == (0 : Int)) (C.c19_0 ρ (⟨a1.op, a1.name, a1.args⟩ : Rw) (fun (r6 : List ByteArray) => C.c18_0 ρ r2 r6 (fun (r7 : Bool) => cond r7 (C.c12_0 ρ (fun (r8 : Bool) => k0 r8)) (k0 false))) (fun (r9 : List ByteArray) => C.c18_0 ρ r2 r9 (fun (r10 : Bool) => cond r10 (C.c12_0 ρ (fun (r11 : Bool) => k0 r11)) (k0 false)))) (k0 false))))

/-- truss/syntax.Check -/
def Gc9_0 (C : Tab) (ρ : Type) (a1 : Rw) (k0 : (Int → Option ρ)) : Option ρ :=
  C.c22_0 ρ (⟨a1.op, a1.name, a1.args⟩ : Rw) (1 : Int) (0 : Int) (fun (r2 : Bool) (r3 : Int) => cond (!r2) (k0 (2 : Int)) (k0 (0 : Int)))

/-- truss/syntax.Text -/
def Gc10_0 (C : Tab) (ρ : Type) (a1 : Rw) (k0 : (ByteArray → Int → Option ρ)) : Option ρ :=
  C.c9_0 ρ (⟨a1.op, a1.name, a1.args⟩ : Rw) (fun (r2 : Int) => cond (r2 != (0 : Int)) (k0 (ByteArray.mk #[]) r2) (C.c23_0 ρ (⟨a1.op, a1.name, a1.args⟩ : Rw) ([] : List Int) (fun (r3 : ByteArray) => k0 r3 (0 : Int))))

/-- truss/trussref02.Well -/
def Gc11_0 (C : Tab) (ρ : Type) (a1 : Rw) (k0 : (Bool → Option ρ)) : Option ρ :=
  C.c24_0 ρ (⟨a1.op, a1.name, a1.args⟩ : Rw) (400 : Int) (fun (r2 : Int) => cond (decide (r2 ≤ (400 : Int))) (C.c25_0 ρ (⟨a1.op, a1.name, a1.args⟩ : Rw) (1 : Int) (fun (r3 : Bool) => k0 r3)) (k0 false))

/-- truss/trusslaw02.awake -/
def Gc12_0 (C : Tab) (ρ : Type) (k0 : (Bool → Option ρ)) : Option ρ :=
  C.c14_0 ρ (ByteArray.mk #[97, 32, 60, 45, 32, 98, 32, 45, 62, 32, 99]) (fun (r1 : Rw) (r2 : Int) (r3 : Int) => C.c14_0 ρ (ByteArray.mk #[97, 112, 112, 32, 40, 108, 97, 109, 32, 91, 120, 93, 32, 69, 32, 120, 41, 32, 77]) (fun (r4 : Rw) (r5 : Int) (r6 : Int) => C.c10_0 ρ (⟨r4.op, r4.name, r4.args⟩ : Rw) (fun (r7 : ByteArray) (r8 : Int) => cond (r3 == (4 : Int)) (cond (r2 == (7 : Int)) (cond (r6 == (0 : Int)) (cond (r8 == (0 : Int)) (k0 (strEq r7 (ByteArray.mk #[97, 112, 112, 32, 40, 108, 97, 109, 32, 40, 91, 120, 93, 32, 69, 32, 120, 41, 41, 32, 77]))) (k0 false)) (k0 false)) (k0 false)) (k0 false))))

/-- truss/trussref02.Text -/
def Gc13_0 (C : Tab) (ρ : Type) (a1 : Rw) (k0 : (ByteArray → Option ρ)) : Option ρ :=
  cond (a1.op == (1 : Int)) (k0 (ByteArray.mk #[116, 121, 112, 101])) (cond (a1.op == (2 : Int)) (k0 a1.name) (cond (a1.op == (3 : Int)) (k0 (ByteArray.mk #[95])) (cond (a1.op == (4 : Int)) (cond (decide ((0 : Int) ≤ (0 : Int)) && decide ((0 : Int) < ((List.length a1.args : Nat) : Int))) (cond (decide ((0 : Int) ≤ (0 : Int)) && decide ((0 : Int) < ((List.length a1.args : Nat) : Int))) (cond (decide ((0 : Int) ≤ (1 : Int)) && decide ((1 : Int) < ((List.length a1.args : Nat) : Int))) (cond (decide ((0 : Int) ≤ (1 : Int)) && decide ((1 : Int) < ((List.length a1.args : Nat) : Int))) (C.c13_0 ρ (⟨(rdEl lay Key.raw a1.args (0 : Int)).op, (rdEl lay Key.raw a1.args (0 : Int)).name, (rdEl lay Key.raw a1.args (0 : Int)).args⟩ : Rw) (fun (r2 : ByteArray) => C.c27_0 ρ (⟨(rdEl lay Key.raw a1.args (0 : Int)).op, (rdEl lay Key.raw a1.args (0 : Int)).name, (rdEl lay Key.raw a1.args (0 : Int)).args⟩ : Rw) (fun (r3 : Bool) => C.c26_0 ρ r2 r3 (fun (r4 : ByteArray) => cond (decide (r4.size + (ByteArray.mk #[32]).size ≤ 9223372036854775807)) (C.c13_0 ρ (⟨(rdEl lay Key.raw a1.args (1 : Int)).op, (rdEl lay Key.raw a1.args (1 : Int)).name, (rdEl lay Key.raw a1.args (1 : Int)).args⟩ : Rw) (fun (r5 : ByteArray) => C.c27_0 ρ (⟨(rdEl lay Key.raw a1.args (1 : Int)).op, (rdEl lay Key.raw a1.args (1 : Int)).name, (rdEl lay Key.raw a1.args (1 : Int)).args⟩ : Rw) (fun (r6 : Bool) => cond r6 (C.c26_0 ρ r5 true (fun (r7 : ByteArray) => cond (decide ((r4 ++ (ByteArray.mk #[32])).size + r7.size ≤ 9223372036854775807)) (k0 ((r4 ++ (ByteArray.mk #[32])) ++ r7)) (none))) (cond (decide ((0 : Int) ≤ (1 : Int)) && decide ((1 : Int) < ((List.length a1.args : Nat) : Int))) (C.c26_0 ρ r5 ((rdEl lay Key.raw a1.args (1 : Int)).op == (4 : Int)) (fun (r8 : ByteArray) => cond (decide ((r4 ++ (ByteArray.mk #[32])).size + r8.size ≤ 9223372036854775807)) (k0 ((r4 ++ (ByteArray.mk #[32])) ++ r8)) (none))) (none))))) (none))))) (none)) (none)) (none)) (none)) (cond (a1.op == (6 : Int)) (cond (decide ((0 : Int) ≤ (0 : Int)) && decide ((0 : Int) < ((List.length a1.args : Nat) : Int))) (cond (decide ((0 : Int) ≤ (0 : Int)) && decide ((0 : Int) < ((List.length a1.args : Nat) : Int))) (cond (decide ((0 : Int) ≤ (1 : Int)) && decide ((1 : Int) < ((List.length a1.args : Nat) : Int))) (C.c13_0 ρ (⟨(rdEl lay Key.raw a1.args (0 : Int)).op, (rdEl lay Key.raw a1.args (0 : Int)).name, (rdEl lay Key.raw a1.args (0 : Int)).args⟩ : Rw) (fun (r9 : ByteArray) => C.c27_0 ρ (⟨(rdEl lay Key.raw a1.args (0 : Int)).op, (rdEl lay Key.raw a1.args (0 : Int)).name, (rdEl lay Key.raw a1.args (0 : Int)).args⟩ : Rw) (fun (r10 : Bool) => C.c26_0 ρ r9 r10 (fun (r11 : ByteArray) => cond (decide (r11.size + (ByteArray.mk #[32, 45, 62, 32]).size ≤ 9223372036854775807)) (C.c13_0 ρ (⟨(rdEl lay Key.raw a1.args (1 : Int)).op, (rdEl lay Key.raw a1.args (1 : Int)).name, (rdEl lay Key.raw a1.args (1 : Int)).args⟩ : Rw) (fun (r12 : ByteArray) => cond (decide ((r11 ++ (ByteArray.mk #[32, 45, 62, 32])).size + r12.size ≤ 9223372036854775807)) (k0 ((r11 ++ (ByteArray.mk #[32, 45, 62, 32])) ++ r12)) (none))) (none))))) (none)) (none)) (none)) (cond (decide ((0 : Int) ≤ (0 : Int)) && decide ((0 : Int) < ((List.length a1.args : Nat) : Int))) (cond ((rdEl lay Key.raw a1.args (0 : Int)).op != (3 : Int)) (cond (decide ((0 : Int) ≤ (0 : Int)) && decide ((0 : Int) < ((List.length a1.args : Nat) : Int))) (C.c13_0 ρ (⟨(rdEl lay Key.raw a1.args (0 : Int)).op, (rdEl lay Key.raw a1.args (0 : Int)).name, (rdEl lay Key.raw a1.args (0 : Int)).args⟩ : Rw) (fun (r13 : ByteArray) => cond (decide ((ByteArray.mk #[58]).size + r13.size ≤ 9223372036854775807)) (cond (a1.op == (5 : Int)) (cond (decide ((ByteArray.mk #[123]).size + a1.name.size ≤ 9223372036854775807)) (cond (decide (((ByteArray.mk #[123]) ++ a1.name).size + ((ByteArray.mk #[58]) ++ r13).size ≤ 9223372036854775807)) (cond (decide ((((ByteArray.mk #[123]) ++ a1.name) ++ ((ByteArray.mk #[58]) ++ r13)).size + (ByteArray.mk #[125, 32]).size ≤ 9223372036854775807)) (cond (decide ((0 : Int) ≤ (1 : Int)) && decide ((1 : Int) < ((List.length a1.args : Nat) : Int))) (C.c13_0 ρ (⟨(rdEl lay Key.raw a1.args (1 : Int)).op, (rdEl lay Key.raw a1.args (1 : Int)).name, (rdEl lay Key.raw a1.args (1 : Int)).args⟩ : Rw) (fun (r14 : ByteArray) => cond (decide (((((ByteArray.mk #[123]) ++ a1.name) ++ ((ByteArray.mk #[58]) ++ r13)) ++ (ByteArray.mk #[125, 32])).size + r14.size ≤ 9223372036854775807)) (k0 (((((ByteArray.mk #[123]) ++ a1.name) ++ ((ByteArray.mk #[58]) ++ r13)) ++ (ByteArray.mk #[125, 32])) ++ r14)) (none))) (none)) (none)) (none)) (none)) (cond (decide ((ByteArray.mk #[91]).size + a1.name.size ≤ 9223372036854775807)) (cond (decide (((ByteArray.mk #[91]) ++ a1.name).size + ((ByteArray.mk #[58]) ++ r13).size ≤ 9223372036854775807)) (cond (decide ((((ByteArray.mk #[91]) ++ a1.name) ++ ((ByteArray.mk #[58]) ++ r13)).size + (ByteArray.mk #[93, 32]).size ≤ 9223372036854775807)) (cond (decide ((0 : Int) ≤ (1 : Int)) && decide ((1 : Int) < ((List.length a1.args : Nat) : Int))) (C.c13_0 ρ (⟨(rdEl lay Key.raw a1.args (1 : Int)).op, (rdEl lay Key.raw a1.args (1 : Int)).name, (rdEl lay Key.raw a1.args (1 : Int)).args⟩ : Rw) (fun (r15 : ByteArray) => cond (decide (((((ByteArray.mk #[91]) ++ a1.name) ++ ((ByteArray.mk #[58]) ++ r13)) ++ (ByteArray.mk #[93, 32])).size + r15.size ≤ 9223372036854775807)) (k0 (((((ByteArray.mk #[91]) ++ a1.name) ++ ((ByteArray.mk #[58]) ++ r13)) ++ (ByteArray.mk #[93, 32])) ++ r15)) (none))) (none)) (none)) (none)) (none))) (none))) (none)) (cond (a1.op == (5 : Int)) (cond (decide ((ByteArray.mk #[123]).size + a1.name.size ≤ 9223372036854775807)) (cond (decide (((ByteArray.mk #[123]) ++ a1.name).size + (ByteArray.mk #[]).size ≤ 9223372036854775807)) (cond (decide ((((ByteArray.mk #[123]) ++ a1.name) ++ (ByteArray.mk #[])).size + (ByteArray.mk #[125, 32]).size ≤ 9223372036854775807)) (cond (decide ((0 : Int) ≤ (1 : Int)) && decide ((1 : Int) < ((List.length a1.args : Nat) : Int))) (C.c13_0 ρ (⟨(rdEl lay Key.raw a1.args (1 : Int)).op, (rdEl lay Key.raw a1.args (1 : Int)).name, (rdEl lay Key.raw a1.args (1 : Int)).args⟩ : Rw) (fun (r16 : ByteArray) => cond (decide (((((ByteArray.mk #[123]) ++ a1.name) ++ (ByteArray.mk #[])) ++ (ByteArray.mk #[125, 32])).size + r16.size ≤ 9223372036854775807)) (k0 (((((ByteArray.mk #[123]) ++ a1.name) ++ (ByteArray.mk #[])) ++ (ByteArray.mk #[125, 32])) ++ r16)) (none))) (none)) (none)) (none)) (none)) (cond (decide ((ByteArray.mk #[91]).size + a1.name.size ≤ 9223372036854775807)) (cond (decide (((ByteArray.mk #[91]) ++ a1.name).size + (ByteArray.mk #[]).size ≤ 9223372036854775807)) (cond (decide ((((ByteArray.mk #[91]) ++ a1.name) ++ (ByteArray.mk #[])).size + (ByteArray.mk #[93, 32]).size ≤ 9223372036854775807)) (cond (decide ((0 : Int) ≤ (1 : Int)) && decide ((1 : Int) < ((List.length a1.args : Nat) : Int))) (C.c13_0 ρ (⟨(rdEl lay Key.raw a1.args (1 : Int)).op, (rdEl lay Key.raw a1.args (1 : Int)).name, (rdEl lay Key.raw a1.args (1 : Int)).args⟩ : Rw) (fun (r17 : ByteArray) => cond (decide (((((ByteArray.mk #[91]) ++ a1.name) ++ (ByteArray.mk #[])) ++ (ByteArray.mk #[93, 32])).size + r17.size ≤ 9223372036854775807)) (k0 (((((ByteArray.mk #[91]) ++ a1.name) ++ (ByteArray.mk #[])) ++ (ByteArray.mk #[93, 32])) ++ r17)) (none))) (none)) (none)) (none)) (none)))) (none))))))

/-- truss/syntax.Expr -/
def Gc14_0 (C : Tab) (ρ : Type) (a1 : ByteArray) (k0 : (Rw → Int → Int → Option ρ)) : Option ρ :=
  C.c28_0 ρ a1 (fun (r2 : List Tok) (r3 : Int) (r4 : Int) => cond (r4 != (0 : Int)) (k0 (⟨(0 : Int), (ByteArray.mk #[]), []⟩ : Rw) r3 r4) (C.c30_0 ρ r2 (0 : Int) (fun (r5 : Rw) (r6 : List Tok) (r7 : Int) => C.c31_0 ρ r6 r7 (fun (r8 : Tok) (r9 : List Tok) (r10 : Int) => cond (r8.kind != (7 : Int)) (C.c32_0 ρ r9 r10 (fun (r11 : Int) (r12 : Int) (r13 : List Tok) (r14 : Int) => k0 (⟨(0 : Int), (ByteArray.mk #[]), []⟩ : Rw) r11 r12)) (C.c9_0 ρ (⟨r5.op, r5.name, r5.args⟩ : Rw) (fun (r15 : Int) => cond (r15 != (0 : Int)) (k0 (⟨(0 : Int), (ByteArray.mk #[]), []⟩ : Rw) (0 : Int) (5 : Int)) (k0 (⟨r5.op, r5.name, r5.args⟩ : Rw) (0 : Int) (0 : Int)))))) (fun (r16 : Int) (r17 : Int) (r18 : List Tok) (r19 : Int) => k0 (⟨(0 : Int), (ByteArray.mk #[]), []⟩ : Rw) r16 r17)))

/-- truss/trussref02.Same -/
def Gc15_0 (C : Tab) (ρ : Type) (a1 : Rw) (a2 : Rw) (k0 : (Bool → Option ρ)) : Option ρ :=
  cond (a1.op != a2.op) (k0 false) (cond (!strEq a1.name a2.name) (k0 false) (cond (((List.length a1.args : Nat) : Int) != ((List.length a2.args : Nat) : Int)) (k0 false) (C.l15_4_0 ρ (0 : Int) (⟨a1.op, a1.name, a1.args⟩ : Rw) (⟨a2.op, a2.name, a2.args⟩ : Rw) (fun (r3 : Bool) => k0 r3) (k0 true))))

/-- truss/syntax.Same -/
def Gc16_0 (C : Tab) (ρ : Type) (a1 : Rw) (a2 : Rw) (k0 : (Bool → Option ρ)) : Option ρ :=
  cond (a1.op == a2.op) (cond (strEq a1.name a2.name) (C.c33_0 ρ a1.args a2.args (fun (r3 : Bool) => k0 r3)) (k0 false)) (k0 false)

/-- truss/syntax.Free -/
def Gc17_0 (C : Tab) (ρ : Type) (a1 : Rw) (k0 : ((List ByteArray) → Int → Option ρ)) : Option ρ :=
  C.c9_0 ρ (⟨a1.op, a1.name, a1.args⟩ : Rw) (fun (r2 : Int) => cond (r2 != (0 : Int)) (k0 ([] : List ByteArray) r2) (C.c34_0 ρ (⟨a1.op, a1.name, a1.args⟩ : Rw) ([] : List ByteArray) ([] : List ByteArray) (fun (r3 : List ByteArray) => k0 r3 (0 : Int))))

/-- truss/trusslaw02.names -/
def Gc18_0 (C : Tab) (ρ : Type) (a1 : List ByteArray) (a2 : List ByteArray) (k0 : (Bool → Option ρ)) : Option ρ :=
  cond (((List.length a1 : Nat) : Int) != ((List.length a2 : Nat) : Int)) (k0 false) (C.l18_4_0 ρ a1 a2 ((List.length a1 : Nat) : Int) (0 : Int) (fun (r3 : Bool) => k0 r3) (k0 true))

/-- truss/trussref02.Free -/
def Gc19_0 (C : Tab) (ρ : Type) (a1 : Rw) (k0 : ((List ByteArray) → Option ρ)) (k1 : ((List ByteArray) → Option ρ)) : Option ρ :=
  C.c35_0 ρ (⟨a1.op, a1.name, a1.args⟩ : Rw) ([] : List ByteArray) ([] : List ByteArray) (fun (r2 : List ByteArray) => k0 r2) (fun (r3 : List ByteArray) => k1 r3)

/-- truss/syntax.formed -/
def Gc22_0 (C : Tab) (ρ : Type) (a1 : Rw) (a2 : Int) (a3 : Int) (k0 : (Bool → Int → Option ρ)) : Option ρ :=
  cond (decide ((IntKind.wrap .i64 (a3 + (1 : Int))) > (400 : Int))) (k0 false (IntKind.wrap .i64 (a3 + (1 : Int)))) (cond (decide (a2 > (40 : Int))) (k0 false (IntKind.wrap .i64 (a3 + (1 : Int)))) (cond (a1.op == (1 : Int)) (cond (a1.op == (1 : Int)) (cond (((List.length a1.args : Nat) : Int) != (0 : Int)) (k0 false (IntKind.wrap .i64 (a3 + (1 : Int)))) (C.c40_0 ρ a1.name (fun (r4 : Bool) => cond (false != r4) (k0 false (IntKind.wrap .i64 (a3 + (1 : Int)))) (cond (!strEq a1.name (ByteArray.mk #[])) (k0 false (IntKind.wrap .i64 (a3 + (1 : Int)))) (C.l22_20_0 ρ a2 a1.args ((List.length a1.args : Nat) : Int) (0 : Int) (IntKind.wrap .i64 (a3 + (1 : Int))) (fun (r5 : Bool) (r6 : Int) => k0 r5 r6) (fun (r7 : Int) => k0 true r7)))))) (cond (a1.op == (2 : Int)) (cond (((List.length a1.args : Nat) : Int) != (0 : Int)) (k0 false (IntKind.wrap .i64 (a3 + (1 : Int)))) (C.c40_0 ρ a1.name (fun (r8 : Bool) => cond (true != r8) (k0 false (IntKind.wrap .i64 (a3 + (1 : Int)))) (C.l22_20_0 ρ a2 a1.args ((List.length a1.args : Nat) : Int) (0 : Int) (IntKind.wrap .i64 (a3 + (1 : Int))) (fun (r9 : Bool) (r10 : Int) => k0 r9 r10) (fun (r11 : Int) => k0 true r11))))) (cond (a1.op == (4 : Int)) (cond (a1.op == (4 : Int)) (cond (((List.length a1.args : Nat) : Int) != (2 : Int)) (k0 false (IntKind.wrap .i64 (a3 + (1 : Int)))) (C.c40_0 ρ a1.name (fun (r12 : Bool) => cond (false != r12) (k0 false (IntKind.wrap .i64 (a3 + (1 : Int)))) (cond (!strEq a1.name (ByteArray.mk #[])) (k0 false (IntKind.wrap .i64 (a3 + (1 : Int)))) (C.l22_20_0 ρ a2 a1.args ((List.length a1.args : Nat) : Int) (0 : Int) (IntKind.wrap .i64 (a3 + (1 : Int))) (fun (r13 : Bool) (r14 : Int) => k0 r13 r14) (fun (r15 : Int) => k0 true r15)))))) (cond (a1.op == (5 : Int)) (cond (a1.op == (5 : Int)) (cond (((List.length a1.args : Nat) : Int) != (2 : Int)) (k0 false (IntKind.wrap .i64 (a3 + (1 : Int)))) (C.c40_0 ρ a1.name (fun (r16 : Bool) => cond (true != r16) (k0 false (IntKind.wrap .i64 (a3 + (1 : Int)))) (C.l22_20_0 ρ a2 a1.args ((List.length a1.args : Nat) : Int) (0 : Int) (IntKind.wrap .i64 (a3 + (1 : Int))) (fun (r17 : Bool) (r18 : Int) => k0 r17 r18) (fun (r19 : Int) => k0 true r19))))) (k0 false (IntKind.wrap .i64 (a3 + (1 : Int))))) (cond (a1.op == (7 : Int)) (cond (((List.length a1.args : Nat) : Int) != (2 : Int)) (k0 false (IntKind.wrap .i64 (a3 + (1 : Int)))) (C.c40_0 ρ a1.name (fun (r20 : Bool) => cond (true != r20) (k0 false (IntKind.wrap .i64 (a3 + (1 : Int)))) (C.l22_20_0 ρ a2 a1.args ((List.length a1.args : Nat) : Int) (0 : Int) (IntKind.wrap .i64 (a3 + (1 : Int))) (fun (r21 : Bool) (r22 : Int) => k0 r21 r22) (fun (r23 : Int) => k0 true r23))))) (k0 false (IntKind.wrap .i64 (a3 + (1 : Int))))))) (cond (a1.op == (6 : Int)) (cond (((List.length a1.args : Nat) : Int) != (2 : Int)) (k0 false (IntKind.wrap .i64 (a3 + (1 : Int)))) (C.c40_0 ρ a1.name (fun (r24 : Bool) => cond (false != r24) (k0 false (IntKind.wrap .i64 (a3 + (1 : Int)))) (cond (!strEq a1.name (ByteArray.mk #[])) (k0 false (IntKind.wrap .i64 (a3 + (1 : Int)))) (C.l22_20_0 ρ a2 a1.args ((List.length a1.args : Nat) : Int) (0 : Int) (IntKind.wrap .i64 (a3 + (1 : Int))) (fun (r25 : Bool) (r26 : Int) => k0 r25 r26) (fun (r27 : Int) => k0 true r27)))))) (cond (a1.op == (5 : Int)) (cond (a1.op == (5 : Int)) (cond (((List.length a1.args : Nat) : Int) != (2 : Int)) (k0 false (IntKind.wrap .i64 (a3 + (1 : Int)))) (C.c40_0 ρ a1.name (fun (r28 : Bool) => cond (true != r28) (k0 false (IntKind.wrap .i64 (a3 + (1 : Int)))) (C.l22_20_0 ρ a2 a1.args ((List.length a1.args : Nat) : Int) (0 : Int) (IntKind.wrap .i64 (a3 + (1 : Int))) (fun (r29 : Bool) (r30 : Int) => k0 r29 r30) (fun (r31 : Int) => k0 true r31))))) (k0 false (IntKind.wrap .i64 (a3 + (1 : Int))))) (cond (a1.op == (7 : Int)) (cond (((List.length a1.args : Nat) : Int) != (2 : Int)) (k0 false (IntKind.wrap .i64 (a3 + (1 : Int)))) (C.c40_0 ρ a1.name (fun (r32 : Bool) => cond (true != r32) (k0 false (IntKind.wrap .i64 (a3 + (1 : Int)))) (C.l22_20_0 ρ a2 a1.args ((List.length a1.args : Nat) : Int) (0 : Int) (IntKind.wrap .i64 (a3 + (1 : Int))) (fun (r33 : Bool) (r34 : Int) => k0 r33 r34) (fun (r35 : Int) => k0 true r35))))) (k0 false (IntKind.wrap .i64 (a3 + (1 : Int)))))))))) (cond (a1.op == (3 : Int)) (cond (((List.length a1.args : Nat) : Int) != (0 : Int)) (k0 false (IntKind.wrap .i64 (a3 + (1 : Int)))) (C.c40_0 ρ a1.name (fun (r36 : Bool) => cond (false != r36) (k0 false (IntKind.wrap .i64 (a3 + (1 : Int)))) (cond (!strEq a1.name (ByteArray.mk #[])) (k0 false (IntKind.wrap .i64 (a3 + (1 : Int)))) (C.l22_20_0 ρ a2 a1.args ((List.length a1.args : Nat) : Int) (0 : Int) (IntKind.wrap .i64 (a3 + (1 : Int))) (fun (r37 : Bool) (r38 : Int) => k0 r37 r38) (fun (r39 : Int) => k0 true r39)))))) (cond (a1.op == (2 : Int)) (cond (((List.length a1.args : Nat) : Int) != (0 : Int)) (k0 false (IntKind.wrap .i64 (a3 + (1 : Int)))) (C.c40_0 ρ a1.name (fun (r40 : Bool) => cond (true != r40) (k0 false (IntKind.wrap .i64 (a3 + (1 : Int)))) (C.l22_20_0 ρ a2 a1.args ((List.length a1.args : Nat) : Int) (0 : Int) (IntKind.wrap .i64 (a3 + (1 : Int))) (fun (r41 : Bool) (r42 : Int) => k0 r41 r42) (fun (r43 : Int) => k0 true r43))))) (cond (a1.op == (4 : Int)) (cond (a1.op == (4 : Int)) (cond (((List.length a1.args : Nat) : Int) != (2 : Int)) (k0 false (IntKind.wrap .i64 (a3 + (1 : Int)))) (C.c40_0 ρ a1.name (fun (r44 : Bool) => cond (false != r44) (k0 false (IntKind.wrap .i64 (a3 + (1 : Int)))) (cond (!strEq a1.name (ByteArray.mk #[])) (k0 false (IntKind.wrap .i64 (a3 + (1 : Int)))) (C.l22_20_0 ρ a2 a1.args ((List.length a1.args : Nat) : Int) (0 : Int) (IntKind.wrap .i64 (a3 + (1 : Int))) (fun (r45 : Bool) (r46 : Int) => k0 r45 r46) (fun (r47 : Int) => k0 true r47)))))) (cond (a1.op == (5 : Int)) (cond (a1.op == (5 : Int)) (cond (((List.length a1.args : Nat) : Int) != (2 : Int)) (k0 false (IntKind.wrap .i64 (a3 + (1 : Int)))) (C.c40_0 ρ a1.name (fun (r48 : Bool) => cond (true != r48) (k0 false (IntKind.wrap .i64 (a3 + (1 : Int)))) (C.l22_20_0 ρ a2 a1.args ((List.length a1.args : Nat) : Int) (0 : Int) (IntKind.wrap .i64 (a3 + (1 : Int))) (fun (r49 : Bool) (r50 : Int) => k0 r49 r50) (fun (r51 : Int) => k0 true r51))))) (k0 false (IntKind.wrap .i64 (a3 + (1 : Int))))) (cond (a1.op == (7 : Int)) (cond (((List.length a1.args : Nat) : Int) != (2 : Int)) (k0 false (IntKind.wrap .i64 (a3 + (1 : Int)))) (C.c40_0 ρ a1.name (fun (r52 : Bool) => cond (true != r52) (k0 false (IntKind.wrap .i64 (a3 + (1 : Int)))) (C.l22_20_0 ρ a2 a1.args ((List.length a1.args : Nat) : Int) (0 : Int) (IntKind.wrap .i64 (a3 + (1 : Int))) (fun (r53 : Bool) (r54 : Int) => k0 r53 r54) (fun (r55 : Int) => k0 true r55))))) (k0 false (IntKind.wrap .i64 (a3 + (1 : Int))))))) (cond (a1.op == (6 : Int)) (cond (((List.length a1.args : Nat) : Int) != (2 : Int)) (k0 false (IntKind.wrap .i64 (a3 + (1 : Int)))) (C.c40_0 ρ a1.name (fun (r56 : Bool) => cond (false != r56) (k0 false (IntKind.wrap .i64 (a3 + (1 : Int)))) (cond (!strEq a1.name (ByteArray.mk #[])) (k0 false (IntKind.wrap .i64 (a3 + (1 : Int)))) (C.l22_20_0 ρ a2 a1.args ((List.length a1.args : Nat) : Int) (0 : Int) (IntKind.wrap .i64 (a3 + (1 : Int))) (fun (r57 : Bool) (r58 : Int) => k0 r57 r58) (fun (r59 : Int) => k0 true r59)))))) (cond (a1.op == (5 : Int)) (cond (a1.op == (5 : Int)) (cond (((List.length a1.args : Nat) : Int) != (2 : Int)) (k0 false (IntKind.wrap .i64 (a3 + (1 : Int)))) (C.c40_0 ρ a1.name (fun (r60 : Bool) => cond (true != r60) (k0 false (IntKind.wrap .i64 (a3 + (1 : Int)))) (C.l22_20_0 ρ a2 a1.args ((List.length a1.args : Nat) : Int) (0 : Int) (IntKind.wrap .i64 (a3 + (1 : Int))) (fun (r61 : Bool) (r62 : Int) => k0 r61 r62) (fun (r63 : Int) => k0 true r63))))) (k0 false (IntKind.wrap .i64 (a3 + (1 : Int))))) (cond (a1.op == (7 : Int)) (cond (((List.length a1.args : Nat) : Int) != (2 : Int)) (k0 false (IntKind.wrap .i64 (a3 + (1 : Int)))) (C.c40_0 ρ a1.name (fun (r64 : Bool) => cond (true != r64) (k0 false (IntKind.wrap .i64 (a3 + (1 : Int)))) (C.l22_20_0 ρ a2 a1.args ((List.length a1.args : Nat) : Int) (0 : Int) (IntKind.wrap .i64 (a3 + (1 : Int))) (fun (r65 : Bool) (r66 : Int) => k0 r65 r66) (fun (r67 : Int) => k0 true r67))))) (k0 false (IntKind.wrap .i64 (a3 + (1 : Int))))))))))))

/-- truss/syntax.text -/
def Gc23_0 (C : Tab) (ρ : Type) (a1 : Rw) (a2 : List Int) (k0 : (ByteArray → Option ρ)) : Option ρ :=
  cond (a1.op == (1 : Int)) (C.c41_0 ρ a2 a1.op (fun (r3 : Bool) => cond r3 (cond (decide ((ByteArray.mk #[40]).size + (ByteArray.mk #[116, 121, 112, 101]).size ≤ 9223372036854775807)) (cond (decide (((ByteArray.mk #[40]) ++ (ByteArray.mk #[116, 121, 112, 101])).size + (ByteArray.mk #[41]).size ≤ 9223372036854775807)) (k0 (((ByteArray.mk #[40]) ++ (ByteArray.mk #[116, 121, 112, 101])) ++ (ByteArray.mk #[41]))) (none)) (none)) (k0 (ByteArray.mk #[116, 121, 112, 101])))) (cond (a1.op == (2 : Int)) (C.c41_0 ρ a2 a1.op (fun (r4 : Bool) => cond r4 (cond (decide ((ByteArray.mk #[40]).size + a1.name.size ≤ 9223372036854775807)) (cond (decide (((ByteArray.mk #[40]) ++ a1.name).size + (ByteArray.mk #[41]).size ≤ 9223372036854775807)) (k0 (((ByteArray.mk #[40]) ++ a1.name) ++ (ByteArray.mk #[41]))) (none)) (none)) (k0 a1.name))) (cond (a1.op == (3 : Int)) (C.c41_0 ρ a2 a1.op (fun (r5 : Bool) => cond r5 (cond (decide ((ByteArray.mk #[40]).size + (ByteArray.mk #[95]).size ≤ 9223372036854775807)) (cond (decide (((ByteArray.mk #[40]) ++ (ByteArray.mk #[95])).size + (ByteArray.mk #[41]).size ≤ 9223372036854775807)) (k0 (((ByteArray.mk #[40]) ++ (ByteArray.mk #[95])) ++ (ByteArray.mk #[41]))) (none)) (none)) (k0 (ByteArray.mk #[95])))) (cond (a1.op == (4 : Int)) (cond (decide ((0 : Int) ≤ (0 : Int)) && decide ((0 : Int) < ((List.length a1.args : Nat) : Int))) (cond (decide ((0 : Int) ≤ (1 : Int)) && decide ((1 : Int) < ((List.length a1.args : Nat) : Int))) (C.c23_0 ρ (⟨(rdEl lay Key.raw a1.args (0 : Int)).op, (rdEl lay Key.raw a1.args (0 : Int)).name, (rdEl lay Key.raw a1.args (0 : Int)).args⟩ : Rw) [(6 : Int), (5 : Int), (7 : Int)] (fun (r6 : ByteArray) => cond (decide (r6.size + (ByteArray.mk #[32]).size ≤ 9223372036854775807)) (C.c23_0 ρ (⟨(rdEl lay Key.raw a1.args (1 : Int)).op, (rdEl lay Key.raw a1.args (1 : Int)).name, (rdEl lay Key.raw a1.args (1 : Int)).args⟩ : Rw) [(4 : Int), (6 : Int), (5 : Int), (7 : Int)] (fun (r7 : ByteArray) => cond (decide ((r6 ++ (ByteArray.mk #[32])).size + r7.size ≤ 9223372036854775807)) (C.c41_0 ρ a2 a1.op (fun (r8 : Bool) => cond r8 (cond (decide ((ByteArray.mk #[40]).size + ((r6 ++ (ByteArray.mk #[32])) ++ r7).size ≤ 9223372036854775807)) (cond (decide (((ByteArray.mk #[40]) ++ ((r6 ++ (ByteArray.mk #[32])) ++ r7)).size + (ByteArray.mk #[41]).size ≤ 9223372036854775807)) (k0 (((ByteArray.mk #[40]) ++ ((r6 ++ (ByteArray.mk #[32])) ++ r7)) ++ (ByteArray.mk #[41]))) (none)) (none)) (k0 ((r6 ++ (ByteArray.mk #[32])) ++ r7)))) (none))) (none))) (none)) (none)) (cond (a1.op == (6 : Int)) (cond (decide ((0 : Int) ≤ (0 : Int)) && decide ((0 : Int) < ((List.length a1.args : Nat) : Int))) (cond (decide ((0 : Int) ≤ (1 : Int)) && decide ((1 : Int) < ((List.length a1.args : Nat) : Int))) (C.c23_0 ρ (⟨(rdEl lay Key.raw a1.args (0 : Int)).op, (rdEl lay Key.raw a1.args (0 : Int)).name, (rdEl lay Key.raw a1.args (0 : Int)).args⟩ : Rw) [(6 : Int), (5 : Int), (7 : Int)] (fun (r9 : ByteArray) => cond (decide (r9.size + (ByteArray.mk #[32, 45, 62, 32]).size ≤ 9223372036854775807)) (C.c23_0 ρ (⟨(rdEl lay Key.raw a1.args (1 : Int)).op, (rdEl lay Key.raw a1.args (1 : Int)).name, (rdEl lay Key.raw a1.args (1 : Int)).args⟩ : Rw) ([] : List Int) (fun (r10 : ByteArray) => cond (decide ((r9 ++ (ByteArray.mk #[32, 45, 62, 32])).size + r10.size ≤ 9223372036854775807)) (C.c41_0 ρ a2 a1.op (fun (r11 : Bool) => cond r11 (cond (decide ((ByteArray.mk #[40]).size + ((r9 ++ (ByteArray.mk #[32, 45, 62, 32])) ++ r10).size ≤ 9223372036854775807)) (cond (decide (((ByteArray.mk #[40]) ++ ((r9 ++ (ByteArray.mk #[32, 45, 62, 32])) ++ r10)).size + (ByteArray.mk #[41]).size ≤ 9223372036854775807)) (k0 (((ByteArray.mk #[40]) ++ ((r9 ++ (ByteArray.mk #[32, 45, 62, 32])) ++ r10)) ++ (ByteArray.mk #[41]))) (none)) (none)) (k0 ((r9 ++ (ByteArray.mk #[32, 45, 62, 32])) ++ r10)))) (none))) (none))) (none)) (none)) (cond (a1.op == (7 : Int)) (cond (decide ((ByteArray.mk #[91]).size + a1.name.size ≤ 9223372036854775807)) (cond (decide ((0 : Int) ≤ (0 : Int)) && decide ((0 : Int) < ((List.length a1.args : Nat) : Int))) (cond ((rdEl lay Key.raw a1.args (0 : Int)).op != (3 : Int)) (cond (decide ((0 : Int) ≤ (0 : Int)) && decide ((0 : Int) < ((List.length a1.args : Nat) : Int))) (C.c23_0 ρ (⟨(rdEl lay Key.raw a1.args (0 : Int)).op, (rdEl lay Key.raw a1.args (0 : Int)).name, (rdEl lay Key.raw a1.args (0 : Int)).args⟩ : Rw) ([] : List Int) (fun (r12 : ByteArray) => cond (decide ((ByteArray.mk #[58]).size + r12.size ≤ 9223372036854775807)) (cond (decide (((ByteArray.mk #[91]) ++ a1.name).size + ((ByteArray.mk #[58]) ++ r12).size ≤ 9223372036854775807)) (cond (decide ((ByteArray.mk #[93]).size + (ByteArray.mk #[32]).size ≤ 9223372036854775807)) (cond (decide ((0 : Int) ≤ (1 : Int)) && decide ((1 : Int) < ((List.length a1.args : Nat) : Int))) (C.c23_0 ρ (⟨(rdEl lay Key.raw a1.args (1 : Int)).op, (rdEl lay Key.raw a1.args (1 : Int)).name, (rdEl lay Key.raw a1.args (1 : Int)).args⟩ : Rw) ([] : List Int) (fun (r13 : ByteArray) => cond (decide (((ByteArray.mk #[93]) ++ (ByteArray.mk #[32])).size + r13.size ≤ 9223372036854775807)) (cond (decide ((((ByteArray.mk #[91]) ++ a1.name) ++ ((ByteArray.mk #[58]) ++ r12)).size + (((ByteArray.mk #[93]) ++ (ByteArray.mk #[32])) ++ r13).size ≤ 9223372036854775807)) (C.c41_0 ρ a2 a1.op (fun (r14 : Bool) => cond r14 (cond (decide ((ByteArray.mk #[40]).size + ((((ByteArray.mk #[91]) ++ a1.name) ++ ((ByteArray.mk #[58]) ++ r12)) ++ (((ByteArray.mk #[93]) ++ (ByteArray.mk #[32])) ++ r13)).size ≤ 9223372036854775807)) (cond (decide (((ByteArray.mk #[40]) ++ ((((ByteArray.mk #[91]) ++ a1.name) ++ ((ByteArray.mk #[58]) ++ r12)) ++ (((ByteArray.mk #[93]) ++ (ByteArray.mk #[32])) ++ r13))).size + (ByteArray.mk #[41]).size ≤ 9223372036854775807)) (k0 (((ByteArray.mk #[40]) ++ ((((ByteArray.mk #[91]) ++ a1.name) ++ ((ByteArray.mk #[58]) ++ r12)) ++ (((ByteArray.mk #[93]) ++ (ByteArray.mk #[32])) ++ r13))) ++ (ByteArray.mk #[41]))) (none)) (none)) (k0 ((((ByteArray.mk #[91]) ++ a1.name) ++ ((ByteArray.mk #[58]) ++ r12)) ++ (((ByteArray.mk #[93]) ++ (ByteArray.mk #[32])) ++ r13))))) (none)) (none))) (none)) (none)) (none)) (none))) (none)) (cond (decide ((ByteArray.mk #[93]).size + (ByteArray.mk #[32]).size ≤ 9223372036854775807)) (cond (decide ((0 : Int) ≤ (1 : Int)) && decide ((1 : Int) < ((List.length a1.args : Nat) : Int))) (C.c23_0 ρ (⟨(rdEl lay Key.raw a1.args (1 : Int)).op, (rdEl lay Key.raw a1.args (1 : Int)).name, (rdEl lay Key.raw a1.args (1 : Int)).args⟩ : Rw) ([] : List Int) (fun (r15 : ByteArray) => cond (decide (((ByteArray.mk #[93]) ++ (ByteArray.mk #[32])).size + r15.size ≤ 9223372036854775807)) (cond (decide (((ByteArray.mk #[91]) ++ a1.name).size + (((ByteArray.mk #[93]) ++ (ByteArray.mk #[32])) ++ r15).size ≤ 9223372036854775807)) (C.c41_0 ρ a2 a1.op (fun (r16 : Bool) => cond r16 (cond (decide ((ByteArray.mk #[40]).size + (((ByteArray.mk #[91]) ++ a1.name) ++ (((ByteArray.mk #[93]) ++ (ByteArray.mk #[32])) ++ r15)).size ≤ 9223372036854775807)) (cond (decide (((ByteArray.mk #[40]) ++ (((ByteArray.mk #[91]) ++ a1.name) ++ (((ByteArray.mk #[93]) ++ (ByteArray.mk #[32])) ++ r15))).size + (ByteArray.mk #[41]).size ≤ 9223372036854775807)) (k0 (((ByteArray.mk #[40]) ++ (((ByteArray.mk #[91]) ++ a1.name) ++ (((ByteArray.mk #[93]) ++ (ByteArray.mk #[32])) ++ r15))) ++ (ByteArray.mk #[41]))) (none)) (none)) (k0 (((ByteArray.mk #[91]) ++ a1.name) ++ (((ByteArray.mk #[93]) ++ (ByteArray.mk #[32])) ++ r15))))) (none)) (none))) (none)) (none))) (none)) (none)) (cond (decide ((ByteArray.mk #[123]).size + a1.name.size ≤ 9223372036854775807)) (cond (decide ((0 : Int) ≤ (0 : Int)) && decide ((0 : Int) < ((List.length a1.args : Nat) : Int))) (cond ((rdEl lay Key.raw a1.args (0 : Int)).op != (3 : Int)) (cond (decide ((0 : Int) ≤ (0 : Int)) && decide ((0 : Int) < ((List.length a1.args : Nat) : Int))) (C.c23_0 ρ (⟨(rdEl lay Key.raw a1.args (0 : Int)).op, (rdEl lay Key.raw a1.args (0 : Int)).name, (rdEl lay Key.raw a1.args (0 : Int)).args⟩ : Rw) ([] : List Int) (fun (r17 : ByteArray) => cond (decide ((ByteArray.mk #[58]).size + r17.size ≤ 9223372036854775807)) (cond (decide (((ByteArray.mk #[123]) ++ a1.name).size + ((ByteArray.mk #[58]) ++ r17).size ≤ 9223372036854775807)) (cond (decide ((ByteArray.mk #[125]).size + (ByteArray.mk #[32]).size ≤ 9223372036854775807)) (cond (decide ((0 : Int) ≤ (1 : Int)) && decide ((1 : Int) < ((List.length a1.args : Nat) : Int))) (C.c23_0 ρ (⟨(rdEl lay Key.raw a1.args (1 : Int)).op, (rdEl lay Key.raw a1.args (1 : Int)).name, (rdEl lay Key.raw a1.args (1 : Int)).args⟩ : Rw) ([] : List Int) (fun (r18 : ByteArray) => cond (decide (((ByteArray.mk #[125]) ++ (ByteArray.mk #[32])).size + r18.size ≤ 9223372036854775807)) (cond (decide ((((ByteArray.mk #[123]) ++ a1.name) ++ ((ByteArray.mk #[58]) ++ r17)).size + (((ByteArray.mk #[125]) ++ (ByteArray.mk #[32])) ++ r18).size ≤ 9223372036854775807)) (C.c41_0 ρ a2 a1.op (fun (r19 : Bool) => cond r19 (cond (decide ((ByteArray.mk #[40]).size + ((((ByteArray.mk #[123]) ++ a1.name) ++ ((ByteArray.mk #[58]) ++ r17)) ++ (((ByteArray.mk #[125]) ++ (ByteArray.mk #[32])) ++ r18)).size ≤ 9223372036854775807)) (cond (decide (((ByteArray.mk #[40]) ++ ((((ByteArray.mk #[123]) ++ a1.name) ++ ((ByteArray.mk #[58]) ++ r17)) ++ (((ByteArray.mk #[125]) ++ (ByteArray.mk #[32])) ++ r18))).size + (ByteArray.mk #[41]).size ≤ 9223372036854775807)) (k0 (((ByteArray.mk #[40]) ++ ((((ByteArray.mk #[123]) ++ a1.name) ++ ((ByteArray.mk #[58]) ++ r17)) ++ (((ByteArray.mk #[125]) ++ (ByteArray.mk #[32])) ++ r18))) ++ (ByteArray.mk #[41]))) (none)) (none)) (k0 ((((ByteArray.mk #[123]) ++ a1.name) ++ ((ByteArray.mk #[58]) ++ r17)) ++ (((ByteArray.mk #[125]) ++ (ByteArray.mk #[32])) ++ r18))))) (none)) (none))) (none)) (none)) (none)) (none))) (none)) (cond (decide ((ByteArray.mk #[125]).size + (ByteArray.mk #[32]).size ≤ 9223372036854775807)) (cond (decide ((0 : Int) ≤ (1 : Int)) && decide ((1 : Int) < ((List.length a1.args : Nat) : Int))) (C.c23_0 ρ (⟨(rdEl lay Key.raw a1.args (1 : Int)).op, (rdEl lay Key.raw a1.args (1 : Int)).name, (rdEl lay Key.raw a1.args (1 : Int)).args⟩ : Rw) ([] : List Int) (fun (r20 : ByteArray) => cond (decide (((ByteArray.mk #[125]) ++ (ByteArray.mk #[32])).size + r20.size ≤ 9223372036854775807)) (cond (decide (((ByteArray.mk #[123]) ++ a1.name).size + (((ByteArray.mk #[125]) ++ (ByteArray.mk #[32])) ++ r20).size ≤ 9223372036854775807)) (C.c41_0 ρ a2 a1.op (fun (r21 : Bool) => cond r21 (cond (decide ((ByteArray.mk #[40]).size + (((ByteArray.mk #[123]) ++ a1.name) ++ (((ByteArray.mk #[125]) ++ (ByteArray.mk #[32])) ++ r20)).size ≤ 9223372036854775807)) (cond (decide (((ByteArray.mk #[40]) ++ (((ByteArray.mk #[123]) ++ a1.name) ++ (((ByteArray.mk #[125]) ++ (ByteArray.mk #[32])) ++ r20))).size + (ByteArray.mk #[41]).size ≤ 9223372036854775807)) (k0 (((ByteArray.mk #[40]) ++ (((ByteArray.mk #[123]) ++ a1.name) ++ (((ByteArray.mk #[125]) ++ (ByteArray.mk #[32])) ++ r20))) ++ (ByteArray.mk #[41]))) (none)) (none)) (k0 (((ByteArray.mk #[123]) ++ a1.name) ++ (((ByteArray.mk #[125]) ++ (ByteArray.mk #[32])) ++ r20))))) (none)) (none))) (none)) (none))) (none)) (none)))))))

/-- truss/trussref02.nodes -/
def Gc24_0 (C : Tab) (ρ : Type) (a1 : Rw) (a2 : Int) (k0 : (Int → Option ρ)) : Option ρ :=
  C.l24_3_0 ρ a2 (1 : Int) (0 : Int) (⟨a1.op, a1.name, a1.args⟩ : Rw) (fun (r3 : Int) (r4 : Int) => k0 (min2 r4 (IntKind.wrap .i64 (r3 + (1 : Int)))))

/-- truss/trussref02.formed -/
def Gc25_0 (C : Tab) (ρ : Type) (a1 : Rw) (a2 : Int) (k0 : (Bool → Option ρ)) : Option ρ :=
  cond (a1.op == (1 : Int)) (cond (a1.op == (1 : Int)) (cond (decide (a2 > (40 : Int))) (k0 false) (cond (((List.length a1.args : Nat) : Int) != (0 : Int)) (k0 false) (cond (false != (!strEq a1.name (ByteArray.mk #[]))) (k0 false) (C.l25_18_0 ρ a2 (0 : Int) (⟨a1.op, a1.name, a1.args⟩ : Rw) (fun (r3 : Bool) => k0 r3) (k0 true))))) (cond (a1.op == (2 : Int)) (cond (decide (a2 > (40 : Int))) (k0 false) (cond (((List.length a1.args : Nat) : Int) != (0 : Int)) (k0 false) (cond (true != (!strEq a1.name (ByteArray.mk #[]))) (k0 false) (C.c42_0 ρ a1.name (fun (r4 : Bool) => cond (!r4) (k0 false) (C.l25_18_0 ρ a2 (0 : Int) (⟨a1.op, a1.name, a1.args⟩ : Rw) (fun (r5 : Bool) => k0 r5) (k0 true))))))) (cond (a1.op == (4 : Int)) (cond (a1.op == (4 : Int)) (cond (decide (a2 > (40 : Int))) (k0 false) (cond (((List.length a1.args : Nat) : Int) != (2 : Int)) (k0 false) (cond (false != (!strEq a1.name (ByteArray.mk #[]))) (k0 false) (C.l25_18_0 ρ a2 (0 : Int) (⟨a1.op, a1.name, a1.args⟩ : Rw) (fun (r6 : Bool) => k0 r6) (k0 true))))) (cond (a1.op == (5 : Int)) (cond (a1.op == (5 : Int)) (cond (decide (a2 > (40 : Int))) (k0 false) (cond (((List.length a1.args : Nat) : Int) != (2 : Int)) (k0 false) (cond (true != (!strEq a1.name (ByteArray.mk #[]))) (k0 false) (C.c42_0 ρ a1.name (fun (r7 : Bool) => cond (!r7) (k0 false) (C.l25_18_0 ρ a2 (0 : Int) (⟨a1.op, a1.name, a1.args⟩ : Rw) (fun (r8 : Bool) => k0 r8) (k0 true))))))) (k0 false)) (cond (a1.op == (7 : Int)) (cond (decide (a2 > (40 : Int))) (k0 false) (cond (((List.length a1.args : Nat) : Int) != (2 : Int)) (k0 false) (cond (true != (!strEq a1.name (ByteArray.mk #[]))) (k0 false) (C.c42_0 ρ a1.name (fun (r9 : Bool) => cond (!r9) (k0 false) (C.l25_18_0 ρ a2 (0 : Int) (⟨a1.op, a1.name, a1.args⟩ : Rw) (fun (r10 : Bool) => k0 r10) (k0 true))))))) (k0 false)))) (cond (a1.op == (6 : Int)) (cond (decide (a2 > (40 : Int))) (k0 false) (cond (((List.length a1.args : Nat) : Int) != (2 : Int)) (k0 false) (cond (false != (!strEq a1.name (ByteArray.mk #[]))) (k0 false) (C.l25_18_0 ρ a2 (0 : Int) (⟨a1.op, a1.name, a1.args⟩ : Rw) (fun (r11 : Bool) => k0 r11) (k0 true))))) (cond (a1.op == (5 : Int)) (cond (a1.op == (5 : Int)) (cond (decide (a2 > (40 : Int))) (k0 false) (cond (((List.length a1.args : Nat) : Int) != (2 : Int)) (k0 false) (cond (true != (!strEq a1.name (ByteArray.mk #[]))) (k0 false) (C.c42_0 ρ a1.name (fun (r12 : Bool) => cond (!r12) (k0 false) (C.l25_18_0 ρ a2 (0 : Int) (⟨a1.op, a1.name, a1.args⟩ : Rw) (fun (r13 : Bool) => k0 r13) (k0 true))))))) (k0 false)) (cond (a1.op == (7 : Int)) (cond (decide (a2 > (40 : Int))) (k0 false) (cond (((List.length a1.args : Nat) : Int) != (2 : Int)) (k0 false) (cond (true != (!strEq a1.name (ByteArray.mk #[]))) (k0 false) (C.c42_0 ρ a1.name (fun (r14 : Bool) => cond (!r14) (k0 false) (C.l25_18_0 ρ a2 (0 : Int) (⟨a1.op, a1.name, a1.args⟩ : Rw) (fun (r15 : Bool) => k0 r15) (k0 true))))))) (k0 false))))))) (cond (a1.op == (3 : Int)) (cond (decide (a2 > (40 : Int))) (k0 false) (cond (((List.length a1.args : Nat) : Int) != (0 : Int)) (k0 false) (cond (false != (!strEq a1.name (ByteArray.mk #[]))) (k0 false) (C.l25_18_0 ρ a2 (0 : Int) (⟨a1.op, a1.name, a1.args⟩ : Rw) (fun (r16 : Bool) => k0 r16) (k0 true))))) (cond (a1.op == (2 : Int)) (cond (decide (a2 > (40 : Int))) (k0 false) (cond (((List.length a1.args : Nat) : Int) != (0 : Int)) (k0 false) (cond (true != (!strEq a1.name (ByteArray.mk #[]))) (k0 false) (C.c42_0 ρ a1.name (fun (r17 : Bool) => cond (!r17) (k0 false) (C.l25_18_0 ρ a2 (0 : Int) (⟨a1.op, a1.name, a1.args⟩ : Rw) (fun (r18 : Bool) => k0 r18) (k0 true))))))) (cond (a1.op == (4 : Int)) (cond (a1.op == (4 : Int)) (cond (decide (a2 > (40 : Int))) (k0 false) (cond (((List.length a1.args : Nat) : Int) != (2 : Int)) (k0 false) (cond (false != (!strEq a1.name (ByteArray.mk #[]))) (k0 false) (C.l25_18_0 ρ a2 (0 : Int) (⟨a1.op, a1.name, a1.args⟩ : Rw) (fun (r19 : Bool) => k0 r19) (k0 true))))) (cond (a1.op == (5 : Int)) (cond (a1.op == (5 : Int)) (cond (decide (a2 > (40 : Int))) (k0 false) (cond (((List.length a1.args : Nat) : Int) != (2 : Int)) (k0 false) (cond (true != (!strEq a1.name (ByteArray.mk #[]))) (k0 false) (C.c42_0 ρ a1.name (fun (r20 : Bool) => cond (!r20) (k0 false) (C.l25_18_0 ρ a2 (0 : Int) (⟨a1.op, a1.name, a1.args⟩ : Rw) (fun (r21 : Bool) => k0 r21) (k0 true))))))) (k0 false)) (cond (a1.op == (7 : Int)) (cond (decide (a2 > (40 : Int))) (k0 false) (cond (((List.length a1.args : Nat) : Int) != (2 : Int)) (k0 false) (cond (true != (!strEq a1.name (ByteArray.mk #[]))) (k0 false) (C.c42_0 ρ a1.name (fun (r22 : Bool) => cond (!r22) (k0 false) (C.l25_18_0 ρ a2 (0 : Int) (⟨a1.op, a1.name, a1.args⟩ : Rw) (fun (r23 : Bool) => k0 r23) (k0 true))))))) (k0 false)))) (cond (a1.op == (6 : Int)) (cond (decide (a2 > (40 : Int))) (k0 false) (cond (((List.length a1.args : Nat) : Int) != (2 : Int)) (k0 false) (cond (false != (!strEq a1.name (ByteArray.mk #[]))) (k0 false) (C.l25_18_0 ρ a2 (0 : Int) (⟨a1.op, a1.name, a1.args⟩ : Rw) (fun (r24 : Bool) => k0 r24) (k0 true))))) (cond (a1.op == (5 : Int)) (cond (a1.op == (5 : Int)) (cond (decide (a2 > (40 : Int))) (k0 false) (cond (((List.length a1.args : Nat) : Int) != (2 : Int)) (k0 false) (cond (true != (!strEq a1.name (ByteArray.mk #[]))) (k0 false) (C.c42_0 ρ a1.name (fun (r25 : Bool) => cond (!r25) (k0 false) (C.l25_18_0 ρ a2 (0 : Int) (⟨a1.op, a1.name, a1.args⟩ : Rw) (fun (r26 : Bool) => k0 r26) (k0 true))))))) (k0 false)) (cond (a1.op == (7 : Int)) (cond (decide (a2 > (40 : Int))) (k0 false) (cond (((List.length a1.args : Nat) : Int) != (2 : Int)) (k0 false) (cond (true != (!strEq a1.name (ByteArray.mk #[]))) (k0 false) (C.c42_0 ρ a1.name (fun (r27 : Bool) => cond (!r27) (k0 false) (C.l25_18_0 ρ a2 (0 : Int) (⟨a1.op, a1.name, a1.args⟩ : Rw) (fun (r28 : Bool) => k0 r28) (k0 true))))))) (k0 false)))))))

/-- truss/trussref02.within -/
def Gc26_0 (C : Tab) (ρ : Type) (a1 : ByteArray) (a2 : Bool) (k0 : (ByteArray → Option ρ)) : Option ρ :=
  cond a2 (cond (decide ((ByteArray.mk #[40]).size + a1.size ≤ 9223372036854775807)) (cond (decide (((ByteArray.mk #[40]) ++ a1).size + (ByteArray.mk #[41]).size ≤ 9223372036854775807)) (k0 (((ByteArray.mk #[40]) ++ a1) ++ (ByteArray.mk #[41]))) (none)) (none)) (k0 a1)

/-- truss/trussref02.wide -/
def Gc27_0 (C : Tab) (ρ : Type) (a1 : Rw) (k0 : (Bool → Option ρ)) : Option ρ :=
  cond (a1.op == (6 : Int)) (k0 true) (cond (a1.op == (5 : Int)) (k0 true) (k0 (a1.op == (7 : Int))))

/-- truss/lexis.Tokens -/
def Gc28_0 (C : Tab) (ρ : Type) (a1 : ByteArray) (k0 : ((List Tok) → Int → Int → Option ρ)) : Option ρ :=
  cond (decide ((a1.size : Int) > (6000 : Int))) (k0 ([] : List Tok) (0 : Int) (5 : Int)) (C.c43_0 ρ a1 (0 : Int) (fun (r2 : ByteArray) (r3 : Int) => C.l28_6_0 ρ a1 ([] : List Tok) r2 r3 (fun (r4 : ByteArray) (r5 : List Tok) => cond (decide ((List.length r5 + List.length [(⟨(7 : Int), (ByteArray.mk #[]), (r4.size : Int)⟩ : Tok)]) * 32 ≤ 140737488355328)) (k0 ((r5 : List Tok) ++ ([(⟨(7 : Int), (ByteArray.mk #[]), (r4.size : Int)⟩ : Tok)] : List Tok)) (0 : Int) (0 : Int)) (none)) (fun (r6 : List Tok) (r7 : Int) (r8 : Int) => k0 r6 r7 r8)))

/-- (*truss/syntax.reader).expr -/
def Gc30_0 (C : Tab) (ρ : Type) (a1 : List Tok) (a2 : Int) (k0 : (Rw → (List Tok) → Int → Option ρ)) (k1 : (Int → Int → (List Tok) → Int → Option ρ)) : Option ρ :=
  C.c45_0 ρ [(ByteArray.mk #[123]), (ByteArray.mk #[91])] a1 a2 (fun (r3 : Bool) (r4 : List Tok) (r5 : Int) => cond r3 (C.c46_0 ρ r4 r5 (fun (r6 : Rw) (r7 : List Tok) (r8 : Int) => k0 (⟨r6.op, r6.name, r6.args⟩ : Rw) r7 r8) (fun (r9 : Int) (r10 : Int) (r11 : List Tok) (r12 : Int) => k1 r9 r10 r11 r12)) (C.c47_0 ρ r4 r5 (fun (r13 : Rw) (r14 : Bool) (r15 : List Tok) (r16 : Int) => cond r14 (k0 (⟨r13.op, r13.name, r13.args⟩ : Rw) r15 r16) (C.c45_0 ρ [(ByteArray.mk #[45, 62])] r15 r16 (fun (r17 : Bool) (r18 : List Tok) (r19 : Int) => cond r17 (C.c30_0 ρ r18 (IntKind.wrap .i64 (r19 + (1 : Int))) (fun (r20 : Rw) (r21 : List Tok) (r22 : Int) => k0 (⟨(6 : Int), (ByteArray.mk #[]), [(⟨r13.op, r13.name, r13.args⟩ : Rw), (⟨r20.op, r20.name, r20.args⟩ : Rw)]⟩ : Rw) r21 r22) (fun (r23 : Int) (r24 : Int) (r25 : List Tok) (r26 : Int) => k1 r23 r24 r25 r26)) (C.l30_4_0 ρ r14 r18 r19 (⟨(0 : Int), (ByteArray.mk #[]), []⟩ : Rw) (⟨r13.op, r13.name, r13.args⟩ : Rw) (fun (r27 : List Tok) (r28 : Int) (r29 : Rw) (r30 : Rw) => k0 (⟨r30.op, r30.name, r30.args⟩ : Rw) r27 r28) (fun (r31 : List Tok) (r32 : Int) (r33 : Rw) (r34 : Int) (r35 : Int) => k1 r34 r35 r31 r32))))) (fun (r36 : Int) (r37 : Int) (r38 : List Tok) (r39 : Int) => k1 r36 r37 r38 r39)))

/-- (*truss/syntax.reader).now -/
def Gc31_0 (C : Tab) (ρ : Type) (a1 : List Tok) (a2 : Int) (k0 : (Tok → (List Tok) → Int → Option ρ)) : Option ρ :=
  cond (decide ((0 : Int) ≤ a2) && decide (a2 < ((List.length a1 : Nat) : Int))) (k0 (⟨(rdEl lay Key.tok a1 a2).kind, (rdEl lay Key.tok a1 a2).text, (rdEl lay Key.tok a1 a2).at_⟩ : Tok) a1 a2) (none)

/-- (*truss/syntax.reader).fail -/
def Gc32_0 (C : Tab) (ρ : Type) (a1 : List Tok) (a2 : Int) (k0 : (Int → Int → (List Tok) → Int → Option ρ)) : Option ρ :=
  C.c31_0 ρ a1 a2 (fun (r3 : Tok) (r4 : List Tok) (r5 : Int) => k0 (r3.at_) (4 : Int) r4 r5)

/-- slices.EqualFunc[[]truss/api.Raw,[]truss/api.Raw,truss/api.Raw,truss/api.Raw] -/
def Gc33_0 (C : Tab) (ρ : Type) (a1 : List Rw) (a2 : List Rw) (k0 : (Bool → Option ρ)) : Option ρ :=
  cond (((List.length a1 : Nat) : Int) != ((List.length a2 : Nat) : Int)) (k0 false) (C.l33_4_0 ρ a2 a1 ((List.length a1 : Nat) : Int) (0 : Int) (fun (r3 : Bool) => k0 r3) (k0 true))

/-- truss/syntax.free -/
def Gc34_0 (C : Tab) (ρ : Type) (a1 : Rw) (a2 : List ByteArray) (a3 : List ByteArray) (k0 : ((List ByteArray) → Option ρ)) : Option ρ :=
  cond (a1.op == (2 : Int)) (C.c48_0 ρ a2 a1.name (fun (r4 : Bool) => cond (!r4) (C.c48_0 ρ a3 a1.name (fun (r5 : Bool) => cond (!r5) (cond (decide ((List.length a3 + List.length [a1.name]) * 16 ≤ 140737488355328)) (C.l34_8_0 ρ a2 ((a3 : List ByteArray) ++ ([a1.name] : List ByteArray)) a1.args ((List.length a1.args : Nat) : Int) (0 : Int) (fun (r6 : List ByteArray) => k0 r6)) (none)) (C.l34_8_0 ρ a2 a3 a1.args ((List.length a1.args : Nat) : Int) (0 : Int) (fun (r7 : List ByteArray) => k0 r7)))) (C.l34_8_0 ρ a2 a3 a1.args ((List.length a1.args : Nat) : Int) (0 : Int) (fun (r8 : List ByteArray) => k0 r8)))) (C.c49_0 ρ (⟨a1.op, a1.name, a1.args⟩ : Rw) (fun (r9 : Bool) => cond r9 (cond (decide ((0 : Int) ≤ (0 : Int)) && decide ((0 : Int) < ((List.length a1.args : Nat) : Int))) (C.c34_0 ρ (⟨(rdEl lay Key.raw a1.args (0 : Int)).op, (rdEl lay Key.raw a1.args (0 : Int)).name, (rdEl lay Key.raw a1.args (0 : Int)).args⟩ : Rw) a2 a3 (fun (r10 : List ByteArray) => cond (decide ((0 : Int) ≤ (1 : Int)) && decide ((1 : Int) < ((List.length a1.args : Nat) : Int))) (C.c50_0 ρ a2 (fun (r11 : List ByteArray) => cond (decide ((List.length r11 + List.length [a1.name]) * 16 ≤ 140737488355328)) (C.c34_2 ρ (⟨(rdEl lay Key.raw a1.args (1 : Int)).op, (rdEl lay Key.raw a1.args (1 : Int)).name, (rdEl lay Key.raw a1.args (1 : Int)).args⟩ : Rw) ((r11 : List ByteArray) ++ ([a1.name] : List ByteArray)) r10 (fun (r12 : List ByteArray) => k0 r12)) (none))) (none))) (none)) (C.l34_8_0 ρ a2 a3 a1.args ((List.length a1.args : Nat) : Int) (0 : Int) (fun (r13 : List ByteArray) => k0 r13))))

/-- truss/syntax.free -/
def Gc34_1 (C : Tab) (ρ : Type) (a1 : Rw) (a2 : List ByteArray) (a3 : List ByteArray) (k0 : ((List ByteArray) → Option ρ)) : Option ρ :=
  cond (a1.op == (2 : Int)) (C.c48_0 ρ a2 a1.name (fun (r4 : Bool) => cond (!r4) (C.c48_0 ρ a3 a1.name (fun (r5 : Bool) => cond (!r5) (cond (decide ((List.length a3 + List.length [a1.name]) * 16 ≤ 140737488355328)) (C.l34_8_0 ρ a2 ((a3 : List ByteArray) ++ ([a1.name] : List ByteArray)) a1.args ((List.length a1.args : Nat) : Int) (0 : Int) (fun (r6 : List ByteArray) => k0 r6)) (none)) (C.l34_8_0 ρ a2 a3 a1.args ((List.length a1.args : Nat) : Int) (0 : Int) (fun (r7 : List ByteArray) => k0 r7)))) (C.l34_8_0 ρ a2 a3 a1.args ((List.length a1.args : Nat) : Int) (0 : Int) (fun (r8 : List ByteArray) => k0 r8)))) (C.c49_0 ρ (⟨a1.op, a1.name, a1.args⟩ : Rw) (fun (r9 : Bool) => cond r9 (cond (decide ((0 : Int) ≤ (0 : Int)) && decide ((0 : Int) < ((List.length a1.args : Nat) : Int))) (C.c34_1 ρ (⟨(rdEl lay Key.raw a1.args (0 : Int)).op, (rdEl lay Key.raw a1.args (0 : Int)).name, (rdEl lay Key.raw a1.args (0 : Int)).args⟩ : Rw) a2 a3 (fun (r10 : List ByteArray) => cond (decide ((0 : Int) ≤ (1 : Int)) && decide ((1 : Int) < ((List.length a1.args : Nat) : Int))) (C.c50_0 ρ a2 (fun (r11 : List ByteArray) => cond (decide ((List.length r11 + List.length [a1.name]) * 16 ≤ 140737488355328)) (C.c34_2 ρ (⟨(rdEl lay Key.raw a1.args (1 : Int)).op, (rdEl lay Key.raw a1.args (1 : Int)).name, (rdEl lay Key.raw a1.args (1 : Int)).args⟩ : Rw) ((r11 : List ByteArray) ++ ([a1.name] : List ByteArray)) r10 (fun (r12 : List ByteArray) => k0 r12)) (none))) (none))) (none)) (C.l34_8_0 ρ a2 a3 a1.args ((List.length a1.args : Nat) : Int) (0 : Int) (fun (r13 : List ByteArray) => k0 r13))))

/-- truss/syntax.free -/
def Gc34_2 (C : Tab) (ρ : Type) (a1 : Rw) (a2 : List ByteArray) (a3 : List ByteArray) (k0 : ((List ByteArray) → Option ρ)) : Option ρ :=
  cond (a1.op == (2 : Int)) (C.c48_0 ρ a2 a1.name (fun (r4 : Bool) => cond (!r4) (C.c48_0 ρ a3 a1.name (fun (r5 : Bool) => cond (!r5) (cond (decide ((List.length a3 + List.length [a1.name]) * 16 ≤ 140737488355328)) (C.l34_8_0 ρ a2 ((a3 : List ByteArray) ++ ([a1.name] : List ByteArray)) a1.args ((List.length a1.args : Nat) : Int) (0 : Int) (fun (r6 : List ByteArray) => k0 r6)) (none)) (C.l34_8_0 ρ a2 a3 a1.args ((List.length a1.args : Nat) : Int) (0 : Int) (fun (r7 : List ByteArray) => k0 r7)))) (C.l34_8_0 ρ a2 a3 a1.args ((List.length a1.args : Nat) : Int) (0 : Int) (fun (r8 : List ByteArray) => k0 r8)))) (C.c49_0 ρ (⟨a1.op, a1.name, a1.args⟩ : Rw) (fun (r9 : Bool) => cond r9 (cond (decide ((0 : Int) ≤ (0 : Int)) && decide ((0 : Int) < ((List.length a1.args : Nat) : Int))) (C.c34_1 ρ (⟨(rdEl lay Key.raw a1.args (0 : Int)).op, (rdEl lay Key.raw a1.args (0 : Int)).name, (rdEl lay Key.raw a1.args (0 : Int)).args⟩ : Rw) a2 a3 (fun (r10 : List ByteArray) => cond (decide ((0 : Int) ≤ (1 : Int)) && decide ((1 : Int) < ((List.length a1.args : Nat) : Int))) (C.c50_0 ρ a2 (fun (r11 : List ByteArray) => cond (decide ((List.length r11 + List.length [a1.name]) * 16 ≤ 140737488355328)) (C.c34_2 ρ (⟨(rdEl lay Key.raw a1.args (1 : Int)).op, (rdEl lay Key.raw a1.args (1 : Int)).name, (rdEl lay Key.raw a1.args (1 : Int)).args⟩ : Rw) ((r11 : List ByteArray) ++ ([a1.name] : List ByteArray)) r10 (fun (r12 : List ByteArray) => k0 r12)) (none))) (none))) (none)) (C.l34_8_0 ρ a2 a3 a1.args ((List.length a1.args : Nat) : Int) (0 : Int) (fun (r13 : List ByteArray) => k0 r13))))

/-- truss/trussref02.free -/
def Gc35_0 (C : Tab) (ρ : Type) (a1 : Rw) (a2 : List ByteArray) (a3 : List ByteArray) (k0 : ((List ByteArray) → Option ρ)) (k1 : ((List ByteArray) → Option ρ)) : Option ρ :=
  cond (a1.op == (2 : Int)) (C.c51_0 ρ a2 a1.name (fun (r4 : Bool) => cond (!r4) (C.c51_0 ρ a3 a1.name (fun (r5 : Bool) => cond (!r5) (cond (decide ((List.length a3 + List.length [a1.name]) * 16 ≤ 140737488355328)) (k0 ((a3 : List ByteArray) ++ ([a1.name] : List ByteArray))) (none)) (k1 a3))) (k1 a3))) (cond (a1.op == (5 : Int)) (cond (a1.op == (5 : Int)) (cond (decide ((0 : Int) ≤ (0 : Int)) && decide ((0 : Int) < ((List.length a1.args : Nat) : Int))) (C.c35_0 ρ (⟨(rdEl lay Key.raw a1.args (0 : Int)).op, (rdEl lay Key.raw a1.args (0 : Int)).name, (rdEl lay Key.raw a1.args (0 : Int)).args⟩ : Rw) a2 a3 (fun (r6 : List ByteArray) => cond (decide ((List.length ([] : List ByteArray) + List.length a2) * 16 ≤ 140737488355328)) (cond (decide ((List.length (([] : List ByteArray) ++ (a2 : List ByteArray)) + List.length [a1.name]) * 16 ≤ 140737488355328)) (cond (decide ((0 : Int) ≤ (1 : Int)) && decide ((1 : Int) < ((List.length a1.args : Nat) : Int))) (C.c35_1 ρ (⟨(rdEl lay Key.raw a1.args (1 : Int)).op, (rdEl lay Key.raw a1.args (1 : Int)).name, (rdEl lay Key.raw a1.args (1 : Int)).args⟩ : Rw) (((([] : List ByteArray) ++ (a2 : List ByteArray)) : List ByteArray) ++ ([a1.name] : List ByteArray)) r6 (fun (r7 : List ByteArray) => k0 r7)) (none)) (none)) (none)) (fun (r8 : List ByteArray) => cond (decide ((List.length ([] : List ByteArray) + List.length a2) * 16 ≤ 140737488355328)) (cond (decide ((List.length (([] : List ByteArray) ++ (a2 : List ByteArray)) + List.length [a1.name]) * 16 ≤ 140737488355328)) (cond (decide ((0 : Int) ≤ (1 : Int)) && decide ((1 : Int) < ((List.length a1.args : Nat) : Int))) (C.c35_2 ρ (⟨(rdEl lay Key.raw a1.args (1 : Int)).op, (rdEl lay Key.raw a1.args (1 : Int)).name, (rdEl lay Key.raw a1.args (1 : Int)).args⟩ : Rw) (((([] : List ByteArray) ++ (a2 : List ByteArray)) : List ByteArray) ++ ([a1.name] : List ByteArray)) r8 (fun (r9 : List ByteArray) => k0 r9) (fun (r10 : List ByteArray) => k1 r10)) (none)) (none)) (none))) (none)) (C.l35_14_0 ρ a2 a3 (0 : Int) (⟨a1.op, a1.name, a1.args⟩ : Rw) (fun (r11 : List ByteArray) => k0 r11))) (cond (a1.op == (7 : Int)) (cond (decide ((0 : Int) ≤ (0 : Int)) && decide ((0 : Int) < ((List.length a1.args : Nat) : Int))) (C.c35_0 ρ (⟨(rdEl lay Key.raw a1.args (0 : Int)).op, (rdEl lay Key.raw a1.args (0 : Int)).name, (rdEl lay Key.raw a1.args (0 : Int)).args⟩ : Rw) a2 a3 (fun (r12 : List ByteArray) => cond (decide ((List.length ([] : List ByteArray) + List.length a2) * 16 ≤ 140737488355328)) (cond (decide ((List.length (([] : List ByteArray) ++ (a2 : List ByteArray)) + List.length [a1.name]) * 16 ≤ 140737488355328)) (cond (decide ((0 : Int) ≤ (1 : Int)) && decide ((1 : Int) < ((List.length a1.args : Nat) : Int))) (C.c35_1 ρ (⟨(rdEl lay Key.raw a1.args (1 : Int)).op, (rdEl lay Key.raw a1.args (1 : Int)).name, (rdEl lay Key.raw a1.args (1 : Int)).args⟩ : Rw) (((([] : List ByteArray) ++ (a2 : List ByteArray)) : List ByteArray) ++ ([a1.name] : List ByteArray)) r12 (fun (r13 : List ByteArray) => k0 r13)) (none)) (none)) (none)) (fun (r14 : List ByteArray) => cond (decide ((List.length ([] : List ByteArray) + List.length a2) * 16 ≤ 140737488355328)) (cond (decide ((List.length (([] : List ByteArray) ++ (a2 : List ByteArray)) + List.length [a1.name]) * 16 ≤ 140737488355328)) (cond (decide ((0 : Int) ≤ (1 : Int)) && decide ((1 : Int) < ((List.length a1.args : Nat) : Int))) (C.c35_2 ρ (⟨(rdEl lay Key.raw a1.args (1 : Int)).op, (rdEl lay Key.raw a1.args (1 : Int)).name, (rdEl lay Key.raw a1.args (1 : Int)).args⟩ : Rw) (((([] : List ByteArray) ++ (a2 : List ByteArray)) : List ByteArray) ++ ([a1.name] : List ByteArray)) r14 (fun (r15 : List ByteArray) => k0 r15) (fun (r16 : List ByteArray) => k1 r16)) (none)) (none)) (none))) (none)) (C.l35_14_0 ρ a2 a3 (0 : Int) (⟨a1.op, a1.name, a1.args⟩ : Rw) (fun (r17 : List ByteArray) => k0 r17))))

/-- truss/trussref02.free -/
def Gc35_1 (C : Tab) (ρ : Type) (a1 : Rw) (a2 : List ByteArray) (a3 : List ByteArray) (k0 : ((List ByteArray) → Option ρ)) : Option ρ :=
  cond (a1.op == (2 : Int)) (C.c51_0 ρ a2 a1.name (fun (r4 : Bool) => cond (!r4) (C.c51_0 ρ a3 a1.name (fun (r5 : Bool) => cond (!r5) (cond (decide ((List.length a3 + List.length [a1.name]) * 16 ≤ 140737488355328)) (k0 ((a3 : List ByteArray) ++ ([a1.name] : List ByteArray))) (none)) (k0 a3))) (k0 a3))) (cond (a1.op == (5 : Int)) (cond (a1.op == (5 : Int)) (cond (decide ((0 : Int) ≤ (0 : Int)) && decide ((0 : Int) < ((List.length a1.args : Nat) : Int))) (C.c35_1 ρ (⟨(rdEl lay Key.raw a1.args (0 : Int)).op, (rdEl lay Key.raw a1.args (0 : Int)).name, (rdEl lay Key.raw a1.args (0 : Int)).args⟩ : Rw) a2 a3 (fun (r6 : List ByteArray) => cond (decide ((List.length ([] : List ByteArray) + List.length a2) * 16 ≤ 140737488355328)) (cond (decide ((List.length (([] : List ByteArray) ++ (a2 : List ByteArray)) + List.length [a1.name]) * 16 ≤ 140737488355328)) (cond (decide ((0 : Int) ≤ (1 : Int)) && decide ((1 : Int) < ((List.length a1.args : Nat) : Int))) (C.c35_1 ρ (⟨(rdEl lay Key.raw a1.args (1 : Int)).op, (rdEl lay Key.raw a1.args (1 : Int)).name, (rdEl lay Key.raw a1.args (1 : Int)).args⟩ : Rw) (((([] : List ByteArray) ++ (a2 : List ByteArray)) : List ByteArray) ++ ([a1.name] : List ByteArray)) r6 (fun (r7 : List ByteArray) => k0 r7)) (none)) (none)) (none))) (none)) (C.l35_14_0 ρ a2 a3 (0 : Int) (⟨a1.op, a1.name, a1.args⟩ : Rw) (fun (r8 : List ByteArray) => k0 r8))) (cond (a1.op == (7 : Int)) (cond (decide ((0 : Int) ≤ (0 : Int)) && decide ((0 : Int) < ((List.length a1.args : Nat) : Int))) (C.c35_1 ρ (⟨(rdEl lay Key.raw a1.args (0 : Int)).op, (rdEl lay Key.raw a1.args (0 : Int)).name, (rdEl lay Key.raw a1.args (0 : Int)).args⟩ : Rw) a2 a3 (fun (r9 : List ByteArray) => cond (decide ((List.length ([] : List ByteArray) + List.length a2) * 16 ≤ 140737488355328)) (cond (decide ((List.length (([] : List ByteArray) ++ (a2 : List ByteArray)) + List.length [a1.name]) * 16 ≤ 140737488355328)) (cond (decide ((0 : Int) ≤ (1 : Int)) && decide ((1 : Int) < ((List.length a1.args : Nat) : Int))) (C.c35_1 ρ (⟨(rdEl lay Key.raw a1.args (1 : Int)).op, (rdEl lay Key.raw a1.args (1 : Int)).name, (rdEl lay Key.raw a1.args (1 : Int)).args⟩ : Rw) (((([] : List ByteArray) ++ (a2 : List ByteArray)) : List ByteArray) ++ ([a1.name] : List ByteArray)) r9 (fun (r10 : List ByteArray) => k0 r10)) (none)) (none)) (none))) (none)) (C.l35_14_0 ρ a2 a3 (0 : Int) (⟨a1.op, a1.name, a1.args⟩ : Rw) (fun (r11 : List ByteArray) => k0 r11))))

/-- truss/trussref02.free -/
def Gc35_2 (C : Tab) (ρ : Type) (a1 : Rw) (a2 : List ByteArray) (a3 : List ByteArray) (k0 : ((List ByteArray) → Option ρ)) (k1 : ((List ByteArray) → Option ρ)) : Option ρ :=
  cond (a1.op == (2 : Int)) (C.c51_0 ρ a2 a1.name (fun (r4 : Bool) => cond (!r4) (C.c51_0 ρ a3 a1.name (fun (r5 : Bool) => cond (!r5) (cond (decide ((List.length a3 + List.length [a1.name]) * 16 ≤ 140737488355328)) (k0 ((a3 : List ByteArray) ++ ([a1.name] : List ByteArray))) (none)) (k1 a3))) (k1 a3))) (cond (a1.op == (5 : Int)) (cond (a1.op == (5 : Int)) (cond (decide ((0 : Int) ≤ (0 : Int)) && decide ((0 : Int) < ((List.length a1.args : Nat) : Int))) (C.c35_2 ρ (⟨(rdEl lay Key.raw a1.args (0 : Int)).op, (rdEl lay Key.raw a1.args (0 : Int)).name, (rdEl lay Key.raw a1.args (0 : Int)).args⟩ : Rw) a2 a3 (fun (r6 : List ByteArray) => cond (decide ((List.length ([] : List ByteArray) + List.length a2) * 16 ≤ 140737488355328)) (cond (decide ((List.length (([] : List ByteArray) ++ (a2 : List ByteArray)) + List.length [a1.name]) * 16 ≤ 140737488355328)) (cond (decide ((0 : Int) ≤ (1 : Int)) && decide ((1 : Int) < ((List.length a1.args : Nat) : Int))) (C.c35_1 ρ (⟨(rdEl lay Key.raw a1.args (1 : Int)).op, (rdEl lay Key.raw a1.args (1 : Int)).name, (rdEl lay Key.raw a1.args (1 : Int)).args⟩ : Rw) (((([] : List ByteArray) ++ (a2 : List ByteArray)) : List ByteArray) ++ ([a1.name] : List ByteArray)) r6 (fun (r7 : List ByteArray) => k0 r7)) (none)) (none)) (none)) (fun (r8 : List ByteArray) => cond (decide ((List.length ([] : List ByteArray) + List.length a2) * 16 ≤ 140737488355328)) (cond (decide ((List.length (([] : List ByteArray) ++ (a2 : List ByteArray)) + List.length [a1.name]) * 16 ≤ 140737488355328)) (cond (decide ((0 : Int) ≤ (1 : Int)) && decide ((1 : Int) < ((List.length a1.args : Nat) : Int))) (C.c35_2 ρ (⟨(rdEl lay Key.raw a1.args (1 : Int)).op, (rdEl lay Key.raw a1.args (1 : Int)).name, (rdEl lay Key.raw a1.args (1 : Int)).args⟩ : Rw) (((([] : List ByteArray) ++ (a2 : List ByteArray)) : List ByteArray) ++ ([a1.name] : List ByteArray)) r8 (fun (r9 : List ByteArray) => k0 r9) (fun (r10 : List ByteArray) => k1 r10)) (none)) (none)) (none))) (none)) (C.l35_14_0 ρ a2 a3 (0 : Int) (⟨a1.op, a1.name, a1.args⟩ : Rw) (fun (r11 : List ByteArray) => k0 r11))) (cond (a1.op == (7 : Int)) (cond (decide ((0 : Int) ≤ (0 : Int)) && decide ((0 : Int) < ((List.length a1.args : Nat) : Int))) (C.c35_2 ρ (⟨(rdEl lay Key.raw a1.args (0 : Int)).op, (rdEl lay Key.raw a1.args (0 : Int)).name, (rdEl lay Key.raw a1.args (0 : Int)).args⟩ : Rw) a2 a3 (fun (r12 : List ByteArray) => cond (decide ((List.length ([] : List ByteArray) + List.length a2) * 16 ≤ 140737488355328)) (cond (decide ((List.length (([] : List ByteArray) ++ (a2 : List ByteArray)) + List.length [a1.name]) * 16 ≤ 140737488355328)) (cond (decide ((0 : Int) ≤ (1 : Int)) && decide ((1 : Int) < ((List.length a1.args : Nat) : Int))) (C.c35_1 ρ (⟨(rdEl lay Key.raw a1.args (1 : Int)).op, (rdEl lay Key.raw a1.args (1 : Int)).name, (rdEl lay Key.raw a1.args (1 : Int)).args⟩ : Rw) (((([] : List ByteArray) ++ (a2 : List ByteArray)) : List ByteArray) ++ ([a1.name] : List ByteArray)) r12 (fun (r13 : List ByteArray) => k0 r13)) (none)) (none)) (none)) (fun (r14 : List ByteArray) => cond (decide ((List.length ([] : List ByteArray) + List.length a2) * 16 ≤ 140737488355328)) (cond (decide ((List.length (([] : List ByteArray) ++ (a2 : List ByteArray)) + List.length [a1.name]) * 16 ≤ 140737488355328)) (cond (decide ((0 : Int) ≤ (1 : Int)) && decide ((1 : Int) < ((List.length a1.args : Nat) : Int))) (C.c35_2 ρ (⟨(rdEl lay Key.raw a1.args (1 : Int)).op, (rdEl lay Key.raw a1.args (1 : Int)).name, (rdEl lay Key.raw a1.args (1 : Int)).args⟩ : Rw) (((([] : List ByteArray) ++ (a2 : List ByteArray)) : List ByteArray) ++ ([a1.name] : List ByteArray)) r14 (fun (r15 : List ByteArray) => k0 r15) (fun (r16 : List ByteArray) => k1 r16)) (none)) (none)) (none))) (none)) (C.l35_14_0 ρ a2 a3 (0 : Int) (⟨a1.op, a1.name, a1.args⟩ : Rw) (fun (r17 : List ByteArray) => k0 r17))))

/-- truss/syntax.named -/
def Gc40_0 (C : Tab) (ρ : Type) (a1 : ByteArray) (k0 : (Bool → Option ρ)) : Option ρ :=
  C.c57_0 ρ a1 (fun (r2 : Bool) => cond r2 (k0 true) (C.c54_0 ρ a1 (fun (r3 : Bool) => cond r3 (k0 (!strEq a1 (ByteArray.mk #[116, 121, 112, 101]))) (k0 false))))

/-- slices.Contains[[]int,int] -/
def Gc41_0 (C : Tab) (ρ : Type) (a1 : List Int) (a2 : Int) (k0 : (Bool → Option ρ)) : Option ρ :=
  C.c58_0 ρ a1 a2 (fun (r3 : Int) => k0 (decide (r3 ≥ (0 : Int))))

/-- truss/trussref02.IsName -/
def Gc42_0 (C : Tab) (ρ : Type) (a1 : ByteArray) (k0 : (Bool → Option ρ)) : Option ρ :=
  C.c59_0 ρ a1 (fun (r2 : Bool) => cond r2 (k0 (!strEq a1 (ByteArray.mk #[116, 121, 112, 101]))) (k0 false))

/-- (*truss/lexis.scanner).space -/
def Gc43_0 (C : Tab) (ρ : Type) (a1 : ByteArray) (a2 : Int) (k0 : (ByteArray → Int → Option ρ)) : Option ρ :=
  C.l43_0_0 ρ a1 a2 (fun (r3 : ByteArray) (r4 : Int) => k0 r3 r4)

/-- truss/lexis.rules -/
def Gc44_0 (C : Tab) (ρ : Type) (a1 : Int) (k0 : (Int → Option ρ)) (k1 : (Int → Option ρ)) (k2 : (Int → Option ρ)) (k3 : (Int → Option ρ)) (k4 : (Int → Option ρ)) (k5 : Option ρ) (k6 : (Int → Option ρ)) (k7 : (Int → Option ρ)) : Option ρ :=
  C.c63_0 ρ a1 (fun (r2 : Bool) => cond r2 (k0 a1) (C.c66_0 ρ a1 (fun (r3 : Bool) => cond r3 (k1 a1) (C.c68_0 ρ a1 (fun (r4 : Bool) => cond r4 (k2 a1) (cond (a1 == (95 : Int)) (k3 a1) (cond (a1 == (37 : Int)) (k4 a1) (cond (a1 == (45 : Int)) (k5) (cond (a1 == (60 : Int)) (k6 a1) (k7 a1))))))))))

/-- (*truss/syntax.reader).sees -/
def Gc45_0 (C : Tab) (ρ : Type) (a1 : List ByteArray) (a2 : List Tok) (a3 : Int) (k0 : (Bool → (List Tok) → Int → Option ρ)) : Option ρ :=
  C.c31_0 ρ a2 a3 (fun (r4 : Tok) (r5 : List Tok) (r6 : Int) => cond (r4.kind == (4 : Int)) (C.c48_0 ρ a1 r4.text (fun (r7 : Bool) => k0 r7 r5 r6)) (k0 false r5 r6))

/-- (*truss/syntax.reader).binder -/
def Gc46_0 (C : Tab) (ρ : Type) (a1 : List Tok) (a2 : Int) (k0 : (Rw → (List Tok) → Int → Option ρ)) (k1 : (Int → Int → (List Tok) → Int → Option ρ)) : Option ρ :=
  C.c45_0 ρ [(ByteArray.mk #[91])] a1 a2 (fun (r3 : Bool) (r4 : List Tok) (r5 : Int) => cond r3 (C.c76_0 ρ r4 (IntKind.wrap .i64 (r5 + (1 : Int))) (fun (r6 : ByteArray) (r7 : List Tok) (r8 : Int) => C.c45_0 ρ [(ByteArray.mk #[58])] r7 r8 (fun (r9 : Bool) (r10 : List Tok) (r11 : Int) => cond r9 (C.c30_0 ρ r10 (IntKind.wrap .i64 (r11 + (1 : Int))) (fun (r12 : Rw) (r13 : List Tok) (r14 : Int) => C.c77_0 ρ (ByteArray.mk #[93]) r13 r14 (fun (r15 : List Tok) (r16 : Int) => C.c30_0 ρ r15 r16 (fun (r17 : Rw) (r18 : List Tok) (r19 : Int) => k0 (⟨(7 : Int), r6, [(⟨r12.op, r12.name, r12.args⟩ : Rw), (⟨r17.op, r17.name, r17.args⟩ : Rw)]⟩ : Rw) r18 r19) (fun (r20 : Int) (r21 : Int) (r22 : List Tok) (r23 : Int) => k1 r20 r21 r22 r23)) (fun (r24 : Int) (r25 : Int) (r26 : List Tok) (r27 : Int) => k1 r24 r25 r26 r27)) (fun (r28 : Int) (r29 : Int) (r30 : List Tok) (r31 : Int) => k1 r28 r29 r30 r31)) (C.c77_0 ρ (ByteArray.mk #[93]) r10 r11 (fun (r32 : List Tok) (r33 : Int) => C.c30_0 ρ r32 r33 (fun (r34 : Rw) (r35 : List Tok) (r36 : Int) => k0 (⟨(7 : Int), r6, [(⟨(3 : Int), (ByteArray.mk #[]), []⟩ : Rw), (⟨r34.op, r34.name, r34.args⟩ : Rw)]⟩ : Rw) r35 r36) (fun (r37 : Int) (r38 : Int) (r39 : List Tok) (r40 : Int) => k1 r37 r38 r39 r40)) (fun (r41 : Int) (r42 : Int) (r43 : List Tok) (r44 : Int) => k1 r41 r42 r43 r44)))) (fun (r45 : Int) (r46 : Int) (r47 : List Tok) (r48 : Int) => k1 r45 r46 r47 r48)) (C.c76_0 ρ r4 (IntKind.wrap .i64 (r5 + (1 : Int))) (fun (r49 : ByteArray) (r50 : List Tok) (r51 : Int) => C.c45_0 ρ [(ByteArray.mk #[58])] r50 r51 (fun (r52 : Bool) (r53 : List Tok) (r54 : Int) => cond r52 (C.c30_0 ρ r53 (IntKind.wrap .i64 (r54 + (1 : Int))) (fun (r55 : Rw) (r56 : List Tok) (r57 : Int) => C.c77_0 ρ (ByteArray.mk #[125]) r56 r57 (fun (r58 : List Tok) (r59 : Int) => C.c30_0 ρ r58 r59 (fun (r60 : Rw) (r61 : List Tok) (r62 : Int) => k0 (⟨(5 : Int), r49, [(⟨r55.op, r55.name, r55.args⟩ : Rw), (⟨r60.op, r60.name, r60.args⟩ : Rw)]⟩ : Rw) r61 r62) (fun (r63 : Int) (r64 : Int) (r65 : List Tok) (r66 : Int) => k1 r63 r64 r65 r66)) (fun (r67 : Int) (r68 : Int) (r69 : List Tok) (r70 : Int) => k1 r67 r68 r69 r70)) (fun (r71 : Int) (r72 : Int) (r73 : List Tok) (r74 : Int) => k1 r71 r72 r73 r74)) (C.c77_0 ρ (ByteArray.mk #[125]) r53 r54 (fun (r75 : List Tok) (r76 : Int) => C.c30_0 ρ r75 r76 (fun (r77 : Rw) (r78 : List Tok) (r79 : Int) => k0 (⟨(5 : Int), r49, [(⟨(3 : Int), (ByteArray.mk #[]), []⟩ : Rw), (⟨r77.op, r77.name, r77.args⟩ : Rw)]⟩ : Rw) r78 r79) (fun (r80 : Int) (r81 : Int) (r82 : List Tok) (r83 : Int) => k1 r80 r81 r82 r83)) (fun (r84 : Int) (r85 : Int) (r86 : List Tok) (r87 : Int) => k1 r84 r85 r86 r87)))) (fun (r88 : Int) (r89 : Int) (r90 : List Tok) (r91 : Int) => k1 r88 r89 r90 r91)))

/-- (*truss/syntax.reader).app -/
def Gc47_0 (C : Tab) (ρ : Type) (a1 : List Tok) (a2 : Int) (k0 : (Rw → Bool → (List Tok) → Int → Option ρ)) (k1 : (Int → Int → (List Tok) → Int → Option ρ)) : Option ρ :=
  C.c78_0 ρ a1 a2 (fun (r3 : Rw) (r4 : List Tok) (r5 : Int) => C.l47_2_0 ρ r4 r5 (⟨(0 : Int), (ByteArray.mk #[]), []⟩ : Rw) (⟨r3.op, r3.name, r3.args⟩ : Rw) (fun (r6 : List Tok) (r7 : Int) (r8 : Rw) (r9 : Rw) => C.c45_0 ρ [(ByteArray.mk #[123]), (ByteArray.mk #[91])] r6 r7 (fun (r10 : Bool) (r11 : List Tok) (r12 : Int) => cond r10 (C.c46_0 ρ r11 r12 (fun (r13 : Rw) (r14 : List Tok) (r15 : Int) => k0 (⟨(4 : Int), (ByteArray.mk #[]), [(⟨r9.op, r9.name, r9.args⟩ : Rw), (⟨r13.op, r13.name, r13.args⟩ : Rw)]⟩ : Rw) true r14 r15) (fun (r16 : Int) (r17 : Int) (r18 : List Tok) (r19 : Int) => k1 r16 r17 r18 r19)) (k0 (⟨r9.op, r9.name, r9.args⟩ : Rw) false r11 r12))) (fun (r20 : List Tok) (r21 : Int) (r22 : Rw) (r23 : Int) (r24 : Int) => k1 r23 r24 r20 r21)) (fun (r25 : Int) (r26 : Int) (r27 : List Tok) (r28 : Int) => k1 r25 r26 r27 r28)

/-- slices.Contains[[]string,string] -/
def Gc48_0 (C : Tab) (ρ : Type) (a1 : List ByteArray) (a2 : ByteArray) (k0 : (Bool → Option ρ)) : Option ρ :=
  C.c80_0 ρ a1 a2 (fun (r3 : Int) => k0 (decide (r3 ≥ (0 : Int))))

/-- truss/syntax.binds -/
def Gc49_0 (C : Tab) (ρ : Type) (a1 : Rw) (k0 : (Bool → Option ρ)) : Option ρ :=
  cond (a1.op == (5 : Int)) (k0 true) (k0 (a1.op == (7 : Int)))

/-- slices.Clone[[]string,string] -/
def Gc50_0 (C : Tab) (ρ : Type) (a1 : List ByteArray) (k0 : ((List ByteArray) → Option ρ)) : Option ρ :=
  toldClone a1 k0

/-- truss/trussref02.has -/
def Gc51_0 (C : Tab) (ρ : Type) (a1 : List ByteArray) (a2 : ByteArray) (k0 : (Bool → Option ρ)) : Option ρ :=
  C.l51_2_0 ρ a2 a1 ((List.length a1 : Nat) : Int) (0 : Int) (fun (r3 : Bool) => k0 r3) (k0 false)

/-- truss/lexis.IsSmall -/
def Gc54_0 (C : Tab) (ρ : Type) (a1 : ByteArray) (k0 : (Bool → Option ρ)) : Option ρ :=
  C.c82_0 ρ a1 (fun (r2 : Bool) => k0 r2)

/-- truss/lexis.IsCapital -/
def Gc57_0 (C : Tab) (ρ : Type) (a1 : ByteArray) (k0 : (Bool → Option ρ)) : Option ρ :=
  C.c82_1 ρ a1 (fun (r2 : Bool) => k0 r2)

/-- slices.Index[[]int,int] -/
def Gc58_0 (C : Tab) (ρ : Type) (a1 : List Int) (a2 : Int) (k0 : (Int → Option ρ)) : Option ρ :=
  C.l58_2_0 ρ a1 a2 ((List.length a1 : Nat) : Int) (0 : Int) (fun (r3 : Int) => k0 r3) (k0 (-1 : Int))

/-- truss/trussref01.IsName -/
def Gc59_0 (C : Tab) (ρ : Type) (a1 : ByteArray) (k0 : (Bool → Option ρ)) : Option ρ :=
  cond (decide ((a1.size : Int) ≥ (1 : Int))) (cond (decide ((a1.size : Int) ≤ (16 : Int))) (cond (decide ((0 : Int) ≤ (0 : Int)) && decide ((0 : Int) < (a1.size : Int))) (C.c83_0 ρ (bt a1 (0 : Int)) (fun (r2 : Bool) => cond r2 (C.c84_0 ρ a1 (0 : Int) (fun (r3 : Int) => k0 (r3 == (a1.size : Int)))) (k0 false))) (none)) (k0 false)) (k0 false)

/-- (*truss/lexis.scanner).peek -/
def Gc60_0 (C : Tab) (ρ : Type) (a1 : Int) (a2 : ByteArray) (a3 : Int) (k0 : (Int → ByteArray → Int → Option ρ)) : Option ρ :=
  cond (decide ((IntKind.wrap .i64 (a3 + a1)) ≥ (a2.size : Int))) (k0 (0 : Int) a2 a3) (cond (decide ((0 : Int) ≤ (IntKind.wrap .i64 (a3 + a1))) && decide ((IntKind.wrap .i64 (a3 + a1)) < (a2.size : Int))) (k0 (bt a2 (IntKind.wrap .i64 (a3 + a1))) a2 a3) (none))

/-- strings.IndexByte -/
def Gc61_0 (C : Tab) (ρ : Type) (a1 : ByteArray) (a2 : Int) (k0 : (Int → Option ρ)) : Option ρ :=
  toldIndexByte a1 a2 k0

/-- truss/lexis.rules$1 -/
def Gc62_0 (C : Tab) (ρ : Type) (a1 : Int) (a2 : ByteArray) (a3 : Bool) (k0 : (Int → ByteArray → Option ρ)) : Option ρ :=
  cond (!a3) (k0 (0 : Int) (ByteArray.mk #[])) (k0 a1 a2)

/-- truss/lexis.small -/
def Gc63_0 (C : Tab) (ρ : Type) (a1 : Int) (k0 : (Bool → Option ρ)) : Option ρ :=
  cond (decide (a1 ≥ (97 : Int))) (k0 (decide (a1 ≤ (122 : Int)))) (k0 false)

/-- truss/lexis.rules$2 -/
def Gc64_0 (C : Tab) (ρ : Type) (a1 : ByteArray) (a2 : Int) (k0 : (Int → ByteArray → ByteArray → Int → Option ρ)) : Option ρ :=
  C.c65_0 ρ (0 : Int) a1 a2 (fun (r3 : ByteArray) (r4 : ByteArray) (r5 : Int) => C.c65_0 ρ (0 : Int) r4 r5 (fun (r6 : ByteArray) (r7 : ByteArray) (r8 : Int) => C.c54_0 ρ r6 (fun (r9 : Bool) => C.c62_0 ρ (1 : Int) r3 r9 (fun (r10 : Int) (r11 : ByteArray) => k0 r10 r11 r7 r8))))

/-- (*truss/lexis.scanner).word -/
def Gc65_0 (C : Tab) (ρ : Type) (a1 : Int) (a2 : ByteArray) (a3 : Int) (k0 : (ByteArray → ByteArray → Int → Option ρ)) : Option ρ :=
  C.l65_2_0 ρ a1 (IntKind.wrap .i64 (a3 + a1)) a2 a3 (fun (r4 : Int) (r5 : Int) (r6 : ByteArray) (r7 : Int) => cond (decide ((0 : Int) ≤ (IntKind.wrap .i64 (r7 + r4))) && (decide ((IntKind.wrap .i64 (r7 + r4)) ≤ r5) && decide (r5 ≤ (r6.size : Int)))) (k0 (ByteArray.extract r6 (Int.toNat (IntKind.wrap .i64 (r7 + r4))) (Int.toNat r5)) r6 r7) (none))

/-- truss/lexis.capital -/
def Gc66_0 (C : Tab) (ρ : Type) (a1 : Int) (k0 : (Bool → Option ρ)) : Option ρ :=
  cond (decide (a1 ≥ (65 : Int))) (k0 (decide (a1 ≤ (90 : Int)))) (k0 false)

/-- truss/lexis.rules$3 -/
def Gc67_0 (C : Tab) (ρ : Type) (a1 : ByteArray) (a2 : Int) (k0 : (Int → ByteArray → ByteArray → Int → Option ρ)) : Option ρ :=
  C.c65_0 ρ (0 : Int) a1 a2 (fun (r3 : ByteArray) (r4 : ByteArray) (r5 : Int) => C.c65_0 ρ (0 : Int) r4 r5 (fun (r6 : ByteArray) (r7 : ByteArray) (r8 : Int) => C.c57_0 ρ r6 (fun (r9 : Bool) => C.c62_0 ρ (2 : Int) r3 r9 (fun (r10 : Int) (r11 : ByteArray) => k0 r10 r11 r7 r8))))

/-- truss/lexis.digit -/
def Gc68_0 (C : Tab) (ρ : Type) (a1 : Int) (k0 : (Bool → Option ρ)) : Option ρ :=
  cond (decide (a1 ≥ (48 : Int))) (k0 (decide (a1 ≤ (57 : Int)))) (k0 false)

/-- truss/lexis.rules$4 -/
def Gc69_0 (C : Tab) (ρ : Type) (a1 : ByteArray) (a2 : Int) (k0 : (Int → ByteArray → ByteArray → Int → Option ρ)) : Option ρ :=
  C.c65_0 ρ (0 : Int) a1 a2 (fun (r3 : ByteArray) (r4 : ByteArray) (r5 : Int) => C.c65_0 ρ (0 : Int) r4 r5 (fun (r6 : ByteArray) (r7 : ByteArray) (r8 : Int) => C.c70_0 ρ r6 (fun (r9 : Bool) => C.c62_0 ρ (6 : Int) r3 r9 (fun (r10 : Int) (r11 : ByteArray) => k0 r10 r11 r7 r8))))

/-- truss/lexis.number -/
def Gc70_0 (C : Tab) (ρ : Type) (a1 : ByteArray) (k0 : (Bool → Option ρ)) : Option ρ :=
  C.c87_0 ρ a1 (fun (r2 : Int) => cond (decide (r2 ≥ (0 : Int))) (cond (decide (r2 ≤ (10000 : Int))) (C.c88_0 ρ r2 (fun (r3 : ByteArray) => k0 (strEq r3 a1))) (k0 false)) (k0 false)) (fun (r4 : Int) => k0 false)

/-- truss/lexis.rules$5 -/
def Gc71_0 (C : Tab) (ρ : Type) (a1 : ByteArray) (a2 : Int) (k0 : (Int → ByteArray → ByteArray → Int → Option ρ)) : Option ρ :=
  C.c65_0 ρ (0 : Int) a1 a2 (fun (r3 : ByteArray) (r4 : ByteArray) (r5 : Int) => C.c62_0 ρ (3 : Int) (ByteArray.mk #[95]) (strEq r3 (ByteArray.mk #[95])) (fun (r6 : Int) (r7 : ByteArray) => k0 r6 r7 r4 r5))

/-- truss/lexis.rules$6 -/
def Gc72_0 (C : Tab) (ρ : Type) (a1 : ByteArray) (a2 : Int) (k0 : (Int → ByteArray → ByteArray → Int → Option ρ)) : Option ρ :=
  C.c65_0 ρ (1 : Int) a1 a2 (fun (r3 : ByteArray) (r4 : ByteArray) (r5 : Int) => cond (decide ((ByteArray.mk #[37]).size + r3.size ≤ 9223372036854775807)) (C.c65_0 ρ (1 : Int) r4 r5 (fun (r6 : ByteArray) (r7 : ByteArray) (r8 : Int) => C.c54_0 ρ r6 (fun (r9 : Bool) => C.c62_0 ρ (5 : Int) ((ByteArray.mk #[37]) ++ r3) r9 (fun (r10 : Int) (r11 : ByteArray) => k0 r10 r11 r7 r8)))) (none))

/-- truss/lexis.rules$7 -/
def Gc73_0 (C : Tab) (ρ : Type) (a1 : ByteArray) (a2 : Int) (k0 : (Int → ByteArray → ByteArray → Int → Option ρ)) : Option ρ :=
  C.c60_0 ρ (1 : Int) a1 a2 (fun (r3 : Int) (r4 : ByteArray) (r5 : Int) => cond (r3 == (62 : Int)) (k0 (4 : Int) (ByteArray.mk #[45, 62]) r4 r5) (k0 (4 : Int) (ByteArray.mk #[45]) r4 r5))

/-- truss/lexis.rules$8 -/
def Gc74_0 (C : Tab) (ρ : Type) (a1 : ByteArray) (a2 : Int) (k0 : (Int → ByteArray → ByteArray → Int → Option ρ)) : Option ρ :=
  C.c60_0 ρ (1 : Int) a1 a2 (fun (r3 : Int) (r4 : ByteArray) (r5 : Int) => C.c62_0 ρ (4 : Int) (ByteArray.mk #[60, 45]) (r3 == (45 : Int)) (fun (r6 : Int) (r7 : ByteArray) => k0 r6 r7 r4 r5))

/-- truss/lexis.rules$9 -/
def Gc75_0 (C : Tab) (ρ : Type) (a1 : ByteArray) (a2 : Int) (a3 : Int) (k0 : (Int → ByteArray → ByteArray → Int → Int → Option ρ)) : Option ρ :=
  C.c61_0 ρ (ByteArray.mk #[58, 46, 123, 125, 91, 93, 40, 41, 43, 42, 124, 61]) a3 (fun (r4 : Int) => C.c62_0 ρ (4 : Int) (Utf8.encode (IntKind.wrap .i32 a3)) (decide (r4 ≥ (0 : Int))) (fun (r5 : Int) (r6 : ByteArray) => k0 r5 r6 a1 a2 a3))

/-- (*truss/syntax.reader).name -/
def Gc76_0 (C : Tab) (ρ : Type) (a1 : List Tok) (a2 : Int) (k0 : (ByteArray → (List Tok) → Int → Option ρ)) (k1 : (Int → Int → (List Tok) → Int → Option ρ)) : Option ρ :=
  C.c31_0 ρ a1 a2 (fun (r3 : Tok) (r4 : List Tok) (r5 : Int) => C.c89_0 ρ (⟨r3.kind, r3.text, r3.at_⟩ : Tok) (fun (r6 : Bool) => cond (!r6) (C.c32_0 ρ r4 r5 (fun (r7 : Int) (r8 : Int) (r9 : List Tok) (r10 : Int) => k1 r7 r8 r9 r10)) (C.c90_0 ρ r4 r5 (fun (r11 : Tok) (r12 : List Tok) (r13 : Int) => k0 r11.text r12 r13))))

/-- (*truss/syntax.reader).need -/
def Gc77_0 (C : Tab) (ρ : Type) (a1 : ByteArray) (a2 : List Tok) (a3 : Int) (k0 : ((List Tok) → Int → Option ρ)) (k1 : (Int → Int → (List Tok) → Int → Option ρ)) : Option ρ :=
  C.c45_0 ρ [a1] a2 a3 (fun (r4 : Bool) (r5 : List Tok) (r6 : Int) => cond (!r4) (C.c32_0 ρ r5 r6 (fun (r7 : Int) (r8 : Int) (r9 : List Tok) (r10 : Int) => k1 r7 r8 r9 r10)) (k0 r5 (IntKind.wrap .i64 (r6 + (1 : Int)))))

/-- (*truss/syntax.reader).atom -/
def Gc78_0 (C : Tab) (ρ : Type) (a1 : List Tok) (a2 : Int) (k0 : (Rw → (List Tok) → Int → Option ρ)) (k1 : (Int → Int → (List Tok) → Int → Option ρ)) : Option ρ :=
  C.c31_0 ρ a1 a2 (fun (r3 : Tok) (r4 : List Tok) (r5 : Int) => C.c79_0 ρ r4 r5 (fun (r6 : Bool) (r7 : List Tok) (r8 : Int) => cond (!r6) (C.c32_0 ρ r7 r8 (fun (r9 : Int) (r10 : Int) (r11 : List Tok) (r12 : Int) => k1 r9 r10 r11 r12)) (C.c45_0 ρ [(ByteArray.mk #[40])] r7 r8 (fun (r13 : Bool) (r14 : List Tok) (r15 : Int) => cond r13 (C.c30_0 ρ r14 (IntKind.wrap .i64 (r15 + (1 : Int))) (fun (r16 : Rw) (r17 : List Tok) (r18 : Int) => C.c77_0 ρ (ByteArray.mk #[41]) r17 r18 (fun (r19 : List Tok) (r20 : Int) => k0 (⟨r16.op, r16.name, r16.args⟩ : Rw) r19 r20) (fun (r21 : Int) (r22 : Int) (r23 : List Tok) (r24 : Int) => k1 r21 r22 r23 r24)) (fun (r25 : Int) (r26 : Int) (r27 : List Tok) (r28 : Int) => k1 r25 r26 r27 r28)) (cond (r3.kind == (3 : Int)) (k0 (⟨(3 : Int), (ByteArray.mk #[]), []⟩ : Rw) r14 (IntKind.wrap .i64 (r15 + (1 : Int)))) (cond (strEq r3.text (ByteArray.mk #[116, 121, 112, 101])) (k0 (⟨(1 : Int), (ByteArray.mk #[]), []⟩ : Rw) r14 (IntKind.wrap .i64 (r15 + (1 : Int)))) (k0 (⟨(2 : Int), r3.text, []⟩ : Rw) r14 (IntKind.wrap .i64 (r15 + (1 : Int))))))))))

/-- (*truss/syntax.reader).atomic -/
def Gc79_0 (C : Tab) (ρ : Type) (a1 : List Tok) (a2 : Int) (k0 : (Bool → (List Tok) → Int → Option ρ)) : Option ρ :=
  C.c31_0 ρ a1 a2 (fun (r3 : Tok) (r4 : List Tok) (r5 : Int) => cond (r3.kind == (1 : Int)) (k0 true r4 r5) (cond (r3.kind == (2 : Int)) (k0 true r4 r5) (cond (r3.kind == (3 : Int)) (k0 true r4 r5) (C.c45_0 ρ [(ByteArray.mk #[40])] r4 r5 (fun (r6 : Bool) (r7 : List Tok) (r8 : Int) => k0 r6 r7 r8)))))

/-- slices.Index[[]string,string] -/
def Gc80_0 (C : Tab) (ρ : Type) (a1 : List ByteArray) (a2 : ByteArray) (k0 : (Int → Option ρ)) : Option ρ :=
  C.l80_2_0 ρ a1 a2 ((List.length a1 : Nat) : Int) (0 : Int) (fun (r3 : Int) => k0 r3) (k0 (-1 : Int))

/-- truss/lexis.name -/
def Gc82_0 (C : Tab) (ρ : Type) (a1 : ByteArray) (k0 : (Bool → Option ρ)) : Option ρ :=
  cond (decide ((a1.size : Int) < (1 : Int))) (k0 false) (cond (decide ((a1.size : Int) > (16 : Int))) (k0 false) (cond (decide ((0 : Int) ≤ (0 : Int)) && decide ((0 : Int) < (a1.size : Int))) (C.c63_0 ρ (bt a1 (0 : Int)) (fun (r2 : Bool) => cond (!r2) (k0 false) (C.l82_4_0 ρ a1 (a1.size : Int) (0 : Int) (k0 true) (fun (r3 : Bool) => k0 r3)))) (none)))

/-- truss/lexis.name -/
def Gc82_1 (C : Tab) (ρ : Type) (a1 : ByteArray) (k0 : (Bool → Option ρ)) : Option ρ :=
  cond (decide ((a1.size : Int) < (1 : Int))) (k0 false) (cond (decide ((a1.size : Int) > (16 : Int))) (k0 false) (cond (decide ((0 : Int) ≤ (0 : Int)) && decide ((0 : Int) < (a1.size : Int))) (C.c66_0 ρ (bt a1 (0 : Int)) (fun (r2 : Bool) => cond (!r2) (k0 false) (C.l82_4_0 ρ a1 (a1.size : Int) (0 : Int) (k0 true) (fun (r3 : Bool) => k0 r3)))) (none)))

/-- truss/trussref01.letter -/
def Gc83_0 (C : Tab) (ρ : Type) (a1 : Int) (k0 : (Bool → Option ρ)) : Option ρ :=
  C.c92_0 ρ a1 (fun (r2 : Bool) => cond r2 (k0 true) (cond (decide (a1 ≥ (65 : Int))) (k0 (decide (a1 ≤ (90 : Int)))) (k0 false)))

/-- truss/trussref01.run -/
def Gc84_0 (C : Tab) (ρ : Type) (a1 : ByteArray) (a2 : Int) (k0 : (Int → Option ρ)) : Option ρ :=
  C.l84_1_0 ρ a1 a2 (fun (r3 : Int) => k0 r3)

/-- truss/lexis.nameByte -/
def Gc86_0 (C : Tab) (ρ : Type) (a1 : Int) (k0 : (Bool → Option ρ)) : Option ρ :=
  C.c63_0 ρ a1 (fun (r2 : Bool) => cond r2 (k0 true) (C.c66_0 ρ a1 (fun (r3 : Bool) => cond r3 (k0 true) (C.c68_0 ρ a1 (fun (r4 : Bool) => cond r4 (k0 true) (cond (a1 == (95 : Int)) (k0 true) (k0 (a1 == (39 : Int)))))))))

/-- strconv.Atoi -/
def Gc87_0 (C : Tab) (ρ : Type) (a1 : ByteArray) (k0 : (Int → Option ρ)) (k1 : (Int → Option ρ)) : Option ρ :=
  toldAtoi a1 k0 k1

/-- strconv.Itoa -/
def Gc88_0 (C : Tab) (ρ : Type) (a1 : Int) (k0 : (ByteArray → Option ρ)) : Option ρ :=
  toldItoa a1 k0

/-- truss/syntax.isName -/
def Gc89_0 (C : Tab) (ρ : Type) (a1 : Tok) (k0 : (Bool → Option ρ)) : Option ρ :=
  cond (a1.kind == (2 : Int)) (k0 true) (cond (a1.kind == (1 : Int)) (k0 (!strEq a1.text (ByteArray.mk #[116, 121, 112, 101]))) (k0 false))

/-- (*truss/syntax.reader).take -/
def Gc90_0 (C : Tab) (ρ : Type) (a1 : List Tok) (a2 : Int) (k0 : (Tok → (List Tok) → Int → Option ρ)) : Option ρ :=
  C.c31_0 ρ a1 a2 (fun (r3 : Tok) (r4 : List Tok) (r5 : Int) => k0 (⟨r3.kind, r3.text, r3.at_⟩ : Tok) r4 (IntKind.wrap .i64 (r5 + (1 : Int))))

/-- truss/trussref01.small -/
def Gc92_0 (C : Tab) (ρ : Type) (a1 : Int) (k0 : (Bool → Option ρ)) : Option ρ :=
  cond (decide (a1 ≥ (97 : Int))) (k0 (decide (a1 ≤ (122 : Int)))) (k0 false)

/-- truss/trussref01.byteOf -/
def Gc93_0 (C : Tab) (ρ : Type) (a1 : Int) (k0 : (Bool → Option ρ)) : Option ρ :=
  C.c83_0 ρ a1 (fun (r2 : Bool) => cond r2 (k0 true) (cond (decide (a1 ≥ (48 : Int))) (cond (decide (a1 ≤ (57 : Int))) (k0 true) (cond (a1 == (95 : Int)) (k0 true) (k0 (a1 == (39 : Int))))) (cond (a1 == (95 : Int)) (k0 true) (k0 (a1 == (39 : Int))))))

/-- a loop of truss/trussref02.Same -/
def Gl15_4_0 (C : Tab) (ρ : Type) (a1 : Int) (a2 : Rw) (a3 : Rw) (k0 : (Bool → Option ρ)) (k1 : Option ρ) : Option ρ :=
  cond (decide (a1 < ((List.length a2.args : Nat) : Int))) (cond (decide ((0 : Int) ≤ a1) && decide (a1 < ((List.length a2.args : Nat) : Int))) (cond (decide ((0 : Int) ≤ a1) && decide (a1 < ((List.length a3.args : Nat) : Int))) (C.c15_0 ρ (⟨(rdEl lay Key.raw a2.args a1).op, (rdEl lay Key.raw a2.args a1).name, (rdEl lay Key.raw a2.args a1).args⟩ : Rw) (⟨(rdEl lay Key.raw a3.args a1).op, (rdEl lay Key.raw a3.args a1).name, (rdEl lay Key.raw a3.args a1).args⟩ : Rw) (fun (r4 : Bool) => cond (!r4) (k0 false) (C.l15_4_0 ρ (IntKind.wrap .i64 (a1 + (1 : Int))) (⟨a2.op, a2.name, a2.args⟩ : Rw) (⟨a3.op, a3.name, a3.args⟩ : Rw) k0 k1))) (none)) (none)) (k1)

/-- a loop of truss/trusslaw02.names -/
def Gl18_4_0 (C : Tab) (ρ : Type) (a1 : List ByteArray) (a2 : List ByteArray) (a3 : Int) (a4 : Int) (k0 : (Bool → Option ρ)) (k1 : Option ρ) : Option ρ :=
  cond (decide (a4 < a3)) (cond (decide ((0 : Int) ≤ a4) && decide (a4 < ((List.length a1 : Nat) : Int))) (cond (decide ((0 : Int) ≤ a4) && decide (a4 < ((List.length a2 : Nat) : Int))) (cond (!strEq (rdEl lay Key.str a1 a4) (rdEl lay Key.str a2 a4)) (k0 false) (C.l18_4_0 ρ a1 a2 a3 (IntKind.wrap .i64 (a4 + (1 : Int))) k0 k1)) (none)) (none)) (k1)

/-- a loop of truss/syntax.formed -/
def Gl22_20_0 (C : Tab) (ρ : Type) (a1 : Int) (a2 : List Rw) (a3 : Int) (a4 : Int) (a5 : Int) (k0 : (Bool → Int → Option ρ)) (k1 : (Int → Option ρ)) : Option ρ :=
  cond (decide (a4 < a3)) (cond (decide ((0 : Int) ≤ a4) && decide (a4 < ((List.length a2 : Nat) : Int))) (C.c22_0 ρ (⟨(rdEl lay Key.raw a2 a4).op, (rdEl lay Key.raw a2 a4).name, (rdEl lay Key.raw a2 a4).args⟩ : Rw) (IntKind.wrap .i64 (a1 + (1 : Int))) a5 (fun (r6 : Bool) (r7 : Int) => cond (!r6) (k0 false r7) (C.l22_20_0 ρ a1 a2 a3 (IntKind.wrap .i64 (a4 + (1 : Int))) r7 k0 k1))) (none)) (k1 a5)

/-- a loop of truss/trussref02.nodes -/
def Gl24_3_0 (C : Tab) (ρ : Type) (a1 : Int) (a2 : Int) (a3 : Int) (a4 : Rw) (k0 : (Int → Int → Option ρ)) : Option ρ :=
  cond (decide (a3 < ((List.length a4.args : Nat) : Int))) (cond (decide (a2 ≤ a1)) (cond (decide ((0 : Int) ≤ a3) && decide (a3 < ((List.length a4.args : Nat) : Int))) (C.c24_0 ρ (⟨(rdEl lay Key.raw a4.args a3).op, (rdEl lay Key.raw a4.args a3).name, (rdEl lay Key.raw a4.args a3).args⟩ : Rw) (IntKind.wrap .i64 (a1 - a2)) (fun (r5 : Int) => C.l24_3_0 ρ a1 (IntKind.wrap .i64 (a2 + r5)) (IntKind.wrap .i64 (a3 + (1 : Int))) (⟨a4.op, a4.name, a4.args⟩ : Rw) k0)) (none)) (k0 a1 a2)) (k0 a1 a2)

/-- a loop of truss/trussref02.formed -/
def Gl25_18_0 (C : Tab) (ρ : Type) (a1 : Int) (a2 : Int) (a3 : Rw) (k0 : (Bool → Option ρ)) (k1 : Option ρ) : Option ρ :=
  cond (decide (a2 < ((List.length a3.args : Nat) : Int))) (cond (decide ((0 : Int) ≤ a2) && decide (a2 < ((List.length a3.args : Nat) : Int))) (C.c25_0 ρ (⟨(rdEl lay Key.raw a3.args a2).op, (rdEl lay Key.raw a3.args a2).name, (rdEl lay Key.raw a3.args a2).args⟩ : Rw) (IntKind.wrap .i64 (a1 + (1 : Int))) (fun (r4 : Bool) => cond (!r4) (k0 false) (C.l25_18_0 ρ a1 (IntKind.wrap .i64 (a2 + (1 : Int))) (⟨a3.op, a3.name, a3.args⟩ : Rw) k0 k1))) (none)) (k1)

/-- a loop of truss/lexis.Tokens -/
def Gl28_6_0 (C : Tab) (ρ : Type) (a1 : ByteArray) (a2 : List Tok) (a3 : ByteArray) (a4 : Int) (k0 : (ByteArray → (List Tok) → Option ρ)) (k1 : ((List Tok) → Int → Int → Option ρ)) : Option ρ :=
  cond (decide (a4 < (a1.size : Int))) (cond (decide ((0 : Int) ≤ a4) && decide (a4 < (a1.size : Int))) (C.c44_0 ρ (bt a1 a4) (fun (r5 : Int) => C.c64_0 ρ a3 a4 (fun (r6 : Int) (r7 : ByteArray) (r8 : ByteArray) (r9 : Int) => cond (strEq r7 (ByteArray.mk #[])) (k1 ([] : List Tok) r9 (4 : Int)) (cond (decide ((List.length a2 + List.length [(⟨r6, r7, r9⟩ : Tok)]) * 32 ≤ 140737488355328)) (C.c43_0 ρ r8 (IntKind.wrap .i64 (r9 + (r7.size : Int))) (fun (r10 : ByteArray) (r11 : Int) => C.l28_6_0 ρ a1 ((a2 : List Tok) ++ ([(⟨r6, r7, r9⟩ : Tok)] : List Tok)) r10 r11 k0 k1)) (none)))) (fun (r12 : Int) => C.c67_0 ρ a3 a4 (fun (r13 : Int) (r14 : ByteArray) (r15 : ByteArray) (r16 : Int) => cond (strEq r14 (ByteArray.mk #[])) (k1 ([] : List Tok) r16 (4 : Int)) (cond (decide ((List.length a2 + List.length [(⟨r13, r14, r16⟩ : Tok)]) * 32 ≤ 140737488355328)) (C.c43_0 ρ r15 (IntKind.wrap .i64 (r16 + (r14.size : Int))) (fun (r17 : ByteArray) (r18 : Int) => C.l28_6_0 ρ a1 ((a2 : List Tok) ++ ([(⟨r13, r14, r16⟩ : Tok)] : List Tok)) r17 r18 k0 k1)) (none)))) (fun (r19 : Int) => C.c69_0 ρ a3 a4 (fun (r20 : Int) (r21 : ByteArray) (r22 : ByteArray) (r23 : Int) => cond (strEq r21 (ByteArray.mk #[])) (k1 ([] : List Tok) r23 (4 : Int)) (cond (decide ((List.length a2 + List.length [(⟨r20, r21, r23⟩ : Tok)]) * 32 ≤ 140737488355328)) (C.c43_0 ρ r22 (IntKind.wrap .i64 (r23 + (r21.size : Int))) (fun (r24 : ByteArray) (r25 : Int) => C.l28_6_0 ρ a1 ((a2 : List Tok) ++ ([(⟨r20, r21, r23⟩ : Tok)] : List Tok)) r24 r25 k0 k1)) (none)))) (fun (r26 : Int) => C.c71_0 ρ a3 a4 (fun (r27 : Int) (r28 : ByteArray) (r29 : ByteArray) (r30 : Int) => cond (strEq r28 (ByteArray.mk #[])) (k1 ([] : List Tok) r30 (4 : Int)) (cond (decide ((List.length a2 + List.length [(⟨r27, r28, r30⟩ : Tok)]) * 32 ≤ 140737488355328)) (C.c43_0 ρ r29 (IntKind.wrap .i64 (r30 + (r28.size : Int))) (fun (r31 : ByteArray) (r32 : Int) => C.l28_6_0 ρ a1 ((a2 : List Tok) ++ ([(⟨r27, r28, r30⟩ : Tok)] : List Tok)) r31 r32 k0 k1)) (none)))) (fun (r33 : Int) => C.c72_0 ρ a3 a4 (fun (r34 : Int) (r35 : ByteArray) (r36 : ByteArray) (r37 : Int) => cond (strEq r35 (ByteArray.mk #[])) (k1 ([] : List Tok) r37 (4 : Int)) (cond (decide ((List.length a2 + List.length [(⟨r34, r35, r37⟩ : Tok)]) * 32 ≤ 140737488355328)) (C.c43_0 ρ r36 (IntKind.wrap .i64 (r37 + (r35.size : Int))) (fun (r38 : ByteArray) (r39 : Int) => C.l28_6_0 ρ a1 ((a2 : List Tok) ++ ([(⟨r34, r35, r37⟩ : Tok)] : List Tok)) r38 r39 k0 k1)) (none)))) (C.c73_0 ρ a3 a4 (fun (r40 : Int) (r41 : ByteArray) (r42 : ByteArray) (r43 : Int) => cond (strEq r41 (ByteArray.mk #[])) (k1 ([] : List Tok) r43 (4 : Int)) (cond (decide ((List.length a2 + List.length [(⟨r40, r41, r43⟩ : Tok)]) * 32 ≤ 140737488355328)) (C.c43_0 ρ r42 (IntKind.wrap .i64 (r43 + (r41.size : Int))) (fun (r44 : ByteArray) (r45 : Int) => C.l28_6_0 ρ a1 ((a2 : List Tok) ++ ([(⟨r40, r41, r43⟩ : Tok)] : List Tok)) r44 r45 k0 k1)) (none)))) (fun (r46 : Int) => C.c74_0 ρ a3 a4 (fun (r47 : Int) (r48 : ByteArray) (r49 : ByteArray) (r50 : Int) => cond (strEq r48 (ByteArray.mk #[])) (k1 ([] : List Tok) r50 (4 : Int)) (cond (decide ((List.length a2 + List.length [(⟨r47, r48, r50⟩ : Tok)]) * 32 ≤ 140737488355328)) (C.c43_0 ρ r49 (IntKind.wrap .i64 (r50 + (r48.size : Int))) (fun (r51 : ByteArray) (r52 : Int) => C.l28_6_0 ρ a1 ((a2 : List Tok) ++ ([(⟨r47, r48, r50⟩ : Tok)] : List Tok)) r51 r52 k0 k1)) (none)))) (fun (r53 : Int) => C.c75_0 ρ a3 a4 r53 (fun (r54 : Int) (r55 : ByteArray) (r56 : ByteArray) (r57 : Int) (r58 : Int) => cond (strEq r55 (ByteArray.mk #[])) (k1 ([] : List Tok) r57 (4 : Int)) (cond (decide ((List.length a2 + List.length [(⟨r54, r55, r57⟩ : Tok)]) * 32 ≤ 140737488355328)) (C.c43_0 ρ r56 (IntKind.wrap .i64 (r57 + (r55.size : Int))) (fun (r59 : ByteArray) (r60 : Int) => C.l28_6_0 ρ a1 ((a2 : List Tok) ++ ([(⟨r54, r55, r57⟩ : Tok)] : List Tok)) r59 r60 k0 k1)) (none))))) (none)) (k0 a1 a2)

/-- a loop of (*truss/syntax.reader).expr -/
def Gl30_4_0 (C : Tab) (ρ : Type) (a1 : Bool) (a2 : List Tok) (a3 : Int) (a4 : Rw) (a5 : Rw) (k0 : ((List Tok) → Int → Rw → Rw → Option ρ)) (k1 : ((List Tok) → Int → Rw → Int → Int → Option ρ)) : Option ρ :=
  cond (!a1) (C.c45_0 ρ [(ByteArray.mk #[60, 45])] a2 a3 (fun (r6 : Bool) (r7 : List Tok) (r8 : Int) => cond r6 (C.c45_0 ρ [(ByteArray.mk #[123]), (ByteArray.mk #[91])] r7 (IntKind.wrap .i64 (r8 + (1 : Int))) (fun (r9 : Bool) (r10 : List Tok) (r11 : Int) => cond r9 (C.c46_0 ρ r10 r11 (fun (r12 : Rw) (r13 : List Tok) (r14 : Int) => C.l30_4_0 ρ true r13 r14 (⟨a4.op, a4.name, a4.args⟩ : Rw) (⟨(6 : Int), (ByteArray.mk #[]), [(⟨r12.op, r12.name, r12.args⟩ : Rw), (⟨a5.op, a5.name, a5.args⟩ : Rw)]⟩ : Rw) k0 k1) (fun (r15 : Int) (r16 : Int) (r17 : List Tok) (r18 : Int) => k1 r17 r18 (⟨a4.op, a4.name, a4.args⟩ : Rw) r15 r16)) (C.c47_0 ρ r10 r11 (fun (r19 : Rw) (r20 : Bool) (r21 : List Tok) (r22 : Int) => C.l30_4_0 ρ r20 r21 r22 (⟨a4.op, a4.name, a4.args⟩ : Rw) (⟨(6 : Int), (ByteArray.mk #[]), [(⟨r19.op, r19.name, r19.args⟩ : Rw), (⟨a5.op, a5.name, a5.args⟩ : Rw)]⟩ : Rw) k0 k1) (fun (r23 : Int) (r24 : Int) (r25 : List Tok) (r26 : Int) => k1 r25 r26 (⟨a4.op, a4.name, a4.args⟩ : Rw) r23 r24)))) (k0 r7 r8 (⟨a4.op, a4.name, a4.args⟩ : Rw) (⟨a5.op, a5.name, a5.args⟩ : Rw)))) (k0 a2 a3 (⟨a4.op, a4.name, a4.args⟩ : Rw) (⟨a5.op, a5.name, a5.args⟩ : Rw))

/-- a loop of slices.EqualFunc[[]truss/api.Raw,[]truss/api.Raw,truss/api.Raw,truss/api.Raw] -/
def Gl33_4_0 (C : Tab) (ρ : Type) (a1 : List Rw) (a2 : List Rw) (a3 : Int) (a4 : Int) (k0 : (Bool → Option ρ)) (k1 : Option ρ) : Option ρ :=
  cond (decide (a4 < a3)) (cond (decide ((0 : Int) ≤ a4) && decide (a4 < ((List.length a2 : Nat) : Int))) (cond (decide ((0 : Int) ≤ a4) && decide (a4 < ((List.length a1 : Nat) : Int))) (C.c16_0 ρ (⟨(rdEl lay Key.raw a2 a4).op, (rdEl lay Key.raw a2 a4).name, (rdEl lay Key.raw a2 a4).args⟩ : Rw) (⟨(rdEl lay Key.raw a1 a4).op, (rdEl lay Key.raw a1 a4).name, (rdEl lay Key.raw a1 a4).args⟩ : Rw) (fun (r5 : Bool) => cond (!r5) (k0 false) (C.l33_4_0 ρ a1 a2 a3 (IntKind.wrap .i64 (a4 + (1 : Int))) k0 k1))) (none)) (none)) (k1)

/-- a loop of truss/syntax.free -/
def Gl34_8_0 (C : Tab) (ρ : Type) (a1 : List ByteArray) (a2 : List ByteArray) (a3 : List Rw) (a4 : Int) (a5 : Int) (k0 : ((List ByteArray) → Option ρ)) : Option ρ :=
  cond (decide (a5 < a4)) (cond (decide ((0 : Int) ≤ a5) && decide (a5 < ((List.length a3 : Nat) : Int))) (C.c34_1 ρ (⟨(rdEl lay Key.raw a3 a5).op, (rdEl lay Key.raw a3 a5).name, (rdEl lay Key.raw a3 a5).args⟩ : Rw) a1 a2 (fun (r6 : List ByteArray) => C.l34_8_0 ρ a1 r6 a3 a4 (IntKind.wrap .i64 (a5 + (1 : Int))) k0)) (none)) (k0 a2)

/-- a loop of truss/trussref02.free -/
def Gl35_14_0 (C : Tab) (ρ : Type) (a1 : List ByteArray) (a2 : List ByteArray) (a3 : Int) (a4 : Rw) (k0 : ((List ByteArray) → Option ρ)) : Option ρ :=
  cond (decide (a3 < ((List.length a4.args : Nat) : Int))) (cond (decide ((0 : Int) ≤ a3) && decide (a3 < ((List.length a4.args : Nat) : Int))) (C.c35_1 ρ (⟨(rdEl lay Key.raw a4.args a3).op, (rdEl lay Key.raw a4.args a3).name, (rdEl lay Key.raw a4.args a3).args⟩ : Rw) a1 a2 (fun (r5 : List ByteArray) => C.l35_14_0 ρ a1 r5 (IntKind.wrap .i64 (a3 + (1 : Int))) (⟨a4.op, a4.name, a4.args⟩ : Rw) k0)) (none)) (k0 a2)

/-- a loop of (*truss/lexis.scanner).space -/
def Gl43_0_0 (C : Tab) (ρ : Type) (a1 : ByteArray) (a2 : Int) (k0 : (ByteArray → Int → Option ρ)) : Option ρ :=
  cond (decide (a2 < (a1.size : Int))) (cond (decide ((0 : Int) ≤ a2) && decide (a2 < (a1.size : Int))) (cond ((bt a1 a2) == (32 : Int)) (cond ((bt a1 a2) == (32 : Int)) (C.l43_0_0 ρ a1 (IntKind.wrap .i64 (a2 + (1 : Int))) k0) (cond ((bt a1 a2) == (37 : Int)) (C.c60_0 ρ (1 : Int) a1 a2 (fun (r3 : Int) (r4 : ByteArray) (r5 : Int) => cond ((IntKind.wrap .i64 (r5 + (1 : Int))) == (r4.size : Int)) (cond (decide ((0 : Int) ≤ r5) && (decide (r5 ≤ (r4.size : Int)) && decide ((r4.size : Int) ≤ (r4.size : Int)))) (C.c61_0 ρ (ByteArray.extract r4 (Int.toNat r5) (Int.toNat (r4.size : Int))) (10 : Int) (fun (r6 : Int) => cond (decide (r6 < (0 : Int))) (C.l43_0_0 ρ r4 (IntKind.wrap .i64 (r5 + (IntKind.wrap .i64 ((r4.size : Int) - r5)))) k0) (C.l43_0_0 ρ r4 (IntKind.wrap .i64 (r5 + r6)) k0))) (none)) (cond (r3 == (32 : Int)) (cond (decide ((0 : Int) ≤ r5) && (decide (r5 ≤ (r4.size : Int)) && decide ((r4.size : Int) ≤ (r4.size : Int)))) (C.c61_0 ρ (ByteArray.extract r4 (Int.toNat r5) (Int.toNat (r4.size : Int))) (10 : Int) (fun (r7 : Int) => cond (decide (r7 < (0 : Int))) (C.l43_0_0 ρ r4 (IntKind.wrap .i64 (r5 + (IntKind.wrap .i64 ((r4.size : Int) - r5)))) k0) (C.l43_0_0 ρ r4 (IntKind.wrap .i64 (r5 + r7)) k0))) (none)) (cond (r3 == (9 : Int)) (cond (decide ((0 : Int) ≤ r5) && (decide (r5 ≤ (r4.size : Int)) && decide ((r4.size : Int) ≤ (r4.size : Int)))) (C.c61_0 ρ (ByteArray.extract r4 (Int.toNat r5) (Int.toNat (r4.size : Int))) (10 : Int) (fun (r8 : Int) => cond (decide (r8 < (0 : Int))) (C.l43_0_0 ρ r4 (IntKind.wrap .i64 (r5 + (IntKind.wrap .i64 ((r4.size : Int) - r5)))) k0) (C.l43_0_0 ρ r4 (IntKind.wrap .i64 (r5 + r8)) k0))) (none)) (cond (r3 == (13 : Int)) (cond (decide ((0 : Int) ≤ r5) && (decide (r5 ≤ (r4.size : Int)) && decide ((r4.size : Int) ≤ (r4.size : Int)))) (C.c61_0 ρ (ByteArray.extract r4 (Int.toNat r5) (Int.toNat (r4.size : Int))) (10 : Int) (fun (r9 : Int) => cond (decide (r9 < (0 : Int))) (C.l43_0_0 ρ r4 (IntKind.wrap .i64 (r5 + (IntKind.wrap .i64 ((r4.size : Int) - r5)))) k0) (C.l43_0_0 ρ r4 (IntKind.wrap .i64 (r5 + r9)) k0))) (none)) (cond (r3 == (10 : Int)) (cond (decide ((0 : Int) ≤ r5) && (decide (r5 ≤ (r4.size : Int)) && decide ((r4.size : Int) ≤ (r4.size : Int)))) (C.c61_0 ρ (ByteArray.extract r4 (Int.toNat r5) (Int.toNat (r4.size : Int))) (10 : Int) (fun (r10 : Int) => cond (decide (r10 < (0 : Int))) (C.l43_0_0 ρ r4 (IntKind.wrap .i64 (r5 + (IntKind.wrap .i64 ((r4.size : Int) - r5)))) k0) (C.l43_0_0 ρ r4 (IntKind.wrap .i64 (r5 + r10)) k0))) (none)) (cond (r3 == (37 : Int)) (cond (decide ((0 : Int) ≤ r5) && (decide (r5 ≤ (r4.size : Int)) && decide ((r4.size : Int) ≤ (r4.size : Int)))) (C.c61_0 ρ (ByteArray.extract r4 (Int.toNat r5) (Int.toNat (r4.size : Int))) (10 : Int) (fun (r11 : Int) => cond (decide (r11 < (0 : Int))) (C.l43_0_0 ρ r4 (IntKind.wrap .i64 (r5 + (IntKind.wrap .i64 ((r4.size : Int) - r5)))) k0) (C.l43_0_0 ρ r4 (IntKind.wrap .i64 (r5 + r11)) k0))) (none)) (k0 r4 r5)))))))) (k0 a1 a2))) (cond ((bt a1 a2) == (9 : Int)) (cond ((bt a1 a2) == (9 : Int)) (C.l43_0_0 ρ a1 (IntKind.wrap .i64 (a2 + (1 : Int))) k0) (cond ((bt a1 a2) == (37 : Int)) (C.c60_0 ρ (1 : Int) a1 a2 (fun (r12 : Int) (r13 : ByteArray) (r14 : Int) => cond ((IntKind.wrap .i64 (r14 + (1 : Int))) == (r13.size : Int)) (cond (decide ((0 : Int) ≤ r14) && (decide (r14 ≤ (r13.size : Int)) && decide ((r13.size : Int) ≤ (r13.size : Int)))) (C.c61_0 ρ (ByteArray.extract r13 (Int.toNat r14) (Int.toNat (r13.size : Int))) (10 : Int) (fun (r15 : Int) => cond (decide (r15 < (0 : Int))) (C.l43_0_0 ρ r13 (IntKind.wrap .i64 (r14 + (IntKind.wrap .i64 ((r13.size : Int) - r14)))) k0) (C.l43_0_0 ρ r13 (IntKind.wrap .i64 (r14 + r15)) k0))) (none)) (cond (r12 == (32 : Int)) (cond (decide ((0 : Int) ≤ r14) && (decide (r14 ≤ (r13.size : Int)) && decide ((r13.size : Int) ≤ (r13.size : Int)))) (C.c61_0 ρ (ByteArray.extract r13 (Int.toNat r14) (Int.toNat (r13.size : Int))) (10 : Int) (fun (r16 : Int) => cond (decide (r16 < (0 : Int))) (C.l43_0_0 ρ r13 (IntKind.wrap .i64 (r14 + (IntKind.wrap .i64 ((r13.size : Int) - r14)))) k0) (C.l43_0_0 ρ r13 (IntKind.wrap .i64 (r14 + r16)) k0))) (none)) (cond (r12 == (9 : Int)) (cond (decide ((0 : Int) ≤ r14) && (decide (r14 ≤ (r13.size : Int)) && decide ((r13.size : Int) ≤ (r13.size : Int)))) (C.c61_0 ρ (ByteArray.extract r13 (Int.toNat r14) (Int.toNat (r13.size : Int))) (10 : Int) (fun (r17 : Int) => cond (decide (r17 < (0 : Int))) (C.l43_0_0 ρ r13 (IntKind.wrap .i64 (r14 + (IntKind.wrap .i64 ((r13.size : Int) - r14)))) k0) (C.l43_0_0 ρ r13 (IntKind.wrap .i64 (r14 + r17)) k0))) (none)) (cond (r12 == (13 : Int)) (cond (decide ((0 : Int) ≤ r14) && (decide (r14 ≤ (r13.size : Int)) && decide ((r13.size : Int) ≤ (r13.size : Int)))) (C.c61_0 ρ (ByteArray.extract r13 (Int.toNat r14) (Int.toNat (r13.size : Int))) (10 : Int) (fun (r18 : Int) => cond (decide (r18 < (0 : Int))) (C.l43_0_0 ρ r13 (IntKind.wrap .i64 (r14 + (IntKind.wrap .i64 ((r13.size : Int) - r14)))) k0) (C.l43_0_0 ρ r13 (IntKind.wrap .i64 (r14 + r18)) k0))) (none)) (cond (r12 == (10 : Int)) (cond (decide ((0 : Int) ≤ r14) && (decide (r14 ≤ (r13.size : Int)) && decide ((r13.size : Int) ≤ (r13.size : Int)))) (C.c61_0 ρ (ByteArray.extract r13 (Int.toNat r14) (Int.toNat (r13.size : Int))) (10 : Int) (fun (r19 : Int) => cond (decide (r19 < (0 : Int))) (C.l43_0_0 ρ r13 (IntKind.wrap .i64 (r14 + (IntKind.wrap .i64 ((r13.size : Int) - r14)))) k0) (C.l43_0_0 ρ r13 (IntKind.wrap .i64 (r14 + r19)) k0))) (none)) (cond (r12 == (37 : Int)) (cond (decide ((0 : Int) ≤ r14) && (decide (r14 ≤ (r13.size : Int)) && decide ((r13.size : Int) ≤ (r13.size : Int)))) (C.c61_0 ρ (ByteArray.extract r13 (Int.toNat r14) (Int.toNat (r13.size : Int))) (10 : Int) (fun (r20 : Int) => cond (decide (r20 < (0 : Int))) (C.l43_0_0 ρ r13 (IntKind.wrap .i64 (r14 + (IntKind.wrap .i64 ((r13.size : Int) - r14)))) k0) (C.l43_0_0 ρ r13 (IntKind.wrap .i64 (r14 + r20)) k0))) (none)) (k0 r13 r14)))))))) (k0 a1 a2))) (cond ((bt a1 a2) == (10 : Int)) (cond ((bt a1 a2) == (10 : Int)) (C.l43_0_0 ρ a1 (IntKind.wrap .i64 (a2 + (1 : Int))) k0) (cond ((bt a1 a2) == (37 : Int)) (C.c60_0 ρ (1 : Int) a1 a2 (fun (r21 : Int) (r22 : ByteArray) (r23 : Int) => cond ((IntKind.wrap .i64 (r23 + (1 : Int))) == (r22.size : Int)) (cond (decide ((0 : Int) ≤ r23) && (decide (r23 ≤ (r22.size : Int)) && decide ((r22.size : Int) ≤ (r22.size : Int)))) (C.c61_0 ρ (ByteArray.extract r22 (Int.toNat r23) (Int.toNat (r22.size : Int))) (10 : Int) (fun (r24 : Int) => cond (decide (r24 < (0 : Int))) (C.l43_0_0 ρ r22 (IntKind.wrap .i64 (r23 + (IntKind.wrap .i64 ((r22.size : Int) - r23)))) k0) (C.l43_0_0 ρ r22 (IntKind.wrap .i64 (r23 + r24)) k0))) (none)) (cond (r21 == (32 : Int)) (cond (decide ((0 : Int) ≤ r23) && (decide (r23 ≤ (r22.size : Int)) && decide ((r22.size : Int) ≤ (r22.size : Int)))) (C.c61_0 ρ (ByteArray.extract r22 (Int.toNat r23) (Int.toNat (r22.size : Int))) (10 : Int) (fun (r25 : Int) => cond (decide (r25 < (0 : Int))) (C.l43_0_0 ρ r22 (IntKind.wrap .i64 (r23 + (IntKind.wrap .i64 ((r22.size : Int) - r23)))) k0) (C.l43_0_0 ρ r22 (IntKind.wrap .i64 (r23 + r25)) k0))) (none)) (cond (r21 == (9 : Int)) (cond (decide ((0 : Int) ≤ r23) && (decide (r23 ≤ (r22.size : Int)) && decide ((r22.size : Int) ≤ (r22.size : Int)))) (C.c61_0 ρ (ByteArray.extract r22 (Int.toNat r23) (Int.toNat (r22.size : Int))) (10 : Int) (fun (r26 : Int) => cond (decide (r26 < (0 : Int))) (C.l43_0_0 ρ r22 (IntKind.wrap .i64 (r23 + (IntKind.wrap .i64 ((r22.size : Int) - r23)))) k0) (C.l43_0_0 ρ r22 (IntKind.wrap .i64 (r23 + r26)) k0))) (none)) (cond (r21 == (13 : Int)) (cond (decide ((0 : Int) ≤ r23) && (decide (r23 ≤ (r22.size : Int)) && decide ((r22.size : Int) ≤ (r22.size : Int)))) (C.c61_0 ρ (ByteArray.extract r22 (Int.toNat r23) (Int.toNat (r22.size : Int))) (10 : Int) (fun (r27 : Int) => cond (decide (r27 < (0 : Int))) (C.l43_0_0 ρ r22 (IntKind.wrap .i64 (r23 + (IntKind.wrap .i64 ((r22.size : Int) - r23)))) k0) (C.l43_0_0 ρ r22 (IntKind.wrap .i64 (r23 + r27)) k0))) (none)) (cond (r21 == (10 : Int)) (cond (decide ((0 : Int) ≤ r23) && (decide (r23 ≤ (r22.size : Int)) && decide ((r22.size : Int) ≤ (r22.size : Int)))) (C.c61_0 ρ (ByteArray.extract r22 (Int.toNat r23) (Int.toNat (r22.size : Int))) (10 : Int) (fun (r28 : Int) => cond (decide (r28 < (0 : Int))) (C.l43_0_0 ρ r22 (IntKind.wrap .i64 (r23 + (IntKind.wrap .i64 ((r22.size : Int) - r23)))) k0) (C.l43_0_0 ρ r22 (IntKind.wrap .i64 (r23 + r28)) k0))) (none)) (cond (r21 == (37 : Int)) (cond (decide ((0 : Int) ≤ r23) && (decide (r23 ≤ (r22.size : Int)) && decide ((r22.size : Int) ≤ (r22.size : Int)))) (C.c61_0 ρ (ByteArray.extract r22 (Int.toNat r23) (Int.toNat (r22.size : Int))) (10 : Int) (fun (r29 : Int) => cond (decide (r29 < (0 : Int))) (C.l43_0_0 ρ r22 (IntKind.wrap .i64 (r23 + (IntKind.wrap .i64 ((r22.size : Int) - r23)))) k0) (C.l43_0_0 ρ r22 (IntKind.wrap .i64 (r23 + r29)) k0))) (none)) (k0 r22 r23)))))))) (k0 a1 a2))) (cond ((bt a1 a2) == (13 : Int)) (C.l43_0_0 ρ a1 (IntKind.wrap .i64 (a2 + (1 : Int))) k0) (cond ((bt a1 a2) == (37 : Int)) (C.c60_0 ρ (1 : Int) a1 a2 (fun (r30 : Int) (r31 : ByteArray) (r32 : Int) => cond ((IntKind.wrap .i64 (r32 + (1 : Int))) == (r31.size : Int)) (cond (decide ((0 : Int) ≤ r32) && (decide (r32 ≤ (r31.size : Int)) && decide ((r31.size : Int) ≤ (r31.size : Int)))) (C.c61_0 ρ (ByteArray.extract r31 (Int.toNat r32) (Int.toNat (r31.size : Int))) (10 : Int) (fun (r33 : Int) => cond (decide (r33 < (0 : Int))) (C.l43_0_0 ρ r31 (IntKind.wrap .i64 (r32 + (IntKind.wrap .i64 ((r31.size : Int) - r32)))) k0) (C.l43_0_0 ρ r31 (IntKind.wrap .i64 (r32 + r33)) k0))) (none)) (cond (r30 == (32 : Int)) (cond (decide ((0 : Int) ≤ r32) && (decide (r32 ≤ (r31.size : Int)) && decide ((r31.size : Int) ≤ (r31.size : Int)))) (C.c61_0 ρ (ByteArray.extract r31 (Int.toNat r32) (Int.toNat (r31.size : Int))) (10 : Int) (fun (r34 : Int) => cond (decide (r34 < (0 : Int))) (C.l43_0_0 ρ r31 (IntKind.wrap .i64 (r32 + (IntKind.wrap .i64 ((r31.size : Int) - r32)))) k0) (C.l43_0_0 ρ r31 (IntKind.wrap .i64 (r32 + r34)) k0))) (none)) (cond (r30 == (9 : Int)) (cond (decide ((0 : Int) ≤ r32) && (decide (r32 ≤ (r31.size : Int)) && decide ((r31.size : Int) ≤ (r31.size : Int)))) (C.c61_0 ρ (ByteArray.extract r31 (Int.toNat r32) (Int.toNat (r31.size : Int))) (10 : Int) (fun (r35 : Int) => cond (decide (r35 < (0 : Int))) (C.l43_0_0 ρ r31 (IntKind.wrap .i64 (r32 + (IntKind.wrap .i64 ((r31.size : Int) - r32)))) k0) (C.l43_0_0 ρ r31 (IntKind.wrap .i64 (r32 + r35)) k0))) (none)) (cond (r30 == (13 : Int)) (cond (decide ((0 : Int) ≤ r32) && (decide (r32 ≤ (r31.size : Int)) && decide ((r31.size : Int) ≤ (r31.size : Int)))) (C.c61_0 ρ (ByteArray.extract r31 (Int.toNat r32) (Int.toNat (r31.size : Int))) (10 : Int) (fun (r36 : Int) => cond (decide (r36 < (0 : Int))) (C.l43_0_0 ρ r31 (IntKind.wrap .i64 (r32 + (IntKind.wrap .i64 ((r31.size : Int) - r32)))) k0) (C.l43_0_0 ρ r31 (IntKind.wrap .i64 (r32 + r36)) k0))) (none)) (cond (r30 == (10 : Int)) (cond (decide ((0 : Int) ≤ r32) && (decide (r32 ≤ (r31.size : Int)) && decide ((r31.size : Int) ≤ (r31.size : Int)))) (C.c61_0 ρ (ByteArray.extract r31 (Int.toNat r32) (Int.toNat (r31.size : Int))) (10 : Int) (fun (r37 : Int) => cond (decide (r37 < (0 : Int))) (C.l43_0_0 ρ r31 (IntKind.wrap .i64 (r32 + (IntKind.wrap .i64 ((r31.size : Int) - r32)))) k0) (C.l43_0_0 ρ r31 (IntKind.wrap .i64 (r32 + r37)) k0))) (none)) (cond (r30 == (37 : Int)) (cond (decide ((0 : Int) ≤ r32) && (decide (r32 ≤ (r31.size : Int)) && decide ((r31.size : Int) ≤ (r31.size : Int)))) (C.c61_0 ρ (ByteArray.extract r31 (Int.toNat r32) (Int.toNat (r31.size : Int))) (10 : Int) (fun (r38 : Int) => cond (decide (r38 < (0 : Int))) (C.l43_0_0 ρ r31 (IntKind.wrap .i64 (r32 + (IntKind.wrap .i64 ((r31.size : Int) - r32)))) k0) (C.l43_0_0 ρ r31 (IntKind.wrap .i64 (r32 + r38)) k0))) (none)) (k0 r31 r32)))))))) (k0 a1 a2)))))) (none)) (k0 a1 a2)

/-- a loop of (*truss/syntax.reader).app -/
def Gl47_2_0 (C : Tab) (ρ : Type) (a1 : List Tok) (a2 : Int) (a3 : Rw) (a4 : Rw) (k0 : ((List Tok) → Int → Rw → Rw → Option ρ)) (k1 : ((List Tok) → Int → Rw → Int → Int → Option ρ)) : Option ρ :=
  C.c79_0 ρ a1 a2 (fun (r5 : Bool) (r6 : List Tok) (r7 : Int) => cond r5 (C.c78_0 ρ r6 r7 (fun (r8 : Rw) (r9 : List Tok) (r10 : Int) => C.l47_2_0 ρ r9 r10 (⟨a3.op, a3.name, a3.args⟩ : Rw) (⟨(4 : Int), (ByteArray.mk #[]), [(⟨a4.op, a4.name, a4.args⟩ : Rw), (⟨r8.op, r8.name, r8.args⟩ : Rw)]⟩ : Rw) k0 k1) (fun (r11 : Int) (r12 : Int) (r13 : List Tok) (r14 : Int) => k1 r13 r14 (⟨a3.op, a3.name, a3.args⟩ : Rw) r11 r12)) (k0 r6 r7 (⟨a3.op, a3.name, a3.args⟩ : Rw) (⟨a4.op, a4.name, a4.args⟩ : Rw)))

/-- a loop of truss/trussref02.has -/
def Gl51_2_0 (C : Tab) (ρ : Type) (a1 : ByteArray) (a2 : List ByteArray) (a3 : Int) (a4 : Int) (k0 : (Bool → Option ρ)) (k1 : Option ρ) : Option ρ :=
  cond (decide (a4 < a3)) (cond (decide ((0 : Int) ≤ a4) && decide (a4 < ((List.length a2 : Nat) : Int))) (cond (strEq (rdEl lay Key.str a2 a4) a1) (k0 true) (C.l51_2_0 ρ a1 a2 a3 (IntKind.wrap .i64 (a4 + (1 : Int))) k0 k1)) (none)) (k1)

/-- a loop of slices.Index[[]int,int] -/
def Gl58_2_0 (C : Tab) (ρ : Type) (a1 : List Int) (a2 : Int) (a3 : Int) (a4 : Int) (k0 : (Int → Option ρ)) (k1 : Option ρ) : Option ρ :=
  cond (decide (a4 < a3)) (cond (decide ((0 : Int) ≤ a4) && decide (a4 < ((List.length a1 : Nat) : Int))) (cond (a2 == (rdEl lay Key.int a1 a4)) (k0 a4) (C.l58_2_0 ρ a1 a2 a3 (IntKind.wrap .i64 (a4 + (1 : Int))) k0 k1)) (none)) (k1)

/-- a loop of (*truss/lexis.scanner).word -/
def Gl65_2_0 (C : Tab) (ρ : Type) (a1 : Int) (a2 : Int) (a3 : ByteArray) (a4 : Int) (k0 : (Int → Int → ByteArray → Int → Option ρ)) : Option ρ :=
  cond (decide (a2 < (a3.size : Int))) (cond (decide ((0 : Int) ≤ a2) && decide (a2 < (a3.size : Int))) (C.c86_0 ρ (bt a3 a2) (fun (r5 : Bool) => cond r5 (C.l65_2_0 ρ a1 (IntKind.wrap .i64 (a2 + (1 : Int))) a3 a4 k0) (k0 a1 a2 a3 a4))) (none)) (k0 a1 a2 a3 a4)

/-- a loop of slices.Index[[]string,string] -/
def Gl80_2_0 (C : Tab) (ρ : Type) (a1 : List ByteArray) (a2 : ByteArray) (a3 : Int) (a4 : Int) (k0 : (Int → Option ρ)) (k1 : Option ρ) : Option ρ :=
  cond (decide (a4 < a3)) (cond (decide ((0 : Int) ≤ a4) && decide (a4 < ((List.length a1 : Nat) : Int))) (cond (strEq a2 (rdEl lay Key.str a1 a4)) (k0 a4) (C.l80_2_0 ρ a1 a2 a3 (IntKind.wrap .i64 (a4 + (1 : Int))) k0 k1)) (none)) (k1)

/-- a loop of truss/lexis.name -/
def Gl82_4_0 (C : Tab) (ρ : Type) (a1 : ByteArray) (a2 : Int) (a3 : Int) (k0 : Option ρ) (k1 : (Bool → Option ρ)) : Option ρ :=
  cond (decide (a3 < a2)) (cond (decide ((0 : Int) ≤ a3) && decide (a3 < (a1.size : Int))) (C.c86_0 ρ (bt a1 a3) (fun (r4 : Bool) => cond (!r4) (k1 false) (C.l82_4_0 ρ a1 a2 (IntKind.wrap .i64 (a3 + (1 : Int))) k0 k1))) (none)) (k0)

/-- a loop of truss/trussref01.run -/
def Gl84_1_0 (C : Tab) (ρ : Type) (a1 : ByteArray) (a2 : Int) (k0 : (Int → Option ρ)) : Option ρ :=
  cond (decide (a2 < (a1.size : Int))) (cond (decide ((0 : Int) ≤ a2) && decide (a2 < (a1.size : Int))) (C.c93_0 ρ (bt a1 a2) (fun (r3 : Bool) => cond r3 (C.l84_1_0 ρ a1 (IntKind.wrap .i64 (a2 + (1 : Int))) k0) (k0 a2))) (none)) (k0 a2)

def Tabs : Nat → Tab
  | 0 => {c3_0 := fun _ _ _ => none, c4_0 := fun _ _ _ _ => none, c5_0 := fun _ _ _ _ _ => none, c6_0 := fun _ _ _ => none, c9_0 := fun _ _ _ => none, c10_0 := fun _ _ _ => none, c11_0 := fun _ _ _ => none, c12_0 := fun _ _ => none, c13_0 := fun _ _ _ => none, c14_0 := fun _ _ _ => none, c15_0 := fun _ _ _ _ => none, c16_0 := fun _ _ _ _ => none, c17_0 := fun _ _ _ => none, c18_0 := fun _ _ _ _ => none, c19_0 := fun _ _ _ _ => none, c22_0 := fun _ _ _ _ _ => none, c23_0 := fun _ _ _ _ => none, c24_0 := fun _ _ _ _ => none, c25_0 := fun _ _ _ _ => none, c26_0 := fun _ _ _ _ => none, c27_0 := fun _ _ _ => none, c28_0 := fun _ _ _ => none, c30_0 := fun _ _ _ _ _ => none, c31_0 := fun _ _ _ _ => none, c32_0 := fun _ _ _ _ => none, c33_0 := fun _ _ _ _ => none, c34_0 := fun _ _ _ _ _ => none, c34_1 := fun _ _ _ _ _ => none, c34_2 := fun _ _ _ _ _ => none, c35_0 := fun _ _ _ _ _ _ => none, c35_1 := fun _ _ _ _ _ => none, c35_2 := fun _ _ _ _ _ _ => none, c40_0 := fun _ _ _ => none, c41_0 := fun _ _ _ _ => none, c42_0 := fun _ _ _ => none, c43_0 := fun _ _ _ _ => none, c44_0 := fun _ _ _ _ _ _ _ _ _ _ => none, c45_0 := fun _ _ _ _ _ => none, c46_0 := fun _ _ _ _ _ => none, c47_0 := fun _ _ _ _ _ => none, c48_0 := fun _ _ _ _ => none, c49_0 := fun _ _ _ => none, c50_0 := fun _ _ _ => none, c51_0 := fun _ _ _ _ => none, c54_0 := fun _ _ _ => none, c57_0 := fun _ _ _ => none, c58_0 := fun _ _ _ _ => none, c59_0 := fun _ _ _ => none, c60_0 := fun _ _ _ _ _ => none, c61_0 := fun _ _ _ _ => none, c62_0 := fun _ _ _ _ _ => none, c63_0 := fun _ _ _ => none, c64_0 := fun _ _ _ _ => none, c65_0 := fun _ _ _ _ _ => none, c66_0 := fun _ _ _ => none, c67_0 := fun _ _ _ _ => none, c68_0 := fun _ _ _ => none, c69_0 := fun _ _ _ _ => none, c70_0 := fun _ _ _ => none, c71_0 := fun _ _ _ _ => none, c72_0 := fun _ _ _ _ => none, c73_0 := fun _ _ _ _ => none, c74_0 := fun _ _ _ _ => none, c75_0 := fun _ _ _ _ _ => none, c76_0 := fun _ _ _ _ _ => none, c77_0 := fun _ _ _ _ _ _ => none, c78_0 := fun _ _ _ _ _ => none, c79_0 := fun _ _ _ _ => none, c80_0 := fun _ _ _ _ => none, c82_0 := fun _ _ _ => none, c82_1 := fun _ _ _ => none, c83_0 := fun _ _ _ => none, c84_0 := fun _ _ _ _ => none, c86_0 := fun _ _ _ => none, c87_0 := fun _ _ _ _ => none, c88_0 := fun _ _ _ => none, c89_0 := fun _ _ _ => none, c90_0 := fun _ _ _ _ => none, c92_0 := fun _ _ _ => none, c93_0 := fun _ _ _ => none, l15_4_0 := fun _ _ _ _ _ _ => none, l18_4_0 := fun _ _ _ _ _ _ _ => none, l22_20_0 := fun _ _ _ _ _ _ _ _ => none, l24_3_0 := fun _ _ _ _ _ _ => none, l25_18_0 := fun _ _ _ _ _ _ => none, l28_6_0 := fun _ _ _ _ _ _ _ => none, l30_4_0 := fun _ _ _ _ _ _ _ _ => none, l33_4_0 := fun _ _ _ _ _ _ _ => none, l34_8_0 := fun _ _ _ _ _ _ _ => none, l35_14_0 := fun _ _ _ _ _ _ => none, l43_0_0 := fun _ _ _ _ => none, l47_2_0 := fun _ _ _ _ _ _ _ => none, l51_2_0 := fun _ _ _ _ _ _ _ => none, l58_2_0 := fun _ _ _ _ _ _ _ => none, l65_2_0 := fun _ _ _ _ _ _ => none, l80_2_0 := fun _ _ _ _ _ _ _ => none, l82_4_0 := fun _ _ _ _ _ _ => none, l84_1_0 := fun _ _ _ _ => none }
  | k + 1 => {c3_0 := Gc3_0 (Tabs k), c4_0 := Gc4_0 (Tabs k), c5_0 := Gc5_0 (Tabs k), c6_0 := Gc6_0 (Tabs k), c9_0 := Gc9_0 (Tabs k), c10_0 := Gc10_0 (Tabs k), c11_0 := Gc11_0 (Tabs k), c12_0 := Gc12_0 (Tabs k), c13_0 := Gc13_0 (Tabs k), c14_0 := Gc14_0 (Tabs k), c15_0 := Gc15_0 (Tabs k), c16_0 := Gc16_0 (Tabs k), c17_0 := Gc17_0 (Tabs k), c18_0 := Gc18_0 (Tabs k), c19_0 := Gc19_0 (Tabs k), c22_0 := Gc22_0 (Tabs k), c23_0 := Gc23_0 (Tabs k), c24_0 := Gc24_0 (Tabs k), c25_0 := Gc25_0 (Tabs k), c26_0 := Gc26_0 (Tabs k), c27_0 := Gc27_0 (Tabs k), c28_0 := Gc28_0 (Tabs k), c30_0 := Gc30_0 (Tabs k), c31_0 := Gc31_0 (Tabs k), c32_0 := Gc32_0 (Tabs k), c33_0 := Gc33_0 (Tabs k), c34_0 := Gc34_0 (Tabs k), c34_1 := Gc34_1 (Tabs k), c34_2 := Gc34_2 (Tabs k), c35_0 := Gc35_0 (Tabs k), c35_1 := Gc35_1 (Tabs k), c35_2 := Gc35_2 (Tabs k), c40_0 := Gc40_0 (Tabs k), c41_0 := Gc41_0 (Tabs k), c42_0 := Gc42_0 (Tabs k), c43_0 := Gc43_0 (Tabs k), c44_0 := Gc44_0 (Tabs k), c45_0 := Gc45_0 (Tabs k), c46_0 := Gc46_0 (Tabs k), c47_0 := Gc47_0 (Tabs k), c48_0 := Gc48_0 (Tabs k), c49_0 := Gc49_0 (Tabs k), c50_0 := Gc50_0 (Tabs k), c51_0 := Gc51_0 (Tabs k), c54_0 := Gc54_0 (Tabs k), c57_0 := Gc57_0 (Tabs k), c58_0 := Gc58_0 (Tabs k), c59_0 := Gc59_0 (Tabs k), c60_0 := Gc60_0 (Tabs k), c61_0 := Gc61_0 (Tabs k), c62_0 := Gc62_0 (Tabs k), c63_0 := Gc63_0 (Tabs k), c64_0 := Gc64_0 (Tabs k), c65_0 := Gc65_0 (Tabs k), c66_0 := Gc66_0 (Tabs k), c67_0 := Gc67_0 (Tabs k), c68_0 := Gc68_0 (Tabs k), c69_0 := Gc69_0 (Tabs k), c70_0 := Gc70_0 (Tabs k), c71_0 := Gc71_0 (Tabs k), c72_0 := Gc72_0 (Tabs k), c73_0 := Gc73_0 (Tabs k), c74_0 := Gc74_0 (Tabs k), c75_0 := Gc75_0 (Tabs k), c76_0 := Gc76_0 (Tabs k), c77_0 := Gc77_0 (Tabs k), c78_0 := Gc78_0 (Tabs k), c79_0 := Gc79_0 (Tabs k), c80_0 := Gc80_0 (Tabs k), c82_0 := Gc82_0 (Tabs k), c82_1 := Gc82_1 (Tabs k), c83_0 := Gc83_0 (Tabs k), c84_0 := Gc84_0 (Tabs k), c86_0 := Gc86_0 (Tabs k), c87_0 := Gc87_0 (Tabs k), c88_0 := Gc88_0 (Tabs k), c89_0 := Gc89_0 (Tabs k), c90_0 := Gc90_0 (Tabs k), c92_0 := Gc92_0 (Tabs k), c93_0 := Gc93_0 (Tabs k), l15_4_0 := Gl15_4_0 (Tabs k), l18_4_0 := Gl18_4_0 (Tabs k), l22_20_0 := Gl22_20_0 (Tabs k), l24_3_0 := Gl24_3_0 (Tabs k), l25_18_0 := Gl25_18_0 (Tabs k), l28_6_0 := Gl28_6_0 (Tabs k), l30_4_0 := Gl30_4_0 (Tabs k), l33_4_0 := Gl33_4_0 (Tabs k), l34_8_0 := Gl34_8_0 (Tabs k), l35_14_0 := Gl35_14_0 (Tabs k), l43_0_0 := Gl43_0_0 (Tabs k), l47_2_0 := Gl47_2_0 (Tabs k), l51_2_0 := Gl51_2_0 (Tabs k), l58_2_0 := Gl58_2_0 (Tabs k), l65_2_0 := Gl65_2_0 (Tabs k), l80_2_0 := Gl80_2_0 (Tabs k), l82_4_0 := Gl82_4_0 (Tabs k), l84_1_0 := Gl84_1_0 (Tabs k) }

def PK : Parks := fun f np key kd =>
  bif Nat.beq f 15 && (Nat.beq np 0 && (Nat.beq key 4 && Nat.beq kd 0)) then (([(2, .raw), (3, .raw), (5, .raw)], []) : Seen2) else
  bif Nat.beq f 15 && (Nat.beq np 0 && (Nat.beq key 4 && Nat.beq kd 1)) then (([(4, .raw)], []) : Seen2) else
  bif Nat.beq f 15 && (Nat.beq np 0 && (Nat.beq key 4 && Nat.beq kd 3)) then (([], []) : Seen2) else
  bif Nat.beq f 18 && (Nat.beq np 0 && (Nat.beq key 4 && Nat.beq kd 0)) then (([(0, .raw), (1, .raw), (12, .raw), (13, .raw)], []) : Seen2) else
  bif Nat.beq f 18 && (Nat.beq np 0 && (Nat.beq key 4 && Nat.beq kd 1)) then (([(4, .raw)], []) : Seen2) else
  bif Nat.beq f 18 && (Nat.beq np 0 && (Nat.beq key 4 && Nat.beq kd 3)) then (([], []) : Seen2) else
  bif Nat.beq f 22 && (Nat.beq np 1 && (Nat.beq key 20 && Nat.beq kd 0)) then (([(1, .raw), (2, .raw), (59, .raw), (60, .raw), (61, .raw)], []) : Seen2) else
  bif Nat.beq f 22 && (Nat.beq np 1 && (Nat.beq key 20 && Nat.beq kd 1)) then (([(6, .raw)], []) : Seen2) else
  bif Nat.beq f 22 && (Nat.beq np 1 && (Nat.beq key 20 && Nat.beq kd 4)) then (([], []) : Seen2) else
  bif Nat.beq f 24 && (Nat.beq np 0 && (Nat.beq key 3 && Nat.beq kd 0)) then (([(1, .raw), (2, .raw), (5, .raw), (6, .raw)], []) : Seen2) else
  bif Nat.beq f 24 && (Nat.beq np 0 && (Nat.beq key 3 && Nat.beq kd 3)) then (([(1, .raw), (5, .raw)], []) : Seen2) else
  bif Nat.beq f 25 && (Nat.beq np 0 && (Nat.beq key 18 && Nat.beq kd 0)) then (([(1, .raw), (2, .raw), (7, .raw)], []) : Seen2) else
  bif Nat.beq f 25 && (Nat.beq np 0 && (Nat.beq key 18 && Nat.beq kd 1)) then (([(4, .raw)], []) : Seen2) else
  bif Nat.beq f 25 && (Nat.beq np 0 && (Nat.beq key 18 && Nat.beq kd 4)) then (([], []) : Seen2) else
  bif Nat.beq f 28 && (Nat.beq np 0 && (Nat.beq key 6 && Nat.beq kd 0)) then (([(0, .raw), (5, .raw), (6, .own)], []) : Seen2) else
  bif Nat.beq f 28 && (Nat.beq np 0 && (Nat.beq key 6 && Nat.beq kd 1)) then (([(2, .raw), (3, .raw), (4, .raw)], []) : Seen2) else
  bif Nat.beq f 28 && (Nat.beq np 0 && (Nat.beq key 6 && Nat.beq kd 3)) then (([(0, .raw), (6, .own)], []) : Seen2) else
  bif Nat.beq f 30 && (Nat.beq np 1 && (Nat.beq key 4 && Nat.beq kd 0)) then (([(0, .raw), (2, .raw), (3, .raw), (4, .raw)], [[], [], [.raw, .raw, .norm]]) : Seen2) else
  bif Nat.beq f 30 && (Nat.beq np 1 && (Nat.beq key 4 && Nat.beq kd 2)) then (([(2, .raw)], []) : Seen2) else
  bif Nat.beq f 30 && (Nat.beq np 1 && (Nat.beq key 4 && Nat.beq kd 4)) then (([(2, .raw), (3, .raw)], []) : Seen2) else
  bif Nat.beq f 33 && (Nat.beq np 0 && (Nat.beq key 4 && Nat.beq kd 0)) then (([(1, .raw), (2, .raw), (15, .raw), (16, .raw), (17, .raw)], []) : Seen2) else
  bif Nat.beq f 33 && (Nat.beq np 0 && (Nat.beq key 4 && Nat.beq kd 1)) then (([(6, .raw)], []) : Seen2) else
  bif Nat.beq f 33 && (Nat.beq np 0 && (Nat.beq key 4 && Nat.beq kd 3)) then (([], []) : Seen2) else
  bif Nat.beq f 34 && (Nat.beq np 0 && (Nat.beq key 8 && Nat.beq kd 0)) then (([(1, .norm), (2, .own), (53, .raw), (54, .raw), (55, .raw)], []) : Seen2) else
  bif Nat.beq f 34 && (Nat.beq np 0 && (Nat.beq key 8 && Nat.beq kd 4)) then (([(2, .own)], []) : Seen2) else
  bif Nat.beq f 35 && (Nat.beq np 0 && (Nat.beq key 14 && Nat.beq kd 0)) then (([(1, .norm), (2, .own), (3, .raw), (8, .raw)], []) : Seen2) else
  bif Nat.beq f 35 && (Nat.beq np 0 && (Nat.beq key 14 && Nat.beq kd 4)) then (([(2, .own)], []) : Seen2) else
  bif Nat.beq f 43 && (Nat.beq np 1 && (Nat.beq key 0 && Nat.beq kd 0)) then (([(0, .raw)], []) : Seen2) else
  bif Nat.beq f 43 && (Nat.beq np 1 && (Nat.beq key 0 && Nat.beq kd 3)) then (([], []) : Seen2) else
  bif Nat.beq f 47 && (Nat.beq np 1 && (Nat.beq key 2 && Nat.beq kd 0)) then (([(0, .raw), (2, .raw), (4, .raw)], [[], [], [.raw, .raw, .norm]]) : Seen2) else
  bif Nat.beq f 47 && (Nat.beq np 1 && (Nat.beq key 2 && Nat.beq kd 2)) then (([(2, .raw), (3, .raw)], []) : Seen2) else
  bif Nat.beq f 47 && (Nat.beq np 1 && (Nat.beq key 2 && Nat.beq kd 3)) then (([(0, .raw), (2, .raw), (4, .raw)], []) : Seen2) else
  bif Nat.beq f 51 && (Nat.beq np 0 && (Nat.beq key 2 && Nat.beq kd 0)) then (([(1, .raw), (7, .raw), (8, .raw), (9, .raw)], []) : Seen2) else
  bif Nat.beq f 51 && (Nat.beq np 0 && (Nat.beq key 2 && Nat.beq kd 1)) then (([(4, .raw)], []) : Seen2) else
  bif Nat.beq f 51 && (Nat.beq np 0 && (Nat.beq key 2 && Nat.beq kd 3)) then (([], []) : Seen2) else
  bif Nat.beq f 58 && (Nat.beq np 0 && (Nat.beq key 2 && Nat.beq kd 0)) then (([(0, .raw), (1, .raw), (7, .raw), (8, .raw)], []) : Seen2) else
  bif Nat.beq f 58 && (Nat.beq np 0 && (Nat.beq key 2 && Nat.beq kd 1)) then (([(4, .raw)], []) : Seen2) else
  bif Nat.beq f 58 && (Nat.beq np 0 && (Nat.beq key 2 && Nat.beq kd 3)) then (([], []) : Seen2) else
  bif Nat.beq f 65 && (Nat.beq np 1 && (Nat.beq key 2 && Nat.beq kd 0)) then (([(0, .raw), (1, .raw), (5, .raw)], []) : Seen2) else
  bif Nat.beq f 65 && (Nat.beq np 1 && (Nat.beq key 2 && Nat.beq kd 3)) then (([(0, .raw), (1, .raw), (5, .raw)], []) : Seen2) else
  bif Nat.beq f 80 && (Nat.beq np 0 && (Nat.beq key 2 && Nat.beq kd 0)) then (([(0, .raw), (1, .raw), (7, .raw), (8, .raw)], []) : Seen2) else
  bif Nat.beq f 80 && (Nat.beq np 0 && (Nat.beq key 2 && Nat.beq kd 1)) then (([(4, .raw)], []) : Seen2) else
  bif Nat.beq f 80 && (Nat.beq np 0 && (Nat.beq key 2 && Nat.beq kd 3)) then (([], []) : Seen2) else
  bif Nat.beq f 82 && (Nat.beq np 0 && (Nat.beq key 4 && Nat.beq kd 0)) then (([(0, .raw), (22, .raw), (23, .raw)], []) : Seen2) else
  bif Nat.beq f 82 && (Nat.beq np 0 && (Nat.beq key 4 && Nat.beq kd 1)) then (([(4, .raw)], []) : Seen2) else
  bif Nat.beq f 82 && (Nat.beq np 0 && (Nat.beq key 4 && Nat.beq kd 3)) then (([], []) : Seen2) else
  bif Nat.beq f 84 && (Nat.beq np 0 && (Nat.beq key 1 && Nat.beq kd 0)) then (([(0, .raw), (1, .raw)], []) : Seen2) else
  bif Nat.beq f 84 && (Nat.beq np 0 && (Nat.beq key 1 && Nat.beq kd 3)) then (([(1, .raw)], []) : Seen2) else ([], [])

def Rc3_0 (C : Tab) (ρ : Type) (args : List (PV sig)) (m : Mem sig) (K : Res sig × Mem sig → Option ρ) : Option ρ :=
  uC args fun x0 x1 => uRw .d x0 fun a1 => u0 x1 <| uE m <| C.c3_0 ρ a1 (fun (y0 : Bool) => K (.ret (.d (.bool y0)), []))

def Rc4_0 (C : Tab) (ρ : Type) (args : List (PV sig)) (m : Mem sig) (K : Res sig × Mem sig → Option ρ) : Option ρ :=
  uC args fun x0 x1 => uRw .d x0 fun a1 => uC x1 fun x2 x3 => uRw .d x2 fun a2 => u0 x3 <| uE m <| C.c4_0 ρ a1 a2 (fun (y0 : Bool) => K (.ret (.d (.bool y0)), []))

def Rc5_0 (C : Tab) (ρ : Type) (args : List (PV sig)) (m : Mem sig) (K : Res sig × Mem sig → Option ρ) : Option ρ :=
  uC args fun x0 x1 => uRw .d x0 fun a1 => uC x1 fun x2 x3 => uRw .d x2 fun a2 => uC x3 fun x4 x5 => uRw .d x4 fun a3 => u0 x5 <| uE m <| C.c5_0 ρ a1 a2 a3 (fun (y0 : Bool) => K (.ret (.d (.bool y0)), []))

def Rc6_0 (C : Tab) (ρ : Type) (args : List (PV sig)) (m : Mem sig) (K : Res sig × Mem sig → Option ρ) : Option ρ :=
  uC args fun x0 x1 => uRw .d x0 fun a1 => u0 x1 <| uE m <| C.c6_0 ρ a1 (fun (y0 : Bool) => K (.ret (.d (.bool y0)), []))

def Rc9_0 (C : Tab) (ρ : Type) (args : List (PV sig)) (m : Mem sig) (K : Res sig × Mem sig → Option ρ) : Option ρ :=
  uC args fun x0 x1 => uRw .d x0 fun a1 => u0 x1 <| uE m <| C.c9_0 ρ a1 (fun (y0 : Int) => K (.ret (.d (.int .i64 y0)), []))

def Rc10_0 (C : Tab) (ρ : Type) (args : List (PV sig)) (m : Mem sig) (K : Res sig × Mem sig → Option ρ) : Option ρ :=
  uC args fun x0 x1 => uRw .d x0 fun a1 => u0 x1 <| uE m <| C.c10_0 ρ a1 (fun (y0 : ByteArray) (y1 : Int) => K (.ret (.tup [.d (.str y0), .d (.int .i64 y1)]), []))

def Rc11_0 (C : Tab) (ρ : Type) (args : List (PV sig)) (m : Mem sig) (K : Res sig × Mem sig → Option ρ) : Option ρ :=
  uC args fun x0 x1 => uRw .d x0 fun a1 => u0 x1 <| uE m <| C.c11_0 ρ a1 (fun (y0 : Bool) => K (.ret (.d (.bool y0)), []))

def Rc12_0 (C : Tab) (ρ : Type) (args : List (PV sig)) (m : Mem sig) (K : Res sig × Mem sig → Option ρ) : Option ρ :=
  u0 args <| uE m <| C.c12_0 ρ (fun (y0 : Bool) => K (.ret (.d (.bool y0)), []))

def Rc13_0 (C : Tab) (ρ : Type) (args : List (PV sig)) (m : Mem sig) (K : Res sig × Mem sig → Option ρ) : Option ρ :=
  uC args fun x0 x1 => uRw .d x0 fun a1 => u0 x1 <| uE m <| C.c13_0 ρ a1 (fun (y0 : ByteArray) => K (.ret (.d (.str y0)), []))

def Rc14_0 (C : Tab) (ρ : Type) (args : List (PV sig)) (m : Mem sig) (K : Res sig × Mem sig → Option ρ) : Option ρ :=
  uC args fun x0 x1 => uStr x0 fun a1 => u0 x1 <| uE m <| C.c14_0 ρ a1 (fun (y0 : Rw) (y1 : Int) (y2 : Int) => K (.ret (.tup [.agg [.d (.int .i64 y0.op), .d (.str y0.name), .d (.sl Key.raw y0.args)], .d (.int .i64 y1), .d (.int .i64 y2)]), []))

def Rc15_0 (C : Tab) (ρ : Type) (args : List (PV sig)) (m : Mem sig) (K : Res sig × Mem sig → Option ρ) : Option ρ :=
  uC args fun x0 x1 => uRw .d x0 fun a1 => uC x1 fun x2 x3 => uRw .d x2 fun a2 => u0 x3 <| uE m <| C.c15_0 ρ a1 a2 (fun (y0 : Bool) => K (.ret (.d (.bool y0)), []))

def Rc16_0 (C : Tab) (ρ : Type) (args : List (PV sig)) (m : Mem sig) (K : Res sig × Mem sig → Option ρ) : Option ρ :=
  uC args fun x0 x1 => uRw .d x0 fun a1 => uC x1 fun x2 x3 => uRw .d x2 fun a2 => u0 x3 <| uE m <| C.c16_0 ρ a1 a2 (fun (y0 : Bool) => K (.ret (.d (.bool y0)), []))

def Rc17_0 (C : Tab) (ρ : Type) (args : List (PV sig)) (m : Mem sig) (K : Res sig × Mem sig → Option ρ) : Option ρ :=
  uC args fun x0 x1 => uRw .d x0 fun a1 => u0 x1 <| uE m <| C.c17_0 ρ a1 (fun (y0 : List ByteArray) (y1 : Int) => K (.ret (.tup [.d (.sl Key.str y0), .d (.int .i64 y1)]), []))

def Rc18_0 (C : Tab) (ρ : Type) (args : List (PV sig)) (m : Mem sig) (K : Res sig × Mem sig → Option ρ) : Option ρ :=
  uC args fun x0 x1 => uS (S := sig) .d Key.str x0 fun (a1 : List ByteArray) => uC x1 fun x2 x3 => uS (S := sig) .d Key.str x2 fun (a2 : List ByteArray) => u0 x3 <| uE m <| C.c18_0 ρ a1 a2 (fun (y0 : Bool) => K (.ret (.d (.bool y0)), []))

def Rc19_0 (C : Tab) (ρ : Type) (args : List (PV sig)) (m : Mem sig) (K : Res sig × Mem sig → Option ρ) : Option ρ :=
  uC args fun x0 x1 => uRw .d x0 fun a1 => u0 x1 <| uE m <| C.c19_0 ρ a1 (fun (y0 : List ByteArray) => K (.ret (.own Key.str y0), [])) (fun (y0 : List ByteArray) => K (.ret (.d (.sl Key.str y0)), []))

def Rc22_0 (C : Tab) (ρ : Type) (args : List (PV sig)) (m : Mem sig) (K : Res sig × Mem sig → Option ρ) : Option ρ :=
  uC args fun x0 x1 => uRw .d x0 fun a1 => uC x1 fun x2 x3 => uI .i64 x2 fun a2 => uC x3 fun x4 x5 => uP 0 0 x4 <| u0 x5 <| uM m fun x7 x6 => uC x7 fun x8 x9 => uI .i64 x8 fun a3 => u0 x9 <| uE x6 <| C.c22_0 ρ a1 a2 a3 (fun (y0 : Bool) (y1 : Int) => K (.ret (.d (.bool y0)), [some [.d (.int .i64 y1)]]))

def Rc23_0 (C : Tab) (ρ : Type) (args : List (PV sig)) (m : Mem sig) (K : Res sig × Mem sig → Option ρ) : Option ρ :=
  uC args fun x0 x1 => uRw .d x0 fun a1 => uC x1 fun x2 x3 => uS (S := sig) .d Key.int x2 fun (a2 : List Int) => u0 x3 <| uE m <| C.c23_0 ρ a1 a2 (fun (y0 : ByteArray) => K (.ret (.d (.str y0)), []))

def Rc24_0 (C : Tab) (ρ : Type) (args : List (PV sig)) (m : Mem sig) (K : Res sig × Mem sig → Option ρ) : Option ρ :=
  uC args fun x0 x1 => uRw .d x0 fun a1 => uC x1 fun x2 x3 => uI .i64 x2 fun a2 => u0 x3 <| uE m <| C.c24_0 ρ a1 a2 (fun (y0 : Int) => K (.ret (.d (.int .i64 y0)), []))

def Rc25_0 (C : Tab) (ρ : Type) (args : List (PV sig)) (m : Mem sig) (K : Res sig × Mem sig → Option ρ) : Option ρ :=
  uC args fun x0 x1 => uRw .d x0 fun a1 => uC x1 fun x2 x3 => uI .i64 x2 fun a2 => u0 x3 <| uE m <| C.c25_0 ρ a1 a2 (fun (y0 : Bool) => K (.ret (.d (.bool y0)), []))

def Rc26_0 (C : Tab) (ρ : Type) (args : List (PV sig)) (m : Mem sig) (K : Res sig × Mem sig → Option ρ) : Option ρ :=
  uC args fun x0 x1 => uStr x0 fun a1 => uC x1 fun x2 x3 => uB x2 fun a2 => u0 x3 <| uE m <| C.c26_0 ρ a1 a2 (fun (y0 : ByteArray) => K (.ret (.d (.str y0)), []))

def Rc27_0 (C : Tab) (ρ : Type) (args : List (PV sig)) (m : Mem sig) (K : Res sig × Mem sig → Option ρ) : Option ρ :=
  uC args fun x0 x1 => uRw .d x0 fun a1 => u0 x1 <| uE m <| C.c27_0 ρ a1 (fun (y0 : Bool) => K (.ret (.d (.bool y0)), []))

def Rc28_0 (C : Tab) (ρ : Type) (args : List (PV sig)) (m : Mem sig) (K : Res sig × Mem sig → Option ρ) : Option ρ :=
  uC args fun x0 x1 => uStr x0 fun a1 => u0 x1 <| uE m <| C.c28_0 ρ a1 (fun (y0 : List Tok) (y1 : Int) (y2 : Int) => K (.ret (.tup [.d (.sl Key.tok y0), .d (.int .i64 y1), .d (.int .i64 y2)]), []))

def Rc30_0 (C : Tab) (ρ : Type) (args : List (PV sig)) (m : Mem sig) (K : Res sig × Mem sig → Option ρ) : Option ρ :=
  uC args fun x0 x1 => uP 0 0 x0 <| u0 x1 <| uM m fun x3 x2 => uC x3 fun x4 x5 => uS (S := sig) .d Key.tok x4 fun (a1 : List Tok) => uC x5 fun x6 x7 => uI .i64 x6 fun a2 => u0 x7 <| uE x2 <| C.c30_0 ρ a1 a2 (fun (y0 : Rw) (y1 : List Tok) (y2 : Int) => K (.ret (.agg [.d (.int .i64 y0.op), .d (.str y0.name), .d (.sl Key.raw y0.args)]), [some [.d (.sl Key.tok y1), .d (.int .i64 y2)]])) (fun (y0 : Int) (y1 : Int) (y2 : List Tok) (y3 : Int) => K (.pan (.iface 90 (.agg [.d (.int .i64 y0), .d (.int .i64 y1)])), [some [.d (.sl Key.tok y2), .d (.int .i64 y3)]]))

def Rc31_0 (C : Tab) (ρ : Type) (args : List (PV sig)) (m : Mem sig) (K : Res sig × Mem sig → Option ρ) : Option ρ :=
  uC args fun x0 x1 => uP 0 0 x0 <| u0 x1 <| uM m fun x3 x2 => uC x3 fun x4 x5 => uS (S := sig) .d Key.tok x4 fun (a1 : List Tok) => uC x5 fun x6 x7 => uI .i64 x6 fun a2 => u0 x7 <| uE x2 <| C.c31_0 ρ a1 a2 (fun (y0 : Tok) (y1 : List Tok) (y2 : Int) => K (.ret (.agg [.d (.int .i64 y0.kind), .d (.str y0.text), .d (.int .i64 (y0.at_))]), [some [.d (.sl Key.tok y1), .d (.int .i64 y2)]]))

def Rc32_0 (C : Tab) (ρ : Type) (args : List (PV sig)) (m : Mem sig) (K : Res sig × Mem sig → Option ρ) : Option ρ :=
  uC args fun x0 x1 => uP 0 0 x0 <| u0 x1 <| uM m fun x3 x2 => uC x3 fun x4 x5 => uS (S := sig) .d Key.tok x4 fun (a1 : List Tok) => uC x5 fun x6 x7 => uI .i64 x6 fun a2 => u0 x7 <| uE x2 <| C.c32_0 ρ a1 a2 (fun (y0 : Int) (y1 : Int) (y2 : List Tok) (y3 : Int) => K (.pan (.iface 90 (.agg [.d (.int .i64 y0), .d (.int .i64 y1)])), [some [.d (.sl Key.tok y2), .d (.int .i64 y3)]]))

def Rc33_0 (C : Tab) (ρ : Type) (args : List (PV sig)) (m : Mem sig) (K : Res sig × Mem sig → Option ρ) : Option ρ :=
  uC args fun x0 x1 => uS (S := sig) .d Key.raw x0 fun (a1 : List Rw) => uC x1 fun x2 x3 => uS (S := sig) .d Key.raw x2 fun (a2 : List Rw) => uC x3 fun x4 x5 => uFn 16 x4 fun x6 x7 => u0 x6 <| u0 x7 <| u0 x5 <| uE m <| C.c33_0 ρ a1 a2 (fun (y0 : Bool) => K (.ret (.d (.bool y0)), []))

def Rc34_0 (C : Tab) (ρ : Type) (args : List (PV sig)) (m : Mem sig) (K : Res sig × Mem sig → Option ρ) : Option ρ :=
  uC args fun x0 x1 => uRw .d x0 fun a1 => uC x1 fun x2 x3 => uS (S := sig) .full Key.str x2 fun (a2 : List ByteArray) => uC x3 fun x4 x5 => uS (S := sig) .full Key.str x4 fun (a3 : List ByteArray) => u0 x5 <| uE m <| C.c34_0 ρ a1 a2 a3 (fun (y0 : List ByteArray) => K (.ret (.own Key.str y0), []))

def Rc34_1 (C : Tab) (ρ : Type) (args : List (PV sig)) (m : Mem sig) (K : Res sig × Mem sig → Option ρ) : Option ρ :=
  uC args fun x0 x1 => uRw .d x0 fun a1 => uC x1 fun x2 x3 => uS (S := sig) .d Key.str x2 fun (a2 : List ByteArray) => uC x3 fun x4 x5 => uS (S := sig) .own Key.str x4 fun (a3 : List ByteArray) => u0 x5 <| uE m <| C.c34_1 ρ a1 a2 a3 (fun (y0 : List ByteArray) => K (.ret (.own Key.str y0), []))

def Rc34_2 (C : Tab) (ρ : Type) (args : List (PV sig)) (m : Mem sig) (K : Res sig × Mem sig → Option ρ) : Option ρ :=
  uC args fun x0 x1 => uRw .d x0 fun a1 => uC x1 fun x2 x3 => uS (S := sig) .own Key.str x2 fun (a2 : List ByteArray) => uC x3 fun x4 x5 => uS (S := sig) .own Key.str x4 fun (a3 : List ByteArray) => u0 x5 <| uE m <| C.c34_2 ρ a1 a2 a3 (fun (y0 : List ByteArray) => K (.ret (.own Key.str y0), []))

def Rc35_0 (C : Tab) (ρ : Type) (args : List (PV sig)) (m : Mem sig) (K : Res sig × Mem sig → Option ρ) : Option ρ :=
  uC args fun x0 x1 => uRw .d x0 fun a1 => uC x1 fun x2 x3 => uS (S := sig) .full Key.str x2 fun (a2 : List ByteArray) => uC x3 fun x4 x5 => uS (S := sig) .full Key.str x4 fun (a3 : List ByteArray) => u0 x5 <| uE m <| C.c35_0 ρ a1 a2 a3 (fun (y0 : List ByteArray) => K (.ret (.own Key.str y0), [])) (fun (y0 : List ByteArray) => K (.ret (.full Key.str y0), []))

def Rc35_1 (C : Tab) (ρ : Type) (args : List (PV sig)) (m : Mem sig) (K : Res sig × Mem sig → Option ρ) : Option ρ :=
  uC args fun x0 x1 => uRw .d x0 fun a1 => uC x1 fun x2 x3 => uS (S := sig) .d Key.str x2 fun (a2 : List ByteArray) => uC x3 fun x4 x5 => uS (S := sig) .own Key.str x4 fun (a3 : List ByteArray) => u0 x5 <| uE m <| C.c35_1 ρ a1 a2 a3 (fun (y0 : List ByteArray) => K (.ret (.own Key.str y0), []))

def Rc35_2 (C : Tab) (ρ : Type) (args : List (PV sig)) (m : Mem sig) (K : Res sig × Mem sig → Option ρ) : Option ρ :=
  uC args fun x0 x1 => uRw .d x0 fun a1 => uC x1 fun x2 x3 => uS (S := sig) .d Key.str x2 fun (a2 : List ByteArray) => uC x3 fun x4 x5 => uS (S := sig) .full Key.str x4 fun (a3 : List ByteArray) => u0 x5 <| uE m <| C.c35_2 ρ a1 a2 a3 (fun (y0 : List ByteArray) => K (.ret (.own Key.str y0), [])) (fun (y0 : List ByteArray) => K (.ret (.full Key.str y0), []))

def Rc40_0 (C : Tab) (ρ : Type) (args : List (PV sig)) (m : Mem sig) (K : Res sig × Mem sig → Option ρ) : Option ρ :=
  uC args fun x0 x1 => uStr x0 fun a1 => u0 x1 <| uE m <| C.c40_0 ρ a1 (fun (y0 : Bool) => K (.ret (.d (.bool y0)), []))

def Rc41_0 (C : Tab) (ρ : Type) (args : List (PV sig)) (m : Mem sig) (K : Res sig × Mem sig → Option ρ) : Option ρ :=
  uC args fun x0 x1 => uS (S := sig) .d Key.int x0 fun (a1 : List Int) => uC x1 fun x2 x3 => uI .i64 x2 fun a2 => u0 x3 <| uE m <| C.c41_0 ρ a1 a2 (fun (y0 : Bool) => K (.ret (.d (.bool y0)), []))

def Rc42_0 (C : Tab) (ρ : Type) (args : List (PV sig)) (m : Mem sig) (K : Res sig × Mem sig → Option ρ) : Option ρ :=
  uC args fun x0 x1 => uStr x0 fun a1 => u0 x1 <| uE m <| C.c42_0 ρ a1 (fun (y0 : Bool) => K (.ret (.d (.bool y0)), []))

def Rc43_0 (C : Tab) (ρ : Type) (args : List (PV sig)) (m : Mem sig) (K : Res sig × Mem sig → Option ρ) : Option ρ :=
  uC args fun x0 x1 => uP 0 0 x0 <| u0 x1 <| uM m fun x3 x2 => uC x3 fun x4 x5 => uStr x4 fun a1 => uC x5 fun x6 x7 => uI .i64 x6 fun a2 => u0 x7 <| uE x2 <| C.c43_0 ρ a1 a2 (fun (y0 : ByteArray) (y1 : Int) => K (.ret (.tup []), [some [.d (.str y0), .d (.int .i64 y1)]]))

def Rc44_0 (C : Tab) (ρ : Type) (args : List (PV sig)) (m : Mem sig) (K : Res sig × Mem sig → Option ρ) : Option ρ :=
  uC args fun x0 x1 => uI .u8 x0 fun a1 => u0 x1 <| uE m <| C.c44_0 ρ a1 (fun (y0 : Int) => K (.ret (.fn (.func 64) [] [.ptr 1 0]), [some [.d (.int .u8 y0)], some [.fn (.func 62) [] []]])) (fun (y0 : Int) => K (.ret (.fn (.func 67) [] [.ptr 1 0]), [some [.d (.int .u8 y0)], some [.fn (.func 62) [] []]])) (fun (y0 : Int) => K (.ret (.fn (.func 69) [] [.ptr 1 0]), [some [.d (.int .u8 y0)], some [.fn (.func 62) [] []]])) (fun (y0 : Int) => K (.ret (.fn (.func 71) [] [.ptr 1 0]), [some [.d (.int .u8 y0)], some [.fn (.func 62) [] []]])) (fun (y0 : Int) => K (.ret (.fn (.func 72) [] [.ptr 1 0]), [some [.d (.int .u8 y0)], some [.fn (.func 62) [] []]])) (K (.ret (.fn (.func 73) [] []), [])) (fun (y0 : Int) => K (.ret (.fn (.func 74) [] [.ptr 1 0]), [some [.d (.int .u8 y0)], some [.fn (.func 62) [] []]])) (fun (y0 : Int) => K (.ret (.fn (.func 75) [] [.ptr 1 0, .ptr 0 0]), [some [.d (.int .u8 y0)], some [.fn (.func 62) [] []]]))

def Rc45_0 (C : Tab) (ρ : Type) (args : List (PV sig)) (m : Mem sig) (K : Res sig × Mem sig → Option ρ) : Option ρ :=
  uC args fun x0 x1 => uP 0 0 x0 <| uC x1 fun x2 x3 => uS (S := sig) .d Key.str x2 fun (a1 : List ByteArray) => u0 x3 <| uM m fun x5 x4 => uC x5 fun x6 x7 => uS (S := sig) .d Key.tok x6 fun (a2 : List Tok) => uC x7 fun x8 x9 => uI .i64 x8 fun a3 => u0 x9 <| uE x4 <| C.c45_0 ρ a1 a2 a3 (fun (y0 : Bool) (y1 : List Tok) (y2 : Int) => K (.ret (.d (.bool y0)), [some [.d (.sl Key.tok y1), .d (.int .i64 y2)]]))

def Rc46_0 (C : Tab) (ρ : Type) (args : List (PV sig)) (m : Mem sig) (K : Res sig × Mem sig → Option ρ) : Option ρ :=
  uC args fun x0 x1 => uP 0 0 x0 <| u0 x1 <| uM m fun x3 x2 => uC x3 fun x4 x5 => uS (S := sig) .d Key.tok x4 fun (a1 : List Tok) => uC x5 fun x6 x7 => uI .i64 x6 fun a2 => u0 x7 <| uE x2 <| C.c46_0 ρ a1 a2 (fun (y0 : Rw) (y1 : List Tok) (y2 : Int) => K (.ret (.agg [.d (.int .i64 y0.op), .d (.str y0.name), .d (.sl Key.raw y0.args)]), [some [.d (.sl Key.tok y1), .d (.int .i64 y2)]])) (fun (y0 : Int) (y1 : Int) (y2 : List Tok) (y3 : Int) => K (.pan (.iface 90 (.agg [.d (.int .i64 y0), .d (.int .i64 y1)])), [some [.d (.sl Key.tok y2), .d (.int .i64 y3)]]))

def Rc47_0 (C : Tab) (ρ : Type) (args : List (PV sig)) (m : Mem sig) (K : Res sig × Mem sig → Option ρ) : Option ρ :=
  uC args fun x0 x1 => uP 0 0 x0 <| u0 x1 <| uM m fun x3 x2 => uC x3 fun x4 x5 => uS (S := sig) .d Key.tok x4 fun (a1 : List Tok) => uC x5 fun x6 x7 => uI .i64 x6 fun a2 => u0 x7 <| uE x2 <| C.c47_0 ρ a1 a2 (fun (y0 : Rw) (y1 : Bool) (y2 : List Tok) (y3 : Int) => K (.ret (.tup [.agg [.d (.int .i64 y0.op), .d (.str y0.name), .d (.sl Key.raw y0.args)], .d (.bool y1)]), [some [.d (.sl Key.tok y2), .d (.int .i64 y3)]])) (fun (y0 : Int) (y1 : Int) (y2 : List Tok) (y3 : Int) => K (.pan (.iface 90 (.agg [.d (.int .i64 y0), .d (.int .i64 y1)])), [some [.d (.sl Key.tok y2), .d (.int .i64 y3)]]))

def Rc48_0 (C : Tab) (ρ : Type) (args : List (PV sig)) (m : Mem sig) (K : Res sig × Mem sig → Option ρ) : Option ρ :=
  uC args fun x0 x1 => uS (S := sig) .d Key.str x0 fun (a1 : List ByteArray) => uC x1 fun x2 x3 => uStr x2 fun a2 => u0 x3 <| uE m <| C.c48_0 ρ a1 a2 (fun (y0 : Bool) => K (.ret (.d (.bool y0)), []))

def Rc49_0 (C : Tab) (ρ : Type) (args : List (PV sig)) (m : Mem sig) (K : Res sig × Mem sig → Option ρ) : Option ρ :=
  uC args fun x0 x1 => uRw .d x0 fun a1 => u0 x1 <| uE m <| C.c49_0 ρ a1 (fun (y0 : Bool) => K (.ret (.d (.bool y0)), []))

def Rc50_0 (C : Tab) (ρ : Type) (args : List (PV sig)) (m : Mem sig) (K : Res sig × Mem sig → Option ρ) : Option ρ :=
  uC args fun x0 x1 => uS (S := sig) .d Key.str x0 fun (a1 : List ByteArray) => u0 x1 <| uE m <| C.c50_0 ρ a1 (fun (y0 : List ByteArray) => K (.ret (.own Key.str y0), []))

def Rc51_0 (C : Tab) (ρ : Type) (args : List (PV sig)) (m : Mem sig) (K : Res sig × Mem sig → Option ρ) : Option ρ :=
  uC args fun x0 x1 => uS (S := sig) .d Key.str x0 fun (a1 : List ByteArray) => uC x1 fun x2 x3 => uStr x2 fun a2 => u0 x3 <| uE m <| C.c51_0 ρ a1 a2 (fun (y0 : Bool) => K (.ret (.d (.bool y0)), []))

def Rc54_0 (C : Tab) (ρ : Type) (args : List (PV sig)) (m : Mem sig) (K : Res sig × Mem sig → Option ρ) : Option ρ :=
  uC args fun x0 x1 => uStr x0 fun a1 => u0 x1 <| uE m <| C.c54_0 ρ a1 (fun (y0 : Bool) => K (.ret (.d (.bool y0)), []))

def Rc57_0 (C : Tab) (ρ : Type) (args : List (PV sig)) (m : Mem sig) (K : Res sig × Mem sig → Option ρ) : Option ρ :=
  uC args fun x0 x1 => uStr x0 fun a1 => u0 x1 <| uE m <| C.c57_0 ρ a1 (fun (y0 : Bool) => K (.ret (.d (.bool y0)), []))

def Rc58_0 (C : Tab) (ρ : Type) (args : List (PV sig)) (m : Mem sig) (K : Res sig × Mem sig → Option ρ) : Option ρ :=
  uC args fun x0 x1 => uS (S := sig) .d Key.int x0 fun (a1 : List Int) => uC x1 fun x2 x3 => uI .i64 x2 fun a2 => u0 x3 <| uE m <| C.c58_0 ρ a1 a2 (fun (y0 : Int) => K (.ret (.d (.int .i64 y0)), []))

def Rc59_0 (C : Tab) (ρ : Type) (args : List (PV sig)) (m : Mem sig) (K : Res sig × Mem sig → Option ρ) : Option ρ :=
  uC args fun x0 x1 => uStr x0 fun a1 => u0 x1 <| uE m <| C.c59_0 ρ a1 (fun (y0 : Bool) => K (.ret (.d (.bool y0)), []))

def Rc60_0 (C : Tab) (ρ : Type) (args : List (PV sig)) (m : Mem sig) (K : Res sig × Mem sig → Option ρ) : Option ρ :=
  uC args fun x0 x1 => uP 0 0 x0 <| uC x1 fun x2 x3 => uI .i64 x2 fun a1 => u0 x3 <| uM m fun x5 x4 => uC x5 fun x6 x7 => uStr x6 fun a2 => uC x7 fun x8 x9 => uI .i64 x8 fun a3 => u0 x9 <| uE x4 <| C.c60_0 ρ a1 a2 a3 (fun (y0 : Int) (y1 : ByteArray) (y2 : Int) => K (.ret (.d (.int .u8 y0)), [some [.d (.str y1), .d (.int .i64 y2)]]))

def Rc61_0 (C : Tab) (ρ : Type) (args : List (PV sig)) (m : Mem sig) (K : Res sig × Mem sig → Option ρ) : Option ρ :=
  uC args fun x0 x1 => uStr x0 fun a1 => uC x1 fun x2 x3 => uI .u8 x2 fun a2 => u0 x3 <| uE m <| C.c61_0 ρ a1 a2 (fun (y0 : Int) => K (.ret (.d (.int .i64 y0)), []))

def Rc62_0 (C : Tab) (ρ : Type) (args : List (PV sig)) (m : Mem sig) (K : Res sig × Mem sig → Option ρ) : Option ρ :=
  uC args fun x0 x1 => uI .i64 x0 fun a1 => uC x1 fun x2 x3 => uStr x2 fun a2 => uC x3 fun x4 x5 => uB x4 fun a3 => u0 x5 <| uE m <| C.c62_0 ρ a1 a2 a3 (fun (y0 : Int) (y1 : ByteArray) => K (.ret (.tup [.d (.int .i64 y0), .d (.str y1)]), []))

def Rc63_0 (C : Tab) (ρ : Type) (args : List (PV sig)) (m : Mem sig) (K : Res sig × Mem sig → Option ρ) : Option ρ :=
  uC args fun x0 x1 => uI .u8 x0 fun a1 => u0 x1 <| uE m <| C.c63_0 ρ a1 (fun (y0 : Bool) => K (.ret (.d (.bool y0)), []))

def Rc64_0 (C : Tab) (ρ : Type) (args : List (PV sig)) (m : Mem sig) (K : Res sig × Mem sig → Option ρ) : Option ρ :=
  uC args fun x0 x1 => uP 0 0 x0 <| uC x1 fun x2 x3 => uP 1 0 x2 <| u0 x3 <| uM m fun x5 x4 => uC x5 fun x6 x7 => uStr x6 fun a1 => uC x7 fun x8 x9 => uI .i64 x8 fun a2 => u0 x9 <| uM x4 fun x11 x10 => uC x11 fun x12 x13 => uFn 62 x12 fun x14 x15 => u0 x14 <| u0 x15 <| u0 x13 <| uE x10 <| C.c64_0 ρ a1 a2 (fun (y0 : Int) (y1 : ByteArray) (y2 : ByteArray) (y3 : Int) => K (.ret (.tup [.d (.int .i64 y0), .d (.str y1)]), [some [.d (.str y2), .d (.int .i64 y3)], some [.fn (.func 62) [] []]]))

def Rc65_0 (C : Tab) (ρ : Type) (args : List (PV sig)) (m : Mem sig) (K : Res sig × Mem sig → Option ρ) : Option ρ :=
  uC args fun x0 x1 => uP 0 0 x0 <| uC x1 fun x2 x3 => uI .i64 x2 fun a1 => u0 x3 <| uM m fun x5 x4 => uC x5 fun x6 x7 => uStr x6 fun a2 => uC x7 fun x8 x9 => uI .i64 x8 fun a3 => u0 x9 <| uE x4 <| C.c65_0 ρ a1 a2 a3 (fun (y0 : ByteArray) (y1 : ByteArray) (y2 : Int) => K (.ret (.d (.str y0)), [some [.d (.str y1), .d (.int .i64 y2)]]))

def Rc66_0 (C : Tab) (ρ : Type) (args : List (PV sig)) (m : Mem sig) (K : Res sig × Mem sig → Option ρ) : Option ρ :=
  uC args fun x0 x1 => uI .u8 x0 fun a1 => u0 x1 <| uE m <| C.c66_0 ρ a1 (fun (y0 : Bool) => K (.ret (.d (.bool y0)), []))

def Rc67_0 (C : Tab) (ρ : Type) (args : List (PV sig)) (m : Mem sig) (K : Res sig × Mem sig → Option ρ) : Option ρ :=
  uC args fun x0 x1 => uP 0 0 x0 <| uC x1 fun x2 x3 => uP 1 0 x2 <| u0 x3 <| uM m fun x5 x4 => uC x5 fun x6 x7 => uStr x6 fun a1 => uC x7 fun x8 x9 => uI .i64 x8 fun a2 => u0 x9 <| uM x4 fun x11 x10 => uC x11 fun x12 x13 => uFn 62 x12 fun x14 x15 => u0 x14 <| u0 x15 <| u0 x13 <| uE x10 <| C.c67_0 ρ a1 a2 (fun (y0 : Int) (y1 : ByteArray) (y2 : ByteArray) (y3 : Int) => K (.ret (.tup [.d (.int .i64 y0), .d (.str y1)]), [some [.d (.str y2), .d (.int .i64 y3)], some [.fn (.func 62) [] []]]))

def Rc68_0 (C : Tab) (ρ : Type) (args : List (PV sig)) (m : Mem sig) (K : Res sig × Mem sig → Option ρ) : Option ρ :=
  uC args fun x0 x1 => uI .u8 x0 fun a1 => u0 x1 <| uE m <| C.c68_0 ρ a1 (fun (y0 : Bool) => K (.ret (.d (.bool y0)), []))

def Rc69_0 (C : Tab) (ρ : Type) (args : List (PV sig)) (m : Mem sig) (K : Res sig × Mem sig → Option ρ) : Option ρ :=
  uC args fun x0 x1 => uP 0 0 x0 <| uC x1 fun x2 x3 => uP 1 0 x2 <| u0 x3 <| uM m fun x5 x4 => uC x5 fun x6 x7 => uStr x6 fun a1 => uC x7 fun x8 x9 => uI .i64 x8 fun a2 => u0 x9 <| uM x4 fun x11 x10 => uC x11 fun x12 x13 => uFn 62 x12 fun x14 x15 => u0 x14 <| u0 x15 <| u0 x13 <| uE x10 <| C.c69_0 ρ a1 a2 (fun (y0 : Int) (y1 : ByteArray) (y2 : ByteArray) (y3 : Int) => K (.ret (.tup [.d (.int .i64 y0), .d (.str y1)]), [some [.d (.str y2), .d (.int .i64 y3)], some [.fn (.func 62) [] []]]))

def Rc70_0 (C : Tab) (ρ : Type) (args : List (PV sig)) (m : Mem sig) (K : Res sig × Mem sig → Option ρ) : Option ρ :=
  uC args fun x0 x1 => uStr x0 fun a1 => u0 x1 <| uE m <| C.c70_0 ρ a1 (fun (y0 : Bool) => K (.ret (.d (.bool y0)), []))

def Rc71_0 (C : Tab) (ρ : Type) (args : List (PV sig)) (m : Mem sig) (K : Res sig × Mem sig → Option ρ) : Option ρ :=
  uC args fun x0 x1 => uP 0 0 x0 <| uC x1 fun x2 x3 => uP 1 0 x2 <| u0 x3 <| uM m fun x5 x4 => uC x5 fun x6 x7 => uStr x6 fun a1 => uC x7 fun x8 x9 => uI .i64 x8 fun a2 => u0 x9 <| uM x4 fun x11 x10 => uC x11 fun x12 x13 => uFn 62 x12 fun x14 x15 => u0 x14 <| u0 x15 <| u0 x13 <| uE x10 <| C.c71_0 ρ a1 a2 (fun (y0 : Int) (y1 : ByteArray) (y2 : ByteArray) (y3 : Int) => K (.ret (.tup [.d (.int .i64 y0), .d (.str y1)]), [some [.d (.str y2), .d (.int .i64 y3)], some [.fn (.func 62) [] []]]))

def Rc72_0 (C : Tab) (ρ : Type) (args : List (PV sig)) (m : Mem sig) (K : Res sig × Mem sig → Option ρ) : Option ρ :=
  uC args fun x0 x1 => uP 0 0 x0 <| uC x1 fun x2 x3 => uP 1 0 x2 <| u0 x3 <| uM m fun x5 x4 => uC x5 fun x6 x7 => uStr x6 fun a1 => uC x7 fun x8 x9 => uI .i64 x8 fun a2 => u0 x9 <| uM x4 fun x11 x10 => uC x11 fun x12 x13 => uFn 62 x12 fun x14 x15 => u0 x14 <| u0 x15 <| u0 x13 <| uE x10 <| C.c72_0 ρ a1 a2 (fun (y0 : Int) (y1 : ByteArray) (y2 : ByteArray) (y3 : Int) => K (.ret (.tup [.d (.int .i64 y0), .d (.str y1)]), [some [.d (.str y2), .d (.int .i64 y3)], some [.fn (.func 62) [] []]]))

def Rc73_0 (C : Tab) (ρ : Type) (args : List (PV sig)) (m : Mem sig) (K : Res sig × Mem sig → Option ρ) : Option ρ :=
  uC args fun x0 x1 => uP 0 0 x0 <| u0 x1 <| uM m fun x3 x2 => uC x3 fun x4 x5 => uStr x4 fun a1 => uC x5 fun x6 x7 => uI .i64 x6 fun a2 => u0 x7 <| uE x2 <| C.c73_0 ρ a1 a2 (fun (y0 : Int) (y1 : ByteArray) (y2 : ByteArray) (y3 : Int) => K (.ret (.tup [.d (.int .i64 y0), .d (.str y1)]), [some [.d (.str y2), .d (.int .i64 y3)]]))

def Rc74_0 (C : Tab) (ρ : Type) (args : List (PV sig)) (m : Mem sig) (K : Res sig × Mem sig → Option ρ) : Option ρ :=
  uC args fun x0 x1 => uP 0 0 x0 <| uC x1 fun x2 x3 => uP 1 0 x2 <| u0 x3 <| uM m fun x5 x4 => uC x5 fun x6 x7 => uStr x6 fun a1 => uC x7 fun x8 x9 => uI .i64 x8 fun a2 => u0 x9 <| uM x4 fun x11 x10 => uC x11 fun x12 x13 => uFn 62 x12 fun x14 x15 => u0 x14 <| u0 x15 <| u0 x13 <| uE x10 <| C.c74_0 ρ a1 a2 (fun (y0 : Int) (y1 : ByteArray) (y2 : ByteArray) (y3 : Int) => K (.ret (.tup [.d (.int .i64 y0), .d (.str y1)]), [some [.d (.str y2), .d (.int .i64 y3)], some [.fn (.func 62) [] []]]))

def Rc75_0 (C : Tab) (ρ : Type) (args : List (PV sig)) (m : Mem sig) (K : Res sig × Mem sig → Option ρ) : Option ρ :=
  uC args fun x0 x1 => uP 0 0 x0 <| uC x1 fun x2 x3 => uP 1 0 x2 <| uC x3 fun x4 x5 => uP 2 0 x4 <| u0 x5 <| uM m fun x7 x6 => uC x7 fun x8 x9 => uStr x8 fun a1 => uC x9 fun x10 x11 => uI .i64 x10 fun a2 => u0 x11 <| uM x6 fun x13 x12 => uC x13 fun x14 x15 => uFn 62 x14 fun x16 x17 => u0 x16 <| u0 x17 <| u0 x15 <| uM x12 fun x19 x18 => uC x19 fun x20 x21 => uI .u8 x20 fun a3 => u0 x21 <| uE x18 <| C.c75_0 ρ a1 a2 a3 (fun (y0 : Int) (y1 : ByteArray) (y2 : ByteArray) (y3 : Int) (y4 : Int) => K (.ret (.tup [.d (.int .i64 y0), .d (.str y1)]), [some [.d (.str y2), .d (.int .i64 y3)], some [.fn (.func 62) [] []], some [.d (.int .u8 y4)]]))

def Rc76_0 (C : Tab) (ρ : Type) (args : List (PV sig)) (m : Mem sig) (K : Res sig × Mem sig → Option ρ) : Option ρ :=
  uC args fun x0 x1 => uP 0 0 x0 <| u0 x1 <| uM m fun x3 x2 => uC x3 fun x4 x5 => uS (S := sig) .d Key.tok x4 fun (a1 : List Tok) => uC x5 fun x6 x7 => uI .i64 x6 fun a2 => u0 x7 <| uE x2 <| C.c76_0 ρ a1 a2 (fun (y0 : ByteArray) (y1 : List Tok) (y2 : Int) => K (.ret (.d (.str y0)), [some [.d (.sl Key.tok y1), .d (.int .i64 y2)]])) (fun (y0 : Int) (y1 : Int) (y2 : List Tok) (y3 : Int) => K (.pan (.iface 90 (.agg [.d (.int .i64 y0), .d (.int .i64 y1)])), [some [.d (.sl Key.tok y2), .d (.int .i64 y3)]]))

def Rc77_0 (C : Tab) (ρ : Type) (args : List (PV sig)) (m : Mem sig) (K : Res sig × Mem sig → Option ρ) : Option ρ :=
  uC args fun x0 x1 => uP 0 0 x0 <| uC x1 fun x2 x3 => uStr x2 fun a1 => u0 x3 <| uM m fun x5 x4 => uC x5 fun x6 x7 => uS (S := sig) .d Key.tok x6 fun (a2 : List Tok) => uC x7 fun x8 x9 => uI .i64 x8 fun a3 => u0 x9 <| uE x4 <| C.c77_0 ρ a1 a2 a3 (fun (y0 : List Tok) (y1 : Int) => K (.ret (.tup []), [some [.d (.sl Key.tok y0), .d (.int .i64 y1)]])) (fun (y0 : Int) (y1 : Int) (y2 : List Tok) (y3 : Int) => K (.pan (.iface 90 (.agg [.d (.int .i64 y0), .d (.int .i64 y1)])), [some [.d (.sl Key.tok y2), .d (.int .i64 y3)]]))

def Rc78_0 (C : Tab) (ρ : Type) (args : List (PV sig)) (m : Mem sig) (K : Res sig × Mem sig → Option ρ) : Option ρ :=
  uC args fun x0 x1 => uP 0 0 x0 <| u0 x1 <| uM m fun x3 x2 => uC x3 fun x4 x5 => uS (S := sig) .d Key.tok x4 fun (a1 : List Tok) => uC x5 fun x6 x7 => uI .i64 x6 fun a2 => u0 x7 <| uE x2 <| C.c78_0 ρ a1 a2 (fun (y0 : Rw) (y1 : List Tok) (y2 : Int) => K (.ret (.agg [.d (.int .i64 y0.op), .d (.str y0.name), .d (.sl Key.raw y0.args)]), [some [.d (.sl Key.tok y1), .d (.int .i64 y2)]])) (fun (y0 : Int) (y1 : Int) (y2 : List Tok) (y3 : Int) => K (.pan (.iface 90 (.agg [.d (.int .i64 y0), .d (.int .i64 y1)])), [some [.d (.sl Key.tok y2), .d (.int .i64 y3)]]))

def Rc79_0 (C : Tab) (ρ : Type) (args : List (PV sig)) (m : Mem sig) (K : Res sig × Mem sig → Option ρ) : Option ρ :=
  uC args fun x0 x1 => uP 0 0 x0 <| u0 x1 <| uM m fun x3 x2 => uC x3 fun x4 x5 => uS (S := sig) .d Key.tok x4 fun (a1 : List Tok) => uC x5 fun x6 x7 => uI .i64 x6 fun a2 => u0 x7 <| uE x2 <| C.c79_0 ρ a1 a2 (fun (y0 : Bool) (y1 : List Tok) (y2 : Int) => K (.ret (.d (.bool y0)), [some [.d (.sl Key.tok y1), .d (.int .i64 y2)]]))

def Rc80_0 (C : Tab) (ρ : Type) (args : List (PV sig)) (m : Mem sig) (K : Res sig × Mem sig → Option ρ) : Option ρ :=
  uC args fun x0 x1 => uS (S := sig) .d Key.str x0 fun (a1 : List ByteArray) => uC x1 fun x2 x3 => uStr x2 fun a2 => u0 x3 <| uE m <| C.c80_0 ρ a1 a2 (fun (y0 : Int) => K (.ret (.d (.int .i64 y0)), []))

def Rc82_0 (C : Tab) (ρ : Type) (args : List (PV sig)) (m : Mem sig) (K : Res sig × Mem sig → Option ρ) : Option ρ :=
  uC args fun x0 x1 => uStr x0 fun a1 => uC x1 fun x2 x3 => uFn 63 x2 fun x4 x5 => u0 x4 <| u0 x5 <| u0 x3 <| uE m <| C.c82_0 ρ a1 (fun (y0 : Bool) => K (.ret (.d (.bool y0)), []))

def Rc82_1 (C : Tab) (ρ : Type) (args : List (PV sig)) (m : Mem sig) (K : Res sig × Mem sig → Option ρ) : Option ρ :=
  uC args fun x0 x1 => uStr x0 fun a1 => uC x1 fun x2 x3 => uFn 66 x2 fun x4 x5 => u0 x4 <| u0 x5 <| u0 x3 <| uE m <| C.c82_1 ρ a1 (fun (y0 : Bool) => K (.ret (.d (.bool y0)), []))

def Rc83_0 (C : Tab) (ρ : Type) (args : List (PV sig)) (m : Mem sig) (K : Res sig × Mem sig → Option ρ) : Option ρ :=
  uC args fun x0 x1 => uI .u8 x0 fun a1 => u0 x1 <| uE m <| C.c83_0 ρ a1 (fun (y0 : Bool) => K (.ret (.d (.bool y0)), []))

def Rc84_0 (C : Tab) (ρ : Type) (args : List (PV sig)) (m : Mem sig) (K : Res sig × Mem sig → Option ρ) : Option ρ :=
  uC args fun x0 x1 => uStr x0 fun a1 => uC x1 fun x2 x3 => uI .i64 x2 fun a2 => u0 x3 <| uE m <| C.c84_0 ρ a1 a2 (fun (y0 : Int) => K (.ret (.d (.int .i64 y0)), []))

def Rc86_0 (C : Tab) (ρ : Type) (args : List (PV sig)) (m : Mem sig) (K : Res sig × Mem sig → Option ρ) : Option ρ :=
  uC args fun x0 x1 => uI .u8 x0 fun a1 => u0 x1 <| uE m <| C.c86_0 ρ a1 (fun (y0 : Bool) => K (.ret (.d (.bool y0)), []))

def Rc87_0 (C : Tab) (ρ : Type) (args : List (PV sig)) (m : Mem sig) (K : Res sig × Mem sig → Option ρ) : Option ρ :=
  uC args fun x0 x1 => uStr x0 fun a1 => u0 x1 <| uE m <| C.c87_0 ρ a1 (fun (y0 : Int) => K (.ret (.tup [.d (.int .i64 y0), .nilif]), [])) (fun (y0 : Int) => K (.ret (.tup [.d (.int .i64 y0), .iface 122 (.any)]), []))

def Rc88_0 (C : Tab) (ρ : Type) (args : List (PV sig)) (m : Mem sig) (K : Res sig × Mem sig → Option ρ) : Option ρ :=
  uC args fun x0 x1 => uI .i64 x0 fun a1 => u0 x1 <| uE m <| C.c88_0 ρ a1 (fun (y0 : ByteArray) => K (.ret (.d (.str y0)), []))

def Rc89_0 (C : Tab) (ρ : Type) (args : List (PV sig)) (m : Mem sig) (K : Res sig × Mem sig → Option ρ) : Option ρ :=
  uC args fun x0 x1 => uTok  x0 fun a1 => u0 x1 <| uE m <| C.c89_0 ρ a1 (fun (y0 : Bool) => K (.ret (.d (.bool y0)), []))

def Rc90_0 (C : Tab) (ρ : Type) (args : List (PV sig)) (m : Mem sig) (K : Res sig × Mem sig → Option ρ) : Option ρ :=
  uC args fun x0 x1 => uP 0 0 x0 <| u0 x1 <| uM m fun x3 x2 => uC x3 fun x4 x5 => uS (S := sig) .d Key.tok x4 fun (a1 : List Tok) => uC x5 fun x6 x7 => uI .i64 x6 fun a2 => u0 x7 <| uE x2 <| C.c90_0 ρ a1 a2 (fun (y0 : Tok) (y1 : List Tok) (y2 : Int) => K (.ret (.agg [.d (.int .i64 y0.kind), .d (.str y0.text), .d (.int .i64 (y0.at_))]), [some [.d (.sl Key.tok y1), .d (.int .i64 y2)]]))

def Rc92_0 (C : Tab) (ρ : Type) (args : List (PV sig)) (m : Mem sig) (K : Res sig × Mem sig → Option ρ) : Option ρ :=
  uC args fun x0 x1 => uI .u8 x0 fun a1 => u0 x1 <| uE m <| C.c92_0 ρ a1 (fun (y0 : Bool) => K (.ret (.d (.bool y0)), []))

def Rc93_0 (C : Tab) (ρ : Type) (args : List (PV sig)) (m : Mem sig) (K : Res sig × Mem sig → Option ρ) : Option ρ :=
  uC args fun x0 x1 => uI .u8 x0 fun a1 => u0 x1 <| uE m <| C.c93_0 ρ a1 (fun (y0 : Bool) => K (.ret (.d (.bool y0)), []))

def Rl15_4_0 (C : Tab) (ρ : Type) (vs : List (PV sig)) (m : Mem sig) (ds : List (FuncId × List (PV sig))) (nt : Nat) (K : Ex sig → St sig → Option ρ) : Option ρ :=
  uN nt 46 <| uC vs fun x0 x1 => uP 0 0 x0 <| uC x1 fun x2 x3 => uP 1 0 x2 <| uC x3 fun x4 x5 => uI .i64 x4 fun a1 => u0 x5 <| uM m fun x7 x6 => uRwL .d x7 fun a2 => uM x6 fun x9 x8 => uRwL .d x9 fun a3 => uE x8 <| uDe ds <| C.l15_4_0 ρ a1 a2 a3 (fun (y0 : Bool) => K .ret (canon [4] [.d (.bool y0)] [] [] 46)) (K (.exit 0) (canon [] [] [] [] 46))

def Rl18_4_0 (C : Tab) (ρ : Type) (vs : List (PV sig)) (m : Mem sig) (ds : List (FuncId × List (PV sig))) (nt : Nat) (K : Ex sig → St sig → Option ρ) : Option ρ :=
  uN nt 26 <| uC vs fun x0 x1 => uS (S := sig) .d Key.str x0 fun (a1 : List ByteArray) => uC x1 fun x2 x3 => uS (S := sig) .d Key.str x2 fun (a2 : List ByteArray) => uC x3 fun x4 x5 => uI .i64 x4 fun a3 => uC x5 fun x6 x7 => uI .i64 x6 fun a4 => u0 x7 <| uE m <| uDe ds <| C.l18_4_0 ρ a1 a2 a3 a4 (fun (y0 : Bool) => K .ret (canon [4] [.d (.bool y0)] [] [] 26)) (K (.exit 0) (canon [] [] [] [] 26))

def Rl22_20_0 (C : Tab) (ρ : Type) (vs : List (PV sig)) (m : Mem sig) (ds : List (FuncId × List (PV sig))) (nt : Nat) (K : Ex sig → St sig → Option ρ) : Option ρ :=
  uN nt 72 <| uC vs fun x0 x1 => uI .i64 x0 fun a1 => uC x1 fun x2 x3 => uP 0 0 x2 <| uC x3 fun x4 x5 => uS (S := sig) .d Key.raw x4 fun (a2 : List Rw) => uC x5 fun x6 x7 => uI .i64 x6 fun a3 => uC x7 fun x8 x9 => uI .i64 x8 fun a4 => u0 x9 <| uM m fun x11 x10 => uC x11 fun x12 x13 => uI .i64 x12 fun a5 => u0 x13 <| uE x10 <| uDe ds <| C.l22_20_0 ρ a1 a2 a3 a4 a5 (fun (y0 : Bool) (y1 : Int) => K .ret (canon [6] [.d (.bool y0)] [some [.d (.int .i64 y1)]] [] 72)) (fun (y0 : Int) => K (.exit 1) (canon [] [] [some [.d (.int .i64 y0)]] [] 72))

def Rl24_3_0 (C : Tab) (ρ : Type) (vs : List (PV sig)) (m : Mem sig) (ds : List (FuncId × List (PV sig))) (nt : Nat) (K : Ex sig → St sig → Option ρ) : Option ρ :=
  uN nt 34 <| uC vs fun x0 x1 => uI .i64 x0 fun a1 => uC x1 fun x2 x3 => uP 0 0 x2 <| uC x3 fun x4 x5 => uI .i64 x4 fun a2 => uC x5 fun x6 x7 => uI .i64 x6 fun a3 => u0 x7 <| uM m fun x9 x8 => uRwL .d x9 fun a4 => uE x8 <| uDe ds <| C.l24_3_0 ρ a1 a2 a3 a4 (fun (y0 : Int) (y1 : Int) => K (.exit 0) (canon [1, 5] [.d (.int .i64 y0), .d (.int .i64 y1)] [] [] 34))

def Rl25_18_0 (C : Tab) (ρ : Type) (vs : List (PV sig)) (m : Mem sig) (ds : List (FuncId × List (PV sig))) (nt : Nat) (K : Ex sig → St sig → Option ρ) : Option ρ :=
  uN nt 62 <| uC vs fun x0 x1 => uI .i64 x0 fun a1 => uC x1 fun x2 x3 => uP 0 0 x2 <| uC x3 fun x4 x5 => uI .i64 x4 fun a2 => u0 x5 <| uM m fun x7 x6 => uRwL .d x7 fun a3 => uE x6 <| uDe ds <| C.l25_18_0 ρ a1 a2 a3 (fun (y0 : Bool) => K .ret (canon [4] [.d (.bool y0)] [] [] 62)) (K (.exit 1) (canon [] [] [] [] 62))

def Rl28_6_0 (C : Tab) (ρ : Type) (vs : List (PV sig)) (m : Mem sig) (ds : List (FuncId × List (PV sig))) (nt : Nat) (K : Ex sig → St sig → Option ρ) : Option ρ :=
  uN nt 69 <| uC vs fun x0 x1 => uStr x0 fun a1 => uC x1 fun x2 x3 => uP 0 0 x2 <| uC x3 fun x4 x5 => uS (S := sig) .own Key.tok x4 fun (a2 : List Tok) => u0 x5 <| uM m fun x7 x6 => uC x7 fun x8 x9 => uStr x8 fun a3 => uC x9 fun x10 x11 => uI .i64 x10 fun a4 => u0 x11 <| uE x6 <| uDe ds <| C.l28_6_0 ρ a1 a2 a3 a4 (fun (y0 : ByteArray) (y1 : List Tok) => K (.exit 0) (canon [0, 6] [.d (.str y0), .own Key.tok y1] [] [] 69)) (fun (y0 : List Tok) (y1 : Int) (y2 : Int) => K .ret (canon [2, 3, 4] [.full Key.tok y0, .d (.int .i64 y1), .d (.int .i64 y2)] [] [] 69))

def Rl30_4_0 (C : Tab) (ρ : Type) (vs : List (PV sig)) (m : Mem sig) (ds : List (FuncId × List (PV sig))) (nt : Nat) (K : Ex sig → St sig → Option ρ) : Option ρ :=
  uN nt 63 <| uC vs fun x0 x1 => uP 0 0 x0 <| uC x1 fun x2 x3 => uP 1 0 x2 <| uC x3 fun x4 x5 => uP 2 0 x4 <| uC x5 fun x6 x7 => uB x6 fun a1 => u0 x7 <| uM m fun x9 x8 => uC x9 fun x10 x11 => uS (S := sig) .d Key.tok x10 fun (a2 : List Tok) => uC x11 fun x12 x13 => uI .i64 x12 fun a3 => u0 x13 <| uM x8 fun x15 x14 => uRwL .full x15 fun a4 => uM x14 fun x17 x16 => uRwL .d x17 fun a5 => uE x16 <| uDe ds <| C.l30_4_0 ρ a1 a2 a3 a4 a5 (fun (y0 : List Tok) (y1 : Int) (y2 : Rw) (y3 : Rw) => K (.exit 1) (canon [2, 3] [.ptr 1 0, .ptr 2 0] [some [.d (.sl Key.tok y0), .d (.int .i64 y1)], some [.d (.int .i64 y2.op), .d (.str y2.name), .full Key.raw y2.args], some [.d (.int .i64 y3.op), .d (.str y3.name), .d (.sl Key.raw y3.args)]] [] 63)) (fun (y0 : List Tok) (y1 : Int) (y2 : Rw) (y3 : Int) (y4 : Int) => K (.pan (.iface 90 (.agg [.d (.int .i64 y3), .d (.int .i64 y4)]))) (canon [2] [.ptr 1 0] [some [.d (.sl Key.tok y0), .d (.int .i64 y1)], some [.d (.int .i64 y2.op), .d (.str y2.name), .full Key.raw y2.args]] [] 63))

def Rl33_4_0 (C : Tab) (ρ : Type) (vs : List (PV sig)) (m : Mem sig) (ds : List (FuncId × List (PV sig))) (nt : Nat) (K : Ex sig → St sig → Option ρ) : Option ρ :=
  uN nt 32 <| uC vs fun x0 x1 => uS (S := sig) .d Key.raw x0 fun (a1 : List Rw) => uC x1 fun x2 x3 => uFn 16 x2 fun x4 x5 => u0 x4 <| u0 x5 <| uC x3 fun x6 x7 => uS (S := sig) .d Key.raw x6 fun (a2 : List Rw) => uC x7 fun x8 x9 => uI .i64 x8 fun a3 => uC x9 fun x10 x11 => uI .i64 x10 fun a4 => u0 x11 <| uE m <| uDe ds <| C.l33_4_0 ρ a1 a2 a3 a4 (fun (y0 : Bool) => K .ret (canon [6] [.d (.bool y0)] [] [] 32)) (K (.exit 0) (canon [] [] [] [] 32))

def Rl34_8_0 (C : Tab) (ρ : Type) (vs : List (PV sig)) (m : Mem sig) (ds : List (FuncId × List (PV sig))) (nt : Nat) (K : Ex sig → St sig → Option ρ) : Option ρ :=
  uN nt 65 <| uC vs fun x0 x1 => uS (S := sig) .d Key.str x0 fun (a1 : List ByteArray) => uC x1 fun x2 x3 => uS (S := sig) .own Key.str x2 fun (a2 : List ByteArray) => uC x3 fun x4 x5 => uS (S := sig) .d Key.raw x4 fun (a3 : List Rw) => uC x5 fun x6 x7 => uI .i64 x6 fun a4 => uC x7 fun x8 x9 => uI .i64 x8 fun a5 => u0 x9 <| uE m <| uDe ds <| C.l34_8_0 ρ a1 a2 a3 a4 a5 (fun (y0 : List ByteArray) => K (.exit 1) (canon [2] [.own Key.str y0] [] [] 65))

def Rl35_14_0 (C : Tab) (ρ : Type) (vs : List (PV sig)) (m : Mem sig) (ds : List (FuncId × List (PV sig))) (nt : Nat) (K : Ex sig → St sig → Option ρ) : Option ρ :=
  uN nt 72 <| uC vs fun x0 x1 => uS (S := sig) .d Key.str x0 fun (a1 : List ByteArray) => uC x1 fun x2 x3 => uS (S := sig) .own Key.str x2 fun (a2 : List ByteArray) => uC x3 fun x4 x5 => uP 0 0 x4 <| uC x5 fun x6 x7 => uI .i64 x6 fun a3 => u0 x7 <| uM m fun x9 x8 => uRwL .d x9 fun a4 => uE x8 <| uDe ds <| C.l35_14_0 ρ a1 a2 a3 a4 (fun (y0 : List ByteArray) => K (.exit 1) (canon [2] [.own Key.str y0] [] [] 72))

def Rl43_0_0 (C : Tab) (ρ : Type) (vs : List (PV sig)) (m : Mem sig) (ds : List (FuncId × List (PV sig))) (nt : Nat) (K : Ex sig → St sig → Option ρ) : Option ρ :=
  uN nt 102 <| uC vs fun x0 x1 => uP 0 0 x0 <| u0 x1 <| uM m fun x3 x2 => uC x3 fun x4 x5 => uStr x4 fun a1 => uC x5 fun x6 x7 => uI .i64 x6 fun a2 => u0 x7 <| uE x2 <| uDe ds <| C.l43_0_0 ρ a1 a2 (fun (y0 : ByteArray) (y1 : Int) => K (.exit 0) (canon [] [] [some [.d (.str y0), .d (.int .i64 y1)]] [] 102))

def Rl47_2_0 (C : Tab) (ρ : Type) (vs : List (PV sig)) (m : Mem sig) (ds : List (FuncId × List (PV sig))) (nt : Nat) (K : Ex sig → St sig → Option ρ) : Option ρ :=
  uN nt 23 <| uC vs fun x0 x1 => uP 0 0 x0 <| uC x1 fun x2 x3 => uP 1 0 x2 <| uC x3 fun x4 x5 => uP 2 0 x4 <| u0 x5 <| uM m fun x7 x6 => uC x7 fun x8 x9 => uS (S := sig) .d Key.tok x8 fun (a1 : List Tok) => uC x9 fun x10 x11 => uI .i64 x10 fun a2 => u0 x11 <| uM x6 fun x13 x12 => uRwL .full x13 fun a3 => uM x12 fun x15 x14 => uRwL .d x15 fun a4 => uE x14 <| uDe ds <| C.l47_2_0 ρ a1 a2 a3 a4 (fun (y0 : List Tok) (y1 : Int) (y2 : Rw) (y3 : Rw) => K (.exit 0) (canon [0, 2, 4] [.ptr 0 0, .ptr 1 0, .ptr 2 0] [some [.d (.sl Key.tok y0), .d (.int .i64 y1)], some [.d (.int .i64 y2.op), .d (.str y2.name), .full Key.raw y2.args], some [.d (.int .i64 y3.op), .d (.str y3.name), .d (.sl Key.raw y3.args)]] [] 23)) (fun (y0 : List Tok) (y1 : Int) (y2 : Rw) (y3 : Int) (y4 : Int) => K (.pan (.iface 90 (.agg [.d (.int .i64 y3), .d (.int .i64 y4)]))) (canon [2, 3] [.ptr 1 0, .any] [some [.d (.sl Key.tok y0), .d (.int .i64 y1)], some [.d (.int .i64 y2.op), .d (.str y2.name), .d (.sl Key.raw y2.args)]] [] 23))

def Rl51_2_0 (C : Tab) (ρ : Type) (vs : List (PV sig)) (m : Mem sig) (ds : List (FuncId × List (PV sig))) (nt : Nat) (K : Ex sig → St sig → Option ρ) : Option ρ :=
  uN nt 17 <| uC vs fun x0 x1 => uStr x0 fun a1 => uC x1 fun x2 x3 => uS (S := sig) .d Key.str x2 fun (a2 : List ByteArray) => uC x3 fun x4 x5 => uI .i64 x4 fun a3 => uC x5 fun x6 x7 => uI .i64 x6 fun a4 => u0 x7 <| uE m <| uDe ds <| C.l51_2_0 ρ a1 a2 a3 a4 (fun (y0 : Bool) => K .ret (canon [4] [.d (.bool y0)] [] [] 17)) (K (.exit 0) (canon [] [] [] [] 17))

def Rl58_2_0 (C : Tab) (ρ : Type) (vs : List (PV sig)) (m : Mem sig) (ds : List (FuncId × List (PV sig))) (nt : Nat) (K : Ex sig → St sig → Option ρ) : Option ρ :=
  uN nt 19 <| uC vs fun x0 x1 => uS (S := sig) .d Key.int x0 fun (a1 : List Int) => uC x1 fun x2 x3 => uI .i64 x2 fun a2 => uC x3 fun x4 x5 => uI .i64 x4 fun a3 => uC x5 fun x6 x7 => uI .i64 x6 fun a4 => u0 x7 <| uE m <| uDe ds <| C.l58_2_0 ρ a1 a2 a3 a4 (fun (y0 : Int) => K .ret (canon [4] [.d (.int .i64 y0)] [] [] 19)) (K (.exit 0) (canon [] [] [] [] 19))

def Rl65_2_0 (C : Tab) (ρ : Type) (vs : List (PV sig)) (m : Mem sig) (ds : List (FuncId × List (PV sig))) (nt : Nat) (K : Ex sig → St sig → Option ρ) : Option ρ :=
  uN nt 42 <| uC vs fun x0 x1 => uP 0 0 x0 <| uC x1 fun x2 x3 => uI .i64 x2 fun a1 => uC x3 fun x4 x5 => uI .i64 x4 fun a2 => u0 x5 <| uM m fun x7 x6 => uC x7 fun x8 x9 => uStr x8 fun a3 => uC x9 fun x10 x11 => uI .i64 x10 fun a4 => u0 x11 <| uE x6 <| uDe ds <| C.l65_2_0 ρ a1 a2 a3 a4 (fun (y0 : Int) (y1 : Int) (y2 : ByteArray) (y3 : Int) => K (.exit 0) (canon [0, 1, 5] [.ptr 0 0, .d (.int .i64 y0), .d (.int .i64 y1)] [some [.d (.str y2), .d (.int .i64 y3)]] [] 42))

def Rl80_2_0 (C : Tab) (ρ : Type) (vs : List (PV sig)) (m : Mem sig) (ds : List (FuncId × List (PV sig))) (nt : Nat) (K : Ex sig → St sig → Option ρ) : Option ρ :=
  uN nt 19 <| uC vs fun x0 x1 => uS (S := sig) .d Key.str x0 fun (a1 : List ByteArray) => uC x1 fun x2 x3 => uStr x2 fun a2 => uC x3 fun x4 x5 => uI .i64 x4 fun a3 => uC x5 fun x6 x7 => uI .i64 x6 fun a4 => u0 x7 <| uE m <| uDe ds <| C.l80_2_0 ρ a1 a2 a3 a4 (fun (y0 : Int) => K .ret (canon [4] [.d (.int .i64 y0)] [] [] 19)) (K (.exit 0) (canon [] [] [] [] 19))

def Rl82_4_0 (C : Tab) (ρ : Type) (vs : List (PV sig)) (m : Mem sig) (ds : List (FuncId × List (PV sig))) (nt : Nat) (K : Ex sig → St sig → Option ρ) : Option ρ :=
  uN nt 32 <| uC vs fun x0 x1 => uStr x0 fun a1 => uC x1 fun x2 x3 => uI .i64 x2 fun a2 => uC x3 fun x4 x5 => uI .i64 x4 fun a3 => u0 x5 <| uE m <| uDe ds <| C.l82_4_0 ρ a1 a2 a3 (K (.exit 0) (canon [] [] [] [] 32)) (fun (y0 : Bool) => K .ret (canon [4] [.d (.bool y0)] [] [] 32))

def Rl84_1_0 (C : Tab) (ρ : Type) (vs : List (PV sig)) (m : Mem sig) (ds : List (FuncId × List (PV sig))) (nt : Nat) (K : Ex sig → St sig → Option ρ) : Option ρ :=
  uN nt 18 <| uC vs fun x0 x1 => uStr x0 fun a1 => uC x1 fun x2 x3 => uI .i64 x2 fun a2 => u0 x3 <| uE m <| uDe ds <| C.l84_1_0 ρ a1 a2 (fun (y0 : Int) => K (.exit 0) (canon [1] [.d (.int .i64 y0)] [] [] 18))

def modeId : PV sig → Nat
  | .d (.sl _ _) => 1
  | .full _ _ => 2
  | .own _ _ => 3
  | _ => 0

def fnId : PV sig → Nat
  | .fn (.func g) _ _ => g
  | _ => 0

def T3 (C : Tab) (ρ : Type) (args : List (PV sig)) (m : Mem sig) (K : Res sig × Mem sig → Option ρ) : Option ρ := Rc3_0 C ρ args m K

def T4 (C : Tab) (ρ : Type) (args : List (PV sig)) (m : Mem sig) (K : Res sig × Mem sig → Option ρ) : Option ρ := Rc4_0 C ρ args m K

def T5 (C : Tab) (ρ : Type) (args : List (PV sig)) (m : Mem sig) (K : Res sig × Mem sig → Option ρ) : Option ρ := Rc5_0 C ρ args m K

def T6 (C : Tab) (ρ : Type) (args : List (PV sig)) (m : Mem sig) (K : Res sig × Mem sig → Option ρ) : Option ρ := Rc6_0 C ρ args m K

def T9 (C : Tab) (ρ : Type) (args : List (PV sig)) (m : Mem sig) (K : Res sig × Mem sig → Option ρ) : Option ρ := Rc9_0 C ρ args m K

def T10 (C : Tab) (ρ : Type) (args : List (PV sig)) (m : Mem sig) (K : Res sig × Mem sig → Option ρ) : Option ρ := Rc10_0 C ρ args m K

def T11 (C : Tab) (ρ : Type) (args : List (PV sig)) (m : Mem sig) (K : Res sig × Mem sig → Option ρ) : Option ρ := Rc11_0 C ρ args m K

def T12 (C : Tab) (ρ : Type) (args : List (PV sig)) (m : Mem sig) (K : Res sig × Mem sig → Option ρ) : Option ρ := Rc12_0 C ρ args m K

def T13 (C : Tab) (ρ : Type) (args : List (PV sig)) (m : Mem sig) (K : Res sig × Mem sig → Option ρ) : Option ρ := Rc13_0 C ρ args m K

def T14 (C : Tab) (ρ : Type) (args : List (PV sig)) (m : Mem sig) (K : Res sig × Mem sig → Option ρ) : Option ρ := Rc14_0 C ρ args m K

def T15 (C : Tab) (ρ : Type) (args : List (PV sig)) (m : Mem sig) (K : Res sig × Mem sig → Option ρ) : Option ρ := Rc15_0 C ρ args m K

def T16 (C : Tab) (ρ : Type) (args : List (PV sig)) (m : Mem sig) (K : Res sig × Mem sig → Option ρ) : Option ρ := Rc16_0 C ρ args m K

def T17 (C : Tab) (ρ : Type) (args : List (PV sig)) (m : Mem sig) (K : Res sig × Mem sig → Option ρ) : Option ρ := Rc17_0 C ρ args m K

def T18 (C : Tab) (ρ : Type) (args : List (PV sig)) (m : Mem sig) (K : Res sig × Mem sig → Option ρ) : Option ρ := Rc18_0 C ρ args m K

def T19 (C : Tab) (ρ : Type) (args : List (PV sig)) (m : Mem sig) (K : Res sig × Mem sig → Option ρ) : Option ρ := Rc19_0 C ρ args m K

def T22 (C : Tab) (ρ : Type) (args : List (PV sig)) (m : Mem sig) (K : Res sig × Mem sig → Option ρ) : Option ρ := Rc22_0 C ρ args m K

def T23 (C : Tab) (ρ : Type) (args : List (PV sig)) (m : Mem sig) (K : Res sig × Mem sig → Option ρ) : Option ρ := Rc23_0 C ρ args m K

def T24 (C : Tab) (ρ : Type) (args : List (PV sig)) (m : Mem sig) (K : Res sig × Mem sig → Option ρ) : Option ρ := Rc24_0 C ρ args m K

def T25 (C : Tab) (ρ : Type) (args : List (PV sig)) (m : Mem sig) (K : Res sig × Mem sig → Option ρ) : Option ρ := Rc25_0 C ρ args m K

def T26 (C : Tab) (ρ : Type) (args : List (PV sig)) (m : Mem sig) (K : Res sig × Mem sig → Option ρ) : Option ρ := Rc26_0 C ρ args m K

def T27 (C : Tab) (ρ : Type) (args : List (PV sig)) (m : Mem sig) (K : Res sig × Mem sig → Option ρ) : Option ρ := Rc27_0 C ρ args m K

def T28 (C : Tab) (ρ : Type) (args : List (PV sig)) (m : Mem sig) (K : Res sig × Mem sig → Option ρ) : Option ρ := Rc28_0 C ρ args m K

def T30 (C : Tab) (ρ : Type) (args : List (PV sig)) (m : Mem sig) (K : Res sig × Mem sig → Option ρ) : Option ρ := Rc30_0 C ρ args m K

def T31 (C : Tab) (ρ : Type) (args : List (PV sig)) (m : Mem sig) (K : Res sig × Mem sig → Option ρ) : Option ρ := Rc31_0 C ρ args m K

def T32 (C : Tab) (ρ : Type) (args : List (PV sig)) (m : Mem sig) (K : Res sig × Mem sig → Option ρ) : Option ρ := Rc32_0 C ρ args m K

def T33 (C : Tab) (ρ : Type) (args : List (PV sig)) (m : Mem sig) (K : Res sig × Mem sig → Option ρ) : Option ρ := Rc33_0 C ρ args m K

def T34 (C : Tab) (ρ : Type) (args : List (PV sig)) (m : Mem sig) (K : Res sig × Mem sig → Option ρ) : Option ρ := bif Nat.beq (modeId (args.getD 1 .any)) 2 && Nat.beq (modeId (args.getD 2 .any)) 2 then Rc34_0 C ρ args m K else bif Nat.beq (modeId (args.getD 1 .any)) 1 && Nat.beq (modeId (args.getD 2 .any)) 3 then Rc34_1 C ρ args m K else bif Nat.beq (modeId (args.getD 1 .any)) 3 && Nat.beq (modeId (args.getD 2 .any)) 3 then Rc34_2 C ρ args m K else none

def T35 (C : Tab) (ρ : Type) (args : List (PV sig)) (m : Mem sig) (K : Res sig × Mem sig → Option ρ) : Option ρ := bif Nat.beq (modeId (args.getD 1 .any)) 2 && Nat.beq (modeId (args.getD 2 .any)) 2 then Rc35_0 C ρ args m K else bif Nat.beq (modeId (args.getD 1 .any)) 1 && Nat.beq (modeId (args.getD 2 .any)) 3 then Rc35_1 C ρ args m K else bif Nat.beq (modeId (args.getD 1 .any)) 1 && Nat.beq (modeId (args.getD 2 .any)) 2 then Rc35_2 C ρ args m K else none

def T40 (C : Tab) (ρ : Type) (args : List (PV sig)) (m : Mem sig) (K : Res sig × Mem sig → Option ρ) : Option ρ := Rc40_0 C ρ args m K

def T41 (C : Tab) (ρ : Type) (args : List (PV sig)) (m : Mem sig) (K : Res sig × Mem sig → Option ρ) : Option ρ := Rc41_0 C ρ args m K

def T42 (C : Tab) (ρ : Type) (args : List (PV sig)) (m : Mem sig) (K : Res sig × Mem sig → Option ρ) : Option ρ := Rc42_0 C ρ args m K

def T43 (C : Tab) (ρ : Type) (args : List (PV sig)) (m : Mem sig) (K : Res sig × Mem sig → Option ρ) : Option ρ := Rc43_0 C ρ args m K

def T44 (C : Tab) (ρ : Type) (args : List (PV sig)) (m : Mem sig) (K : Res sig × Mem sig → Option ρ) : Option ρ := Rc44_0 C ρ args m K

def T45 (C : Tab) (ρ : Type) (args : List (PV sig)) (m : Mem sig) (K : Res sig × Mem sig → Option ρ) : Option ρ := Rc45_0 C ρ args m K

def T46 (C : Tab) (ρ : Type) (args : List (PV sig)) (m : Mem sig) (K : Res sig × Mem sig → Option ρ) : Option ρ := Rc46_0 C ρ args m K

def T47 (C : Tab) (ρ : Type) (args : List (PV sig)) (m : Mem sig) (K : Res sig × Mem sig → Option ρ) : Option ρ := Rc47_0 C ρ args m K

def T48 (C : Tab) (ρ : Type) (args : List (PV sig)) (m : Mem sig) (K : Res sig × Mem sig → Option ρ) : Option ρ := Rc48_0 C ρ args m K

def T49 (C : Tab) (ρ : Type) (args : List (PV sig)) (m : Mem sig) (K : Res sig × Mem sig → Option ρ) : Option ρ := Rc49_0 C ρ args m K

def T50 (C : Tab) (ρ : Type) (args : List (PV sig)) (m : Mem sig) (K : Res sig × Mem sig → Option ρ) : Option ρ := Rc50_0 C ρ args m K

def T51 (C : Tab) (ρ : Type) (args : List (PV sig)) (m : Mem sig) (K : Res sig × Mem sig → Option ρ) : Option ρ := Rc51_0 C ρ args m K

def T54 (C : Tab) (ρ : Type) (args : List (PV sig)) (m : Mem sig) (K : Res sig × Mem sig → Option ρ) : Option ρ := Rc54_0 C ρ args m K

def T57 (C : Tab) (ρ : Type) (args : List (PV sig)) (m : Mem sig) (K : Res sig × Mem sig → Option ρ) : Option ρ := Rc57_0 C ρ args m K

def T58 (C : Tab) (ρ : Type) (args : List (PV sig)) (m : Mem sig) (K : Res sig × Mem sig → Option ρ) : Option ρ := Rc58_0 C ρ args m K

def T59 (C : Tab) (ρ : Type) (args : List (PV sig)) (m : Mem sig) (K : Res sig × Mem sig → Option ρ) : Option ρ := Rc59_0 C ρ args m K

def T60 (C : Tab) (ρ : Type) (args : List (PV sig)) (m : Mem sig) (K : Res sig × Mem sig → Option ρ) : Option ρ := Rc60_0 C ρ args m K

def T61 (C : Tab) (ρ : Type) (args : List (PV sig)) (m : Mem sig) (K : Res sig × Mem sig → Option ρ) : Option ρ := Rc61_0 C ρ args m K

def T62 (C : Tab) (ρ : Type) (args : List (PV sig)) (m : Mem sig) (K : Res sig × Mem sig → Option ρ) : Option ρ := Rc62_0 C ρ args m K

def T63 (C : Tab) (ρ : Type) (args : List (PV sig)) (m : Mem sig) (K : Res sig × Mem sig → Option ρ) : Option ρ := Rc63_0 C ρ args m K

def T64 (C : Tab) (ρ : Type) (args : List (PV sig)) (m : Mem sig) (K : Res sig × Mem sig → Option ρ) : Option ρ := Rc64_0 C ρ args m K

def T65 (C : Tab) (ρ : Type) (args : List (PV sig)) (m : Mem sig) (K : Res sig × Mem sig → Option ρ) : Option ρ := Rc65_0 C ρ args m K

def T66 (C : Tab) (ρ : Type) (args : List (PV sig)) (m : Mem sig) (K : Res sig × Mem sig → Option ρ) : Option ρ := Rc66_0 C ρ args m K

def T67 (C : Tab) (ρ : Type) (args : List (PV sig)) (m : Mem sig) (K : Res sig × Mem sig → Option ρ) : Option ρ := Rc67_0 C ρ args m K

def T68 (C : Tab) (ρ : Type) (args : List (PV sig)) (m : Mem sig) (K : Res sig × Mem sig → Option ρ) : Option ρ := Rc68_0 C ρ args m K

def T69 (C : Tab) (ρ : Type) (args : List (PV sig)) (m : Mem sig) (K : Res sig × Mem sig → Option ρ) : Option ρ := Rc69_0 C ρ args m K

def T70 (C : Tab) (ρ : Type) (args : List (PV sig)) (m : Mem sig) (K : Res sig × Mem sig → Option ρ) : Option ρ := Rc70_0 C ρ args m K

def T71 (C : Tab) (ρ : Type) (args : List (PV sig)) (m : Mem sig) (K : Res sig × Mem sig → Option ρ) : Option ρ := Rc71_0 C ρ args m K

def T72 (C : Tab) (ρ : Type) (args : List (PV sig)) (m : Mem sig) (K : Res sig × Mem sig → Option ρ) : Option ρ := Rc72_0 C ρ args m K

def T73 (C : Tab) (ρ : Type) (args : List (PV sig)) (m : Mem sig) (K : Res sig × Mem sig → Option ρ) : Option ρ := Rc73_0 C ρ args m K

def T74 (C : Tab) (ρ : Type) (args : List (PV sig)) (m : Mem sig) (K : Res sig × Mem sig → Option ρ) : Option ρ := Rc74_0 C ρ args m K

def T75 (C : Tab) (ρ : Type) (args : List (PV sig)) (m : Mem sig) (K : Res sig × Mem sig → Option ρ) : Option ρ := Rc75_0 C ρ args m K

def T76 (C : Tab) (ρ : Type) (args : List (PV sig)) (m : Mem sig) (K : Res sig × Mem sig → Option ρ) : Option ρ := Rc76_0 C ρ args m K

def T77 (C : Tab) (ρ : Type) (args : List (PV sig)) (m : Mem sig) (K : Res sig × Mem sig → Option ρ) : Option ρ := Rc77_0 C ρ args m K

def T78 (C : Tab) (ρ : Type) (args : List (PV sig)) (m : Mem sig) (K : Res sig × Mem sig → Option ρ) : Option ρ := Rc78_0 C ρ args m K

def T79 (C : Tab) (ρ : Type) (args : List (PV sig)) (m : Mem sig) (K : Res sig × Mem sig → Option ρ) : Option ρ := Rc79_0 C ρ args m K

def T80 (C : Tab) (ρ : Type) (args : List (PV sig)) (m : Mem sig) (K : Res sig × Mem sig → Option ρ) : Option ρ := Rc80_0 C ρ args m K

def T82 (C : Tab) (ρ : Type) (args : List (PV sig)) (m : Mem sig) (K : Res sig × Mem sig → Option ρ) : Option ρ := bif Nat.beq (fnId (args.getD 1 .any)) 63 then Rc82_0 C ρ args m K else bif Nat.beq (fnId (args.getD 1 .any)) 66 then Rc82_1 C ρ args m K else none

def T83 (C : Tab) (ρ : Type) (args : List (PV sig)) (m : Mem sig) (K : Res sig × Mem sig → Option ρ) : Option ρ := Rc83_0 C ρ args m K

def T84 (C : Tab) (ρ : Type) (args : List (PV sig)) (m : Mem sig) (K : Res sig × Mem sig → Option ρ) : Option ρ := Rc84_0 C ρ args m K

def T86 (C : Tab) (ρ : Type) (args : List (PV sig)) (m : Mem sig) (K : Res sig × Mem sig → Option ρ) : Option ρ := Rc86_0 C ρ args m K

def T87 (C : Tab) (ρ : Type) (args : List (PV sig)) (m : Mem sig) (K : Res sig × Mem sig → Option ρ) : Option ρ := Rc87_0 C ρ args m K

def T88 (C : Tab) (ρ : Type) (args : List (PV sig)) (m : Mem sig) (K : Res sig × Mem sig → Option ρ) : Option ρ := Rc88_0 C ρ args m K

def T89 (C : Tab) (ρ : Type) (args : List (PV sig)) (m : Mem sig) (K : Res sig × Mem sig → Option ρ) : Option ρ := Rc89_0 C ρ args m K

def T90 (C : Tab) (ρ : Type) (args : List (PV sig)) (m : Mem sig) (K : Res sig × Mem sig → Option ρ) : Option ρ := Rc90_0 C ρ args m K

def T92 (C : Tab) (ρ : Type) (args : List (PV sig)) (m : Mem sig) (K : Res sig × Mem sig → Option ρ) : Option ρ := Rc92_0 C ρ args m K

def T93 (C : Tab) (ρ : Type) (args : List (PV sig)) (m : Mem sig) (K : Res sig × Mem sig → Option ρ) : Option ρ := Rc93_0 C ρ args m K

/-- The table of functions. -/
def T (C : Tab) : CallT sig := fun ρ f args m K =>
  bif Nat.beq f 3 then T3 C ρ args m K else
  bif Nat.beq f 4 then T4 C ρ args m K else
  bif Nat.beq f 5 then T5 C ρ args m K else
  bif Nat.beq f 6 then T6 C ρ args m K else
  bif Nat.beq f 9 then T9 C ρ args m K else
  bif Nat.beq f 10 then T10 C ρ args m K else
  bif Nat.beq f 11 then T11 C ρ args m K else
  bif Nat.beq f 12 then T12 C ρ args m K else
  bif Nat.beq f 13 then T13 C ρ args m K else
  bif Nat.beq f 14 then T14 C ρ args m K else
  bif Nat.beq f 15 then T15 C ρ args m K else
  bif Nat.beq f 16 then T16 C ρ args m K else
  bif Nat.beq f 17 then T17 C ρ args m K else
  bif Nat.beq f 18 then T18 C ρ args m K else
  bif Nat.beq f 19 then T19 C ρ args m K else
  bif Nat.beq f 22 then T22 C ρ args m K else
  bif Nat.beq f 23 then T23 C ρ args m K else
  bif Nat.beq f 24 then T24 C ρ args m K else
  bif Nat.beq f 25 then T25 C ρ args m K else
  bif Nat.beq f 26 then T26 C ρ args m K else
  bif Nat.beq f 27 then T27 C ρ args m K else
  bif Nat.beq f 28 then T28 C ρ args m K else
  bif Nat.beq f 30 then T30 C ρ args m K else
  bif Nat.beq f 31 then T31 C ρ args m K else
  bif Nat.beq f 32 then T32 C ρ args m K else
  bif Nat.beq f 33 then T33 C ρ args m K else
  bif Nat.beq f 34 then T34 C ρ args m K else
  bif Nat.beq f 35 then T35 C ρ args m K else
  bif Nat.beq f 40 then T40 C ρ args m K else
  bif Nat.beq f 41 then T41 C ρ args m K else
  bif Nat.beq f 42 then T42 C ρ args m K else
  bif Nat.beq f 43 then T43 C ρ args m K else
  bif Nat.beq f 44 then T44 C ρ args m K else
  bif Nat.beq f 45 then T45 C ρ args m K else
  bif Nat.beq f 46 then T46 C ρ args m K else
  bif Nat.beq f 47 then T47 C ρ args m K else
  bif Nat.beq f 48 then T48 C ρ args m K else
  bif Nat.beq f 49 then T49 C ρ args m K else
  bif Nat.beq f 50 then T50 C ρ args m K else
  bif Nat.beq f 51 then T51 C ρ args m K else
  bif Nat.beq f 54 then T54 C ρ args m K else
  bif Nat.beq f 57 then T57 C ρ args m K else
  bif Nat.beq f 58 then T58 C ρ args m K else
  bif Nat.beq f 59 then T59 C ρ args m K else
  bif Nat.beq f 60 then T60 C ρ args m K else
  bif Nat.beq f 61 then T61 C ρ args m K else
  bif Nat.beq f 62 then T62 C ρ args m K else
  bif Nat.beq f 63 then T63 C ρ args m K else
  bif Nat.beq f 64 then T64 C ρ args m K else
  bif Nat.beq f 65 then T65 C ρ args m K else
  bif Nat.beq f 66 then T66 C ρ args m K else
  bif Nat.beq f 67 then T67 C ρ args m K else
  bif Nat.beq f 68 then T68 C ρ args m K else
  bif Nat.beq f 69 then T69 C ρ args m K else
  bif Nat.beq f 70 then T70 C ρ args m K else
  bif Nat.beq f 71 then T71 C ρ args m K else
  bif Nat.beq f 72 then T72 C ρ args m K else
  bif Nat.beq f 73 then T73 C ρ args m K else
  bif Nat.beq f 74 then T74 C ρ args m K else
  bif Nat.beq f 75 then T75 C ρ args m K else
  bif Nat.beq f 76 then T76 C ρ args m K else
  bif Nat.beq f 77 then T77 C ρ args m K else
  bif Nat.beq f 78 then T78 C ρ args m K else
  bif Nat.beq f 79 then T79 C ρ args m K else
  bif Nat.beq f 80 then T80 C ρ args m K else
  bif Nat.beq f 82 then T82 C ρ args m K else
  bif Nat.beq f 83 then T83 C ρ args m K else
  bif Nat.beq f 84 then T84 C ρ args m K else
  bif Nat.beq f 86 then T86 C ρ args m K else
  bif Nat.beq f 87 then T87 C ρ args m K else
  bif Nat.beq f 88 then T88 C ρ args m K else
  bif Nat.beq f 89 then T89 C ρ args m K else
  bif Nat.beq f 90 then T90 C ρ args m K else
  bif Nat.beq f 92 then T92 C ρ args m K else
  bif Nat.beq f 93 then T93 C ρ args m K else none

/-- The table of loops. -/
def LT (C : Tab) : LoopT sig := fun ρ f np key st K =>
  bif Nat.beq f 15 && (Nat.beq np 0 && Nat.beq key 4) then Rl15_4_0 C ρ (seenV (PK 15 0 4 0) st) (seenM 0 (PK 15 0 4 0) st) st.dfs st.nt K else
  bif Nat.beq f 18 && (Nat.beq np 0 && Nat.beq key 4) then Rl18_4_0 C ρ (seenV (PK 18 0 4 0) st) (seenM 0 (PK 18 0 4 0) st) st.dfs st.nt K else
  bif Nat.beq f 22 && (Nat.beq np 1 && Nat.beq key 20) then Rl22_20_0 C ρ (seenV (PK 22 1 20 0) st) (seenM 1 (PK 22 1 20 0) st) st.dfs st.nt K else
  bif Nat.beq f 24 && (Nat.beq np 0 && Nat.beq key 3) then Rl24_3_0 C ρ (seenV (PK 24 0 3 0) st) (seenM 0 (PK 24 0 3 0) st) st.dfs st.nt K else
  bif Nat.beq f 25 && (Nat.beq np 0 && Nat.beq key 18) then Rl25_18_0 C ρ (seenV (PK 25 0 18 0) st) (seenM 0 (PK 25 0 18 0) st) st.dfs st.nt K else
  bif Nat.beq f 28 && (Nat.beq np 0 && Nat.beq key 6) then Rl28_6_0 C ρ (seenV (PK 28 0 6 0) st) (seenM 0 (PK 28 0 6 0) st) st.dfs st.nt K else
  bif Nat.beq f 30 && (Nat.beq np 1 && Nat.beq key 4) then Rl30_4_0 C ρ (seenV (PK 30 1 4 0) st) (seenM 1 (PK 30 1 4 0) st) st.dfs st.nt K else
  bif Nat.beq f 33 && (Nat.beq np 0 && Nat.beq key 4) then Rl33_4_0 C ρ (seenV (PK 33 0 4 0) st) (seenM 0 (PK 33 0 4 0) st) st.dfs st.nt K else
  bif Nat.beq f 34 && (Nat.beq np 0 && Nat.beq key 8) then Rl34_8_0 C ρ (seenV (PK 34 0 8 0) st) (seenM 0 (PK 34 0 8 0) st) st.dfs st.nt K else
  bif Nat.beq f 35 && (Nat.beq np 0 && Nat.beq key 14) then Rl35_14_0 C ρ (seenV (PK 35 0 14 0) st) (seenM 0 (PK 35 0 14 0) st) st.dfs st.nt K else
  bif Nat.beq f 43 && (Nat.beq np 1 && Nat.beq key 0) then Rl43_0_0 C ρ (seenV (PK 43 1 0 0) st) (seenM 1 (PK 43 1 0 0) st) st.dfs st.nt K else
  bif Nat.beq f 47 && (Nat.beq np 1 && Nat.beq key 2) then Rl47_2_0 C ρ (seenV (PK 47 1 2 0) st) (seenM 1 (PK 47 1 2 0) st) st.dfs st.nt K else
  bif Nat.beq f 51 && (Nat.beq np 0 && Nat.beq key 2) then Rl51_2_0 C ρ (seenV (PK 51 0 2 0) st) (seenM 0 (PK 51 0 2 0) st) st.dfs st.nt K else
  bif Nat.beq f 58 && (Nat.beq np 0 && Nat.beq key 2) then Rl58_2_0 C ρ (seenV (PK 58 0 2 0) st) (seenM 0 (PK 58 0 2 0) st) st.dfs st.nt K else
  bif Nat.beq f 65 && (Nat.beq np 1 && Nat.beq key 2) then Rl65_2_0 C ρ (seenV (PK 65 1 2 0) st) (seenM 1 (PK 65 1 2 0) st) st.dfs st.nt K else
  bif Nat.beq f 80 && (Nat.beq np 0 && Nat.beq key 2) then Rl80_2_0 C ρ (seenV (PK 80 0 2 0) st) (seenM 0 (PK 80 0 2 0) st) st.dfs st.nt K else
  bif Nat.beq f 82 && (Nat.beq np 0 && Nat.beq key 4) then Rl82_4_0 C ρ (seenV (PK 82 0 4 0) st) (seenM 0 (PK 82 0 4 0) st) st.dfs st.nt K else
  bif Nat.beq f 84 && (Nat.beq np 0 && Nat.beq key 1) then Rl84_1_0 C ρ (seenV (PK 84 0 1 0) st) (seenM 0 (PK 84 0 1 0) st) st.dfs st.nt K else none

end Go.Proofs.YtanfoijdfcnpoaaDoor.Ev
