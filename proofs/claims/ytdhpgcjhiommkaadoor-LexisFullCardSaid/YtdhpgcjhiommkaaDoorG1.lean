/- This file proves nothing of the program: it defines, for each function and loop of layer 1, what it does to plain values, as read off its code. -/
import Derived.Test.YtdhpgcjhiommkaaDoorT1
set_option linter.unusedVariables false
set_option linter.unusedSimpArgs false
namespace Go.Proofs.YtdhpgcjhiommkaaDoor.Ev

def hints : Hints where
  take := fun f r i => (Nat.beq f 6 && (Nat.beq r 14 && Nat.beq i 0)) || (Nat.beq f 8 && (Nat.beq r 12 && Nat.beq i 0)) || (Nat.beq f 8 && (Nat.beq r 14 && Nat.beq i 0)) || (Nat.beq f 11 && (Nat.beq r 11 && Nat.beq i 0)) || (Nat.beq f 11 && (Nat.beq r 13 && Nat.beq i 0)) || (Nat.beq f 12 && (Nat.beq r 9 && Nat.beq i 0)) || (Nat.beq f 12 && (Nat.beq r 11 && Nat.beq i 0)) || (Nat.beq f 19 && (Nat.beq r 8 && Nat.beq i 0)) || (Nat.beq f 20 && (Nat.beq r 10 && Nat.beq i 0)) || (Nat.beq f 20 && (Nat.beq r 12 && Nat.beq i 0))
  keep := fun f r => none
  full := fun f r i => false
  ret := fun f => false

def dfT : DeferT sig := fun _ _ _ _ => none

/-- What each function and loop answers, with what is done with it. -/
structure Tab : Type 1 where
  c3_0 : ∀ ρ : Type, ByteArray → (Bool → Option ρ) → Option ρ
  c4_0 : ∀ ρ : Type, ByteArray → (Bool → Option ρ) → Option ρ
  c5_0 : ∀ ρ : Type, ByteArray → (Bool → Option ρ) → Option ρ
  c6_0 : ∀ ρ : Type, ByteArray → Int → ByteArray → (Bool → Option ρ) → Option ρ
  c8_0 : ∀ ρ : Type, (List Tok) → (Bool → Option ρ) → Option ρ
  c9_0 : ∀ ρ : Type, ByteArray → Int → (Bool → Option ρ) → Option ρ
  c10_0 : ∀ ρ : Type, ByteArray → Int → (Bool → Option ρ) → Option ρ
  c11_0 : ∀ ρ : Type, ByteArray → ((List Tok) → Int → Int → Option ρ) → Option ρ
  c12_0 : ∀ ρ : Type, ByteArray → ((List Tok) → Int → Int → Option ρ) → Option ρ
  c13_0 : ∀ ρ : Type, (List Tok) → (List Tok) → Bool → (Bool → Option ρ) → Option ρ
  c14_0 : ∀ ρ : Type, (Bool → Option ρ) → Option ρ
  c15_0 : ∀ ρ : Type, ByteArray → (Bool → Option ρ) → Option ρ
  c16_0 : ∀ ρ : Type, ByteArray → (Bool → Option ρ) → Option ρ
  c17_0 : ∀ ρ : Type, ByteArray → (Bool → Option ρ) → Option ρ
  c18_0 : ∀ ρ : Type, ByteArray → (Bool → Option ρ) → Option ρ
  c19_0 : ∀ ρ : Type, (List Tok) → (ByteArray → Int → Option ρ) → Option ρ
  c20_0 : ∀ ρ : Type, (List Tok) → (ByteArray → Int → Option ρ) → Option ρ
  c21_0 : ∀ ρ : Type, ByteArray → Int → (Int → Int → Int → Option ρ) → Option ρ
  c22_0 : ∀ ρ : Type, ByteArray → Int → (Int → Int → Int → Option ρ) → Option ρ
  c23_0 : ∀ ρ : Type, ByteArray → Int → (ByteArray → Int → Option ρ) → Option ρ
  c24_0 : ∀ ρ : Type, Int → (Int → Option ρ) → (Int → Option ρ) → (Int → Option ρ) → (Int → Option ρ) → (Int → Option ρ) → Option ρ → (Int → Option ρ) → (Int → Option ρ) → Option ρ
  c25_0 : ∀ ρ : Type, ByteArray → Int → (Int → Option ρ) → Option ρ
  c26_0 : ∀ ρ : Type, ByteArray → Int → (Tok → Bool → Option ρ) → Option ρ
  c27_0 : ∀ ρ : Type, ByteArray → (Bool → Option ρ) → Option ρ
  c27_1 : ∀ ρ : Type, ByteArray → (Bool → Option ρ) → Option ρ
  c28_0 : ∀ ρ : Type, Int → (Bool → Option ρ) → Option ρ
  c29_0 : ∀ ρ : Type, Int → (Bool → Option ρ) → Option ρ
  c30_0 : ∀ ρ : Type, ByteArray → (Bool → Option ρ) → Option ρ
  c31_0 : ∀ ρ : Type, Int → (Bool → Option ρ) → Option ρ
  c32_0 : ∀ ρ : Type, Tok → (Bool → Option ρ) → Option ρ
  c33_0 : ∀ ρ : Type, (List ByteArray) → ByteArray → (ByteArray → Option ρ) → Option ρ
  c34_0 : ∀ ρ : Type, Tok → (Bool → Option ρ) → Option ρ
  c35_0 : ∀ ρ : Type, ByteArray → ByteArray → (Int → Option ρ) → Option ρ
  c36_0 : ∀ ρ : Type, ByteArray → Int → (Int → Option ρ) → Option ρ
  c37_0 : ∀ ρ : Type, Int → ByteArray → Int → (Int → ByteArray → Int → Option ρ) → Option ρ
  c38_0 : ∀ ρ : Type, ByteArray → Int → (Int → Option ρ) → Option ρ
  c39_0 : ∀ ρ : Type, Int → ByteArray → Bool → (Int → ByteArray → Option ρ) → Option ρ
  c40_0 : ∀ ρ : Type, ByteArray → Int → (Int → ByteArray → ByteArray → Int → Option ρ) → Option ρ
  c41_0 : ∀ ρ : Type, Int → ByteArray → Int → (ByteArray → ByteArray → Int → Option ρ) → Option ρ
  c42_0 : ∀ ρ : Type, ByteArray → Int → (Int → ByteArray → ByteArray → Int → Option ρ) → Option ρ
  c43_0 : ∀ ρ : Type, Int → (Bool → Option ρ) → Option ρ
  c44_0 : ∀ ρ : Type, ByteArray → Int → (Int → ByteArray → ByteArray → Int → Option ρ) → Option ρ
  c45_0 : ∀ ρ : Type, ByteArray → (Bool → Option ρ) → Option ρ
  c46_0 : ∀ ρ : Type, ByteArray → Int → (Int → ByteArray → ByteArray → Int → Option ρ) → Option ρ
  c47_0 : ∀ ρ : Type, ByteArray → Int → (Int → ByteArray → ByteArray → Int → Option ρ) → Option ρ
  c48_0 : ∀ ρ : Type, ByteArray → Int → (Int → ByteArray → ByteArray → Int → Option ρ) → Option ρ
  c49_0 : ∀ ρ : Type, ByteArray → Int → (Int → ByteArray → ByteArray → Int → Option ρ) → Option ρ
  c50_0 : ∀ ρ : Type, ByteArray → Int → Int → (Int → ByteArray → ByteArray → Int → Int → Option ρ) → Option ρ
  c51_0 : ∀ ρ : Type, ByteArray → Int → (Bool → Option ρ) → Option ρ
  c52_0 : ∀ ρ : Type, ByteArray → Int → (Int → Option ρ) → Option ρ
  c53_0 : ∀ ρ : Type, Int → (Bool → Option ρ) → Option ρ
  c54_0 : ∀ ρ : Type, ByteArray → (Int → Bool → Option ρ) → Option ρ
  c55_0 : ∀ ρ : Type, ByteArray → Int → (Tok → Bool → Option ρ) → Option ρ
  c56_0 : ∀ ρ : Type, Int → (Bool → Option ρ) → Option ρ
  c65_0 : ∀ ρ : Type, ByteArray → (Int → Option ρ) → (Int → Option ρ) → Option ρ
  c66_0 : ∀ ρ : Type, Int → (ByteArray → Option ρ) → Option ρ
  c67_0 : ∀ ρ : Type, Int → (Bool → Option ρ) → Option ρ
  l5_6_0 : ∀ ρ : Type, ByteArray → (List Tok) → Int → Int → (List Tok) → Int → Int → (Bool → Option ρ) → (ByteArray → (List Tok) → Int → Option ρ) → Option ρ
  l6_11_0 : ∀ ρ : Type, ByteArray → Int → ByteArray → (List Tok) → (List Int) → Int → (ByteArray → Int → (List Tok) → (List Int) → Option ρ) → Option ρ
  l6_20_0 : ∀ ρ : Type, Int → (List Tok) → ByteArray → (List Tok) → Int → Int → (Bool → Option ρ) → Option ρ → Option ρ
  l8_9_0 : ∀ ρ : Type, ByteArray → (List Tok) → (List Tok) → Int → Int → (ByteArray → (List Tok) → Option ρ) → Option ρ
  l11_6_0 : ∀ ρ : Type, ByteArray → (List Tok) → ByteArray → Int → (ByteArray → (List Tok) → Option ρ) → ((List Tok) → Int → Int → Option ρ) → Option ρ
  l12_5_0 : ∀ ρ : Type, ByteArray → (List Tok) → Int → (ByteArray → (List Tok) → Option ρ) → ((List Tok) → Int → Int → Option ρ) → Option ρ
  l13_4_0 : ∀ ρ : Type, (List Tok) → (List Tok) → Bool → Int → Int → (Bool → Option ρ) → Option ρ → Option ρ
  l19_3_0 : ∀ ρ : Type, (List ByteArray) → (List Tok) → Int → Int → ((List ByteArray) → Option ρ) → (ByteArray → Int → Option ρ) → Option ρ
  l20_4_0 : ∀ ρ : Type, (List Int) → Bool → (List Tok) → Int → Int → ((List Int) → Option ρ) → (ByteArray → Int → Option ρ) → Option ρ
  l22_5_0 : ∀ ρ : Type, ByteArray → Int → Int → Int → Int → (Int → Int → Option ρ) → Option ρ
  l23_0_0 : ∀ ρ : Type, ByteArray → Int → (ByteArray → Int → Option ρ) → Option ρ
  l25_1_0 : ∀ ρ : Type, ByteArray → Int → (Int → Option ρ) → (Int → Option ρ) → Option ρ
  l25_6_0 : ∀ ρ : Type, ByteArray → Int → (ByteArray → Int → Option ρ) → Option ρ
  l27_4_0 : ∀ ρ : Type, ByteArray → Int → Int → Option ρ → (Bool → Option ρ) → Option ρ
  l41_2_0 : ∀ ρ : Type, Int → Int → ByteArray → Int → (Int → Int → ByteArray → Int → Option ρ) → Option ρ
  l52_1_0 : ∀ ρ : Type, ByteArray → Int → (Int → Option ρ) → Option ρ
  l54_5_0 : ∀ ρ : Type, ByteArray → Int → Int → (Int → Bool → Option ρ) → (Int → Option ρ) → Option ρ

/-- truss/trusslaw01.LexisTokens -/
def Gc3_0 (C : Tab) (ρ : Type) (a1 : ByteArray) (k0 : (Bool → Option ρ)) : Option ρ :=
  C.c11_0 ρ a1 (fun (r2 : List Tok) (r3 : Int) (r4 : Int) => C.c12_0 ρ a1 (fun (r5 : List Tok) (r6 : Int) (r7 : Int) => C.c13_0 ρ r2 r5 true (fun (r8 : Bool) => cond r8 (cond (r3 == r6) (cond (r4 == r7) (C.c14_0 ρ (fun (r9 : Bool) => k0 r9)) (k0 false)) (k0 false)) (k0 false))))

/-- truss/trusslaw01.LexisNames -/
def Gc4_0 (C : Tab) (ρ : Type) (a1 : ByteArray) (k0 : (Bool → Option ρ)) : Option ρ :=
  C.c15_0 ρ a1 (fun (r2 : Bool) => C.c16_0 ρ a1 (fun (r3 : Bool) => C.c17_0 ρ a1 (fun (r4 : Bool) => cond (r2 != r4) (k0 false) (C.c18_0 ρ a1 (fun (r5 : Bool) => cond (r3 != r5) (k0 false) (C.c11_0 ρ a1 (fun (r6 : List Tok) (r7 : Int) (r8 : Int) => cond (r8 == (0 : Int)) (cond (((List.length r6 : Nat) : Int) == (2 : Int)) (cond (decide ((0 : Int) ≤ (0 : Int)) && decide ((0 : Int) < ((List.length r6 : Nat) : Int))) (cond (strEq ((rdEl lay Key.tok r6 (0 : Int)).text) a1) (cond (decide ((0 : Int) ≤ (0 : Int)) && decide ((0 : Int) < ((List.length r6 : Nat) : Int))) (cond (r2 == ((rdEl lay Key.tok r6 (0 : Int)).kind == (1 : Int))) (cond (strEq ((rdEl lay Key.tok r6 (0 : Int)).text) a1) (cond (decide ((0 : Int) ≤ (0 : Int)) && decide ((0 : Int) < ((List.length r6 : Nat) : Int))) (cond (r3 == ((rdEl lay Key.tok r6 (0 : Int)).kind == (2 : Int))) (C.c14_0 ρ (fun (r9 : Bool) => k0 r9)) (k0 false)) (none)) (cond (r3 == false) (C.c14_0 ρ (fun (r10 : Bool) => k0 r10)) (k0 false))) (k0 false)) (none)) (cond (r2 == false) (cond (strEq ((rdEl lay Key.tok r6 (0 : Int)).text) a1) (cond (decide ((0 : Int) ≤ (0 : Int)) && decide ((0 : Int) < ((List.length r6 : Nat) : Int))) (cond (r3 == ((rdEl lay Key.tok r6 (0 : Int)).kind == (2 : Int))) (C.c14_0 ρ (fun (r11 : Bool) => k0 r11)) (k0 false)) (none)) (cond (r3 == false) (C.c14_0 ρ (fun (r12 : Bool) => k0 r12)) (k0 false))) (k0 false))) (none)) (cond (r2 == false) (cond (r3 == false) (C.c14_0 ρ (fun (r13 : Bool) => k0 r13)) (k0 false)) (k0 false))) (cond (r2 == false) (cond (r3 == false) (C.c14_0 ρ (fun (r14 : Bool) => k0 r14)) (k0 false)) (k0 false)))))))))

/-- truss/trusslaw01.LexisStands -/
def Gc5_0 (C : Tab) (ρ : Type) (a1 : ByteArray) (k0 : (Bool → Option ρ)) : Option ρ :=
  C.c11_0 ρ a1 (fun (r2 : List Tok) (r3 : Int) (r4 : Int) => cond (r4 != (0 : Int)) (cond (((List.length r2 : Nat) : Int) == (0 : Int)) (cond (r4 == (5 : Int)) (cond (r3 == (0 : Int)) (cond (decide ((a1.size : Int) > (6000 : Int))) (C.c14_0 ρ (fun (r5 : Bool) => k0 r5)) (cond (r4 == (4 : Int)) (cond (decide (r3 ≥ (0 : Int))) (cond (decide (r3 < (a1.size : Int))) (C.c14_0 ρ (fun (r6 : Bool) => k0 r6)) (k0 false)) (k0 false)) (k0 false))) (cond (r4 == (4 : Int)) (cond (decide (r3 ≥ (0 : Int))) (cond (decide (r3 < (a1.size : Int))) (C.c14_0 ρ (fun (r7 : Bool) => k0 r7)) (k0 false)) (k0 false)) (k0 false))) (cond (r4 == (4 : Int)) (cond (decide (r3 ≥ (0 : Int))) (cond (decide (r3 < (a1.size : Int))) (C.c14_0 ρ (fun (r8 : Bool) => k0 r8)) (k0 false)) (k0 false)) (k0 false))) (k0 false)) (C.l5_6_0 ρ a1 r2 r3 (0 : Int) r2 ((List.length r2 : Nat) : Int) (0 : Int) (fun (r9 : Bool) => k0 r9) (fun (r10 : ByteArray) (r11 : List Tok) (r12 : Int) => cond (decide (((List.length r11 : Nat) : Int) > (0 : Int))) (cond (decide ((0 : Int) ≤ (IntKind.wrap .i64 (((List.length r11 : Nat) : Int) - (1 : Int)))) && decide ((IntKind.wrap .i64 (((List.length r11 : Nat) : Int) - (1 : Int))) < ((List.length r11 : Nat) : Int))) (cond ((rdEl lay Key.tok r11 (IntKind.wrap .i64 (((List.length r11 : Nat) : Int) - (1 : Int)))).at_ == (r10.size : Int)) (cond (r12 == (0 : Int)) (C.c14_0 ρ (fun (r13 : Bool) => k0 r13)) (k0 false)) (k0 false)) (none)) (k0 false))))

/-- truss/trusslaw01.LexisBlank -/
def Gc6_0 (C : Tab) (ρ : Type) (a1 : ByteArray) (a2 : Int) (a3 : ByteArray) (k0 : (Bool → Option ρ)) : Option ρ :=
  C.c11_0 ρ a1 (fun (r4 : List Tok) (r5 : Int) (r6 : Int) => cond (r6 != (0 : Int)) (C.c14_0 ρ (fun (r7 : Bool) => k0 r7)) (cond (decide ((IntKind.wrap .i64 ((a1.size : Int) + (a3.size : Int))) > (5992 : Int))) (C.c14_0 ρ (fun (r8 : Bool) => k0 r8)) (cond (((List.length r4 : Nat) : Int) == (0 : Int)) (k0 false) (cond ((IntKind.wrap .u64 ((List.length r4 : Nat) : Int)) == 0) (none) (cond (decide ((0 : Int) ≤ (IntKind.wrap .i64 (Int.tmod (IntKind.wrap .u64 a2) (IntKind.wrap .u64 ((List.length r4 : Nat) : Int))))) && decide ((IntKind.wrap .i64 (Int.tmod (IntKind.wrap .u64 a2) (IntKind.wrap .u64 ((List.length r4 : Nat) : Int)))) < ((List.length r4 : Nat) : Int))) (cond (decide ((rdEl lay Key.tok r4 (IntKind.wrap .i64 (Int.tmod (IntKind.wrap .u64 a2) (IntKind.wrap .u64 ((List.length r4 : Nat) : Int))))).at_ < (0 : Int))) (k0 false) (cond (decide ((0 : Int) ≤ (IntKind.wrap .i64 (Int.tmod (IntKind.wrap .u64 a2) (IntKind.wrap .u64 ((List.length r4 : Nat) : Int))))) && decide ((IntKind.wrap .i64 (Int.tmod (IntKind.wrap .u64 a2) (IntKind.wrap .u64 ((List.length r4 : Nat) : Int)))) < ((List.length r4 : Nat) : Int))) (cond (decide ((rdEl lay Key.tok r4 (IntKind.wrap .i64 (Int.tmod (IntKind.wrap .u64 a2) (IntKind.wrap .u64 ((List.length r4 : Nat) : Int))))).at_ > (a1.size : Int))) (k0 false) (C.l6_11_0 ρ a1 (IntKind.wrap .i64 (Int.tmod (IntKind.wrap .u64 a2) (IntKind.wrap .u64 ((List.length r4 : Nat) : Int)))) a3 r4 ([] : List Int) (0 : Int) (fun (r9 : ByteArray) (r10 : Int) (r11 : List Tok) (r12 : List Int) => bytesK r12 (fun s13 => cond (decide ((ByteArray.mk #[9, 32, 37, 32]).size + s13.size ≤ 9223372036854775807)) (cond (decide (((ByteArray.mk #[9, 32, 37, 32]) ++ s13).size + (ByteArray.mk #[10, 13]).size ≤ 9223372036854775807)) (cond (decide ((0 : Int) ≤ r10) && decide (r10 < ((List.length r11 : Nat) : Int))) (cond (decide ((0 : Int) ≤ (0 : Int)) && (decide ((0 : Int) ≤ (rdEl lay Key.tok r11 r10).at_) && decide ((rdEl lay Key.tok r11 r10).at_ ≤ (r9.size : Int)))) (cond (decide ((ByteArray.extract r9 (Int.toNat (0 : Int)) (Int.toNat (rdEl lay Key.tok r11 r10).at_)).size + (((ByteArray.mk #[9, 32, 37, 32]) ++ s13) ++ (ByteArray.mk #[10, 13])).size ≤ 9223372036854775807)) (cond (decide ((0 : Int) ≤ r10) && decide (r10 < ((List.length r11 : Nat) : Int))) (cond (decide ((0 : Int) ≤ (rdEl lay Key.tok r11 r10).at_) && (decide ((rdEl lay Key.tok r11 r10).at_ ≤ (r9.size : Int)) && decide ((r9.size : Int) ≤ (r9.size : Int)))) (cond (decide (((ByteArray.extract r9 (Int.toNat (0 : Int)) (Int.toNat (rdEl lay Key.tok r11 r10).at_)) ++ (((ByteArray.mk #[9, 32, 37, 32]) ++ s13) ++ (ByteArray.mk #[10, 13]))).size + (ByteArray.extract r9 (Int.toNat (rdEl lay Key.tok r11 r10).at_) (Int.toNat (r9.size : Int))).size ≤ 9223372036854775807)) (C.c11_0 ρ (((ByteArray.extract r9 (Int.toNat (0 : Int)) (Int.toNat (rdEl lay Key.tok r11 r10).at_)) ++ (((ByteArray.mk #[9, 32, 37, 32]) ++ s13) ++ (ByteArray.mk #[10, 13]))) ++ (ByteArray.extract r9 (Int.toNat (rdEl lay Key.tok r11 r10).at_) (Int.toNat (r9.size : Int)))) (fun (r14 : List Tok) (r15 : Int) (r16 : Int) => cond (r16 != (0 : Int)) (k0 false) (C.c13_0 ρ r11 r14 false (fun (r17 : Bool) => cond (!r17) (k0 false) (C.l6_20_0 ρ r10 r11 (((ByteArray.mk #[9, 32, 37, 32]) ++ s13) ++ (ByteArray.mk #[10, 13])) r14 ((List.length r11 : Nat) : Int) (0 : Int) (fun (r18 : Bool) => k0 r18) (C.c14_0 ρ (fun (r19 : Bool) => k0 r19))))))) (none)) (none)) (none)) (none)) (none)) (none)) (none)) (none))))) (none))) (none))))))

/-- truss/trusslaw01.LexisJoins -/
def Gc8_0 (C : Tab) (ρ : Type) (a1 : List Tok) (k0 : (Bool → Option ρ)) : Option ρ :=
  cond (decide ((List.length ([] : List Tok) + List.length a1) * 32 ≤ 140737488355328)) (C.c19_0 ρ (([] : List Tok) ++ (a1 : List Tok)) (fun (r2 : ByteArray) (r3 : Int) => C.c20_0 ρ a1 (fun (r4 : ByteArray) (r5 : Int) => cond (!strEq r2 r4) (k0 false) (cond (r3 != r5) (k0 false) (cond (r5 != (0 : Int)) (C.c14_0 ρ (fun (r6 : Bool) => k0 r6)) (cond (decide ((r2.size : Int) > (6000 : Int))) (C.c14_0 ρ (fun (r7 : Bool) => k0 r7)) (C.l8_9_0 ρ r2 ([] : List Tok) a1 ((List.length a1 : Nat) : Int) (0 : Int) (fun (r8 : ByteArray) (r9 : List Tok) => cond (decide ((List.length r9 + List.length [(⟨(7 : Int), (ByteArray.mk #[]), (0 : Int)⟩ : Tok)]) * 32 ≤ 140737488355328)) (C.c11_0 ρ r8 (fun (r10 : List Tok) (r11 : Int) (r12 : Int) => cond (r12 == (0 : Int)) (cond (r11 == (0 : Int)) (C.c13_0 ρ r10 ((r9 : List Tok) ++ ([(⟨(7 : Int), (ByteArray.mk #[]), (0 : Int)⟩ : Tok)] : List Tok)) false (fun (r13 : Bool) => cond r13 (C.c14_0 ρ (fun (r14 : Bool) => k0 r14)) (k0 false))) (k0 false)) (k0 false))) (none))))))))) (none)

/-- truss/trusslaw01.LexisPlaces -/
def Gc9_0 (C : Tab) (ρ : Type) (a1 : ByteArray) (a2 : Int) (k0 : (Bool → Option ρ)) : Option ρ :=
  C.c21_0 ρ a1 a2 (fun (r3 : Int) (r4 : Int) (r5 : Int) => C.c22_0 ρ a1 a2 (fun (r6 : Int) (r7 : Int) (r8 : Int) => cond (r3 == r6) (cond (r4 == r7) (cond (r5 == r8) (C.c14_0 ρ (fun (r9 : Bool) => k0 r9)) (k0 false)) (k0 false)) (k0 false)))

/-- truss/trusslaw01.LexisWalks -/
def Gc10_0 (C : Tab) (ρ : Type) (a1 : ByteArray) (a2 : Int) (k0 : (Bool → Option ρ)) : Option ρ :=
  C.c21_0 ρ a1 (0 : Int) (fun (r3 : Int) (r4 : Int) (r5 : Int) => cond (r3 != (1 : Int)) (k0 false) (cond (r4 != (1 : Int)) (k0 false) (cond (r5 != (0 : Int)) (k0 false) (cond ((a1.size : Int) == (0 : Int)) (C.c14_0 ρ (fun (r6 : Bool) => k0 r6)) (cond ((IntKind.wrap .u64 (a1.size : Int)) == 0) (none) (C.c21_0 ρ a1 (IntKind.wrap .i64 (Int.tmod (IntKind.wrap .u64 a2) (IntKind.wrap .u64 (a1.size : Int)))) (fun (r7 : Int) (r8 : Int) (r9 : Int) => C.c21_0 ρ a1 (IntKind.wrap .i64 ((IntKind.wrap .i64 (Int.tmod (IntKind.wrap .u64 a2) (IntKind.wrap .u64 (a1.size : Int)))) + (1 : Int))) (fun (r10 : Int) (r11 : Int) (r12 : Int) => cond (r9 != (0 : Int)) (k0 false) (cond (r12 != (0 : Int)) (k0 false) (cond (decide ((0 : Int) ≤ (IntKind.wrap .i64 (Int.tmod (IntKind.wrap .u64 a2) (IntKind.wrap .u64 (a1.size : Int))))) && decide ((IntKind.wrap .i64 (Int.tmod (IntKind.wrap .u64 a2) (IntKind.wrap .u64 (a1.size : Int)))) < (a1.size : Int))) (cond ((bt a1 (IntKind.wrap .i64 (Int.tmod (IntKind.wrap .u64 a2) (IntKind.wrap .u64 (a1.size : Int))))) == (10 : Int)) (cond (r10 == (IntKind.wrap .i64 (r7 + (1 : Int)))) (cond (r11 == (1 : Int)) (C.c14_0 ρ (fun (r13 : Bool) => k0 r13)) (k0 false)) (k0 false)) (cond (r10 == r7) (cond (r11 == (IntKind.wrap .i64 (r8 + (1 : Int)))) (C.c14_0 ρ (fun (r14 : Bool) => k0 r14)) (k0 false)) (k0 false))) (none)))))))))))

/-- truss/lexis.Tokens -/
def Gc11_0 (C : Tab) (ρ : Type) (a1 : ByteArray) (k0 : ((List Tok) → Int → Int → Option ρ)) : Option ρ :=
  cond (decide ((a1.size : Int) > (6000 : Int))) (k0 ([] : List Tok) (0 : Int) (5 : Int)) (C.c23_0 ρ a1 (0 : Int) (fun (r2 : ByteArray) (r3 : Int) => C.l11_6_0 ρ a1 ([] : List Tok) r2 r3 (fun (r4 : ByteArray) (r5 : List Tok) => cond (decide ((List.length r5 + List.length [(⟨(7 : Int), (ByteArray.mk #[]), (r4.size : Int)⟩ : Tok)]) * 32 ≤ 140737488355328)) (k0 ((r5 : List Tok) ++ ([(⟨(7 : Int), (ByteArray.mk #[]), (r4.size : Int)⟩ : Tok)] : List Tok)) (0 : Int) (0 : Int)) (none)) (fun (r6 : List Tok) (r7 : Int) (r8 : Int) => k0 r6 r7 r8)))

/-- truss/trussref01.Tokens -/
def Gc12_0 (C : Tab) (ρ : Type) (a1 : ByteArray) (k0 : ((List Tok) → Int → Int → Option ρ)) : Option ρ :=
  cond (decide ((a1.size : Int) > (6000 : Int))) (k0 ([] : List Tok) (0 : Int) (5 : Int)) (C.c25_0 ρ a1 (0 : Int) (fun (r2 : Int) => C.l12_5_0 ρ a1 ([] : List Tok) r2 (fun (r3 : ByteArray) (r4 : List Tok) => cond (decide ((List.length r4 + List.length [(⟨(7 : Int), (ByteArray.mk #[]), (r3.size : Int)⟩ : Tok)]) * 32 ≤ 140737488355328)) (k0 ((r4 : List Tok) ++ ([(⟨(7 : Int), (ByteArray.mk #[]), (r3.size : Int)⟩ : Tok)] : List Tok)) (0 : Int) (0 : Int)) (none)) (fun (r5 : List Tok) (r6 : Int) (r7 : Int) => k0 r5 r6 r7)))

/-- truss/trusslaw01.same -/
def Gc13_0 (C : Tab) (ρ : Type) (a1 : List Tok) (a2 : List Tok) (a3 : Bool) (k0 : (Bool → Option ρ)) : Option ρ :=
  cond (((List.length a1 : Nat) : Int) != ((List.length a2 : Nat) : Int)) (k0 false) (C.l13_4_0 ρ a1 a2 a3 ((List.length a1 : Nat) : Int) (0 : Int) (fun (r4 : Bool) => k0 r4) (k0 true))

/-- truss/trusslaw01.awake -/
def Gc14_0 (C : Tab) (ρ : Type) (k0 : (Bool → Option ρ)) : Option ρ :=
  C.c11_0 ρ (ByteArray.mk #[115, 32, 58, 32, 110, 97, 116, 32, 45, 62, 32, 110, 97, 116, 46, 32, 37, 32, 115, 117, 99, 99, 101, 115, 115, 111, 114]) (fun (r1 : List Tok) (r2 : Int) (r3 : Int) => C.c11_0 ρ (ByteArray.mk #[97, 60, 98]) (fun (r4 : List Tok) (r5 : Int) (r6 : Int) => cond (r3 == (0 : Int)) (cond (r2 == (0 : Int)) (cond (((List.length r1 : Nat) : Int) == (7 : Int)) (cond (decide ((0 : Int) ≤ (3 : Int)) && decide ((3 : Int) < ((List.length r1 : Nat) : Int))) (cond (((rdEl lay Key.tok r1 (3 : Int)).kind == (4 : Int)) && ((strEq ((rdEl lay Key.tok r1 (3 : Int)).text) (ByteArray.mk #[45, 62])) && (((rdEl lay Key.tok r1 (3 : Int)).at_ == (8 : Int)) && true))) (cond (decide ((0 : Int) ≤ (6 : Int)) && decide ((6 : Int) < ((List.length r1 : Nat) : Int))) (cond (((rdEl lay Key.tok r1 (6 : Int)).kind == (7 : Int)) && ((strEq ((rdEl lay Key.tok r1 (6 : Int)).text) (ByteArray.mk #[])) && (((rdEl lay Key.tok r1 (6 : Int)).at_ == (27 : Int)) && true))) (cond (r6 == (4 : Int)) (k0 (r5 == (1 : Int))) (k0 false)) (k0 false)) (none)) (k0 false)) (none)) (k0 false)) (k0 false)) (k0 false)))

/-- truss/lexis.IsSmall -/
def Gc15_0 (C : Tab) (ρ : Type) (a1 : ByteArray) (k0 : (Bool → Option ρ)) : Option ρ :=
  C.c27_0 ρ a1 (fun (r2 : Bool) => k0 r2)

/-- truss/lexis.IsCapital -/
def Gc16_0 (C : Tab) (ρ : Type) (a1 : ByteArray) (k0 : (Bool → Option ρ)) : Option ρ :=
  C.c27_1 ρ a1 (fun (r2 : Bool) => k0 r2)

/-- truss/trussref01.IsSmall -/
def Gc17_0 (C : Tab) (ρ : Type) (a1 : ByteArray) (k0 : (Bool → Option ρ)) : Option ρ :=
  C.c30_0 ρ a1 (fun (r2 : Bool) => cond r2 (cond (decide ((0 : Int) ≤ (0 : Int)) && decide ((0 : Int) < (a1.size : Int))) (C.c31_0 ρ (bt a1 (0 : Int)) (fun (r3 : Bool) => k0 r3)) (none)) (k0 false))

/-- truss/trussref01.IsCapital -/
def Gc18_0 (C : Tab) (ρ : Type) (a1 : ByteArray) (k0 : (Bool → Option ρ)) : Option ρ :=
  C.c30_0 ρ a1 (fun (r2 : Bool) => cond r2 (cond (decide ((0 : Int) ≤ (0 : Int)) && decide ((0 : Int) < (a1.size : Int))) (C.c31_0 ρ (bt a1 (0 : Int)) (fun (r3 : Bool) => k0 (!r3))) (none)) (k0 false))

/-- truss/lexis.Join -/
def Gc19_0 (C : Tab) (ρ : Type) (a1 : List Tok) (k0 : (ByteArray → Int → Option ρ)) : Option ρ :=
  C.l19_3_0 ρ ([] : List ByteArray) a1 ((List.length a1 : Nat) : Int) (0 : Int) (fun (r2 : List ByteArray) => C.c33_0 ρ r2 (ByteArray.mk #[32]) (fun (r3 : ByteArray) => k0 r3 (0 : Int))) (fun (r4 : ByteArray) (r5 : Int) => k0 r4 r5)

/-- truss/trussref01.Join -/
def Gc20_0 (C : Tab) (ρ : Type) (a1 : List Tok) (k0 : (ByteArray → Int → Option ρ)) : Option ρ :=
  C.l20_4_0 ρ ([] : List Int) true a1 ((List.length a1 : Nat) : Int) (0 : Int) (fun (r2 : List Int) => bytesK r2 (fun s3 => k0 s3 (0 : Int))) (fun (r4 : ByteArray) (r5 : Int) => k0 r4 r5)

/-- truss/lexis.Place -/
def Gc21_0 (C : Tab) (ρ : Type) (a1 : ByteArray) (a2 : Int) (k0 : (Int → Int → Int → Option ρ)) : Option ρ :=
  cond (decide (a2 < (0 : Int))) (k0 (0 : Int) (0 : Int) (2 : Int)) (cond (decide (a2 > (a1.size : Int))) (k0 (0 : Int) (0 : Int) (2 : Int)) (cond (decide ((0 : Int) ≤ (0 : Int)) && (decide ((0 : Int) ≤ a2) && decide (a2 ≤ (a1.size : Int)))) (C.c35_0 ρ (ByteArray.extract a1 (Int.toNat (0 : Int)) (Int.toNat a2)) (ByteArray.mk #[10]) (fun (r3 : Int) => C.c36_0 ρ (ByteArray.extract a1 (Int.toNat (0 : Int)) (Int.toNat a2)) (10 : Int) (fun (r4 : Int) => k0 (IntKind.wrap .i64 ((1 : Int) + r3)) (IntKind.wrap .i64 (a2 - r4)) (0 : Int)))) (none)))

/-- truss/trussref01.Place -/
def Gc22_0 (C : Tab) (ρ : Type) (a1 : ByteArray) (a2 : Int) (k0 : (Int → Int → Int → Option ρ)) : Option ρ :=
  cond (decide (a2 < (0 : Int))) (k0 (0 : Int) (0 : Int) (2 : Int)) (cond (decide (a2 > (a1.size : Int))) (k0 (0 : Int) (0 : Int) (2 : Int)) (C.l22_5_0 ρ a1 a2 (1 : Int) (1 : Int) (0 : Int) (fun (r3 : Int) (r4 : Int) => k0 r3 r4 (0 : Int))))

/-- (*truss/lexis.scanner).space -/
def Gc23_0 (C : Tab) (ρ : Type) (a1 : ByteArray) (a2 : Int) (k0 : (ByteArray → Int → Option ρ)) : Option ρ :=
  C.l23_0_0 ρ a1 a2 (fun (r3 : ByteArray) (r4 : Int) => k0 r3 r4)

/-- truss/lexis.rules -/
def Gc24_0 (C : Tab) (ρ : Type) (a1 : Int) (k0 : (Int → Option ρ)) (k1 : (Int → Option ρ)) (k2 : (Int → Option ρ)) (k3 : (Int → Option ρ)) (k4 : (Int → Option ρ)) (k5 : Option ρ) (k6 : (Int → Option ρ)) (k7 : (Int → Option ρ)) : Option ρ :=
  C.c28_0 ρ a1 (fun (r2 : Bool) => cond r2 (k0 a1) (C.c29_0 ρ a1 (fun (r3 : Bool) => cond r3 (k1 a1) (C.c43_0 ρ a1 (fun (r4 : Bool) => cond r4 (k2 a1) (cond (a1 == (95 : Int)) (k3 a1) (cond (a1 == (37 : Int)) (k4 a1) (cond (a1 == (45 : Int)) (k5) (cond (a1 == (60 : Int)) (k6 a1) (k7 a1))))))))))

/-- truss/trussref01.space -/
def Gc25_0 (C : Tab) (ρ : Type) (a1 : ByteArray) (a2 : Int) (k0 : (Int → Option ρ)) : Option ρ :=
  C.l25_1_0 ρ a1 a2 (fun (r3 : Int) => k0 r3) (fun (r4 : Int) => k0 r4)

/-- truss/trussref01.Next -/
def Gc26_0 (C : Tab) (ρ : Type) (a1 : ByteArray) (a2 : Int) (k0 : (Tok → Bool → Option ρ)) : Option ρ :=
  C.c52_0 ρ a1 a2 (fun (r3 : Int) => cond (decide ((0 : Int) ≤ a2) && decide (a2 < (a1.size : Int))) (C.c53_0 ρ (bt a1 a2) (fun (r4 : Bool) => cond r4 (cond (decide ((0 : Int) ≤ a2) && (decide (a2 ≤ r3) && decide (r3 ≤ (a1.size : Int)))) (C.c31_0 ρ (bt a1 a2) (fun (r5 : Bool) => cond (!r5) (C.c30_0 ρ (ByteArray.extract a1 (Int.toNat a2) (Int.toNat r3)) (fun (r6 : Bool) => k0 (⟨(2 : Int), (ByteArray.extract a1 (Int.toNat a2) (Int.toNat r3)), a2⟩ : Tok) r6)) (C.c30_0 ρ (ByteArray.extract a1 (Int.toNat a2) (Int.toNat r3)) (fun (r7 : Bool) => k0 (⟨(1 : Int), (ByteArray.extract a1 (Int.toNat a2) (Int.toNat r3)), a2⟩ : Tok) r7)))) (none)) (cond ((bt a1 a2) == (95 : Int)) (k0 (⟨(3 : Int), (ByteArray.mk #[95]), a2⟩ : Tok) (r3 == (IntKind.wrap .i64 (a2 + (1 : Int))))) (cond (decide ((bt a1 a2) ≥ (48 : Int))) (cond (decide ((bt a1 a2) ≤ (57 : Int))) (cond (decide ((0 : Int) ≤ a2) && (decide (a2 ≤ r3) && decide (r3 ≤ (a1.size : Int)))) (C.c54_0 ρ (ByteArray.extract a1 (Int.toNat a2) (Int.toNat r3)) (fun (r8 : Int) (r9 : Bool) => k0 (⟨(6 : Int), (ByteArray.extract a1 (Int.toNat a2) (Int.toNat r3)), a2⟩ : Tok) r9)) (none)) (cond ((bt a1 a2) == (37 : Int)) (C.c52_0 ρ a1 (IntKind.wrap .i64 (a2 + (1 : Int))) (fun (r10 : Int) => cond (decide ((0 : Int) ≤ a2) && (decide (a2 ≤ r10) && decide (r10 ≤ (a1.size : Int)))) (cond (decide ((0 : Int) ≤ (IntKind.wrap .i64 (a2 + (1 : Int)))) && (decide ((IntKind.wrap .i64 (a2 + (1 : Int))) ≤ r10) && decide (r10 ≤ (a1.size : Int)))) (C.c17_0 ρ (ByteArray.extract a1 (Int.toNat (IntKind.wrap .i64 (a2 + (1 : Int)))) (Int.toNat r10)) (fun (r11 : Bool) => k0 (⟨(5 : Int), (ByteArray.extract a1 (Int.toNat a2) (Int.toNat r10)), a2⟩ : Tok) r11)) (none)) (none))) (C.c55_0 ρ a1 a2 (fun (r12 : Tok) (r13 : Bool) => k0 (⟨r12.kind, r12.text, r12.at_⟩ : Tok) r13)))) (cond ((bt a1 a2) == (37 : Int)) (C.c52_0 ρ a1 (IntKind.wrap .i64 (a2 + (1 : Int))) (fun (r14 : Int) => cond (decide ((0 : Int) ≤ a2) && (decide (a2 ≤ r14) && decide (r14 ≤ (a1.size : Int)))) (cond (decide ((0 : Int) ≤ (IntKind.wrap .i64 (a2 + (1 : Int)))) && (decide ((IntKind.wrap .i64 (a2 + (1 : Int))) ≤ r14) && decide (r14 ≤ (a1.size : Int)))) (C.c17_0 ρ (ByteArray.extract a1 (Int.toNat (IntKind.wrap .i64 (a2 + (1 : Int)))) (Int.toNat r14)) (fun (r15 : Bool) => k0 (⟨(5 : Int), (ByteArray.extract a1 (Int.toNat a2) (Int.toNat r14)), a2⟩ : Tok) r15)) (none)) (none))) (C.c55_0 ρ a1 a2 (fun (r16 : Tok) (r17 : Bool) => k0 (⟨r16.kind, r16.text, r16.at_⟩ : Tok) r17))))))) (none))

/-- truss/lexis.name -/
def Gc27_0 (C : Tab) (ρ : Type) (a1 : ByteArray) (k0 : (Bool → Option ρ)) : Option ρ :=
  cond (decide ((a1.size : Int) < (1 : Int))) (k0 false) (cond (decide ((a1.size : Int) > (16 : Int))) (k0 false) (cond (decide ((0 : Int) ≤ (0 : Int)) && decide ((0 : Int) < (a1.size : Int))) (C.c28_0 ρ (bt a1 (0 : Int)) (fun (r2 : Bool) => cond (!r2) (k0 false) (C.l27_4_0 ρ a1 (a1.size : Int) (0 : Int) (k0 true) (fun (r3 : Bool) => k0 r3)))) (none)))

/-- truss/lexis.name -/
def Gc27_1 (C : Tab) (ρ : Type) (a1 : ByteArray) (k0 : (Bool → Option ρ)) : Option ρ :=
  cond (decide ((a1.size : Int) < (1 : Int))) (k0 false) (cond (decide ((a1.size : Int) > (16 : Int))) (k0 false) (cond (decide ((0 : Int) ≤ (0 : Int)) && decide ((0 : Int) < (a1.size : Int))) (C.c29_0 ρ (bt a1 (0 : Int)) (fun (r2 : Bool) => cond (!r2) (k0 false) (C.l27_4_0 ρ a1 (a1.size : Int) (0 : Int) (k0 true) (fun (r3 : Bool) => k0 r3)))) (none)))

/-- truss/lexis.small -/
def Gc28_0 (C : Tab) (ρ : Type) (a1 : Int) (k0 : (Bool → Option ρ)) : Option ρ :=
  cond (decide (a1 ≥ (97 : Int))) (k0 (decide (a1 ≤ (122 : Int)))) (k0 false)

/-- truss/lexis.capital -/
def Gc29_0 (C : Tab) (ρ : Type) (a1 : Int) (k0 : (Bool → Option ρ)) : Option ρ :=
  cond (decide (a1 ≥ (65 : Int))) (k0 (decide (a1 ≤ (90 : Int)))) (k0 false)

/-- truss/trussref01.IsName -/
def Gc30_0 (C : Tab) (ρ : Type) (a1 : ByteArray) (k0 : (Bool → Option ρ)) : Option ρ :=
  cond (decide ((a1.size : Int) ≥ (1 : Int))) (cond (decide ((a1.size : Int) ≤ (16 : Int))) (cond (decide ((0 : Int) ≤ (0 : Int)) && decide ((0 : Int) < (a1.size : Int))) (C.c53_0 ρ (bt a1 (0 : Int)) (fun (r2 : Bool) => cond r2 (C.c52_0 ρ a1 (0 : Int) (fun (r3 : Int) => k0 (r3 == (a1.size : Int)))) (k0 false))) (none)) (k0 false)) (k0 false)

/-- truss/trussref01.small -/
def Gc31_0 (C : Tab) (ρ : Type) (a1 : Int) (k0 : (Bool → Option ρ)) : Option ρ :=
  cond (decide (a1 ≥ (97 : Int))) (k0 (decide (a1 ≤ (122 : Int)))) (k0 false)

/-- truss/lexis.is -/
def Gc32_0 (C : Tab) (ρ : Type) (a1 : Tok) (k0 : (Bool → Option ρ)) : Option ρ :=
  cond (a1.kind == (7 : Int)) (k0 (strEq a1.text (ByteArray.mk #[]))) (C.c11_0 ρ a1.text (fun (r2 : List Tok) (r3 : Int) (r4 : Int) => cond (r4 == (0 : Int)) (cond (((List.length r2 : Nat) : Int) == (2 : Int)) (cond (decide ((0 : Int) ≤ (0 : Int)) && decide ((0 : Int) < ((List.length r2 : Nat) : Int))) (cond ((rdEl lay Key.tok r2 (0 : Int)).kind == a1.kind) (cond (decide ((0 : Int) ≤ (0 : Int)) && decide ((0 : Int) < ((List.length r2 : Nat) : Int))) (k0 (strEq ((rdEl lay Key.tok r2 (0 : Int)).text) a1.text)) (none)) (k0 false)) (none)) (k0 false)) (k0 false)))

/-- strings.Join -/
def Gc33_0 (C : Tab) (ρ : Type) (a1 : List ByteArray) (a2 : ByteArray) (k0 : (ByteArray → Option ρ)) : Option ρ :=
  toldJoin a1 a2 k0

/-- truss/trussref01.IsToken -/
def Gc34_0 (C : Tab) (ρ : Type) (a1 : Tok) (k0 : (Bool → Option ρ)) : Option ρ :=
  cond (a1.kind == (7 : Int)) (k0 (strEq a1.text (ByteArray.mk #[]))) (cond (strEq a1.text (ByteArray.mk #[])) (k0 false) (C.c25_0 ρ a1.text (0 : Int) (fun (r2 : Int) => cond (decide (r2 > (0 : Int))) (k0 false) (C.c26_0 ρ a1.text (0 : Int) (fun (r3 : Tok) (r4 : Bool) => cond r4 (cond (r3.kind == a1.kind) (k0 (strEq r3.text a1.text)) (k0 false)) (k0 false))))))

/-- strings.Count -/
def Gc35_0 (C : Tab) (ρ : Type) (a1 : ByteArray) (a2 : ByteArray) (k0 : (Int → Option ρ)) : Option ρ :=
  toldCount a1 a2 k0

/-- strings.LastIndexByte -/
def Gc36_0 (C : Tab) (ρ : Type) (a1 : ByteArray) (a2 : Int) (k0 : (Int → Option ρ)) : Option ρ :=
  toldLastIndexByte a1 a2 k0

/-- (*truss/lexis.scanner).peek -/
def Gc37_0 (C : Tab) (ρ : Type) (a1 : Int) (a2 : ByteArray) (a3 : Int) (k0 : (Int → ByteArray → Int → Option ρ)) : Option ρ :=
  cond (decide ((IntKind.wrap .i64 (a3 + a1)) ≥ (a2.size : Int))) (k0 (0 : Int) a2 a3) (cond (decide ((0 : Int) ≤ (IntKind.wrap .i64 (a3 + a1))) && decide ((IntKind.wrap .i64 (a3 + a1)) < (a2.size : Int))) (k0 (bt a2 (IntKind.wrap .i64 (a3 + a1))) a2 a3) (none))

/-- strings.IndexByte -/
def Gc38_0 (C : Tab) (ρ : Type) (a1 : ByteArray) (a2 : Int) (k0 : (Int → Option ρ)) : Option ρ :=
  toldIndexByte a1 a2 k0

/-- truss/lexis.rules$1 -/
def Gc39_0 (C : Tab) (ρ : Type) (a1 : Int) (a2 : ByteArray) (a3 : Bool) (k0 : (Int → ByteArray → Option ρ)) : Option ρ :=
  cond (!a3) (k0 (0 : Int) (ByteArray.mk #[])) (k0 a1 a2)

/-- truss/lexis.rules$2 -/
def Gc40_0 (C : Tab) (ρ : Type) (a1 : ByteArray) (a2 : Int) (k0 : (Int → ByteArray → ByteArray → Int → Option ρ)) : Option ρ :=
  C.c41_0 ρ (0 : Int) a1 a2 (fun (r3 : ByteArray) (r4 : ByteArray) (r5 : Int) => C.c41_0 ρ (0 : Int) r4 r5 (fun (r6 : ByteArray) (r7 : ByteArray) (r8 : Int) => C.c15_0 ρ r6 (fun (r9 : Bool) => C.c39_0 ρ (1 : Int) r3 r9 (fun (r10 : Int) (r11 : ByteArray) => k0 r10 r11 r7 r8))))

/-- (*truss/lexis.scanner).word -/
def Gc41_0 (C : Tab) (ρ : Type) (a1 : Int) (a2 : ByteArray) (a3 : Int) (k0 : (ByteArray → ByteArray → Int → Option ρ)) : Option ρ :=
  C.l41_2_0 ρ a1 (IntKind.wrap .i64 (a3 + a1)) a2 a3 (fun (r4 : Int) (r5 : Int) (r6 : ByteArray) (r7 : Int) => cond (decide ((0 : Int) ≤ (IntKind.wrap .i64 (r7 + r4))) && (decide ((IntKind.wrap .i64 (r7 + r4)) ≤ r5) && decide (r5 ≤ (r6.size : Int)))) (k0 (ByteArray.extract r6 (Int.toNat (IntKind.wrap .i64 (r7 + r4))) (Int.toNat r5)) r6 r7) (none))

/-- truss/lexis.rules$3 -/
def Gc42_0 (C : Tab) (ρ : Type) (a1 : ByteArray) (a2 : Int) (k0 : (Int → ByteArray → ByteArray → Int → Option ρ)) : Option ρ :=
  C.c41_0 ρ (0 : Int) a1 a2 (fun (r3 : ByteArray) (r4 : ByteArray) (r5 : Int) => C.c41_0 ρ (0 : Int) r4 r5 (fun (r6 : ByteArray) (r7 : ByteArray) (r8 : Int) => C.c16_0 ρ r6 (fun (r9 : Bool) => C.c39_0 ρ (2 : Int) r3 r9 (fun (r10 : Int) (r11 : ByteArray) => k0 r10 r11 r7 r8))))

/-- truss/lexis.digit -/
def Gc43_0 (C : Tab) (ρ : Type) (a1 : Int) (k0 : (Bool → Option ρ)) : Option ρ :=
  cond (decide (a1 ≥ (48 : Int))) (k0 (decide (a1 ≤ (57 : Int)))) (k0 false)

/-- truss/lexis.rules$4 -/
def Gc44_0 (C : Tab) (ρ : Type) (a1 : ByteArray) (a2 : Int) (k0 : (Int → ByteArray → ByteArray → Int → Option ρ)) : Option ρ :=
  C.c41_0 ρ (0 : Int) a1 a2 (fun (r3 : ByteArray) (r4 : ByteArray) (r5 : Int) => C.c41_0 ρ (0 : Int) r4 r5 (fun (r6 : ByteArray) (r7 : ByteArray) (r8 : Int) => C.c45_0 ρ r6 (fun (r9 : Bool) => C.c39_0 ρ (6 : Int) r3 r9 (fun (r10 : Int) (r11 : ByteArray) => k0 r10 r11 r7 r8))))

/-- truss/lexis.number -/
def Gc45_0 (C : Tab) (ρ : Type) (a1 : ByteArray) (k0 : (Bool → Option ρ)) : Option ρ :=
  C.c65_0 ρ a1 (fun (r2 : Int) => cond (decide (r2 ≥ (0 : Int))) (cond (decide (r2 ≤ (10000 : Int))) (C.c66_0 ρ r2 (fun (r3 : ByteArray) => k0 (strEq r3 a1))) (k0 false)) (k0 false)) (fun (r4 : Int) => k0 false)

/-- truss/lexis.rules$5 -/
def Gc46_0 (C : Tab) (ρ : Type) (a1 : ByteArray) (a2 : Int) (k0 : (Int → ByteArray → ByteArray → Int → Option ρ)) : Option ρ :=
  C.c41_0 ρ (0 : Int) a1 a2 (fun (r3 : ByteArray) (r4 : ByteArray) (r5 : Int) => C.c39_0 ρ (3 : Int) (ByteArray.mk #[95]) (strEq r3 (ByteArray.mk #[95])) (fun (r6 : Int) (r7 : ByteArray) => k0 r6 r7 r4 r5))

/-- truss/lexis.rules$6 -/
def Gc47_0 (C : Tab) (ρ : Type) (a1 : ByteArray) (a2 : Int) (k0 : (Int → ByteArray → ByteArray → Int → Option ρ)) : Option ρ :=
  C.c41_0 ρ (1 : Int) a1 a2 (fun (r3 : ByteArray) (r4 : ByteArray) (r5 : Int) => cond (decide ((ByteArray.mk #[37]).size + r3.size ≤ 9223372036854775807)) (C.c41_0 ρ (1 : Int) r4 r5 (fun (r6 : ByteArray) (r7 : ByteArray) (r8 : Int) => C.c15_0 ρ r6 (fun (r9 : Bool) => C.c39_0 ρ (5 : Int) ((ByteArray.mk #[37]) ++ r3) r9 (fun (r10 : Int) (r11 : ByteArray) => k0 r10 r11 r7 r8)))) (none))

/-- truss/lexis.rules$7 -/
def Gc48_0 (C : Tab) (ρ : Type) (a1 : ByteArray) (a2 : Int) (k0 : (Int → ByteArray → ByteArray → Int → Option ρ)) : Option ρ :=
  C.c37_0 ρ (1 : Int) a1 a2 (fun (r3 : Int) (r4 : ByteArray) (r5 : Int) => cond (r3 == (62 : Int)) (k0 (4 : Int) (ByteArray.mk #[45, 62]) r4 r5) (k0 (4 : Int) (ByteArray.mk #[45]) r4 r5))

/-- truss/lexis.rules$8 -/
def Gc49_0 (C : Tab) (ρ : Type) (a1 : ByteArray) (a2 : Int) (k0 : (Int → ByteArray → ByteArray → Int → Option ρ)) : Option ρ :=
  C.c37_0 ρ (1 : Int) a1 a2 (fun (r3 : Int) (r4 : ByteArray) (r5 : Int) => C.c39_0 ρ (4 : Int) (ByteArray.mk #[60, 45]) (r3 == (45 : Int)) (fun (r6 : Int) (r7 : ByteArray) => k0 r6 r7 r4 r5))

/-- truss/lexis.rules$9 -/
def Gc50_0 (C : Tab) (ρ : Type) (a1 : ByteArray) (a2 : Int) (a3 : Int) (k0 : (Int → ByteArray → ByteArray → Int → Int → Option ρ)) : Option ρ :=
  C.c38_0 ρ (ByteArray.mk #[58, 46, 123, 125, 91, 93, 40, 41, 43, 42, 124, 61]) a3 (fun (r4 : Int) => C.c39_0 ρ (4 : Int) (Utf8.encode (IntKind.wrap .i32 a3)) (decide (r4 ≥ (0 : Int))) (fun (r5 : Int) (r6 : ByteArray) => k0 r5 r6 a1 a2 a3))

/-- truss/trussref01.comment -/
def Gc51_0 (C : Tab) (ρ : Type) (a1 : ByteArray) (a2 : Int) (k0 : (Bool → Option ρ)) : Option ρ :=
  cond (a2 == (a1.size : Int)) (k0 true) (cond (decide ((0 : Int) ≤ a2) && decide (a2 < (a1.size : Int))) (cond ((bt a1 a2) == (32 : Int)) (k0 true) (cond (decide ((0 : Int) ≤ a2) && decide (a2 < (a1.size : Int))) (cond ((bt a1 a2) == (9 : Int)) (k0 true) (cond (decide ((0 : Int) ≤ a2) && decide (a2 < (a1.size : Int))) (cond ((bt a1 a2) == (13 : Int)) (k0 true) (cond (decide ((0 : Int) ≤ a2) && decide (a2 < (a1.size : Int))) (cond ((bt a1 a2) == (10 : Int)) (k0 true) (cond (decide ((0 : Int) ≤ a2) && decide (a2 < (a1.size : Int))) (k0 ((bt a1 a2) == (37 : Int))) (none))) (none))) (none))) (none))) (none))

/-- truss/trussref01.run -/
def Gc52_0 (C : Tab) (ρ : Type) (a1 : ByteArray) (a2 : Int) (k0 : (Int → Option ρ)) : Option ρ :=
  C.l52_1_0 ρ a1 a2 (fun (r3 : Int) => k0 r3)

/-- truss/trussref01.letter -/
def Gc53_0 (C : Tab) (ρ : Type) (a1 : Int) (k0 : (Bool → Option ρ)) : Option ρ :=
  C.c31_0 ρ a1 (fun (r2 : Bool) => cond r2 (k0 true) (cond (decide (a1 ≥ (65 : Int))) (k0 (decide (a1 ≤ (90 : Int)))) (k0 false)))

/-- truss/trussref01.Number -/
def Gc54_0 (C : Tab) (ρ : Type) (a1 : ByteArray) (k0 : (Int → Bool → Option ρ)) : Option ρ :=
  cond (decide ((a1.size : Int) < (1 : Int))) (k0 (0 : Int) false) (cond (decide ((a1.size : Int) > (5 : Int))) (k0 (0 : Int) false) (cond (decide ((0 : Int) ≤ (0 : Int)) && decide ((0 : Int) < (a1.size : Int))) (cond ((bt a1 (0 : Int)) == (48 : Int)) (cond (decide ((a1.size : Int) > (1 : Int))) (k0 (0 : Int) false) (C.l54_5_0 ρ a1 (0 : Int) (0 : Int) (fun (r2 : Int) (r3 : Bool) => k0 r2 r3) (fun (r4 : Int) => k0 r4 (decide (r4 ≤ (10000 : Int)))))) (C.l54_5_0 ρ a1 (0 : Int) (0 : Int) (fun (r5 : Int) (r6 : Bool) => k0 r5 r6) (fun (r7 : Int) => k0 r7 (decide (r7 ≤ (10000 : Int)))))) (none)))

/-- truss/trussref01.sign -/
def Gc55_0 (C : Tab) (ρ : Type) (a1 : ByteArray) (a2 : Int) (k0 : (Tok → Bool → Option ρ)) : Option ρ :=
  cond (decide ((0 : Int) ≤ a2) && (decide (a2 ≤ (IntKind.wrap .i64 (a2 + (1 : Int)))) && decide ((IntKind.wrap .i64 (a2 + (1 : Int))) ≤ (a1.size : Int)))) (cond (decide ((0 : Int) ≤ a2) && (decide (a2 ≤ (min2 (IntKind.wrap .i64 (a2 + (2 : Int))) (a1.size : Int))) && decide ((min2 (IntKind.wrap .i64 (a2 + (2 : Int))) (a1.size : Int)) ≤ (a1.size : Int)))) (cond (strEq (ByteArray.extract a1 (Int.toNat a2) (Int.toNat (min2 (IntKind.wrap .i64 (a2 + (2 : Int))) (a1.size : Int)))) (ByteArray.mk #[45, 62])) (k0 (⟨(4 : Int), (ByteArray.extract a1 (Int.toNat a2) (Int.toNat (min2 (IntKind.wrap .i64 (a2 + (2 : Int))) (a1.size : Int)))), a2⟩ : Tok) true) (cond (strEq (ByteArray.extract a1 (Int.toNat a2) (Int.toNat (min2 (IntKind.wrap .i64 (a2 + (2 : Int))) (a1.size : Int)))) (ByteArray.mk #[60, 45])) (k0 (⟨(4 : Int), (ByteArray.extract a1 (Int.toNat a2) (Int.toNat (min2 (IntKind.wrap .i64 (a2 + (2 : Int))) (a1.size : Int)))), a2⟩ : Tok) true) (cond (decide ((0 : Int) ≤ a2) && decide (a2 < (a1.size : Int))) (cond ((bt a1 a2) == (45 : Int)) (cond ((bt a1 a2) == (45 : Int)) (k0 (⟨(4 : Int), (ByteArray.extract a1 (Int.toNat a2) (Int.toNat (IntKind.wrap .i64 (a2 + (1 : Int))))), a2⟩ : Tok) true) (k0 (⟨(4 : Int), (ByteArray.extract a1 (Int.toNat a2) (Int.toNat (IntKind.wrap .i64 (a2 + (1 : Int))))), a2⟩ : Tok) false)) (cond ((bt a1 a2) == (58 : Int)) (cond ((bt a1 a2) == (58 : Int)) (k0 (⟨(4 : Int), (ByteArray.extract a1 (Int.toNat a2) (Int.toNat (IntKind.wrap .i64 (a2 + (1 : Int))))), a2⟩ : Tok) true) (k0 (⟨(4 : Int), (ByteArray.extract a1 (Int.toNat a2) (Int.toNat (IntKind.wrap .i64 (a2 + (1 : Int))))), a2⟩ : Tok) false)) (cond ((bt a1 a2) == (46 : Int)) (cond ((bt a1 a2) == (46 : Int)) (k0 (⟨(4 : Int), (ByteArray.extract a1 (Int.toNat a2) (Int.toNat (IntKind.wrap .i64 (a2 + (1 : Int))))), a2⟩ : Tok) true) (k0 (⟨(4 : Int), (ByteArray.extract a1 (Int.toNat a2) (Int.toNat (IntKind.wrap .i64 (a2 + (1 : Int))))), a2⟩ : Tok) false)) (cond ((bt a1 a2) == (123 : Int)) (cond ((bt a1 a2) == (123 : Int)) (k0 (⟨(4 : Int), (ByteArray.extract a1 (Int.toNat a2) (Int.toNat (IntKind.wrap .i64 (a2 + (1 : Int))))), a2⟩ : Tok) true) (k0 (⟨(4 : Int), (ByteArray.extract a1 (Int.toNat a2) (Int.toNat (IntKind.wrap .i64 (a2 + (1 : Int))))), a2⟩ : Tok) false)) (cond ((bt a1 a2) == (125 : Int)) (cond ((bt a1 a2) == (125 : Int)) (k0 (⟨(4 : Int), (ByteArray.extract a1 (Int.toNat a2) (Int.toNat (IntKind.wrap .i64 (a2 + (1 : Int))))), a2⟩ : Tok) true) (k0 (⟨(4 : Int), (ByteArray.extract a1 (Int.toNat a2) (Int.toNat (IntKind.wrap .i64 (a2 + (1 : Int))))), a2⟩ : Tok) false)) (cond ((bt a1 a2) == (91 : Int)) (cond ((bt a1 a2) == (91 : Int)) (k0 (⟨(4 : Int), (ByteArray.extract a1 (Int.toNat a2) (Int.toNat (IntKind.wrap .i64 (a2 + (1 : Int))))), a2⟩ : Tok) true) (k0 (⟨(4 : Int), (ByteArray.extract a1 (Int.toNat a2) (Int.toNat (IntKind.wrap .i64 (a2 + (1 : Int))))), a2⟩ : Tok) false)) (cond ((bt a1 a2) == (93 : Int)) (cond ((bt a1 a2) == (93 : Int)) (k0 (⟨(4 : Int), (ByteArray.extract a1 (Int.toNat a2) (Int.toNat (IntKind.wrap .i64 (a2 + (1 : Int))))), a2⟩ : Tok) true) (k0 (⟨(4 : Int), (ByteArray.extract a1 (Int.toNat a2) (Int.toNat (IntKind.wrap .i64 (a2 + (1 : Int))))), a2⟩ : Tok) false)) (cond ((bt a1 a2) == (40 : Int)) (cond ((bt a1 a2) == (40 : Int)) (k0 (⟨(4 : Int), (ByteArray.extract a1 (Int.toNat a2) (Int.toNat (IntKind.wrap .i64 (a2 + (1 : Int))))), a2⟩ : Tok) true) (k0 (⟨(4 : Int), (ByteArray.extract a1 (Int.toNat a2) (Int.toNat (IntKind.wrap .i64 (a2 + (1 : Int))))), a2⟩ : Tok) false)) (cond ((bt a1 a2) == (41 : Int)) (cond ((bt a1 a2) == (41 : Int)) (k0 (⟨(4 : Int), (ByteArray.extract a1 (Int.toNat a2) (Int.toNat (IntKind.wrap .i64 (a2 + (1 : Int))))), a2⟩ : Tok) true) (k0 (⟨(4 : Int), (ByteArray.extract a1 (Int.toNat a2) (Int.toNat (IntKind.wrap .i64 (a2 + (1 : Int))))), a2⟩ : Tok) false)) (cond ((bt a1 a2) == (43 : Int)) (cond ((bt a1 a2) == (43 : Int)) (k0 (⟨(4 : Int), (ByteArray.extract a1 (Int.toNat a2) (Int.toNat (IntKind.wrap .i64 (a2 + (1 : Int))))), a2⟩ : Tok) true) (k0 (⟨(4 : Int), (ByteArray.extract a1 (Int.toNat a2) (Int.toNat (IntKind.wrap .i64 (a2 + (1 : Int))))), a2⟩ : Tok) false)) (cond ((bt a1 a2) == (42 : Int)) (cond ((bt a1 a2) == (42 : Int)) (k0 (⟨(4 : Int), (ByteArray.extract a1 (Int.toNat a2) (Int.toNat (IntKind.wrap .i64 (a2 + (1 : Int))))), a2⟩ : Tok) true) (k0 (⟨(4 : Int), (ByteArray.extract a1 (Int.toNat a2) (Int.toNat (IntKind.wrap .i64 (a2 + (1 : Int))))), a2⟩ : Tok) false)) (cond ((bt a1 a2) == (124 : Int)) (cond ((bt a1 a2) == (124 : Int)) (k0 (⟨(4 : Int), (ByteArray.extract a1 (Int.toNat a2) (Int.toNat (IntKind.wrap .i64 (a2 + (1 : Int))))), a2⟩ : Tok) true) (k0 (⟨(4 : Int), (ByteArray.extract a1 (Int.toNat a2) (Int.toNat (IntKind.wrap .i64 (a2 + (1 : Int))))), a2⟩ : Tok) false)) (cond ((bt a1 a2) == (61 : Int)) (k0 (⟨(4 : Int), (ByteArray.extract a1 (Int.toNat a2) (Int.toNat (IntKind.wrap .i64 (a2 + (1 : Int))))), a2⟩ : Tok) true) (k0 (⟨(4 : Int), (ByteArray.extract a1 (Int.toNat a2) (Int.toNat (IntKind.wrap .i64 (a2 + (1 : Int))))), a2⟩ : Tok) false)))))))))))))) (none)))) (none)) (none)

/-- truss/lexis.nameByte -/
def Gc56_0 (C : Tab) (ρ : Type) (a1 : Int) (k0 : (Bool → Option ρ)) : Option ρ :=
  C.c28_0 ρ a1 (fun (r2 : Bool) => cond r2 (k0 true) (C.c29_0 ρ a1 (fun (r3 : Bool) => cond r3 (k0 true) (C.c43_0 ρ a1 (fun (r4 : Bool) => cond r4 (k0 true) (cond (a1 == (95 : Int)) (k0 true) (k0 (a1 == (39 : Int)))))))))

/-- strconv.Atoi -/
def Gc65_0 (C : Tab) (ρ : Type) (a1 : ByteArray) (k0 : (Int → Option ρ)) (k1 : (Int → Option ρ)) : Option ρ :=
  toldAtoi a1 k0 k1

/-- strconv.Itoa -/
def Gc66_0 (C : Tab) (ρ : Type) (a1 : Int) (k0 : (ByteArray → Option ρ)) : Option ρ :=
  toldItoa a1 k0

/-- truss/trussref01.byteOf -/
def Gc67_0 (C : Tab) (ρ : Type) (a1 : Int) (k0 : (Bool → Option ρ)) : Option ρ :=
  C.c53_0 ρ a1 (fun (r2 : Bool) => cond r2 (k0 true) (cond (decide (a1 ≥ (48 : Int))) (cond (decide (a1 ≤ (57 : Int))) (k0 true) (cond (a1 == (95 : Int)) (k0 true) (k0 (a1 == (39 : Int))))) (cond (a1 == (95 : Int)) (k0 true) (k0 (a1 == (39 : Int))))))

/-- a loop of truss/trusslaw01.LexisStands -/
def Gl5_6_0 (C : Tab) (ρ : Type) (a1 : ByteArray) (a2 : List Tok) (a3 : Int) (a4 : Int) (a5 : List Tok) (a6 : Int) (a7 : Int) (k0 : (Bool → Option ρ)) (k1 : (ByteArray → (List Tok) → Int → Option ρ)) : Option ρ :=
  cond (decide (a7 < a6)) (cond (decide ((0 : Int) ≤ a7) && decide (a7 < ((List.length a5 : Nat) : Int))) (cond (decide ((rdEl lay Key.tok a5 a7).at_ < a4)) (k0 false) (cond (decide ((IntKind.wrap .i64 ((rdEl lay Key.tok a5 a7).at_ + (((rdEl lay Key.tok a5 a7).text).size : Int))) > (a1.size : Int))) (k0 false) (cond (decide ((0 : Int) ≤ (rdEl lay Key.tok a5 a7).at_) && (decide ((rdEl lay Key.tok a5 a7).at_ ≤ (IntKind.wrap .i64 ((rdEl lay Key.tok a5 a7).at_ + (((rdEl lay Key.tok a5 a7).text).size : Int)))) && decide ((IntKind.wrap .i64 ((rdEl lay Key.tok a5 a7).at_ + (((rdEl lay Key.tok a5 a7).text).size : Int))) ≤ (a1.size : Int)))) (cond (!strEq (ByteArray.extract a1 (Int.toNat (rdEl lay Key.tok a5 a7).at_) (Int.toNat (IntKind.wrap .i64 ((rdEl lay Key.tok a5 a7).at_ + (((rdEl lay Key.tok a5 a7).text).size : Int))))) ((rdEl lay Key.tok a5 a7).text)) (k0 false) (cond (((rdEl lay Key.tok a5 a7).kind == (7 : Int)) != (a7 == (IntKind.wrap .i64 (((List.length a2 : Nat) : Int) - (1 : Int))))) (k0 false) (cond ((strEq ((rdEl lay Key.tok a5 a7).text) (ByteArray.mk #[])) != ((rdEl lay Key.tok a5 a7).kind == (7 : Int))) (k0 false) (C.l5_6_0 ρ a1 a2 a3 (IntKind.wrap .i64 ((rdEl lay Key.tok a5 a7).at_ + (((rdEl lay Key.tok a5 a7).text).size : Int))) a5 a6 (IntKind.wrap .i64 (a7 + (1 : Int))) k0 k1)))) (none)))) (none)) (k1 a1 a2 a3)

/-- a loop of truss/trusslaw01.LexisBlank -/
def Gl6_11_0 (C : Tab) (ρ : Type) (a1 : ByteArray) (a2 : Int) (a3 : ByteArray) (a4 : List Tok) (a5 : List Int) (a6 : Int) (k0 : (ByteArray → Int → (List Tok) → (List Int) → Option ρ)) : Option ρ :=
  cond (decide (a6 < (a3.size : Int))) (cond (decide ((0 : Int) ≤ a6) && decide (a6 < (a3.size : Int))) (cond ((bt a3 a6) != (10 : Int)) (cond (decide ((0 : Int) ≤ a6) && decide (a6 < (a3.size : Int))) (cond (decide ((List.length a5 + List.length [(bt a3 a6)]) * 1 ≤ 140737488355328)) (C.l6_11_0 ρ a1 a2 a3 a4 ((a5 : List Int) ++ ([(bt a3 a6)] : List Int)) (IntKind.wrap .i64 (a6 + (1 : Int))) k0) (none)) (none)) (C.l6_11_0 ρ a1 a2 a3 a4 a5 (IntKind.wrap .i64 (a6 + (1 : Int))) k0)) (none)) (k0 a1 a2 a4 a5)

/-- a loop of truss/trusslaw01.LexisBlank -/
def Gl6_20_0 (C : Tab) (ρ : Type) (a1 : Int) (a2 : List Tok) (a3 : ByteArray) (a4 : List Tok) (a5 : Int) (a6 : Int) (k0 : (Bool → Option ρ)) (k1 : Option ρ) : Option ρ :=
  cond (decide (a6 < a5)) (cond (decide ((0 : Int) ≤ a6) && decide (a6 < ((List.length a2 : Nat) : Int))) (cond (decide (a6 ≥ a1)) (cond (decide ((0 : Int) ≤ a6) && decide (a6 < ((List.length a4 : Nat) : Int))) (cond ((rdEl lay Key.tok a4 a6).at_ != (IntKind.wrap .i64 ((rdEl lay Key.tok a2 a6).at_ + (a3.size : Int)))) (k0 false) (C.l6_20_0 ρ a1 a2 a3 a4 a5 (IntKind.wrap .i64 (a6 + (1 : Int))) k0 k1)) (none)) (cond (decide ((0 : Int) ≤ a6) && decide (a6 < ((List.length a4 : Nat) : Int))) (cond ((rdEl lay Key.tok a4 a6).at_ != (rdEl lay Key.tok a2 a6).at_) (k0 false) (C.l6_20_0 ρ a1 a2 a3 a4 a5 (IntKind.wrap .i64 (a6 + (1 : Int))) k0 k1)) (none))) (none)) (k1)

/-- a loop of truss/trusslaw01.LexisJoins -/
def Gl8_9_0 (C : Tab) (ρ : Type) (a1 : ByteArray) (a2 : List Tok) (a3 : List Tok) (a4 : Int) (a5 : Int) (k0 : (ByteArray → (List Tok) → Option ρ)) : Option ρ :=
  cond (decide (a5 < a4)) (cond (decide ((0 : Int) ≤ a5) && decide (a5 < ((List.length a3 : Nat) : Int))) (cond ((rdEl lay Key.tok a3 a5).kind != (7 : Int)) (cond (decide ((List.length a2 + List.length [(⟨(rdEl lay Key.tok a3 a5).kind, (rdEl lay Key.tok a3 a5).text, (rdEl lay Key.tok a3 a5).at_⟩ : Tok)]) * 32 ≤ 140737488355328)) (C.l8_9_0 ρ a1 ((a2 : List Tok) ++ ([(⟨(rdEl lay Key.tok a3 a5).kind, (rdEl lay Key.tok a3 a5).text, (rdEl lay Key.tok a3 a5).at_⟩ : Tok)] : List Tok)) a3 a4 (IntKind.wrap .i64 (a5 + (1 : Int))) k0) (none)) (C.l8_9_0 ρ a1 a2 a3 a4 (IntKind.wrap .i64 (a5 + (1 : Int))) k0)) (none)) (k0 a1 a2)

/-- a loop of truss/lexis.Tokens -/
def Gl11_6_0 (C : Tab) (ρ : Type) (a1 : ByteArray) (a2 : List Tok) (a3 : ByteArray) (a4 : Int) (k0 : (ByteArray → (List Tok) → Option ρ)) (k1 : ((List Tok) → Int → Int → Option ρ)) : Option ρ :=
  cond (decide (a4 < (a1.size : Int))) (cond (decide ((0 : Int) ≤ a4) && decide (a4 < (a1.size : Int))) (C.c24_0 ρ (bt a1 a4) (fun (r5 : Int) => C.c40_0 ρ a3 a4 (fun (r6 : Int) (r7 : ByteArray) (r8 : ByteArray) (r9 : Int) => cond (strEq r7 (ByteArray.mk #[])) (k1 ([] : List Tok) r9 (4 : Int)) (cond (decide ((List.length a2 + List.length [(⟨r6, r7, r9⟩ : Tok)]) * 32 ≤ 140737488355328)) (C.c23_0 ρ r8 (IntKind.wrap .i64 (r9 + (r7.size : Int))) (fun (r10 : ByteArray) (r11 : Int) => C.l11_6_0 ρ a1 ((a2 : List Tok) ++ ([(⟨r6, r7, r9⟩ : Tok)] : List Tok)) r10 r11 k0 k1)) (none)))) (fun (r12 : Int) => C.c42_0 ρ a3 a4 (fun (r13 : Int) (r14 : ByteArray) (r15 : ByteArray) (r16 : Int) => cond (strEq r14 (ByteArray.mk #[])) (k1 ([] : List Tok) r16 (4 : Int)) (cond (decide ((List.length a2 + List.length [(⟨r13, r14, r16⟩ : Tok)]) * 32 ≤ 140737488355328)) (C.c23_0 ρ r15 (IntKind.wrap .i64 (r16 + (r14.size : Int))) (fun (r17 : ByteArray) (r18 : Int) => C.l11_6_0 ρ a1 ((a2 : List Tok) ++ ([(⟨r13, r14, r16⟩ : Tok)] : List Tok)) r17 r18 k0 k1)) (none)))) (fun (r19 : Int) => C.c44_0 ρ a3 a4 (fun (r20 : Int) (r21 : ByteArray) (r22 : ByteArray) (r23 : Int) => cond (strEq r21 (ByteArray.mk #[])) (k1 ([] : List Tok) r23 (4 : Int)) (cond (decide ((List.length a2 + List.length [(⟨r20, r21, r23⟩ : Tok)]) * 32 ≤ 140737488355328)) (C.c23_0 ρ r22 (IntKind.wrap .i64 (r23 + (r21.size : Int))) (fun (r24 : ByteArray) (r25 : Int) => C.l11_6_0 ρ a1 ((a2 : List Tok) ++ ([(⟨r20, r21, r23⟩ : Tok)] : List Tok)) r24 r25 k0 k1)) (none)))) (fun (r26 : Int) => C.c46_0 ρ a3 a4 (fun (r27 : Int) (r28 : ByteArray) (r29 : ByteArray) (r30 : Int) => cond (strEq r28 (ByteArray.mk #[])) (k1 ([] : List Tok) r30 (4 : Int)) (cond (decide ((List.length a2 + List.length [(⟨r27, r28, r30⟩ : Tok)]) * 32 ≤ 140737488355328)) (C.c23_0 ρ r29 (IntKind.wrap .i64 (r30 + (r28.size : Int))) (fun (r31 : ByteArray) (r32 : Int) => C.l11_6_0 ρ a1 ((a2 : List Tok) ++ ([(⟨r27, r28, r30⟩ : Tok)] : List Tok)) r31 r32 k0 k1)) (none)))) (fun (r33 : Int) => C.c47_0 ρ a3 a4 (fun (r34 : Int) (r35 : ByteArray) (r36 : ByteArray) (r37 : Int) => cond (strEq r35 (ByteArray.mk #[])) (k1 ([] : List Tok) r37 (4 : Int)) (cond (decide ((List.length a2 + List.length [(⟨r34, r35, r37⟩ : Tok)]) * 32 ≤ 140737488355328)) (C.c23_0 ρ r36 (IntKind.wrap .i64 (r37 + (r35.size : Int))) (fun (r38 : ByteArray) (r39 : Int) => C.l11_6_0 ρ a1 ((a2 : List Tok) ++ ([(⟨r34, r35, r37⟩ : Tok)] : List Tok)) r38 r39 k0 k1)) (none)))) (C.c48_0 ρ a3 a4 (fun (r40 : Int) (r41 : ByteArray) (r42 : ByteArray) (r43 : Int) => cond (strEq r41 (ByteArray.mk #[])) (k1 ([] : List Tok) r43 (4 : Int)) (cond (decide ((List.length a2 + List.length [(⟨r40, r41, r43⟩ : Tok)]) * 32 ≤ 140737488355328)) (C.c23_0 ρ r42 (IntKind.wrap .i64 (r43 + (r41.size : Int))) (fun (r44 : ByteArray) (r45 : Int) => C.l11_6_0 ρ a1 ((a2 : List Tok) ++ ([(⟨r40, r41, r43⟩ : Tok)] : List Tok)) r44 r45 k0 k1)) (none)))) (fun (r46 : Int) => C.c49_0 ρ a3 a4 (fun (r47 : Int) (r48 : ByteArray) (r49 : ByteArray) (r50 : Int) => cond (strEq r48 (ByteArray.mk #[])) (k1 ([] : List Tok) r50 (4 : Int)) (cond (decide ((List.length a2 + List.length [(⟨r47, r48, r50⟩ : Tok)]) * 32 ≤ 140737488355328)) (C.c23_0 ρ r49 (IntKind.wrap .i64 (r50 + (r48.size : Int))) (fun (r51 : ByteArray) (r52 : Int) => C.l11_6_0 ρ a1 ((a2 : List Tok) ++ ([(⟨r47, r48, r50⟩ : Tok)] : List Tok)) r51 r52 k0 k1)) (none)))) (fun (r53 : Int) => C.c50_0 ρ a3 a4 r53 (fun (r54 : Int) (r55 : ByteArray) (r56 : ByteArray) (r57 : Int) (r58 : Int) => cond (strEq r55 (ByteArray.mk #[])) (k1 ([] : List Tok) r57 (4 : Int)) (cond (decide ((List.length a2 + List.length [(⟨r54, r55, r57⟩ : Tok)]) * 32 ≤ 140737488355328)) (C.c23_0 ρ r56 (IntKind.wrap .i64 (r57 + (r55.size : Int))) (fun (r59 : ByteArray) (r60 : Int) => C.l11_6_0 ρ a1 ((a2 : List Tok) ++ ([(⟨r54, r55, r57⟩ : Tok)] : List Tok)) r59 r60 k0 k1)) (none))))) (none)) (k0 a1 a2)

/-- a loop of truss/trussref01.Tokens -/
def Gl12_5_0 (C : Tab) (ρ : Type) (a1 : ByteArray) (a2 : List Tok) (a3 : Int) (k0 : (ByteArray → (List Tok) → Option ρ)) (k1 : ((List Tok) → Int → Int → Option ρ)) : Option ρ :=
  cond (decide (a3 < (a1.size : Int))) (C.c26_0 ρ a1 a3 (fun (r4 : Tok) (r5 : Bool) => cond (!r5) (k1 ([] : List Tok) a3 (4 : Int)) (cond (decide ((List.length a2 + List.length [(⟨r4.kind, r4.text, r4.at_⟩ : Tok)]) * 32 ≤ 140737488355328)) (C.c25_0 ρ a1 (IntKind.wrap .i64 (a3 + (r4.text.size : Int))) (fun (r6 : Int) => C.l12_5_0 ρ a1 ((a2 : List Tok) ++ ([(⟨r4.kind, r4.text, r4.at_⟩ : Tok)] : List Tok)) r6 k0 k1)) (none)))) (k0 a1 a2)

/-- a loop of truss/trusslaw01.same -/
def Gl13_4_0 (C : Tab) (ρ : Type) (a1 : List Tok) (a2 : List Tok) (a3 : Bool) (a4 : Int) (a5 : Int) (k0 : (Bool → Option ρ)) (k1 : Option ρ) : Option ρ :=
  cond (decide (a5 < a4)) (cond (decide ((0 : Int) ≤ a5) && decide (a5 < ((List.length a1 : Nat) : Int))) (cond (decide ((0 : Int) ≤ a5) && decide (a5 < ((List.length a2 : Nat) : Int))) (cond ((rdEl lay Key.tok a1 a5).kind != (rdEl lay Key.tok a2 a5).kind) (k0 false) (cond (decide ((0 : Int) ≤ a5) && decide (a5 < ((List.length a1 : Nat) : Int))) (cond (decide ((0 : Int) ≤ a5) && decide (a5 < ((List.length a2 : Nat) : Int))) (cond (!strEq ((rdEl lay Key.tok a1 a5).text) ((rdEl lay Key.tok a2 a5).text)) (k0 false) (cond a3 (cond (decide ((0 : Int) ≤ a5) && decide (a5 < ((List.length a1 : Nat) : Int))) (cond (decide ((0 : Int) ≤ a5) && decide (a5 < ((List.length a2 : Nat) : Int))) (cond ((rdEl lay Key.tok a1 a5).at_ != (rdEl lay Key.tok a2 a5).at_) (k0 false) (C.l13_4_0 ρ a1 a2 a3 a4 (IntKind.wrap .i64 (a5 + (1 : Int))) k0 k1)) (none)) (none)) (C.l13_4_0 ρ a1 a2 a3 a4 (IntKind.wrap .i64 (a5 + (1 : Int))) k0 k1))) (none)) (none))) (none)) (none)) (k1)

/-- a loop of truss/lexis.Join -/
def Gl19_3_0 (C : Tab) (ρ : Type) (a1 : List ByteArray) (a2 : List Tok) (a3 : Int) (a4 : Int) (k0 : ((List ByteArray) → Option ρ)) (k1 : (ByteArray → Int → Option ρ)) : Option ρ :=
  cond (decide (a4 < a3)) (cond (decide ((0 : Int) ≤ a4) && decide (a4 < ((List.length a2 : Nat) : Int))) (C.c32_0 ρ (⟨(rdEl lay Key.tok a2 a4).kind, (rdEl lay Key.tok a2 a4).text, (rdEl lay Key.tok a2 a4).at_⟩ : Tok) (fun (r5 : Bool) => cond (!r5) (k1 (ByteArray.mk #[]) (2 : Int)) (cond ((rdEl lay Key.tok a2 a4).kind != (7 : Int)) (cond (decide ((List.length a1 + List.length [(rdEl lay Key.tok a2 a4).text]) * 16 ≤ 140737488355328)) (C.l19_3_0 ρ ((a1 : List ByteArray) ++ ([(rdEl lay Key.tok a2 a4).text] : List ByteArray)) a2 a3 (IntKind.wrap .i64 (a4 + (1 : Int))) k0 k1) (none)) (C.l19_3_0 ρ a1 a2 a3 (IntKind.wrap .i64 (a4 + (1 : Int))) k0 k1)))) (none)) (k0 a1)

/-- a loop of truss/trussref01.Join -/
def Gl20_4_0 (C : Tab) (ρ : Type) (a1 : List Int) (a2 : Bool) (a3 : List Tok) (a4 : Int) (a5 : Int) (k0 : ((List Int) → Option ρ)) (k1 : (ByteArray → Int → Option ρ)) : Option ρ :=
  cond (decide (a5 < a4)) (cond (decide ((0 : Int) ≤ a5) && decide (a5 < ((List.length a3 : Nat) : Int))) (C.c34_0 ρ (⟨(rdEl lay Key.tok a3 a5).kind, (rdEl lay Key.tok a3 a5).text, (rdEl lay Key.tok a3 a5).at_⟩ : Tok) (fun (r6 : Bool) => cond (!r6) (k1 (ByteArray.mk #[]) (2 : Int)) (cond ((rdEl lay Key.tok a3 a5).kind == (7 : Int)) (C.l20_4_0 ρ a1 a2 a3 a4 (IntKind.wrap .i64 (a5 + (1 : Int))) k0 k1) (cond (!a2) (cond (decide ((List.length a1 + List.length [(32 : Int)]) * 1 ≤ 140737488355328)) (appStrK ((rdEl lay Key.tok a3 a5).text) (fun s7 => cond (decide ((List.length ((a1 : List Int) ++ ([(32 : Int)] : List Int)) + List.length s7) * 1 ≤ 140737488355328)) (C.l20_4_0 ρ ((((a1 : List Int) ++ ([(32 : Int)] : List Int)) : List Int) ++ (s7 : List Int)) false a3 a4 (IntKind.wrap .i64 (a5 + (1 : Int))) k0 k1) (none))) (none)) (appStrK ((rdEl lay Key.tok a3 a5).text) (fun s8 => cond (decide ((List.length a1 + List.length s8) * 1 ≤ 140737488355328)) (C.l20_4_0 ρ ((a1 : List Int) ++ (s8 : List Int)) false a3 a4 (IntKind.wrap .i64 (a5 + (1 : Int))) k0 k1) (none))))))) (none)) (k0 a1)

/-- a loop of truss/trussref01.Place -/
def Gl22_5_0 (C : Tab) (ρ : Type) (a1 : ByteArray) (a2 : Int) (a3 : Int) (a4 : Int) (a5 : Int) (k0 : (Int → Int → Option ρ)) : Option ρ :=
  cond (decide (a5 < a2)) (cond (decide ((0 : Int) ≤ a5) && decide (a5 < (a1.size : Int))) (cond ((bt a1 a5) == (10 : Int)) (C.l22_5_0 ρ a1 a2 (IntKind.wrap .i64 (a3 + (1 : Int))) (1 : Int) (IntKind.wrap .i64 (a5 + (1 : Int))) k0) (C.l22_5_0 ρ a1 a2 a3 (IntKind.wrap .i64 (a4 + (1 : Int))) (IntKind.wrap .i64 (a5 + (1 : Int))) k0)) (none)) (k0 a3 a4)

/-- a loop of (*truss/lexis.scanner).space -/
def Gl23_0_0 (C : Tab) (ρ : Type) (a1 : ByteArray) (a2 : Int) (k0 : (ByteArray → Int → Option ρ)) : Option ρ :=
  cond (decide (a2 < (a1.size : Int))) (cond (decide ((0 : Int) ≤ a2) && decide (a2 < (a1.size : Int))) (cond ((bt a1 a2) == (32 : Int)) (cond ((bt a1 a2) == (32 : Int)) (C.l23_0_0 ρ a1 (IntKind.wrap .i64 (a2 + (1 : Int))) k0) (cond ((bt a1 a2) == (37 : Int)) (C.c37_0 ρ (1 : Int) a1 a2 (fun (r3 : Int) (r4 : ByteArray) (r5 : Int) => cond ((IntKind.wrap .i64 (r5 + (1 : Int))) == (r4.size : Int)) (cond (decide ((0 : Int) ≤ r5) && (decide (r5 ≤ (r4.size : Int)) && decide ((r4.size : Int) ≤ (r4.size : Int)))) (C.c38_0 ρ (ByteArray.extract r4 (Int.toNat r5) (Int.toNat (r4.size : Int))) (10 : Int) (fun (r6 : Int) => cond (decide (r6 < (0 : Int))) (C.l23_0_0 ρ r4 (IntKind.wrap .i64 (r5 + (IntKind.wrap .i64 ((r4.size : Int) - r5)))) k0) (C.l23_0_0 ρ r4 (IntKind.wrap .i64 (r5 + r6)) k0))) (none)) (cond (r3 == (32 : Int)) (cond (decide ((0 : Int) ≤ r5) && (decide (r5 ≤ (r4.size : Int)) && decide ((r4.size : Int) ≤ (r4.size : Int)))) (C.c38_0 ρ (ByteArray.extract r4 (Int.toNat r5) (Int.toNat (r4.size : Int))) (10 : Int) (fun (r7 : Int) => cond (decide (r7 < (0 : Int))) (C.l23_0_0 ρ r4 (IntKind.wrap .i64 (r5 + (IntKind.wrap .i64 ((r4.size : Int) - r5)))) k0) (C.l23_0_0 ρ r4 (IntKind.wrap .i64 (r5 + r7)) k0))) (none)) (cond (r3 == (9 : Int)) (cond (decide ((0 : Int) ≤ r5) && (decide (r5 ≤ (r4.size : Int)) && decide ((r4.size : Int) ≤ (r4.size : Int)))) (C.c38_0 ρ (ByteArray.extract r4 (Int.toNat r5) (Int.toNat (r4.size : Int))) (10 : Int) (fun (r8 : Int) => cond (decide (r8 < (0 : Int))) (C.l23_0_0 ρ r4 (IntKind.wrap .i64 (r5 + (IntKind.wrap .i64 ((r4.size : Int) - r5)))) k0) (C.l23_0_0 ρ r4 (IntKind.wrap .i64 (r5 + r8)) k0))) (none)) (cond (r3 == (13 : Int)) (cond (decide ((0 : Int) ≤ r5) && (decide (r5 ≤ (r4.size : Int)) && decide ((r4.size : Int) ≤ (r4.size : Int)))) (C.c38_0 ρ (ByteArray.extract r4 (Int.toNat r5) (Int.toNat (r4.size : Int))) (10 : Int) (fun (r9 : Int) => cond (decide (r9 < (0 : Int))) (C.l23_0_0 ρ r4 (IntKind.wrap .i64 (r5 + (IntKind.wrap .i64 ((r4.size : Int) - r5)))) k0) (C.l23_0_0 ρ r4 (IntKind.wrap .i64 (r5 + r9)) k0))) (none)) (cond (r3 == (10 : Int)) (cond (decide ((0 : Int) ≤ r5) && (decide (r5 ≤ (r4.size : Int)) && decide ((r4.size : Int) ≤ (r4.size : Int)))) (C.c38_0 ρ (ByteArray.extract r4 (Int.toNat r5) (Int.toNat (r4.size : Int))) (10 : Int) (fun (r10 : Int) => cond (decide (r10 < (0 : Int))) (C.l23_0_0 ρ r4 (IntKind.wrap .i64 (r5 + (IntKind.wrap .i64 ((r4.size : Int) - r5)))) k0) (C.l23_0_0 ρ r4 (IntKind.wrap .i64 (r5 + r10)) k0))) (none)) (cond (r3 == (37 : Int)) (cond (decide ((0 : Int) ≤ r5) && (decide (r5 ≤ (r4.size : Int)) && decide ((r4.size : Int) ≤ (r4.size : Int)))) (C.c38_0 ρ (ByteArray.extract r4 (Int.toNat r5) (Int.toNat (r4.size : Int))) (10 : Int) (fun (r11 : Int) => cond (decide (r11 < (0 : Int))) (C.l23_0_0 ρ r4 (IntKind.wrap .i64 (r5 + (IntKind.wrap .i64 ((r4.size : Int) - r5)))) k0) (C.l23_0_0 ρ r4 (IntKind.wrap .i64 (r5 + r11)) k0))) (none)) (k0 r4 r5)))))))) (k0 a1 a2))) (cond ((bt a1 a2) == (9 : Int)) (cond ((bt a1 a2) == (9 : Int)) (C.l23_0_0 ρ a1 (IntKind.wrap .i64 (a2 + (1 : Int))) k0) (cond ((bt a1 a2) == (37 : Int)) (C.c37_0 ρ (1 : Int) a1 a2 (fun (r12 : Int) (r13 : ByteArray) (r14 : Int) => cond ((IntKind.wrap .i64 (r14 + (1 : Int))) == (r13.size : Int)) (cond (decide ((0 : Int) ≤ r14) && (decide (r14 ≤ (r13.size : Int)) && decide ((r13.size : Int) ≤ (r13.size : Int)))) (C.c38_0 ρ (ByteArray.extract r13 (Int.toNat r14) (Int.toNat (r13.size : Int))) (10 : Int) (fun (r15 : Int) => cond (decide (r15 < (0 : Int))) (C.l23_0_0 ρ r13 (IntKind.wrap .i64 (r14 + (IntKind.wrap .i64 ((r13.size : Int) - r14)))) k0) (C.l23_0_0 ρ r13 (IntKind.wrap .i64 (r14 + r15)) k0))) (none)) (cond (r12 == (32 : Int)) (cond (decide ((0 : Int) ≤ r14) && (decide (r14 ≤ (r13.size : Int)) && decide ((r13.size : Int) ≤ (r13.size : Int)))) (C.c38_0 ρ (ByteArray.extract r13 (Int.toNat r14) (Int.toNat (r13.size : Int))) (10 : Int) (fun (r16 : Int) => cond (decide (r16 < (0 : Int))) (C.l23_0_0 ρ r13 (IntKind.wrap .i64 (r14 + (IntKind.wrap .i64 ((r13.size : Int) - r14)))) k0) (C.l23_0_0 ρ r13 (IntKind.wrap .i64 (r14 + r16)) k0))) (none)) (cond (r12 == (9 : Int)) (cond (decide ((0 : Int) ≤ r14) && (decide (r14 ≤ (r13.size : Int)) && decide ((r13.size : Int) ≤ (r13.size : Int)))) (C.c38_0 ρ (ByteArray.extract r13 (Int.toNat r14) (Int.toNat (r13.size : Int))) (10 : Int) (fun (r17 : Int) => cond (decide (r17 < (0 : Int))) (C.l23_0_0 ρ r13 (IntKind.wrap .i64 (r14 + (IntKind.wrap .i64 ((r13.size : Int) - r14)))) k0) (C.l23_0_0 ρ r13 (IntKind.wrap .i64 (r14 + r17)) k0))) (none)) (cond (r12 == (13 : Int)) (cond (decide ((0 : Int) ≤ r14) && (decide (r14 ≤ (r13.size : Int)) && decide ((r13.size : Int) ≤ (r13.size : Int)))) (C.c38_0 ρ (ByteArray.extract r13 (Int.toNat r14) (Int.toNat (r13.size : Int))) (10 : Int) (fun (r18 : Int) => cond (decide (r18 < (0 : Int))) (C.l23_0_0 ρ r13 (IntKind.wrap .i64 (r14 + (IntKind.wrap .i64 ((r13.size : Int) - r14)))) k0) (C.l23_0_0 ρ r13 (IntKind.wrap .i64 (r14 + r18)) k0))) (none)) (cond (r12 == (10 : Int)) (cond (decide ((0 : Int) ≤ r14) && (decide (r14 ≤ (r13.size : Int)) && decide ((r13.size : Int) ≤ (r13.size : Int)))) (C.c38_0 ρ (ByteArray.extract r13 (Int.toNat r14) (Int.toNat (r13.size : Int))) (10 : Int) (fun (r19 : Int) => cond (decide (r19 < (0 : Int))) (C.l23_0_0 ρ r13 (IntKind.wrap .i64 (r14 + (IntKind.wrap .i64 ((r13.size : Int) - r14)))) k0) (C.l23_0_0 ρ r13 (IntKind.wrap .i64 (r14 + r19)) k0))) (none)) (cond (r12 == (37 : Int)) (cond (decide ((0 : Int) ≤ r14) && (decide (r14 ≤ (r13.size : Int)) && decide ((r13.size : Int) ≤ (r13.size : Int)))) (C.c38_0 ρ (ByteArray.extract r13 (Int.toNat r14) (Int.toNat (r13.size : Int))) (10 : Int) (fun (r20 : Int) => cond (decide (r20 < (0 : Int))) (C.l23_0_0 ρ r13 (IntKind.wrap .i64 (r14 + (IntKind.wrap .i64 ((r13.size : Int) - r14)))) k0) (C.l23_0_0 ρ r13 (IntKind.wrap .i64 (r14 + r20)) k0))) (none)) (k0 r13 r14)))))))) (k0 a1 a2))) (cond ((bt a1 a2) == (10 : Int)) (cond ((bt a1 a2) == (10 : Int)) (C.l23_0_0 ρ a1 (IntKind.wrap .i64 (a2 + (1 : Int))) k0) (cond ((bt a1 a2) == (37 : Int)) (C.c37_0 ρ (1 : Int) a1 a2 (fun (r21 : Int) (r22 : ByteArray) (r23 : Int) => cond ((IntKind.wrap .i64 (r23 + (1 : Int))) == (r22.size : Int)) (cond (decide ((0 : Int) ≤ r23) && (decide (r23 ≤ (r22.size : Int)) && decide ((r22.size : Int) ≤ (r22.size : Int)))) (C.c38_0 ρ (ByteArray.extract r22 (Int.toNat r23) (Int.toNat (r22.size : Int))) (10 : Int) (fun (r24 : Int) => cond (decide (r24 < (0 : Int))) (C.l23_0_0 ρ r22 (IntKind.wrap .i64 (r23 + (IntKind.wrap .i64 ((r22.size : Int) - r23)))) k0) (C.l23_0_0 ρ r22 (IntKind.wrap .i64 (r23 + r24)) k0))) (none)) (cond (r21 == (32 : Int)) (cond (decide ((0 : Int) ≤ r23) && (decide (r23 ≤ (r22.size : Int)) && decide ((r22.size : Int) ≤ (r22.size : Int)))) (C.c38_0 ρ (ByteArray.extract r22 (Int.toNat r23) (Int.toNat (r22.size : Int))) (10 : Int) (fun (r25 : Int) => cond (decide (r25 < (0 : Int))) (C.l23_0_0 ρ r22 (IntKind.wrap .i64 (r23 + (IntKind.wrap .i64 ((r22.size : Int) - r23)))) k0) (C.l23_0_0 ρ r22 (IntKind.wrap .i64 (r23 + r25)) k0))) (none)) (cond (r21 == (9 : Int)) (cond (decide ((0 : Int) ≤ r23) && (decide (r23 ≤ (r22.size : Int)) && decide ((r22.size : Int) ≤ (r22.size : Int)))) (C.c38_0 ρ (ByteArray.extract r22 (Int.toNat r23) (Int.toNat (r22.size : Int))) (10 : Int) (fun (r26 : Int) => cond (decide (r26 < (0 : Int))) (C.l23_0_0 ρ r22 (IntKind.wrap .i64 (r23 + (IntKind.wrap .i64 ((r22.size : Int) - r23)))) k0) (C.l23_0_0 ρ r22 (IntKind.wrap .i64 (r23 + r26)) k0))) (none)) (cond (r21 == (13 : Int)) (cond (decide ((0 : Int) ≤ r23) && (decide (r23 ≤ (r22.size : Int)) && decide ((r22.size : Int) ≤ (r22.size : Int)))) (C.c38_0 ρ (ByteArray.extract r22 (Int.toNat r23) (Int.toNat (r22.size : Int))) (10 : Int) (fun (r27 : Int) => cond (decide (r27 < (0 : Int))) (C.l23_0_0 ρ r22 (IntKind.wrap .i64 (r23 + (IntKind.wrap .i64 ((r22.size : Int) - r23)))) k0) (C.l23_0_0 ρ r22 (IntKind.wrap .i64 (r23 + r27)) k0))) (none)) (cond (r21 == (10 : Int)) (cond (decide ((0 : Int) ≤ r23) && (decide (r23 ≤ (r22.size : Int)) && decide ((r22.size : Int) ≤ (r22.size : Int)))) (C.c38_0 ρ (ByteArray.extract r22 (Int.toNat r23) (Int.toNat (r22.size : Int))) (10 : Int) (fun (r28 : Int) => cond (decide (r28 < (0 : Int))) (C.l23_0_0 ρ r22 (IntKind.wrap .i64 (r23 + (IntKind.wrap .i64 ((r22.size : Int) - r23)))) k0) (C.l23_0_0 ρ r22 (IntKind.wrap .i64 (r23 + r28)) k0))) (none)) (cond (r21 == (37 : Int)) (cond (decide ((0 : Int) ≤ r23) && (decide (r23 ≤ (r22.size : Int)) && decide ((r22.size : Int) ≤ (r22.size : Int)))) (C.c38_0 ρ (ByteArray.extract r22 (Int.toNat r23) (Int.toNat (r22.size : Int))) (10 : Int) (fun (r29 : Int) => cond (decide (r29 < (0 : Int))) (C.l23_0_0 ρ r22 (IntKind.wrap .i64 (r23 + (IntKind.wrap .i64 ((r22.size : Int) - r23)))) k0) (C.l23_0_0 ρ r22 (IntKind.wrap .i64 (r23 + r29)) k0))) (none)) (k0 r22 r23)))))))) (k0 a1 a2))) (cond ((bt a1 a2) == (13 : Int)) (C.l23_0_0 ρ a1 (IntKind.wrap .i64 (a2 + (1 : Int))) k0) (cond ((bt a1 a2) == (37 : Int)) (C.c37_0 ρ (1 : Int) a1 a2 (fun (r30 : Int) (r31 : ByteArray) (r32 : Int) => cond ((IntKind.wrap .i64 (r32 + (1 : Int))) == (r31.size : Int)) (cond (decide ((0 : Int) ≤ r32) && (decide (r32 ≤ (r31.size : Int)) && decide ((r31.size : Int) ≤ (r31.size : Int)))) (C.c38_0 ρ (ByteArray.extract r31 (Int.toNat r32) (Int.toNat (r31.size : Int))) (10 : Int) (fun (r33 : Int) => cond (decide (r33 < (0 : Int))) (C.l23_0_0 ρ r31 (IntKind.wrap .i64 (r32 + (IntKind.wrap .i64 ((r31.size : Int) - r32)))) k0) (C.l23_0_0 ρ r31 (IntKind.wrap .i64 (r32 + r33)) k0))) (none)) (cond (r30 == (32 : Int)) (cond (decide ((0 : Int) ≤ r32) && (decide (r32 ≤ (r31.size : Int)) && decide ((r31.size : Int) ≤ (r31.size : Int)))) (C.c38_0 ρ (ByteArray.extract r31 (Int.toNat r32) (Int.toNat (r31.size : Int))) (10 : Int) (fun (r34 : Int) => cond (decide (r34 < (0 : Int))) (C.l23_0_0 ρ r31 (IntKind.wrap .i64 (r32 + (IntKind.wrap .i64 ((r31.size : Int) - r32)))) k0) (C.l23_0_0 ρ r31 (IntKind.wrap .i64 (r32 + r34)) k0))) (none)) (cond (r30 == (9 : Int)) (cond (decide ((0 : Int) ≤ r32) && (decide (r32 ≤ (r31.size : Int)) && decide ((r31.size : Int) ≤ (r31.size : Int)))) (C.c38_0 ρ (ByteArray.extract r31 (Int.toNat r32) (Int.toNat (r31.size : Int))) (10 : Int) (fun (r35 : Int) => cond (decide (r35 < (0 : Int))) (C.l23_0_0 ρ r31 (IntKind.wrap .i64 (r32 + (IntKind.wrap .i64 ((r31.size : Int) - r32)))) k0) (C.l23_0_0 ρ r31 (IntKind.wrap .i64 (r32 + r35)) k0))) (none)) (cond (r30 == (13 : Int)) (cond (decide ((0 : Int) ≤ r32) && (decide (r32 ≤ (r31.size : Int)) && decide ((r31.size : Int) ≤ (r31.size : Int)))) (C.c38_0 ρ (ByteArray.extract r31 (Int.toNat r32) (Int.toNat (r31.size : Int))) (10 : Int) (fun (r36 : Int) => cond (decide (r36 < (0 : Int))) (C.l23_0_0 ρ r31 (IntKind.wrap .i64 (r32 + (IntKind.wrap .i64 ((r31.size : Int) - r32)))) k0) (C.l23_0_0 ρ r31 (IntKind.wrap .i64 (r32 + r36)) k0))) (none)) (cond (r30 == (10 : Int)) (cond (decide ((0 : Int) ≤ r32) && (decide (r32 ≤ (r31.size : Int)) && decide ((r31.size : Int) ≤ (r31.size : Int)))) (C.c38_0 ρ (ByteArray.extract r31 (Int.toNat r32) (Int.toNat (r31.size : Int))) (10 : Int) (fun (r37 : Int) => cond (decide (r37 < (0 : Int))) (C.l23_0_0 ρ r31 (IntKind.wrap .i64 (r32 + (IntKind.wrap .i64 ((r31.size : Int) - r32)))) k0) (C.l23_0_0 ρ r31 (IntKind.wrap .i64 (r32 + r37)) k0))) (none)) (cond (r30 == (37 : Int)) (cond (decide ((0 : Int) ≤ r32) && (decide (r32 ≤ (r31.size : Int)) && decide ((r31.size : Int) ≤ (r31.size : Int)))) (C.c38_0 ρ (ByteArray.extract r31 (Int.toNat r32) (Int.toNat (r31.size : Int))) (10 : Int) (fun (r38 : Int) => cond (decide (r38 < (0 : Int))) (C.l23_0_0 ρ r31 (IntKind.wrap .i64 (r32 + (IntKind.wrap .i64 ((r31.size : Int) - r32)))) k0) (C.l23_0_0 ρ r31 (IntKind.wrap .i64 (r32 + r38)) k0))) (none)) (k0 r31 r32)))))))) (k0 a1 a2)))))) (none)) (k0 a1 a2)

/-- a loop of truss/trussref01.space -/
def Gl25_1_0 (C : Tab) (ρ : Type) (a1 : ByteArray) (a2 : Int) (k0 : (Int → Option ρ)) (k1 : (Int → Option ρ)) : Option ρ :=
  cond (decide (a2 < (a1.size : Int))) (cond (decide ((0 : Int) ≤ a2) && decide (a2 < (a1.size : Int))) (cond ((bt a1 a2) == (32 : Int)) (C.l25_1_0 ρ a1 (IntKind.wrap .i64 (a2 + (1 : Int))) k0 k1) (cond (decide ((0 : Int) ≤ a2) && decide (a2 < (a1.size : Int))) (cond ((bt a1 a2) == (9 : Int)) (C.l25_1_0 ρ a1 (IntKind.wrap .i64 (a2 + (1 : Int))) k0 k1) (cond (decide ((0 : Int) ≤ a2) && decide (a2 < (a1.size : Int))) (cond ((bt a1 a2) == (10 : Int)) (C.l25_1_0 ρ a1 (IntKind.wrap .i64 (a2 + (1 : Int))) k0 k1) (cond (decide ((0 : Int) ≤ a2) && decide (a2 < (a1.size : Int))) (cond ((bt a1 a2) == (13 : Int)) (C.l25_1_0 ρ a1 (IntKind.wrap .i64 (a2 + (1 : Int))) k0 k1) (cond (decide ((0 : Int) ≤ a2) && decide (a2 < (a1.size : Int))) (cond ((bt a1 a2) == (37 : Int)) (C.c51_0 ρ a1 (IntKind.wrap .i64 (a2 + (1 : Int))) (fun (r3 : Bool) => cond r3 (C.l25_6_0 ρ a1 a2 (fun (r4 : ByteArray) (r5 : Int) => C.l25_1_0 ρ r4 r5 k0 k1)) (k0 a2))) (k0 a2)) (none))) (none))) (none))) (none))) (none)) (k1 a2)

/-- a loop of truss/trussref01.space -/
def Gl25_6_0 (C : Tab) (ρ : Type) (a1 : ByteArray) (a2 : Int) (k0 : (ByteArray → Int → Option ρ)) : Option ρ :=
  cond (decide (a2 < (a1.size : Int))) (cond (decide ((0 : Int) ≤ a2) && decide (a2 < (a1.size : Int))) (cond ((bt a1 a2) != (10 : Int)) (C.l25_6_0 ρ a1 (IntKind.wrap .i64 (a2 + (1 : Int))) k0) (k0 a1 a2)) (none)) (k0 a1 a2)

/-- a loop of truss/lexis.name -/
def Gl27_4_0 (C : Tab) (ρ : Type) (a1 : ByteArray) (a2 : Int) (a3 : Int) (k0 : Option ρ) (k1 : (Bool → Option ρ)) : Option ρ :=
  cond (decide (a3 < a2)) (cond (decide ((0 : Int) ≤ a3) && decide (a3 < (a1.size : Int))) (C.c56_0 ρ (bt a1 a3) (fun (r4 : Bool) => cond (!r4) (k1 false) (C.l27_4_0 ρ a1 a2 (IntKind.wrap .i64 (a3 + (1 : Int))) k0 k1))) (none)) (k0)

/-- a loop of (*truss/lexis.scanner).word -/
def Gl41_2_0 (C : Tab) (ρ : Type) (a1 : Int) (a2 : Int) (a3 : ByteArray) (a4 : Int) (k0 : (Int → Int → ByteArray → Int → Option ρ)) : Option ρ :=
  cond (decide (a2 < (a3.size : Int))) (cond (decide ((0 : Int) ≤ a2) && decide (a2 < (a3.size : Int))) (C.c56_0 ρ (bt a3 a2) (fun (r5 : Bool) => cond r5 (C.l41_2_0 ρ a1 (IntKind.wrap .i64 (a2 + (1 : Int))) a3 a4 k0) (k0 a1 a2 a3 a4))) (none)) (k0 a1 a2 a3 a4)

/-- a loop of truss/trussref01.run -/
def Gl52_1_0 (C : Tab) (ρ : Type) (a1 : ByteArray) (a2 : Int) (k0 : (Int → Option ρ)) : Option ρ :=
  cond (decide (a2 < (a1.size : Int))) (cond (decide ((0 : Int) ≤ a2) && decide (a2 < (a1.size : Int))) (C.c67_0 ρ (bt a1 a2) (fun (r3 : Bool) => cond r3 (C.l52_1_0 ρ a1 (IntKind.wrap .i64 (a2 + (1 : Int))) k0) (k0 a2))) (none)) (k0 a2)

/-- a loop of truss/trussref01.Number -/
def Gl54_5_0 (C : Tab) (ρ : Type) (a1 : ByteArray) (a2 : Int) (a3 : Int) (k0 : (Int → Bool → Option ρ)) (k1 : (Int → Option ρ)) : Option ρ :=
  cond (decide (a3 < (a1.size : Int))) (cond (decide ((0 : Int) ≤ a3) && decide (a3 < (a1.size : Int))) (cond (decide ((bt a1 a3) < (48 : Int))) (k0 (0 : Int) false) (cond (decide ((0 : Int) ≤ a3) && decide (a3 < (a1.size : Int))) (cond (decide ((bt a1 a3) > (57 : Int))) (k0 (0 : Int) false) (cond (decide ((0 : Int) ≤ a3) && decide (a3 < (a1.size : Int))) (C.l54_5_0 ρ a1 (IntKind.wrap .i64 ((IntKind.wrap .i64 ((10 : Int) * a2)) + (IntKind.wrap .i64 (IntKind.wrap .u8 ((bt a1 a3) - (48 : Int)))))) (IntKind.wrap .i64 (a3 + (1 : Int))) k0 k1) (none))) (none))) (none)) (k1 a2)

def Tabs : Nat → Tab
  | 0 => {c3_0 := fun _ _ _ => none, c4_0 := fun _ _ _ => none, c5_0 := fun _ _ _ => none, c6_0 := fun _ _ _ _ _ => none, c8_0 := fun _ _ _ => none, c9_0 := fun _ _ _ _ => none, c10_0 := fun _ _ _ _ => none, c11_0 := fun _ _ _ => none, c12_0 := fun _ _ _ => none, c13_0 := fun _ _ _ _ _ => none, c14_0 := fun _ _ => none, c15_0 := fun _ _ _ => none, c16_0 := fun _ _ _ => none, c17_0 := fun _ _ _ => none, c18_0 := fun _ _ _ => none, c19_0 := fun _ _ _ => none, c20_0 := fun _ _ _ => none, c21_0 := fun _ _ _ _ => none, c22_0 := fun _ _ _ _ => none, c23_0 := fun _ _ _ _ => none, c24_0 := fun _ _ _ _ _ _ _ _ _ _ => none, c25_0 := fun _ _ _ _ => none, c26_0 := fun _ _ _ _ => none, c27_0 := fun _ _ _ => none, c27_1 := fun _ _ _ => none, c28_0 := fun _ _ _ => none, c29_0 := fun _ _ _ => none, c30_0 := fun _ _ _ => none, c31_0 := fun _ _ _ => none, c32_0 := fun _ _ _ => none, c33_0 := fun _ _ _ _ => none, c34_0 := fun _ _ _ => none, c35_0 := fun _ _ _ _ => none, c36_0 := fun _ _ _ _ => none, c37_0 := fun _ _ _ _ _ => none, c38_0 := fun _ _ _ _ => none, c39_0 := fun _ _ _ _ _ => none, c40_0 := fun _ _ _ _ => none, c41_0 := fun _ _ _ _ _ => none, c42_0 := fun _ _ _ _ => none, c43_0 := fun _ _ _ => none, c44_0 := fun _ _ _ _ => none, c45_0 := fun _ _ _ => none, c46_0 := fun _ _ _ _ => none, c47_0 := fun _ _ _ _ => none, c48_0 := fun _ _ _ _ => none, c49_0 := fun _ _ _ _ => none, c50_0 := fun _ _ _ _ _ => none, c51_0 := fun _ _ _ _ => none, c52_0 := fun _ _ _ _ => none, c53_0 := fun _ _ _ => none, c54_0 := fun _ _ _ => none, c55_0 := fun _ _ _ _ => none, c56_0 := fun _ _ _ => none, c65_0 := fun _ _ _ _ => none, c66_0 := fun _ _ _ => none, c67_0 := fun _ _ _ => none, l5_6_0 := fun _ _ _ _ _ _ _ _ _ _ => none, l6_11_0 := fun _ _ _ _ _ _ _ _ => none, l6_20_0 := fun _ _ _ _ _ _ _ _ _ => none, l8_9_0 := fun _ _ _ _ _ _ _ => none, l11_6_0 := fun _ _ _ _ _ _ _ => none, l12_5_0 := fun _ _ _ _ _ _ => none, l13_4_0 := fun _ _ _ _ _ _ _ _ => none, l19_3_0 := fun _ _ _ _ _ _ _ => none, l20_4_0 := fun _ _ _ _ _ _ _ _ => none, l22_5_0 := fun _ _ _ _ _ _ _ => none, l23_0_0 := fun _ _ _ _ => none, l25_1_0 := fun _ _ _ _ _ => none, l25_6_0 := fun _ _ _ _ => none, l27_4_0 := fun _ _ _ _ _ _ => none, l41_2_0 := fun _ _ _ _ _ _ => none, l52_1_0 := fun _ _ _ _ => none, l54_5_0 := fun _ _ _ _ _ _ => none }
  | k + 1 => {c3_0 := Gc3_0 (Tabs k), c4_0 := Gc4_0 (Tabs k), c5_0 := Gc5_0 (Tabs k), c6_0 := Gc6_0 (Tabs k), c8_0 := Gc8_0 (Tabs k), c9_0 := Gc9_0 (Tabs k), c10_0 := Gc10_0 (Tabs k), c11_0 := Gc11_0 (Tabs k), c12_0 := Gc12_0 (Tabs k), c13_0 := Gc13_0 (Tabs k), c14_0 := Gc14_0 (Tabs k), c15_0 := Gc15_0 (Tabs k), c16_0 := Gc16_0 (Tabs k), c17_0 := Gc17_0 (Tabs k), c18_0 := Gc18_0 (Tabs k), c19_0 := Gc19_0 (Tabs k), c20_0 := Gc20_0 (Tabs k), c21_0 := Gc21_0 (Tabs k), c22_0 := Gc22_0 (Tabs k), c23_0 := Gc23_0 (Tabs k), c24_0 := Gc24_0 (Tabs k), c25_0 := Gc25_0 (Tabs k), c26_0 := Gc26_0 (Tabs k), c27_0 := Gc27_0 (Tabs k), c27_1 := Gc27_1 (Tabs k), c28_0 := Gc28_0 (Tabs k), c29_0 := Gc29_0 (Tabs k), c30_0 := Gc30_0 (Tabs k), c31_0 := Gc31_0 (Tabs k), c32_0 := Gc32_0 (Tabs k), c33_0 := Gc33_0 (Tabs k), c34_0 := Gc34_0 (Tabs k), c35_0 := Gc35_0 (Tabs k), c36_0 := Gc36_0 (Tabs k), c37_0 := Gc37_0 (Tabs k), c38_0 := Gc38_0 (Tabs k), c39_0 := Gc39_0 (Tabs k), c40_0 := Gc40_0 (Tabs k), c41_0 := Gc41_0 (Tabs k), c42_0 := Gc42_0 (Tabs k), c43_0 := Gc43_0 (Tabs k), c44_0 := Gc44_0 (Tabs k), c45_0 := Gc45_0 (Tabs k), c46_0 := Gc46_0 (Tabs k), c47_0 := Gc47_0 (Tabs k), c48_0 := Gc48_0 (Tabs k), c49_0 := Gc49_0 (Tabs k), c50_0 := Gc50_0 (Tabs k), c51_0 := Gc51_0 (Tabs k), c52_0 := Gc52_0 (Tabs k), c53_0 := Gc53_0 (Tabs k), c54_0 := Gc54_0 (Tabs k), c55_0 := Gc55_0 (Tabs k), c56_0 := Gc56_0 (Tabs k), c65_0 := Gc65_0 (Tabs k), c66_0 := Gc66_0 (Tabs k), c67_0 := Gc67_0 (Tabs k), l5_6_0 := Gl5_6_0 (Tabs k), l6_11_0 := Gl6_11_0 (Tabs k), l6_20_0 := Gl6_20_0 (Tabs k), l8_9_0 := Gl8_9_0 (Tabs k), l11_6_0 := Gl11_6_0 (Tabs k), l12_5_0 := Gl12_5_0 (Tabs k), l13_4_0 := Gl13_4_0 (Tabs k), l19_3_0 := Gl19_3_0 (Tabs k), l20_4_0 := Gl20_4_0 (Tabs k), l22_5_0 := Gl22_5_0 (Tabs k), l23_0_0 := Gl23_0_0 (Tabs k), l25_1_0 := Gl25_1_0 (Tabs k), l25_6_0 := Gl25_6_0 (Tabs k), l27_4_0 := Gl27_4_0 (Tabs k), l41_2_0 := Gl41_2_0 (Tabs k), l52_1_0 := Gl52_1_0 (Tabs k), l54_5_0 := Gl54_5_0 (Tabs k) }

def PK : Parks := fun f np key kd =>
  bif Nat.beq f 5 && (Nat.beq np 0 && (Nat.beq key 6 && Nat.beq kd 0)) then (([(0, .raw), (3, .raw), (4, .raw), (6, .raw), (51, .raw), (52, .raw), (53, .raw)], []) : Seen2) else
  bif Nat.beq f 5 && (Nat.beq np 0 && (Nat.beq key 6 && Nat.beq kd 1)) then (([(2, .raw)], []) : Seen2) else
  bif Nat.beq f 5 && (Nat.beq np 0 && (Nat.beq key 6 && Nat.beq kd 3)) then (([(0, .raw), (3, .raw), (4, .raw)], []) : Seen2) else
  bif Nat.beq f 6 && (Nat.beq np 0 && (Nat.beq key 11 && Nat.beq kd 0)) then (([(0, .raw), (1, .raw), (2, .raw), (7, .raw), (10, .own), (11, .raw)], []) : Seen2) else
  bif Nat.beq f 6 && (Nat.beq np 0 && (Nat.beq key 11 && Nat.beq kd 3)) then (([(0, .raw), (1, .raw), (7, .raw), (10, .own)], []) : Seen2) else
  bif Nat.beq f 6 && (Nat.beq np 0 && (Nat.beq key 20 && Nat.beq kd 0)) then (([(1, .raw), (7, .raw), (12, .raw), (13, .raw), (112, .raw), (113, .raw)], []) : Seen2) else
  bif Nat.beq f 6 && (Nat.beq np 0 && (Nat.beq key 20 && Nat.beq kd 1)) then (([(6, .raw)], []) : Seen2) else
  bif Nat.beq f 6 && (Nat.beq np 0 && (Nat.beq key 20 && Nat.beq kd 5)) then (([], []) : Seen2) else
  bif Nat.beq f 8 && (Nat.beq np 0 && (Nat.beq key 9 && Nat.beq kd 0)) then (([(3, .raw), (7, .own), (41, .raw), (42, .raw), (43, .raw)], []) : Seen2) else
  bif Nat.beq f 8 && (Nat.beq np 0 && (Nat.beq key 9 && Nat.beq kd 3)) then (([(3, .raw), (7, .own)], []) : Seen2) else
  bif Nat.beq f 11 && (Nat.beq np 0 && (Nat.beq key 6 && Nat.beq kd 0)) then (([(0, .raw), (5, .raw), (6, .own)], []) : Seen2) else
  bif Nat.beq f 11 && (Nat.beq np 0 && (Nat.beq key 6 && Nat.beq kd 1)) then (([(2, .raw), (3, .raw), (4, .raw)], []) : Seen2) else
  bif Nat.beq f 11 && (Nat.beq np 0 && (Nat.beq key 6 && Nat.beq kd 3)) then (([(0, .raw), (6, .own)], []) : Seen2) else
  bif Nat.beq f 12 && (Nat.beq np 0 && (Nat.beq key 5 && Nat.beq kd 0)) then (([(0, .raw), (5, .own), (6, .raw)], []) : Seen2) else
  bif Nat.beq f 12 && (Nat.beq np 0 && (Nat.beq key 5 && Nat.beq kd 1)) then (([(2, .raw), (3, .raw), (4, .raw)], []) : Seen2) else
  bif Nat.beq f 12 && (Nat.beq np 0 && (Nat.beq key 5 && Nat.beq kd 3)) then (([(0, .raw), (5, .own)], []) : Seen2) else
  bif Nat.beq f 13 && (Nat.beq np 0 && (Nat.beq key 4 && Nat.beq kd 0)) then (([(0, .raw), (1, .raw), (2, .raw), (14, .raw), (15, .raw)], []) : Seen2) else
  bif Nat.beq f 13 && (Nat.beq np 0 && (Nat.beq key 4 && Nat.beq kd 1)) then (([(6, .raw)], []) : Seen2) else
  bif Nat.beq f 13 && (Nat.beq np 0 && (Nat.beq key 4 && Nat.beq kd 3)) then (([], []) : Seen2) else
  bif Nat.beq f 19 && (Nat.beq np 0 && (Nat.beq key 3 && Nat.beq kd 0)) then (([(4, .own), (7, .raw), (8, .raw), (9, .raw)], []) : Seen2) else
  bif Nat.beq f 19 && (Nat.beq np 0 && (Nat.beq key 3 && Nat.beq kd 1)) then (([(2, .raw), (3, .raw)], []) : Seen2) else
  bif Nat.beq f 19 && (Nat.beq np 0 && (Nat.beq key 3 && Nat.beq kd 3)) then (([(4, .own)], []) : Seen2) else
  bif Nat.beq f 20 && (Nat.beq np 0 && (Nat.beq key 4 && Nat.beq kd 0)) then (([(4, .own), (5, .raw), (8, .raw), (9, .raw), (10, .raw)], []) : Seen2) else
  bif Nat.beq f 20 && (Nat.beq np 0 && (Nat.beq key 4 && Nat.beq kd 1)) then (([(2, .raw), (3, .raw)], []) : Seen2) else
  bif Nat.beq f 20 && (Nat.beq np 0 && (Nat.beq key 4 && Nat.beq kd 3)) then (([(4, .own)], []) : Seen2) else
  bif Nat.beq f 22 && (Nat.beq np 0 && (Nat.beq key 5 && Nat.beq kd 0)) then (([(0, .raw), (1, .raw), (7, .raw), (8, .raw), (9, .raw)], []) : Seen2) else
  bif Nat.beq f 22 && (Nat.beq np 0 && (Nat.beq key 5 && Nat.beq kd 3)) then (([(7, .raw), (8, .raw)], []) : Seen2) else
  bif Nat.beq f 23 && (Nat.beq np 1 && (Nat.beq key 0 && Nat.beq kd 0)) then (([(0, .raw)], []) : Seen2) else
  bif Nat.beq f 23 && (Nat.beq np 1 && (Nat.beq key 0 && Nat.beq kd 3)) then (([], []) : Seen2) else
  bif Nat.beq f 25 && (Nat.beq np 0 && (Nat.beq key 1 && Nat.beq kd 0)) then (([(0, .raw), (1, .raw)], []) : Seen2) else
  bif Nat.beq f 25 && (Nat.beq np 0 && (Nat.beq key 1 && Nat.beq kd 1)) then (([(4, .raw)], []) : Seen2) else
  bif Nat.beq f 25 && (Nat.beq np 0 && (Nat.beq key 1 && Nat.beq kd 3)) then (([(1, .raw)], []) : Seen2) else
  bif Nat.beq f 25 && (Nat.beq np 0 && (Nat.beq key 6 && Nat.beq kd 0)) then (([(0, .raw), (1, .raw)], []) : Seen2) else
  bif Nat.beq f 25 && (Nat.beq np 0 && (Nat.beq key 6 && Nat.beq kd 6)) then (([(0, .raw), (1, .raw)], []) : Seen2) else
  bif Nat.beq f 27 && (Nat.beq np 0 && (Nat.beq key 4 && Nat.beq kd 0)) then (([(0, .raw), (22, .raw), (23, .raw)], []) : Seen2) else
  bif Nat.beq f 27 && (Nat.beq np 0 && (Nat.beq key 4 && Nat.beq kd 1)) then (([(4, .raw)], []) : Seen2) else
  bif Nat.beq f 27 && (Nat.beq np 0 && (Nat.beq key 4 && Nat.beq kd 3)) then (([], []) : Seen2) else
  bif Nat.beq f 41 && (Nat.beq np 1 && (Nat.beq key 2 && Nat.beq kd 0)) then (([(0, .raw), (1, .raw), (5, .raw)], []) : Seen2) else
  bif Nat.beq f 41 && (Nat.beq np 1 && (Nat.beq key 2 && Nat.beq kd 3)) then (([(0, .raw), (1, .raw), (5, .raw)], []) : Seen2) else
  bif Nat.beq f 52 && (Nat.beq np 0 && (Nat.beq key 1 && Nat.beq kd 0)) then (([(0, .raw), (1, .raw)], []) : Seen2) else
  bif Nat.beq f 52 && (Nat.beq np 0 && (Nat.beq key 1 && Nat.beq kd 3)) then (([(1, .raw)], []) : Seen2) else
  bif Nat.beq f 54 && (Nat.beq np 0 && (Nat.beq key 5 && Nat.beq kd 0)) then (([(0, .raw), (4, .raw), (5, .raw)], []) : Seen2) else
  bif Nat.beq f 54 && (Nat.beq np 0 && (Nat.beq key 5 && Nat.beq kd 1)) then (([(2, .raw), (3, .raw)], []) : Seen2) else
  bif Nat.beq f 54 && (Nat.beq np 0 && (Nat.beq key 5 && Nat.beq kd 3)) then (([(4, .raw)], []) : Seen2) else ([], [])

def Rc3_0 (C : Tab) (ρ : Type) (args : List (PV sig)) (m : Mem sig) (K : Res sig × Mem sig → Option ρ) : Option ρ :=
  uC args fun x0 x1 => uStr x0 fun a1 => u0 x1 <| uE m <| C.c3_0 ρ a1 (fun (y0 : Bool) => K (.ret (.d (.bool y0)), []))

def Rc4_0 (C : Tab) (ρ : Type) (args : List (PV sig)) (m : Mem sig) (K : Res sig × Mem sig → Option ρ) : Option ρ :=
  uC args fun x0 x1 => uStr x0 fun a1 => u0 x1 <| uE m <| C.c4_0 ρ a1 (fun (y0 : Bool) => K (.ret (.d (.bool y0)), []))

def Rc5_0 (C : Tab) (ρ : Type) (args : List (PV sig)) (m : Mem sig) (K : Res sig × Mem sig → Option ρ) : Option ρ :=
  uC args fun x0 x1 => uStr x0 fun a1 => u0 x1 <| uE m <| C.c5_0 ρ a1 (fun (y0 : Bool) => K (.ret (.d (.bool y0)), []))

def Rc6_0 (C : Tab) (ρ : Type) (args : List (PV sig)) (m : Mem sig) (K : Res sig × Mem sig → Option ρ) : Option ρ :=
  uC args fun x0 x1 => uStr x0 fun a1 => uC x1 fun x2 x3 => uI .i64 x2 fun a2 => uC x3 fun x4 x5 => uStr x4 fun a3 => u0 x5 <| uE m <| C.c6_0 ρ a1 a2 a3 (fun (y0 : Bool) => K (.ret (.d (.bool y0)), []))

def Rc8_0 (C : Tab) (ρ : Type) (args : List (PV sig)) (m : Mem sig) (K : Res sig × Mem sig → Option ρ) : Option ρ :=
  uC args fun x0 x1 => uS (S := sig) .d Key.tok x0 fun (a1 : List Tok) => u0 x1 <| uE m <| C.c8_0 ρ a1 (fun (y0 : Bool) => K (.ret (.d (.bool y0)), []))

def Rc9_0 (C : Tab) (ρ : Type) (args : List (PV sig)) (m : Mem sig) (K : Res sig × Mem sig → Option ρ) : Option ρ :=
  uC args fun x0 x1 => uStr x0 fun a1 => uC x1 fun x2 x3 => uI .i64 x2 fun a2 => u0 x3 <| uE m <| C.c9_0 ρ a1 a2 (fun (y0 : Bool) => K (.ret (.d (.bool y0)), []))

def Rc10_0 (C : Tab) (ρ : Type) (args : List (PV sig)) (m : Mem sig) (K : Res sig × Mem sig → Option ρ) : Option ρ :=
  uC args fun x0 x1 => uStr x0 fun a1 => uC x1 fun x2 x3 => uI .i64 x2 fun a2 => u0 x3 <| uE m <| C.c10_0 ρ a1 a2 (fun (y0 : Bool) => K (.ret (.d (.bool y0)), []))

def Rc11_0 (C : Tab) (ρ : Type) (args : List (PV sig)) (m : Mem sig) (K : Res sig × Mem sig → Option ρ) : Option ρ :=
  uC args fun x0 x1 => uStr x0 fun a1 => u0 x1 <| uE m <| C.c11_0 ρ a1 (fun (y0 : List Tok) (y1 : Int) (y2 : Int) => K (.ret (.tup [.d (.sl Key.tok y0), .d (.int .i64 y1), .d (.int .i64 y2)]), []))

def Rc12_0 (C : Tab) (ρ : Type) (args : List (PV sig)) (m : Mem sig) (K : Res sig × Mem sig → Option ρ) : Option ρ :=
  uC args fun x0 x1 => uStr x0 fun a1 => u0 x1 <| uE m <| C.c12_0 ρ a1 (fun (y0 : List Tok) (y1 : Int) (y2 : Int) => K (.ret (.tup [.d (.sl Key.tok y0), .d (.int .i64 y1), .d (.int .i64 y2)]), []))

def Rc13_0 (C : Tab) (ρ : Type) (args : List (PV sig)) (m : Mem sig) (K : Res sig × Mem sig → Option ρ) : Option ρ :=
  uC args fun x0 x1 => uS (S := sig) .d Key.tok x0 fun (a1 : List Tok) => uC x1 fun x2 x3 => uS (S := sig) .d Key.tok x2 fun (a2 : List Tok) => uC x3 fun x4 x5 => uB x4 fun a3 => u0 x5 <| uE m <| C.c13_0 ρ a1 a2 a3 (fun (y0 : Bool) => K (.ret (.d (.bool y0)), []))

def Rc14_0 (C : Tab) (ρ : Type) (args : List (PV sig)) (m : Mem sig) (K : Res sig × Mem sig → Option ρ) : Option ρ :=
  u0 args <| uE m <| C.c14_0 ρ (fun (y0 : Bool) => K (.ret (.d (.bool y0)), []))

def Rc15_0 (C : Tab) (ρ : Type) (args : List (PV sig)) (m : Mem sig) (K : Res sig × Mem sig → Option ρ) : Option ρ :=
  uC args fun x0 x1 => uStr x0 fun a1 => u0 x1 <| uE m <| C.c15_0 ρ a1 (fun (y0 : Bool) => K (.ret (.d (.bool y0)), []))

def Rc16_0 (C : Tab) (ρ : Type) (args : List (PV sig)) (m : Mem sig) (K : Res sig × Mem sig → Option ρ) : Option ρ :=
  uC args fun x0 x1 => uStr x0 fun a1 => u0 x1 <| uE m <| C.c16_0 ρ a1 (fun (y0 : Bool) => K (.ret (.d (.bool y0)), []))

def Rc17_0 (C : Tab) (ρ : Type) (args : List (PV sig)) (m : Mem sig) (K : Res sig × Mem sig → Option ρ) : Option ρ :=
  uC args fun x0 x1 => uStr x0 fun a1 => u0 x1 <| uE m <| C.c17_0 ρ a1 (fun (y0 : Bool) => K (.ret (.d (.bool y0)), []))

def Rc18_0 (C : Tab) (ρ : Type) (args : List (PV sig)) (m : Mem sig) (K : Res sig × Mem sig → Option ρ) : Option ρ :=
  uC args fun x0 x1 => uStr x0 fun a1 => u0 x1 <| uE m <| C.c18_0 ρ a1 (fun (y0 : Bool) => K (.ret (.d (.bool y0)), []))

def Rc19_0 (C : Tab) (ρ : Type) (args : List (PV sig)) (m : Mem sig) (K : Res sig × Mem sig → Option ρ) : Option ρ :=
  uC args fun x0 x1 => uS (S := sig) .d Key.tok x0 fun (a1 : List Tok) => u0 x1 <| uE m <| C.c19_0 ρ a1 (fun (y0 : ByteArray) (y1 : Int) => K (.ret (.tup [.d (.str y0), .d (.int .i64 y1)]), []))

def Rc20_0 (C : Tab) (ρ : Type) (args : List (PV sig)) (m : Mem sig) (K : Res sig × Mem sig → Option ρ) : Option ρ :=
  uC args fun x0 x1 => uS (S := sig) .d Key.tok x0 fun (a1 : List Tok) => u0 x1 <| uE m <| C.c20_0 ρ a1 (fun (y0 : ByteArray) (y1 : Int) => K (.ret (.tup [.d (.str y0), .d (.int .i64 y1)]), []))

def Rc21_0 (C : Tab) (ρ : Type) (args : List (PV sig)) (m : Mem sig) (K : Res sig × Mem sig → Option ρ) : Option ρ :=
  uC args fun x0 x1 => uStr x0 fun a1 => uC x1 fun x2 x3 => uI .i64 x2 fun a2 => u0 x3 <| uE m <| C.c21_0 ρ a1 a2 (fun (y0 : Int) (y1 : Int) (y2 : Int) => K (.ret (.tup [.d (.int .i64 y0), .d (.int .i64 y1), .d (.int .i64 y2)]), []))

def Rc22_0 (C : Tab) (ρ : Type) (args : List (PV sig)) (m : Mem sig) (K : Res sig × Mem sig → Option ρ) : Option ρ :=
  uC args fun x0 x1 => uStr x0 fun a1 => uC x1 fun x2 x3 => uI .i64 x2 fun a2 => u0 x3 <| uE m <| C.c22_0 ρ a1 a2 (fun (y0 : Int) (y1 : Int) (y2 : Int) => K (.ret (.tup [.d (.int .i64 y0), .d (.int .i64 y1), .d (.int .i64 y2)]), []))

def Rc23_0 (C : Tab) (ρ : Type) (args : List (PV sig)) (m : Mem sig) (K : Res sig × Mem sig → Option ρ) : Option ρ :=
  uC args fun x0 x1 => uP 0 0 x0 <| u0 x1 <| uM m fun x3 x2 => uC x3 fun x4 x5 => uStr x4 fun a1 => uC x5 fun x6 x7 => uI .i64 x6 fun a2 => u0 x7 <| uE x2 <| C.c23_0 ρ a1 a2 (fun (y0 : ByteArray) (y1 : Int) => K (.ret (.tup []), [some [.d (.str y0), .d (.int .i64 y1)]]))

def Rc24_0 (C : Tab) (ρ : Type) (args : List (PV sig)) (m : Mem sig) (K : Res sig × Mem sig → Option ρ) : Option ρ :=
  uC args fun x0 x1 => uI .u8 x0 fun a1 => u0 x1 <| uE m <| C.c24_0 ρ a1 (fun (y0 : Int) => K (.ret (.fn (.func 40) [] [.ptr 1 0]), [some [.d (.int .u8 y0)], some [.fn (.func 39) [] []]])) (fun (y0 : Int) => K (.ret (.fn (.func 42) [] [.ptr 1 0]), [some [.d (.int .u8 y0)], some [.fn (.func 39) [] []]])) (fun (y0 : Int) => K (.ret (.fn (.func 44) [] [.ptr 1 0]), [some [.d (.int .u8 y0)], some [.fn (.func 39) [] []]])) (fun (y0 : Int) => K (.ret (.fn (.func 46) [] [.ptr 1 0]), [some [.d (.int .u8 y0)], some [.fn (.func 39) [] []]])) (fun (y0 : Int) => K (.ret (.fn (.func 47) [] [.ptr 1 0]), [some [.d (.int .u8 y0)], some [.fn (.func 39) [] []]])) (K (.ret (.fn (.func 48) [] []), [])) (fun (y0 : Int) => K (.ret (.fn (.func 49) [] [.ptr 1 0]), [some [.d (.int .u8 y0)], some [.fn (.func 39) [] []]])) (fun (y0 : Int) => K (.ret (.fn (.func 50) [] [.ptr 1 0, .ptr 0 0]), [some [.d (.int .u8 y0)], some [.fn (.func 39) [] []]]))

def Rc25_0 (C : Tab) (ρ : Type) (args : List (PV sig)) (m : Mem sig) (K : Res sig × Mem sig → Option ρ) : Option ρ :=
  uC args fun x0 x1 => uStr x0 fun a1 => uC x1 fun x2 x3 => uI .i64 x2 fun a2 => u0 x3 <| uE m <| C.c25_0 ρ a1 a2 (fun (y0 : Int) => K (.ret (.d (.int .i64 y0)), []))

def Rc26_0 (C : Tab) (ρ : Type) (args : List (PV sig)) (m : Mem sig) (K : Res sig × Mem sig → Option ρ) : Option ρ :=
  uC args fun x0 x1 => uStr x0 fun a1 => uC x1 fun x2 x3 => uI .i64 x2 fun a2 => u0 x3 <| uE m <| C.c26_0 ρ a1 a2 (fun (y0 : Tok) (y1 : Bool) => K (.ret (.tup [.agg [.d (.int .i64 y0.kind), .d (.str y0.text), .d (.int .i64 (y0.at_))], .d (.bool y1)]), []))

def Rc27_0 (C : Tab) (ρ : Type) (args : List (PV sig)) (m : Mem sig) (K : Res sig × Mem sig → Option ρ) : Option ρ :=
  uC args fun x0 x1 => uStr x0 fun a1 => uC x1 fun x2 x3 => uFn 28 x2 fun x4 x5 => u0 x4 <| u0 x5 <| u0 x3 <| uE m <| C.c27_0 ρ a1 (fun (y0 : Bool) => K (.ret (.d (.bool y0)), []))

def Rc27_1 (C : Tab) (ρ : Type) (args : List (PV sig)) (m : Mem sig) (K : Res sig × Mem sig → Option ρ) : Option ρ :=
  uC args fun x0 x1 => uStr x0 fun a1 => uC x1 fun x2 x3 => uFn 29 x2 fun x4 x5 => u0 x4 <| u0 x5 <| u0 x3 <| uE m <| C.c27_1 ρ a1 (fun (y0 : Bool) => K (.ret (.d (.bool y0)), []))

def Rc28_0 (C : Tab) (ρ : Type) (args : List (PV sig)) (m : Mem sig) (K : Res sig × Mem sig → Option ρ) : Option ρ :=
  uC args fun x0 x1 => uI .u8 x0 fun a1 => u0 x1 <| uE m <| C.c28_0 ρ a1 (fun (y0 : Bool) => K (.ret (.d (.bool y0)), []))

def Rc29_0 (C : Tab) (ρ : Type) (args : List (PV sig)) (m : Mem sig) (K : Res sig × Mem sig → Option ρ) : Option ρ :=
  uC args fun x0 x1 => uI .u8 x0 fun a1 => u0 x1 <| uE m <| C.c29_0 ρ a1 (fun (y0 : Bool) => K (.ret (.d (.bool y0)), []))

def Rc30_0 (C : Tab) (ρ : Type) (args : List (PV sig)) (m : Mem sig) (K : Res sig × Mem sig → Option ρ) : Option ρ :=
  uC args fun x0 x1 => uStr x0 fun a1 => u0 x1 <| uE m <| C.c30_0 ρ a1 (fun (y0 : Bool) => K (.ret (.d (.bool y0)), []))

def Rc31_0 (C : Tab) (ρ : Type) (args : List (PV sig)) (m : Mem sig) (K : Res sig × Mem sig → Option ρ) : Option ρ :=
  uC args fun x0 x1 => uI .u8 x0 fun a1 => u0 x1 <| uE m <| C.c31_0 ρ a1 (fun (y0 : Bool) => K (.ret (.d (.bool y0)), []))

def Rc32_0 (C : Tab) (ρ : Type) (args : List (PV sig)) (m : Mem sig) (K : Res sig × Mem sig → Option ρ) : Option ρ :=
  uC args fun x0 x1 => uTok  x0 fun a1 => u0 x1 <| uE m <| C.c32_0 ρ a1 (fun (y0 : Bool) => K (.ret (.d (.bool y0)), []))

def Rc33_0 (C : Tab) (ρ : Type) (args : List (PV sig)) (m : Mem sig) (K : Res sig × Mem sig → Option ρ) : Option ρ :=
  uC args fun x0 x1 => uS (S := sig) .d Key.str x0 fun (a1 : List ByteArray) => uC x1 fun x2 x3 => uStr x2 fun a2 => u0 x3 <| uE m <| C.c33_0 ρ a1 a2 (fun (y0 : ByteArray) => K (.ret (.d (.str y0)), []))

def Rc34_0 (C : Tab) (ρ : Type) (args : List (PV sig)) (m : Mem sig) (K : Res sig × Mem sig → Option ρ) : Option ρ :=
  uC args fun x0 x1 => uTok  x0 fun a1 => u0 x1 <| uE m <| C.c34_0 ρ a1 (fun (y0 : Bool) => K (.ret (.d (.bool y0)), []))

def Rc35_0 (C : Tab) (ρ : Type) (args : List (PV sig)) (m : Mem sig) (K : Res sig × Mem sig → Option ρ) : Option ρ :=
  uC args fun x0 x1 => uStr x0 fun a1 => uC x1 fun x2 x3 => uStr x2 fun a2 => u0 x3 <| uE m <| C.c35_0 ρ a1 a2 (fun (y0 : Int) => K (.ret (.d (.int .i64 y0)), []))

def Rc36_0 (C : Tab) (ρ : Type) (args : List (PV sig)) (m : Mem sig) (K : Res sig × Mem sig → Option ρ) : Option ρ :=
  uC args fun x0 x1 => uStr x0 fun a1 => uC x1 fun x2 x3 => uI .u8 x2 fun a2 => u0 x3 <| uE m <| C.c36_0 ρ a1 a2 (fun (y0 : Int) => K (.ret (.d (.int .i64 y0)), []))

def Rc37_0 (C : Tab) (ρ : Type) (args : List (PV sig)) (m : Mem sig) (K : Res sig × Mem sig → Option ρ) : Option ρ :=
  uC args fun x0 x1 => uP 0 0 x0 <| uC x1 fun x2 x3 => uI .i64 x2 fun a1 => u0 x3 <| uM m fun x5 x4 => uC x5 fun x6 x7 => uStr x6 fun a2 => uC x7 fun x8 x9 => uI .i64 x8 fun a3 => u0 x9 <| uE x4 <| C.c37_0 ρ a1 a2 a3 (fun (y0 : Int) (y1 : ByteArray) (y2 : Int) => K (.ret (.d (.int .u8 y0)), [some [.d (.str y1), .d (.int .i64 y2)]]))

def Rc38_0 (C : Tab) (ρ : Type) (args : List (PV sig)) (m : Mem sig) (K : Res sig × Mem sig → Option ρ) : Option ρ :=
  uC args fun x0 x1 => uStr x0 fun a1 => uC x1 fun x2 x3 => uI .u8 x2 fun a2 => u0 x3 <| uE m <| C.c38_0 ρ a1 a2 (fun (y0 : Int) => K (.ret (.d (.int .i64 y0)), []))

def Rc39_0 (C : Tab) (ρ : Type) (args : List (PV sig)) (m : Mem sig) (K : Res sig × Mem sig → Option ρ) : Option ρ :=
  uC args fun x0 x1 => uI .i64 x0 fun a1 => uC x1 fun x2 x3 => uStr x2 fun a2 => uC x3 fun x4 x5 => uB x4 fun a3 => u0 x5 <| uE m <| C.c39_0 ρ a1 a2 a3 (fun (y0 : Int) (y1 : ByteArray) => K (.ret (.tup [.d (.int .i64 y0), .d (.str y1)]), []))

def Rc40_0 (C : Tab) (ρ : Type) (args : List (PV sig)) (m : Mem sig) (K : Res sig × Mem sig → Option ρ) : Option ρ :=
  uC args fun x0 x1 => uP 0 0 x0 <| uC x1 fun x2 x3 => uP 1 0 x2 <| u0 x3 <| uM m fun x5 x4 => uC x5 fun x6 x7 => uStr x6 fun a1 => uC x7 fun x8 x9 => uI .i64 x8 fun a2 => u0 x9 <| uM x4 fun x11 x10 => uC x11 fun x12 x13 => uFn 39 x12 fun x14 x15 => u0 x14 <| u0 x15 <| u0 x13 <| uE x10 <| C.c40_0 ρ a1 a2 (fun (y0 : Int) (y1 : ByteArray) (y2 : ByteArray) (y3 : Int) => K (.ret (.tup [.d (.int .i64 y0), .d (.str y1)]), [some [.d (.str y2), .d (.int .i64 y3)], some [.fn (.func 39) [] []]]))

def Rc41_0 (C : Tab) (ρ : Type) (args : List (PV sig)) (m : Mem sig) (K : Res sig × Mem sig → Option ρ) : Option ρ :=
  uC args fun x0 x1 => uP 0 0 x0 <| uC x1 fun x2 x3 => uI .i64 x2 fun a1 => u0 x3 <| uM m fun x5 x4 => uC x5 fun x6 x7 => uStr x6 fun a2 => uC x7 fun x8 x9 => uI .i64 x8 fun a3 => u0 x9 <| uE x4 <| C.c41_0 ρ a1 a2 a3 (fun (y0 : ByteArray) (y1 : ByteArray) (y2 : Int) => K (.ret (.d (.str y0)), [some [.d (.str y1), .d (.int .i64 y2)]]))

def Rc42_0 (C : Tab) (ρ : Type) (args : List (PV sig)) (m : Mem sig) (K : Res sig × Mem sig → Option ρ) : Option ρ :=
  uC args fun x0 x1 => uP 0 0 x0 <| uC x1 fun x2 x3 => uP 1 0 x2 <| u0 x3 <| uM m fun x5 x4 => uC x5 fun x6 x7 => uStr x6 fun a1 => uC x7 fun x8 x9 => uI .i64 x8 fun a2 => u0 x9 <| uM x4 fun x11 x10 => uC x11 fun x12 x13 => uFn 39 x12 fun x14 x15 => u0 x14 <| u0 x15 <| u0 x13 <| uE x10 <| C.c42_0 ρ a1 a2 (fun (y0 : Int) (y1 : ByteArray) (y2 : ByteArray) (y3 : Int) => K (.ret (.tup [.d (.int .i64 y0), .d (.str y1)]), [some [.d (.str y2), .d (.int .i64 y3)], some [.fn (.func 39) [] []]]))

def Rc43_0 (C : Tab) (ρ : Type) (args : List (PV sig)) (m : Mem sig) (K : Res sig × Mem sig → Option ρ) : Option ρ :=
  uC args fun x0 x1 => uI .u8 x0 fun a1 => u0 x1 <| uE m <| C.c43_0 ρ a1 (fun (y0 : Bool) => K (.ret (.d (.bool y0)), []))

def Rc44_0 (C : Tab) (ρ : Type) (args : List (PV sig)) (m : Mem sig) (K : Res sig × Mem sig → Option ρ) : Option ρ :=
  uC args fun x0 x1 => uP 0 0 x0 <| uC x1 fun x2 x3 => uP 1 0 x2 <| u0 x3 <| uM m fun x5 x4 => uC x5 fun x6 x7 => uStr x6 fun a1 => uC x7 fun x8 x9 => uI .i64 x8 fun a2 => u0 x9 <| uM x4 fun x11 x10 => uC x11 fun x12 x13 => uFn 39 x12 fun x14 x15 => u0 x14 <| u0 x15 <| u0 x13 <| uE x10 <| C.c44_0 ρ a1 a2 (fun (y0 : Int) (y1 : ByteArray) (y2 : ByteArray) (y3 : Int) => K (.ret (.tup [.d (.int .i64 y0), .d (.str y1)]), [some [.d (.str y2), .d (.int .i64 y3)], some [.fn (.func 39) [] []]]))

def Rc45_0 (C : Tab) (ρ : Type) (args : List (PV sig)) (m : Mem sig) (K : Res sig × Mem sig → Option ρ) : Option ρ :=
  uC args fun x0 x1 => uStr x0 fun a1 => u0 x1 <| uE m <| C.c45_0 ρ a1 (fun (y0 : Bool) => K (.ret (.d (.bool y0)), []))

def Rc46_0 (C : Tab) (ρ : Type) (args : List (PV sig)) (m : Mem sig) (K : Res sig × Mem sig → Option ρ) : Option ρ :=
  uC args fun x0 x1 => uP 0 0 x0 <| uC x1 fun x2 x3 => uP 1 0 x2 <| u0 x3 <| uM m fun x5 x4 => uC x5 fun x6 x7 => uStr x6 fun a1 => uC x7 fun x8 x9 => uI .i64 x8 fun a2 => u0 x9 <| uM x4 fun x11 x10 => uC x11 fun x12 x13 => uFn 39 x12 fun x14 x15 => u0 x14 <| u0 x15 <| u0 x13 <| uE x10 <| C.c46_0 ρ a1 a2 (fun (y0 : Int) (y1 : ByteArray) (y2 : ByteArray) (y3 : Int) => K (.ret (.tup [.d (.int .i64 y0), .d (.str y1)]), [some [.d (.str y2), .d (.int .i64 y3)], some [.fn (.func 39) [] []]]))

def Rc47_0 (C : Tab) (ρ : Type) (args : List (PV sig)) (m : Mem sig) (K : Res sig × Mem sig → Option ρ) : Option ρ :=
  uC args fun x0 x1 => uP 0 0 x0 <| uC x1 fun x2 x3 => uP 1 0 x2 <| u0 x3 <| uM m fun x5 x4 => uC x5 fun x6 x7 => uStr x6 fun a1 => uC x7 fun x8 x9 => uI .i64 x8 fun a2 => u0 x9 <| uM x4 fun x11 x10 => uC x11 fun x12 x13 => uFn 39 x12 fun x14 x15 => u0 x14 <| u0 x15 <| u0 x13 <| uE x10 <| C.c47_0 ρ a1 a2 (fun (y0 : Int) (y1 : ByteArray) (y2 : ByteArray) (y3 : Int) => K (.ret (.tup [.d (.int .i64 y0), .d (.str y1)]), [some [.d (.str y2), .d (.int .i64 y3)], some [.fn (.func 39) [] []]]))

def Rc48_0 (C : Tab) (ρ : Type) (args : List (PV sig)) (m : Mem sig) (K : Res sig × Mem sig → Option ρ) : Option ρ :=
  uC args fun x0 x1 => uP 0 0 x0 <| u0 x1 <| uM m fun x3 x2 => uC x3 fun x4 x5 => uStr x4 fun a1 => uC x5 fun x6 x7 => uI .i64 x6 fun a2 => u0 x7 <| uE x2 <| C.c48_0 ρ a1 a2 (fun (y0 : Int) (y1 : ByteArray) (y2 : ByteArray) (y3 : Int) => K (.ret (.tup [.d (.int .i64 y0), .d (.str y1)]), [some [.d (.str y2), .d (.int .i64 y3)]]))

def Rc49_0 (C : Tab) (ρ : Type) (args : List (PV sig)) (m : Mem sig) (K : Res sig × Mem sig → Option ρ) : Option ρ :=
  uC args fun x0 x1 => uP 0 0 x0 <| uC x1 fun x2 x3 => uP 1 0 x2 <| u0 x3 <| uM m fun x5 x4 => uC x5 fun x6 x7 => uStr x6 fun a1 => uC x7 fun x8 x9 => uI .i64 x8 fun a2 => u0 x9 <| uM x4 fun x11 x10 => uC x11 fun x12 x13 => uFn 39 x12 fun x14 x15 => u0 x14 <| u0 x15 <| u0 x13 <| uE x10 <| C.c49_0 ρ a1 a2 (fun (y0 : Int) (y1 : ByteArray) (y2 : ByteArray) (y3 : Int) => K (.ret (.tup [.d (.int .i64 y0), .d (.str y1)]), [some [.d (.str y2), .d (.int .i64 y3)], some [.fn (.func 39) [] []]]))

def Rc50_0 (C : Tab) (ρ : Type) (args : List (PV sig)) (m : Mem sig) (K : Res sig × Mem sig → Option ρ) : Option ρ :=
  uC args fun x0 x1 => uP 0 0 x0 <| uC x1 fun x2 x3 => uP 1 0 x2 <| uC x3 fun x4 x5 => uP 2 0 x4 <| u0 x5 <| uM m fun x7 x6 => uC x7 fun x8 x9 => uStr x8 fun a1 => uC x9 fun x10 x11 => uI .i64 x10 fun a2 => u0 x11 <| uM x6 fun x13 x12 => uC x13 fun x14 x15 => uFn 39 x14 fun x16 x17 => u0 x16 <| u0 x17 <| u0 x15 <| uM x12 fun x19 x18 => uC x19 fun x20 x21 => uI .u8 x20 fun a3 => u0 x21 <| uE x18 <| C.c50_0 ρ a1 a2 a3 (fun (y0 : Int) (y1 : ByteArray) (y2 : ByteArray) (y3 : Int) (y4 : Int) => K (.ret (.tup [.d (.int .i64 y0), .d (.str y1)]), [some [.d (.str y2), .d (.int .i64 y3)], some [.fn (.func 39) [] []], some [.d (.int .u8 y4)]]))

def Rc51_0 (C : Tab) (ρ : Type) (args : List (PV sig)) (m : Mem sig) (K : Res sig × Mem sig → Option ρ) : Option ρ :=
  uC args fun x0 x1 => uStr x0 fun a1 => uC x1 fun x2 x3 => uI .i64 x2 fun a2 => u0 x3 <| uE m <| C.c51_0 ρ a1 a2 (fun (y0 : Bool) => K (.ret (.d (.bool y0)), []))

def Rc52_0 (C : Tab) (ρ : Type) (args : List (PV sig)) (m : Mem sig) (K : Res sig × Mem sig → Option ρ) : Option ρ :=
  uC args fun x0 x1 => uStr x0 fun a1 => uC x1 fun x2 x3 => uI .i64 x2 fun a2 => u0 x3 <| uE m <| C.c52_0 ρ a1 a2 (fun (y0 : Int) => K (.ret (.d (.int .i64 y0)), []))

def Rc53_0 (C : Tab) (ρ : Type) (args : List (PV sig)) (m : Mem sig) (K : Res sig × Mem sig → Option ρ) : Option ρ :=
  uC args fun x0 x1 => uI .u8 x0 fun a1 => u0 x1 <| uE m <| C.c53_0 ρ a1 (fun (y0 : Bool) => K (.ret (.d (.bool y0)), []))

def Rc54_0 (C : Tab) (ρ : Type) (args : List (PV sig)) (m : Mem sig) (K : Res sig × Mem sig → Option ρ) : Option ρ :=
  uC args fun x0 x1 => uStr x0 fun a1 => u0 x1 <| uE m <| C.c54_0 ρ a1 (fun (y0 : Int) (y1 : Bool) => K (.ret (.tup [.d (.int .i64 y0), .d (.bool y1)]), []))

def Rc55_0 (C : Tab) (ρ : Type) (args : List (PV sig)) (m : Mem sig) (K : Res sig × Mem sig → Option ρ) : Option ρ :=
  uC args fun x0 x1 => uStr x0 fun a1 => uC x1 fun x2 x3 => uI .i64 x2 fun a2 => u0 x3 <| uE m <| C.c55_0 ρ a1 a2 (fun (y0 : Tok) (y1 : Bool) => K (.ret (.tup [.agg [.d (.int .i64 y0.kind), .d (.str y0.text), .d (.int .i64 (y0.at_))], .d (.bool y1)]), []))

def Rc56_0 (C : Tab) (ρ : Type) (args : List (PV sig)) (m : Mem sig) (K : Res sig × Mem sig → Option ρ) : Option ρ :=
  uC args fun x0 x1 => uI .u8 x0 fun a1 => u0 x1 <| uE m <| C.c56_0 ρ a1 (fun (y0 : Bool) => K (.ret (.d (.bool y0)), []))

def Rc65_0 (C : Tab) (ρ : Type) (args : List (PV sig)) (m : Mem sig) (K : Res sig × Mem sig → Option ρ) : Option ρ :=
  uC args fun x0 x1 => uStr x0 fun a1 => u0 x1 <| uE m <| C.c65_0 ρ a1 (fun (y0 : Int) => K (.ret (.tup [.d (.int .i64 y0), .nilif]), [])) (fun (y0 : Int) => K (.ret (.tup [.d (.int .i64 y0), .iface 88 (.any)]), []))

def Rc66_0 (C : Tab) (ρ : Type) (args : List (PV sig)) (m : Mem sig) (K : Res sig × Mem sig → Option ρ) : Option ρ :=
  uC args fun x0 x1 => uI .i64 x0 fun a1 => u0 x1 <| uE m <| C.c66_0 ρ a1 (fun (y0 : ByteArray) => K (.ret (.d (.str y0)), []))

def Rc67_0 (C : Tab) (ρ : Type) (args : List (PV sig)) (m : Mem sig) (K : Res sig × Mem sig → Option ρ) : Option ρ :=
  uC args fun x0 x1 => uI .u8 x0 fun a1 => u0 x1 <| uE m <| C.c67_0 ρ a1 (fun (y0 : Bool) => K (.ret (.d (.bool y0)), []))

def Rl5_6_0 (C : Tab) (ρ : Type) (vs : List (PV sig)) (m : Mem sig) (ds : List (FuncId × List (PV sig))) (nt : Nat) (K : Ex sig → St sig → Option ρ) : Option ρ :=
  uN nt 128 <| uC vs fun x0 x1 => uStr x0 fun a1 => uC x1 fun x2 x3 => uS (S := sig) .d Key.tok x2 fun (a2 : List Tok) => uC x3 fun x4 x5 => uI .i64 x4 fun a3 => uC x5 fun x6 x7 => uI .i64 x6 fun a4 => uC x7 fun x8 x9 => uS (S := sig) .d Key.tok x8 fun (a5 : List Tok) => uC x9 fun x10 x11 => uI .i64 x10 fun a6 => uC x11 fun x12 x13 => uI .i64 x12 fun a7 => u0 x13 <| uE m <| uDe ds <| C.l5_6_0 ρ a1 a2 a3 a4 a5 a6 a7 (fun (y0 : Bool) => K .ret (canon [2] [.d (.bool y0)] [] [] 128)) (fun (y0 : ByteArray) (y1 : List Tok) (y2 : Int) => K (.exit 0) (canon [0, 3, 4] [.d (.str y0), .d (.sl Key.tok y1), .d (.int .i64 y2)] [] [] 128))

def Rl6_11_0 (C : Tab) (ρ : Type) (vs : List (PV sig)) (m : Mem sig) (ds : List (FuncId × List (PV sig))) (nt : Nat) (K : Ex sig → St sig → Option ρ) : Option ρ :=
  uN nt 137 <| uC vs fun x0 x1 => uStr x0 fun a1 => uC x1 fun x2 x3 => uI .i64 x2 fun a2 => uC x3 fun x4 x5 => uStr x4 fun a3 => uC x5 fun x6 x7 => uS (S := sig) .d Key.tok x6 fun (a4 : List Tok) => uC x7 fun x8 x9 => uS (S := sig) .own Key.u8 x8 fun (a5 : List Int) => uC x9 fun x10 x11 => uI .i64 x10 fun a6 => u0 x11 <| uE m <| uDe ds <| C.l6_11_0 ρ a1 a2 a3 a4 a5 a6 (fun (y0 : ByteArray) (y1 : Int) (y2 : List Tok) (y3 : List Int) => K (.exit 0) (canon [0, 1, 7, 10] [.d (.str y0), .d (.int .i64 y1), .d (.sl Key.tok y2), .own Key.u8 y3] [] [] 137))

def Rl6_20_0 (C : Tab) (ρ : Type) (vs : List (PV sig)) (m : Mem sig) (ds : List (FuncId × List (PV sig))) (nt : Nat) (K : Ex sig → St sig → Option ρ) : Option ρ :=
  uN nt 137 <| uC vs fun x0 x1 => uI .i64 x0 fun a1 => uC x1 fun x2 x3 => uS (S := sig) .d Key.tok x2 fun (a2 : List Tok) => uC x3 fun x4 x5 => uStr x4 fun a3 => uC x5 fun x6 x7 => uS (S := sig) .d Key.tok x6 fun (a4 : List Tok) => uC x7 fun x8 x9 => uI .i64 x8 fun a5 => uC x9 fun x10 x11 => uI .i64 x10 fun a6 => u0 x11 <| uE m <| uDe ds <| C.l6_20_0 ρ a1 a2 a3 a4 a5 a6 (fun (y0 : Bool) => K .ret (canon [6] [.d (.bool y0)] [] [] 137)) (K (.exit 2) (canon [] [] [] [] 137))

def Rl8_9_0 (C : Tab) (ρ : Type) (vs : List (PV sig)) (m : Mem sig) (ds : List (FuncId × List (PV sig))) (nt : Nat) (K : Ex sig → St sig → Option ρ) : Option ρ :=
  uN nt 79 <| uC vs fun x0 x1 => uStr x0 fun a1 => uC x1 fun x2 x3 => uS (S := sig) .own Key.tok x2 fun (a2 : List Tok) => uC x3 fun x4 x5 => uS (S := sig) .d Key.tok x4 fun (a3 : List Tok) => uC x5 fun x6 x7 => uI .i64 x6 fun a4 => uC x7 fun x8 x9 => uI .i64 x8 fun a5 => u0 x9 <| uE m <| uDe ds <| C.l8_9_0 ρ a1 a2 a3 a4 a5 (fun (y0 : ByteArray) (y1 : List Tok) => K (.exit 0) (canon [3, 7] [.d (.str y0), .own Key.tok y1] [] [] 79))

def Rl11_6_0 (C : Tab) (ρ : Type) (vs : List (PV sig)) (m : Mem sig) (ds : List (FuncId × List (PV sig))) (nt : Nat) (K : Ex sig → St sig → Option ρ) : Option ρ :=
  uN nt 69 <| uC vs fun x0 x1 => uStr x0 fun a1 => uC x1 fun x2 x3 => uP 0 0 x2 <| uC x3 fun x4 x5 => uS (S := sig) .own Key.tok x4 fun (a2 : List Tok) => u0 x5 <| uM m fun x7 x6 => uC x7 fun x8 x9 => uStr x8 fun a3 => uC x9 fun x10 x11 => uI .i64 x10 fun a4 => u0 x11 <| uE x6 <| uDe ds <| C.l11_6_0 ρ a1 a2 a3 a4 (fun (y0 : ByteArray) (y1 : List Tok) => K (.exit 0) (canon [0, 6] [.d (.str y0), .own Key.tok y1] [] [] 69)) (fun (y0 : List Tok) (y1 : Int) (y2 : Int) => K .ret (canon [2, 3, 4] [.full Key.tok y0, .d (.int .i64 y1), .d (.int .i64 y2)] [] [] 69))

def Rl12_5_0 (C : Tab) (ρ : Type) (vs : List (PV sig)) (m : Mem sig) (ds : List (FuncId × List (PV sig))) (nt : Nat) (K : Ex sig → St sig → Option ρ) : Option ρ :=
  uN nt 45 <| uC vs fun x0 x1 => uStr x0 fun a1 => uC x1 fun x2 x3 => uS (S := sig) .own Key.tok x2 fun (a2 : List Tok) => uC x3 fun x4 x5 => uI .i64 x4 fun a3 => u0 x5 <| uE m <| uDe ds <| C.l12_5_0 ρ a1 a2 a3 (fun (y0 : ByteArray) (y1 : List Tok) => K (.exit 0) (canon [0, 5] [.d (.str y0), .own Key.tok y1] [] [] 45)) (fun (y0 : List Tok) (y1 : Int) (y2 : Int) => K .ret (canon [2, 3, 4] [.full Key.tok y0, .d (.int .i64 y1), .d (.int .i64 y2)] [] [] 45))

def Rl13_4_0 (C : Tab) (ρ : Type) (vs : List (PV sig)) (m : Mem sig) (ds : List (FuncId × List (PV sig))) (nt : Nat) (K : Ex sig → St sig → Option ρ) : Option ρ :=
  uN nt 59 <| uC vs fun x0 x1 => uS (S := sig) .d Key.tok x0 fun (a1 : List Tok) => uC x1 fun x2 x3 => uS (S := sig) .d Key.tok x2 fun (a2 : List Tok) => uC x3 fun x4 x5 => uB x4 fun a3 => uC x5 fun x6 x7 => uI .i64 x6 fun a4 => uC x7 fun x8 x9 => uI .i64 x8 fun a5 => u0 x9 <| uE m <| uDe ds <| C.l13_4_0 ρ a1 a2 a3 a4 a5 (fun (y0 : Bool) => K .ret (canon [6] [.d (.bool y0)] [] [] 59)) (K (.exit 0) (canon [] [] [] [] 59))

def Rl19_3_0 (C : Tab) (ρ : Type) (vs : List (PV sig)) (m : Mem sig) (ds : List (FuncId × List (PV sig))) (nt : Nat) (K : Ex sig → St sig → Option ρ) : Option ρ :=
  uN nt 27 <| uC vs fun x0 x1 => uS (S := sig) .own Key.str x0 fun (a1 : List ByteArray) => uC x1 fun x2 x3 => uS (S := sig) .d Key.tok x2 fun (a2 : List Tok) => uC x3 fun x4 x5 => uI .i64 x4 fun a3 => uC x5 fun x6 x7 => uI .i64 x6 fun a4 => u0 x7 <| uE m <| uDe ds <| C.l19_3_0 ρ a1 a2 a3 a4 (fun (y0 : List ByteArray) => K (.exit 0) (canon [4] [.own Key.str y0] [] [] 27)) (fun (y0 : ByteArray) (y1 : Int) => K .ret (canon [2, 3] [.d (.str y0), .d (.int .i64 y1)] [] [] 27))

def Rl20_4_0 (C : Tab) (ρ : Type) (vs : List (PV sig)) (m : Mem sig) (ds : List (FuncId × List (PV sig))) (nt : Nat) (K : Ex sig → St sig → Option ρ) : Option ρ :=
  uN nt 32 <| uC vs fun x0 x1 => uS (S := sig) .own Key.u8 x0 fun (a1 : List Int) => uC x1 fun x2 x3 => uB x2 fun a2 => uC x3 fun x4 x5 => uS (S := sig) .d Key.tok x4 fun (a3 : List Tok) => uC x5 fun x6 x7 => uI .i64 x6 fun a4 => uC x7 fun x8 x9 => uI .i64 x8 fun a5 => u0 x9 <| uE m <| uDe ds <| C.l20_4_0 ρ a1 a2 a3 a4 a5 (fun (y0 : List Int) => K (.exit 0) (canon [4] [.own Key.u8 y0] [] [] 32)) (fun (y0 : ByteArray) (y1 : Int) => K .ret (canon [2, 3] [.d (.str y0), .d (.int .i64 y1)] [] [] 32))

def Rl22_5_0 (C : Tab) (ρ : Type) (vs : List (PV sig)) (m : Mem sig) (ds : List (FuncId × List (PV sig))) (nt : Nat) (K : Ex sig → St sig → Option ρ) : Option ρ :=
  uN nt 33 <| uC vs fun x0 x1 => uStr x0 fun a1 => uC x1 fun x2 x3 => uI .i64 x2 fun a2 => uC x3 fun x4 x5 => uI .i64 x4 fun a3 => uC x5 fun x6 x7 => uI .i64 x6 fun a4 => uC x7 fun x8 x9 => uI .i64 x8 fun a5 => u0 x9 <| uE m <| uDe ds <| C.l22_5_0 ρ a1 a2 a3 a4 a5 (fun (y0 : Int) (y1 : Int) => K (.exit 0) (canon [7, 8] [.d (.int .i64 y0), .d (.int .i64 y1)] [] [] 33))

def Rl23_0_0 (C : Tab) (ρ : Type) (vs : List (PV sig)) (m : Mem sig) (ds : List (FuncId × List (PV sig))) (nt : Nat) (K : Ex sig → St sig → Option ρ) : Option ρ :=
  uN nt 102 <| uC vs fun x0 x1 => uP 0 0 x0 <| u0 x1 <| uM m fun x3 x2 => uC x3 fun x4 x5 => uStr x4 fun a1 => uC x5 fun x6 x7 => uI .i64 x6 fun a2 => u0 x7 <| uE x2 <| uDe ds <| C.l23_0_0 ρ a1 a2 (fun (y0 : ByteArray) (y1 : Int) => K (.exit 0) (canon [] [] [some [.d (.str y0), .d (.int .i64 y1)]] [] 102))

def Rl25_1_0 (C : Tab) (ρ : Type) (vs : List (PV sig)) (m : Mem sig) (ds : List (FuncId × List (PV sig))) (nt : Nat) (K : Ex sig → St sig → Option ρ) : Option ρ :=
  uN nt 59 <| uC vs fun x0 x1 => uStr x0 fun a1 => uC x1 fun x2 x3 => uI .i64 x2 fun a2 => u0 x3 <| uE m <| uDe ds <| C.l25_1_0 ρ a1 a2 (fun (y0 : Int) => K .ret (canon [4] [.d (.int .i64 y0)] [] [] 59)) (fun (y0 : Int) => K (.exit 0) (canon [1] [.d (.int .i64 y0)] [] [] 59))

def Rl25_6_0 (C : Tab) (ρ : Type) (vs : List (PV sig)) (m : Mem sig) (ds : List (FuncId × List (PV sig))) (nt : Nat) (K : Ex sig → St sig → Option ρ) : Option ρ :=
  uN nt 59 <| uC vs fun x0 x1 => uStr x0 fun a1 => uC x1 fun x2 x3 => uI .i64 x2 fun a2 => u0 x3 <| uE m <| uDe ds <| C.l25_6_0 ρ a1 a2 (fun (y0 : ByteArray) (y1 : Int) => K (.exit 3) (canon [0, 1] [.d (.str y0), .d (.int .i64 y1)] [] [] 59))

def Rl27_4_0 (C : Tab) (ρ : Type) (vs : List (PV sig)) (m : Mem sig) (ds : List (FuncId × List (PV sig))) (nt : Nat) (K : Ex sig → St sig → Option ρ) : Option ρ :=
  uN nt 32 <| uC vs fun x0 x1 => uStr x0 fun a1 => uC x1 fun x2 x3 => uI .i64 x2 fun a2 => uC x3 fun x4 x5 => uI .i64 x4 fun a3 => u0 x5 <| uE m <| uDe ds <| C.l27_4_0 ρ a1 a2 a3 (K (.exit 0) (canon [] [] [] [] 32)) (fun (y0 : Bool) => K .ret (canon [4] [.d (.bool y0)] [] [] 32))

def Rl41_2_0 (C : Tab) (ρ : Type) (vs : List (PV sig)) (m : Mem sig) (ds : List (FuncId × List (PV sig))) (nt : Nat) (K : Ex sig → St sig → Option ρ) : Option ρ :=
  uN nt 42 <| uC vs fun x0 x1 => uP 0 0 x0 <| uC x1 fun x2 x3 => uI .i64 x2 fun a1 => uC x3 fun x4 x5 => uI .i64 x4 fun a2 => u0 x5 <| uM m fun x7 x6 => uC x7 fun x8 x9 => uStr x8 fun a3 => uC x9 fun x10 x11 => uI .i64 x10 fun a4 => u0 x11 <| uE x6 <| uDe ds <| C.l41_2_0 ρ a1 a2 a3 a4 (fun (y0 : Int) (y1 : Int) (y2 : ByteArray) (y3 : Int) => K (.exit 0) (canon [0, 1, 5] [.ptr 0 0, .d (.int .i64 y0), .d (.int .i64 y1)] [some [.d (.str y2), .d (.int .i64 y3)]] [] 42))

def Rl52_1_0 (C : Tab) (ρ : Type) (vs : List (PV sig)) (m : Mem sig) (ds : List (FuncId × List (PV sig))) (nt : Nat) (K : Ex sig → St sig → Option ρ) : Option ρ :=
  uN nt 18 <| uC vs fun x0 x1 => uStr x0 fun a1 => uC x1 fun x2 x3 => uI .i64 x2 fun a2 => u0 x3 <| uE m <| uDe ds <| C.l52_1_0 ρ a1 a2 (fun (y0 : Int) => K (.exit 0) (canon [1] [.d (.int .i64 y0)] [] [] 18))

def Rl54_5_0 (C : Tab) (ρ : Type) (vs : List (PV sig)) (m : Mem sig) (ds : List (FuncId × List (PV sig))) (nt : Nat) (K : Ex sig → St sig → Option ρ) : Option ρ :=
  uN nt 51 <| uC vs fun x0 x1 => uStr x0 fun a1 => uC x1 fun x2 x3 => uI .i64 x2 fun a2 => uC x3 fun x4 x5 => uI .i64 x4 fun a3 => u0 x5 <| uE m <| uDe ds <| C.l54_5_0 ρ a1 a2 a3 (fun (y0 : Int) (y1 : Bool) => K .ret (canon [2, 3] [.d (.int .i64 y0), .d (.bool y1)] [] [] 51)) (fun (y0 : Int) => K (.exit 0) (canon [4] [.d (.int .i64 y0)] [] [] 51))

def fnId : PV sig → Nat
  | .fn (.func g) _ _ => g
  | _ => 0

def T3 (C : Tab) (ρ : Type) (args : List (PV sig)) (m : Mem sig) (K : Res sig × Mem sig → Option ρ) : Option ρ := Rc3_0 C ρ args m K

def T4 (C : Tab) (ρ : Type) (args : List (PV sig)) (m : Mem sig) (K : Res sig × Mem sig → Option ρ) : Option ρ := Rc4_0 C ρ args m K

def T5 (C : Tab) (ρ : Type) (args : List (PV sig)) (m : Mem sig) (K : Res sig × Mem sig → Option ρ) : Option ρ := Rc5_0 C ρ args m K

def T6 (C : Tab) (ρ : Type) (args : List (PV sig)) (m : Mem sig) (K : Res sig × Mem sig → Option ρ) : Option ρ := Rc6_0 C ρ args m K

def T8 (C : Tab) (ρ : Type) (args : List (PV sig)) (m : Mem sig) (K : Res sig × Mem sig → Option ρ) : Option ρ := Rc8_0 C ρ args m K

def T9 (C : Tab) (ρ : Type) (args : List (PV sig)) (m : Mem sig) (K : Res sig × Mem sig → Option ρ) : Option ρ := Rc9_0 C ρ args m K

def T10 (C : Tab) (ρ : Type) (args : List (PV sig)) (m : Mem sig) (K : Res sig × Mem sig → Option ρ) : Option ρ := Rc10_0 C ρ args m K

def T11 (C : Tab) (ρ : Type) (args : List (PV sig)) (m : Mem sig) (K : Res sig × Mem sig → Option ρ) : Option ρ := Rc11_0 C ρ args m K

def T12 (C : Tab) (ρ : Type) (args : List (PV sig)) (m : Mem sig) (K : Res sig × Mem sig → Option ρ) : Option ρ := Rc12_0 C ρ args m K

def T13 (C : Tab) (ρ : Type) (args : List (PV sig)) (m : Mem sig) (K : Res sig × Mem sig → Option ρ) : Option ρ := Rc13_0 C ρ args m K

def T14 (C : Tab) (ρ : Type) (args : List (PV sig)) (m : Mem sig) (K : Res sig × Mem sig → Option ρ) : Option ρ := Rc14_0 C ρ args m K

def T15 (C : Tab) (ρ : Type) (args : List (PV sig)) (m : Mem sig) (K : Res sig × Mem sig → Option ρ) : Option ρ := Rc15_0 C ρ args m K

def T16 (C : Tab) (ρ : Type) (args : List (PV sig)) (m : Mem sig) (K : Res sig × Mem sig → Option ρ) : Option ρ := Rc16_0 C ρ args m K

def T17 (C : Tab) (ρ : Type) (args : List (PV sig)) (m : Mem sig) (K : Res sig × Mem sig → Option ρ) : Option ρ := Rc17_0 C ρ args m K

def T18 (C : Tab) (ρ : Type) (args : List (PV sig)) (m : Mem sig) (K : Res sig × Mem sig → Option ρ) : Option ρ := Rc18_0 C ρ args m K

def T19 (C : Tab) (ρ : Type) (args : List (PV sig)) (m : Mem sig) (K : Res sig × Mem sig → Option ρ) : Option ρ := Rc19_0 C ρ args m K

def T20 (C : Tab) (ρ : Type) (args : List (PV sig)) (m : Mem sig) (K : Res sig × Mem sig → Option ρ) : Option ρ := Rc20_0 C ρ args m K

def T21 (C : Tab) (ρ : Type) (args : List (PV sig)) (m : Mem sig) (K : Res sig × Mem sig → Option ρ) : Option ρ := Rc21_0 C ρ args m K

def T22 (C : Tab) (ρ : Type) (args : List (PV sig)) (m : Mem sig) (K : Res sig × Mem sig → Option ρ) : Option ρ := Rc22_0 C ρ args m K

def T23 (C : Tab) (ρ : Type) (args : List (PV sig)) (m : Mem sig) (K : Res sig × Mem sig → Option ρ) : Option ρ := Rc23_0 C ρ args m K

def T24 (C : Tab) (ρ : Type) (args : List (PV sig)) (m : Mem sig) (K : Res sig × Mem sig → Option ρ) : Option ρ := Rc24_0 C ρ args m K

def T25 (C : Tab) (ρ : Type) (args : List (PV sig)) (m : Mem sig) (K : Res sig × Mem sig → Option ρ) : Option ρ := Rc25_0 C ρ args m K

def T26 (C : Tab) (ρ : Type) (args : List (PV sig)) (m : Mem sig) (K : Res sig × Mem sig → Option ρ) : Option ρ := Rc26_0 C ρ args m K

def T27 (C : Tab) (ρ : Type) (args : List (PV sig)) (m : Mem sig) (K : Res sig × Mem sig → Option ρ) : Option ρ := bif Nat.beq (fnId (args.getD 1 .any)) 28 then Rc27_0 C ρ args m K else bif Nat.beq (fnId (args.getD 1 .any)) 29 then Rc27_1 C ρ args m K else none

def T28 (C : Tab) (ρ : Type) (args : List (PV sig)) (m : Mem sig) (K : Res sig × Mem sig → Option ρ) : Option ρ := Rc28_0 C ρ args m K

def T29 (C : Tab) (ρ : Type) (args : List (PV sig)) (m : Mem sig) (K : Res sig × Mem sig → Option ρ) : Option ρ := Rc29_0 C ρ args m K

def T30 (C : Tab) (ρ : Type) (args : List (PV sig)) (m : Mem sig) (K : Res sig × Mem sig → Option ρ) : Option ρ := Rc30_0 C ρ args m K

def T31 (C : Tab) (ρ : Type) (args : List (PV sig)) (m : Mem sig) (K : Res sig × Mem sig → Option ρ) : Option ρ := Rc31_0 C ρ args m K

def T32 (C : Tab) (ρ : Type) (args : List (PV sig)) (m : Mem sig) (K : Res sig × Mem sig → Option ρ) : Option ρ := Rc32_0 C ρ args m K

def T33 (C : Tab) (ρ : Type) (args : List (PV sig)) (m : Mem sig) (K : Res sig × Mem sig → Option ρ) : Option ρ := Rc33_0 C ρ args m K

def T34 (C : Tab) (ρ : Type) (args : List (PV sig)) (m : Mem sig) (K : Res sig × Mem sig → Option ρ) : Option ρ := Rc34_0 C ρ args m K

def T35 (C : Tab) (ρ : Type) (args : List (PV sig)) (m : Mem sig) (K : Res sig × Mem sig → Option ρ) : Option ρ := Rc35_0 C ρ args m K

def T36 (C : Tab) (ρ : Type) (args : List (PV sig)) (m : Mem sig) (K : Res sig × Mem sig → Option ρ) : Option ρ := Rc36_0 C ρ args m K

def T37 (C : Tab) (ρ : Type) (args : List (PV sig)) (m : Mem sig) (K : Res sig × Mem sig → Option ρ) : Option ρ := Rc37_0 C ρ args m K

def T38 (C : Tab) (ρ : Type) (args : List (PV sig)) (m : Mem sig) (K : Res sig × Mem sig → Option ρ) : Option ρ := Rc38_0 C ρ args m K

def T39 (C : Tab) (ρ : Type) (args : List (PV sig)) (m : Mem sig) (K : Res sig × Mem sig → Option ρ) : Option ρ := Rc39_0 C ρ args m K

def T40 (C : Tab) (ρ : Type) (args : List (PV sig)) (m : Mem sig) (K : Res sig × Mem sig → Option ρ) : Option ρ := Rc40_0 C ρ args m K

def T41 (C : Tab) (ρ : Type) (args : List (PV sig)) (m : Mem sig) (K : Res sig × Mem sig → Option ρ) : Option ρ := Rc41_0 C ρ args m K

def T42 (C : Tab) (ρ : Type) (args : List (PV sig)) (m : Mem sig) (K : Res sig × Mem sig → Option ρ) : Option ρ := Rc42_0 C ρ args m K

def T43 (C : Tab) (ρ : Type) (args : List (PV sig)) (m : Mem sig) (K : Res sig × Mem sig → Option ρ) : Option ρ := Rc43_0 C ρ args m K

def T44 (C : Tab) (ρ : Type) (args : List (PV sig)) (m : Mem sig) (K : Res sig × Mem sig → Option ρ) : Option ρ := Rc44_0 C ρ args m K

def T45 (C : Tab) (ρ : Type) (args : List (PV sig)) (m : Mem sig) (K : Res sig × Mem sig → Option ρ) : Option ρ := Rc45_0 C ρ args m K

def T46 (C : Tab) (ρ : Type) (args : List (PV sig)) (m : Mem sig) (K : Res sig × Mem sig → Option ρ) : Option ρ := Rc46_0 C ρ args m K

def T47 (C : Tab) (ρ : Type) (args : List (PV sig)) (m : Mem sig) (K : Res sig × Mem sig → Option ρ) : Option ρ := Rc47_0 C ρ args m K

def T48 (C : Tab) (ρ : Type) (args : List (PV sig)) (m : Mem sig) (K : Res sig × Mem sig → Option ρ) : Option ρ := Rc48_0 C ρ args m K

def T49 (C : Tab) (ρ : Type) (args : List (PV sig)) (m : Mem sig) (K : Res sig × Mem sig → Option ρ) : Option ρ := Rc49_0 C ρ args m K

def T50 (C : Tab) (ρ : Type) (args : List (PV sig)) (m : Mem sig) (K : Res sig × Mem sig → Option ρ) : Option ρ := Rc50_0 C ρ args m K

def T51 (C : Tab) (ρ : Type) (args : List (PV sig)) (m : Mem sig) (K : Res sig × Mem sig → Option ρ) : Option ρ := Rc51_0 C ρ args m K

def T52 (C : Tab) (ρ : Type) (args : List (PV sig)) (m : Mem sig) (K : Res sig × Mem sig → Option ρ) : Option ρ := Rc52_0 C ρ args m K

def T53 (C : Tab) (ρ : Type) (args : List (PV sig)) (m : Mem sig) (K : Res sig × Mem sig → Option ρ) : Option ρ := Rc53_0 C ρ args m K

def T54 (C : Tab) (ρ : Type) (args : List (PV sig)) (m : Mem sig) (K : Res sig × Mem sig → Option ρ) : Option ρ := Rc54_0 C ρ args m K

def T55 (C : Tab) (ρ : Type) (args : List (PV sig)) (m : Mem sig) (K : Res sig × Mem sig → Option ρ) : Option ρ := Rc55_0 C ρ args m K

def T56 (C : Tab) (ρ : Type) (args : List (PV sig)) (m : Mem sig) (K : Res sig × Mem sig → Option ρ) : Option ρ := Rc56_0 C ρ args m K

def T65 (C : Tab) (ρ : Type) (args : List (PV sig)) (m : Mem sig) (K : Res sig × Mem sig → Option ρ) : Option ρ := Rc65_0 C ρ args m K

def T66 (C : Tab) (ρ : Type) (args : List (PV sig)) (m : Mem sig) (K : Res sig × Mem sig → Option ρ) : Option ρ := Rc66_0 C ρ args m K

def T67 (C : Tab) (ρ : Type) (args : List (PV sig)) (m : Mem sig) (K : Res sig × Mem sig → Option ρ) : Option ρ := Rc67_0 C ρ args m K

/-- The table of functions. -/
def T (C : Tab) : CallT sig := fun ρ f args m K =>
  bif Nat.beq f 3 then T3 C ρ args m K else
  bif Nat.beq f 4 then T4 C ρ args m K else
  bif Nat.beq f 5 then T5 C ρ args m K else
  bif Nat.beq f 6 then T6 C ρ args m K else
  bif Nat.beq f 8 then T8 C ρ args m K else
  bif Nat.beq f 9 then T9 C ρ args m K else
  bif Nat.beq f 10 then T10 C ρ args m K else
  bif Nat.beq f 11 then T11 C ρ args m K else
  bif Nat.beq f 12 then T12 C ρ args m K else
  bif Nat.beq f 13 then T13 C ρ args m K else
  bif Nat.beq f 14 then T14 C ρ args m K else
  bif Nat.beq f 15 then T15 C ρ args m K else
  bif Nat.beq f 16 then T16 C ρ args m K else
  bif Nat.beq f 17 then T17 C ρ args m K else
  bif Nat.beq f 18 then T18 C ρ args m K else
  bif Nat.beq f 19 then T19 C ρ args m K else
  bif Nat.beq f 20 then T20 C ρ args m K else
  bif Nat.beq f 21 then T21 C ρ args m K else
  bif Nat.beq f 22 then T22 C ρ args m K else
  bif Nat.beq f 23 then T23 C ρ args m K else
  bif Nat.beq f 24 then T24 C ρ args m K else
  bif Nat.beq f 25 then T25 C ρ args m K else
  bif Nat.beq f 26 then T26 C ρ args m K else
  bif Nat.beq f 27 then T27 C ρ args m K else
  bif Nat.beq f 28 then T28 C ρ args m K else
  bif Nat.beq f 29 then T29 C ρ args m K else
  bif Nat.beq f 30 then T30 C ρ args m K else
  bif Nat.beq f 31 then T31 C ρ args m K else
  bif Nat.beq f 32 then T32 C ρ args m K else
  bif Nat.beq f 33 then T33 C ρ args m K else
  bif Nat.beq f 34 then T34 C ρ args m K else
  bif Nat.beq f 35 then T35 C ρ args m K else
  bif Nat.beq f 36 then T36 C ρ args m K else
  bif Nat.beq f 37 then T37 C ρ args m K else
  bif Nat.beq f 38 then T38 C ρ args m K else
  bif Nat.beq f 39 then T39 C ρ args m K else
  bif Nat.beq f 40 then T40 C ρ args m K else
  bif Nat.beq f 41 then T41 C ρ args m K else
  bif Nat.beq f 42 then T42 C ρ args m K else
  bif Nat.beq f 43 then T43 C ρ args m K else
  bif Nat.beq f 44 then T44 C ρ args m K else
  bif Nat.beq f 45 then T45 C ρ args m K else
  bif Nat.beq f 46 then T46 C ρ args m K else
  bif Nat.beq f 47 then T47 C ρ args m K else
  bif Nat.beq f 48 then T48 C ρ args m K else
  bif Nat.beq f 49 then T49 C ρ args m K else
  bif Nat.beq f 50 then T50 C ρ args m K else
  bif Nat.beq f 51 then T51 C ρ args m K else
  bif Nat.beq f 52 then T52 C ρ args m K else
  bif Nat.beq f 53 then T53 C ρ args m K else
  bif Nat.beq f 54 then T54 C ρ args m K else
  bif Nat.beq f 55 then T55 C ρ args m K else
  bif Nat.beq f 56 then T56 C ρ args m K else
  bif Nat.beq f 65 then T65 C ρ args m K else
  bif Nat.beq f 66 then T66 C ρ args m K else
  bif Nat.beq f 67 then T67 C ρ args m K else none

/-- The table of loops. -/
def LT (C : Tab) : LoopT sig := fun ρ f np key st K =>
  bif Nat.beq f 5 && (Nat.beq np 0 && Nat.beq key 6) then Rl5_6_0 C ρ (seenV (PK 5 0 6 0) st) (seenM 0 (PK 5 0 6 0) st) st.dfs st.nt K else
  bif Nat.beq f 6 && (Nat.beq np 0 && Nat.beq key 11) then Rl6_11_0 C ρ (seenV (PK 6 0 11 0) st) (seenM 0 (PK 6 0 11 0) st) st.dfs st.nt K else
  bif Nat.beq f 6 && (Nat.beq np 0 && Nat.beq key 20) then Rl6_20_0 C ρ (seenV (PK 6 0 20 0) st) (seenM 0 (PK 6 0 20 0) st) st.dfs st.nt K else
  bif Nat.beq f 8 && (Nat.beq np 0 && Nat.beq key 9) then Rl8_9_0 C ρ (seenV (PK 8 0 9 0) st) (seenM 0 (PK 8 0 9 0) st) st.dfs st.nt K else
  bif Nat.beq f 11 && (Nat.beq np 0 && Nat.beq key 6) then Rl11_6_0 C ρ (seenV (PK 11 0 6 0) st) (seenM 0 (PK 11 0 6 0) st) st.dfs st.nt K else
  bif Nat.beq f 12 && (Nat.beq np 0 && Nat.beq key 5) then Rl12_5_0 C ρ (seenV (PK 12 0 5 0) st) (seenM 0 (PK 12 0 5 0) st) st.dfs st.nt K else
  bif Nat.beq f 13 && (Nat.beq np 0 && Nat.beq key 4) then Rl13_4_0 C ρ (seenV (PK 13 0 4 0) st) (seenM 0 (PK 13 0 4 0) st) st.dfs st.nt K else
  bif Nat.beq f 19 && (Nat.beq np 0 && Nat.beq key 3) then Rl19_3_0 C ρ (seenV (PK 19 0 3 0) st) (seenM 0 (PK 19 0 3 0) st) st.dfs st.nt K else
  bif Nat.beq f 20 && (Nat.beq np 0 && Nat.beq key 4) then Rl20_4_0 C ρ (seenV (PK 20 0 4 0) st) (seenM 0 (PK 20 0 4 0) st) st.dfs st.nt K else
  bif Nat.beq f 22 && (Nat.beq np 0 && Nat.beq key 5) then Rl22_5_0 C ρ (seenV (PK 22 0 5 0) st) (seenM 0 (PK 22 0 5 0) st) st.dfs st.nt K else
  bif Nat.beq f 23 && (Nat.beq np 1 && Nat.beq key 0) then Rl23_0_0 C ρ (seenV (PK 23 1 0 0) st) (seenM 1 (PK 23 1 0 0) st) st.dfs st.nt K else
  bif Nat.beq f 25 && (Nat.beq np 0 && Nat.beq key 1) then Rl25_1_0 C ρ (seenV (PK 25 0 1 0) st) (seenM 0 (PK 25 0 1 0) st) st.dfs st.nt K else
  bif Nat.beq f 25 && (Nat.beq np 0 && Nat.beq key 6) then Rl25_6_0 C ρ (seenV (PK 25 0 6 0) st) (seenM 0 (PK 25 0 6 0) st) st.dfs st.nt K else
  bif Nat.beq f 27 && (Nat.beq np 0 && Nat.beq key 4) then Rl27_4_0 C ρ (seenV (PK 27 0 4 0) st) (seenM 0 (PK 27 0 4 0) st) st.dfs st.nt K else
  bif Nat.beq f 41 && (Nat.beq np 1 && Nat.beq key 2) then Rl41_2_0 C ρ (seenV (PK 41 1 2 0) st) (seenM 1 (PK 41 1 2 0) st) st.dfs st.nt K else
  bif Nat.beq f 52 && (Nat.beq np 0 && Nat.beq key 1) then Rl52_1_0 C ρ (seenV (PK 52 0 1 0) st) (seenM 0 (PK 52 0 1 0) st) st.dfs st.nt K else
  bif Nat.beq f 54 && (Nat.beq np 0 && Nat.beq key 5) then Rl54_5_0 C ρ (seenV (PK 54 0 5 0) st) (seenM 0 (PK 54 0 5 0) st) st.dfs st.nt K else none

end Go.Proofs.YtdhpgcjhiommkaaDoor.Ev
