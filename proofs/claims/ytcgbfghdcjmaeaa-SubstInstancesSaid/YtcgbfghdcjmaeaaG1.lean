/- This file proves nothing of the program: it defines, for each function and loop of layer 4, what it does to plain values, as read off its code. -/
import Derived.Test.YtcgbfghdcjmaeaaT4
set_option linter.unusedVariables false
set_option linter.unusedSimpArgs false
namespace Go.Proofs.Ytcgbfghdcjmaeaa.Ev

def hints : Hints where
  take := fun f r i => (Nat.beq f 23 && (Nat.beq r 7 && Nat.beq i 0)) || (Nat.beq f 23 && (Nat.beq r 8 && Nat.beq i 0)) || (Nat.beq f 25 && (Nat.beq r 3 && Nat.beq i 0)) || (Nat.beq f 25 && (Nat.beq r 4 && Nat.beq i 0)) || (Nat.beq f 29 && (Nat.beq r 14 && Nat.beq i 1)) || (Nat.beq f 41 && (Nat.beq r 8 && Nat.beq i 1)) || (Nat.beq f 43 && (Nat.beq r 15 && Nat.beq i 1)) || (Nat.beq f 51 && (Nat.beq r 8 && Nat.beq i 1)) || (Nat.beq f 52 && (Nat.beq r 8 && Nat.beq i 1)) || (Nat.beq f 61 && (Nat.beq r 8 && Nat.beq i 1)) || (Nat.beq f 61 && (Nat.beq r 9 && Nat.beq i 0)) || (Nat.beq f 75 && (Nat.beq r 5 && Nat.beq i 1)) || (Nat.beq f 78 && (Nat.beq r 11 && Nat.beq i 1)) || (Nat.beq f 79 && (Nat.beq r 11 && Nat.beq i 1)) || (Nat.beq f 81 && (Nat.beq r 9 && Nat.beq i 0)) || (Nat.beq f 87 && (Nat.beq r 3 && Nat.beq i 0))
  keep := fun f r => none
  full := fun f r i => (Nat.beq f 75 && (Nat.beq r 1 && Nat.beq i 9))
  ret := fun f => Nat.beq f 76 || Nat.beq f 89

def dfT : DeferT sig := fun f => bif Nat.beq f 40 then caughtD f else fun _ _ _ => none

/-- What each function and loop answers, with what is done with it. -/
structure Tab : Type 1 where
  c3_0 : ∀ ρ : Type, Int → Int → Int → (List Tm) → Int → Int → Int → Int → (List Tm) → (List Sm) → Int → (Bool → Option ρ) → Option ρ
  c4_0 : ∀ ρ : Type, Int → Int → Int → (List Tm) → Int → Int → Int → Int → (List Tm) → (List Sm) → Int → (Bool → Option ρ) → Option ρ
  c5_0 : ∀ ρ : Type, (List Sm) → (List Sm) → Int → Int → Int → (List Tm) → (List Sm) → Int → Int → Tm → (Bool → Option ρ) → Option ρ
  c6_0 : ∀ ρ : Type, (List Sm) → (List Sm) → Int → Int → Int → (List Tm) → (List Sm) → Int → Int → Int → Int → Int → Int → (List Tm) → Int → Int → Int → (List Tm) → (Bool → Option ρ) → Option ρ
  c7_0 : ∀ ρ : Type, (List Sm) → (List Sm) → Int → Int → Int → (List Tm) → (List Sm) → Int → Int → Int → (Bool → Option ρ) → Option ρ
  c8_0 : ∀ ρ : Type, Tm → (List Tm) → Sm → (Bool → Option ρ) → Option ρ
  c9_0 : ∀ ρ : Type, Tm → (List Tm) → (List Sm) → (Bool → Option ρ) → Option ρ
  c10_0 : ∀ ρ : Type, Int → Int → Sm → (Bool → Option ρ) → Option ρ
  c11_0 : ∀ ρ : Type, Tm → (Bool → Option ρ) → Option ρ
  c12_0 : ∀ ρ : Type, Tm → (List Tm) → (Bool → Option ρ) → Option ρ
  c13_0 : ∀ ρ : Type, Tm → (List Tm) → Sm → (Bool → Option ρ) → Option ρ
  c14_0 : ∀ ρ : Type, Tm → Int → Tm → Sm → (Tm → Int → Option ρ) → Option ρ
  c15_0 : ∀ ρ : Type, Tm → Int → Tm → Sm → (Tm → Int → Option ρ) → Option ρ
  c16_0 : ∀ ρ : Type, Tm → Int → Tm → Int → (Bool → Option ρ) → Option ρ
  c17_0 : ∀ ρ : Type, (Bool → Option ρ) → Option ρ
  c18_0 : ∀ ρ : Type, Tm → (Bool → Option ρ) → Option ρ
  c19_0 : ∀ ρ : Type, Sm → (Bool → Option ρ) → Option ρ
  c20_0 : ∀ ρ : Type, Tm → Int → (Bool → Option ρ) → Option ρ
  c21_0 : ∀ ρ : Type, Tm → Int → Int → (Tm → Int → Option ρ) → Option ρ
  c22_0 : ∀ ρ : Type, (List Sm) → (List Sm) → Int → Int → Int → (List Tm) → (List Sm) → Int → (Bool → Option ρ) → Option ρ
  c23_0 : ∀ ρ : Type, (List Sm) → (List Sm) → Tm → Sm → (Bool → Option ρ) → Option ρ
  c24_0 : ∀ ρ : Type, (List Sm) → Int → ((List Sm) → Option ρ) → Option ρ
  c25_0 : ∀ ρ : Type, (List Sm) → Int → ((List Sm) → Option ρ) → Option ρ
  c26_0 : ∀ ρ : Type, Tm → Tm → (Bool → Option ρ) → Option ρ
  c27_0 : ∀ ρ : Type, Sm → Sm → (Bool → Option ρ) → Option ρ
  c28_0 : ∀ ρ : Type, Int → Int → Sm → (Tm → Int → Option ρ) → Option ρ
  c29_0 : ∀ ρ : Type, Tm → Int → Int → Int → (Tm → Option ρ) → Option ρ
  c30_0 : ∀ ρ : Type, Tm → (List Tm) → Sm → (Tm → Int → Option ρ) → Option ρ
  c31_0 : ∀ ρ : Type, Tm → (List Tm) → Sm → (Tm → Int → Option ρ) → Option ρ
  c32_0 : ∀ ρ : Type, Tm → (List Tm) → (List Sm) → (Tm → Int → Option ρ) → Option ρ
  c33_0 : ∀ ρ : Type, Tm → (List Tm) → (List Sm) → (Tm → Int → Option ρ) → Option ρ
  c34_0 : ∀ ρ : Type, Int → Int → Sm → (Tm → Int → Option ρ) → Option ρ
  c35_0 : ∀ ρ : Type, Tm → (Int → Int → Int → Option ρ) → Option ρ
  c36_0 : ∀ ρ : Type, Tm → (Int → Int → Bool → Option ρ) → Option ρ
  c37_0 : ∀ ρ : Type, Tm → (List Tm) → (Tm → Int → Option ρ) → Option ρ
  c38_0 : ∀ ρ : Type, Tm → (List Tm) → (Tm → Int → Option ρ) → Option ρ
  c39_0 : ∀ ρ : Type, (List Tm) → (List Sm) → (List Int) → (Bool → Option ρ) → Option ρ
  c41_0 : ∀ ρ : Type, Tm → Int → Tm → Sm → Int → (Int → Int → Option ρ) → (Tm → Int → Option ρ) → Option ρ
  c42_0 : ∀ ρ : Type, Int → (Bool → Option ρ) → Option ρ
  c43_0 : ∀ ρ : Type, Tm → Int → Tm → Sm → Int → (Tm → Int → Int → Option ρ) → Option ρ
  c44_0 : ∀ ρ : Type, Int → (List Tm) → (Tm → Option ρ) → Option ρ
  c45_0 : ∀ ρ : Type, Int → (List Tm) → (Tm → Option ρ) → Option ρ
  c46_0 : ∀ ρ : Type, Tm → (Tm → Option ρ) → Option ρ
  c47_0 : ∀ ρ : Type, Tm → Int → (Int → Option ρ) → Option ρ
  c48_0 : ∀ ρ : Type, Tm → Int → (Bool → Option ρ) → Option ρ
  c49_0 : ∀ ρ : Type, Sm → Int → (Int → Option ρ) → Option ρ
  c50_0 : ∀ ρ : Type, Tm → Int → Int → (Bool → Option ρ) → Option ρ
  c51_0 : ∀ ρ : Type, Tm → Int → Int → (Tm → Option ρ) → Option ρ
  c52_0 : ∀ ρ : Type, Int → Int → Sm → (Tm → Option ρ) → Option ρ
  c53_0 : ∀ ρ : Type, Tm → (Int → Option ρ) → Option ρ
  c54_0 : ∀ ρ : Type, Tm → (Tm → Option ρ) → Option ρ
  c55_0 : ∀ ρ : Type, Tm → (List Tm) → Sm → Int → (Int → Int → Option ρ) → (Tm → Int → Option ρ) → Option ρ
  c56_0 : ∀ ρ : Type, (List Tm) → (Bool → Option ρ) → Option ρ
  c57_0 : ∀ ρ : Type, Tm → (List Tm) → Sm → Int → (Tm → Int → Int → Option ρ) → Option ρ
  c58_0 : ∀ ρ : Type, Tm → Int → (Int → Option ρ) → (Tm → Option ρ) → Option ρ
  c59_0 : ∀ ρ : Type, Tm → (Tm → Int → Option ρ) → Option ρ
  c60_0 : ∀ ρ : Type, Tm → Int → (Tm → Option ρ) → Option ρ
  c61_0 : ∀ ρ : Type, Int → Int → Sm → (Tm → Option ρ) → Option ρ
  c62_0 : ∀ ρ : Type, Int → (Int → Option ρ) → Option ρ
  c63_0 : ∀ ρ : Type, Tm → (Sm → Int → Option ρ) → Option ρ
  c64_0 : ∀ ρ : Type, Sm → (Bool → Option ρ) → Option ρ
  c65_0 : ∀ ρ : Type, Tm → Tm → Int → (Tm → Int → Int → Option ρ) → Option ρ
  c66_0 : ∀ ρ : Type, (List Sm) → (Bool → Option ρ) → Option ρ
  c66_1 : ∀ ρ : Type, (List Sm) → Int → (Bool → Int → Option ρ) → Option ρ
  c67_0 : ∀ ρ : Type, Sm → (Bool → Option ρ) → Option ρ
  c68_0 : ∀ ρ : Type, (List Int) → (Bool → Option ρ) → Option ρ
  c69_0 : ∀ ρ : Type, Int → (Bool → Option ρ) → Option ρ
  c70_0 : ∀ ρ : Type, Tm → Int → (Int → Option ρ) → Option ρ
  c71_0 : ∀ ρ : Type, Tm → (Int → Option ρ) → (Tm → Option ρ) → Option ρ
  c72_0 : ∀ ρ : Type, Tm → Int → (Int → Option ρ) → Option ρ
  c73_0 : ∀ ρ : Type, Tm → (Tm → Option ρ) → Option ρ
  c74_0 : ∀ ρ : Type, Tm → Int → Int → (Bool → Int → Option ρ) → Option ρ
  c75_0 : ∀ ρ : Type, Tm → Int → (Tm → Option ρ) → Option ρ
  c75_1 : ∀ ρ : Type, Tm → Int → Int → Int → (Tm → Int → Int → Option ρ) → Option ρ
  c76_0 : ∀ ρ : Type, Tm → Int → (Tm → Option ρ) → Option ρ
  c77_0 : ∀ ρ : Type, Tm → Int → Int → (Tm → Int → Option ρ) → Option ρ
  c78_0 : ∀ ρ : Type, Tm → Int → Int → (Tm → Option ρ) → Option ρ
  c79_0 : ∀ ρ : Type, Tm → (Sm → Int → Option ρ) → Option ρ
  c80_0 : ∀ ρ : Type, Sm → Int → (Bool → Int → Option ρ) → Option ρ
  c81_0 : ∀ ρ : Type, Tm → (Sm → Bool → Option ρ) → Option ρ
  c82_0 : ∀ ρ : Type, (List Sm) → (Int → Option ρ) → Option ρ
  c82_1 : ∀ ρ : Type, (List Sm) → Int → (Int → Int → Option ρ) → Option ρ
  c83_0 : ∀ ρ : Type, (List Int) → (Int → Option ρ) → Option ρ
  c84_0 : ∀ ρ : Type, Tm → Int → Int → Bool → Int → Bool → (Int → Bool → Int → Bool → Option ρ) → Option ρ
  c85_0 : ∀ ρ : Type, Tm → Int → Int → Bool → Int → Bool → (Int → Bool → Int → Bool → Option ρ) → Option ρ
  c86_0 : ∀ ρ : Type, Tm → Int → Int → (Tm → Option ρ) → Option ρ
  c87_0 : ∀ ρ : Type, Tm → ((List Tm) → Tm → Option ρ) → Option ρ
  c88_0 : ∀ ρ : Type, Sm → Int → (Bool → Int → Option ρ) → Option ρ
  c89_0 : ∀ ρ : Type, Tm → Int → Int → Int → (Tm → Int → Int → Option ρ) → Option ρ
  l13_4_0 : ∀ ρ : Type, (List Tm) → Int → Int → Tm → Sm → ((List Tm) → Tm → Sm → Option ρ) → (Bool → Option ρ) → Option ρ
  l22_4_0 : ∀ ρ : Type, (List Sm) → Int → Int → (List Sm) → (List Sm) → Int → Int → Int → (List Tm) → (List Sm) → Int → (Bool → Option ρ) → ((List Sm) → (List Sm) → Int → Int → Int → (List Tm) → (List Sm) → Int → Option ρ) → Option ρ
  l22_10_0 : ∀ ρ : Type, (List Sm) → Int → Int → (List Sm) → (List Sm) → Int → Int → Int → (List Tm) → (List Sm) → Int → (Bool → Option ρ) → ((List Sm) → (List Sm) → Int → Int → Int → (List Tm) → (List Sm) → Int → Option ρ) → Option ρ
  l23_2_0 : ∀ ρ : Type, (List Sm) → (List Sm) → (List Sm) → Int → Int → Tm → Sm → (Bool → Option ρ) → ((List Sm) → (List Sm) → Tm → Sm → Option ρ) → Option ρ
  l23_23_0 : ∀ ρ : Type, (List Sm) → (List Sm) → Int → Int → Tm → Sm → Sm → (Bool → Option ρ) → Option ρ → Option ρ
  l26_4_0 : ∀ ρ : Type, Int → Tm → Tm → (Bool → Option ρ) → Option ρ → Option ρ
  l27_4_0 : ∀ ρ : Type, Int → Sm → Sm → (Bool → Option ρ) → Option ρ → Option ρ
  l29_9_0 : ∀ ρ : Type, Int → Int → Int → Int → Int → Tm → Tm → Tm → (Tm → Tm → Tm → Option ρ) → Option ρ
  l32_6_0 : ∀ ρ : Type, (List Tm) → (List Sm) → (List Tm) → Int → Int → Tm → Tm → Int → Int → (Tm → Tm → Int → Option ρ) → (Tm → Tm → Int → Int → Option ρ) → Option ρ
  l33_4_0 : ∀ ρ : Type, (List Tm) → (List Sm) → Int → Tm → Tm → (Int → Tm → Tm → Option ρ) → ((List Tm) → (List Sm) → Tm → Tm → Option ρ) → Option ρ
  l33_10_0 : ∀ ρ : Type, (List Tm) → (List Sm) → Int → Tm → Tm → Int → (Tm → Tm → Option ρ) → (Int → Tm → Tm → Option ρ) → Option ρ
  l35_4_0 : ∀ ρ : Type, Int → Tm → (Int → Tm → Option ρ) → Option ρ
  l35_10_0 : ∀ ρ : Type, Int → (List Tm) → Int → Int → Tm → (Int → Int → Int → Option ρ) → (Int → Tm → Option ρ) → Option ρ
  l36_2_0 : ∀ ρ : Type, Int → Tm → (Int → Tm → Option ρ) → Option ρ
  l36_8_0 : ∀ ρ : Type, Int → Int → Tm → (Int → Int → Bool → Option ρ) → (Int → Tm → Option ρ) → Option ρ
  l37_6_0 : ∀ ρ : Type, (List Tm) → Int → Int → Tm → Tm → Int → Int → (Tm → Tm → Int → Option ρ) → (Tm → Tm → Int → Int → Option ρ) → Option ρ
  l38_5_0 : ∀ ρ : Type, (List Tm) → Int → Tm → Tm → Int → (Tm → Tm → Option ρ) → (Int → Tm → Tm → Option ρ) → Option ρ
  l39_4_0 : ∀ ρ : Type, (List Sm) → (List Int) → (List Tm) → Int → Int → ((List Sm) → (List Int) → Option ρ) → (Bool → Option ρ) → Option ρ
  l41_6_0 : ∀ ρ : Type, Int → (List Tm) → Int → Int → Int → Tm → Tm → Sm → Tm → Tm → (Int → Int → Tm → Tm → Sm → Tm → Tm → Option ρ) → (Int → Tm → Tm → Sm → Tm → Int → Option ρ) → Option ρ
  l43_7_0 : ∀ ρ : Type, Int → Int → Int → Tm → Tm → Sm → Tm → Tm → (Int → Int → Tm → Tm → Sm → Tm → Option ρ) → (Int → Int → Tm → Tm → Sm → Tm → Tm → Option ρ) → Option ρ
  l47_3_0 : ∀ ρ : Type, Int → Int → Int → Tm → (Int → Int → Option ρ) → Option ρ
  l48_18_0 : ∀ ρ : Type, Int → Int → Tm → (Bool → Option ρ) → Option ρ → Option ρ
  l49_5_0 : ∀ ρ : Type, Int → Int → Int → Sm → (Int → Option ρ) → (Int → Int → Option ρ) → Option ρ
  l50_4_0 : ∀ ρ : Type, Int → Int → Int → Tm → Option ρ → (Bool → Option ρ) → Option ρ
  l51_6_0 : ∀ ρ : Type, Int → Int → Int → Tm → Tm → Tm → (Tm → Tm → Tm → Option ρ) → Option ρ
  l52_6_0 : ∀ ρ : Type, Int → (List Sm) → Int → Int → Sm → Tm → Tm → (Int → Sm → Tm → Tm → Option ρ) → Option ρ
  l52_11_0 : ∀ ρ : Type, Int → Int → Sm → Tm → Tm → (Sm → Tm → Tm → Option ρ) → Option ρ
  l55_3_0 : ∀ ρ : Type, (List Tm) → Int → Int → Int → Tm → Sm → Tm → (Int → Tm → Sm → Tm → Int → Option ρ) → (Int → Tm → Sm → Tm → Option ρ) → Option ρ
  l56_2_0 : ∀ ρ : Type, (List Tm) → Int → (Bool → Option ρ) → ((List Tm) → Option ρ) → Option ρ
  l61_6_0 : ∀ ρ : Type, Int → Int → Sm → Tm → Tm → (Int → Sm → Tm → Tm → Option ρ) → Option ρ
  l61_11_0 : ∀ ρ : Type, Int → Int → Sm → Tm → Tm → (Sm → Tm → Tm → Option ρ) → Option ρ
  l74_17_0 : ∀ ρ : Type, Int → Int → Bool → Int → Int → Tm → (Bool → Int → Option ρ) → Option ρ
  l75_3_0 : ∀ ρ : Type, Int → (List Tm) → Int → Int → Tm → Tm → Tm → (Tm → Tm → Tm → Option ρ) → Option ρ
  l75_3_1 : ∀ ρ : Type, Int → (List Tm) → Int → Int → Int → Int → Tm → Tm → Tm → (Int → Int → Tm → Tm → Tm → Option ρ) → Option ρ
  l78_6_0 : ∀ ρ : Type, Int → Int → Int → Tm → Tm → Tm → (Tm → Tm → Tm → Option ρ) → Option ρ
  l79_6_0 : ∀ ρ : Type, (List Tm) → Int → Int → Tm → Sm → Tm → Sm → (Int → Tm → Sm → Option ρ) → (Tm → Sm → Tm → Sm → Option ρ) → Option ρ
  l82_2_0 : ∀ ρ : Type, (List Sm) → Int → Int → Option ρ → (Int → Option ρ) → Option ρ
  l82_2_1 : ∀ ρ : Type, (List Sm) → Int → Int → Int → (Int → Option ρ) → (Int → Int → Option ρ) → Option ρ
  l83_2_0 : ∀ ρ : Type, (List Int) → Int → Int → Option ρ → (Int → Option ρ) → Option ρ
  l84_3_0 : ∀ ρ : Type, Int → (List Tm) → Int → Int → Int → Bool → Int → Bool → Tm → (Int → Bool → Int → Bool → Option ρ) → Option ρ
  l87_2_0 : ∀ ρ : Type, (List Tm) → Tm → Tm → ((List Tm) → Tm → Tm → Option ρ) → Option ρ

/-- truss/trusslaw04.SubstPuts -/
def Gc3_0 (C : Tab) (ρ : Type) (a1 : Int) (a2 : Int) (a3 : Int) (a4 : List Tm) (a5 : Int) (a6 : Int) (a7 : Int) (a8 : Int) (a9 : List Tm) (a10 : List Sm) (a11 : Int) (k0 : (Bool → Option ρ)) : Option ρ :=
  C.c14_0 ρ (⟨a1, a2, a3, a4⟩ : Tm) a5 (⟨a6, a7, a8, a9⟩ : Tm) (⟨a10, a11⟩ : Sm) (fun (r12 : Tm) (r13 : Int) => C.c15_0 ρ (⟨a1, a2, a3, a4⟩ : Tm) a5 (⟨a6, a7, a8, a9⟩ : Tm) (⟨a10, a11⟩ : Sm) (fun (r14 : Tm) (r15 : Int) => C.c16_0 ρ (⟨r12.op, r12.head, r12.n, r12.args⟩ : Tm) r13 (⟨r14.op, r14.head, r14.n, r14.args⟩ : Tm) r15 (fun (r16 : Bool) => cond r16 (C.c17_0 ρ (fun (r17 : Bool) => k0 r17)) (k0 false))))

/-- truss/trusslaw04.SubstAway -/
def Gc4_0 (C : Tab) (ρ : Type) (a1 : Int) (a2 : Int) (a3 : Int) (a4 : List Tm) (a5 : Int) (a6 : Int) (a7 : Int) (a8 : Int) (a9 : List Tm) (a10 : List Sm) (a11 : Int) (k0 : (Bool → Option ρ)) : Option ρ :=
  C.c18_0 ρ (⟨a1, a2, a3, a4⟩ : Tm) (fun (r12 : Bool) => cond (!r12) (C.c17_0 ρ (fun (r13 : Bool) => k0 r13)) (C.c18_0 ρ (⟨a6, a7, a8, a9⟩ : Tm) (fun (r14 : Bool) => cond (!r14) (C.c17_0 ρ (fun (r15 : Bool) => k0 r15)) (C.c19_0 ρ (⟨a10, a11⟩ : Sm) (fun (r16 : Bool) => cond (!r16) (C.c17_0 ρ (fun (r17 : Bool) => k0 r17)) (cond (decide (a5 < (0 : Int))) (C.c17_0 ρ (fun (r18 : Bool) => k0 r18)) (cond (decide (a5 > (9999 : Int))) (C.c17_0 ρ (fun (r19 : Bool) => k0 r19)) (C.c20_0 ρ (⟨a1, a2, a3, a4⟩ : Tm) a5 (fun (r20 : Bool) => cond r20 (C.c17_0 ρ (fun (r21 : Bool) => k0 r21)) (C.c14_0 ρ (⟨a1, a2, a3, a4⟩ : Tm) a5 (⟨a6, a7, a8, a9⟩ : Tm) (⟨a10, a11⟩ : Sm) (fun (r22 : Tm) (r23 : Int) => C.c21_0 ρ (⟨a1, a2, a3, a4⟩ : Tm) (-1 : Int) a5 (fun (r24 : Tm) (r25 : Int) => C.c16_0 ρ (⟨r22.op, r22.head, r22.n, r22.args⟩ : Tm) r23 (⟨r24.op, r24.head, r24.n, r24.args⟩ : Tm) r25 (fun (r26 : Bool) => cond r26 (C.c17_0 ρ (fun (r27 : Bool) => k0 r27)) (k0 false))))))))))))))

/-- truss/trusslaw04.SubstTyped -/
def Gc5_0 (C : Tab) (ρ : Type) (a1 : List Sm) (a2 : List Sm) (a3 : Int) (a4 : Int) (a5 : Int) (a6 : List Tm) (a7 : List Sm) (a8 : Int) (a9 : Int) (a10 : Tm) (k0 : (Bool → Option ρ)) : Option ρ :=
  C.c22_0 ρ a1 a2 a3 a4 a5 a6 a7 a8 (fun (r11 : Bool) => cond (!r11) (C.c17_0 ρ (fun (r12 : Bool) => k0 r12)) (cond (((List.length a2 : Nat) : Int) == (0 : Int)) (C.c17_0 ρ (fun (r13 : Bool) => k0 r13)) (C.c18_0 ρ (⟨a10.op, a10.head, a10.n, a10.args⟩ : Tm) (fun (r14 : Bool) => cond (!r14) (C.c17_0 ρ (fun (r15 : Bool) => k0 r15)) (cond ((IntKind.wrap .u64 ((List.length a2 : Nat) : Int)) == 0) (none) (cond (decide ((0 : Int) ≤ (IntKind.wrap .i64 ((IntKind.wrap .i64 (((List.length a2 : Nat) : Int) - (1 : Int))) - (IntKind.wrap .i64 (Int.tmod (IntKind.wrap .u64 a9) (IntKind.wrap .u64 ((List.length a2 : Nat) : Int))))))) && decide ((IntKind.wrap .i64 ((IntKind.wrap .i64 (((List.length a2 : Nat) : Int) - (1 : Int))) - (IntKind.wrap .i64 (Int.tmod (IntKind.wrap .u64 a9) (IntKind.wrap .u64 ((List.length a2 : Nat) : Int)))))) < ((List.length a2 : Nat) : Int))) (C.c24_0 ρ a2 (IntKind.wrap .i64 (Int.tmod (IntKind.wrap .u64 a9) (IntKind.wrap .u64 ((List.length a2 : Nat) : Int)))) (fun (r16 : List Sm) => C.c23_0 ρ a1 r16 (⟨a10.op, a10.head, a10.n, a10.args⟩ : Tm) (⟨(rdEl lay Key.sm a2 (IntKind.wrap .i64 ((IntKind.wrap .i64 (((List.length a2 : Nat) : Int) - (1 : Int))) - (IntKind.wrap .i64 (Int.tmod (IntKind.wrap .u64 a9) (IntKind.wrap .u64 ((List.length a2 : Nat) : Int))))))).args, (rdEl lay Key.sm a2 (IntKind.wrap .i64 ((IntKind.wrap .i64 (((List.length a2 : Nat) : Int) - (1 : Int))) - (IntKind.wrap .i64 (Int.tmod (IntKind.wrap .u64 a9) (IntKind.wrap .u64 ((List.length a2 : Nat) : Int))))))).con⟩ : Sm) (fun (r17 : Bool) => cond (!r17) (C.c17_0 ρ (fun (r18 : Bool) => k0 r18)) (C.c14_0 ρ (⟨a3, a4, a5, a6⟩ : Tm) (IntKind.wrap .i64 (Int.tmod (IntKind.wrap .u64 a9) (IntKind.wrap .u64 ((List.length a2 : Nat) : Int)))) (⟨a10.op, a10.head, a10.n, a10.args⟩ : Tm) (⟨(rdEl lay Key.sm a2 (IntKind.wrap .i64 ((IntKind.wrap .i64 (((List.length a2 : Nat) : Int) - (1 : Int))) - (IntKind.wrap .i64 (Int.tmod (IntKind.wrap .u64 a9) (IntKind.wrap .u64 ((List.length a2 : Nat) : Int))))))).args, (rdEl lay Key.sm a2 (IntKind.wrap .i64 ((IntKind.wrap .i64 (((List.length a2 : Nat) : Int) - (1 : Int))) - (IntKind.wrap .i64 (Int.tmod (IntKind.wrap .u64 a9) (IntKind.wrap .u64 ((List.length a2 : Nat) : Int))))))).con⟩ : Sm) (fun (r19 : Tm) (r20 : Int) => cond (r20 != (0 : Int)) (cond (r20 == (5 : Int)) (C.c17_0 ρ (fun (r21 : Bool) => k0 r21)) (k0 false)) (C.c25_0 ρ a2 (IntKind.wrap .i64 (Int.tmod (IntKind.wrap .u64 a9) (IntKind.wrap .u64 ((List.length a2 : Nat) : Int)))) (fun (r22 : List Sm) => C.c23_0 ρ a1 r22 (⟨r19.op, r19.head, r19.n, r19.args⟩ : Tm) (⟨a7, a8⟩ : Sm) (fun (r23 : Bool) => cond r23 (C.c17_0 ρ (fun (r24 : Bool) => k0 r24)) (k0 false))))))))) (none)))))))

/-- truss/trusslaw04.SubstCommutes -/
def Gc6_0 (C : Tab) (ρ : Type) (a1 : List Sm) (a2 : List Sm) (a3 : Int) (a4 : Int) (a5 : Int) (a6 : List Tm) (a7 : List Sm) (a8 : Int) (a9 : Int) (a10 : Int) (a11 : Int) (a12 : Int) (a13 : Int) (a14 : List Tm) (a15 : Int) (a16 : Int) (a17 : Int) (a18 : List Tm) (k0 : (Bool → Option ρ)) : Option ρ :=
  C.c22_0 ρ a1 a2 a3 a4 a5 a6 a7 a8 (fun (r19 : Bool) => cond (!r19) (C.c17_0 ρ (fun (r20 : Bool) => k0 r20)) (cond (decide (((List.length a2 : Nat) : Int) < (2 : Int))) (C.c17_0 ρ (fun (r21 : Bool) => k0 r21)) (C.c18_0 ρ (⟨a11, a12, a13, a14⟩ : Tm) (fun (r22 : Bool) => cond (!r22) (C.c17_0 ρ (fun (r23 : Bool) => k0 r23)) (C.c18_0 ρ (⟨a15, a16, a17, a18⟩ : Tm) (fun (r24 : Bool) => cond (!r24) (C.c17_0 ρ (fun (r25 : Bool) => k0 r25)) (cond ((IntKind.wrap .u64 (IntKind.wrap .i64 (((List.length a2 : Nat) : Int) - (1 : Int)))) == 0) (none) (cond ((IntKind.wrap .u64 (IntKind.wrap .i64 ((1 : Int) + (IntKind.wrap .i64 (Int.tmod (IntKind.wrap .u64 a10) (IntKind.wrap .u64 (IntKind.wrap .i64 (((List.length a2 : Nat) : Int) - (1 : Int))))))))) == 0) (none) (cond (decide ((0 : Int) ≤ (IntKind.wrap .i64 ((IntKind.wrap .i64 (((List.length a2 : Nat) : Int) - (1 : Int))) - (IntKind.wrap .i64 (Int.tmod (IntKind.wrap .u64 a9) (IntKind.wrap .u64 (IntKind.wrap .i64 ((1 : Int) + (IntKind.wrap .i64 (Int.tmod (IntKind.wrap .u64 a10) (IntKind.wrap .u64 (IntKind.wrap .i64 (((List.length a2 : Nat) : Int) - (1 : Int)))))))))))))) && decide ((IntKind.wrap .i64 ((IntKind.wrap .i64 (((List.length a2 : Nat) : Int) - (1 : Int))) - (IntKind.wrap .i64 (Int.tmod (IntKind.wrap .u64 a9) (IntKind.wrap .u64 (IntKind.wrap .i64 ((1 : Int) + (IntKind.wrap .i64 (Int.tmod (IntKind.wrap .u64 a10) (IntKind.wrap .u64 (IntKind.wrap .i64 (((List.length a2 : Nat) : Int) - (1 : Int))))))))))))) < ((List.length a2 : Nat) : Int))) (cond (decide ((0 : Int) ≤ (IntKind.wrap .i64 ((IntKind.wrap .i64 (((List.length a2 : Nat) : Int) - (1 : Int))) - (IntKind.wrap .i64 ((1 : Int) + (IntKind.wrap .i64 (Int.tmod (IntKind.wrap .u64 a10) (IntKind.wrap .u64 (IntKind.wrap .i64 (((List.length a2 : Nat) : Int) - (1 : Int))))))))))) && decide ((IntKind.wrap .i64 ((IntKind.wrap .i64 (((List.length a2 : Nat) : Int) - (1 : Int))) - (IntKind.wrap .i64 ((1 : Int) + (IntKind.wrap .i64 (Int.tmod (IntKind.wrap .u64 a10) (IntKind.wrap .u64 (IntKind.wrap .i64 (((List.length a2 : Nat) : Int) - (1 : Int)))))))))) < ((List.length a2 : Nat) : Int))) (C.c24_0 ρ a2 (IntKind.wrap .i64 (Int.tmod (IntKind.wrap .u64 a9) (IntKind.wrap .u64 (IntKind.wrap .i64 ((1 : Int) + (IntKind.wrap .i64 (Int.tmod (IntKind.wrap .u64 a10) (IntKind.wrap .u64 (IntKind.wrap .i64 (((List.length a2 : Nat) : Int) - (1 : Int))))))))))) (fun (r26 : List Sm) => C.c23_0 ρ a1 r26 (⟨a11, a12, a13, a14⟩ : Tm) (⟨(rdEl lay Key.sm a2 (IntKind.wrap .i64 ((IntKind.wrap .i64 (((List.length a2 : Nat) : Int) - (1 : Int))) - (IntKind.wrap .i64 (Int.tmod (IntKind.wrap .u64 a9) (IntKind.wrap .u64 (IntKind.wrap .i64 ((1 : Int) + (IntKind.wrap .i64 (Int.tmod (IntKind.wrap .u64 a10) (IntKind.wrap .u64 (IntKind.wrap .i64 (((List.length a2 : Nat) : Int) - (1 : Int)))))))))))))).args, (rdEl lay Key.sm a2 (IntKind.wrap .i64 ((IntKind.wrap .i64 (((List.length a2 : Nat) : Int) - (1 : Int))) - (IntKind.wrap .i64 (Int.tmod (IntKind.wrap .u64 a9) (IntKind.wrap .u64 (IntKind.wrap .i64 ((1 : Int) + (IntKind.wrap .i64 (Int.tmod (IntKind.wrap .u64 a10) (IntKind.wrap .u64 (IntKind.wrap .i64 (((List.length a2 : Nat) : Int) - (1 : Int)))))))))))))).con⟩ : Sm) (fun (r27 : Bool) => cond (!r27) (C.c17_0 ρ (fun (r28 : Bool) => k0 r28)) (C.c24_0 ρ a2 (IntKind.wrap .i64 ((1 : Int) + (IntKind.wrap .i64 (Int.tmod (IntKind.wrap .u64 a10) (IntKind.wrap .u64 (IntKind.wrap .i64 (((List.length a2 : Nat) : Int) - (1 : Int)))))))) (fun (r29 : List Sm) => C.c23_0 ρ a1 r29 (⟨a15, a16, a17, a18⟩ : Tm) (⟨(rdEl lay Key.sm a2 (IntKind.wrap .i64 ((IntKind.wrap .i64 (((List.length a2 : Nat) : Int) - (1 : Int))) - (IntKind.wrap .i64 ((1 : Int) + (IntKind.wrap .i64 (Int.tmod (IntKind.wrap .u64 a10) (IntKind.wrap .u64 (IntKind.wrap .i64 (((List.length a2 : Nat) : Int) - (1 : Int))))))))))).args, (rdEl lay Key.sm a2 (IntKind.wrap .i64 ((IntKind.wrap .i64 (((List.length a2 : Nat) : Int) - (1 : Int))) - (IntKind.wrap .i64 ((1 : Int) + (IntKind.wrap .i64 (Int.tmod (IntKind.wrap .u64 a10) (IntKind.wrap .u64 (IntKind.wrap .i64 (((List.length a2 : Nat) : Int) - (1 : Int))))))))))).con⟩ : Sm) (fun (r30 : Bool) => cond (!r30) (C.c17_0 ρ (fun (r31 : Bool) => k0 r31)) (C.c14_0 ρ (⟨a3, a4, a5, a6⟩ : Tm) (IntKind.wrap .i64 ((1 : Int) + (IntKind.wrap .i64 (Int.tmod (IntKind.wrap .u64 a10) (IntKind.wrap .u64 (IntKind.wrap .i64 (((List.length a2 : Nat) : Int) - (1 : Int)))))))) (⟨a15, a16, a17, a18⟩ : Tm) (⟨(rdEl lay Key.sm a2 (IntKind.wrap .i64 ((IntKind.wrap .i64 (((List.length a2 : Nat) : Int) - (1 : Int))) - (IntKind.wrap .i64 ((1 : Int) + (IntKind.wrap .i64 (Int.tmod (IntKind.wrap .u64 a10) (IntKind.wrap .u64 (IntKind.wrap .i64 (((List.length a2 : Nat) : Int) - (1 : Int))))))))))).args, (rdEl lay Key.sm a2 (IntKind.wrap .i64 ((IntKind.wrap .i64 (((List.length a2 : Nat) : Int) - (1 : Int))) - (IntKind.wrap .i64 ((1 : Int) + (IntKind.wrap .i64 (Int.tmod (IntKind.wrap .u64 a10) (IntKind.wrap .u64 (IntKind.wrap .i64 (((List.length a2 : Nat) : Int) - (1 : Int))))))))))).con⟩ : Sm) (fun (r32 : Tm) (r33 : Int) => C.c14_0 ρ (⟨a11, a12, a13, a14⟩ : Tm) (IntKind.wrap .i64 ((IntKind.wrap .i64 ((IntKind.wrap .i64 ((1 : Int) + (IntKind.wrap .i64 (Int.tmod (IntKind.wrap .u64 a10) (IntKind.wrap .u64 (IntKind.wrap .i64 (((List.length a2 : Nat) : Int) - (1 : Int)))))))) - (IntKind.wrap .i64 (Int.tmod (IntKind.wrap .u64 a9) (IntKind.wrap .u64 (IntKind.wrap .i64 ((1 : Int) + (IntKind.wrap .i64 (Int.tmod (IntKind.wrap .u64 a10) (IntKind.wrap .u64 (IntKind.wrap .i64 (((List.length a2 : Nat) : Int) - (1 : Int))))))))))))) - (1 : Int))) (⟨a15, a16, a17, a18⟩ : Tm) (⟨(rdEl lay Key.sm a2 (IntKind.wrap .i64 ((IntKind.wrap .i64 (((List.length a2 : Nat) : Int) - (1 : Int))) - (IntKind.wrap .i64 ((1 : Int) + (IntKind.wrap .i64 (Int.tmod (IntKind.wrap .u64 a10) (IntKind.wrap .u64 (IntKind.wrap .i64 (((List.length a2 : Nat) : Int) - (1 : Int))))))))))).args, (rdEl lay Key.sm a2 (IntKind.wrap .i64 ((IntKind.wrap .i64 (((List.length a2 : Nat) : Int) - (1 : Int))) - (IntKind.wrap .i64 ((1 : Int) + (IntKind.wrap .i64 (Int.tmod (IntKind.wrap .u64 a10) (IntKind.wrap .u64 (IntKind.wrap .i64 (((List.length a2 : Nat) : Int) - (1 : Int))))))))))).con⟩ : Sm) (fun (r34 : Tm) (r35 : Int) => C.c14_0 ρ (⟨a3, a4, a5, a6⟩ : Tm) (IntKind.wrap .i64 (Int.tmod (IntKind.wrap .u64 a9) (IntKind.wrap .u64 (IntKind.wrap .i64 ((1 : Int) + (IntKind.wrap .i64 (Int.tmod (IntKind.wrap .u64 a10) (IntKind.wrap .u64 (IntKind.wrap .i64 (((List.length a2 : Nat) : Int) - (1 : Int))))))))))) (⟨a11, a12, a13, a14⟩ : Tm) (⟨(rdEl lay Key.sm a2 (IntKind.wrap .i64 ((IntKind.wrap .i64 (((List.length a2 : Nat) : Int) - (1 : Int))) - (IntKind.wrap .i64 (Int.tmod (IntKind.wrap .u64 a9) (IntKind.wrap .u64 (IntKind.wrap .i64 ((1 : Int) + (IntKind.wrap .i64 (Int.tmod (IntKind.wrap .u64 a10) (IntKind.wrap .u64 (IntKind.wrap .i64 (((List.length a2 : Nat) : Int) - (1 : Int)))))))))))))).args, (rdEl lay Key.sm a2 (IntKind.wrap .i64 ((IntKind.wrap .i64 (((List.length a2 : Nat) : Int) - (1 : Int))) - (IntKind.wrap .i64 (Int.tmod (IntKind.wrap .u64 a9) (IntKind.wrap .u64 (IntKind.wrap .i64 ((1 : Int) + (IntKind.wrap .i64 (Int.tmod (IntKind.wrap .u64 a10) (IntKind.wrap .u64 (IntKind.wrap .i64 (((List.length a2 : Nat) : Int) - (1 : Int)))))))))))))).con⟩ : Sm) (fun (r36 : Tm) (r37 : Int) => cond (r33 != (0 : Int)) (C.c17_0 ρ (fun (r38 : Bool) => k0 r38)) (cond (r35 != (0 : Int)) (C.c17_0 ρ (fun (r39 : Bool) => k0 r39)) (cond (r37 != (0 : Int)) (C.c17_0 ρ (fun (r40 : Bool) => k0 r40)) (C.c14_0 ρ (⟨r32.op, r32.head, r32.n, r32.args⟩ : Tm) (IntKind.wrap .i64 (Int.tmod (IntKind.wrap .u64 a9) (IntKind.wrap .u64 (IntKind.wrap .i64 ((1 : Int) + (IntKind.wrap .i64 (Int.tmod (IntKind.wrap .u64 a10) (IntKind.wrap .u64 (IntKind.wrap .i64 (((List.length a2 : Nat) : Int) - (1 : Int))))))))))) (⟨r34.op, r34.head, r34.n, r34.args⟩ : Tm) (⟨(rdEl lay Key.sm a2 (IntKind.wrap .i64 ((IntKind.wrap .i64 (((List.length a2 : Nat) : Int) - (1 : Int))) - (IntKind.wrap .i64 (Int.tmod (IntKind.wrap .u64 a9) (IntKind.wrap .u64 (IntKind.wrap .i64 ((1 : Int) + (IntKind.wrap .i64 (Int.tmod (IntKind.wrap .u64 a10) (IntKind.wrap .u64 (IntKind.wrap .i64 (((List.length a2 : Nat) : Int) - (1 : Int)))))))))))))).args, (rdEl lay Key.sm a2 (IntKind.wrap .i64 ((IntKind.wrap .i64 (((List.length a2 : Nat) : Int) - (1 : Int))) - (IntKind.wrap .i64 (Int.tmod (IntKind.wrap .u64 a9) (IntKind.wrap .u64 (IntKind.wrap .i64 ((1 : Int) + (IntKind.wrap .i64 (Int.tmod (IntKind.wrap .u64 a10) (IntKind.wrap .u64 (IntKind.wrap .i64 (((List.length a2 : Nat) : Int) - (1 : Int)))))))))))))).con⟩ : Sm) (fun (r41 : Tm) (r42 : Int) => C.c14_0 ρ (⟨r36.op, r36.head, r36.n, r36.args⟩ : Tm) (IntKind.wrap .i64 ((IntKind.wrap .i64 ((1 : Int) + (IntKind.wrap .i64 (Int.tmod (IntKind.wrap .u64 a10) (IntKind.wrap .u64 (IntKind.wrap .i64 (((List.length a2 : Nat) : Int) - (1 : Int)))))))) - (1 : Int))) (⟨a15, a16, a17, a18⟩ : Tm) (⟨(rdEl lay Key.sm a2 (IntKind.wrap .i64 ((IntKind.wrap .i64 (((List.length a2 : Nat) : Int) - (1 : Int))) - (IntKind.wrap .i64 ((1 : Int) + (IntKind.wrap .i64 (Int.tmod (IntKind.wrap .u64 a10) (IntKind.wrap .u64 (IntKind.wrap .i64 (((List.length a2 : Nat) : Int) - (1 : Int))))))))))).args, (rdEl lay Key.sm a2 (IntKind.wrap .i64 ((IntKind.wrap .i64 (((List.length a2 : Nat) : Int) - (1 : Int))) - (IntKind.wrap .i64 ((1 : Int) + (IntKind.wrap .i64 (Int.tmod (IntKind.wrap .u64 a10) (IntKind.wrap .u64 (IntKind.wrap .i64 (((List.length a2 : Nat) : Int) - (1 : Int))))))))))).con⟩ : Sm) (fun (r43 : Tm) (r44 : Int) => cond (r42 != (0 : Int)) (C.c17_0 ρ (fun (r45 : Bool) => k0 r45)) (cond (r44 != (0 : Int)) (C.c17_0 ρ (fun (r46 : Bool) => k0 r46)) (C.c26_0 ρ (⟨r41.op, r41.head, r41.n, r41.args⟩ : Tm) (⟨r43.op, r43.head, r43.n, r43.args⟩ : Tm) (fun (r47 : Bool) => cond r47 (C.c17_0 ρ (fun (r48 : Bool) => k0 r48)) (k0 false))))))))))))))))))) (none)) (none))))))))))

/-- truss/trusslaw04.SubstRenames -/
def Gc7_0 (C : Tab) (ρ : Type) (a1 : List Sm) (a2 : List Sm) (a3 : Int) (a4 : Int) (a5 : Int) (a6 : List Tm) (a7 : List Sm) (a8 : Int) (a9 : Int) (a10 : Int) (k0 : (Bool → Option ρ)) : Option ρ :=
  C.c22_0 ρ a1 a2 a3 a4 a5 a6 a7 a8 (fun (r11 : Bool) => cond (!r11) (C.c17_0 ρ (fun (r12 : Bool) => k0 r12)) (cond (decide (((List.length a2 : Nat) : Int) < (2 : Int))) (C.c17_0 ρ (fun (r13 : Bool) => k0 r13)) (cond ((IntKind.wrap .u64 (IntKind.wrap .i64 (((List.length a2 : Nat) : Int) - (1 : Int)))) == 0) (none) (cond ((IntKind.wrap .u64 (IntKind.wrap .i64 ((1 : Int) + (IntKind.wrap .i64 (Int.tmod (IntKind.wrap .u64 a10) (IntKind.wrap .u64 (IntKind.wrap .i64 (((List.length a2 : Nat) : Int) - (1 : Int))))))))) == 0) (none) (cond (decide ((0 : Int) ≤ (IntKind.wrap .i64 ((IntKind.wrap .i64 (((List.length a2 : Nat) : Int) - (1 : Int))) - (IntKind.wrap .i64 (Int.tmod (IntKind.wrap .u64 a9) (IntKind.wrap .u64 (IntKind.wrap .i64 ((1 : Int) + (IntKind.wrap .i64 (Int.tmod (IntKind.wrap .u64 a10) (IntKind.wrap .u64 (IntKind.wrap .i64 (((List.length a2 : Nat) : Int) - (1 : Int)))))))))))))) && decide ((IntKind.wrap .i64 ((IntKind.wrap .i64 (((List.length a2 : Nat) : Int) - (1 : Int))) - (IntKind.wrap .i64 (Int.tmod (IntKind.wrap .u64 a9) (IntKind.wrap .u64 (IntKind.wrap .i64 ((1 : Int) + (IntKind.wrap .i64 (Int.tmod (IntKind.wrap .u64 a10) (IntKind.wrap .u64 (IntKind.wrap .i64 (((List.length a2 : Nat) : Int) - (1 : Int))))))))))))) < ((List.length a2 : Nat) : Int))) (cond (decide ((0 : Int) ≤ (IntKind.wrap .i64 ((IntKind.wrap .i64 (((List.length a2 : Nat) : Int) - (1 : Int))) - (IntKind.wrap .i64 ((1 : Int) + (IntKind.wrap .i64 (Int.tmod (IntKind.wrap .u64 a10) (IntKind.wrap .u64 (IntKind.wrap .i64 (((List.length a2 : Nat) : Int) - (1 : Int))))))))))) && decide ((IntKind.wrap .i64 ((IntKind.wrap .i64 (((List.length a2 : Nat) : Int) - (1 : Int))) - (IntKind.wrap .i64 ((1 : Int) + (IntKind.wrap .i64 (Int.tmod (IntKind.wrap .u64 a10) (IntKind.wrap .u64 (IntKind.wrap .i64 (((List.length a2 : Nat) : Int) - (1 : Int)))))))))) < ((List.length a2 : Nat) : Int))) (C.c27_0 ρ (⟨(rdEl lay Key.sm a2 (IntKind.wrap .i64 ((IntKind.wrap .i64 (((List.length a2 : Nat) : Int) - (1 : Int))) - (IntKind.wrap .i64 (Int.tmod (IntKind.wrap .u64 a9) (IntKind.wrap .u64 (IntKind.wrap .i64 ((1 : Int) + (IntKind.wrap .i64 (Int.tmod (IntKind.wrap .u64 a10) (IntKind.wrap .u64 (IntKind.wrap .i64 (((List.length a2 : Nat) : Int) - (1 : Int)))))))))))))).args, (rdEl lay Key.sm a2 (IntKind.wrap .i64 ((IntKind.wrap .i64 (((List.length a2 : Nat) : Int) - (1 : Int))) - (IntKind.wrap .i64 (Int.tmod (IntKind.wrap .u64 a9) (IntKind.wrap .u64 (IntKind.wrap .i64 ((1 : Int) + (IntKind.wrap .i64 (Int.tmod (IntKind.wrap .u64 a10) (IntKind.wrap .u64 (IntKind.wrap .i64 (((List.length a2 : Nat) : Int) - (1 : Int)))))))))))))).con⟩ : Sm) (⟨(rdEl lay Key.sm a2 (IntKind.wrap .i64 ((IntKind.wrap .i64 (((List.length a2 : Nat) : Int) - (1 : Int))) - (IntKind.wrap .i64 ((1 : Int) + (IntKind.wrap .i64 (Int.tmod (IntKind.wrap .u64 a10) (IntKind.wrap .u64 (IntKind.wrap .i64 (((List.length a2 : Nat) : Int) - (1 : Int))))))))))).args, (rdEl lay Key.sm a2 (IntKind.wrap .i64 ((IntKind.wrap .i64 (((List.length a2 : Nat) : Int) - (1 : Int))) - (IntKind.wrap .i64 ((1 : Int) + (IntKind.wrap .i64 (Int.tmod (IntKind.wrap .u64 a10) (IntKind.wrap .u64 (IntKind.wrap .i64 (((List.length a2 : Nat) : Int) - (1 : Int))))))))))).con⟩ : Sm) (fun (r14 : Bool) => cond (!r14) (C.c17_0 ρ (fun (r15 : Bool) => k0 r15)) (C.c28_0 ρ (1 : Int) (IntKind.wrap .i64 ((IntKind.wrap .i64 ((IntKind.wrap .i64 ((1 : Int) + (IntKind.wrap .i64 (Int.tmod (IntKind.wrap .u64 a10) (IntKind.wrap .u64 (IntKind.wrap .i64 (((List.length a2 : Nat) : Int) - (1 : Int)))))))) - (IntKind.wrap .i64 (Int.tmod (IntKind.wrap .u64 a9) (IntKind.wrap .u64 (IntKind.wrap .i64 ((1 : Int) + (IntKind.wrap .i64 (Int.tmod (IntKind.wrap .u64 a10) (IntKind.wrap .u64 (IntKind.wrap .i64 (((List.length a2 : Nat) : Int) - (1 : Int))))))))))))) - (1 : Int))) (⟨(rdEl lay Key.sm a2 (IntKind.wrap .i64 ((IntKind.wrap .i64 (((List.length a2 : Nat) : Int) - (1 : Int))) - (IntKind.wrap .i64 (Int.tmod (IntKind.wrap .u64 a9) (IntKind.wrap .u64 (IntKind.wrap .i64 ((1 : Int) + (IntKind.wrap .i64 (Int.tmod (IntKind.wrap .u64 a10) (IntKind.wrap .u64 (IntKind.wrap .i64 (((List.length a2 : Nat) : Int) - (1 : Int)))))))))))))).args, (rdEl lay Key.sm a2 (IntKind.wrap .i64 ((IntKind.wrap .i64 (((List.length a2 : Nat) : Int) - (1 : Int))) - (IntKind.wrap .i64 (Int.tmod (IntKind.wrap .u64 a9) (IntKind.wrap .u64 (IntKind.wrap .i64 ((1 : Int) + (IntKind.wrap .i64 (Int.tmod (IntKind.wrap .u64 a10) (IntKind.wrap .u64 (IntKind.wrap .i64 (((List.length a2 : Nat) : Int) - (1 : Int)))))))))))))).con⟩ : Sm) (fun (r16 : Tm) (r17 : Int) => cond (r17 != (0 : Int)) (cond (r17 == (5 : Int)) (C.c17_0 ρ (fun (r18 : Bool) => k0 r18)) (k0 false)) (C.c14_0 ρ (⟨a3, a4, a5, a6⟩ : Tm) (IntKind.wrap .i64 (Int.tmod (IntKind.wrap .u64 a9) (IntKind.wrap .u64 (IntKind.wrap .i64 ((1 : Int) + (IntKind.wrap .i64 (Int.tmod (IntKind.wrap .u64 a10) (IntKind.wrap .u64 (IntKind.wrap .i64 (((List.length a2 : Nat) : Int) - (1 : Int))))))))))) (⟨r16.op, r16.head, r16.n, r16.args⟩ : Tm) (⟨(rdEl lay Key.sm a2 (IntKind.wrap .i64 ((IntKind.wrap .i64 (((List.length a2 : Nat) : Int) - (1 : Int))) - (IntKind.wrap .i64 (Int.tmod (IntKind.wrap .u64 a9) (IntKind.wrap .u64 (IntKind.wrap .i64 ((1 : Int) + (IntKind.wrap .i64 (Int.tmod (IntKind.wrap .u64 a10) (IntKind.wrap .u64 (IntKind.wrap .i64 (((List.length a2 : Nat) : Int) - (1 : Int)))))))))))))).args, (rdEl lay Key.sm a2 (IntKind.wrap .i64 ((IntKind.wrap .i64 (((List.length a2 : Nat) : Int) - (1 : Int))) - (IntKind.wrap .i64 (Int.tmod (IntKind.wrap .u64 a9) (IntKind.wrap .u64 (IntKind.wrap .i64 ((1 : Int) + (IntKind.wrap .i64 (Int.tmod (IntKind.wrap .u64 a10) (IntKind.wrap .u64 (IntKind.wrap .i64 (((List.length a2 : Nat) : Int) - (1 : Int)))))))))))))).con⟩ : Sm) (fun (r19 : Tm) (r20 : Int) => cond (r20 != (0 : Int)) (cond (r20 == (5 : Int)) (C.c17_0 ρ (fun (r21 : Bool) => k0 r21)) (k0 false)) (C.c29_0 ρ (⟨a3, a4, a5, a6⟩ : Tm) (IntKind.wrap .i64 (Int.tmod (IntKind.wrap .u64 a9) (IntKind.wrap .u64 (IntKind.wrap .i64 ((1 : Int) + (IntKind.wrap .i64 (Int.tmod (IntKind.wrap .u64 a10) (IntKind.wrap .u64 (IntKind.wrap .i64 (((List.length a2 : Nat) : Int) - (1 : Int))))))))))) (IntKind.wrap .i64 ((IntKind.wrap .i64 ((1 : Int) + (IntKind.wrap .i64 (Int.tmod (IntKind.wrap .u64 a10) (IntKind.wrap .u64 (IntKind.wrap .i64 (((List.length a2 : Nat) : Int) - (1 : Int)))))))) - (1 : Int))) (0 : Int) (fun (r22 : Tm) => C.c26_0 ρ (⟨r19.op, r19.head, r19.n, r19.args⟩ : Tm) (⟨r22.op, r22.head, r22.n, r22.args⟩ : Tm) (fun (r23 : Bool) => cond r23 (C.c17_0 ρ (fun (r24 : Bool) => k0 r24)) (k0 false)))))))))) (none)) (none))))))

/-- truss/trusslaw04.SubstApplies -/
def Gc8_0 (C : Tab) (ρ : Type) (a1 : Tm) (a2 : List Tm) (a3 : Sm) (k0 : (Bool → Option ρ)) : Option ρ :=
  cond (decide ((List.length ([] : List Tm) + List.length a2) * 48 ≤ 140737488355328)) (C.c30_0 ρ (⟨a1.op, a1.head, a1.n, a1.args⟩ : Tm) (([] : List Tm) ++ (a2 : List Tm)) (⟨a3.args, a3.con⟩ : Sm) (fun (r4 : Tm) (r5 : Int) => C.c31_0 ρ (⟨a1.op, a1.head, a1.n, a1.args⟩ : Tm) a2 (⟨a3.args, a3.con⟩ : Sm) (fun (r6 : Tm) (r7 : Int) => C.c16_0 ρ (⟨r4.op, r4.head, r4.n, r4.args⟩ : Tm) r5 (⟨r6.op, r6.head, r6.n, r6.args⟩ : Tm) r7 (fun (r8 : Bool) => cond r8 (C.c17_0 ρ (fun (r9 : Bool) => k0 r9)) (k0 false))))) (none)

/-- truss/trusslaw04.SubstManies -/
def Gc9_0 (C : Tab) (ρ : Type) (a1 : Tm) (a2 : List Tm) (a3 : List Sm) (k0 : (Bool → Option ρ)) : Option ρ :=
  cond (decide ((List.length ([] : List Tm) + List.length a2) * 48 ≤ 140737488355328)) (cond (decide ((List.length ([] : List Sm) + List.length a3) * 32 ≤ 140737488355328)) (C.c32_0 ρ (⟨a1.op, a1.head, a1.n, a1.args⟩ : Tm) (([] : List Tm) ++ (a2 : List Tm)) (([] : List Sm) ++ (a3 : List Sm)) (fun (r4 : Tm) (r5 : Int) => C.c33_0 ρ (⟨a1.op, a1.head, a1.n, a1.args⟩ : Tm) a2 a3 (fun (r6 : Tm) (r7 : Int) => C.c16_0 ρ (⟨r4.op, r4.head, r4.n, r4.args⟩ : Tm) r5 (⟨r6.op, r6.head, r6.n, r6.args⟩ : Tm) r7 (fun (r8 : Bool) => cond r8 (C.c17_0 ρ (fun (r9 : Bool) => k0 r9)) (k0 false))))) (none)) (none)

/-- truss/trusslaw04.SubstLongs -/
def Gc10_0 (C : Tab) (ρ : Type) (a1 : Int) (a2 : Int) (a3 : Sm) (k0 : (Bool → Option ρ)) : Option ρ :=
  C.c28_0 ρ a1 a2 (⟨a3.args, a3.con⟩ : Sm) (fun (r4 : Tm) (r5 : Int) => C.c34_0 ρ a1 a2 (⟨a3.args, a3.con⟩ : Sm) (fun (r6 : Tm) (r7 : Int) => C.c16_0 ρ (⟨r4.op, r4.head, r4.n, r4.args⟩ : Tm) r5 (⟨r6.op, r6.head, r6.n, r6.args⟩ : Tm) r7 (fun (r8 : Bool) => cond (!r8) (k0 false) (cond (r7 != (0 : Int)) (C.c17_0 ρ (fun (r9 : Bool) => k0 r9)) (C.c35_0 ρ (⟨r4.op, r4.head, r4.n, r4.args⟩ : Tm) (fun (r10 : Int) (r11 : Int) (r12 : Int) => cond (r12 == (0 : Int)) (cond (r10 == a1) (cond (r11 == a2) (C.c17_0 ρ (fun (r13 : Bool) => k0 r13)) (k0 false)) (k0 false)) (k0 false)))))))

/-- truss/trusslaw04.SubstShorts -/
def Gc11_0 (C : Tab) (ρ : Type) (a1 : Tm) (k0 : (Bool → Option ρ)) : Option ρ :=
  C.c35_0 ρ (⟨a1.op, a1.head, a1.n, a1.args⟩ : Tm) (fun (r2 : Int) (r3 : Int) (r4 : Int) => C.c18_0 ρ (⟨a1.op, a1.head, a1.n, a1.args⟩ : Tm) (fun (r5 : Bool) => cond (!r5) (cond (r2 == (0 : Int)) (cond (r3 == (0 : Int)) (cond (r4 == (2 : Int)) (C.c17_0 ρ (fun (r6 : Bool) => k0 r6)) (k0 false)) (k0 false)) (k0 false)) (C.c36_0 ρ (⟨a1.op, a1.head, a1.n, a1.args⟩ : Tm) (fun (r7 : Int) (r8 : Int) (r9 : Bool) => cond (!r9) (cond (r2 == (0 : Int)) (cond (r3 == (0 : Int)) (cond (r4 == (6 : Int)) (C.c17_0 ρ (fun (r10 : Bool) => k0 r10)) (k0 false)) (k0 false)) (k0 false)) (cond (r2 == r7) (cond (r3 == r8) (cond (r4 == (0 : Int)) (C.c17_0 ρ (fun (r11 : Bool) => k0 r11)) (k0 false)) (k0 false)) (k0 false))))))

/-- truss/trusslaw04.SubstInstances -/
def Gc12_0 (C : Tab) (ρ : Type) (a1 : Tm) (a2 : List Tm) (k0 : (Bool → Option ρ)) : Option ρ :=
  cond (decide ((List.length ([] : List Tm) + List.length a2) * 48 ≤ 140737488355328)) (C.c37_0 ρ (⟨a1.op, a1.head, a1.n, a1.args⟩ : Tm) (([] : List Tm) ++ (a2 : List Tm)) (fun (r3 : Tm) (r4 : Int) => C.c38_0 ρ (⟨a1.op, a1.head, a1.n, a1.args⟩ : Tm) a2 (fun (r5 : Tm) (r6 : Int) => C.c16_0 ρ (⟨r3.op, r3.head, r3.n, r3.args⟩ : Tm) r4 (⟨r5.op, r5.head, r5.n, r5.args⟩ : Tm) r6 (fun (r7 : Bool) => cond r7 (C.c17_0 ρ (fun (r8 : Bool) => k0 r8)) (k0 false))))) (none)

/-- truss/trusslaw04.SubstSteps -/
def Gc13_0 (C : Tab) (ρ : Type) (a1 : Tm) (a2 : List Tm) (a3 : Sm) (k0 : (Bool → Option ρ)) : Option ρ :=
  cond (((List.length a2 : Nat) : Int) == (0 : Int)) (C.c17_0 ρ (fun (r4 : Bool) => k0 r4)) (cond (decide (((List.length a2 : Nat) : Int) > (600 : Int))) (C.c17_0 ρ (fun (r5 : Bool) => k0 r5)) (C.c18_0 ρ (⟨a1.op, a1.head, a1.n, a1.args⟩ : Tm) (fun (r6 : Bool) => cond (!r6) (C.c17_0 ρ (fun (r7 : Bool) => k0 r7)) (C.l13_4_0 ρ a2 ((List.length a2 : Nat) : Int) (0 : Int) (⟨a1.op, a1.head, a1.n, a1.args⟩ : Tm) (⟨a3.args, a3.con⟩ : Sm) (fun (r8 : List Tm) (r9 : Tm) (r10 : Sm) => cond (decide ((0 : Int) ≤ (0 : Int)) && decide ((0 : Int) < ((List.length r8 : Nat) : Int))) (C.c37_0 ρ (⟨r9.op, r9.head, r9.n, r9.args⟩ : Tm) [(⟨(rdEl lay Key.tm r8 (0 : Int)).op, (rdEl lay Key.tm r8 (0 : Int)).head, (rdEl lay Key.tm r8 (0 : Int)).n, (rdEl lay Key.tm r8 (0 : Int)).args⟩ : Tm)] (fun (r11 : Tm) (r12 : Int) => cond (decide ((List.length ([] : List Tm) + List.length r8) * 48 ≤ 140737488355328)) (C.c37_0 ρ (⟨r9.op, r9.head, r9.n, r9.args⟩ : Tm) (([] : List Tm) ++ (r8 : List Tm)) (fun (r13 : Tm) (r14 : Int) => cond (r12 != (0 : Int)) (cond (r14 == r12) (C.c17_0 ρ (fun (r15 : Bool) => k0 r15)) (k0 false)) (cond (decide ((0 : Int) ≤ (1 : Int)) && (decide ((1 : Int) ≤ ((List.length r8 : Nat) : Int)) && decide (((List.length r8 : Nat) : Int) ≤ ((List.length r8 : Nat) : Int)))) (cond (decide ((List.length ([] : List Tm) + List.length (List.drop (Int.toNat (1 : Int)) (List.take (Int.toNat ((List.length r8 : Nat) : Int)) r8))) * 48 ≤ 140737488355328)) (C.c37_0 ρ (⟨r11.op, r11.head, r11.n, r11.args⟩ : Tm) (([] : List Tm) ++ ((List.drop (Int.toNat (1 : Int)) (List.take (Int.toNat ((List.length r8 : Nat) : Int)) r8)) : List Tm)) (fun (r16 : Tm) (r17 : Int) => cond (r17 == (0 : Int)) (cond (r14 != (0 : Int)) (cond (r14 != (5 : Int)) (k0 false) (cond (r14 == (0 : Int)) (C.c26_0 ρ (⟨r13.op, r13.head, r13.n, r13.args⟩ : Tm) (⟨r16.op, r16.head, r16.n, r16.args⟩ : Tm) (fun (r18 : Bool) => cond (!r18) (k0 false) (cond (decide ((0 : Int) ≤ (0 : Int)) && decide ((0 : Int) < ((List.length r8 : Nat) : Int))) (C.c32_0 ρ (⟨r9.op, r9.head, r9.n, r9.args⟩ : Tm) [(⟨(rdEl lay Key.tm r8 (0 : Int)).op, (rdEl lay Key.tm r8 (0 : Int)).head, (rdEl lay Key.tm r8 (0 : Int)).n, (rdEl lay Key.tm r8 (0 : Int)).args⟩ : Tm)] [(⟨r10.args, r10.con⟩ : Sm)] (fun (r19 : Tm) (r20 : Int) => cond (decide ((0 : Int) ≤ (0 : Int)) && decide ((0 : Int) < ((List.length r8 : Nat) : Int))) (C.c14_0 ρ (⟨r9.op, r9.head, r9.n, r9.args⟩ : Tm) (0 : Int) (⟨(rdEl lay Key.tm r8 (0 : Int)).op, (rdEl lay Key.tm r8 (0 : Int)).head, (rdEl lay Key.tm r8 (0 : Int)).n, (rdEl lay Key.tm r8 (0 : Int)).args⟩ : Tm) (⟨r10.args, r10.con⟩ : Sm) (fun (r21 : Tm) (r22 : Int) => cond (r20 == r22) (C.c26_0 ρ (⟨r19.op, r19.head, r19.n, r19.args⟩ : Tm) (⟨r21.op, r21.head, r21.n, r21.args⟩ : Tm) (fun (r23 : Bool) => cond r23 (C.c17_0 ρ (fun (r24 : Bool) => k0 r24)) (k0 false))) (k0 false))) (none))) (none)))) (cond (decide ((0 : Int) ≤ (0 : Int)) && decide ((0 : Int) < ((List.length r8 : Nat) : Int))) (C.c32_0 ρ (⟨r9.op, r9.head, r9.n, r9.args⟩ : Tm) [(⟨(rdEl lay Key.tm r8 (0 : Int)).op, (rdEl lay Key.tm r8 (0 : Int)).head, (rdEl lay Key.tm r8 (0 : Int)).n, (rdEl lay Key.tm r8 (0 : Int)).args⟩ : Tm)] [(⟨r10.args, r10.con⟩ : Sm)] (fun (r25 : Tm) (r26 : Int) => cond (decide ((0 : Int) ≤ (0 : Int)) && decide ((0 : Int) < ((List.length r8 : Nat) : Int))) (C.c14_0 ρ (⟨r9.op, r9.head, r9.n, r9.args⟩ : Tm) (0 : Int) (⟨(rdEl lay Key.tm r8 (0 : Int)).op, (rdEl lay Key.tm r8 (0 : Int)).head, (rdEl lay Key.tm r8 (0 : Int)).n, (rdEl lay Key.tm r8 (0 : Int)).args⟩ : Tm) (⟨r10.args, r10.con⟩ : Sm) (fun (r27 : Tm) (r28 : Int) => cond (r26 == r28) (C.c26_0 ρ (⟨r25.op, r25.head, r25.n, r25.args⟩ : Tm) (⟨r27.op, r27.head, r27.n, r27.args⟩ : Tm) (fun (r29 : Bool) => cond r29 (C.c17_0 ρ (fun (r30 : Bool) => k0 r30)) (k0 false))) (k0 false))) (none))) (none)))) (cond (r14 == (0 : Int)) (C.c26_0 ρ (⟨r13.op, r13.head, r13.n, r13.args⟩ : Tm) (⟨r16.op, r16.head, r16.n, r16.args⟩ : Tm) (fun (r31 : Bool) => cond (!r31) (k0 false) (cond (decide ((0 : Int) ≤ (0 : Int)) && decide ((0 : Int) < ((List.length r8 : Nat) : Int))) (C.c32_0 ρ (⟨r9.op, r9.head, r9.n, r9.args⟩ : Tm) [(⟨(rdEl lay Key.tm r8 (0 : Int)).op, (rdEl lay Key.tm r8 (0 : Int)).head, (rdEl lay Key.tm r8 (0 : Int)).n, (rdEl lay Key.tm r8 (0 : Int)).args⟩ : Tm)] [(⟨r10.args, r10.con⟩ : Sm)] (fun (r32 : Tm) (r33 : Int) => cond (decide ((0 : Int) ≤ (0 : Int)) && decide ((0 : Int) < ((List.length r8 : Nat) : Int))) (C.c14_0 ρ (⟨r9.op, r9.head, r9.n, r9.args⟩ : Tm) (0 : Int) (⟨(rdEl lay Key.tm r8 (0 : Int)).op, (rdEl lay Key.tm r8 (0 : Int)).head, (rdEl lay Key.tm r8 (0 : Int)).n, (rdEl lay Key.tm r8 (0 : Int)).args⟩ : Tm) (⟨r10.args, r10.con⟩ : Sm) (fun (r34 : Tm) (r35 : Int) => cond (r33 == r35) (C.c26_0 ρ (⟨r32.op, r32.head, r32.n, r32.args⟩ : Tm) (⟨r34.op, r34.head, r34.n, r34.args⟩ : Tm) (fun (r36 : Bool) => cond r36 (C.c17_0 ρ (fun (r37 : Bool) => k0 r37)) (k0 false))) (k0 false))) (none))) (none)))) (cond (decide ((0 : Int) ≤ (0 : Int)) && decide ((0 : Int) < ((List.length r8 : Nat) : Int))) (C.c32_0 ρ (⟨r9.op, r9.head, r9.n, r9.args⟩ : Tm) [(⟨(rdEl lay Key.tm r8 (0 : Int)).op, (rdEl lay Key.tm r8 (0 : Int)).head, (rdEl lay Key.tm r8 (0 : Int)).n, (rdEl lay Key.tm r8 (0 : Int)).args⟩ : Tm)] [(⟨r10.args, r10.con⟩ : Sm)] (fun (r38 : Tm) (r39 : Int) => cond (decide ((0 : Int) ≤ (0 : Int)) && decide ((0 : Int) < ((List.length r8 : Nat) : Int))) (C.c14_0 ρ (⟨r9.op, r9.head, r9.n, r9.args⟩ : Tm) (0 : Int) (⟨(rdEl lay Key.tm r8 (0 : Int)).op, (rdEl lay Key.tm r8 (0 : Int)).head, (rdEl lay Key.tm r8 (0 : Int)).n, (rdEl lay Key.tm r8 (0 : Int)).args⟩ : Tm) (⟨r10.args, r10.con⟩ : Sm) (fun (r40 : Tm) (r41 : Int) => cond (r39 == r41) (C.c26_0 ρ (⟨r38.op, r38.head, r38.n, r38.args⟩ : Tm) (⟨r40.op, r40.head, r40.n, r40.args⟩ : Tm) (fun (r42 : Bool) => cond r42 (C.c17_0 ρ (fun (r43 : Bool) => k0 r43)) (k0 false))) (k0 false))) (none))) (none)))) (cond (decide ((0 : Int) ≤ (0 : Int)) && decide ((0 : Int) < ((List.length r8 : Nat) : Int))) (C.c32_0 ρ (⟨r9.op, r9.head, r9.n, r9.args⟩ : Tm) [(⟨(rdEl lay Key.tm r8 (0 : Int)).op, (rdEl lay Key.tm r8 (0 : Int)).head, (rdEl lay Key.tm r8 (0 : Int)).n, (rdEl lay Key.tm r8 (0 : Int)).args⟩ : Tm)] [(⟨r10.args, r10.con⟩ : Sm)] (fun (r44 : Tm) (r45 : Int) => cond (decide ((0 : Int) ≤ (0 : Int)) && decide ((0 : Int) < ((List.length r8 : Nat) : Int))) (C.c14_0 ρ (⟨r9.op, r9.head, r9.n, r9.args⟩ : Tm) (0 : Int) (⟨(rdEl lay Key.tm r8 (0 : Int)).op, (rdEl lay Key.tm r8 (0 : Int)).head, (rdEl lay Key.tm r8 (0 : Int)).n, (rdEl lay Key.tm r8 (0 : Int)).args⟩ : Tm) (⟨r10.args, r10.con⟩ : Sm) (fun (r46 : Tm) (r47 : Int) => cond (r45 == r47) (C.c26_0 ρ (⟨r44.op, r44.head, r44.n, r44.args⟩ : Tm) (⟨r46.op, r46.head, r46.n, r46.args⟩ : Tm) (fun (r48 : Bool) => cond r48 (C.c17_0 ρ (fun (r49 : Bool) => k0 r49)) (k0 false))) (k0 false))) (none))) (none)))) (none)) (none)))) (none))) (none)) (fun (r50 : Bool) => k0 r50)))))

/-- truss/subst.Subst -/
def Gc14_0 (C : Tab) (ρ : Type) (a1 : Tm) (a2 : Int) (a3 : Tm) (a4 : Sm) (k0 : (Tm → Int → Option ρ)) : Option ρ :=
  C.c39_0 ρ [(⟨a1.op, a1.head, a1.n, a1.args⟩ : Tm), (⟨a3.op, a3.head, a3.n, a3.args⟩ : Tm)] [(⟨a4.args, a4.con⟩ : Sm)] [a2] (fun (r5 : Bool) => cond (!r5) (k0 (⟨(0 : Int), (0 : Int), (0 : Int), []⟩ : Tm) (2 : Int)) (C.c41_0 ρ (⟨a1.op, a1.head, a1.n, a1.args⟩ : Tm) a2 (⟨a3.op, a3.head, a3.n, a3.args⟩ : Tm) (⟨a4.args, a4.con⟩ : Sm) (0 : Int) (fun (r6 : Int) (r7 : Int) => k0 (⟨(0 : Int), (0 : Int), (0 : Int), []⟩ : Tm) r6) (fun (r8 : Tm) (r9 : Int) => k0 (⟨r8.op, r8.head, r8.n, r8.args⟩ : Tm) (0 : Int))))

/-- truss/trussref04.Subst -/
def Gc15_0 (C : Tab) (ρ : Type) (a1 : Tm) (a2 : Int) (a3 : Tm) (a4 : Sm) (k0 : (Tm → Int → Option ρ)) : Option ρ :=
  C.c18_0 ρ (⟨a1.op, a1.head, a1.n, a1.args⟩ : Tm) (fun (r5 : Bool) => cond (!r5) (k0 (⟨(0 : Int), (0 : Int), (0 : Int), []⟩ : Tm) (2 : Int)) (C.c42_0 ρ a2 (fun (r6 : Bool) => cond (!r6) (k0 (⟨(0 : Int), (0 : Int), (0 : Int), []⟩ : Tm) (2 : Int)) (C.c18_0 ρ (⟨a3.op, a3.head, a3.n, a3.args⟩ : Tm) (fun (r7 : Bool) => cond (!r7) (k0 (⟨(0 : Int), (0 : Int), (0 : Int), []⟩ : Tm) (2 : Int)) (C.c19_0 ρ (⟨a4.args, a4.con⟩ : Sm) (fun (r8 : Bool) => cond (!r8) (k0 (⟨(0 : Int), (0 : Int), (0 : Int), []⟩ : Tm) (2 : Int)) (C.c43_0 ρ (⟨a1.op, a1.head, a1.n, a1.args⟩ : Tm) a2 (⟨a3.op, a3.head, a3.n, a3.args⟩ : Tm) (⟨a4.args, a4.con⟩ : Sm) (0 : Int) (fun (r9 : Tm) (r10 : Int) (r11 : Int) => k0 (⟨r9.op, r9.head, r9.n, r9.args⟩ : Tm) r10)))))))))

/-- truss/trusslaw04.gives -/
def Gc16_0 (C : Tab) (ρ : Type) (a1 : Tm) (a2 : Int) (a3 : Tm) (a4 : Int) (k0 : (Bool → Option ρ)) : Option ρ :=
  C.c26_0 ρ (⟨a1.op, a1.head, a1.n, a1.args⟩ : Tm) (⟨a3.op, a3.head, a3.n, a3.args⟩ : Tm) (fun (r5 : Bool) => cond r5 (k0 (a2 == a4)) (k0 false))

/-- truss/trusslaw04.awake -/
def Gc17_0 (C : Tab) (ρ : Type) (k0 : (Bool → Option ρ)) : Option ρ :=
  C.c45_0 ρ (1 : Int) ([] : List Tm) (fun (r1 : Tm) => C.c44_0 ρ (0 : Int) [(⟨r1.op, r1.head, r1.n, r1.args⟩ : Tm)] (fun (r2 : Tm) => C.c44_0 ρ (0 : Int) ([] : List Tm) (fun (r3 : Tm) => C.c45_0 ρ (2 : Int) [(⟨r3.op, r3.head, r3.n, r3.args⟩ : Tm)] (fun (r4 : Tm) => C.c46_0 ρ (⟨r4.op, r4.head, r4.n, r4.args⟩ : Tm) (fun (r5 : Tm) => C.c14_0 ρ (⟨r2.op, r2.head, r2.n, r2.args⟩ : Tm) (0 : Int) (⟨r5.op, r5.head, r5.n, r5.args⟩ : Tm) (⟨[(⟨[], (0 : Int)⟩ : Sm)], (0 : Int)⟩ : Sm) (fun (r6 : Tm) (r7 : Int) => C.c28_0 ρ (1 : Int) (0 : Int) (⟨[(⟨[(⟨[], (0 : Int)⟩ : Sm)], (0 : Int)⟩ : Sm)], (0 : Int)⟩ : Sm) (fun (r8 : Tm) (r9 : Int) => C.c45_0 ρ (1 : Int) ([] : List Tm) (fun (r10 : Tm) => C.c45_0 ρ (2 : Int) [(⟨r10.op, r10.head, r10.n, r10.args⟩ : Tm)] (fun (r11 : Tm) => C.c16_0 ρ (⟨r6.op, r6.head, r6.n, r6.args⟩ : Tm) r7 (⟨r11.op, r11.head, r11.n, r11.args⟩ : Tm) (0 : Int) (fun (r12 : Bool) => cond r12 (C.c44_0 ρ (0 : Int) ([] : List Tm) (fun (r13 : Tm) => C.c44_0 ρ (1 : Int) [(⟨r13.op, r13.head, r13.n, r13.args⟩ : Tm)] (fun (r14 : Tm) => C.c46_0 ρ (⟨r14.op, r14.head, r14.n, r14.args⟩ : Tm) (fun (r15 : Tm) => C.c44_0 ρ (1 : Int) [(⟨r15.op, r15.head, r15.n, r15.args⟩ : Tm)] (fun (r16 : Tm) => C.c46_0 ρ (⟨r16.op, r16.head, r16.n, r16.args⟩ : Tm) (fun (r17 : Tm) => C.c16_0 ρ (⟨r8.op, r8.head, r8.n, r8.args⟩ : Tm) r9 (⟨r17.op, r17.head, r17.n, r17.args⟩ : Tm) (0 : Int) (fun (r18 : Bool) => k0 r18))))))) (k0 false)))))))))))

/-- truss/trussref03.Proper -/
def Gc18_0 (C : Tab) (ρ : Type) (a1 : Tm) (k0 : (Bool → Option ρ)) : Option ρ :=
  C.c47_0 ρ (⟨a1.op, a1.head, a1.n, a1.args⟩ : Tm) (600 : Int) (fun (r2 : Int) => cond (decide (r2 ≤ (600 : Int))) (C.c48_0 ρ (⟨a1.op, a1.head, a1.n, a1.args⟩ : Tm) (1 : Int) (fun (r3 : Bool) => k0 r3)) (k0 false))

/-- truss/trussref04.Small -/
def Gc19_0 (C : Tab) (ρ : Type) (a1 : Sm) (k0 : (Bool → Option ρ)) : Option ρ :=
  C.c49_0 ρ (⟨a1.args, a1.con⟩ : Sm) (600 : Int) (fun (r2 : Int) => cond (decide (r2 ≥ (1 : Int))) (k0 (decide (r2 ≤ (600 : Int)))) (k0 false))

/-- truss/trussref03.Occurs -/
def Gc20_0 (C : Tab) (ρ : Type) (a1 : Tm) (a2 : Int) (k0 : (Bool → Option ρ)) : Option ρ :=
  cond (decide (a2 ≥ (0 : Int))) (C.c50_0 ρ (⟨a1.op, a1.head, a1.n, a1.args⟩ : Tm) a2 a2 (fun (r3 : Bool) => k0 r3)) (k0 false)

/-- truss/trussref03.Shift -/
def Gc21_0 (C : Tab) (ρ : Type) (a1 : Tm) (a2 : Int) (a3 : Int) (k0 : (Tm → Int → Option ρ)) : Option ρ :=
  C.c18_0 ρ (⟨a1.op, a1.head, a1.n, a1.args⟩ : Tm) (fun (r4 : Bool) => cond (!r4) (k0 (⟨(0 : Int), (0 : Int), (0 : Int), []⟩ : Tm) (2 : Int)) (cond (decide (a2 < (-9999 : Int))) (k0 (⟨(0 : Int), (0 : Int), (0 : Int), []⟩ : Tm) (2 : Int)) (cond (decide (a2 > (9999 : Int))) (k0 (⟨(0 : Int), (0 : Int), (0 : Int), []⟩ : Tm) (2 : Int)) (cond (decide (a3 < (0 : Int))) (k0 (⟨(0 : Int), (0 : Int), (0 : Int), []⟩ : Tm) (2 : Int)) (cond (decide (a3 > (9999 : Int))) (k0 (⟨(0 : Int), (0 : Int), (0 : Int), []⟩ : Tm) (2 : Int)) (cond (decide (a2 < (0 : Int))) (C.c50_0 ρ (⟨a1.op, a1.head, a1.n, a1.args⟩ : Tm) a3 (IntKind.wrap .i64 ((IntKind.wrap .i64 (a3 - a2)) - (1 : Int))) (fun (r5 : Bool) => cond r5 (k0 (⟨(0 : Int), (0 : Int), (0 : Int), []⟩ : Tm) (27 : Int)) (C.c51_0 ρ (⟨a1.op, a1.head, a1.n, a1.args⟩ : Tm) a2 a3 (fun (r6 : Tm) => C.c18_0 ρ (⟨r6.op, r6.head, r6.n, r6.args⟩ : Tm) (fun (r7 : Bool) => cond (!r7) (k0 (⟨(0 : Int), (0 : Int), (0 : Int), []⟩ : Tm) (5 : Int)) (k0 (⟨r6.op, r6.head, r6.n, r6.args⟩ : Tm) (0 : Int))))))) (C.c51_0 ρ (⟨a1.op, a1.head, a1.n, a1.args⟩ : Tm) a2 a3 (fun (r8 : Tm) => C.c18_0 ρ (⟨r8.op, r8.head, r8.n, r8.args⟩ : Tm) (fun (r9 : Bool) => cond (!r9) (k0 (⟨(0 : Int), (0 : Int), (0 : Int), []⟩ : Tm) (5 : Int)) (k0 (⟨r8.op, r8.head, r8.n, r8.args⟩ : Tm) (0 : Int)))))))))))

/-- truss/trusslaw04.right -/
def Gc22_0 (C : Tab) (ρ : Type) (a1 : List Sm) (a2 : List Sm) (a3 : Int) (a4 : Int) (a5 : Int) (a6 : List Tm) (a7 : List Sm) (a8 : Int) (k0 : (Bool → Option ρ)) : Option ρ :=
  cond (decide (((List.length a1 : Nat) : Int) > (20 : Int))) (k0 false) (cond (decide (((List.length a2 : Nat) : Int) > (20 : Int))) (k0 false) (C.c18_0 ρ (⟨a3, a4, a5, a6⟩ : Tm) (fun (r9 : Bool) => cond (!r9) (k0 false) (C.c19_0 ρ (⟨a7, a8⟩ : Sm) (fun (r10 : Bool) => cond (!r10) (k0 false) (C.l22_4_0 ρ a1 ((List.length a1 : Nat) : Int) (0 : Int) a1 a2 a3 a4 a5 a6 a7 a8 (fun (r11 : Bool) => k0 r11) (fun (r12 : List Sm) (r13 : List Sm) (r14 : Int) (r15 : Int) (r16 : Int) (r17 : List Tm) (r18 : List Sm) (r19 : Int) => C.l22_10_0 ρ r13 ((List.length r13 : Nat) : Int) (0 : Int) r12 r13 r14 r15 r16 r17 r18 r19 (fun (r20 : Bool) => k0 r20) (fun (r21 : List Sm) (r22 : List Sm) (r23 : Int) (r24 : Int) (r25 : Int) (r26 : List Tm) (r27 : List Sm) (r28 : Int) => C.c23_0 ρ r21 r22 (⟨r23, r24, r25, r26⟩ : Tm) (⟨r27, r28⟩ : Sm) (fun (r29 : Bool) => k0 r29)))))))))

/-- truss/trusslaw04.fits -/
def Gc23_0 (C : Tab) (ρ : Type) (a1 : List Sm) (a2 : List Sm) (a3 : Tm) (a4 : Sm) (k0 : (Bool → Option ρ)) : Option ρ :=
  C.l23_2_0 ρ a1 a2 a4.args ((List.length a4.args : Nat) : Int) (0 : Int) (⟨a3.op, a3.head, a3.n, a3.args⟩ : Tm) (⟨a4.args, a4.con⟩ : Sm) (fun (r5 : Bool) => k0 r5) (fun (r6 : List Sm) (r7 : List Sm) (r8 : Tm) (r9 : Sm) => cond (r8.op != (4 : Int)) (k0 false) (cond (decide (r8.n < (0 : Int))) (k0 false) (cond (r8.head == (1 : Int)) (cond (decide (r8.n < ((List.length r7 : Nat) : Int))) (cond (decide ((0 : Int) ≤ (IntKind.wrap .i64 ((IntKind.wrap .i64 (((List.length r7 : Nat) : Int) - (1 : Int))) - r8.n))) && decide ((IntKind.wrap .i64 ((IntKind.wrap .i64 (((List.length r7 : Nat) : Int) - (1 : Int))) - r8.n)) < ((List.length r7 : Nat) : Int))) (cond ((rdEl lay Key.sm r7 (IntKind.wrap .i64 ((IntKind.wrap .i64 (((List.length r7 : Nat) : Int) - (1 : Int))) - r8.n))).con != r9.con) (k0 false) (cond (((List.length ((rdEl lay Key.sm r7 (IntKind.wrap .i64 ((IntKind.wrap .i64 (((List.length r7 : Nat) : Int) - (1 : Int))) - r8.n))).args) : Nat) : Int) != ((List.length r8.args : Nat) : Int)) (k0 false) (C.l23_23_0 ρ r6 r7 ((List.length r8.args : Nat) : Int) (0 : Int) (⟨r8.op, r8.head, r8.n, r8.args⟩ : Tm) (⟨r9.args, r9.con⟩ : Sm) (⟨(rdEl lay Key.sm r7 (IntKind.wrap .i64 ((IntKind.wrap .i64 (((List.length r7 : Nat) : Int) - (1 : Int))) - r8.n))).args, (rdEl lay Key.sm r7 (IntKind.wrap .i64 ((IntKind.wrap .i64 (((List.length r7 : Nat) : Int) - (1 : Int))) - r8.n))).con⟩ : Sm) (fun (r10 : Bool) => k0 r10) (k0 true)))) (none)) (cond (r8.head == (2 : Int)) (cond (decide (r8.n < ((List.length r6 : Nat) : Int))) (cond (decide ((0 : Int) ≤ r8.n) && decide (r8.n < ((List.length r6 : Nat) : Int))) (cond ((rdEl lay Key.sm r6 r8.n).con != r9.con) (k0 false) (cond (((List.length ((rdEl lay Key.sm r6 r8.n).args) : Nat) : Int) != ((List.length r8.args : Nat) : Int)) (k0 false) (C.l23_23_0 ρ r6 r7 ((List.length r8.args : Nat) : Int) (0 : Int) (⟨r8.op, r8.head, r8.n, r8.args⟩ : Tm) (⟨r9.args, r9.con⟩ : Sm) (⟨(rdEl lay Key.sm r6 r8.n).args, (rdEl lay Key.sm r6 r8.n).con⟩ : Sm) (fun (r11 : Bool) => k0 r11) (k0 true)))) (none)) (k0 false)) (k0 false))) (cond (r8.head == (2 : Int)) (cond (decide (r8.n < ((List.length r6 : Nat) : Int))) (cond (decide ((0 : Int) ≤ r8.n) && decide (r8.n < ((List.length r6 : Nat) : Int))) (cond ((rdEl lay Key.sm r6 r8.n).con != r9.con) (k0 false) (cond (((List.length ((rdEl lay Key.sm r6 r8.n).args) : Nat) : Int) != ((List.length r8.args : Nat) : Int)) (k0 false) (C.l23_23_0 ρ r6 r7 ((List.length r8.args : Nat) : Int) (0 : Int) (⟨r8.op, r8.head, r8.n, r8.args⟩ : Tm) (⟨r9.args, r9.con⟩ : Sm) (⟨(rdEl lay Key.sm r6 r8.n).args, (rdEl lay Key.sm r6 r8.n).con⟩ : Sm) (fun (r12 : Bool) => k0 r12) (k0 true)))) (none)) (k0 false)) (k0 false)))))

/-- truss/trusslaw04.before -/
def Gc24_0 (C : Tab) (ρ : Type) (a1 : List Sm) (a2 : Int) (k0 : ((List Sm) → Option ρ)) : Option ρ :=
  cond (decide ((0 : Int) ≤ (0 : Int)) && (decide ((0 : Int) ≤ (IntKind.wrap .i64 ((IntKind.wrap .i64 (((List.length a1 : Nat) : Int) - (1 : Int))) - a2))) && decide ((IntKind.wrap .i64 ((IntKind.wrap .i64 (((List.length a1 : Nat) : Int) - (1 : Int))) - a2)) ≤ ((List.length a1 : Nat) : Int)))) (k0 (List.drop (Int.toNat (0 : Int)) (List.take (Int.toNat (IntKind.wrap .i64 ((IntKind.wrap .i64 (((List.length a1 : Nat) : Int) - (1 : Int))) - a2))) a1))) (none)

/-- truss/trusslaw04.without -/
def Gc25_0 (C : Tab) (ρ : Type) (a1 : List Sm) (a2 : Int) (k0 : ((List Sm) → Option ρ)) : Option ρ :=
  cond (decide ((0 : Int) ≤ (0 : Int)) && (decide ((0 : Int) ≤ (IntKind.wrap .i64 ((IntKind.wrap .i64 (((List.length a1 : Nat) : Int) - (1 : Int))) - a2))) && decide ((IntKind.wrap .i64 ((IntKind.wrap .i64 (((List.length a1 : Nat) : Int) - (1 : Int))) - a2)) ≤ ((List.length a1 : Nat) : Int)))) (cond (decide ((List.length ([] : List Sm) + List.length (List.drop (Int.toNat (0 : Int)) (List.take (Int.toNat (IntKind.wrap .i64 ((IntKind.wrap .i64 (((List.length a1 : Nat) : Int) - (1 : Int))) - a2))) a1))) * 32 ≤ 140737488355328)) (cond (decide ((0 : Int) ≤ (IntKind.wrap .i64 ((IntKind.wrap .i64 ((IntKind.wrap .i64 (((List.length a1 : Nat) : Int) - (1 : Int))) - a2)) + (1 : Int)))) && (decide ((IntKind.wrap .i64 ((IntKind.wrap .i64 ((IntKind.wrap .i64 (((List.length a1 : Nat) : Int) - (1 : Int))) - a2)) + (1 : Int))) ≤ ((List.length a1 : Nat) : Int)) && decide (((List.length a1 : Nat) : Int) ≤ ((List.length a1 : Nat) : Int)))) (cond (decide ((List.length (([] : List Sm) ++ ((List.drop (Int.toNat (0 : Int)) (List.take (Int.toNat (IntKind.wrap .i64 ((IntKind.wrap .i64 (((List.length a1 : Nat) : Int) - (1 : Int))) - a2))) a1)) : List Sm)) + List.length (List.drop (Int.toNat (IntKind.wrap .i64 ((IntKind.wrap .i64 ((IntKind.wrap .i64 (((List.length a1 : Nat) : Int) - (1 : Int))) - a2)) + (1 : Int)))) (List.take (Int.toNat ((List.length a1 : Nat) : Int)) a1))) * 32 ≤ 140737488355328)) (k0 (((([] : List Sm) ++ ((List.drop (Int.toNat (0 : Int)) (List.take (Int.toNat (IntKind.wrap .i64 ((IntKind.wrap .i64 (((List.length a1 : Nat) : Int) - (1 : Int))) - a2))) a1)) : List Sm)) : List Sm) ++ ((List.drop (Int.toNat (IntKind.wrap .i64 ((IntKind.wrap .i64 ((IntKind.wrap .i64 (((List.length a1 : Nat) : Int) - (1 : Int))) - a2)) + (1 : Int)))) (List.take (Int.toNat ((List.length a1 : Nat) : Int)) a1)) : List Sm))) (none)) (none)) (none)) (none)

/-- truss/trussref03.Same -/
def Gc26_0 (C : Tab) (ρ : Type) (a1 : Tm) (a2 : Tm) (k0 : (Bool → Option ρ)) : Option ρ :=
  cond (a1.op != a2.op) (k0 false) (cond (a1.head != a2.head) (k0 false) (cond (a1.n != a2.n) (k0 false) (cond (((List.length a1.args : Nat) : Int) != ((List.length a2.args : Nat) : Int)) (k0 false) (C.l26_4_0 ρ (0 : Int) (⟨a1.op, a1.head, a1.n, a1.args⟩ : Tm) (⟨a2.op, a2.head, a2.n, a2.args⟩ : Tm) (fun (r3 : Bool) => k0 r3) (k0 true)))))

/-- truss/trussref03.SameSimple -/
def Gc27_0 (C : Tab) (ρ : Type) (a1 : Sm) (a2 : Sm) (k0 : (Bool → Option ρ)) : Option ρ :=
  cond (a1.con != a2.con) (k0 false) (cond (((List.length a1.args : Nat) : Int) != ((List.length a2.args : Nat) : Int)) (k0 false) (C.l27_4_0 ρ (0 : Int) (⟨a1.args, a1.con⟩ : Sm) (⟨a2.args, a2.con⟩ : Sm) (fun (r3 : Bool) => k0 r3) (k0 true)))

/-- truss/subst.Long -/
def Gc28_0 (C : Tab) (ρ : Type) (a1 : Int) (a2 : Int) (a3 : Sm) (k0 : (Tm → Int → Option ρ)) : Option ρ :=
  cond (decide (a1 < (1 : Int))) (k0 (⟨(0 : Int), (0 : Int), (0 : Int), []⟩ : Tm) (2 : Int)) (cond (decide (a1 > (3 : Int))) (k0 (⟨(0 : Int), (0 : Int), (0 : Int), []⟩ : Tm) (2 : Int)) (C.c39_0 ρ ([] : List Tm) [(⟨a3.args, a3.con⟩ : Sm)] [a2] (fun (r4 : Bool) => cond (!r4) (k0 (⟨(0 : Int), (0 : Int), (0 : Int), []⟩ : Tm) (2 : Int)) (C.c52_0 ρ a1 a2 (⟨a3.args, a3.con⟩ : Sm) (fun (r5 : Tm) => C.c53_0 ρ (⟨r5.op, r5.head, r5.n, r5.args⟩ : Tm) (fun (r6 : Int) => cond (r6 != (0 : Int)) (k0 (⟨(0 : Int), (0 : Int), (0 : Int), []⟩ : Tm) (5 : Int)) (k0 (⟨r5.op, r5.head, r5.n, r5.args⟩ : Tm) (0 : Int))))))))

/-- truss/trusslaw04.renamed -/
def Gc29_0 (C : Tab) (ρ : Type) (a1 : Tm) (a2 : Int) (a3 : Int) (a4 : Int) (k0 : (Tm → Option ρ)) : Option ρ :=
  cond (a1.op == (4 : Int)) (cond (a1.head == (1 : Int)) (cond (a1.n == (IntKind.wrap .i64 (a2 + a4))) (C.l29_9_0 ρ a2 a3 a4 ((List.length a1.args : Nat) : Int) (0 : Int) (⟨a1.op, a1.head, a1.n, a1.args⟩ : Tm) (⟨(0 : Int), (0 : Int), (0 : Int), []⟩ : Tm) (⟨a1.op, a1.head, (IntKind.wrap .i64 (a3 + a4)), []⟩ : Tm) (fun (r5 : Tm) (r6 : Tm) (r7 : Tm) => k0 (⟨r7.op, r7.head, r7.n, r7.args⟩ : Tm))) (cond (decide (a1.n > (IntKind.wrap .i64 (a2 + a4)))) (C.l29_9_0 ρ a2 a3 a4 ((List.length a1.args : Nat) : Int) (0 : Int) (⟨a1.op, a1.head, a1.n, a1.args⟩ : Tm) (⟨(0 : Int), (0 : Int), (0 : Int), []⟩ : Tm) (⟨a1.op, a1.head, (IntKind.wrap .i64 (a1.n - (1 : Int))), []⟩ : Tm) (fun (r8 : Tm) (r9 : Tm) (r10 : Tm) => k0 (⟨r10.op, r10.head, r10.n, r10.args⟩ : Tm))) (C.l29_9_0 ρ a2 a3 a4 ((List.length a1.args : Nat) : Int) (0 : Int) (⟨a1.op, a1.head, a1.n, a1.args⟩ : Tm) (⟨(0 : Int), (0 : Int), (0 : Int), []⟩ : Tm) (⟨a1.op, a1.head, a1.n, []⟩ : Tm) (fun (r11 : Tm) (r12 : Tm) (r13 : Tm) => k0 (⟨r13.op, r13.head, r13.n, r13.args⟩ : Tm))))) (C.l29_9_0 ρ a2 a3 a4 ((List.length a1.args : Nat) : Int) (0 : Int) (⟨a1.op, a1.head, a1.n, a1.args⟩ : Tm) (⟨(0 : Int), (0 : Int), (0 : Int), []⟩ : Tm) (⟨a1.op, a1.head, a1.n, []⟩ : Tm) (fun (r14 : Tm) (r15 : Tm) (r16 : Tm) => k0 (⟨r16.op, r16.head, r16.n, r16.args⟩ : Tm)))) (C.l29_9_0 ρ a2 a3 a4 ((List.length a1.args : Nat) : Int) (0 : Int) (⟨a1.op, a1.head, a1.n, a1.args⟩ : Tm) (⟨(0 : Int), (0 : Int), (0 : Int), []⟩ : Tm) (⟨a1.op, a1.head, a1.n, []⟩ : Tm) (fun (r17 : Tm) (r18 : Tm) (r19 : Tm) => k0 (⟨r19.op, r19.head, r19.n, r19.args⟩ : Tm)))

/-- truss/subst.Apply -/
def Gc30_0 (C : Tab) (ρ : Type) (a1 : Tm) (a2 : List Tm) (a3 : Sm) (k0 : (Tm → Int → Option ρ)) : Option ρ :=
  cond (decide (((List.length a2 : Nat) : Int) > (600 : Int))) (k0 (⟨(0 : Int), (0 : Int), (0 : Int), []⟩ : Tm) (2 : Int)) (cond (decide ((List.length [(⟨a1.op, a1.head, a1.n, a1.args⟩ : Tm)] + List.length a2) * 48 ≤ 140737488355328)) (C.c39_0 ρ (([(⟨a1.op, a1.head, a1.n, a1.args⟩ : Tm)] : List Tm) ++ (a2 : List Tm)) [(⟨a3.args, a3.con⟩ : Sm)] ([] : List Int) (fun (r4 : Bool) => cond (!r4) (k0 (⟨(0 : Int), (0 : Int), (0 : Int), []⟩ : Tm) (2 : Int)) (C.c55_0 ρ (⟨a1.op, a1.head, a1.n, a1.args⟩ : Tm) a2 (⟨a3.args, a3.con⟩ : Sm) (0 : Int) (fun (r5 : Int) (r6 : Int) => k0 (⟨(0 : Int), (0 : Int), (0 : Int), []⟩ : Tm) r5) (fun (r7 : Tm) (r8 : Int) => C.c54_0 ρ (⟨r7.op, r7.head, r7.n, r7.args⟩ : Tm) (fun (r9 : Tm) => k0 (⟨r9.op, r9.head, r9.n, r9.args⟩ : Tm) (0 : Int)))))) (none))

/-- truss/trussref04.Apply -/
def Gc31_0 (C : Tab) (ρ : Type) (a1 : Tm) (a2 : List Tm) (a3 : Sm) (k0 : (Tm → Int → Option ρ)) : Option ρ :=
  C.c18_0 ρ (⟨a1.op, a1.head, a1.n, a1.args⟩ : Tm) (fun (r4 : Bool) => cond (!r4) (k0 (⟨(0 : Int), (0 : Int), (0 : Int), []⟩ : Tm) (2 : Int)) (C.c56_0 ρ a2 (fun (r5 : Bool) => cond (!r5) (k0 (⟨(0 : Int), (0 : Int), (0 : Int), []⟩ : Tm) (2 : Int)) (C.c19_0 ρ (⟨a3.args, a3.con⟩ : Sm) (fun (r6 : Bool) => cond (!r6) (k0 (⟨(0 : Int), (0 : Int), (0 : Int), []⟩ : Tm) (2 : Int)) (C.c57_0 ρ (⟨a1.op, a1.head, a1.n, a1.args⟩ : Tm) a2 (⟨a3.args, a3.con⟩ : Sm) (0 : Int) (fun (r7 : Tm) (r8 : Int) (r9 : Int) => k0 (⟨r7.op, r7.head, r7.n, r7.args⟩ : Tm) r8)))))))

/-- truss/subst.Many -/
def Gc32_0 (C : Tab) (ρ : Type) (a1 : Tm) (a2 : List Tm) (a3 : List Sm) (k0 : (Tm → Int → Option ρ)) : Option ρ :=
  cond (decide (((List.length a2 : Nat) : Int) > (600 : Int))) (k0 (⟨(0 : Int), (0 : Int), (0 : Int), []⟩ : Tm) (2 : Int)) (cond (((List.length a2 : Nat) : Int) != ((List.length a3 : Nat) : Int)) (k0 (⟨(0 : Int), (0 : Int), (0 : Int), []⟩ : Tm) (2 : Int)) (cond (decide ((List.length [(⟨a1.op, a1.head, a1.n, a1.args⟩ : Tm)] + List.length a2) * 48 ≤ 140737488355328)) (C.c39_0 ρ (([(⟨a1.op, a1.head, a1.n, a1.args⟩ : Tm)] : List Tm) ++ (a2 : List Tm)) a3 ([] : List Int) (fun (r4 : Bool) => cond (!r4) (k0 (⟨(0 : Int), (0 : Int), (0 : Int), []⟩ : Tm) (2 : Int)) (C.l32_6_0 ρ a2 a3 a2 ((List.length a2 : Nat) : Int) (0 : Int) (⟨a1.op, a1.head, a1.n, a1.args⟩ : Tm) (⟨(0 : Int), (0 : Int), (0 : Int), []⟩ : Tm) (0 : Int) (0 : Int) (fun (r5 : Tm) (r6 : Tm) (r7 : Int) => C.c54_0 ρ (⟨r5.op, r5.head, r5.n, r5.args⟩ : Tm) (fun (r8 : Tm) => k0 (⟨r8.op, r8.head, r8.n, r8.args⟩ : Tm) (0 : Int))) (fun (r9 : Tm) (r10 : Tm) (r11 : Int) (r12 : Int) => k0 (⟨(0 : Int), (0 : Int), (0 : Int), []⟩ : Tm) r12)))) (none)))

/-- truss/trussref04.Many -/
def Gc33_0 (C : Tab) (ρ : Type) (a1 : Tm) (a2 : List Tm) (a3 : List Sm) (k0 : (Tm → Int → Option ρ)) : Option ρ :=
  C.c18_0 ρ (⟨a1.op, a1.head, a1.n, a1.args⟩ : Tm) (fun (r4 : Bool) => cond (!r4) (k0 (⟨(0 : Int), (0 : Int), (0 : Int), []⟩ : Tm) (2 : Int)) (C.c56_0 ρ a2 (fun (r5 : Bool) => cond (!r5) (k0 (⟨(0 : Int), (0 : Int), (0 : Int), []⟩ : Tm) (2 : Int)) (cond (((List.length a3 : Nat) : Int) != ((List.length a2 : Nat) : Int)) (k0 (⟨(0 : Int), (0 : Int), (0 : Int), []⟩ : Tm) (2 : Int)) (C.l33_4_0 ρ a2 a3 (0 : Int) (⟨a1.op, a1.head, a1.n, a1.args⟩ : Tm) (⟨(0 : Int), (0 : Int), (0 : Int), []⟩ : Tm) (fun (r6 : Int) (r7 : Tm) (r8 : Tm) => k0 (⟨r8.op, r8.head, r8.n, r8.args⟩ : Tm) r6) (fun (r9 : List Tm) (r10 : List Sm) (r11 : Tm) (r12 : Tm) => C.l33_10_0 ρ r9 r10 (0 : Int) (⟨r11.op, r11.head, r11.n, r11.args⟩ : Tm) (⟨r12.op, r12.head, r12.n, r12.args⟩ : Tm) (0 : Int) (fun (r13 : Tm) (r14 : Tm) => k0 (⟨r13.op, r13.head, r13.n, r13.args⟩ : Tm) (0 : Int)) (fun (r15 : Int) (r16 : Tm) (r17 : Tm) => k0 (⟨r17.op, r17.head, r17.n, r17.args⟩ : Tm) r15)))))))

/-- truss/trussref04.Long -/
def Gc34_0 (C : Tab) (ρ : Type) (a1 : Int) (a2 : Int) (a3 : Sm) (k0 : (Tm → Int → Option ρ)) : Option ρ :=
  cond (decide (a1 < (1 : Int))) (k0 (⟨(0 : Int), (0 : Int), (0 : Int), []⟩ : Tm) (2 : Int)) (cond (decide (a1 > (3 : Int))) (k0 (⟨(0 : Int), (0 : Int), (0 : Int), []⟩ : Tm) (2 : Int)) (C.c42_0 ρ a2 (fun (r4 : Bool) => cond (!r4) (k0 (⟨(0 : Int), (0 : Int), (0 : Int), []⟩ : Tm) (2 : Int)) (C.c19_0 ρ (⟨a3.args, a3.con⟩ : Sm) (fun (r5 : Bool) => cond (!r5) (k0 (⟨(0 : Int), (0 : Int), (0 : Int), []⟩ : Tm) (2 : Int)) (C.c61_0 ρ a1 a2 (⟨a3.args, a3.con⟩ : Sm) (fun (r6 : Tm) => C.c59_0 ρ (⟨r6.op, r6.head, r6.n, r6.args⟩ : Tm) (fun (r7 : Tm) (r8 : Int) => k0 (⟨r7.op, r7.head, r7.n, r7.args⟩ : Tm) r8))))))))

/-- truss/subst.Short -/
def Gc35_0 (C : Tab) (ρ : Type) (a1 : Tm) (k0 : (Int → Int → Int → Option ρ)) : Option ρ :=
  C.c53_0 ρ (⟨a1.op, a1.head, a1.n, a1.args⟩ : Tm) (fun (r2 : Int) => cond (r2 != (0 : Int)) (k0 (0 : Int) (0 : Int) (2 : Int)) (C.l35_4_0 ρ (0 : Int) (⟨a1.op, a1.head, a1.n, a1.args⟩ : Tm) (fun (r3 : Int) (r4 : Tm) => cond (r4.op != (4 : Int)) (k0 (0 : Int) (0 : Int) (6 : Int)) (cond (((List.length r4.args : Nat) : Int) != r3) (k0 (0 : Int) (0 : Int) (6 : Int)) (cond (r4.head == (1 : Int)) (cond (decide (r4.n < r3)) (k0 (0 : Int) (0 : Int) (6 : Int)) (C.l35_10_0 ρ r3 r4.args ((List.length r4.args : Nat) : Int) (0 : Int) (⟨r4.op, r4.head, r4.n, r4.args⟩ : Tm) (fun (r5 : Int) (r6 : Int) (r7 : Int) => k0 r5 r6 r7) (fun (r8 : Int) (r9 : Tm) => cond (r9.head == (1 : Int)) (k0 r9.head (IntKind.wrap .i64 (r9.n - r8)) (0 : Int)) (k0 r9.head r9.n (0 : Int))))) (C.l35_10_0 ρ r3 r4.args ((List.length r4.args : Nat) : Int) (0 : Int) (⟨r4.op, r4.head, r4.n, r4.args⟩ : Tm) (fun (r10 : Int) (r11 : Int) (r12 : Int) => k0 r10 r11 r12) (fun (r13 : Int) (r14 : Tm) => cond (r14.head == (1 : Int)) (k0 r14.head (IntKind.wrap .i64 (r14.n - r13)) (0 : Int)) (k0 r14.head r14.n (0 : Int)))))))))

/-- truss/trussref04.Short -/
def Gc36_0 (C : Tab) (ρ : Type) (a1 : Tm) (k0 : (Int → Int → Bool → Option ρ)) : Option ρ :=
  C.l36_2_0 ρ (0 : Int) (⟨a1.op, a1.head, a1.n, a1.args⟩ : Tm) (fun (r2 : Int) (r3 : Tm) => cond (r3.op != (4 : Int)) (k0 (0 : Int) (0 : Int) false) (cond (((List.length r3.args : Nat) : Int) != r2) (k0 (0 : Int) (0 : Int) false) (C.l36_8_0 ρ r2 (0 : Int) (⟨r3.op, r3.head, r3.n, r3.args⟩ : Tm) (fun (r4 : Int) (r5 : Int) (r6 : Bool) => k0 r4 r5 r6) (fun (r7 : Int) (r8 : Tm) => cond (r8.head == (1 : Int)) (k0 r8.head (IntKind.wrap .i64 (r8.n - r7)) (decide (r8.n ≥ r7))) (k0 r8.head r8.n true)))))

/-- truss/subst.Instance -/
def Gc37_0 (C : Tab) (ρ : Type) (a1 : Tm) (a2 : List Tm) (k0 : (Tm → Int → Option ρ)) : Option ρ :=
  cond (decide (((List.length a2 : Nat) : Int) > (600 : Int))) (k0 (⟨(0 : Int), (0 : Int), (0 : Int), []⟩ : Tm) (2 : Int)) (cond (decide ((List.length [(⟨a1.op, a1.head, a1.n, a1.args⟩ : Tm)] + List.length a2) * 48 ≤ 140737488355328)) (C.c39_0 ρ (([(⟨a1.op, a1.head, a1.n, a1.args⟩ : Tm)] : List Tm) ++ (a2 : List Tm)) ([] : List Sm) ([] : List Int) (fun (r3 : Bool) => cond (!r3) (k0 (⟨(0 : Int), (0 : Int), (0 : Int), []⟩ : Tm) (2 : Int)) (C.l37_6_0 ρ a2 ((List.length a2 : Nat) : Int) (0 : Int) (⟨a1.op, a1.head, a1.n, a1.args⟩ : Tm) (⟨(0 : Int), (0 : Int), (0 : Int), []⟩ : Tm) (0 : Int) (0 : Int) (fun (r4 : Tm) (r5 : Tm) (r6 : Int) => C.c54_0 ρ (⟨r4.op, r4.head, r4.n, r4.args⟩ : Tm) (fun (r7 : Tm) => k0 (⟨r7.op, r7.head, r7.n, r7.args⟩ : Tm) (0 : Int))) (fun (r8 : Tm) (r9 : Tm) (r10 : Int) (r11 : Int) => k0 (⟨(0 : Int), (0 : Int), (0 : Int), []⟩ : Tm) r11)))) (none))

/-- truss/trussref04.Instance -/
def Gc38_0 (C : Tab) (ρ : Type) (a1 : Tm) (a2 : List Tm) (k0 : (Tm → Int → Option ρ)) : Option ρ :=
  C.c18_0 ρ (⟨a1.op, a1.head, a1.n, a1.args⟩ : Tm) (fun (r3 : Bool) => cond (!r3) (k0 (⟨(0 : Int), (0 : Int), (0 : Int), []⟩ : Tm) (2 : Int)) (C.c56_0 ρ a2 (fun (r4 : Bool) => cond (!r4) (k0 (⟨(0 : Int), (0 : Int), (0 : Int), []⟩ : Tm) (2 : Int)) (C.l38_5_0 ρ a2 (0 : Int) (⟨a1.op, a1.head, a1.n, a1.args⟩ : Tm) (⟨(0 : Int), (0 : Int), (0 : Int), []⟩ : Tm) (0 : Int) (fun (r5 : Tm) (r6 : Tm) => k0 (⟨r5.op, r5.head, r5.n, r5.args⟩ : Tm) (0 : Int)) (fun (r7 : Int) (r8 : Tm) (r9 : Tm) => k0 (⟨r9.op, r9.head, r9.n, r9.args⟩ : Tm) r7)))))

/-- truss/subst.good -/
def Gc39_0 (C : Tab) (ρ : Type) (a1 : List Tm) (a2 : List Sm) (a3 : List Int) (k0 : (Bool → Option ρ)) : Option ρ :=
  cond (decide (((List.length a1 : Nat) : Int) > (601 : Int))) (k0 false) (C.l39_4_0 ρ a2 a3 a1 ((List.length a1 : Nat) : Int) (0 : Int) (fun (r4 : List Sm) (r5 : List Int) => C.c66_0 ρ r4 (fun (r6 : Bool) => cond r6 (k0 false) (C.c68_0 ρ r5 (fun (r7 : Bool) => k0 (!r7))))) (fun (r8 : Bool) => k0 r8))

/-- (*truss/subst.work).subst -/
def Gc41_0 (C : Tab) (ρ : Type) (a1 : Tm) (a2 : Int) (a3 : Tm) (a4 : Sm) (a5 : Int) (k0 : (Int → Int → Option ρ)) (k1 : (Tm → Int → Option ρ)) : Option ρ :=
  cond (decide ((IntKind.wrap .i64 (a5 + (1 : Int))) > (20000 : Int))) (C.c62_0 ρ (5 : Int) (fun (r6 : Int) => k0 r6 (IntKind.wrap .i64 (a5 + (1 : Int))))) (C.l41_6_0 ρ a2 a1.args ((List.length a1.args : Nat) : Int) (0 : Int) (IntKind.wrap .i64 (a5 + (1 : Int))) (⟨a1.op, a1.head, a1.n, a1.args⟩ : Tm) (⟨a3.op, a3.head, a3.n, a3.args⟩ : Tm) (⟨a4.args, a4.con⟩ : Sm) (⟨(0 : Int), (0 : Int), (0 : Int), []⟩ : Tm) (⟨a1.op, a1.head, a1.n, []⟩ : Tm) (fun (r7 : Int) (r8 : Int) (r9 : Tm) (r10 : Tm) (r11 : Sm) (r12 : Tm) (r13 : Tm) => cond (r9.op == (4 : Int)) (cond (r9.head == (1 : Int)) (cond (r9.n == r7) (C.c58_0 ρ (⟨r10.op, r10.head, r10.n, r10.args⟩ : Tm) r7 (fun (r14 : Int) => k0 r14 r8) (fun (r15 : Tm) => C.c55_0 ρ (⟨r15.op, r15.head, r15.n, r15.args⟩ : Tm) r13.args (⟨r11.args, r11.con⟩ : Sm) r8 (fun (r16 : Int) (r17 : Int) => k0 r16 r17) (fun (r18 : Tm) (r19 : Int) => C.c71_0 ρ (⟨r18.op, r18.head, r18.n, r18.args⟩ : Tm) (fun (r20 : Int) => k0 r20 r19) (fun (r21 : Tm) => k1 (⟨r21.op, r21.head, r21.n, r21.args⟩ : Tm) r19)))) (cond (decide (r9.n > r7)) (C.c71_0 ρ (⟨r13.op, r13.head, (IntKind.wrap .i64 (r13.n - (1 : Int))), r13.args⟩ : Tm) (fun (r22 : Int) => k0 r22 r8) (fun (r23 : Tm) => k1 (⟨r23.op, r23.head, r23.n, r23.args⟩ : Tm) r8)) (C.c71_0 ρ (⟨r13.op, r13.head, r13.n, r13.args⟩ : Tm) (fun (r24 : Int) => k0 r24 r8) (fun (r25 : Tm) => k1 (⟨r25.op, r25.head, r25.n, r25.args⟩ : Tm) r8)))) (C.c71_0 ρ (⟨r13.op, r13.head, r13.n, r13.args⟩ : Tm) (fun (r26 : Int) => k0 r26 r8) (fun (r27 : Tm) => k1 (⟨r27.op, r27.head, r27.n, r27.args⟩ : Tm) r8))) (C.c71_0 ρ (⟨r13.op, r13.head, r13.n, r13.args⟩ : Tm) (fun (r28 : Int) => k0 r28 r8) (fun (r29 : Tm) => k1 (⟨r29.op, r29.head, r29.n, r29.args⟩ : Tm) r8))) (fun (r30 : Int) (r31 : Tm) (r32 : Tm) (r33 : Sm) (r34 : Tm) (r35 : Int) => k0 r35 r30))

/-- truss/trussref04.number -/
def Gc42_0 (C : Tab) (ρ : Type) (a1 : Int) (k0 : (Bool → Option ρ)) : Option ρ :=
  cond (decide (a1 ≥ (0 : Int))) (k0 (decide (a1 ≤ (9999 : Int)))) (k0 false)

/-- (*truss/trussref04.count).put -/
def Gc43_0 (C : Tab) (ρ : Type) (a1 : Tm) (a2 : Int) (a3 : Tm) (a4 : Sm) (a5 : Int) (k0 : (Tm → Int → Int → Option ρ)) : Option ρ :=
  cond (decide ((IntKind.wrap .i64 (a5 + (1 : Int))) > (20000 : Int))) (k0 (⟨(0 : Int), (0 : Int), (0 : Int), []⟩ : Tm) (5 : Int) (IntKind.wrap .i64 (a5 + (1 : Int)))) (C.l43_7_0 ρ a2 (0 : Int) (IntKind.wrap .i64 (a5 + (1 : Int))) (⟨a1.op, a1.head, a1.n, a1.args⟩ : Tm) (⟨a3.op, a3.head, a3.n, a3.args⟩ : Tm) (⟨a4.args, a4.con⟩ : Sm) (⟨(0 : Int), (0 : Int), (0 : Int), []⟩ : Tm) (⟨a1.op, a1.head, a1.n, []⟩ : Tm) (fun (r6 : Int) (r7 : Int) (r8 : Tm) (r9 : Tm) (r10 : Sm) (r11 : Tm) => k0 (⟨r11.op, r11.head, r11.n, r11.args⟩ : Tm) r6 r7) (fun (r12 : Int) (r13 : Int) (r14 : Tm) (r15 : Tm) (r16 : Sm) (r17 : Tm) (r18 : Tm) => cond (r14.op != (4 : Int)) (C.c59_0 ρ (⟨r18.op, r18.head, r18.n, r18.args⟩ : Tm) (fun (r19 : Tm) (r20 : Int) => k0 (⟨r19.op, r19.head, r19.n, r19.args⟩ : Tm) r20 r13)) (cond (r14.head != (1 : Int)) (C.c59_0 ρ (⟨r18.op, r18.head, r18.n, r18.args⟩ : Tm) (fun (r21 : Tm) (r22 : Int) => k0 (⟨r21.op, r21.head, r21.n, r21.args⟩ : Tm) r22 r13)) (cond (decide (r14.n < r12)) (C.c59_0 ρ (⟨r18.op, r18.head, r18.n, r18.args⟩ : Tm) (fun (r23 : Tm) (r24 : Int) => k0 (⟨r23.op, r23.head, r23.n, r23.args⟩ : Tm) r24 r13)) (cond (decide (r14.n > r12)) (C.c59_0 ρ (⟨r18.op, r18.head, (IntKind.wrap .i64 (r14.n - (1 : Int))), r18.args⟩ : Tm) (fun (r25 : Tm) (r26 : Int) => k0 (⟨r25.op, r25.head, r25.n, r25.args⟩ : Tm) r26 r13)) (C.c60_0 ρ (⟨r15.op, r15.head, r15.n, r15.args⟩ : Tm) r12 (fun (r27 : Tm) => C.c59_0 ρ (⟨r27.op, r27.head, r27.n, r27.args⟩ : Tm) (fun (r28 : Tm) (r29 : Int) => cond (r29 != (0 : Int)) (k0 (⟨(0 : Int), (0 : Int), (0 : Int), []⟩ : Tm) r29 r13) (C.c57_0 ρ (⟨r28.op, r28.head, r28.n, r28.args⟩ : Tm) r18.args (⟨r16.args, r16.con⟩ : Sm) r13 (fun (r30 : Tm) (r31 : Int) (r32 : Int) => k0 (⟨r30.op, r30.head, r30.n, r30.args⟩ : Tm) r31 r32))))))))))

/-- truss/trusslaw04.vr -/
def Gc44_0 (C : Tab) (ρ : Type) (a1 : Int) (a2 : List Tm) (k0 : (Tm → Option ρ)) : Option ρ :=
  k0 (⟨(4 : Int), (1 : Int), a1, a2⟩ : Tm)

/-- truss/trusslaw04.con -/
def Gc45_0 (C : Tab) (ρ : Type) (a1 : Int) (a2 : List Tm) (k0 : (Tm → Option ρ)) : Option ρ :=
  k0 (⟨(4 : Int), (2 : Int), a1, a2⟩ : Tm)

/-- truss/trusslaw04.lam -/
def Gc46_0 (C : Tab) (ρ : Type) (a1 : Tm) (k0 : (Tm → Option ρ)) : Option ρ :=
  k0 (⟨(3 : Int), (0 : Int), (0 : Int), [(⟨a1.op, a1.head, a1.n, a1.args⟩ : Tm)]⟩ : Tm)

/-- truss/trussref03.nodes -/
def Gc47_0 (C : Tab) (ρ : Type) (a1 : Tm) (a2 : Int) (k0 : (Int → Option ρ)) : Option ρ :=
  C.l47_3_0 ρ a2 (1 : Int) (0 : Int) (⟨a1.op, a1.head, a1.n, a1.args⟩ : Tm) (fun (r3 : Int) (r4 : Int) => k0 (min2 r4 (IntKind.wrap .i64 (r3 + (1 : Int)))))

/-- truss/trussref03.formed -/
def Gc48_0 (C : Tab) (ρ : Type) (a1 : Tm) (a2 : Int) (k0 : (Bool → Option ρ)) : Option ρ :=
  cond (decide (a2 > (40 : Int))) (k0 false) (cond (a1.op == (1 : Int)) (cond (((List.length a1.args : Nat) : Int) != (0 : Int)) (k0 false) (cond (a1.head != (0 : Int)) (k0 false) (cond (a1.n != (0 : Int)) (k0 false) (C.l48_18_0 ρ a2 (0 : Int) (⟨a1.op, a1.head, a1.n, a1.args⟩ : Tm) (fun (r3 : Bool) => k0 r3) (k0 true))))) (cond (a1.op == (2 : Int)) (cond (((List.length a1.args : Nat) : Int) != (2 : Int)) (k0 false) (cond (a1.head != (0 : Int)) (k0 false) (cond (a1.n != (0 : Int)) (k0 false) (C.l48_18_0 ρ a2 (0 : Int) (⟨a1.op, a1.head, a1.n, a1.args⟩ : Tm) (fun (r4 : Bool) => k0 r4) (k0 true))))) (cond (a1.op == (3 : Int)) (cond (((List.length a1.args : Nat) : Int) != (1 : Int)) (k0 false) (cond (a1.head != (0 : Int)) (k0 false) (cond (a1.n != (0 : Int)) (k0 false) (C.l48_18_0 ρ a2 (0 : Int) (⟨a1.op, a1.head, a1.n, a1.args⟩ : Tm) (fun (r5 : Bool) => k0 r5) (k0 true))))) (cond (a1.op == (4 : Int)) (cond (decide (a1.head < (1 : Int))) (k0 false) (cond (decide (a1.head > (3 : Int))) (k0 false) (cond (decide (a1.n < (0 : Int))) (k0 false) (cond (decide (a1.n > (9999 : Int))) (k0 false) (C.l48_18_0 ρ a2 (0 : Int) (⟨a1.op, a1.head, a1.n, a1.args⟩ : Tm) (fun (r6 : Bool) => k0 r6) (k0 true)))))) (k0 false)))))

/-- truss/trussref04.constants -/
def Gc49_0 (C : Tab) (ρ : Type) (a1 : Sm) (a2 : Int) (k0 : (Int → Option ρ)) : Option ρ :=
  cond (decide (a1.con < (0 : Int))) (k0 (-1 : Int)) (cond (decide (a1.con > (9999 : Int))) (k0 (-1 : Int)) (C.l49_5_0 ρ a2 (1 : Int) (0 : Int) (⟨a1.args, a1.con⟩ : Sm) (fun (r3 : Int) => k0 r3) (fun (r4 : Int) (r5 : Int) => k0 (min2 r5 (IntKind.wrap .i64 (r4 + (1 : Int)))))))

/-- truss/trussref03.low -/
def Gc50_0 (C : Tab) (ρ : Type) (a1 : Tm) (a2 : Int) (a3 : Int) (k0 : (Bool → Option ρ)) : Option ρ :=
  cond (a1.op == (4 : Int)) (cond (a1.head == (1 : Int)) (cond (decide (a1.n ≥ a2)) (cond (decide (a1.n ≤ a3)) (k0 true) (C.l50_4_0 ρ a2 a3 (0 : Int) (⟨a1.op, a1.head, a1.n, a1.args⟩ : Tm) (k0 false) (fun (r4 : Bool) => k0 r4))) (C.l50_4_0 ρ a2 a3 (0 : Int) (⟨a1.op, a1.head, a1.n, a1.args⟩ : Tm) (k0 false) (fun (r5 : Bool) => k0 r5))) (C.l50_4_0 ρ a2 a3 (0 : Int) (⟨a1.op, a1.head, a1.n, a1.args⟩ : Tm) (k0 false) (fun (r6 : Bool) => k0 r6))) (C.l50_4_0 ρ a2 a3 (0 : Int) (⟨a1.op, a1.head, a1.n, a1.args⟩ : Tm) (k0 false) (fun (r7 : Bool) => k0 r7))

/-- truss/trussref03.moved -/
def Gc51_0 (C : Tab) (ρ : Type) (a1 : Tm) (a2 : Int) (a3 : Int) (k0 : (Tm → Option ρ)) : Option ρ :=
  cond (a1.op == (4 : Int)) (cond (a1.head == (1 : Int)) (cond (decide (a1.n ≥ a3)) (C.l51_6_0 ρ a2 a3 (0 : Int) (⟨a1.op, a1.head, a1.n, a1.args⟩ : Tm) (⟨(0 : Int), (0 : Int), (0 : Int), []⟩ : Tm) (⟨a1.op, a1.head, (IntKind.wrap .i64 (a1.n + a2)), []⟩ : Tm) (fun (r4 : Tm) (r5 : Tm) (r6 : Tm) => k0 (⟨r6.op, r6.head, r6.n, r6.args⟩ : Tm))) (C.l51_6_0 ρ a2 a3 (0 : Int) (⟨a1.op, a1.head, a1.n, a1.args⟩ : Tm) (⟨(0 : Int), (0 : Int), (0 : Int), []⟩ : Tm) (⟨a1.op, a1.head, a1.n, []⟩ : Tm) (fun (r7 : Tm) (r8 : Tm) (r9 : Tm) => k0 (⟨r9.op, r9.head, r9.n, r9.args⟩ : Tm)))) (C.l51_6_0 ρ a2 a3 (0 : Int) (⟨a1.op, a1.head, a1.n, a1.args⟩ : Tm) (⟨(0 : Int), (0 : Int), (0 : Int), []⟩ : Tm) (⟨a1.op, a1.head, a1.n, []⟩ : Tm) (fun (r10 : Tm) (r11 : Tm) (r12 : Tm) => k0 (⟨r12.op, r12.head, r12.n, r12.args⟩ : Tm)))) (C.l51_6_0 ρ a2 a3 (0 : Int) (⟨a1.op, a1.head, a1.n, a1.args⟩ : Tm) (⟨(0 : Int), (0 : Int), (0 : Int), []⟩ : Tm) (⟨a1.op, a1.head, a1.n, []⟩ : Tm) (fun (r13 : Tm) (r14 : Tm) (r15 : Tm) => k0 (⟨r15.op, r15.head, r15.n, r15.args⟩ : Tm)))

/-- truss/subst.long -/
def Gc52_0 (C : Tab) (ρ : Type) (a1 : Int) (a2 : Int) (a3 : Sm) (k0 : (Tm → Option ρ)) : Option ρ :=
  cond (a1 == (1 : Int)) (C.l52_6_0 ρ ((List.length a3.args : Nat) : Int) a3.args ((List.length a3.args : Nat) : Int) (0 : Int) (⟨a3.args, a3.con⟩ : Sm) (⟨(0 : Int), (0 : Int), (0 : Int), []⟩ : Tm) (⟨(4 : Int), a1, (IntKind.wrap .i64 (a2 + ((List.length a3.args : Nat) : Int))), []⟩ : Tm) (fun (r4 : Int) (r5 : Sm) (r6 : Tm) (r7 : Tm) => C.l52_11_0 ρ r4 (0 : Int) (⟨r5.args, r5.con⟩ : Sm) (⟨r6.op, r6.head, r6.n, r6.args⟩ : Tm) (⟨r7.op, r7.head, r7.n, r7.args⟩ : Tm) (fun (r8 : Sm) (r9 : Tm) (r10 : Tm) => k0 (⟨r10.op, r10.head, r10.n, r10.args⟩ : Tm)))) (C.l52_6_0 ρ ((List.length a3.args : Nat) : Int) a3.args ((List.length a3.args : Nat) : Int) (0 : Int) (⟨a3.args, a3.con⟩ : Sm) (⟨(0 : Int), (0 : Int), (0 : Int), []⟩ : Tm) (⟨(4 : Int), a1, a2, []⟩ : Tm) (fun (r11 : Int) (r12 : Sm) (r13 : Tm) (r14 : Tm) => C.l52_11_0 ρ r11 (0 : Int) (⟨r12.args, r12.con⟩ : Sm) (⟨r13.op, r13.head, r13.n, r13.args⟩ : Tm) (⟨r14.op, r14.head, r14.n, r14.args⟩ : Tm) (fun (r15 : Sm) (r16 : Tm) (r17 : Tm) => k0 (⟨r17.op, r17.head, r17.n, r17.args⟩ : Tm))))

/-- truss/term.Check -/
def Gc53_0 (C : Tab) (ρ : Type) (a1 : Tm) (k0 : (Int → Option ρ)) : Option ρ :=
  C.c74_0 ρ (⟨a1.op, a1.head, a1.n, a1.args⟩ : Tm) (1 : Int) (0 : Int) (fun (r2 : Bool) (r3 : Int) => cond (!r2) (k0 (2 : Int)) (k0 (0 : Int)))

/-- truss/term.Copy -/
def Gc54_0 (C : Tab) (ρ : Type) (a1 : Tm) (k0 : (Tm → Option ρ)) : Option ρ :=
  C.c75_0 ρ (⟨a1.op, a1.head, a1.n, a1.args⟩ : Tm) (0 : Int) (fun (r2 : Tm) => k0 (⟨r2.op, r2.head, r2.n, r2.args⟩ : Tm))

/-- (*truss/subst.work).apply -/
def Gc55_0 (C : Tab) (ρ : Type) (a1 : Tm) (a2 : List Tm) (a3 : Sm) (a4 : Int) (k0 : (Int → Int → Option ρ)) (k1 : (Tm → Int → Option ρ)) : Option ρ :=
  C.l55_3_0 ρ a2 ((List.length a2 : Nat) : Int) (0 : Int) a4 (⟨a1.op, a1.head, a1.n, a1.args⟩ : Tm) (⟨a3.args, a3.con⟩ : Sm) (⟨(0 : Int), (0 : Int), (0 : Int), []⟩ : Tm) (fun (r5 : Int) (r6 : Tm) (r7 : Sm) (r8 : Tm) (r9 : Int) => k0 r9 r5) (fun (r10 : Int) (r11 : Tm) (r12 : Sm) (r13 : Tm) => C.c71_0 ρ (⟨r11.op, r11.head, r11.n, r11.args⟩ : Tm) (fun (r14 : Int) => k0 r14 r10) (fun (r15 : Tm) => k1 (⟨r15.op, r15.head, r15.n, r15.args⟩ : Tm) r10))

/-- truss/trussref04.list -/
def Gc56_0 (C : Tab) (ρ : Type) (a1 : List Tm) (k0 : (Bool → Option ρ)) : Option ρ :=
  C.l56_2_0 ρ a1 (0 : Int) (fun (r2 : Bool) => k0 r2) (fun (r3 : List Tm) => k0 (decide (((List.length r3 : Nat) : Int) ≤ (600 : Int))))

/-- (*truss/trussref04.count).apply -/
def Gc57_0 (C : Tab) (ρ : Type) (a1 : Tm) (a2 : List Tm) (a3 : Sm) (a4 : Int) (k0 : (Tm → Int → Int → Option ρ)) : Option ρ :=
  cond (((List.length a2 : Nat) : Int) == (0 : Int)) (C.c59_0 ρ (⟨a1.op, a1.head, a1.n, a1.args⟩ : Tm) (fun (r5 : Tm) (r6 : Int) => k0 (⟨r5.op, r5.head, r5.n, r5.args⟩ : Tm) r6 a4)) (cond (a1.op != (3 : Int)) (k0 (⟨(0 : Int), (0 : Int), (0 : Int), []⟩ : Tm) (23 : Int) a4) (cond (((List.length a3.args : Nat) : Int) == (0 : Int)) (k0 (⟨(0 : Int), (0 : Int), (0 : Int), []⟩ : Tm) (23 : Int) a4) (cond (decide ((0 : Int) ≤ (0 : Int)) && decide ((0 : Int) < ((List.length a1.args : Nat) : Int))) (cond (decide ((0 : Int) ≤ (0 : Int)) && decide ((0 : Int) < ((List.length a2 : Nat) : Int))) (cond (decide ((0 : Int) ≤ (0 : Int)) && decide ((0 : Int) < ((List.length a3.args : Nat) : Int))) (C.c43_0 ρ (⟨(rdEl lay Key.tm a1.args (0 : Int)).op, (rdEl lay Key.tm a1.args (0 : Int)).head, (rdEl lay Key.tm a1.args (0 : Int)).n, (rdEl lay Key.tm a1.args (0 : Int)).args⟩ : Tm) (0 : Int) (⟨(rdEl lay Key.tm a2 (0 : Int)).op, (rdEl lay Key.tm a2 (0 : Int)).head, (rdEl lay Key.tm a2 (0 : Int)).n, (rdEl lay Key.tm a2 (0 : Int)).args⟩ : Tm) (⟨(rdEl lay Key.sm a3.args (0 : Int)).args, (rdEl lay Key.sm a3.args (0 : Int)).con⟩ : Sm) a4 (fun (r7 : Tm) (r8 : Int) (r9 : Int) => cond (r8 != (0 : Int)) (k0 (⟨(0 : Int), (0 : Int), (0 : Int), []⟩ : Tm) r8 r9) (cond (decide ((0 : Int) ≤ (1 : Int)) && (decide ((1 : Int) ≤ ((List.length a2 : Nat) : Int)) && decide (((List.length a2 : Nat) : Int) ≤ ((List.length a2 : Nat) : Int)))) (cond (decide ((0 : Int) ≤ (1 : Int)) && (decide ((1 : Int) ≤ ((List.length a3.args : Nat) : Int)) && decide (((List.length a3.args : Nat) : Int) ≤ ((List.length a3.args : Nat) : Int)))) (C.c57_0 ρ (⟨r7.op, r7.head, r7.n, r7.args⟩ : Tm) (List.drop (Int.toNat (1 : Int)) (List.take (Int.toNat ((List.length a2 : Nat) : Int)) a2)) (⟨(List.drop (Int.toNat (1 : Int)) (List.take (Int.toNat ((List.length a3.args : Nat) : Int)) a3.args)), a3.con⟩ : Sm) r9 (fun (r10 : Tm) (r11 : Int) (r12 : Int) => k0 (⟨r10.op, r10.head, r10.n, r10.args⟩ : Tm) r11 r12)) (none)) (none)))) (none)) (none)) (none))))

/-- truss/subst.moved -/
def Gc58_0 (C : Tab) (ρ : Type) (a1 : Tm) (a2 : Int) (k0 : (Int → Option ρ)) (k1 : (Tm → Option ρ)) : Option ρ :=
  C.c77_0 ρ (⟨a1.op, a1.head, a1.n, a1.args⟩ : Tm) a2 (0 : Int) (fun (r3 : Tm) (r4 : Int) => cond (r4 != (0 : Int)) (C.c62_0 ρ r4 (fun (r5 : Int) => k0 r5)) (k1 (⟨r3.op, r3.head, r3.n, r3.args⟩ : Tm)))

/-- truss/trussref04.whole -/
def Gc59_0 (C : Tab) (ρ : Type) (a1 : Tm) (k0 : (Tm → Int → Option ρ)) : Option ρ :=
  C.c18_0 ρ (⟨a1.op, a1.head, a1.n, a1.args⟩ : Tm) (fun (r2 : Bool) => cond (!r2) (k0 (⟨(0 : Int), (0 : Int), (0 : Int), []⟩ : Tm) (5 : Int)) (k0 (⟨a1.op, a1.head, a1.n, a1.args⟩ : Tm) (0 : Int)))

/-- truss/trussref04.raised -/
def Gc60_0 (C : Tab) (ρ : Type) (a1 : Tm) (a2 : Int) (k0 : (Tm → Option ρ)) : Option ρ :=
  C.c78_0 ρ (⟨a1.op, a1.head, a1.n, a1.args⟩ : Tm) a2 (0 : Int) (fun (r3 : Tm) => k0 (⟨r3.op, r3.head, r3.n, r3.args⟩ : Tm))

/-- truss/trussref04.long -/
def Gc61_0 (C : Tab) (ρ : Type) (a1 : Int) (a2 : Int) (a3 : Sm) (k0 : (Tm → Option ρ)) : Option ρ :=
  cond (a1 == (1 : Int)) (C.l61_6_0 ρ ((List.length a3.args : Nat) : Int) (0 : Int) (⟨a3.args, a3.con⟩ : Sm) (⟨(0 : Int), (0 : Int), (0 : Int), []⟩ : Tm) (⟨(4 : Int), a1, (IntKind.wrap .i64 (a2 + ((List.length a3.args : Nat) : Int))), []⟩ : Tm) (fun (r4 : Int) (r5 : Sm) (r6 : Tm) (r7 : Tm) => C.l61_11_0 ρ r4 (0 : Int) (⟨r5.args, r5.con⟩ : Sm) (⟨r6.op, r6.head, r6.n, r6.args⟩ : Tm) (⟨r7.op, r7.head, r7.n, r7.args⟩ : Tm) (fun (r8 : Sm) (r9 : Tm) (r10 : Tm) => k0 (⟨r10.op, r10.head, r10.n, r10.args⟩ : Tm)))) (C.l61_6_0 ρ ((List.length a3.args : Nat) : Int) (0 : Int) (⟨a3.args, a3.con⟩ : Sm) (⟨(0 : Int), (0 : Int), (0 : Int), []⟩ : Tm) (⟨(4 : Int), a1, a2, []⟩ : Tm) (fun (r11 : Int) (r12 : Sm) (r13 : Tm) (r14 : Tm) => C.l61_11_0 ρ r11 (0 : Int) (⟨r12.args, r12.con⟩ : Sm) (⟨r13.op, r13.head, r13.n, r13.args⟩ : Tm) (⟨r14.op, r14.head, r14.n, r14.args⟩ : Tm) (fun (r15 : Sm) (r16 : Tm) (r17 : Tm) => k0 (⟨r17.op, r17.head, r17.n, r17.args⟩ : Tm))))

/-- truss/subst.fail -/
def Gc62_0 (C : Tab) (ρ : Type) (a1 : Int) (k0 : (Int → Option ρ)) : Option ρ :=
  k0 a1

/-- truss/term.Simple -/
def Gc63_0 (C : Tab) (ρ : Type) (a1 : Tm) (k0 : (Sm → Int → Option ρ)) : Option ρ :=
  C.c53_0 ρ (⟨a1.op, a1.head, a1.n, a1.args⟩ : Tm) (fun (r2 : Int) => cond (r2 != (0 : Int)) (k0 (⟨[], (0 : Int)⟩ : Sm) r2) (C.c79_0 ρ (⟨a1.op, a1.head, a1.n, a1.args⟩ : Tm) (fun (r3 : Sm) (r4 : Int) => k0 (⟨r3.args, r3.con⟩ : Sm) r4)))

/-- truss/subst.Small -/
def Gc64_0 (C : Tab) (ρ : Type) (a1 : Sm) (k0 : (Bool → Option ρ)) : Option ρ :=
  C.c80_0 ρ (⟨a1.args, a1.con⟩ : Sm) (0 : Int) (fun (r2 : Bool) (r3 : Int) => k0 r2)

/-- (*truss/trussref04.count).step -/
def Gc65_0 (C : Tab) (ρ : Type) (a1 : Tm) (a2 : Tm) (a3 : Int) (k0 : (Tm → Int → Int → Option ρ)) : Option ρ :=
  cond (a1.op != (2 : Int)) (k0 (⟨(0 : Int), (0 : Int), (0 : Int), []⟩ : Tm) (23 : Int) a3) (cond (decide ((0 : Int) ≤ (0 : Int)) && decide ((0 : Int) < ((List.length a1.args : Nat) : Int))) (C.c81_0 ρ (⟨(rdEl lay Key.tm a1.args (0 : Int)).op, (rdEl lay Key.tm a1.args (0 : Int)).head, (rdEl lay Key.tm a1.args (0 : Int)).n, (rdEl lay Key.tm a1.args (0 : Int)).args⟩ : Tm) (fun (r4 : Sm) (r5 : Bool) => cond (!r5) (k0 (⟨(0 : Int), (0 : Int), (0 : Int), []⟩ : Tm) (22 : Int) a3) (C.c19_0 ρ (⟨r4.args, r4.con⟩ : Sm) (fun (r6 : Bool) => cond (!r6) (k0 (⟨(0 : Int), (0 : Int), (0 : Int), []⟩ : Tm) (2 : Int) a3) (cond (decide ((0 : Int) ≤ (1 : Int)) && decide ((1 : Int) < ((List.length a1.args : Nat) : Int))) (C.c43_0 ρ (⟨(rdEl lay Key.tm a1.args (1 : Int)).op, (rdEl lay Key.tm a1.args (1 : Int)).head, (rdEl lay Key.tm a1.args (1 : Int)).n, (rdEl lay Key.tm a1.args (1 : Int)).args⟩ : Tm) (0 : Int) (⟨a2.op, a2.head, a2.n, a2.args⟩ : Tm) (⟨r4.args, r4.con⟩ : Sm) a3 (fun (r7 : Tm) (r8 : Int) (r9 : Int) => k0 (⟨r7.op, r7.head, r7.n, r7.args⟩ : Tm) r8 r9)) (none)))))) (none))

/-- slices.ContainsFunc[[]truss/api.Simple,truss/api.Simple] -/
def Gc66_0 (C : Tab) (ρ : Type) (a1 : List Sm) (k0 : (Bool → Option ρ)) : Option ρ :=
  C.c82_0 ρ a1 (fun (r2 : Int) => k0 (decide (r2 ≥ (0 : Int))))

/-- slices.ContainsFunc[[]truss/api.Simple,truss/api.Simple] -/
def Gc66_1 (C : Tab) (ρ : Type) (a1 : List Sm) (a2 : Int) (k0 : (Bool → Int → Option ρ)) : Option ρ :=
  C.c82_1 ρ a1 a2 (fun (r3 : Int) (r4 : Int) => k0 (decide (r3 ≥ (0 : Int))) r4)

/-- truss/subst.good$1 -/
def Gc67_0 (C : Tab) (ρ : Type) (a1 : Sm) (k0 : (Bool → Option ρ)) : Option ρ :=
  C.c64_0 ρ (⟨a1.args, a1.con⟩ : Sm) (fun (r2 : Bool) => k0 (!r2))

/-- slices.ContainsFunc[[]int,int] -/
def Gc68_0 (C : Tab) (ρ : Type) (a1 : List Int) (k0 : (Bool → Option ρ)) : Option ρ :=
  C.c83_0 ρ a1 (fun (r2 : Int) => k0 (decide (r2 ≥ (0 : Int))))

/-- truss/subst.good$2 -/
def Gc69_0 (C : Tab) (ρ : Type) (a1 : Int) (k0 : (Bool → Option ρ)) : Option ρ :=
  cond (decide (a1 < (0 : Int))) (k0 true) (k0 (decide (a1 > (9999 : Int))))

/-- truss/term.Under -/
def Gc70_0 (C : Tab) (ρ : Type) (a1 : Tm) (a2 : Int) (k0 : (Int → Option ρ)) : Option ρ :=
  cond (a1.op == (3 : Int)) (k0 (1 : Int)) (cond (a1.op == (2 : Int)) (cond (a2 == (1 : Int)) (k0 (1 : Int)) (k0 (0 : Int))) (k0 (0 : Int)))

/-- truss/subst.kept -/
def Gc71_0 (C : Tab) (ρ : Type) (a1 : Tm) (k0 : (Int → Option ρ)) (k1 : (Tm → Option ρ)) : Option ρ :=
  C.c53_0 ρ (⟨a1.op, a1.head, a1.n, a1.args⟩ : Tm) (fun (r2 : Int) => cond (r2 != (0 : Int)) (C.c62_0 ρ (5 : Int) (fun (r3 : Int) => k0 r3)) (k1 (⟨a1.op, a1.head, a1.n, a1.args⟩ : Tm)))

/-- truss/trussref03.below -/
def Gc72_0 (C : Tab) (ρ : Type) (a1 : Tm) (a2 : Int) (k0 : (Int → Option ρ)) : Option ρ :=
  cond (a1.op == (3 : Int)) (k0 (1 : Int)) (cond (a1.op == (2 : Int)) (cond (a2 == (1 : Int)) (k0 (1 : Int)) (k0 (0 : Int))) (k0 (0 : Int)))

/-- truss/term.Lam -/
def Gc73_0 (C : Tab) (ρ : Type) (a1 : Tm) (k0 : (Tm → Option ρ)) : Option ρ :=
  k0 (⟨(3 : Int), (0 : Int), (0 : Int), [(⟨a1.op, a1.head, a1.n, a1.args⟩ : Tm)]⟩ : Tm)

/-- truss/term.proper -/
def Gc74_0 (C : Tab) (ρ : Type) (a1 : Tm) (a2 : Int) (a3 : Int) (k0 : (Bool → Int → Option ρ)) : Option ρ :=
  cond (decide ((IntKind.wrap .i64 (a3 + (1 : Int))) > (600 : Int))) (k0 false (IntKind.wrap .i64 (a3 + (1 : Int)))) (cond (decide (a2 > (40 : Int))) (k0 false (IntKind.wrap .i64 (a3 + (1 : Int)))) (cond (a1.head == (0 : Int)) (cond (a1.op == (1 : Int)) (cond (a1.n == (0 : Int)) (C.l74_17_0 ρ a2 ((List.length a1.args : Nat) : Int) (((List.length a1.args : Nat) : Int) == (0 : Int)) (0 : Int) (IntKind.wrap .i64 (a3 + (1 : Int))) (⟨a1.op, a1.head, a1.n, a1.args⟩ : Tm) (fun (r4 : Bool) (r5 : Int) => k0 r4 r5)) (C.l74_17_0 ρ a2 ((List.length a1.args : Nat) : Int) false (0 : Int) (IntKind.wrap .i64 (a3 + (1 : Int))) (⟨a1.op, a1.head, a1.n, a1.args⟩ : Tm) (fun (r6 : Bool) (r7 : Int) => k0 r6 r7))) (cond (a1.op == (2 : Int)) (cond (a1.n == (0 : Int)) (C.l74_17_0 ρ a2 ((List.length a1.args : Nat) : Int) (((List.length a1.args : Nat) : Int) == (2 : Int)) (0 : Int) (IntKind.wrap .i64 (a3 + (1 : Int))) (⟨a1.op, a1.head, a1.n, a1.args⟩ : Tm) (fun (r8 : Bool) (r9 : Int) => k0 r8 r9)) (C.l74_17_0 ρ a2 ((List.length a1.args : Nat) : Int) false (0 : Int) (IntKind.wrap .i64 (a3 + (1 : Int))) (⟨a1.op, a1.head, a1.n, a1.args⟩ : Tm) (fun (r10 : Bool) (r11 : Int) => k0 r10 r11))) (cond (a1.op == (3 : Int)) (cond (a1.n == (0 : Int)) (C.l74_17_0 ρ a2 ((List.length a1.args : Nat) : Int) (((List.length a1.args : Nat) : Int) == (1 : Int)) (0 : Int) (IntKind.wrap .i64 (a3 + (1 : Int))) (⟨a1.op, a1.head, a1.n, a1.args⟩ : Tm) (fun (r12 : Bool) (r13 : Int) => k0 r12 r13)) (C.l74_17_0 ρ a2 ((List.length a1.args : Nat) : Int) false (0 : Int) (IntKind.wrap .i64 (a3 + (1 : Int))) (⟨a1.op, a1.head, a1.n, a1.args⟩ : Tm) (fun (r14 : Bool) (r15 : Int) => k0 r14 r15))) (cond (a1.op == (4 : Int)) (cond (decide (a1.head ≥ (1 : Int))) (cond (decide (a1.head ≤ (3 : Int))) (cond (decide (a1.n ≥ (0 : Int))) (C.l74_17_0 ρ a2 ((List.length a1.args : Nat) : Int) (decide (a1.n ≤ (9999 : Int))) (0 : Int) (IntKind.wrap .i64 (a3 + (1 : Int))) (⟨a1.op, a1.head, a1.n, a1.args⟩ : Tm) (fun (r16 : Bool) (r17 : Int) => k0 r16 r17)) (C.l74_17_0 ρ a2 ((List.length a1.args : Nat) : Int) false (0 : Int) (IntKind.wrap .i64 (a3 + (1 : Int))) (⟨a1.op, a1.head, a1.n, a1.args⟩ : Tm) (fun (r18 : Bool) (r19 : Int) => k0 r18 r19))) (C.l74_17_0 ρ a2 ((List.length a1.args : Nat) : Int) false (0 : Int) (IntKind.wrap .i64 (a3 + (1 : Int))) (⟨a1.op, a1.head, a1.n, a1.args⟩ : Tm) (fun (r20 : Bool) (r21 : Int) => k0 r20 r21))) (C.l74_17_0 ρ a2 ((List.length a1.args : Nat) : Int) false (0 : Int) (IntKind.wrap .i64 (a3 + (1 : Int))) (⟨a1.op, a1.head, a1.n, a1.args⟩ : Tm) (fun (r22 : Bool) (r23 : Int) => k0 r22 r23))) (k0 false (IntKind.wrap .i64 (a3 + (1 : Int)))))))) (cond (a1.op == (1 : Int)) (C.l74_17_0 ρ a2 ((List.length a1.args : Nat) : Int) false (0 : Int) (IntKind.wrap .i64 (a3 + (1 : Int))) (⟨a1.op, a1.head, a1.n, a1.args⟩ : Tm) (fun (r24 : Bool) (r25 : Int) => k0 r24 r25)) (cond (a1.op == (2 : Int)) (C.l74_17_0 ρ a2 ((List.length a1.args : Nat) : Int) false (0 : Int) (IntKind.wrap .i64 (a3 + (1 : Int))) (⟨a1.op, a1.head, a1.n, a1.args⟩ : Tm) (fun (r26 : Bool) (r27 : Int) => k0 r26 r27)) (cond (a1.op == (3 : Int)) (C.l74_17_0 ρ a2 ((List.length a1.args : Nat) : Int) false (0 : Int) (IntKind.wrap .i64 (a3 + (1 : Int))) (⟨a1.op, a1.head, a1.n, a1.args⟩ : Tm) (fun (r28 : Bool) (r29 : Int) => k0 r28 r29)) (cond (a1.op == (4 : Int)) (cond (decide (a1.head ≥ (1 : Int))) (cond (decide (a1.head ≤ (3 : Int))) (cond (decide (a1.n ≥ (0 : Int))) (C.l74_17_0 ρ a2 ((List.length a1.args : Nat) : Int) (decide (a1.n ≤ (9999 : Int))) (0 : Int) (IntKind.wrap .i64 (a3 + (1 : Int))) (⟨a1.op, a1.head, a1.n, a1.args⟩ : Tm) (fun (r30 : Bool) (r31 : Int) => k0 r30 r31)) (C.l74_17_0 ρ a2 ((List.length a1.args : Nat) : Int) false (0 : Int) (IntKind.wrap .i64 (a3 + (1 : Int))) (⟨a1.op, a1.head, a1.n, a1.args⟩ : Tm) (fun (r32 : Bool) (r33 : Int) => k0 r32 r33))) (C.l74_17_0 ρ a2 ((List.length a1.args : Nat) : Int) false (0 : Int) (IntKind.wrap .i64 (a3 + (1 : Int))) (⟨a1.op, a1.head, a1.n, a1.args⟩ : Tm) (fun (r34 : Bool) (r35 : Int) => k0 r34 r35))) (C.l74_17_0 ρ a2 ((List.length a1.args : Nat) : Int) false (0 : Int) (IntKind.wrap .i64 (a3 + (1 : Int))) (⟨a1.op, a1.head, a1.n, a1.args⟩ : Tm) (fun (r36 : Bool) (r37 : Int) => k0 r36 r37))) (k0 false (IntKind.wrap .i64 (a3 + (1 : Int))))))))))

/-- truss/term.Map -/
def Gc75_0 (C : Tab) (ρ : Type) (a1 : Tm) (a2 : Int) (k0 : (Tm → Option ρ)) : Option ρ :=
  C.c76_0 ρ (⟨a1.op, a1.head, a1.n, []⟩ : Tm) a2 (fun (r3 : Tm) => C.l75_3_0 ρ a2 a1.args ((List.length a1.args : Nat) : Int) (0 : Int) (⟨a1.op, a1.head, a1.n, a1.args⟩ : Tm) (⟨(0 : Int), (0 : Int), (0 : Int), []⟩ : Tm) (⟨r3.op, r3.head, r3.n, r3.args⟩ : Tm) (fun (r4 : Tm) (r5 : Tm) (r6 : Tm) => k0 (⟨r6.op, r6.head, r6.n, r6.args⟩ : Tm)))

/-- truss/term.Map -/
def Gc75_1 (C : Tab) (ρ : Type) (a1 : Tm) (a2 : Int) (a3 : Int) (a4 : Int) (k0 : (Tm → Int → Int → Option ρ)) : Option ρ :=
  C.c89_0 ρ (⟨a1.op, a1.head, a1.n, []⟩ : Tm) a2 a3 a4 (fun (r5 : Tm) (r6 : Int) (r7 : Int) => C.l75_3_1 ρ a2 a1.args ((List.length a1.args : Nat) : Int) (0 : Int) r6 r7 (⟨a1.op, a1.head, a1.n, a1.args⟩ : Tm) (⟨(0 : Int), (0 : Int), (0 : Int), []⟩ : Tm) (⟨r5.op, r5.head, r5.n, r5.args⟩ : Tm) (fun (r8 : Int) (r9 : Int) (r10 : Tm) (r11 : Tm) (r12 : Tm) => k0 (⟨r12.op, r12.head, r12.n, r12.args⟩ : Tm) r8 r9))

/-- truss/term.Copy$1 -/
def Gc76_0 (C : Tab) (ρ : Type) (a1 : Tm) (a2 : Int) (k0 : (Tm → Option ρ)) : Option ρ :=
  k0 (⟨a1.op, a1.head, a1.n, a1.args⟩ : Tm)

/-- truss/term.Shift -/
def Gc77_0 (C : Tab) (ρ : Type) (a1 : Tm) (a2 : Int) (a3 : Int) (k0 : (Tm → Int → Option ρ)) : Option ρ :=
  C.c53_0 ρ (⟨a1.op, a1.head, a1.n, a1.args⟩ : Tm) (fun (r4 : Int) => cond (r4 != (0 : Int)) (k0 (⟨(0 : Int), (0 : Int), (0 : Int), []⟩ : Tm) (2 : Int)) (cond (decide (a2 < (-9999 : Int))) (k0 (⟨(0 : Int), (0 : Int), (0 : Int), []⟩ : Tm) (2 : Int)) (cond (decide (a2 > (9999 : Int))) (k0 (⟨(0 : Int), (0 : Int), (0 : Int), []⟩ : Tm) (2 : Int)) (cond (decide (a3 < (0 : Int))) (k0 (⟨(0 : Int), (0 : Int), (0 : Int), []⟩ : Tm) (2 : Int)) (cond (decide (a3 > (9999 : Int))) (k0 (⟨(0 : Int), (0 : Int), (0 : Int), []⟩ : Tm) (2 : Int)) (C.c84_0 ρ (⟨a1.op, a1.head, a1.n, a1.args⟩ : Tm) (0 : Int) a3 false a2 false (fun (r5 : Int) (r6 : Bool) (r7 : Int) (r8 : Bool) => cond r6 (k0 (⟨(0 : Int), (0 : Int), (0 : Int), []⟩ : Tm) (27 : Int)) (cond r8 (k0 (⟨(0 : Int), (0 : Int), (0 : Int), []⟩ : Tm) (5 : Int)) (C.c86_0 ρ (⟨a1.op, a1.head, a1.n, a1.args⟩ : Tm) r7 r5 (fun (r9 : Tm) => k0 (⟨r9.op, r9.head, r9.n, r9.args⟩ : Tm) (0 : Int)))))))))))

/-- truss/trussref04.moved -/
def Gc78_0 (C : Tab) (ρ : Type) (a1 : Tm) (a2 : Int) (a3 : Int) (k0 : (Tm → Option ρ)) : Option ρ :=
  cond (a1.op == (4 : Int)) (cond (a1.head == (1 : Int)) (cond (decide (a1.n ≥ a3)) (C.l78_6_0 ρ a2 a3 (0 : Int) (⟨a1.op, a1.head, a1.n, a1.args⟩ : Tm) (⟨(0 : Int), (0 : Int), (0 : Int), []⟩ : Tm) (⟨a1.op, a1.head, (IntKind.wrap .i64 (a1.n + a2)), []⟩ : Tm) (fun (r4 : Tm) (r5 : Tm) (r6 : Tm) => k0 (⟨r6.op, r6.head, r6.n, r6.args⟩ : Tm))) (C.l78_6_0 ρ a2 a3 (0 : Int) (⟨a1.op, a1.head, a1.n, a1.args⟩ : Tm) (⟨(0 : Int), (0 : Int), (0 : Int), []⟩ : Tm) (⟨a1.op, a1.head, a1.n, []⟩ : Tm) (fun (r7 : Tm) (r8 : Tm) (r9 : Tm) => k0 (⟨r9.op, r9.head, r9.n, r9.args⟩ : Tm)))) (C.l78_6_0 ρ a2 a3 (0 : Int) (⟨a1.op, a1.head, a1.n, a1.args⟩ : Tm) (⟨(0 : Int), (0 : Int), (0 : Int), []⟩ : Tm) (⟨a1.op, a1.head, a1.n, []⟩ : Tm) (fun (r10 : Tm) (r11 : Tm) (r12 : Tm) => k0 (⟨r12.op, r12.head, r12.n, r12.args⟩ : Tm)))) (C.l78_6_0 ρ a2 a3 (0 : Int) (⟨a1.op, a1.head, a1.n, a1.args⟩ : Tm) (⟨(0 : Int), (0 : Int), (0 : Int), []⟩ : Tm) (⟨a1.op, a1.head, a1.n, []⟩ : Tm) (fun (r13 : Tm) (r14 : Tm) (r15 : Tm) => k0 (⟨r15.op, r15.head, r15.n, r15.args⟩ : Tm)))

/-- truss/term.simple -/
def Gc79_0 (C : Tab) (ρ : Type) (a1 : Tm) (k0 : (Sm → Int → Option ρ)) : Option ρ :=
  C.c87_0 ρ (⟨a1.op, a1.head, a1.n, a1.args⟩ : Tm) (fun (r2 : List Tm) (r3 : Tm) => cond (r3.op != (4 : Int)) (k0 (⟨[], (0 : Int)⟩ : Sm) (22 : Int)) (cond (r3.head != (2 : Int)) (k0 (⟨[], (0 : Int)⟩ : Sm) (22 : Int)) (C.l79_6_0 ρ r2 ((List.length r2 : Nat) : Int) (0 : Int) (⟨a1.op, a1.head, a1.n, a1.args⟩ : Tm) (⟨[], (0 : Int)⟩ : Sm) (⟨r3.op, r3.head, r3.n, r3.args⟩ : Tm) (⟨[], r3.n⟩ : Sm) (fun (r4 : Int) (r5 : Tm) (r6 : Sm) => k0 (⟨r6.args, r6.con⟩ : Sm) r4) (fun (r7 : Tm) (r8 : Sm) (r9 : Tm) (r10 : Sm) => k0 (⟨r10.args, r10.con⟩ : Sm) (0 : Int)))))

/-- truss/subst.small -/
def Gc80_0 (C : Tab) (ρ : Type) (a1 : Sm) (a2 : Int) (k0 : (Bool → Int → Option ρ)) : Option ρ :=
  cond (decide ((IntKind.wrap .i64 (a2 + (1 : Int))) > (600 : Int))) (k0 false (IntKind.wrap .i64 (a2 + (1 : Int)))) (cond (decide (a1.con < (0 : Int))) (k0 false (IntKind.wrap .i64 (a2 + (1 : Int)))) (cond (decide (a1.con > (9999 : Int))) (k0 false (IntKind.wrap .i64 (a2 + (1 : Int)))) (C.c66_1 ρ a1.args (IntKind.wrap .i64 (a2 + (1 : Int))) (fun (r3 : Bool) (r4 : Int) => k0 (!r3) r4))))

/-- truss/trussref03.Simple -/
def Gc81_0 (C : Tab) (ρ : Type) (a1 : Tm) (k0 : (Sm → Bool → Option ρ)) : Option ρ :=
  cond (a1.op == (4 : Int)) (cond (a1.head == (2 : Int)) (k0 (⟨[], a1.n⟩ : Sm) true) (cond (a1.op == (2 : Int)) (cond (decide ((0 : Int) ≤ (0 : Int)) && decide ((0 : Int) < ((List.length a1.args : Nat) : Int))) (C.c81_0 ρ (⟨(rdEl lay Key.tm a1.args (0 : Int)).op, (rdEl lay Key.tm a1.args (0 : Int)).head, (rdEl lay Key.tm a1.args (0 : Int)).n, (rdEl lay Key.tm a1.args (0 : Int)).args⟩ : Tm) (fun (r2 : Sm) (r3 : Bool) => cond (decide ((0 : Int) ≤ (1 : Int)) && decide ((1 : Int) < ((List.length a1.args : Nat) : Int))) (C.c81_0 ρ (⟨(rdEl lay Key.tm a1.args (1 : Int)).op, (rdEl lay Key.tm a1.args (1 : Int)).head, (rdEl lay Key.tm a1.args (1 : Int)).n, (rdEl lay Key.tm a1.args (1 : Int)).args⟩ : Tm) (fun (r4 : Sm) (r5 : Bool) => cond (!r3) (k0 (⟨[], (0 : Int)⟩ : Sm) false) (cond (!r5) (k0 (⟨[], (0 : Int)⟩ : Sm) false) (cond (decide ((List.length [(⟨r2.args, r2.con⟩ : Sm)] + List.length r4.args) * 32 ≤ 140737488355328)) (k0 (⟨(([(⟨r2.args, r2.con⟩ : Sm)] : List Sm) ++ (r4.args : List Sm)), r4.con⟩ : Sm) true) (none))))) (none))) (none)) (k0 (⟨[], (0 : Int)⟩ : Sm) false))) (cond (a1.op == (2 : Int)) (cond (decide ((0 : Int) ≤ (0 : Int)) && decide ((0 : Int) < ((List.length a1.args : Nat) : Int))) (C.c81_0 ρ (⟨(rdEl lay Key.tm a1.args (0 : Int)).op, (rdEl lay Key.tm a1.args (0 : Int)).head, (rdEl lay Key.tm a1.args (0 : Int)).n, (rdEl lay Key.tm a1.args (0 : Int)).args⟩ : Tm) (fun (r6 : Sm) (r7 : Bool) => cond (decide ((0 : Int) ≤ (1 : Int)) && decide ((1 : Int) < ((List.length a1.args : Nat) : Int))) (C.c81_0 ρ (⟨(rdEl lay Key.tm a1.args (1 : Int)).op, (rdEl lay Key.tm a1.args (1 : Int)).head, (rdEl lay Key.tm a1.args (1 : Int)).n, (rdEl lay Key.tm a1.args (1 : Int)).args⟩ : Tm) (fun (r8 : Sm) (r9 : Bool) => cond (!r7) (k0 (⟨[], (0 : Int)⟩ : Sm) false) (cond (!r9) (k0 (⟨[], (0 : Int)⟩ : Sm) false) (cond (decide ((List.length [(⟨r6.args, r6.con⟩ : Sm)] + List.length r8.args) * 32 ≤ 140737488355328)) (k0 (⟨(([(⟨r6.args, r6.con⟩ : Sm)] : List Sm) ++ (r8.args : List Sm)), r8.con⟩ : Sm) true) (none))))) (none))) (none)) (k0 (⟨[], (0 : Int)⟩ : Sm) false))

/-- slices.IndexFunc[[]truss/api.Simple,truss/api.Simple] -/
def Gc82_0 (C : Tab) (ρ : Type) (a1 : List Sm) (k0 : (Int → Option ρ)) : Option ρ :=
  C.l82_2_0 ρ a1 ((List.length a1 : Nat) : Int) (0 : Int) (k0 (-1 : Int)) (fun (r2 : Int) => k0 r2)

/-- slices.IndexFunc[[]truss/api.Simple,truss/api.Simple] -/
def Gc82_1 (C : Tab) (ρ : Type) (a1 : List Sm) (a2 : Int) (k0 : (Int → Int → Option ρ)) : Option ρ :=
  C.l82_2_1 ρ a1 ((List.length a1 : Nat) : Int) (0 : Int) a2 (fun (r3 : Int) => k0 (-1 : Int) r3) (fun (r4 : Int) (r5 : Int) => k0 r4 r5)

/-- slices.IndexFunc[[]int,int] -/
def Gc83_0 (C : Tab) (ρ : Type) (a1 : List Int) (k0 : (Int → Option ρ)) : Option ρ :=
  C.l83_2_0 ρ a1 ((List.length a1 : Nat) : Int) (0 : Int) (k0 (-1 : Int)) (fun (r2 : Int) => k0 r2)

/-- truss/term.Each -/
def Gc84_0 (C : Tab) (ρ : Type) (a1 : Tm) (a2 : Int) (a3 : Int) (a4 : Bool) (a5 : Int) (a6 : Bool) (k0 : (Int → Bool → Int → Bool → Option ρ)) : Option ρ :=
  C.c85_0 ρ (⟨a1.op, a1.head, a1.n, a1.args⟩ : Tm) a2 a3 a4 a5 a6 (fun (r7 : Int) (r8 : Bool) (r9 : Int) (r10 : Bool) => C.l84_3_0 ρ a2 a1.args ((List.length a1.args : Nat) : Int) (0 : Int) r7 r8 r9 r10 (⟨a1.op, a1.head, a1.n, a1.args⟩ : Tm) (fun (r11 : Int) (r12 : Bool) (r13 : Int) (r14 : Bool) => k0 r11 r12 r13 r14))

/-- truss/term.Shift$1 -/
def Gc85_0 (C : Tab) (ρ : Type) (a1 : Tm) (a2 : Int) (a3 : Int) (a4 : Bool) (a5 : Int) (a6 : Bool) (k0 : (Int → Bool → Int → Bool → Option ρ)) : Option ρ :=
  cond (a1.op == (4 : Int)) (cond (a1.head == (1 : Int)) (cond (decide ((IntKind.wrap .i64 (a1.n - a2)) ≥ a3)) (cond a4 (cond a6 (k0 a3 true a5 true) (k0 a3 true a5 (decide ((IntKind.wrap .i64 (a1.n + a5)) > (9999 : Int))))) (cond (decide (a5 < (0 : Int))) (cond a6 (k0 a3 (decide ((IntKind.wrap .i64 (a1.n - a2)) < (IntKind.wrap .i64 (a3 - a5)))) a5 true) (k0 a3 (decide ((IntKind.wrap .i64 (a1.n - a2)) < (IntKind.wrap .i64 (a3 - a5)))) a5 (decide ((IntKind.wrap .i64 (a1.n + a5)) > (9999 : Int))))) (cond a6 (k0 a3 false a5 true) (k0 a3 false a5 (decide ((IntKind.wrap .i64 (a1.n + a5)) > (9999 : Int))))))) (k0 a3 a4 a5 a6)) (k0 a3 a4 a5 a6)) (k0 a3 a4 a5 a6)

/-- truss/term.Moved -/
def Gc86_0 (C : Tab) (ρ : Type) (a1 : Tm) (a2 : Int) (a3 : Int) (k0 : (Tm → Option ρ)) : Option ρ :=
  C.c75_1 ρ (⟨a1.op, a1.head, a1.n, a1.args⟩ : Tm) (0 : Int) a3 a2 (fun (r4 : Tm) (r5 : Int) (r6 : Int) => k0 (⟨r4.op, r4.head, r4.n, r4.args⟩ : Tm))

/-- truss/term.Domains -/
def Gc87_0 (C : Tab) (ρ : Type) (a1 : Tm) (k0 : ((List Tm) → Tm → Option ρ)) : Option ρ :=
  C.l87_2_0 ρ ([] : List Tm) (⟨a1.op, a1.head, a1.n, a1.args⟩ : Tm) (⟨(0 : Int), (0 : Int), (0 : Int), []⟩ : Tm) (fun (r2 : List Tm) (r3 : Tm) (r4 : Tm) => k0 r2 (⟨r3.op, r3.head, r3.n, r3.args⟩ : Tm))

/-- truss/subst.small$1 -/
def Gc88_0 (C : Tab) (ρ : Type) (a1 : Sm) (a2 : Int) (k0 : (Bool → Int → Option ρ)) : Option ρ :=
  C.c80_0 ρ (⟨a1.args, a1.con⟩ : Sm) a2 (fun (r3 : Bool) (r4 : Int) => k0 (!r3) r4)

/-- truss/term.Moved$1 -/
def Gc89_0 (C : Tab) (ρ : Type) (a1 : Tm) (a2 : Int) (a3 : Int) (a4 : Int) (k0 : (Tm → Int → Int → Option ρ)) : Option ρ :=
  cond (a1.op == (4 : Int)) (cond (a1.head == (1 : Int)) (cond (decide ((IntKind.wrap .i64 (a1.n - a2)) ≥ a3)) (k0 (⟨a1.op, a1.head, (IntKind.wrap .i64 (a1.n + a4)), a1.args⟩ : Tm) a3 a4) (k0 (⟨a1.op, a1.head, a1.n, a1.args⟩ : Tm) a3 a4)) (k0 (⟨a1.op, a1.head, a1.n, a1.args⟩ : Tm) a3 a4)) (k0 (⟨a1.op, a1.head, a1.n, a1.args⟩ : Tm) a3 a4)

/-- a loop of truss/trusslaw04.SubstSteps -/
def Gl13_4_0 (C : Tab) (ρ : Type) (a1 : List Tm) (a2 : Int) (a3 : Int) (a4 : Tm) (a5 : Sm) (k0 : ((List Tm) → Tm → Sm → Option ρ)) (k1 : (Bool → Option ρ)) : Option ρ :=
  cond (decide (a3 < a2)) (cond (decide ((0 : Int) ≤ a3) && decide (a3 < ((List.length a1 : Nat) : Int))) (C.c18_0 ρ (⟨(rdEl lay Key.tm a1 a3).op, (rdEl lay Key.tm a1 a3).head, (rdEl lay Key.tm a1 a3).n, (rdEl lay Key.tm a1 a3).args⟩ : Tm) (fun (r6 : Bool) => cond (!r6) (C.c17_0 ρ (fun (r7 : Bool) => k1 r7)) (C.l13_4_0 ρ a1 a2 (IntKind.wrap .i64 (a3 + (1 : Int))) (⟨a4.op, a4.head, a4.n, a4.args⟩ : Tm) (⟨a5.args, a5.con⟩ : Sm) k0 k1))) (none)) (k0 a1 (⟨a4.op, a4.head, a4.n, a4.args⟩ : Tm) (⟨a5.args, a5.con⟩ : Sm))

/-- a loop of truss/trusslaw04.right -/
def Gl22_4_0 (C : Tab) (ρ : Type) (a1 : List Sm) (a2 : Int) (a3 : Int) (a4 : List Sm) (a5 : List Sm) (a6 : Int) (a7 : Int) (a8 : Int) (a9 : List Tm) (a10 : List Sm) (a11 : Int) (k0 : (Bool → Option ρ)) (k1 : ((List Sm) → (List Sm) → Int → Int → Int → (List Tm) → (List Sm) → Int → Option ρ)) : Option ρ :=
  cond (decide (a3 < a2)) (cond (decide ((0 : Int) ≤ a3) && decide (a3 < ((List.length a1 : Nat) : Int))) (C.c19_0 ρ (⟨(rdEl lay Key.sm a1 a3).args, (rdEl lay Key.sm a1 a3).con⟩ : Sm) (fun (r12 : Bool) => cond (!r12) (k0 false) (C.l22_4_0 ρ a1 a2 (IntKind.wrap .i64 (a3 + (1 : Int))) a4 a5 a6 a7 a8 a9 a10 a11 k0 k1))) (none)) (k1 a4 a5 a6 a7 a8 a9 a10 a11)

/-- a loop of truss/trusslaw04.right -/
def Gl22_10_0 (C : Tab) (ρ : Type) (a1 : List Sm) (a2 : Int) (a3 : Int) (a4 : List Sm) (a5 : List Sm) (a6 : Int) (a7 : Int) (a8 : Int) (a9 : List Tm) (a10 : List Sm) (a11 : Int) (k0 : (Bool → Option ρ)) (k1 : ((List Sm) → (List Sm) → Int → Int → Int → (List Tm) → (List Sm) → Int → Option ρ)) : Option ρ :=
  cond (decide (a3 < a2)) (cond (decide ((0 : Int) ≤ a3) && decide (a3 < ((List.length a1 : Nat) : Int))) (C.c19_0 ρ (⟨(rdEl lay Key.sm a1 a3).args, (rdEl lay Key.sm a1 a3).con⟩ : Sm) (fun (r12 : Bool) => cond (!r12) (k0 false) (C.l22_10_0 ρ a1 a2 (IntKind.wrap .i64 (a3 + (1 : Int))) a4 a5 a6 a7 a8 a9 a10 a11 k0 k1))) (none)) (k1 a4 a5 a6 a7 a8 a9 a10 a11)

/-- a loop of truss/trusslaw04.fits -/
def Gl23_2_0 (C : Tab) (ρ : Type) (a1 : List Sm) (a2 : List Sm) (a3 : List Sm) (a4 : Int) (a5 : Int) (a6 : Tm) (a7 : Sm) (k0 : (Bool → Option ρ)) (k1 : ((List Sm) → (List Sm) → Tm → Sm → Option ρ)) : Option ρ :=
  cond (decide (a5 < a4)) (cond (decide ((0 : Int) ≤ a5) && decide (a5 < ((List.length a3 : Nat) : Int))) (cond (a6.op != (3 : Int)) (k0 false) (cond (((List.length a6.args : Nat) : Int) != (1 : Int)) (k0 false) (cond (decide ((List.length ([] : List Sm) + List.length a2) * 32 ≤ 140737488355328)) (cond (decide ((List.length (([] : List Sm) ++ (a2 : List Sm)) + List.length [(⟨(rdEl lay Key.sm a3 a5).args, (rdEl lay Key.sm a3 a5).con⟩ : Sm)]) * 32 ≤ 140737488355328)) (cond (decide ((0 : Int) ≤ (0 : Int)) && decide ((0 : Int) < ((List.length a6.args : Nat) : Int))) (C.l23_2_0 ρ a1 (((([] : List Sm) ++ (a2 : List Sm)) : List Sm) ++ ([(⟨(rdEl lay Key.sm a3 a5).args, (rdEl lay Key.sm a3 a5).con⟩ : Sm)] : List Sm)) a3 a4 (IntKind.wrap .i64 (a5 + (1 : Int))) (⟨(rdEl lay Key.tm a6.args (0 : Int)).op, (rdEl lay Key.tm a6.args (0 : Int)).head, (rdEl lay Key.tm a6.args (0 : Int)).n, (rdEl lay Key.tm a6.args (0 : Int)).args⟩ : Tm) (⟨a7.args, a7.con⟩ : Sm) k0 k1) (none)) (none)) (none)))) (none)) (k1 a1 a2 (⟨a6.op, a6.head, a6.n, a6.args⟩ : Tm) (⟨a7.args, a7.con⟩ : Sm))

/-- a loop of truss/trusslaw04.fits -/
def Gl23_23_0 (C : Tab) (ρ : Type) (a1 : List Sm) (a2 : List Sm) (a3 : Int) (a4 : Int) (a5 : Tm) (a6 : Sm) (a7 : Sm) (k0 : (Bool → Option ρ)) (k1 : Option ρ) : Option ρ :=
  cond (decide (a4 < a3)) (cond (decide ((0 : Int) ≤ a4) && decide (a4 < ((List.length a5.args : Nat) : Int))) (cond (decide ((0 : Int) ≤ a4) && decide (a4 < ((List.length a7.args : Nat) : Int))) (C.c23_0 ρ a1 a2 (⟨(rdEl lay Key.tm a5.args a4).op, (rdEl lay Key.tm a5.args a4).head, (rdEl lay Key.tm a5.args a4).n, (rdEl lay Key.tm a5.args a4).args⟩ : Tm) (⟨(rdEl lay Key.sm a7.args a4).args, (rdEl lay Key.sm a7.args a4).con⟩ : Sm) (fun (r8 : Bool) => cond (!r8) (k0 false) (C.l23_23_0 ρ a1 a2 a3 (IntKind.wrap .i64 (a4 + (1 : Int))) (⟨a5.op, a5.head, a5.n, a5.args⟩ : Tm) (⟨a6.args, a6.con⟩ : Sm) (⟨a7.args, a7.con⟩ : Sm) k0 k1))) (none)) (none)) (k1)

/-- a loop of truss/trussref03.Same -/
def Gl26_4_0 (C : Tab) (ρ : Type) (a1 : Int) (a2 : Tm) (a3 : Tm) (k0 : (Bool → Option ρ)) (k1 : Option ρ) : Option ρ :=
  cond (decide (a1 < ((List.length a2.args : Nat) : Int))) (cond (decide ((0 : Int) ≤ a1) && decide (a1 < ((List.length a2.args : Nat) : Int))) (cond (decide ((0 : Int) ≤ a1) && decide (a1 < ((List.length a3.args : Nat) : Int))) (C.c26_0 ρ (⟨(rdEl lay Key.tm a2.args a1).op, (rdEl lay Key.tm a2.args a1).head, (rdEl lay Key.tm a2.args a1).n, (rdEl lay Key.tm a2.args a1).args⟩ : Tm) (⟨(rdEl lay Key.tm a3.args a1).op, (rdEl lay Key.tm a3.args a1).head, (rdEl lay Key.tm a3.args a1).n, (rdEl lay Key.tm a3.args a1).args⟩ : Tm) (fun (r4 : Bool) => cond (!r4) (k0 false) (C.l26_4_0 ρ (IntKind.wrap .i64 (a1 + (1 : Int))) (⟨a2.op, a2.head, a2.n, a2.args⟩ : Tm) (⟨a3.op, a3.head, a3.n, a3.args⟩ : Tm) k0 k1))) (none)) (none)) (k1)

/-- a loop of truss/trussref03.SameSimple -/
def Gl27_4_0 (C : Tab) (ρ : Type) (a1 : Int) (a2 : Sm) (a3 : Sm) (k0 : (Bool → Option ρ)) (k1 : Option ρ) : Option ρ :=
  cond (decide (a1 < ((List.length a2.args : Nat) : Int))) (cond (decide ((0 : Int) ≤ a1) && decide (a1 < ((List.length a2.args : Nat) : Int))) (cond (decide ((0 : Int) ≤ a1) && decide (a1 < ((List.length a3.args : Nat) : Int))) (C.c27_0 ρ (⟨(rdEl lay Key.sm a2.args a1).args, (rdEl lay Key.sm a2.args a1).con⟩ : Sm) (⟨(rdEl lay Key.sm a3.args a1).args, (rdEl lay Key.sm a3.args a1).con⟩ : Sm) (fun (r4 : Bool) => cond (!r4) (k0 false) (C.l27_4_0 ρ (IntKind.wrap .i64 (a1 + (1 : Int))) (⟨a2.args, a2.con⟩ : Sm) (⟨a3.args, a3.con⟩ : Sm) k0 k1))) (none)) (none)) (k1)

/-- a loop of truss/trusslaw04.renamed -/
def Gl29_9_0 (C : Tab) (ρ : Type) (a1 : Int) (a2 : Int) (a3 : Int) (a4 : Int) (a5 : Int) (a6 : Tm) (a7 : Tm) (a8 : Tm) (k0 : (Tm → Tm → Tm → Option ρ)) : Option ρ :=
  cond (decide (a5 < a4)) (cond (a6.op == (3 : Int)) (cond (decide ((0 : Int) ≤ a5) && decide (a5 < ((List.length a6.args : Nat) : Int))) (C.c29_0 ρ (⟨(rdEl lay Key.tm a6.args a5).op, (rdEl lay Key.tm a6.args a5).head, (rdEl lay Key.tm a6.args a5).n, (rdEl lay Key.tm a6.args a5).args⟩ : Tm) a1 a2 (IntKind.wrap .i64 (a3 + (1 : Int))) (fun (r9 : Tm) => cond (decide ((List.length a8.args + List.length [(⟨r9.op, r9.head, r9.n, r9.args⟩ : Tm)]) * 48 ≤ 140737488355328)) (C.l29_9_0 ρ a1 a2 a3 a4 (IntKind.wrap .i64 (a5 + (1 : Int))) (⟨a6.op, a6.head, a6.n, a6.args⟩ : Tm) (⟨a7.op, a7.head, a7.n, a7.args⟩ : Tm) (⟨a8.op, a8.head, a8.n, ((a8.args : List Tm) ++ ([(⟨r9.op, r9.head, r9.n, r9.args⟩ : Tm)] : List Tm))⟩ : Tm) k0) (none))) (none)) (cond (decide ((0 : Int) ≤ a5) && decide (a5 < ((List.length a6.args : Nat) : Int))) (C.c29_0 ρ (⟨(rdEl lay Key.tm a6.args a5).op, (rdEl lay Key.tm a6.args a5).head, (rdEl lay Key.tm a6.args a5).n, (rdEl lay Key.tm a6.args a5).args⟩ : Tm) a1 a2 (IntKind.wrap .i64 (a3 + (0 : Int))) (fun (r10 : Tm) => cond (decide ((List.length a8.args + List.length [(⟨r10.op, r10.head, r10.n, r10.args⟩ : Tm)]) * 48 ≤ 140737488355328)) (C.l29_9_0 ρ a1 a2 a3 a4 (IntKind.wrap .i64 (a5 + (1 : Int))) (⟨a6.op, a6.head, a6.n, a6.args⟩ : Tm) (⟨a7.op, a7.head, a7.n, a7.args⟩ : Tm) (⟨a8.op, a8.head, a8.n, ((a8.args : List Tm) ++ ([(⟨r10.op, r10.head, r10.n, r10.args⟩ : Tm)] : List Tm))⟩ : Tm) k0) (none))) (none))) (k0 (⟨a6.op, a6.head, a6.n, a6.args⟩ : Tm) (⟨a7.op, a7.head, a7.n, a7.args⟩ : Tm) (⟨a8.op, a8.head, a8.n, a8.args⟩ : Tm))

/-- a loop of truss/subst.Many -/
def Gl32_6_0 (C : Tab) (ρ : Type) (a1 : List Tm) (a2 : List Sm) (a3 : List Tm) (a4 : Int) (a5 : Int) (a6 : Tm) (a7 : Tm) (a8 : Int) (a9 : Int) (k0 : (Tm → Tm → Int → Option ρ)) (k1 : (Tm → Tm → Int → Int → Option ρ)) : Option ρ :=
  cond (decide (a5 < a4)) (cond (decide ((0 : Int) ≤ a5) && decide (a5 < ((List.length a3 : Nat) : Int))) (cond (decide ((0 : Int) ≤ a5) && decide (a5 < ((List.length a2 : Nat) : Int))) (C.c58_0 ρ (⟨(rdEl lay Key.tm a3 a5).op, (rdEl lay Key.tm a3 a5).head, (rdEl lay Key.tm a3 a5).n, (rdEl lay Key.tm a3 a5).args⟩ : Tm) (IntKind.wrap .i64 ((IntKind.wrap .i64 (((List.length a1 : Nat) : Int) - (1 : Int))) - a5)) (fun (r10 : Int) => k1 (⟨a6.op, a6.head, a6.n, a6.args⟩ : Tm) (⟨a7.op, a7.head, a7.n, a7.args⟩ : Tm) a8 r10) (fun (r11 : Tm) => C.c41_0 ρ (⟨a6.op, a6.head, a6.n, a6.args⟩ : Tm) (0 : Int) (⟨r11.op, r11.head, r11.n, r11.args⟩ : Tm) (⟨(rdEl lay Key.sm a2 a5).args, (rdEl lay Key.sm a2 a5).con⟩ : Sm) a9 (fun (r12 : Int) (r13 : Int) => k1 (⟨a6.op, a6.head, a6.n, a6.args⟩ : Tm) (⟨a7.op, a7.head, a7.n, a7.args⟩ : Tm) a8 r12) (fun (r14 : Tm) (r15 : Int) => C.l32_6_0 ρ a1 a2 a3 a4 (IntKind.wrap .i64 (a5 + (1 : Int))) (⟨r14.op, r14.head, r14.n, r14.args⟩ : Tm) (⟨a7.op, a7.head, a7.n, a7.args⟩ : Tm) a8 r15 k0 k1))) (none)) (none)) (k0 (⟨a6.op, a6.head, a6.n, a6.args⟩ : Tm) (⟨a7.op, a7.head, a7.n, a7.args⟩ : Tm) a8)

/-- a loop of truss/trussref04.Many -/
def Gl33_4_0 (C : Tab) (ρ : Type) (a1 : List Tm) (a2 : List Sm) (a3 : Int) (a4 : Tm) (a5 : Tm) (k0 : (Int → Tm → Tm → Option ρ)) (k1 : ((List Tm) → (List Sm) → Tm → Tm → Option ρ)) : Option ρ :=
  cond (decide (a3 < ((List.length a2 : Nat) : Int))) (cond (decide ((0 : Int) ≤ a3) && decide (a3 < ((List.length a2 : Nat) : Int))) (C.c19_0 ρ (⟨(rdEl lay Key.sm a2 a3).args, (rdEl lay Key.sm a2 a3).con⟩ : Sm) (fun (r6 : Bool) => cond (!r6) (k0 (2 : Int) (⟨a4.op, a4.head, a4.n, a4.args⟩ : Tm) (⟨(0 : Int), (0 : Int), (0 : Int), []⟩ : Tm)) (C.l33_4_0 ρ a1 a2 (IntKind.wrap .i64 (a3 + (1 : Int))) (⟨a4.op, a4.head, a4.n, a4.args⟩ : Tm) (⟨a5.op, a5.head, a5.n, a5.args⟩ : Tm) k0 k1))) (none)) (k1 a1 a2 (⟨a4.op, a4.head, a4.n, a4.args⟩ : Tm) (⟨a5.op, a5.head, a5.n, a5.args⟩ : Tm))

/-- a loop of truss/trussref04.Many -/
def Gl33_10_0 (C : Tab) (ρ : Type) (a1 : List Tm) (a2 : List Sm) (a3 : Int) (a4 : Tm) (a5 : Tm) (a6 : Int) (k0 : (Tm → Tm → Option ρ)) (k1 : (Int → Tm → Tm → Option ρ)) : Option ρ :=
  cond (decide (a3 < ((List.length a1 : Nat) : Int))) (cond (decide ((0 : Int) ≤ a3) && decide (a3 < ((List.length a1 : Nat) : Int))) (C.c60_0 ρ (⟨(rdEl lay Key.tm a1 a3).op, (rdEl lay Key.tm a1 a3).head, (rdEl lay Key.tm a1 a3).n, (rdEl lay Key.tm a1 a3).args⟩ : Tm) (IntKind.wrap .i64 ((IntKind.wrap .i64 (((List.length a1 : Nat) : Int) - (1 : Int))) - a3)) (fun (r7 : Tm) => C.c59_0 ρ (⟨r7.op, r7.head, r7.n, r7.args⟩ : Tm) (fun (r8 : Tm) (r9 : Int) => cond (r9 != (0 : Int)) (k1 r9 (⟨a4.op, a4.head, a4.n, a4.args⟩ : Tm) (⟨(0 : Int), (0 : Int), (0 : Int), []⟩ : Tm)) (cond (decide ((0 : Int) ≤ a3) && decide (a3 < ((List.length a2 : Nat) : Int))) (C.c43_0 ρ (⟨a4.op, a4.head, a4.n, a4.args⟩ : Tm) (0 : Int) (⟨r8.op, r8.head, r8.n, r8.args⟩ : Tm) (⟨(rdEl lay Key.sm a2 a3).args, (rdEl lay Key.sm a2 a3).con⟩ : Sm) a6 (fun (r10 : Tm) (r11 : Int) (r12 : Int) => cond (r11 != (0 : Int)) (k1 r11 (⟨a4.op, a4.head, a4.n, a4.args⟩ : Tm) (⟨(0 : Int), (0 : Int), (0 : Int), []⟩ : Tm)) (C.l33_10_0 ρ a1 a2 (IntKind.wrap .i64 (a3 + (1 : Int))) (⟨r10.op, r10.head, r10.n, r10.args⟩ : Tm) (⟨a5.op, a5.head, a5.n, a5.args⟩ : Tm) r12 k0 k1))) (none))))) (none)) (k0 (⟨a4.op, a4.head, a4.n, a4.args⟩ : Tm) (⟨a5.op, a5.head, a5.n, a5.args⟩ : Tm))

/-- a loop of truss/subst.Short -/
def Gl35_4_0 (C : Tab) (ρ : Type) (a1 : Int) (a2 : Tm) (k0 : (Int → Tm → Option ρ)) : Option ρ :=
  cond (a2.op == (3 : Int)) (cond (decide ((0 : Int) ≤ (0 : Int)) && decide ((0 : Int) < ((List.length a2.args : Nat) : Int))) (C.l35_4_0 ρ (IntKind.wrap .i64 (a1 + (1 : Int))) (⟨(rdEl lay Key.tm a2.args (0 : Int)).op, (rdEl lay Key.tm a2.args (0 : Int)).head, (rdEl lay Key.tm a2.args (0 : Int)).n, (rdEl lay Key.tm a2.args (0 : Int)).args⟩ : Tm) k0) (none)) (k0 a1 (⟨a2.op, a2.head, a2.n, a2.args⟩ : Tm))

/-- a loop of truss/subst.Short -/
def Gl35_10_0 (C : Tab) (ρ : Type) (a1 : Int) (a2 : List Tm) (a3 : Int) (a4 : Int) (a5 : Tm) (k0 : (Int → Int → Int → Option ρ)) (k1 : (Int → Tm → Option ρ)) : Option ρ :=
  cond (decide (a4 < a3)) (cond (decide ((0 : Int) ≤ a4) && decide (a4 < ((List.length a2 : Nat) : Int))) (C.c35_0 ρ (⟨(rdEl lay Key.tm a2 a4).op, (rdEl lay Key.tm a2 a4).head, (rdEl lay Key.tm a2 a4).n, (rdEl lay Key.tm a2 a4).args⟩ : Tm) (fun (r6 : Int) (r7 : Int) (r8 : Int) => cond (r8 != (0 : Int)) (k0 (0 : Int) (0 : Int) (6 : Int)) (cond (r6 != (1 : Int)) (k0 (0 : Int) (0 : Int) (6 : Int)) (cond (r7 != (IntKind.wrap .i64 ((IntKind.wrap .i64 (a1 - (1 : Int))) - a4))) (k0 (0 : Int) (0 : Int) (6 : Int)) (C.l35_10_0 ρ a1 a2 a3 (IntKind.wrap .i64 (a4 + (1 : Int))) (⟨a5.op, a5.head, a5.n, a5.args⟩ : Tm) k0 k1))))) (none)) (k1 a1 (⟨a5.op, a5.head, a5.n, a5.args⟩ : Tm))

/-- a loop of truss/trussref04.Short -/
def Gl36_2_0 (C : Tab) (ρ : Type) (a1 : Int) (a2 : Tm) (k0 : (Int → Tm → Option ρ)) : Option ρ :=
  cond (a2.op == (3 : Int)) (cond (decide ((0 : Int) ≤ (0 : Int)) && decide ((0 : Int) < ((List.length a2.args : Nat) : Int))) (C.l36_2_0 ρ (IntKind.wrap .i64 (a1 + (1 : Int))) (⟨(rdEl lay Key.tm a2.args (0 : Int)).op, (rdEl lay Key.tm a2.args (0 : Int)).head, (rdEl lay Key.tm a2.args (0 : Int)).n, (rdEl lay Key.tm a2.args (0 : Int)).args⟩ : Tm) k0) (none)) (k0 a1 (⟨a2.op, a2.head, a2.n, a2.args⟩ : Tm))

/-- a loop of truss/trussref04.Short -/
def Gl36_8_0 (C : Tab) (ρ : Type) (a1 : Int) (a2 : Int) (a3 : Tm) (k0 : (Int → Int → Bool → Option ρ)) (k1 : (Int → Tm → Option ρ)) : Option ρ :=
  cond (decide (a2 < a1)) (cond (decide ((0 : Int) ≤ a2) && decide (a2 < ((List.length a3.args : Nat) : Int))) (C.c36_0 ρ (⟨(rdEl lay Key.tm a3.args a2).op, (rdEl lay Key.tm a3.args a2).head, (rdEl lay Key.tm a3.args a2).n, (rdEl lay Key.tm a3.args a2).args⟩ : Tm) (fun (r4 : Int) (r5 : Int) (r6 : Bool) => cond (!r6) (k0 (0 : Int) (0 : Int) false) (cond (r4 != (1 : Int)) (k0 (0 : Int) (0 : Int) false) (cond (r5 != (IntKind.wrap .i64 ((IntKind.wrap .i64 (a1 - (1 : Int))) - a2))) (k0 (0 : Int) (0 : Int) false) (C.l36_8_0 ρ a1 (IntKind.wrap .i64 (a2 + (1 : Int))) (⟨a3.op, a3.head, a3.n, a3.args⟩ : Tm) k0 k1))))) (none)) (k1 a1 (⟨a3.op, a3.head, a3.n, a3.args⟩ : Tm))

/-- a loop of truss/subst.Instance -/
def Gl37_6_0 (C : Tab) (ρ : Type) (a1 : List Tm) (a2 : Int) (a3 : Int) (a4 : Tm) (a5 : Tm) (a6 : Int) (a7 : Int) (k0 : (Tm → Tm → Int → Option ρ)) (k1 : (Tm → Tm → Int → Int → Option ρ)) : Option ρ :=
  cond (decide (a3 < a2)) (cond (decide ((0 : Int) ≤ a3) && decide (a3 < ((List.length a1 : Nat) : Int))) (cond (a4.op != (2 : Int)) (C.c62_0 ρ (23 : Int) (fun (r8 : Int) => k1 (⟨a4.op, a4.head, a4.n, a4.args⟩ : Tm) (⟨a5.op, a5.head, a5.n, a5.args⟩ : Tm) a6 r8)) (cond (decide ((0 : Int) ≤ (0 : Int)) && decide ((0 : Int) < ((List.length a4.args : Nat) : Int))) (C.c63_0 ρ (⟨(rdEl lay Key.tm a4.args (0 : Int)).op, (rdEl lay Key.tm a4.args (0 : Int)).head, (rdEl lay Key.tm a4.args (0 : Int)).n, (rdEl lay Key.tm a4.args (0 : Int)).args⟩ : Tm) (fun (r9 : Sm) (r10 : Int) => cond (r10 != (0 : Int)) (C.c62_0 ρ r10 (fun (r11 : Int) => k1 (⟨a4.op, a4.head, a4.n, a4.args⟩ : Tm) (⟨a5.op, a5.head, a5.n, a5.args⟩ : Tm) a6 r11)) (C.c64_0 ρ (⟨r9.args, r9.con⟩ : Sm) (fun (r12 : Bool) => cond (!r12) (C.c62_0 ρ (2 : Int) (fun (r13 : Int) => k1 (⟨a4.op, a4.head, a4.n, a4.args⟩ : Tm) (⟨a5.op, a5.head, a5.n, a5.args⟩ : Tm) a6 r13)) (cond (decide ((0 : Int) ≤ (1 : Int)) && decide ((1 : Int) < ((List.length a4.args : Nat) : Int))) (C.c41_0 ρ (⟨(rdEl lay Key.tm a4.args (1 : Int)).op, (rdEl lay Key.tm a4.args (1 : Int)).head, (rdEl lay Key.tm a4.args (1 : Int)).n, (rdEl lay Key.tm a4.args (1 : Int)).args⟩ : Tm) (0 : Int) (⟨(rdEl lay Key.tm a1 a3).op, (rdEl lay Key.tm a1 a3).head, (rdEl lay Key.tm a1 a3).n, (rdEl lay Key.tm a1 a3).args⟩ : Tm) (⟨r9.args, r9.con⟩ : Sm) a7 (fun (r14 : Int) (r15 : Int) => k1 (⟨a4.op, a4.head, a4.n, a4.args⟩ : Tm) (⟨a5.op, a5.head, a5.n, a5.args⟩ : Tm) a6 r14) (fun (r16 : Tm) (r17 : Int) => C.l37_6_0 ρ a1 a2 (IntKind.wrap .i64 (a3 + (1 : Int))) (⟨r16.op, r16.head, r16.n, r16.args⟩ : Tm) (⟨a5.op, a5.head, a5.n, a5.args⟩ : Tm) a6 r17 k0 k1)) (none)))))) (none))) (none)) (k0 (⟨a4.op, a4.head, a4.n, a4.args⟩ : Tm) (⟨a5.op, a5.head, a5.n, a5.args⟩ : Tm) a6)

/-- a loop of truss/trussref04.Instance -/
def Gl38_5_0 (C : Tab) (ρ : Type) (a1 : List Tm) (a2 : Int) (a3 : Tm) (a4 : Tm) (a5 : Int) (k0 : (Tm → Tm → Option ρ)) (k1 : (Int → Tm → Tm → Option ρ)) : Option ρ :=
  cond (decide (a2 < ((List.length a1 : Nat) : Int))) (cond (decide ((0 : Int) ≤ a2) && decide (a2 < ((List.length a1 : Nat) : Int))) (C.c65_0 ρ (⟨a3.op, a3.head, a3.n, a3.args⟩ : Tm) (⟨(rdEl lay Key.tm a1 a2).op, (rdEl lay Key.tm a1 a2).head, (rdEl lay Key.tm a1 a2).n, (rdEl lay Key.tm a1 a2).args⟩ : Tm) a5 (fun (r6 : Tm) (r7 : Int) (r8 : Int) => cond (r7 != (0 : Int)) (k1 r7 (⟨a3.op, a3.head, a3.n, a3.args⟩ : Tm) (⟨(0 : Int), (0 : Int), (0 : Int), []⟩ : Tm)) (C.l38_5_0 ρ a1 (IntKind.wrap .i64 (a2 + (1 : Int))) (⟨r6.op, r6.head, r6.n, r6.args⟩ : Tm) (⟨a4.op, a4.head, a4.n, a4.args⟩ : Tm) r8 k0 k1))) (none)) (k0 (⟨a3.op, a3.head, a3.n, a3.args⟩ : Tm) (⟨a4.op, a4.head, a4.n, a4.args⟩ : Tm))

/-- a loop of truss/subst.good -/
def Gl39_4_0 (C : Tab) (ρ : Type) (a1 : List Sm) (a2 : List Int) (a3 : List Tm) (a4 : Int) (a5 : Int) (k0 : ((List Sm) → (List Int) → Option ρ)) (k1 : (Bool → Option ρ)) : Option ρ :=
  cond (decide (a5 < a4)) (cond (decide ((0 : Int) ≤ a5) && decide (a5 < ((List.length a3 : Nat) : Int))) (C.c53_0 ρ (⟨(rdEl lay Key.tm a3 a5).op, (rdEl lay Key.tm a3 a5).head, (rdEl lay Key.tm a3 a5).n, (rdEl lay Key.tm a3 a5).args⟩ : Tm) (fun (r6 : Int) => cond (r6 != (0 : Int)) (k1 false) (C.l39_4_0 ρ a1 a2 a3 a4 (IntKind.wrap .i64 (a5 + (1 : Int))) k0 k1))) (none)) (k0 a1 a2)

/-- a loop of (*truss/subst.work).subst -/
def Gl41_6_0 (C : Tab) (ρ : Type) (a1 : Int) (a2 : List Tm) (a3 : Int) (a4 : Int) (a5 : Int) (a6 : Tm) (a7 : Tm) (a8 : Sm) (a9 : Tm) (a10 : Tm) (k0 : (Int → Int → Tm → Tm → Sm → Tm → Tm → Option ρ)) (k1 : (Int → Tm → Tm → Sm → Tm → Int → Option ρ)) : Option ρ :=
  cond (decide (a4 < a3)) (cond (decide ((0 : Int) ≤ a4) && decide (a4 < ((List.length a2 : Nat) : Int))) (C.c70_0 ρ (⟨a6.op, a6.head, a6.n, a6.args⟩ : Tm) a4 (fun (r11 : Int) => C.c41_0 ρ (⟨(rdEl lay Key.tm a2 a4).op, (rdEl lay Key.tm a2 a4).head, (rdEl lay Key.tm a2 a4).n, (rdEl lay Key.tm a2 a4).args⟩ : Tm) (IntKind.wrap .i64 (a1 + r11)) (⟨a7.op, a7.head, a7.n, a7.args⟩ : Tm) (⟨a8.args, a8.con⟩ : Sm) a5 (fun (r12 : Int) (r13 : Int) => k1 r13 (⟨a6.op, a6.head, a6.n, a6.args⟩ : Tm) (⟨a7.op, a7.head, a7.n, a7.args⟩ : Tm) (⟨a8.args, a8.con⟩ : Sm) (⟨a9.op, a9.head, a9.n, a9.args⟩ : Tm) r12) (fun (r14 : Tm) (r15 : Int) => cond (decide ((List.length a10.args + List.length [(⟨r14.op, r14.head, r14.n, r14.args⟩ : Tm)]) * 48 ≤ 140737488355328)) (C.l41_6_0 ρ a1 a2 a3 (IntKind.wrap .i64 (a4 + (1 : Int))) r15 (⟨a6.op, a6.head, a6.n, a6.args⟩ : Tm) (⟨a7.op, a7.head, a7.n, a7.args⟩ : Tm) (⟨a8.args, a8.con⟩ : Sm) (⟨a9.op, a9.head, a9.n, a9.args⟩ : Tm) (⟨a10.op, a10.head, a10.n, ((a10.args : List Tm) ++ ([(⟨r14.op, r14.head, r14.n, r14.args⟩ : Tm)] : List Tm))⟩ : Tm) k0 k1) (none)))) (none)) (k0 a1 a5 (⟨a6.op, a6.head, a6.n, a6.args⟩ : Tm) (⟨a7.op, a7.head, a7.n, a7.args⟩ : Tm) (⟨a8.args, a8.con⟩ : Sm) (⟨a9.op, a9.head, a9.n, a9.args⟩ : Tm) (⟨a10.op, a10.head, a10.n, a10.args⟩ : Tm))

/-- a loop of (*truss/trussref04.count).put -/
def Gl43_7_0 (C : Tab) (ρ : Type) (a1 : Int) (a2 : Int) (a3 : Int) (a4 : Tm) (a5 : Tm) (a6 : Sm) (a7 : Tm) (a8 : Tm) (k0 : (Int → Int → Tm → Tm → Sm → Tm → Option ρ)) (k1 : (Int → Int → Tm → Tm → Sm → Tm → Tm → Option ρ)) : Option ρ :=
  cond (decide (a2 < ((List.length a4.args : Nat) : Int))) (cond (a4.op == (3 : Int)) (cond (decide ((0 : Int) ≤ a2) && decide (a2 < ((List.length a4.args : Nat) : Int))) (C.c43_0 ρ (⟨(rdEl lay Key.tm a4.args a2).op, (rdEl lay Key.tm a4.args a2).head, (rdEl lay Key.tm a4.args a2).n, (rdEl lay Key.tm a4.args a2).args⟩ : Tm) (IntKind.wrap .i64 (a1 + (1 : Int))) (⟨a5.op, a5.head, a5.n, a5.args⟩ : Tm) (⟨a6.args, a6.con⟩ : Sm) a3 (fun (r9 : Tm) (r10 : Int) (r11 : Int) => cond (r10 != (0 : Int)) (k0 r10 r11 (⟨a4.op, a4.head, a4.n, a4.args⟩ : Tm) (⟨a5.op, a5.head, a5.n, a5.args⟩ : Tm) (⟨a6.args, a6.con⟩ : Sm) (⟨(0 : Int), (0 : Int), (0 : Int), []⟩ : Tm)) (cond (decide ((List.length a8.args + List.length [(⟨r9.op, r9.head, r9.n, r9.args⟩ : Tm)]) * 48 ≤ 140737488355328)) (C.l43_7_0 ρ a1 (IntKind.wrap .i64 (a2 + (1 : Int))) r11 (⟨a4.op, a4.head, a4.n, a4.args⟩ : Tm) (⟨a5.op, a5.head, a5.n, a5.args⟩ : Tm) (⟨a6.args, a6.con⟩ : Sm) (⟨a7.op, a7.head, a7.n, a7.args⟩ : Tm) (⟨a8.op, a8.head, a8.n, ((a8.args : List Tm) ++ ([(⟨r9.op, r9.head, r9.n, r9.args⟩ : Tm)] : List Tm))⟩ : Tm) k0 k1) (none)))) (none)) (cond (a4.op == (2 : Int)) (cond (a2 == (1 : Int)) (cond (decide ((0 : Int) ≤ a2) && decide (a2 < ((List.length a4.args : Nat) : Int))) (C.c43_0 ρ (⟨(rdEl lay Key.tm a4.args a2).op, (rdEl lay Key.tm a4.args a2).head, (rdEl lay Key.tm a4.args a2).n, (rdEl lay Key.tm a4.args a2).args⟩ : Tm) (IntKind.wrap .i64 (a1 + (1 : Int))) (⟨a5.op, a5.head, a5.n, a5.args⟩ : Tm) (⟨a6.args, a6.con⟩ : Sm) a3 (fun (r12 : Tm) (r13 : Int) (r14 : Int) => cond (r13 != (0 : Int)) (k0 r13 r14 (⟨a4.op, a4.head, a4.n, a4.args⟩ : Tm) (⟨a5.op, a5.head, a5.n, a5.args⟩ : Tm) (⟨a6.args, a6.con⟩ : Sm) (⟨(0 : Int), (0 : Int), (0 : Int), []⟩ : Tm)) (cond (decide ((List.length a8.args + List.length [(⟨r12.op, r12.head, r12.n, r12.args⟩ : Tm)]) * 48 ≤ 140737488355328)) (C.l43_7_0 ρ a1 (IntKind.wrap .i64 (a2 + (1 : Int))) r14 (⟨a4.op, a4.head, a4.n, a4.args⟩ : Tm) (⟨a5.op, a5.head, a5.n, a5.args⟩ : Tm) (⟨a6.args, a6.con⟩ : Sm) (⟨a7.op, a7.head, a7.n, a7.args⟩ : Tm) (⟨a8.op, a8.head, a8.n, ((a8.args : List Tm) ++ ([(⟨r12.op, r12.head, r12.n, r12.args⟩ : Tm)] : List Tm))⟩ : Tm) k0 k1) (none)))) (none)) (cond (decide ((0 : Int) ≤ a2) && decide (a2 < ((List.length a4.args : Nat) : Int))) (C.c43_0 ρ (⟨(rdEl lay Key.tm a4.args a2).op, (rdEl lay Key.tm a4.args a2).head, (rdEl lay Key.tm a4.args a2).n, (rdEl lay Key.tm a4.args a2).args⟩ : Tm) (IntKind.wrap .i64 (a1 + (0 : Int))) (⟨a5.op, a5.head, a5.n, a5.args⟩ : Tm) (⟨a6.args, a6.con⟩ : Sm) a3 (fun (r15 : Tm) (r16 : Int) (r17 : Int) => cond (r16 != (0 : Int)) (k0 r16 r17 (⟨a4.op, a4.head, a4.n, a4.args⟩ : Tm) (⟨a5.op, a5.head, a5.n, a5.args⟩ : Tm) (⟨a6.args, a6.con⟩ : Sm) (⟨(0 : Int), (0 : Int), (0 : Int), []⟩ : Tm)) (cond (decide ((List.length a8.args + List.length [(⟨r15.op, r15.head, r15.n, r15.args⟩ : Tm)]) * 48 ≤ 140737488355328)) (C.l43_7_0 ρ a1 (IntKind.wrap .i64 (a2 + (1 : Int))) r17 (⟨a4.op, a4.head, a4.n, a4.args⟩ : Tm) (⟨a5.op, a5.head, a5.n, a5.args⟩ : Tm) (⟨a6.args, a6.con⟩ : Sm) (⟨a7.op, a7.head, a7.n, a7.args⟩ : Tm) (⟨a8.op, a8.head, a8.n, ((a8.args : List Tm) ++ ([(⟨r15.op, r15.head, r15.n, r15.args⟩ : Tm)] : List Tm))⟩ : Tm) k0 k1) (none)))) (none))) (cond (decide ((0 : Int) ≤ a2) && decide (a2 < ((List.length a4.args : Nat) : Int))) (C.c43_0 ρ (⟨(rdEl lay Key.tm a4.args a2).op, (rdEl lay Key.tm a4.args a2).head, (rdEl lay Key.tm a4.args a2).n, (rdEl lay Key.tm a4.args a2).args⟩ : Tm) (IntKind.wrap .i64 (a1 + (0 : Int))) (⟨a5.op, a5.head, a5.n, a5.args⟩ : Tm) (⟨a6.args, a6.con⟩ : Sm) a3 (fun (r18 : Tm) (r19 : Int) (r20 : Int) => cond (r19 != (0 : Int)) (k0 r19 r20 (⟨a4.op, a4.head, a4.n, a4.args⟩ : Tm) (⟨a5.op, a5.head, a5.n, a5.args⟩ : Tm) (⟨a6.args, a6.con⟩ : Sm) (⟨(0 : Int), (0 : Int), (0 : Int), []⟩ : Tm)) (cond (decide ((List.length a8.args + List.length [(⟨r18.op, r18.head, r18.n, r18.args⟩ : Tm)]) * 48 ≤ 140737488355328)) (C.l43_7_0 ρ a1 (IntKind.wrap .i64 (a2 + (1 : Int))) r20 (⟨a4.op, a4.head, a4.n, a4.args⟩ : Tm) (⟨a5.op, a5.head, a5.n, a5.args⟩ : Tm) (⟨a6.args, a6.con⟩ : Sm) (⟨a7.op, a7.head, a7.n, a7.args⟩ : Tm) (⟨a8.op, a8.head, a8.n, ((a8.args : List Tm) ++ ([(⟨r18.op, r18.head, r18.n, r18.args⟩ : Tm)] : List Tm))⟩ : Tm) k0 k1) (none)))) (none)))) (k1 a1 a3 (⟨a4.op, a4.head, a4.n, a4.args⟩ : Tm) (⟨a5.op, a5.head, a5.n, a5.args⟩ : Tm) (⟨a6.args, a6.con⟩ : Sm) (⟨a7.op, a7.head, a7.n, a7.args⟩ : Tm) (⟨a8.op, a8.head, a8.n, a8.args⟩ : Tm))

/-- a loop of truss/trussref03.nodes -/
def Gl47_3_0 (C : Tab) (ρ : Type) (a1 : Int) (a2 : Int) (a3 : Int) (a4 : Tm) (k0 : (Int → Int → Option ρ)) : Option ρ :=
  cond (decide (a3 < ((List.length a4.args : Nat) : Int))) (cond (decide (a2 ≤ a1)) (cond (decide ((0 : Int) ≤ a3) && decide (a3 < ((List.length a4.args : Nat) : Int))) (C.c47_0 ρ (⟨(rdEl lay Key.tm a4.args a3).op, (rdEl lay Key.tm a4.args a3).head, (rdEl lay Key.tm a4.args a3).n, (rdEl lay Key.tm a4.args a3).args⟩ : Tm) (IntKind.wrap .i64 (a1 - a2)) (fun (r5 : Int) => C.l47_3_0 ρ a1 (IntKind.wrap .i64 (a2 + r5)) (IntKind.wrap .i64 (a3 + (1 : Int))) (⟨a4.op, a4.head, a4.n, a4.args⟩ : Tm) k0)) (none)) (k0 a1 a2)) (k0 a1 a2)

/-- a loop of truss/trussref03.formed -/
def Gl48_18_0 (C : Tab) (ρ : Type) (a1 : Int) (a2 : Int) (a3 : Tm) (k0 : (Bool → Option ρ)) (k1 : Option ρ) : Option ρ :=
  cond (decide (a2 < ((List.length a3.args : Nat) : Int))) (cond (decide ((0 : Int) ≤ a2) && decide (a2 < ((List.length a3.args : Nat) : Int))) (C.c48_0 ρ (⟨(rdEl lay Key.tm a3.args a2).op, (rdEl lay Key.tm a3.args a2).head, (rdEl lay Key.tm a3.args a2).n, (rdEl lay Key.tm a3.args a2).args⟩ : Tm) (IntKind.wrap .i64 (a1 + (1 : Int))) (fun (r4 : Bool) => cond (!r4) (k0 false) (C.l48_18_0 ρ a1 (IntKind.wrap .i64 (a2 + (1 : Int))) (⟨a3.op, a3.head, a3.n, a3.args⟩ : Tm) k0 k1))) (none)) (k1)

/-- a loop of truss/trussref04.constants -/
def Gl49_5_0 (C : Tab) (ρ : Type) (a1 : Int) (a2 : Int) (a3 : Int) (a4 : Sm) (k0 : (Int → Option ρ)) (k1 : (Int → Int → Option ρ)) : Option ρ :=
  cond (decide (a3 < ((List.length a4.args : Nat) : Int))) (cond (decide (a2 ≤ a1)) (cond (decide ((0 : Int) ≤ a3) && decide (a3 < ((List.length a4.args : Nat) : Int))) (C.c49_0 ρ (⟨(rdEl lay Key.sm a4.args a3).args, (rdEl lay Key.sm a4.args a3).con⟩ : Sm) (IntKind.wrap .i64 (a1 - a2)) (fun (r5 : Int) => cond (decide (r5 < (0 : Int))) (k0 (-1 : Int)) (C.l49_5_0 ρ a1 (IntKind.wrap .i64 (a2 + r5)) (IntKind.wrap .i64 (a3 + (1 : Int))) (⟨a4.args, a4.con⟩ : Sm) k0 k1))) (none)) (k1 a1 a2)) (k1 a1 a2)

/-- a loop of truss/trussref03.low -/
def Gl50_4_0 (C : Tab) (ρ : Type) (a1 : Int) (a2 : Int) (a3 : Int) (a4 : Tm) (k0 : Option ρ) (k1 : (Bool → Option ρ)) : Option ρ :=
  cond (decide (a3 < ((List.length a4.args : Nat) : Int))) (C.c72_0 ρ (⟨a4.op, a4.head, a4.n, a4.args⟩ : Tm) a3 (fun (r5 : Int) => cond (decide ((0 : Int) ≤ a3) && decide (a3 < ((List.length a4.args : Nat) : Int))) (C.c50_0 ρ (⟨(rdEl lay Key.tm a4.args a3).op, (rdEl lay Key.tm a4.args a3).head, (rdEl lay Key.tm a4.args a3).n, (rdEl lay Key.tm a4.args a3).args⟩ : Tm) (IntKind.wrap .i64 (a1 + r5)) (IntKind.wrap .i64 (a2 + r5)) (fun (r6 : Bool) => cond r6 (k1 true) (C.l50_4_0 ρ a1 a2 (IntKind.wrap .i64 (a3 + (1 : Int))) (⟨a4.op, a4.head, a4.n, a4.args⟩ : Tm) k0 k1))) (none))) (k0)

/-- a loop of truss/trussref03.moved -/
def Gl51_6_0 (C : Tab) (ρ : Type) (a1 : Int) (a2 : Int) (a3 : Int) (a4 : Tm) (a5 : Tm) (a6 : Tm) (k0 : (Tm → Tm → Tm → Option ρ)) : Option ρ :=
  cond (decide (a3 < ((List.length a4.args : Nat) : Int))) (cond (decide ((0 : Int) ≤ a3) && decide (a3 < ((List.length a4.args : Nat) : Int))) (C.c72_0 ρ (⟨a4.op, a4.head, a4.n, a4.args⟩ : Tm) a3 (fun (r7 : Int) => C.c51_0 ρ (⟨(rdEl lay Key.tm a4.args a3).op, (rdEl lay Key.tm a4.args a3).head, (rdEl lay Key.tm a4.args a3).n, (rdEl lay Key.tm a4.args a3).args⟩ : Tm) a1 (IntKind.wrap .i64 (a2 + r7)) (fun (r8 : Tm) => cond (decide ((List.length a6.args + List.length [(⟨r8.op, r8.head, r8.n, r8.args⟩ : Tm)]) * 48 ≤ 140737488355328)) (C.l51_6_0 ρ a1 a2 (IntKind.wrap .i64 (a3 + (1 : Int))) (⟨a4.op, a4.head, a4.n, a4.args⟩ : Tm) (⟨a5.op, a5.head, a5.n, a5.args⟩ : Tm) (⟨a6.op, a6.head, a6.n, ((a6.args : List Tm) ++ ([(⟨r8.op, r8.head, r8.n, r8.args⟩ : Tm)] : List Tm))⟩ : Tm) k0) (none)))) (none)) (k0 (⟨a4.op, a4.head, a4.n, a4.args⟩ : Tm) (⟨a5.op, a5.head, a5.n, a5.args⟩ : Tm) (⟨a6.op, a6.head, a6.n, a6.args⟩ : Tm))

/-- a loop of truss/subst.long -/
def Gl52_6_0 (C : Tab) (ρ : Type) (a1 : Int) (a2 : List Sm) (a3 : Int) (a4 : Int) (a5 : Sm) (a6 : Tm) (a7 : Tm) (k0 : (Int → Sm → Tm → Tm → Option ρ)) : Option ρ :=
  cond (decide (a4 < a3)) (cond (decide ((0 : Int) ≤ a4) && decide (a4 < ((List.length a2 : Nat) : Int))) (C.c52_0 ρ (1 : Int) (IntKind.wrap .i64 ((IntKind.wrap .i64 (a1 - (1 : Int))) - a4)) (⟨(rdEl lay Key.sm a2 a4).args, (rdEl lay Key.sm a2 a4).con⟩ : Sm) (fun (r8 : Tm) => cond (decide ((List.length a7.args + List.length [(⟨r8.op, r8.head, r8.n, r8.args⟩ : Tm)]) * 48 ≤ 140737488355328)) (C.l52_6_0 ρ a1 a2 a3 (IntKind.wrap .i64 (a4 + (1 : Int))) (⟨a5.args, a5.con⟩ : Sm) (⟨a6.op, a6.head, a6.n, a6.args⟩ : Tm) (⟨a7.op, a7.head, a7.n, ((a7.args : List Tm) ++ ([(⟨r8.op, r8.head, r8.n, r8.args⟩ : Tm)] : List Tm))⟩ : Tm) k0) (none))) (none)) (k0 a1 (⟨a5.args, a5.con⟩ : Sm) (⟨a6.op, a6.head, a6.n, a6.args⟩ : Tm) (⟨a7.op, a7.head, a7.n, a7.args⟩ : Tm))

/-- a loop of truss/subst.long -/
def Gl52_11_0 (C : Tab) (ρ : Type) (a1 : Int) (a2 : Int) (a3 : Sm) (a4 : Tm) (a5 : Tm) (k0 : (Sm → Tm → Tm → Option ρ)) : Option ρ :=
  cond (decide (a2 < a1)) (C.c73_0 ρ (⟨a5.op, a5.head, a5.n, a5.args⟩ : Tm) (fun (r6 : Tm) => C.l52_11_0 ρ a1 (IntKind.wrap .i64 (a2 + (1 : Int))) (⟨a3.args, a3.con⟩ : Sm) (⟨a4.op, a4.head, a4.n, a4.args⟩ : Tm) (⟨r6.op, r6.head, r6.n, r6.args⟩ : Tm) k0)) (k0 (⟨a3.args, a3.con⟩ : Sm) (⟨a4.op, a4.head, a4.n, a4.args⟩ : Tm) (⟨a5.op, a5.head, a5.n, a5.args⟩ : Tm))

/-- a loop of (*truss/subst.work).apply -/
def Gl55_3_0 (C : Tab) (ρ : Type) (a1 : List Tm) (a2 : Int) (a3 : Int) (a4 : Int) (a5 : Tm) (a6 : Sm) (a7 : Tm) (k0 : (Int → Tm → Sm → Tm → Int → Option ρ)) (k1 : (Int → Tm → Sm → Tm → Option ρ)) : Option ρ :=
  cond (decide (a3 < a2)) (cond (decide ((0 : Int) ≤ a3) && decide (a3 < ((List.length a1 : Nat) : Int))) (cond (a5.op != (3 : Int)) (C.c62_0 ρ (23 : Int) (fun (r8 : Int) => k0 a4 (⟨a5.op, a5.head, a5.n, a5.args⟩ : Tm) (⟨a6.args, a6.con⟩ : Sm) (⟨a7.op, a7.head, a7.n, a7.args⟩ : Tm) r8)) (cond (decide (a3 ≥ ((List.length a6.args : Nat) : Int))) (C.c62_0 ρ (23 : Int) (fun (r9 : Int) => k0 a4 (⟨a5.op, a5.head, a5.n, a5.args⟩ : Tm) (⟨a6.args, a6.con⟩ : Sm) (⟨a7.op, a7.head, a7.n, a7.args⟩ : Tm) r9)) (cond (decide ((0 : Int) ≤ (0 : Int)) && decide ((0 : Int) < ((List.length a5.args : Nat) : Int))) (cond (decide ((0 : Int) ≤ a3) && decide (a3 < ((List.length a6.args : Nat) : Int))) (C.c41_0 ρ (⟨(rdEl lay Key.tm a5.args (0 : Int)).op, (rdEl lay Key.tm a5.args (0 : Int)).head, (rdEl lay Key.tm a5.args (0 : Int)).n, (rdEl lay Key.tm a5.args (0 : Int)).args⟩ : Tm) (0 : Int) (⟨(rdEl lay Key.tm a1 a3).op, (rdEl lay Key.tm a1 a3).head, (rdEl lay Key.tm a1 a3).n, (rdEl lay Key.tm a1 a3).args⟩ : Tm) (⟨(rdEl lay Key.sm a6.args a3).args, (rdEl lay Key.sm a6.args a3).con⟩ : Sm) a4 (fun (r10 : Int) (r11 : Int) => k0 r11 (⟨a5.op, a5.head, a5.n, a5.args⟩ : Tm) (⟨a6.args, a6.con⟩ : Sm) (⟨a7.op, a7.head, a7.n, a7.args⟩ : Tm) r10) (fun (r12 : Tm) (r13 : Int) => C.l55_3_0 ρ a1 a2 (IntKind.wrap .i64 (a3 + (1 : Int))) r13 (⟨r12.op, r12.head, r12.n, r12.args⟩ : Tm) (⟨a6.args, a6.con⟩ : Sm) (⟨a7.op, a7.head, a7.n, a7.args⟩ : Tm) k0 k1)) (none)) (none)))) (none)) (k1 a4 (⟨a5.op, a5.head, a5.n, a5.args⟩ : Tm) (⟨a6.args, a6.con⟩ : Sm) (⟨a7.op, a7.head, a7.n, a7.args⟩ : Tm))

/-- a loop of truss/trussref04.list -/
def Gl56_2_0 (C : Tab) (ρ : Type) (a1 : List Tm) (a2 : Int) (k0 : (Bool → Option ρ)) (k1 : ((List Tm) → Option ρ)) : Option ρ :=
  cond (decide (a2 < ((List.length a1 : Nat) : Int))) (cond (decide (((List.length a1 : Nat) : Int) ≤ (600 : Int))) (cond (decide ((0 : Int) ≤ a2) && decide (a2 < ((List.length a1 : Nat) : Int))) (C.c18_0 ρ (⟨(rdEl lay Key.tm a1 a2).op, (rdEl lay Key.tm a1 a2).head, (rdEl lay Key.tm a1 a2).n, (rdEl lay Key.tm a1 a2).args⟩ : Tm) (fun (r3 : Bool) => cond (!r3) (k0 false) (C.l56_2_0 ρ a1 (IntKind.wrap .i64 (a2 + (1 : Int))) k0 k1))) (none)) (k1 a1)) (k1 a1)

/-- a loop of truss/trussref04.long -/
def Gl61_6_0 (C : Tab) (ρ : Type) (a1 : Int) (a2 : Int) (a3 : Sm) (a4 : Tm) (a5 : Tm) (k0 : (Int → Sm → Tm → Tm → Option ρ)) : Option ρ :=
  cond (decide (a2 < a1)) (cond (decide ((0 : Int) ≤ a2) && decide (a2 < ((List.length a3.args : Nat) : Int))) (C.c61_0 ρ (1 : Int) (IntKind.wrap .i64 ((IntKind.wrap .i64 (a1 - (1 : Int))) - a2)) (⟨(rdEl lay Key.sm a3.args a2).args, (rdEl lay Key.sm a3.args a2).con⟩ : Sm) (fun (r6 : Tm) => cond (decide ((List.length a5.args + List.length [(⟨r6.op, r6.head, r6.n, r6.args⟩ : Tm)]) * 48 ≤ 140737488355328)) (C.l61_6_0 ρ a1 (IntKind.wrap .i64 (a2 + (1 : Int))) (⟨a3.args, a3.con⟩ : Sm) (⟨a4.op, a4.head, a4.n, a4.args⟩ : Tm) (⟨a5.op, a5.head, a5.n, ((a5.args : List Tm) ++ ([(⟨r6.op, r6.head, r6.n, r6.args⟩ : Tm)] : List Tm))⟩ : Tm) k0) (none))) (none)) (k0 a1 (⟨a3.args, a3.con⟩ : Sm) (⟨a4.op, a4.head, a4.n, a4.args⟩ : Tm) (⟨a5.op, a5.head, a5.n, a5.args⟩ : Tm))

/-- a loop of truss/trussref04.long -/
def Gl61_11_0 (C : Tab) (ρ : Type) (a1 : Int) (a2 : Int) (a3 : Sm) (a4 : Tm) (a5 : Tm) (k0 : (Sm → Tm → Tm → Option ρ)) : Option ρ :=
  cond (decide (a2 < a1)) (C.l61_11_0 ρ a1 (IntKind.wrap .i64 (a2 + (1 : Int))) (⟨a3.args, a3.con⟩ : Sm) (⟨a4.op, a4.head, a4.n, a4.args⟩ : Tm) (⟨(3 : Int), (0 : Int), (0 : Int), [(⟨a5.op, a5.head, a5.n, a5.args⟩ : Tm)]⟩ : Tm) k0) (k0 (⟨a3.args, a3.con⟩ : Sm) (⟨a4.op, a4.head, a4.n, a4.args⟩ : Tm) (⟨a5.op, a5.head, a5.n, a5.args⟩ : Tm))

/-- a loop of truss/term.proper -/
def Gl74_17_0 (C : Tab) (ρ : Type) (a1 : Int) (a2 : Int) (a3 : Bool) (a4 : Int) (a5 : Int) (a6 : Tm) (k0 : (Bool → Int → Option ρ)) : Option ρ :=
  cond (decide (a4 < a2)) (cond a3 (cond (decide ((0 : Int) ≤ a4) && decide (a4 < ((List.length a6.args : Nat) : Int))) (C.c74_0 ρ (⟨(rdEl lay Key.tm a6.args a4).op, (rdEl lay Key.tm a6.args a4).head, (rdEl lay Key.tm a6.args a4).n, (rdEl lay Key.tm a6.args a4).args⟩ : Tm) (IntKind.wrap .i64 (a1 + (1 : Int))) a5 (fun (r7 : Bool) (r8 : Int) => C.l74_17_0 ρ a1 a2 r7 (IntKind.wrap .i64 (a4 + (1 : Int))) r8 (⟨a6.op, a6.head, a6.n, a6.args⟩ : Tm) k0)) (none)) (k0 a3 a5)) (k0 a3 a5)

/-- a loop of truss/term.Map -/
def Gl75_3_0 (C : Tab) (ρ : Type) (a1 : Int) (a2 : List Tm) (a3 : Int) (a4 : Int) (a5 : Tm) (a6 : Tm) (a7 : Tm) (k0 : (Tm → Tm → Tm → Option ρ)) : Option ρ :=
  cond (decide (a4 < a3)) (cond (decide ((0 : Int) ≤ a4) && decide (a4 < ((List.length a2 : Nat) : Int))) (C.c70_0 ρ (⟨a5.op, a5.head, a5.n, a5.args⟩ : Tm) a4 (fun (r8 : Int) => C.c75_0 ρ (⟨(rdEl lay Key.tm a2 a4).op, (rdEl lay Key.tm a2 a4).head, (rdEl lay Key.tm a2 a4).n, (rdEl lay Key.tm a2 a4).args⟩ : Tm) (IntKind.wrap .i64 (a1 + r8)) (fun (r9 : Tm) => cond (decide ((List.length a7.args + List.length [(⟨r9.op, r9.head, r9.n, r9.args⟩ : Tm)]) * 48 ≤ 140737488355328)) (C.l75_3_0 ρ a1 a2 a3 (IntKind.wrap .i64 (a4 + (1 : Int))) (⟨a5.op, a5.head, a5.n, a5.args⟩ : Tm) (⟨a6.op, a6.head, a6.n, a6.args⟩ : Tm) (⟨a7.op, a7.head, a7.n, ((a7.args : List Tm) ++ ([(⟨r9.op, r9.head, r9.n, r9.args⟩ : Tm)] : List Tm))⟩ : Tm) k0) (none)))) (none)) (k0 (⟨a5.op, a5.head, a5.n, a5.args⟩ : Tm) (⟨a6.op, a6.head, a6.n, a6.args⟩ : Tm) (⟨a7.op, a7.head, a7.n, a7.args⟩ : Tm))

/-- a loop of truss/term.Map -/
def Gl75_3_1 (C : Tab) (ρ : Type) (a1 : Int) (a2 : List Tm) (a3 : Int) (a4 : Int) (a5 : Int) (a6 : Int) (a7 : Tm) (a8 : Tm) (a9 : Tm) (k0 : (Int → Int → Tm → Tm → Tm → Option ρ)) : Option ρ :=
  cond (decide (a4 < a3)) (cond (decide ((0 : Int) ≤ a4) && decide (a4 < ((List.length a2 : Nat) : Int))) (C.c70_0 ρ (⟨a7.op, a7.head, a7.n, a7.args⟩ : Tm) a4 (fun (r10 : Int) => C.c75_1 ρ (⟨(rdEl lay Key.tm a2 a4).op, (rdEl lay Key.tm a2 a4).head, (rdEl lay Key.tm a2 a4).n, (rdEl lay Key.tm a2 a4).args⟩ : Tm) (IntKind.wrap .i64 (a1 + r10)) a5 a6 (fun (r11 : Tm) (r12 : Int) (r13 : Int) => cond (decide ((List.length a9.args + List.length [(⟨r11.op, r11.head, r11.n, r11.args⟩ : Tm)]) * 48 ≤ 140737488355328)) (C.l75_3_1 ρ a1 a2 a3 (IntKind.wrap .i64 (a4 + (1 : Int))) r12 r13 (⟨a7.op, a7.head, a7.n, a7.args⟩ : Tm) (⟨a8.op, a8.head, a8.n, a8.args⟩ : Tm) (⟨a9.op, a9.head, a9.n, ((a9.args : List Tm) ++ ([(⟨r11.op, r11.head, r11.n, r11.args⟩ : Tm)] : List Tm))⟩ : Tm) k0) (none)))) (none)) (k0 a5 a6 (⟨a7.op, a7.head, a7.n, a7.args⟩ : Tm) (⟨a8.op, a8.head, a8.n, a8.args⟩ : Tm) (⟨a9.op, a9.head, a9.n, a9.args⟩ : Tm))

/-- a loop of truss/trussref04.moved -/
def Gl78_6_0 (C : Tab) (ρ : Type) (a1 : Int) (a2 : Int) (a3 : Int) (a4 : Tm) (a5 : Tm) (a6 : Tm) (k0 : (Tm → Tm → Tm → Option ρ)) : Option ρ :=
  cond (decide (a3 < ((List.length a4.args : Nat) : Int))) (cond (a4.op == (3 : Int)) (cond (decide ((0 : Int) ≤ a3) && decide (a3 < ((List.length a4.args : Nat) : Int))) (C.c78_0 ρ (⟨(rdEl lay Key.tm a4.args a3).op, (rdEl lay Key.tm a4.args a3).head, (rdEl lay Key.tm a4.args a3).n, (rdEl lay Key.tm a4.args a3).args⟩ : Tm) a1 (IntKind.wrap .i64 (a2 + (1 : Int))) (fun (r7 : Tm) => cond (decide ((List.length a6.args + List.length [(⟨r7.op, r7.head, r7.n, r7.args⟩ : Tm)]) * 48 ≤ 140737488355328)) (C.l78_6_0 ρ a1 a2 (IntKind.wrap .i64 (a3 + (1 : Int))) (⟨a4.op, a4.head, a4.n, a4.args⟩ : Tm) (⟨a5.op, a5.head, a5.n, a5.args⟩ : Tm) (⟨a6.op, a6.head, a6.n, ((a6.args : List Tm) ++ ([(⟨r7.op, r7.head, r7.n, r7.args⟩ : Tm)] : List Tm))⟩ : Tm) k0) (none))) (none)) (cond (a4.op == (2 : Int)) (cond (a3 == (1 : Int)) (cond (decide ((0 : Int) ≤ a3) && decide (a3 < ((List.length a4.args : Nat) : Int))) (C.c78_0 ρ (⟨(rdEl lay Key.tm a4.args a3).op, (rdEl lay Key.tm a4.args a3).head, (rdEl lay Key.tm a4.args a3).n, (rdEl lay Key.tm a4.args a3).args⟩ : Tm) a1 (IntKind.wrap .i64 (a2 + (1 : Int))) (fun (r8 : Tm) => cond (decide ((List.length a6.args + List.length [(⟨r8.op, r8.head, r8.n, r8.args⟩ : Tm)]) * 48 ≤ 140737488355328)) (C.l78_6_0 ρ a1 a2 (IntKind.wrap .i64 (a3 + (1 : Int))) (⟨a4.op, a4.head, a4.n, a4.args⟩ : Tm) (⟨a5.op, a5.head, a5.n, a5.args⟩ : Tm) (⟨a6.op, a6.head, a6.n, ((a6.args : List Tm) ++ ([(⟨r8.op, r8.head, r8.n, r8.args⟩ : Tm)] : List Tm))⟩ : Tm) k0) (none))) (none)) (cond (decide ((0 : Int) ≤ a3) && decide (a3 < ((List.length a4.args : Nat) : Int))) (C.c78_0 ρ (⟨(rdEl lay Key.tm a4.args a3).op, (rdEl lay Key.tm a4.args a3).head, (rdEl lay Key.tm a4.args a3).n, (rdEl lay Key.tm a4.args a3).args⟩ : Tm) a1 (IntKind.wrap .i64 (a2 + (0 : Int))) (fun (r9 : Tm) => cond (decide ((List.length a6.args + List.length [(⟨r9.op, r9.head, r9.n, r9.args⟩ : Tm)]) * 48 ≤ 140737488355328)) (C.l78_6_0 ρ a1 a2 (IntKind.wrap .i64 (a3 + (1 : Int))) (⟨a4.op, a4.head, a4.n, a4.args⟩ : Tm) (⟨a5.op, a5.head, a5.n, a5.args⟩ : Tm) (⟨a6.op, a6.head, a6.n, ((a6.args : List Tm) ++ ([(⟨r9.op, r9.head, r9.n, r9.args⟩ : Tm)] : List Tm))⟩ : Tm) k0) (none))) (none))) (cond (decide ((0 : Int) ≤ a3) && decide (a3 < ((List.length a4.args : Nat) : Int))) (C.c78_0 ρ (⟨(rdEl lay Key.tm a4.args a3).op, (rdEl lay Key.tm a4.args a3).head, (rdEl lay Key.tm a4.args a3).n, (rdEl lay Key.tm a4.args a3).args⟩ : Tm) a1 (IntKind.wrap .i64 (a2 + (0 : Int))) (fun (r10 : Tm) => cond (decide ((List.length a6.args + List.length [(⟨r10.op, r10.head, r10.n, r10.args⟩ : Tm)]) * 48 ≤ 140737488355328)) (C.l78_6_0 ρ a1 a2 (IntKind.wrap .i64 (a3 + (1 : Int))) (⟨a4.op, a4.head, a4.n, a4.args⟩ : Tm) (⟨a5.op, a5.head, a5.n, a5.args⟩ : Tm) (⟨a6.op, a6.head, a6.n, ((a6.args : List Tm) ++ ([(⟨r10.op, r10.head, r10.n, r10.args⟩ : Tm)] : List Tm))⟩ : Tm) k0) (none))) (none)))) (k0 (⟨a4.op, a4.head, a4.n, a4.args⟩ : Tm) (⟨a5.op, a5.head, a5.n, a5.args⟩ : Tm) (⟨a6.op, a6.head, a6.n, a6.args⟩ : Tm))

/-- a loop of truss/term.simple -/
def Gl79_6_0 (C : Tab) (ρ : Type) (a1 : List Tm) (a2 : Int) (a3 : Int) (a4 : Tm) (a5 : Sm) (a6 : Tm) (a7 : Sm) (k0 : (Int → Tm → Sm → Option ρ)) (k1 : (Tm → Sm → Tm → Sm → Option ρ)) : Option ρ :=
  cond (decide (a3 < a2)) (cond (decide ((0 : Int) ≤ a3) && decide (a3 < ((List.length a1 : Nat) : Int))) (C.c79_0 ρ (⟨(rdEl lay Key.tm a1 a3).op, (rdEl lay Key.tm a1 a3).head, (rdEl lay Key.tm a1 a3).n, (rdEl lay Key.tm a1 a3).args⟩ : Tm) (fun (r8 : Sm) (r9 : Int) => cond (r9 != (0 : Int)) (k0 r9 (⟨a4.op, a4.head, a4.n, a4.args⟩ : Tm) (⟨[], (0 : Int)⟩ : Sm)) (cond (decide ((List.length a7.args + List.length [(⟨r8.args, r8.con⟩ : Sm)]) * 32 ≤ 140737488355328)) (C.l79_6_0 ρ a1 a2 (IntKind.wrap .i64 (a3 + (1 : Int))) (⟨a4.op, a4.head, a4.n, a4.args⟩ : Tm) (⟨a5.args, a5.con⟩ : Sm) (⟨a6.op, a6.head, a6.n, a6.args⟩ : Tm) (⟨((a7.args : List Sm) ++ ([(⟨r8.args, r8.con⟩ : Sm)] : List Sm)), a7.con⟩ : Sm) k0 k1) (none)))) (none)) (k1 (⟨a4.op, a4.head, a4.n, a4.args⟩ : Tm) (⟨a5.args, a5.con⟩ : Sm) (⟨a6.op, a6.head, a6.n, a6.args⟩ : Tm) (⟨a7.args, a7.con⟩ : Sm))

/-- a loop of slices.IndexFunc[[]truss/api.Simple,truss/api.Simple] -/
def Gl82_2_0 (C : Tab) (ρ : Type) (a1 : List Sm) (a2 : Int) (a3 : Int) (k0 : Option ρ) (k1 : (Int → Option ρ)) : Option ρ :=
  cond (decide (a3 < a2)) (cond (decide ((0 : Int) ≤ a3) && decide (a3 < ((List.length a1 : Nat) : Int))) (C.c67_0 ρ (⟨(rdEl lay Key.sm a1 a3).args, (rdEl lay Key.sm a1 a3).con⟩ : Sm) (fun (r4 : Bool) => cond r4 (k1 a3) (C.l82_2_0 ρ a1 a2 (IntKind.wrap .i64 (a3 + (1 : Int))) k0 k1))) (none)) (k0)

/-- a loop of slices.IndexFunc[[]truss/api.Simple,truss/api.Simple] -/
def Gl82_2_1 (C : Tab) (ρ : Type) (a1 : List Sm) (a2 : Int) (a3 : Int) (a4 : Int) (k0 : (Int → Option ρ)) (k1 : (Int → Int → Option ρ)) : Option ρ :=
  cond (decide (a3 < a2)) (cond (decide ((0 : Int) ≤ a3) && decide (a3 < ((List.length a1 : Nat) : Int))) (C.c88_0 ρ (⟨(rdEl lay Key.sm a1 a3).args, (rdEl lay Key.sm a1 a3).con⟩ : Sm) a4 (fun (r5 : Bool) (r6 : Int) => cond r5 (k1 a3 r6) (C.l82_2_1 ρ a1 a2 (IntKind.wrap .i64 (a3 + (1 : Int))) r6 k0 k1))) (none)) (k0 a4)

/-- a loop of slices.IndexFunc[[]int,int] -/
def Gl83_2_0 (C : Tab) (ρ : Type) (a1 : List Int) (a2 : Int) (a3 : Int) (k0 : Option ρ) (k1 : (Int → Option ρ)) : Option ρ :=
  cond (decide (a3 < a2)) (cond (decide ((0 : Int) ≤ a3) && decide (a3 < ((List.length a1 : Nat) : Int))) (C.c69_0 ρ (rdEl lay Key.int a1 a3) (fun (r4 : Bool) => cond r4 (k1 a3) (C.l83_2_0 ρ a1 a2 (IntKind.wrap .i64 (a3 + (1 : Int))) k0 k1))) (none)) (k0)

/-- a loop of truss/term.Each -/
def Gl84_3_0 (C : Tab) (ρ : Type) (a1 : Int) (a2 : List Tm) (a3 : Int) (a4 : Int) (a5 : Int) (a6 : Bool) (a7 : Int) (a8 : Bool) (a9 : Tm) (k0 : (Int → Bool → Int → Bool → Option ρ)) : Option ρ :=
  cond (decide (a4 < a3)) (cond (decide ((0 : Int) ≤ a4) && decide (a4 < ((List.length a2 : Nat) : Int))) (C.c70_0 ρ (⟨a9.op, a9.head, a9.n, a9.args⟩ : Tm) a4 (fun (r10 : Int) => C.c84_0 ρ (⟨(rdEl lay Key.tm a2 a4).op, (rdEl lay Key.tm a2 a4).head, (rdEl lay Key.tm a2 a4).n, (rdEl lay Key.tm a2 a4).args⟩ : Tm) (IntKind.wrap .i64 (a1 + r10)) a5 a6 a7 a8 (fun (r11 : Int) (r12 : Bool) (r13 : Int) (r14 : Bool) => C.l84_3_0 ρ a1 a2 a3 (IntKind.wrap .i64 (a4 + (1 : Int))) r11 r12 r13 r14 (⟨a9.op, a9.head, a9.n, a9.args⟩ : Tm) k0))) (none)) (k0 a5 a6 a7 a8)

/-- a loop of truss/term.Domains -/
def Gl87_2_0 (C : Tab) (ρ : Type) (a1 : List Tm) (a2 : Tm) (a3 : Tm) (k0 : ((List Tm) → Tm → Tm → Option ρ)) : Option ρ :=
  cond (a2.op == (2 : Int)) (cond (decide ((0 : Int) ≤ (0 : Int)) && decide ((0 : Int) < ((List.length a2.args : Nat) : Int))) (cond (decide ((List.length a1 + List.length [(⟨(rdEl lay Key.tm a2.args (0 : Int)).op, (rdEl lay Key.tm a2.args (0 : Int)).head, (rdEl lay Key.tm a2.args (0 : Int)).n, (rdEl lay Key.tm a2.args (0 : Int)).args⟩ : Tm)]) * 48 ≤ 140737488355328)) (cond (decide ((0 : Int) ≤ (1 : Int)) && decide ((1 : Int) < ((List.length a2.args : Nat) : Int))) (C.l87_2_0 ρ ((a1 : List Tm) ++ ([(⟨(rdEl lay Key.tm a2.args (0 : Int)).op, (rdEl lay Key.tm a2.args (0 : Int)).head, (rdEl lay Key.tm a2.args (0 : Int)).n, (rdEl lay Key.tm a2.args (0 : Int)).args⟩ : Tm)] : List Tm)) (⟨(rdEl lay Key.tm a2.args (1 : Int)).op, (rdEl lay Key.tm a2.args (1 : Int)).head, (rdEl lay Key.tm a2.args (1 : Int)).n, (rdEl lay Key.tm a2.args (1 : Int)).args⟩ : Tm) (⟨a3.op, a3.head, a3.n, a3.args⟩ : Tm) k0) (none)) (none)) (none)) (k0 a1 (⟨a2.op, a2.head, a2.n, a2.args⟩ : Tm) (⟨a3.op, a3.head, a3.n, a3.args⟩ : Tm))

def Tabs : Nat → Tab
  | 0 => {c3_0 := fun _ _ _ _ _ _ _ _ _ _ _ _ _ => none, c4_0 := fun _ _ _ _ _ _ _ _ _ _ _ _ _ => none, c5_0 := fun _ _ _ _ _ _ _ _ _ _ _ _ => none, c6_0 := fun _ _ _ _ _ _ _ _ _ _ _ _ _ _ _ _ _ _ _ _ => none, c7_0 := fun _ _ _ _ _ _ _ _ _ _ _ _ => none, c8_0 := fun _ _ _ _ _ => none, c9_0 := fun _ _ _ _ _ => none, c10_0 := fun _ _ _ _ _ => none, c11_0 := fun _ _ _ => none, c12_0 := fun _ _ _ _ => none, c13_0 := fun _ _ _ _ _ => none, c14_0 := fun _ _ _ _ _ _ => none, c15_0 := fun _ _ _ _ _ _ => none, c16_0 := fun _ _ _ _ _ _ => none, c17_0 := fun _ _ => none, c18_0 := fun _ _ _ => none, c19_0 := fun _ _ _ => none, c20_0 := fun _ _ _ _ => none, c21_0 := fun _ _ _ _ _ => none, c22_0 := fun _ _ _ _ _ _ _ _ _ _ => none, c23_0 := fun _ _ _ _ _ _ => none, c24_0 := fun _ _ _ _ => none, c25_0 := fun _ _ _ _ => none, c26_0 := fun _ _ _ _ => none, c27_0 := fun _ _ _ _ => none, c28_0 := fun _ _ _ _ _ => none, c29_0 := fun _ _ _ _ _ _ => none, c30_0 := fun _ _ _ _ _ => none, c31_0 := fun _ _ _ _ _ => none, c32_0 := fun _ _ _ _ _ => none, c33_0 := fun _ _ _ _ _ => none, c34_0 := fun _ _ _ _ _ => none, c35_0 := fun _ _ _ => none, c36_0 := fun _ _ _ => none, c37_0 := fun _ _ _ _ => none, c38_0 := fun _ _ _ _ => none, c39_0 := fun _ _ _ _ _ => none, c41_0 := fun _ _ _ _ _ _ _ _ => none, c42_0 := fun _ _ _ => none, c43_0 := fun _ _ _ _ _ _ _ => none, c44_0 := fun _ _ _ _ => none, c45_0 := fun _ _ _ _ => none, c46_0 := fun _ _ _ => none, c47_0 := fun _ _ _ _ => none, c48_0 := fun _ _ _ _ => none, c49_0 := fun _ _ _ _ => none, c50_0 := fun _ _ _ _ _ => none, c51_0 := fun _ _ _ _ _ => none, c52_0 := fun _ _ _ _ _ => none, c53_0 := fun _ _ _ => none, c54_0 := fun _ _ _ => none, c55_0 := fun _ _ _ _ _ _ _ => none, c56_0 := fun _ _ _ => none, c57_0 := fun _ _ _ _ _ _ => none, c58_0 := fun _ _ _ _ _ => none, c59_0 := fun _ _ _ => none, c60_0 := fun _ _ _ _ => none, c61_0 := fun _ _ _ _ _ => none, c62_0 := fun _ _ _ => none, c63_0 := fun _ _ _ => none, c64_0 := fun _ _ _ => none, c65_0 := fun _ _ _ _ _ => none, c66_0 := fun _ _ _ => none, c66_1 := fun _ _ _ _ => none, c67_0 := fun _ _ _ => none, c68_0 := fun _ _ _ => none, c69_0 := fun _ _ _ => none, c70_0 := fun _ _ _ _ => none, c71_0 := fun _ _ _ _ => none, c72_0 := fun _ _ _ _ => none, c73_0 := fun _ _ _ => none, c74_0 := fun _ _ _ _ _ => none, c75_0 := fun _ _ _ _ => none, c75_1 := fun _ _ _ _ _ _ => none, c76_0 := fun _ _ _ _ => none, c77_0 := fun _ _ _ _ _ => none, c78_0 := fun _ _ _ _ _ => none, c79_0 := fun _ _ _ => none, c80_0 := fun _ _ _ _ => none, c81_0 := fun _ _ _ => none, c82_0 := fun _ _ _ => none, c82_1 := fun _ _ _ _ => none, c83_0 := fun _ _ _ => none, c84_0 := fun _ _ _ _ _ _ _ _ => none, c85_0 := fun _ _ _ _ _ _ _ _ => none, c86_0 := fun _ _ _ _ _ => none, c87_0 := fun _ _ _ => none, c88_0 := fun _ _ _ _ => none, c89_0 := fun _ _ _ _ _ _ => none, l13_4_0 := fun _ _ _ _ _ _ _ _ => none, l22_4_0 := fun _ _ _ _ _ _ _ _ _ _ _ _ _ _ => none, l22_10_0 := fun _ _ _ _ _ _ _ _ _ _ _ _ _ _ => none, l23_2_0 := fun _ _ _ _ _ _ _ _ _ _ => none, l23_23_0 := fun _ _ _ _ _ _ _ _ _ _ => none, l26_4_0 := fun _ _ _ _ _ _ => none, l27_4_0 := fun _ _ _ _ _ _ => none, l29_9_0 := fun _ _ _ _ _ _ _ _ _ _ => none, l32_6_0 := fun _ _ _ _ _ _ _ _ _ _ _ _ => none, l33_4_0 := fun _ _ _ _ _ _ _ _ => none, l33_10_0 := fun _ _ _ _ _ _ _ _ _ => none, l35_4_0 := fun _ _ _ _ => none, l35_10_0 := fun _ _ _ _ _ _ _ _ => none, l36_2_0 := fun _ _ _ _ => none, l36_8_0 := fun _ _ _ _ _ _ => none, l37_6_0 := fun _ _ _ _ _ _ _ _ _ _ => none, l38_5_0 := fun _ _ _ _ _ _ _ _ => none, l39_4_0 := fun _ _ _ _ _ _ _ _ => none, l41_6_0 := fun _ _ _ _ _ _ _ _ _ _ _ _ _ => none, l43_7_0 := fun _ _ _ _ _ _ _ _ _ _ _ => none, l47_3_0 := fun _ _ _ _ _ _ => none, l48_18_0 := fun _ _ _ _ _ _ => none, l49_5_0 := fun _ _ _ _ _ _ _ => none, l50_4_0 := fun _ _ _ _ _ _ _ => none, l51_6_0 := fun _ _ _ _ _ _ _ _ => none, l52_6_0 := fun _ _ _ _ _ _ _ _ _ => none, l52_11_0 := fun _ _ _ _ _ _ _ => none, l55_3_0 := fun _ _ _ _ _ _ _ _ _ _ => none, l56_2_0 := fun _ _ _ _ _ => none, l61_6_0 := fun _ _ _ _ _ _ _ => none, l61_11_0 := fun _ _ _ _ _ _ _ => none, l74_17_0 := fun _ _ _ _ _ _ _ _ => none, l75_3_0 := fun _ _ _ _ _ _ _ _ _ => none, l75_3_1 := fun _ _ _ _ _ _ _ _ _ _ _ => none, l78_6_0 := fun _ _ _ _ _ _ _ _ => none, l79_6_0 := fun _ _ _ _ _ _ _ _ _ _ => none, l82_2_0 := fun _ _ _ _ _ _ => none, l82_2_1 := fun _ _ _ _ _ _ _ => none, l83_2_0 := fun _ _ _ _ _ _ => none, l84_3_0 := fun _ _ _ _ _ _ _ _ _ _ _ => none, l87_2_0 := fun _ _ _ _ _ => none }
  | k + 1 => {c3_0 := Gc3_0 (Tabs k), c4_0 := Gc4_0 (Tabs k), c5_0 := Gc5_0 (Tabs k), c6_0 := Gc6_0 (Tabs k), c7_0 := Gc7_0 (Tabs k), c8_0 := Gc8_0 (Tabs k), c9_0 := Gc9_0 (Tabs k), c10_0 := Gc10_0 (Tabs k), c11_0 := Gc11_0 (Tabs k), c12_0 := Gc12_0 (Tabs k), c13_0 := Gc13_0 (Tabs k), c14_0 := Gc14_0 (Tabs k), c15_0 := Gc15_0 (Tabs k), c16_0 := Gc16_0 (Tabs k), c17_0 := Gc17_0 (Tabs k), c18_0 := Gc18_0 (Tabs k), c19_0 := Gc19_0 (Tabs k), c20_0 := Gc20_0 (Tabs k), c21_0 := Gc21_0 (Tabs k), c22_0 := Gc22_0 (Tabs k), c23_0 := Gc23_0 (Tabs k), c24_0 := Gc24_0 (Tabs k), c25_0 := Gc25_0 (Tabs k), c26_0 := Gc26_0 (Tabs k), c27_0 := Gc27_0 (Tabs k), c28_0 := Gc28_0 (Tabs k), c29_0 := Gc29_0 (Tabs k), c30_0 := Gc30_0 (Tabs k), c31_0 := Gc31_0 (Tabs k), c32_0 := Gc32_0 (Tabs k), c33_0 := Gc33_0 (Tabs k), c34_0 := Gc34_0 (Tabs k), c35_0 := Gc35_0 (Tabs k), c36_0 := Gc36_0 (Tabs k), c37_0 := Gc37_0 (Tabs k), c38_0 := Gc38_0 (Tabs k), c39_0 := Gc39_0 (Tabs k), c41_0 := Gc41_0 (Tabs k), c42_0 := Gc42_0 (Tabs k), c43_0 := Gc43_0 (Tabs k), c44_0 := Gc44_0 (Tabs k), c45_0 := Gc45_0 (Tabs k), c46_0 := Gc46_0 (Tabs k), c47_0 := Gc47_0 (Tabs k), c48_0 := Gc48_0 (Tabs k), c49_0 := Gc49_0 (Tabs k), c50_0 := Gc50_0 (Tabs k), c51_0 := Gc51_0 (Tabs k), c52_0 := Gc52_0 (Tabs k), c53_0 := Gc53_0 (Tabs k), c54_0 := Gc54_0 (Tabs k), c55_0 := Gc55_0 (Tabs k), c56_0 := Gc56_0 (Tabs k), c57_0 := Gc57_0 (Tabs k), c58_0 := Gc58_0 (Tabs k), c59_0 := Gc59_0 (Tabs k), c60_0 := Gc60_0 (Tabs k), c61_0 := Gc61_0 (Tabs k), c62_0 := Gc62_0 (Tabs k), c63_0 := Gc63_0 (Tabs k), c64_0 := Gc64_0 (Tabs k), c65_0 := Gc65_0 (Tabs k), c66_0 := Gc66_0 (Tabs k), c66_1 := Gc66_1 (Tabs k), c67_0 := Gc67_0 (Tabs k), c68_0 := Gc68_0 (Tabs k), c69_0 := Gc69_0 (Tabs k), c70_0 := Gc70_0 (Tabs k), c71_0 := Gc71_0 (Tabs k), c72_0 := Gc72_0 (Tabs k), c73_0 := Gc73_0 (Tabs k), c74_0 := Gc74_0 (Tabs k), c75_0 := Gc75_0 (Tabs k), c75_1 := Gc75_1 (Tabs k), c76_0 := Gc76_0 (Tabs k), c77_0 := Gc77_0 (Tabs k), c78_0 := Gc78_0 (Tabs k), c79_0 := Gc79_0 (Tabs k), c80_0 := Gc80_0 (Tabs k), c81_0 := Gc81_0 (Tabs k), c82_0 := Gc82_0 (Tabs k), c82_1 := Gc82_1 (Tabs k), c83_0 := Gc83_0 (Tabs k), c84_0 := Gc84_0 (Tabs k), c85_0 := Gc85_0 (Tabs k), c86_0 := Gc86_0 (Tabs k), c87_0 := Gc87_0 (Tabs k), c88_0 := Gc88_0 (Tabs k), c89_0 := Gc89_0 (Tabs k), l13_4_0 := Gl13_4_0 (Tabs k), l22_4_0 := Gl22_4_0 (Tabs k), l22_10_0 := Gl22_10_0 (Tabs k), l23_2_0 := Gl23_2_0 (Tabs k), l23_23_0 := Gl23_23_0 (Tabs k), l26_4_0 := Gl26_4_0 (Tabs k), l27_4_0 := Gl27_4_0 (Tabs k), l29_9_0 := Gl29_9_0 (Tabs k), l32_6_0 := Gl32_6_0 (Tabs k), l33_4_0 := Gl33_4_0 (Tabs k), l33_10_0 := Gl33_10_0 (Tabs k), l35_4_0 := Gl35_4_0 (Tabs k), l35_10_0 := Gl35_10_0 (Tabs k), l36_2_0 := Gl36_2_0 (Tabs k), l36_8_0 := Gl36_8_0 (Tabs k), l37_6_0 := Gl37_6_0 (Tabs k), l38_5_0 := Gl38_5_0 (Tabs k), l39_4_0 := Gl39_4_0 (Tabs k), l41_6_0 := Gl41_6_0 (Tabs k), l43_7_0 := Gl43_7_0 (Tabs k), l47_3_0 := Gl47_3_0 (Tabs k), l48_18_0 := Gl48_18_0 (Tabs k), l49_5_0 := Gl49_5_0 (Tabs k), l50_4_0 := Gl50_4_0 (Tabs k), l51_6_0 := Gl51_6_0 (Tabs k), l52_6_0 := Gl52_6_0 (Tabs k), l52_11_0 := Gl52_11_0 (Tabs k), l55_3_0 := Gl55_3_0 (Tabs k), l56_2_0 := Gl56_2_0 (Tabs k), l61_6_0 := Gl61_6_0 (Tabs k), l61_11_0 := Gl61_11_0 (Tabs k), l74_17_0 := Gl74_17_0 (Tabs k), l75_3_0 := Gl75_3_0 (Tabs k), l75_3_1 := Gl75_3_1 (Tabs k), l78_6_0 := Gl78_6_0 (Tabs k), l79_6_0 := Gl79_6_0 (Tabs k), l82_2_0 := Gl82_2_0 (Tabs k), l82_2_1 := Gl82_2_1 (Tabs k), l83_2_0 := Gl83_2_0 (Tabs k), l84_3_0 := Gl84_3_0 (Tabs k), l87_2_0 := Gl87_2_0 (Tabs k) }

def PK : Parks := fun f np key kd =>
  bif Nat.beq f 13 && (Nat.beq np 0 && (Nat.beq key 4 && Nat.beq kd 0)) then (([(1, .raw), (3, .raw), (5, .raw), (33, .raw), (34, .raw)], []) : Seen2) else
  bif Nat.beq f 13 && (Nat.beq np 0 && (Nat.beq key 4 && Nat.beq kd 1)) then (([(6, .raw)], []) : Seen2) else
  bif Nat.beq f 13 && (Nat.beq np 0 && (Nat.beq key 4 && Nat.beq kd 3)) then (([(1, .raw), (3, .raw), (5, .raw)], []) : Seen2) else
  bif Nat.beq f 22 && (Nat.beq np 0 && (Nat.beq key 4 && Nat.beq kd 0)) then (([(1, .raw), (30, .raw), (31, .raw), (32, .raw)], []) : Seen2) else
  bif Nat.beq f 22 && (Nat.beq np 0 && (Nat.beq key 4 && Nat.beq kd 1)) then (([(2, .raw)], []) : Seen2) else
  bif Nat.beq f 22 && (Nat.beq np 0 && (Nat.beq key 4 && Nat.beq kd 3)) then (([(1, .raw)], []) : Seen2) else
  bif Nat.beq f 22 && (Nat.beq np 0 && (Nat.beq key 10 && Nat.beq kd 0)) then (([(1, .raw), (41, .raw), (42, .raw), (43, .raw)], []) : Seen2) else
  bif Nat.beq f 22 && (Nat.beq np 0 && (Nat.beq key 10 && Nat.beq kd 1)) then (([(2, .raw)], []) : Seen2) else
  bif Nat.beq f 22 && (Nat.beq np 0 && (Nat.beq key 10 && Nat.beq kd 5)) then (([(1, .raw)], []) : Seen2) else
  bif Nat.beq f 23 && (Nat.beq np 0 && (Nat.beq key 2 && Nat.beq kd 0)) then (([(0, .raw), (1, .raw), (6, .raw), (7, .raw), (15, .raw), (16, .raw), (17, .raw)], []) : Seen2) else
  bif Nat.beq f 23 && (Nat.beq np 0 && (Nat.beq key 2 && Nat.beq kd 1)) then (([(8, .raw)], []) : Seen2) else
  bif Nat.beq f 23 && (Nat.beq np 0 && (Nat.beq key 2 && Nat.beq kd 3)) then (([(0, .raw), (1, .raw), (6, .raw), (7, .raw)], []) : Seen2) else
  bif Nat.beq f 23 && (Nat.beq np 0 && (Nat.beq key 23 && Nat.beq kd 0)) then (([(0, .raw), (1, .raw), (6, .raw), (12, .raw), (103, .raw), (104, .raw)], []) : Seen2) else
  bif Nat.beq f 23 && (Nat.beq np 0 && (Nat.beq key 23 && Nat.beq kd 1)) then (([(8, .raw)], []) : Seen2) else
  bif Nat.beq f 23 && (Nat.beq np 0 && (Nat.beq key 23 && Nat.beq kd 6)) then (([], []) : Seen2) else
  bif Nat.beq f 26 && (Nat.beq np 0 && (Nat.beq key 4 && Nat.beq kd 0)) then (([(2, .raw), (3, .raw), (5, .raw)], []) : Seen2) else
  bif Nat.beq f 26 && (Nat.beq np 0 && (Nat.beq key 4 && Nat.beq kd 1)) then (([(4, .raw)], []) : Seen2) else
  bif Nat.beq f 26 && (Nat.beq np 0 && (Nat.beq key 4 && Nat.beq kd 3)) then (([], []) : Seen2) else
  bif Nat.beq f 27 && (Nat.beq np 0 && (Nat.beq key 4 && Nat.beq kd 0)) then (([(2, .raw), (3, .raw), (5, .raw)], []) : Seen2) else
  bif Nat.beq f 27 && (Nat.beq np 0 && (Nat.beq key 4 && Nat.beq kd 1)) then (([(4, .raw)], []) : Seen2) else
  bif Nat.beq f 27 && (Nat.beq np 0 && (Nat.beq key 4 && Nat.beq kd 3)) then (([], []) : Seen2) else
  bif Nat.beq f 29 && (Nat.beq np 0 && (Nat.beq key 9 && Nat.beq kd 0)) then (([(1, .raw), (2, .raw), (3, .raw), (4, .raw), (8, .raw), (9, .raw), (46, .raw), (47, .raw)], [[], [], [.raw, .raw, .raw, .own]]) : Seen2) else
  bif Nat.beq f 29 && (Nat.beq np 0 && (Nat.beq key 9 && Nat.beq kd 4)) then (([(8, .raw), (9, .raw)], [[], [], [.raw, .raw, .raw, .own]]) : Seen2) else
  bif Nat.beq f 32 && (Nat.beq np 0 && (Nat.beq key 6 && Nat.beq kd 0)) then (([(1, .raw), (2, .raw), (3, .raw), (6, .raw), (7, .raw), (8, .raw), (33, .raw), (34, .raw), (35, .raw)], []) : Seen2) else
  bif Nat.beq f 32 && (Nat.beq np 0 && (Nat.beq key 6 && Nat.beq kd 2)) then (([(6, .raw), (7, .raw)], []) : Seen2) else
  bif Nat.beq f 32 && (Nat.beq np 0 && (Nat.beq key 6 && Nat.beq kd 3)) then (([(3, .raw), (6, .raw), (7, .raw)], []) : Seen2) else
  bif Nat.beq f 33 && (Nat.beq np 0 && (Nat.beq key 4 && Nat.beq kd 0)) then (([(1, .raw), (2, .raw), (3, .raw), (6, .raw), (8, .raw)], []) : Seen2) else
  bif Nat.beq f 33 && (Nat.beq np 0 && (Nat.beq key 4 && Nat.beq kd 1)) then (([(6, .raw), (7, .raw)], []) : Seen2) else
  bif Nat.beq f 33 && (Nat.beq np 0 && (Nat.beq key 4 && Nat.beq kd 3)) then (([(1, .raw), (2, .raw), (3, .raw), (6, .raw)], []) : Seen2) else
  bif Nat.beq f 33 && (Nat.beq np 0 && (Nat.beq key 10 && Nat.beq kd 0)) then (([(1, .raw), (2, .raw), (3, .raw), (6, .raw), (9, .raw), (10, .raw)], []) : Seen2) else
  bif Nat.beq f 33 && (Nat.beq np 0 && (Nat.beq key 10 && Nat.beq kd 1)) then (([(6, .raw), (7, .raw)], []) : Seen2) else
  bif Nat.beq f 33 && (Nat.beq np 0 && (Nat.beq key 10 && Nat.beq kd 5)) then (([(3, .raw), (6, .raw)], []) : Seen2) else
  bif Nat.beq f 35 && (Nat.beq np 0 && (Nat.beq key 4 && Nat.beq kd 0)) then (([(1, .raw), (5, .raw)], []) : Seen2) else
  bif Nat.beq f 35 && (Nat.beq np 0 && (Nat.beq key 4 && Nat.beq kd 3)) then (([(1, .raw), (5, .raw)], []) : Seen2) else
  bif Nat.beq f 35 && (Nat.beq np 0 && (Nat.beq key 10 && Nat.beq kd 0)) then (([(1, .raw), (5, .raw), (45, .raw), (46, .raw), (47, .raw)], []) : Seen2) else
  bif Nat.beq f 35 && (Nat.beq np 0 && (Nat.beq key 10 && Nat.beq kd 1)) then (([(2, .raw), (3, .raw), (4, .raw)], []) : Seen2) else
  bif Nat.beq f 35 && (Nat.beq np 0 && (Nat.beq key 10 && Nat.beq kd 5)) then (([(1, .raw), (5, .raw)], []) : Seen2) else
  bif Nat.beq f 36 && (Nat.beq np 0 && (Nat.beq key 2 && Nat.beq kd 0)) then (([(1, .raw), (5, .raw)], []) : Seen2) else
  bif Nat.beq f 36 && (Nat.beq np 0 && (Nat.beq key 2 && Nat.beq kd 3)) then (([(1, .raw), (5, .raw)], []) : Seen2) else
  bif Nat.beq f 36 && (Nat.beq np 0 && (Nat.beq key 8 && Nat.beq kd 0)) then (([(1, .raw), (5, .raw), (6, .raw)], []) : Seen2) else
  bif Nat.beq f 36 && (Nat.beq np 0 && (Nat.beq key 8 && Nat.beq kd 1)) then (([(2, .raw), (3, .raw), (4, .raw)], []) : Seen2) else
  bif Nat.beq f 36 && (Nat.beq np 0 && (Nat.beq key 8 && Nat.beq kd 5)) then (([(1, .raw), (5, .raw)], []) : Seen2) else
  bif Nat.beq f 37 && (Nat.beq np 0 && (Nat.beq key 6 && Nat.beq kd 0)) then (([(2, .raw), (4, .raw), (5, .raw), (6, .raw), (25, .raw), (26, .raw), (27, .raw)], []) : Seen2) else
  bif Nat.beq f 37 && (Nat.beq np 0 && (Nat.beq key 6 && Nat.beq kd 2)) then (([(4, .raw), (5, .raw)], [[], [.raw, .raw, .raw, .norm]]) : Seen2) else
  bif Nat.beq f 37 && (Nat.beq np 0 && (Nat.beq key 6 && Nat.beq kd 3)) then (([(2, .raw), (4, .raw), (5, .raw)], []) : Seen2) else
  bif Nat.beq f 38 && (Nat.beq np 0 && (Nat.beq key 5 && Nat.beq kd 0)) then (([(1, .raw), (2, .raw), (4, .raw), (6, .raw), (7, .raw)], []) : Seen2) else
  bif Nat.beq f 38 && (Nat.beq np 0 && (Nat.beq key 5 && Nat.beq kd 1)) then (([(4, .raw), (5, .raw)], []) : Seen2) else
  bif Nat.beq f 38 && (Nat.beq np 0 && (Nat.beq key 5 && Nat.beq kd 3)) then (([(2, .raw), (4, .raw)], []) : Seen2) else
  bif Nat.beq f 39 && (Nat.beq np 0 && (Nat.beq key 4 && Nat.beq kd 0)) then (([(1, .raw), (2, .raw), (12, .raw), (13, .raw), (14, .raw)], []) : Seen2) else
  bif Nat.beq f 39 && (Nat.beq np 0 && (Nat.beq key 4 && Nat.beq kd 1)) then (([(6, .raw)], []) : Seen2) else
  bif Nat.beq f 39 && (Nat.beq np 0 && (Nat.beq key 4 && Nat.beq kd 3)) then (([(1, .raw), (2, .raw)], []) : Seen2) else
  bif Nat.beq f 41 && (Nat.beq np 1 && (Nat.beq key 6 && Nat.beq kd 0)) then (([(0, .raw), (2, .raw), (6, .raw), (8, .raw), (9, .raw), (10, .raw), (11, .raw), (35, .raw), (36, .raw), (37, .raw)], [[], [], [], [], [], [.raw, .raw, .raw, .own]]) : Seen2) else
  bif Nat.beq f 41 && (Nat.beq np 1 && (Nat.beq key 6 && Nat.beq kd 2)) then (([(10, .raw)], []) : Seen2) else
  bif Nat.beq f 41 && (Nat.beq np 1 && (Nat.beq key 6 && Nat.beq kd 3)) then (([(0, .raw), (2, .raw), (6, .raw), (8, .raw), (9, .raw), (10, .raw), (11, .raw)], [[], [], [], [], [], [.raw, .raw, .raw, .own]]) : Seen2) else
  bif Nat.beq f 43 && (Nat.beq np 1 && (Nat.beq key 7 && Nat.beq kd 0)) then (([(0, .raw), (2, .raw), (6, .raw), (8, .raw), (9, .raw), (10, .raw), (12, .raw), (13, .raw)], [[], [], [], [], [], [.raw, .raw, .raw, .own]]) : Seen2) else
  bif Nat.beq f 43 && (Nat.beq np 1 && (Nat.beq key 7 && Nat.beq kd 1)) then (([(10, .raw), (11, .raw)], []) : Seen2) else
  bif Nat.beq f 43 && (Nat.beq np 1 && (Nat.beq key 7 && Nat.beq kd 3)) then (([(0, .raw), (2, .raw), (6, .raw), (8, .raw), (9, .raw), (10, .raw), (12, .raw)], [[], [], [], [], [], [.raw, .raw, .raw, .own]]) : Seen2) else
  bif Nat.beq f 47 && (Nat.beq np 0 && (Nat.beq key 3 && Nat.beq kd 0)) then (([(1, .raw), (2, .raw), (5, .raw), (6, .raw)], []) : Seen2) else
  bif Nat.beq f 47 && (Nat.beq np 0 && (Nat.beq key 3 && Nat.beq kd 3)) then (([(1, .raw), (5, .raw)], []) : Seen2) else
  bif Nat.beq f 48 && (Nat.beq np 0 && (Nat.beq key 18 && Nat.beq kd 0)) then (([(1, .raw), (2, .raw), (5, .raw)], []) : Seen2) else
  bif Nat.beq f 48 && (Nat.beq np 0 && (Nat.beq key 18 && Nat.beq kd 1)) then (([(4, .raw)], []) : Seen2) else
  bif Nat.beq f 48 && (Nat.beq np 0 && (Nat.beq key 18 && Nat.beq kd 4)) then (([], []) : Seen2) else
  bif Nat.beq f 49 && (Nat.beq np 0 && (Nat.beq key 5 && Nat.beq kd 0)) then (([(1, .raw), (2, .raw), (5, .raw), (6, .raw)], []) : Seen2) else
  bif Nat.beq f 49 && (Nat.beq np 0 && (Nat.beq key 5 && Nat.beq kd 1)) then (([(4, .raw)], []) : Seen2) else
  bif Nat.beq f 49 && (Nat.beq np 0 && (Nat.beq key 5 && Nat.beq kd 3)) then (([(1, .raw), (5, .raw)], []) : Seen2) else
  bif Nat.beq f 50 && (Nat.beq np 0 && (Nat.beq key 4 && Nat.beq kd 0)) then (([(1, .raw), (2, .raw), (3, .raw), (7, .raw)], []) : Seen2) else
  bif Nat.beq f 50 && (Nat.beq np 0 && (Nat.beq key 4 && Nat.beq kd 1)) then (([(6, .raw)], []) : Seen2) else
  bif Nat.beq f 50 && (Nat.beq np 0 && (Nat.beq key 4 && Nat.beq kd 3)) then (([], []) : Seen2) else
  bif Nat.beq f 51 && (Nat.beq np 0 && (Nat.beq key 6 && Nat.beq kd 0)) then (([(1, .raw), (2, .raw), (3, .raw), (6, .raw), (7, .raw), (8, .raw)], [[], [], [.raw, .raw, .raw, .own]]) : Seen2) else
  bif Nat.beq f 51 && (Nat.beq np 0 && (Nat.beq key 6 && Nat.beq kd 3)) then (([(6, .raw), (7, .raw)], [[], [], [.raw, .raw, .raw, .own]]) : Seen2) else
  bif Nat.beq f 52 && (Nat.beq np 0 && (Nat.beq key 6 && Nat.beq kd 0)) then (([(6, .raw), (7, .raw), (8, .raw), (25, .raw), (26, .raw), (27, .raw)], [[], [], [.raw, .raw, .raw, .own]]) : Seen2) else
  bif Nat.beq f 52 && (Nat.beq np 0 && (Nat.beq key 6 && Nat.beq kd 3)) then (([(6, .raw), (7, .raw), (8, .raw)], [[], [], [.raw, .raw, .raw, .own]]) : Seen2) else
  bif Nat.beq f 52 && (Nat.beq np 0 && (Nat.beq key 11 && Nat.beq kd 0)) then (([(6, .raw), (8, .raw), (44, .raw), (45, .raw)], [[], [], [.raw, .raw, .raw, .norm]]) : Seen2) else
  bif Nat.beq f 52 && (Nat.beq np 0 && (Nat.beq key 11 && Nat.beq kd 5)) then (([(6, .raw), (8, .raw)], [[], [], [.raw, .raw, .raw, .norm]]) : Seen2) else
  bif Nat.beq f 55 && (Nat.beq np 1 && (Nat.beq key 3 && Nat.beq kd 0)) then (([(5, .raw), (7, .raw), (8, .raw), (9, .raw), (14, .raw), (15, .raw), (16, .raw)], []) : Seen2) else
  bif Nat.beq f 55 && (Nat.beq np 1 && (Nat.beq key 3 && Nat.beq kd 2)) then (([(8, .raw)], [[], [], [], [.raw, .raw, .raw, .norm]]) : Seen2) else
  bif Nat.beq f 55 && (Nat.beq np 1 && (Nat.beq key 3 && Nat.beq kd 3)) then (([(5, .raw), (8, .raw)], []) : Seen2) else
  bif Nat.beq f 56 && (Nat.beq np 0 && (Nat.beq key 2 && Nat.beq kd 0)) then (([(0, .raw), (3, .raw)], []) : Seen2) else
  bif Nat.beq f 56 && (Nat.beq np 0 && (Nat.beq key 2 && Nat.beq kd 1)) then (([(2, .raw)], []) : Seen2) else
  bif Nat.beq f 56 && (Nat.beq np 0 && (Nat.beq key 2 && Nat.beq kd 3)) then (([(0, .raw)], []) : Seen2) else
  bif Nat.beq f 61 && (Nat.beq np 0 && (Nat.beq key 6 && Nat.beq kd 0)) then (([(5, .raw), (6, .raw), (7, .raw), (8, .raw), (9, .raw)], [[], [], [.raw, .raw, .raw, .own]]) : Seen2) else
  bif Nat.beq f 61 && (Nat.beq np 0 && (Nat.beq key 6 && Nat.beq kd 3)) then (([(6, .raw), (7, .raw), (8, .raw)], [[], [], [.raw, .raw, .raw, .own]]) : Seen2) else
  bif Nat.beq f 61 && (Nat.beq np 0 && (Nat.beq key 11 && Nat.beq kd 0)) then (([(6, .raw), (7, .raw), (8, .raw), (11, .raw)], [[], [], [.raw, .raw, .raw, .own]]) : Seen2) else
  bif Nat.beq f 61 && (Nat.beq np 0 && (Nat.beq key 11 && Nat.beq kd 5)) then (([(6, .raw), (8, .raw)], [[], [], [.raw, .raw, .raw, .own]]) : Seen2) else
  bif Nat.beq f 74 && (Nat.beq np 1 && (Nat.beq key 17 && Nat.beq kd 0)) then (([(1, .raw), (2, .raw), (3, .raw), (7, .raw), (8, .raw), (9, .raw)], []) : Seen2) else
  bif Nat.beq f 74 && (Nat.beq np 1 && (Nat.beq key 17 && Nat.beq kd 4)) then (([(8, .raw)], []) : Seen2) else
  bif Nat.beq f 75 && (Nat.beq np 0 && (Nat.beq key 3 && Nat.beq kd 0)) then (([(1, .raw), (2, .raw), (3, .raw), (6, .raw), (7, .raw), (21, .raw), (22, .raw), (23, .raw)], [[], [], [.raw, .raw, .raw, .own]]) : Seen2) else
  bif Nat.beq f 75 && (Nat.beq np 0 && (Nat.beq key 3 && Nat.beq kd 3)) then (([(6, .raw), (7, .raw)], [[], [], [.raw, .raw, .raw, .own]]) : Seen2) else
  bif Nat.beq f 75 && (Nat.beq np 2 && (Nat.beq key 3 && Nat.beq kd 0)) then (([(1, .raw), (2, .raw), (3, .raw), (6, .raw), (7, .raw), (21, .raw), (22, .raw), (23, .raw)], [[], [], [], [], [.raw, .raw, .raw, .own]]) : Seen2) else
  bif Nat.beq f 75 && (Nat.beq np 2 && (Nat.beq key 3 && Nat.beq kd 3)) then (([(6, .raw), (7, .raw)], [[], [], [], [], [.raw, .raw, .raw, .own]]) : Seen2) else
  bif Nat.beq f 78 && (Nat.beq np 0 && (Nat.beq key 6 && Nat.beq kd 0)) then (([(1, .raw), (2, .raw), (3, .raw), (6, .raw), (7, .raw), (8, .raw)], [[], [], [.raw, .raw, .raw, .own]]) : Seen2) else
  bif Nat.beq f 78 && (Nat.beq np 0 && (Nat.beq key 6 && Nat.beq kd 3)) then (([(6, .raw), (7, .raw)], [[], [], [.raw, .raw, .raw, .own]]) : Seen2) else
  bif Nat.beq f 79 && (Nat.beq np 0 && (Nat.beq key 6 && Nat.beq kd 0)) then (([(2, .raw), (6, .raw), (28, .raw), (29, .raw), (30, .raw)], [[], [], [], [.own]]) : Seen2) else
  bif Nat.beq f 79 && (Nat.beq np 0 && (Nat.beq key 6 && Nat.beq kd 1)) then (([(2, .raw), (3, .raw)], []) : Seen2) else
  bif Nat.beq f 79 && (Nat.beq np 0 && (Nat.beq key 6 && Nat.beq kd 3)) then (([(2, .raw), (6, .raw)], [[], [], [], [.own]]) : Seen2) else
  bif Nat.beq f 82 && (Nat.beq np 0 && (Nat.beq key 2 && Nat.beq kd 0)) then (([(0, .raw), (1, .raw), (7, .raw), (8, .raw)], []) : Seen2) else
  bif Nat.beq f 82 && (Nat.beq np 0 && (Nat.beq key 2 && Nat.beq kd 1)) then (([(4, .raw)], []) : Seen2) else
  bif Nat.beq f 82 && (Nat.beq np 0 && (Nat.beq key 2 && Nat.beq kd 3)) then (([], []) : Seen2) else
  bif Nat.beq f 82 && (Nat.beq np 2 && (Nat.beq key 2 && Nat.beq kd 0)) then (([(0, .raw), (1, .raw), (7, .raw), (8, .raw)], []) : Seen2) else
  bif Nat.beq f 82 && (Nat.beq np 2 && (Nat.beq key 2 && Nat.beq kd 1)) then (([(4, .raw)], []) : Seen2) else
  bif Nat.beq f 82 && (Nat.beq np 2 && (Nat.beq key 2 && Nat.beq kd 3)) then (([], []) : Seen2) else
  bif Nat.beq f 83 && (Nat.beq np 0 && (Nat.beq key 2 && Nat.beq kd 0)) then (([(0, .raw), (1, .raw), (7, .raw), (8, .raw)], []) : Seen2) else
  bif Nat.beq f 83 && (Nat.beq np 0 && (Nat.beq key 2 && Nat.beq kd 1)) then (([(4, .raw)], []) : Seen2) else
  bif Nat.beq f 83 && (Nat.beq np 0 && (Nat.beq key 2 && Nat.beq kd 3)) then (([], []) : Seen2) else
  bif Nat.beq f 84 && (Nat.beq np 4 && (Nat.beq key 3 && Nat.beq kd 0)) then (([(1, .raw), (2, .raw), (3, .raw), (13, .raw), (14, .raw), (15, .raw)], []) : Seen2) else
  bif Nat.beq f 84 && (Nat.beq np 4 && (Nat.beq key 3 && Nat.beq kd 3)) then (([], []) : Seen2) else
  bif Nat.beq f 87 && (Nat.beq np 0 && (Nat.beq key 2 && Nat.beq kd 0)) then (([(1, .raw), (3, .raw), (4, .own)], []) : Seen2) else
  bif Nat.beq f 87 && (Nat.beq np 0 && (Nat.beq key 2 && Nat.beq kd 3)) then (([(1, .raw), (3, .raw), (4, .own)], []) : Seen2) else ([], [])

def Rc3_0 (C : Tab) (ρ : Type) (args : List (PV sig)) (m : Mem sig) (K : Res sig × Mem sig → Option ρ) : Option ρ :=
  uC args fun x0 x1 => uAgg x0 fun x2 => uC x2 fun x3 x4 => uI .i64 x3 fun a1 => uC x4 fun x5 x6 => uI .i64 x5 fun a2 => uC x6 fun x7 x8 => uI .i64 x7 fun a3 => uC x8 fun x9 x10 => uS (S := sig) .d Key.tm x9 fun (a4 : List Tm) => uC x10 fun x11 x12 => uI .i64 x11 fun a5 => uC x12 fun x13 x14 => uI .i64 x13 fun a6 => uC x14 fun x15 x16 => uI .i64 x15 fun a7 => uC x16 fun x17 x18 => uI .i64 x17 fun a8 => uC x18 fun x19 x20 => uS (S := sig) .d Key.tm x19 fun (a9 : List Tm) => uC x20 fun x21 x22 => uS (S := sig) .d Key.sm x21 fun (a10 : List Sm) => uC x22 fun x23 x24 => uI .i64 x23 fun a11 => u0 x24 <| u0 x1 <| uE m <| C.c3_0 ρ a1 a2 a3 a4 a5 a6 a7 a8 a9 a10 a11 (fun (y0 : Bool) => K (.ret (.d (.bool y0)), []))

def Rc4_0 (C : Tab) (ρ : Type) (args : List (PV sig)) (m : Mem sig) (K : Res sig × Mem sig → Option ρ) : Option ρ :=
  uC args fun x0 x1 => uAgg x0 fun x2 => uC x2 fun x3 x4 => uI .i64 x3 fun a1 => uC x4 fun x5 x6 => uI .i64 x5 fun a2 => uC x6 fun x7 x8 => uI .i64 x7 fun a3 => uC x8 fun x9 x10 => uS (S := sig) .d Key.tm x9 fun (a4 : List Tm) => uC x10 fun x11 x12 => uI .i64 x11 fun a5 => uC x12 fun x13 x14 => uI .i64 x13 fun a6 => uC x14 fun x15 x16 => uI .i64 x15 fun a7 => uC x16 fun x17 x18 => uI .i64 x17 fun a8 => uC x18 fun x19 x20 => uS (S := sig) .d Key.tm x19 fun (a9 : List Tm) => uC x20 fun x21 x22 => uS (S := sig) .d Key.sm x21 fun (a10 : List Sm) => uC x22 fun x23 x24 => uI .i64 x23 fun a11 => u0 x24 <| u0 x1 <| uE m <| C.c4_0 ρ a1 a2 a3 a4 a5 a6 a7 a8 a9 a10 a11 (fun (y0 : Bool) => K (.ret (.d (.bool y0)), []))

def Rc5_0 (C : Tab) (ρ : Type) (args : List (PV sig)) (m : Mem sig) (K : Res sig × Mem sig → Option ρ) : Option ρ :=
  uC args fun x0 x1 => uAgg x0 fun x2 => uC x2 fun x3 x4 => uS (S := sig) .d Key.sm x3 fun (a1 : List Sm) => uC x4 fun x5 x6 => uS (S := sig) .d Key.sm x5 fun (a2 : List Sm) => uC x6 fun x7 x8 => uI .i64 x7 fun a3 => uC x8 fun x9 x10 => uI .i64 x9 fun a4 => uC x10 fun x11 x12 => uI .i64 x11 fun a5 => uC x12 fun x13 x14 => uS (S := sig) .d Key.tm x13 fun (a6 : List Tm) => uC x14 fun x15 x16 => uS (S := sig) .d Key.sm x15 fun (a7 : List Sm) => uC x16 fun x17 x18 => uI .i64 x17 fun a8 => u0 x18 <| uC x1 fun x19 x20 => uI .i64 x19 fun a9 => uC x20 fun x21 x22 => uTm .d x21 fun a10 => u0 x22 <| uE m <| C.c5_0 ρ a1 a2 a3 a4 a5 a6 a7 a8 a9 a10 (fun (y0 : Bool) => K (.ret (.d (.bool y0)), []))

def Rc6_0 (C : Tab) (ρ : Type) (args : List (PV sig)) (m : Mem sig) (K : Res sig × Mem sig → Option ρ) : Option ρ :=
  uC args fun x0 x1 => uAgg x0 fun x2 => uC x2 fun x3 x4 => uS (S := sig) .d Key.sm x3 fun (a1 : List Sm) => uC x4 fun x5 x6 => uS (S := sig) .d Key.sm x5 fun (a2 : List Sm) => uC x6 fun x7 x8 => uI .i64 x7 fun a3 => uC x8 fun x9 x10 => uI .i64 x9 fun a4 => uC x10 fun x11 x12 => uI .i64 x11 fun a5 => uC x12 fun x13 x14 => uS (S := sig) .d Key.tm x13 fun (a6 : List Tm) => uC x14 fun x15 x16 => uS (S := sig) .d Key.sm x15 fun (a7 : List Sm) => uC x16 fun x17 x18 => uI .i64 x17 fun a8 => u0 x18 <| uC x1 fun x19 x20 => uAgg x19 fun x21 => uC x21 fun x22 x23 => uI .i64 x22 fun a9 => uC x23 fun x24 x25 => uI .i64 x24 fun a10 => uC x25 fun x26 x27 => uI .i64 x26 fun a11 => uC x27 fun x28 x29 => uI .i64 x28 fun a12 => uC x29 fun x30 x31 => uI .i64 x30 fun a13 => uC x31 fun x32 x33 => uS (S := sig) .d Key.tm x32 fun (a14 : List Tm) => uC x33 fun x34 x35 => uI .i64 x34 fun a15 => uC x35 fun x36 x37 => uI .i64 x36 fun a16 => uC x37 fun x38 x39 => uI .i64 x38 fun a17 => uC x39 fun x40 x41 => uS (S := sig) .d Key.tm x40 fun (a18 : List Tm) => u0 x41 <| u0 x20 <| uE m <| C.c6_0 ρ a1 a2 a3 a4 a5 a6 a7 a8 a9 a10 a11 a12 a13 a14 a15 a16 a17 a18 (fun (y0 : Bool) => K (.ret (.d (.bool y0)), []))

def Rc7_0 (C : Tab) (ρ : Type) (args : List (PV sig)) (m : Mem sig) (K : Res sig × Mem sig → Option ρ) : Option ρ :=
  uC args fun x0 x1 => uAgg x0 fun x2 => uC x2 fun x3 x4 => uS (S := sig) .d Key.sm x3 fun (a1 : List Sm) => uC x4 fun x5 x6 => uS (S := sig) .d Key.sm x5 fun (a2 : List Sm) => uC x6 fun x7 x8 => uI .i64 x7 fun a3 => uC x8 fun x9 x10 => uI .i64 x9 fun a4 => uC x10 fun x11 x12 => uI .i64 x11 fun a5 => uC x12 fun x13 x14 => uS (S := sig) .d Key.tm x13 fun (a6 : List Tm) => uC x14 fun x15 x16 => uS (S := sig) .d Key.sm x15 fun (a7 : List Sm) => uC x16 fun x17 x18 => uI .i64 x17 fun a8 => u0 x18 <| uC x1 fun x19 x20 => uI .i64 x19 fun a9 => uC x20 fun x21 x22 => uI .i64 x21 fun a10 => u0 x22 <| uE m <| C.c7_0 ρ a1 a2 a3 a4 a5 a6 a7 a8 a9 a10 (fun (y0 : Bool) => K (.ret (.d (.bool y0)), []))

def Rc8_0 (C : Tab) (ρ : Type) (args : List (PV sig)) (m : Mem sig) (K : Res sig × Mem sig → Option ρ) : Option ρ :=
  uC args fun x0 x1 => uTm .d x0 fun a1 => uC x1 fun x2 x3 => uS (S := sig) .d Key.tm x2 fun (a2 : List Tm) => uC x3 fun x4 x5 => uSm .d x4 fun a3 => u0 x5 <| uE m <| C.c8_0 ρ a1 a2 a3 (fun (y0 : Bool) => K (.ret (.d (.bool y0)), []))

def Rc9_0 (C : Tab) (ρ : Type) (args : List (PV sig)) (m : Mem sig) (K : Res sig × Mem sig → Option ρ) : Option ρ :=
  uC args fun x0 x1 => uTm .d x0 fun a1 => uC x1 fun x2 x3 => uS (S := sig) .d Key.tm x2 fun (a2 : List Tm) => uC x3 fun x4 x5 => uS (S := sig) .d Key.sm x4 fun (a3 : List Sm) => u0 x5 <| uE m <| C.c9_0 ρ a1 a2 a3 (fun (y0 : Bool) => K (.ret (.d (.bool y0)), []))

def Rc10_0 (C : Tab) (ρ : Type) (args : List (PV sig)) (m : Mem sig) (K : Res sig × Mem sig → Option ρ) : Option ρ :=
  uC args fun x0 x1 => uI .i64 x0 fun a1 => uC x1 fun x2 x3 => uI .i64 x2 fun a2 => uC x3 fun x4 x5 => uSm .d x4 fun a3 => u0 x5 <| uE m <| C.c10_0 ρ a1 a2 a3 (fun (y0 : Bool) => K (.ret (.d (.bool y0)), []))

def Rc11_0 (C : Tab) (ρ : Type) (args : List (PV sig)) (m : Mem sig) (K : Res sig × Mem sig → Option ρ) : Option ρ :=
  uC args fun x0 x1 => uTm .d x0 fun a1 => u0 x1 <| uE m <| C.c11_0 ρ a1 (fun (y0 : Bool) => K (.ret (.d (.bool y0)), []))

def Rc12_0 (C : Tab) (ρ : Type) (args : List (PV sig)) (m : Mem sig) (K : Res sig × Mem sig → Option ρ) : Option ρ :=
  uC args fun x0 x1 => uTm .d x0 fun a1 => uC x1 fun x2 x3 => uS (S := sig) .d Key.tm x2 fun (a2 : List Tm) => u0 x3 <| uE m <| C.c12_0 ρ a1 a2 (fun (y0 : Bool) => K (.ret (.d (.bool y0)), []))

def Rc13_0 (C : Tab) (ρ : Type) (args : List (PV sig)) (m : Mem sig) (K : Res sig × Mem sig → Option ρ) : Option ρ :=
  uC args fun x0 x1 => uTm .d x0 fun a1 => uC x1 fun x2 x3 => uS (S := sig) .d Key.tm x2 fun (a2 : List Tm) => uC x3 fun x4 x5 => uSm .d x4 fun a3 => u0 x5 <| uE m <| C.c13_0 ρ a1 a2 a3 (fun (y0 : Bool) => K (.ret (.d (.bool y0)), []))

def Rc14_0 (C : Tab) (ρ : Type) (args : List (PV sig)) (m : Mem sig) (K : Res sig × Mem sig → Option ρ) : Option ρ :=
  uC args fun x0 x1 => uTm .d x0 fun a1 => uC x1 fun x2 x3 => uI .i64 x2 fun a2 => uC x3 fun x4 x5 => uTm .d x4 fun a3 => uC x5 fun x6 x7 => uSm .d x6 fun a4 => u0 x7 <| uE m <| C.c14_0 ρ a1 a2 a3 a4 (fun (y0 : Tm) (y1 : Int) => K (.ret (.tup [.agg [.d (.int .i64 y0.op), .d (.int .i64 y0.head), .d (.int .i64 y0.n), .d (.sl Key.tm y0.args)], .d (.int .i64 y1)]), []))

def Rc15_0 (C : Tab) (ρ : Type) (args : List (PV sig)) (m : Mem sig) (K : Res sig × Mem sig → Option ρ) : Option ρ :=
  uC args fun x0 x1 => uTm .d x0 fun a1 => uC x1 fun x2 x3 => uI .i64 x2 fun a2 => uC x3 fun x4 x5 => uTm .d x4 fun a3 => uC x5 fun x6 x7 => uSm .d x6 fun a4 => u0 x7 <| uE m <| C.c15_0 ρ a1 a2 a3 a4 (fun (y0 : Tm) (y1 : Int) => K (.ret (.tup [.agg [.d (.int .i64 y0.op), .d (.int .i64 y0.head), .d (.int .i64 y0.n), .d (.sl Key.tm y0.args)], .d (.int .i64 y1)]), []))

def Rc16_0 (C : Tab) (ρ : Type) (args : List (PV sig)) (m : Mem sig) (K : Res sig × Mem sig → Option ρ) : Option ρ :=
  uC args fun x0 x1 => uTm .d x0 fun a1 => uC x1 fun x2 x3 => uI .i64 x2 fun a2 => uC x3 fun x4 x5 => uTm .d x4 fun a3 => uC x5 fun x6 x7 => uI .i64 x6 fun a4 => u0 x7 <| uE m <| C.c16_0 ρ a1 a2 a3 a4 (fun (y0 : Bool) => K (.ret (.d (.bool y0)), []))

def Rc17_0 (C : Tab) (ρ : Type) (args : List (PV sig)) (m : Mem sig) (K : Res sig × Mem sig → Option ρ) : Option ρ :=
  u0 args <| uE m <| C.c17_0 ρ (fun (y0 : Bool) => K (.ret (.d (.bool y0)), []))

def Rc18_0 (C : Tab) (ρ : Type) (args : List (PV sig)) (m : Mem sig) (K : Res sig × Mem sig → Option ρ) : Option ρ :=
  uC args fun x0 x1 => uTm .d x0 fun a1 => u0 x1 <| uE m <| C.c18_0 ρ a1 (fun (y0 : Bool) => K (.ret (.d (.bool y0)), []))

def Rc19_0 (C : Tab) (ρ : Type) (args : List (PV sig)) (m : Mem sig) (K : Res sig × Mem sig → Option ρ) : Option ρ :=
  uC args fun x0 x1 => uSm .d x0 fun a1 => u0 x1 <| uE m <| C.c19_0 ρ a1 (fun (y0 : Bool) => K (.ret (.d (.bool y0)), []))

def Rc20_0 (C : Tab) (ρ : Type) (args : List (PV sig)) (m : Mem sig) (K : Res sig × Mem sig → Option ρ) : Option ρ :=
  uC args fun x0 x1 => uTm .d x0 fun a1 => uC x1 fun x2 x3 => uI .i64 x2 fun a2 => u0 x3 <| uE m <| C.c20_0 ρ a1 a2 (fun (y0 : Bool) => K (.ret (.d (.bool y0)), []))

def Rc21_0 (C : Tab) (ρ : Type) (args : List (PV sig)) (m : Mem sig) (K : Res sig × Mem sig → Option ρ) : Option ρ :=
  uC args fun x0 x1 => uTm .d x0 fun a1 => uC x1 fun x2 x3 => uI .i64 x2 fun a2 => uC x3 fun x4 x5 => uI .i64 x4 fun a3 => u0 x5 <| uE m <| C.c21_0 ρ a1 a2 a3 (fun (y0 : Tm) (y1 : Int) => K (.ret (.tup [.agg [.d (.int .i64 y0.op), .d (.int .i64 y0.head), .d (.int .i64 y0.n), .d (.sl Key.tm y0.args)], .d (.int .i64 y1)]), []))

def Rc22_0 (C : Tab) (ρ : Type) (args : List (PV sig)) (m : Mem sig) (K : Res sig × Mem sig → Option ρ) : Option ρ :=
  uC args fun x0 x1 => uAgg x0 fun x2 => uC x2 fun x3 x4 => uS (S := sig) .d Key.sm x3 fun (a1 : List Sm) => uC x4 fun x5 x6 => uS (S := sig) .d Key.sm x5 fun (a2 : List Sm) => uC x6 fun x7 x8 => uI .i64 x7 fun a3 => uC x8 fun x9 x10 => uI .i64 x9 fun a4 => uC x10 fun x11 x12 => uI .i64 x11 fun a5 => uC x12 fun x13 x14 => uS (S := sig) .d Key.tm x13 fun (a6 : List Tm) => uC x14 fun x15 x16 => uS (S := sig) .d Key.sm x15 fun (a7 : List Sm) => uC x16 fun x17 x18 => uI .i64 x17 fun a8 => u0 x18 <| u0 x1 <| uE m <| C.c22_0 ρ a1 a2 a3 a4 a5 a6 a7 a8 (fun (y0 : Bool) => K (.ret (.d (.bool y0)), []))

def Rc23_0 (C : Tab) (ρ : Type) (args : List (PV sig)) (m : Mem sig) (K : Res sig × Mem sig → Option ρ) : Option ρ :=
  uC args fun x0 x1 => uS (S := sig) .d Key.sm x0 fun (a1 : List Sm) => uC x1 fun x2 x3 => uS (S := sig) .d Key.sm x2 fun (a2 : List Sm) => uC x3 fun x4 x5 => uTm .d x4 fun a3 => uC x5 fun x6 x7 => uSm .d x6 fun a4 => u0 x7 <| uE m <| C.c23_0 ρ a1 a2 a3 a4 (fun (y0 : Bool) => K (.ret (.d (.bool y0)), []))

def Rc24_0 (C : Tab) (ρ : Type) (args : List (PV sig)) (m : Mem sig) (K : Res sig × Mem sig → Option ρ) : Option ρ :=
  uC args fun x0 x1 => uS (S := sig) .d Key.sm x0 fun (a1 : List Sm) => uC x1 fun x2 x3 => uI .i64 x2 fun a2 => u0 x3 <| uE m <| C.c24_0 ρ a1 a2 (fun (y0 : List Sm) => K (.ret (.d (.sl Key.sm y0)), []))

def Rc25_0 (C : Tab) (ρ : Type) (args : List (PV sig)) (m : Mem sig) (K : Res sig × Mem sig → Option ρ) : Option ρ :=
  uC args fun x0 x1 => uS (S := sig) .d Key.sm x0 fun (a1 : List Sm) => uC x1 fun x2 x3 => uI .i64 x2 fun a2 => u0 x3 <| uE m <| C.c25_0 ρ a1 a2 (fun (y0 : List Sm) => K (.ret (.d (.sl Key.sm y0)), []))

def Rc26_0 (C : Tab) (ρ : Type) (args : List (PV sig)) (m : Mem sig) (K : Res sig × Mem sig → Option ρ) : Option ρ :=
  uC args fun x0 x1 => uTm .d x0 fun a1 => uC x1 fun x2 x3 => uTm .d x2 fun a2 => u0 x3 <| uE m <| C.c26_0 ρ a1 a2 (fun (y0 : Bool) => K (.ret (.d (.bool y0)), []))

def Rc27_0 (C : Tab) (ρ : Type) (args : List (PV sig)) (m : Mem sig) (K : Res sig × Mem sig → Option ρ) : Option ρ :=
  uC args fun x0 x1 => uSm .d x0 fun a1 => uC x1 fun x2 x3 => uSm .d x2 fun a2 => u0 x3 <| uE m <| C.c27_0 ρ a1 a2 (fun (y0 : Bool) => K (.ret (.d (.bool y0)), []))

def Rc28_0 (C : Tab) (ρ : Type) (args : List (PV sig)) (m : Mem sig) (K : Res sig × Mem sig → Option ρ) : Option ρ :=
  uC args fun x0 x1 => uI .i64 x0 fun a1 => uC x1 fun x2 x3 => uI .i64 x2 fun a2 => uC x3 fun x4 x5 => uSm .d x4 fun a3 => u0 x5 <| uE m <| C.c28_0 ρ a1 a2 a3 (fun (y0 : Tm) (y1 : Int) => K (.ret (.tup [.agg [.d (.int .i64 y0.op), .d (.int .i64 y0.head), .d (.int .i64 y0.n), .d (.sl Key.tm y0.args)], .d (.int .i64 y1)]), []))

def Rc29_0 (C : Tab) (ρ : Type) (args : List (PV sig)) (m : Mem sig) (K : Res sig × Mem sig → Option ρ) : Option ρ :=
  uC args fun x0 x1 => uTm .d x0 fun a1 => uC x1 fun x2 x3 => uI .i64 x2 fun a2 => uC x3 fun x4 x5 => uI .i64 x4 fun a3 => uC x5 fun x6 x7 => uI .i64 x6 fun a4 => u0 x7 <| uE m <| C.c29_0 ρ a1 a2 a3 a4 (fun (y0 : Tm) => K (.ret (.agg [.d (.int .i64 y0.op), .d (.int .i64 y0.head), .d (.int .i64 y0.n), .d (.sl Key.tm y0.args)]), []))

def Rc30_0 (C : Tab) (ρ : Type) (args : List (PV sig)) (m : Mem sig) (K : Res sig × Mem sig → Option ρ) : Option ρ :=
  uC args fun x0 x1 => uTm .d x0 fun a1 => uC x1 fun x2 x3 => uS (S := sig) .d Key.tm x2 fun (a2 : List Tm) => uC x3 fun x4 x5 => uSm .d x4 fun a3 => u0 x5 <| uE m <| C.c30_0 ρ a1 a2 a3 (fun (y0 : Tm) (y1 : Int) => K (.ret (.tup [.agg [.d (.int .i64 y0.op), .d (.int .i64 y0.head), .d (.int .i64 y0.n), .d (.sl Key.tm y0.args)], .d (.int .i64 y1)]), []))

def Rc31_0 (C : Tab) (ρ : Type) (args : List (PV sig)) (m : Mem sig) (K : Res sig × Mem sig → Option ρ) : Option ρ :=
  uC args fun x0 x1 => uTm .d x0 fun a1 => uC x1 fun x2 x3 => uS (S := sig) .d Key.tm x2 fun (a2 : List Tm) => uC x3 fun x4 x5 => uSm .d x4 fun a3 => u0 x5 <| uE m <| C.c31_0 ρ a1 a2 a3 (fun (y0 : Tm) (y1 : Int) => K (.ret (.tup [.agg [.d (.int .i64 y0.op), .d (.int .i64 y0.head), .d (.int .i64 y0.n), .d (.sl Key.tm y0.args)], .d (.int .i64 y1)]), []))

def Rc32_0 (C : Tab) (ρ : Type) (args : List (PV sig)) (m : Mem sig) (K : Res sig × Mem sig → Option ρ) : Option ρ :=
  uC args fun x0 x1 => uTm .d x0 fun a1 => uC x1 fun x2 x3 => uS (S := sig) .d Key.tm x2 fun (a2 : List Tm) => uC x3 fun x4 x5 => uS (S := sig) .d Key.sm x4 fun (a3 : List Sm) => u0 x5 <| uE m <| C.c32_0 ρ a1 a2 a3 (fun (y0 : Tm) (y1 : Int) => K (.ret (.tup [.agg [.d (.int .i64 y0.op), .d (.int .i64 y0.head), .d (.int .i64 y0.n), .d (.sl Key.tm y0.args)], .d (.int .i64 y1)]), []))

def Rc33_0 (C : Tab) (ρ : Type) (args : List (PV sig)) (m : Mem sig) (K : Res sig × Mem sig → Option ρ) : Option ρ :=
  uC args fun x0 x1 => uTm .d x0 fun a1 => uC x1 fun x2 x3 => uS (S := sig) .d Key.tm x2 fun (a2 : List Tm) => uC x3 fun x4 x5 => uS (S := sig) .d Key.sm x4 fun (a3 : List Sm) => u0 x5 <| uE m <| C.c33_0 ρ a1 a2 a3 (fun (y0 : Tm) (y1 : Int) => K (.ret (.tup [.agg [.d (.int .i64 y0.op), .d (.int .i64 y0.head), .d (.int .i64 y0.n), .d (.sl Key.tm y0.args)], .d (.int .i64 y1)]), []))

def Rc34_0 (C : Tab) (ρ : Type) (args : List (PV sig)) (m : Mem sig) (K : Res sig × Mem sig → Option ρ) : Option ρ :=
  uC args fun x0 x1 => uI .i64 x0 fun a1 => uC x1 fun x2 x3 => uI .i64 x2 fun a2 => uC x3 fun x4 x5 => uSm .d x4 fun a3 => u0 x5 <| uE m <| C.c34_0 ρ a1 a2 a3 (fun (y0 : Tm) (y1 : Int) => K (.ret (.tup [.agg [.d (.int .i64 y0.op), .d (.int .i64 y0.head), .d (.int .i64 y0.n), .d (.sl Key.tm y0.args)], .d (.int .i64 y1)]), []))

def Rc35_0 (C : Tab) (ρ : Type) (args : List (PV sig)) (m : Mem sig) (K : Res sig × Mem sig → Option ρ) : Option ρ :=
  uC args fun x0 x1 => uTm .d x0 fun a1 => u0 x1 <| uE m <| C.c35_0 ρ a1 (fun (y0 : Int) (y1 : Int) (y2 : Int) => K (.ret (.tup [.d (.int .i64 y0), .d (.int .i64 y1), .d (.int .i64 y2)]), []))

def Rc36_0 (C : Tab) (ρ : Type) (args : List (PV sig)) (m : Mem sig) (K : Res sig × Mem sig → Option ρ) : Option ρ :=
  uC args fun x0 x1 => uTm .d x0 fun a1 => u0 x1 <| uE m <| C.c36_0 ρ a1 (fun (y0 : Int) (y1 : Int) (y2 : Bool) => K (.ret (.tup [.d (.int .i64 y0), .d (.int .i64 y1), .d (.bool y2)]), []))

def Rc37_0 (C : Tab) (ρ : Type) (args : List (PV sig)) (m : Mem sig) (K : Res sig × Mem sig → Option ρ) : Option ρ :=
  uC args fun x0 x1 => uTm .d x0 fun a1 => uC x1 fun x2 x3 => uS (S := sig) .d Key.tm x2 fun (a2 : List Tm) => u0 x3 <| uE m <| C.c37_0 ρ a1 a2 (fun (y0 : Tm) (y1 : Int) => K (.ret (.tup [.agg [.d (.int .i64 y0.op), .d (.int .i64 y0.head), .d (.int .i64 y0.n), .d (.sl Key.tm y0.args)], .d (.int .i64 y1)]), []))

def Rc38_0 (C : Tab) (ρ : Type) (args : List (PV sig)) (m : Mem sig) (K : Res sig × Mem sig → Option ρ) : Option ρ :=
  uC args fun x0 x1 => uTm .d x0 fun a1 => uC x1 fun x2 x3 => uS (S := sig) .d Key.tm x2 fun (a2 : List Tm) => u0 x3 <| uE m <| C.c38_0 ρ a1 a2 (fun (y0 : Tm) (y1 : Int) => K (.ret (.tup [.agg [.d (.int .i64 y0.op), .d (.int .i64 y0.head), .d (.int .i64 y0.n), .d (.sl Key.tm y0.args)], .d (.int .i64 y1)]), []))

def Rc39_0 (C : Tab) (ρ : Type) (args : List (PV sig)) (m : Mem sig) (K : Res sig × Mem sig → Option ρ) : Option ρ :=
  uC args fun x0 x1 => uS (S := sig) .d Key.tm x0 fun (a1 : List Tm) => uC x1 fun x2 x3 => uS (S := sig) .d Key.sm x2 fun (a2 : List Sm) => uC x3 fun x4 x5 => uS (S := sig) .d Key.int x4 fun (a3 : List Int) => u0 x5 <| uE m <| C.c39_0 ρ a1 a2 a3 (fun (y0 : Bool) => K (.ret (.d (.bool y0)), []))

def Rc41_0 (C : Tab) (ρ : Type) (args : List (PV sig)) (m : Mem sig) (K : Res sig × Mem sig → Option ρ) : Option ρ :=
  uC args fun x0 x1 => uP 0 0 x0 <| uC x1 fun x2 x3 => uTm .d x2 fun a1 => uC x3 fun x4 x5 => uI .i64 x4 fun a2 => uC x5 fun x6 x7 => uTm .d x6 fun a3 => uC x7 fun x8 x9 => uSm .d x8 fun a4 => u0 x9 <| uM m fun x11 x10 => uC x11 fun x12 x13 => uI .i64 x12 fun a5 => u0 x13 <| uE x10 <| C.c41_0 ρ a1 a2 a3 a4 a5 (fun (y0 : Int) (y1 : Int) => K (.pan (.iface 104 (.agg [.d (.int .i64 y0)])), [some [.d (.int .i64 y1)]])) (fun (y0 : Tm) (y1 : Int) => K (.ret (.agg [.d (.int .i64 y0.op), .d (.int .i64 y0.head), .d (.int .i64 y0.n), .d (.sl Key.tm y0.args)]), [some [.d (.int .i64 y1)]]))

def Rc42_0 (C : Tab) (ρ : Type) (args : List (PV sig)) (m : Mem sig) (K : Res sig × Mem sig → Option ρ) : Option ρ :=
  uC args fun x0 x1 => uI .i64 x0 fun a1 => u0 x1 <| uE m <| C.c42_0 ρ a1 (fun (y0 : Bool) => K (.ret (.d (.bool y0)), []))

def Rc43_0 (C : Tab) (ρ : Type) (args : List (PV sig)) (m : Mem sig) (K : Res sig × Mem sig → Option ρ) : Option ρ :=
  uC args fun x0 x1 => uP 0 0 x0 <| uC x1 fun x2 x3 => uTm .d x2 fun a1 => uC x3 fun x4 x5 => uI .i64 x4 fun a2 => uC x5 fun x6 x7 => uTm .d x6 fun a3 => uC x7 fun x8 x9 => uSm .d x8 fun a4 => u0 x9 <| uM m fun x11 x10 => uC x11 fun x12 x13 => uI .i64 x12 fun a5 => u0 x13 <| uE x10 <| C.c43_0 ρ a1 a2 a3 a4 a5 (fun (y0 : Tm) (y1 : Int) (y2 : Int) => K (.ret (.tup [.agg [.d (.int .i64 y0.op), .d (.int .i64 y0.head), .d (.int .i64 y0.n), .d (.sl Key.tm y0.args)], .d (.int .i64 y1)]), [some [.d (.int .i64 y2)]]))

def Rc44_0 (C : Tab) (ρ : Type) (args : List (PV sig)) (m : Mem sig) (K : Res sig × Mem sig → Option ρ) : Option ρ :=
  uC args fun x0 x1 => uI .i64 x0 fun a1 => uC x1 fun x2 x3 => uS (S := sig) .d Key.tm x2 fun (a2 : List Tm) => u0 x3 <| uE m <| C.c44_0 ρ a1 a2 (fun (y0 : Tm) => K (.ret (.agg [.d (.int .i64 y0.op), .d (.int .i64 y0.head), .d (.int .i64 y0.n), .d (.sl Key.tm y0.args)]), []))

def Rc45_0 (C : Tab) (ρ : Type) (args : List (PV sig)) (m : Mem sig) (K : Res sig × Mem sig → Option ρ) : Option ρ :=
  uC args fun x0 x1 => uI .i64 x0 fun a1 => uC x1 fun x2 x3 => uS (S := sig) .d Key.tm x2 fun (a2 : List Tm) => u0 x3 <| uE m <| C.c45_0 ρ a1 a2 (fun (y0 : Tm) => K (.ret (.agg [.d (.int .i64 y0.op), .d (.int .i64 y0.head), .d (.int .i64 y0.n), .d (.sl Key.tm y0.args)]), []))

def Rc46_0 (C : Tab) (ρ : Type) (args : List (PV sig)) (m : Mem sig) (K : Res sig × Mem sig → Option ρ) : Option ρ :=
  uC args fun x0 x1 => uTm .d x0 fun a1 => u0 x1 <| uE m <| C.c46_0 ρ a1 (fun (y0 : Tm) => K (.ret (.agg [.d (.int .i64 y0.op), .d (.int .i64 y0.head), .d (.int .i64 y0.n), .d (.sl Key.tm y0.args)]), []))

def Rc47_0 (C : Tab) (ρ : Type) (args : List (PV sig)) (m : Mem sig) (K : Res sig × Mem sig → Option ρ) : Option ρ :=
  uC args fun x0 x1 => uTm .d x0 fun a1 => uC x1 fun x2 x3 => uI .i64 x2 fun a2 => u0 x3 <| uE m <| C.c47_0 ρ a1 a2 (fun (y0 : Int) => K (.ret (.d (.int .i64 y0)), []))

def Rc48_0 (C : Tab) (ρ : Type) (args : List (PV sig)) (m : Mem sig) (K : Res sig × Mem sig → Option ρ) : Option ρ :=
  uC args fun x0 x1 => uTm .d x0 fun a1 => uC x1 fun x2 x3 => uI .i64 x2 fun a2 => u0 x3 <| uE m <| C.c48_0 ρ a1 a2 (fun (y0 : Bool) => K (.ret (.d (.bool y0)), []))

def Rc49_0 (C : Tab) (ρ : Type) (args : List (PV sig)) (m : Mem sig) (K : Res sig × Mem sig → Option ρ) : Option ρ :=
  uC args fun x0 x1 => uSm .d x0 fun a1 => uC x1 fun x2 x3 => uI .i64 x2 fun a2 => u0 x3 <| uE m <| C.c49_0 ρ a1 a2 (fun (y0 : Int) => K (.ret (.d (.int .i64 y0)), []))

def Rc50_0 (C : Tab) (ρ : Type) (args : List (PV sig)) (m : Mem sig) (K : Res sig × Mem sig → Option ρ) : Option ρ :=
  uC args fun x0 x1 => uTm .d x0 fun a1 => uC x1 fun x2 x3 => uI .i64 x2 fun a2 => uC x3 fun x4 x5 => uI .i64 x4 fun a3 => u0 x5 <| uE m <| C.c50_0 ρ a1 a2 a3 (fun (y0 : Bool) => K (.ret (.d (.bool y0)), []))

def Rc51_0 (C : Tab) (ρ : Type) (args : List (PV sig)) (m : Mem sig) (K : Res sig × Mem sig → Option ρ) : Option ρ :=
  uC args fun x0 x1 => uTm .d x0 fun a1 => uC x1 fun x2 x3 => uI .i64 x2 fun a2 => uC x3 fun x4 x5 => uI .i64 x4 fun a3 => u0 x5 <| uE m <| C.c51_0 ρ a1 a2 a3 (fun (y0 : Tm) => K (.ret (.agg [.d (.int .i64 y0.op), .d (.int .i64 y0.head), .d (.int .i64 y0.n), .d (.sl Key.tm y0.args)]), []))

def Rc52_0 (C : Tab) (ρ : Type) (args : List (PV sig)) (m : Mem sig) (K : Res sig × Mem sig → Option ρ) : Option ρ :=
  uC args fun x0 x1 => uI .i64 x0 fun a1 => uC x1 fun x2 x3 => uI .i64 x2 fun a2 => uC x3 fun x4 x5 => uSm .d x4 fun a3 => u0 x5 <| uE m <| C.c52_0 ρ a1 a2 a3 (fun (y0 : Tm) => K (.ret (.agg [.d (.int .i64 y0.op), .d (.int .i64 y0.head), .d (.int .i64 y0.n), .d (.sl Key.tm y0.args)]), []))

def Rc53_0 (C : Tab) (ρ : Type) (args : List (PV sig)) (m : Mem sig) (K : Res sig × Mem sig → Option ρ) : Option ρ :=
  uC args fun x0 x1 => uTm .d x0 fun a1 => u0 x1 <| uE m <| C.c53_0 ρ a1 (fun (y0 : Int) => K (.ret (.d (.int .i64 y0)), []))

def Rc54_0 (C : Tab) (ρ : Type) (args : List (PV sig)) (m : Mem sig) (K : Res sig × Mem sig → Option ρ) : Option ρ :=
  uC args fun x0 x1 => uTm .d x0 fun a1 => u0 x1 <| uE m <| C.c54_0 ρ a1 (fun (y0 : Tm) => K (.ret (.agg [.d (.int .i64 y0.op), .d (.int .i64 y0.head), .d (.int .i64 y0.n), .d (.sl Key.tm y0.args)]), []))

def Rc55_0 (C : Tab) (ρ : Type) (args : List (PV sig)) (m : Mem sig) (K : Res sig × Mem sig → Option ρ) : Option ρ :=
  uC args fun x0 x1 => uP 0 0 x0 <| uC x1 fun x2 x3 => uTm .d x2 fun a1 => uC x3 fun x4 x5 => uS (S := sig) .d Key.tm x4 fun (a2 : List Tm) => uC x5 fun x6 x7 => uSm .d x6 fun a3 => u0 x7 <| uM m fun x9 x8 => uC x9 fun x10 x11 => uI .i64 x10 fun a4 => u0 x11 <| uE x8 <| C.c55_0 ρ a1 a2 a3 a4 (fun (y0 : Int) (y1 : Int) => K (.pan (.iface 104 (.agg [.d (.int .i64 y0)])), [some [.d (.int .i64 y1)]])) (fun (y0 : Tm) (y1 : Int) => K (.ret (.agg [.d (.int .i64 y0.op), .d (.int .i64 y0.head), .d (.int .i64 y0.n), .d (.sl Key.tm y0.args)]), [some [.d (.int .i64 y1)]]))

def Rc56_0 (C : Tab) (ρ : Type) (args : List (PV sig)) (m : Mem sig) (K : Res sig × Mem sig → Option ρ) : Option ρ :=
  uC args fun x0 x1 => uS (S := sig) .d Key.tm x0 fun (a1 : List Tm) => u0 x1 <| uE m <| C.c56_0 ρ a1 (fun (y0 : Bool) => K (.ret (.d (.bool y0)), []))

def Rc57_0 (C : Tab) (ρ : Type) (args : List (PV sig)) (m : Mem sig) (K : Res sig × Mem sig → Option ρ) : Option ρ :=
  uC args fun x0 x1 => uP 0 0 x0 <| uC x1 fun x2 x3 => uTm .d x2 fun a1 => uC x3 fun x4 x5 => uS (S := sig) .d Key.tm x4 fun (a2 : List Tm) => uC x5 fun x6 x7 => uSm .d x6 fun a3 => u0 x7 <| uM m fun x9 x8 => uC x9 fun x10 x11 => uI .i64 x10 fun a4 => u0 x11 <| uE x8 <| C.c57_0 ρ a1 a2 a3 a4 (fun (y0 : Tm) (y1 : Int) (y2 : Int) => K (.ret (.tup [.agg [.d (.int .i64 y0.op), .d (.int .i64 y0.head), .d (.int .i64 y0.n), .d (.sl Key.tm y0.args)], .d (.int .i64 y1)]), [some [.d (.int .i64 y2)]]))

def Rc58_0 (C : Tab) (ρ : Type) (args : List (PV sig)) (m : Mem sig) (K : Res sig × Mem sig → Option ρ) : Option ρ :=
  uC args fun x0 x1 => uTm .d x0 fun a1 => uC x1 fun x2 x3 => uI .i64 x2 fun a2 => u0 x3 <| uE m <| C.c58_0 ρ a1 a2 (fun (y0 : Int) => K (.pan (.iface 104 (.agg [.d (.int .i64 y0)])), [])) (fun (y0 : Tm) => K (.ret (.agg [.d (.int .i64 y0.op), .d (.int .i64 y0.head), .d (.int .i64 y0.n), .d (.sl Key.tm y0.args)]), []))

def Rc59_0 (C : Tab) (ρ : Type) (args : List (PV sig)) (m : Mem sig) (K : Res sig × Mem sig → Option ρ) : Option ρ :=
  uC args fun x0 x1 => uTm .d x0 fun a1 => u0 x1 <| uE m <| C.c59_0 ρ a1 (fun (y0 : Tm) (y1 : Int) => K (.ret (.tup [.agg [.d (.int .i64 y0.op), .d (.int .i64 y0.head), .d (.int .i64 y0.n), .d (.sl Key.tm y0.args)], .d (.int .i64 y1)]), []))

def Rc60_0 (C : Tab) (ρ : Type) (args : List (PV sig)) (m : Mem sig) (K : Res sig × Mem sig → Option ρ) : Option ρ :=
  uC args fun x0 x1 => uTm .d x0 fun a1 => uC x1 fun x2 x3 => uI .i64 x2 fun a2 => u0 x3 <| uE m <| C.c60_0 ρ a1 a2 (fun (y0 : Tm) => K (.ret (.agg [.d (.int .i64 y0.op), .d (.int .i64 y0.head), .d (.int .i64 y0.n), .d (.sl Key.tm y0.args)]), []))

def Rc61_0 (C : Tab) (ρ : Type) (args : List (PV sig)) (m : Mem sig) (K : Res sig × Mem sig → Option ρ) : Option ρ :=
  uC args fun x0 x1 => uI .i64 x0 fun a1 => uC x1 fun x2 x3 => uI .i64 x2 fun a2 => uC x3 fun x4 x5 => uSm .d x4 fun a3 => u0 x5 <| uE m <| C.c61_0 ρ a1 a2 a3 (fun (y0 : Tm) => K (.ret (.agg [.d (.int .i64 y0.op), .d (.int .i64 y0.head), .d (.int .i64 y0.n), .d (.sl Key.tm y0.args)]), []))

def Rc62_0 (C : Tab) (ρ : Type) (args : List (PV sig)) (m : Mem sig) (K : Res sig × Mem sig → Option ρ) : Option ρ :=
  uC args fun x0 x1 => uI .i64 x0 fun a1 => u0 x1 <| uE m <| C.c62_0 ρ a1 (fun (y0 : Int) => K (.pan (.iface 104 (.agg [.d (.int .i64 y0)])), []))

def Rc63_0 (C : Tab) (ρ : Type) (args : List (PV sig)) (m : Mem sig) (K : Res sig × Mem sig → Option ρ) : Option ρ :=
  uC args fun x0 x1 => uTm .d x0 fun a1 => u0 x1 <| uE m <| C.c63_0 ρ a1 (fun (y0 : Sm) (y1 : Int) => K (.ret (.tup [.agg [.d (.sl Key.sm y0.args), .d (.int .i64 y0.con)], .d (.int .i64 y1)]), []))

def Rc64_0 (C : Tab) (ρ : Type) (args : List (PV sig)) (m : Mem sig) (K : Res sig × Mem sig → Option ρ) : Option ρ :=
  uC args fun x0 x1 => uSm .d x0 fun a1 => u0 x1 <| uE m <| C.c64_0 ρ a1 (fun (y0 : Bool) => K (.ret (.d (.bool y0)), []))

def Rc65_0 (C : Tab) (ρ : Type) (args : List (PV sig)) (m : Mem sig) (K : Res sig × Mem sig → Option ρ) : Option ρ :=
  uC args fun x0 x1 => uP 0 0 x0 <| uC x1 fun x2 x3 => uTm .d x2 fun a1 => uC x3 fun x4 x5 => uTm .d x4 fun a2 => u0 x5 <| uM m fun x7 x6 => uC x7 fun x8 x9 => uI .i64 x8 fun a3 => u0 x9 <| uE x6 <| C.c65_0 ρ a1 a2 a3 (fun (y0 : Tm) (y1 : Int) (y2 : Int) => K (.ret (.tup [.agg [.d (.int .i64 y0.op), .d (.int .i64 y0.head), .d (.int .i64 y0.n), .d (.sl Key.tm y0.args)], .d (.int .i64 y1)]), [some [.d (.int .i64 y2)]]))

def Rc66_0 (C : Tab) (ρ : Type) (args : List (PV sig)) (m : Mem sig) (K : Res sig × Mem sig → Option ρ) : Option ρ :=
  uC args fun x0 x1 => uS (S := sig) .d Key.sm x0 fun (a1 : List Sm) => uC x1 fun x2 x3 => uFn 67 x2 fun x4 x5 => u0 x4 <| u0 x5 <| u0 x3 <| uE m <| C.c66_0 ρ a1 (fun (y0 : Bool) => K (.ret (.d (.bool y0)), []))

def Rc66_1 (C : Tab) (ρ : Type) (args : List (PV sig)) (m : Mem sig) (K : Res sig × Mem sig → Option ρ) : Option ρ :=
  uC args fun x0 x1 => uS (S := sig) .d Key.sm x0 fun (a1 : List Sm) => uC x1 fun x2 x3 => uFn 88 x2 fun x4 x5 => u0 x4 <| uC x5 fun x6 x7 => uP 0 0 x6 <| u0 x7 <| u0 x3 <| uM m fun x9 x8 => uC x9 fun x10 x11 => uP 1 0 x10 <| u0 x11 <| uM x8 fun x13 x12 => uC x13 fun x14 x15 => uI .i64 x14 fun a2 => u0 x15 <| uE x12 <| C.c66_1 ρ a1 a2 (fun (y0 : Bool) (y1 : Int) => K (.ret (.d (.bool y0)), [some [.ptr 1 0], some [.d (.int .i64 y1)]]))

def Rc67_0 (C : Tab) (ρ : Type) (args : List (PV sig)) (m : Mem sig) (K : Res sig × Mem sig → Option ρ) : Option ρ :=
  uC args fun x0 x1 => uSm .d x0 fun a1 => u0 x1 <| uE m <| C.c67_0 ρ a1 (fun (y0 : Bool) => K (.ret (.d (.bool y0)), []))

def Rc68_0 (C : Tab) (ρ : Type) (args : List (PV sig)) (m : Mem sig) (K : Res sig × Mem sig → Option ρ) : Option ρ :=
  uC args fun x0 x1 => uS (S := sig) .d Key.int x0 fun (a1 : List Int) => uC x1 fun x2 x3 => uFn 69 x2 fun x4 x5 => u0 x4 <| u0 x5 <| u0 x3 <| uE m <| C.c68_0 ρ a1 (fun (y0 : Bool) => K (.ret (.d (.bool y0)), []))

def Rc69_0 (C : Tab) (ρ : Type) (args : List (PV sig)) (m : Mem sig) (K : Res sig × Mem sig → Option ρ) : Option ρ :=
  uC args fun x0 x1 => uI .i64 x0 fun a1 => u0 x1 <| uE m <| C.c69_0 ρ a1 (fun (y0 : Bool) => K (.ret (.d (.bool y0)), []))

def Rc70_0 (C : Tab) (ρ : Type) (args : List (PV sig)) (m : Mem sig) (K : Res sig × Mem sig → Option ρ) : Option ρ :=
  uC args fun x0 x1 => uTm .d x0 fun a1 => uC x1 fun x2 x3 => uI .i64 x2 fun a2 => u0 x3 <| uE m <| C.c70_0 ρ a1 a2 (fun (y0 : Int) => K (.ret (.d (.int .i64 y0)), []))

def Rc71_0 (C : Tab) (ρ : Type) (args : List (PV sig)) (m : Mem sig) (K : Res sig × Mem sig → Option ρ) : Option ρ :=
  uC args fun x0 x1 => uTm .d x0 fun a1 => u0 x1 <| uE m <| C.c71_0 ρ a1 (fun (y0 : Int) => K (.pan (.iface 104 (.agg [.d (.int .i64 y0)])), [])) (fun (y0 : Tm) => K (.ret (.agg [.d (.int .i64 y0.op), .d (.int .i64 y0.head), .d (.int .i64 y0.n), .d (.sl Key.tm y0.args)]), []))

def Rc72_0 (C : Tab) (ρ : Type) (args : List (PV sig)) (m : Mem sig) (K : Res sig × Mem sig → Option ρ) : Option ρ :=
  uC args fun x0 x1 => uTm .d x0 fun a1 => uC x1 fun x2 x3 => uI .i64 x2 fun a2 => u0 x3 <| uE m <| C.c72_0 ρ a1 a2 (fun (y0 : Int) => K (.ret (.d (.int .i64 y0)), []))

def Rc73_0 (C : Tab) (ρ : Type) (args : List (PV sig)) (m : Mem sig) (K : Res sig × Mem sig → Option ρ) : Option ρ :=
  uC args fun x0 x1 => uTm .d x0 fun a1 => u0 x1 <| uE m <| C.c73_0 ρ a1 (fun (y0 : Tm) => K (.ret (.agg [.d (.int .i64 y0.op), .d (.int .i64 y0.head), .d (.int .i64 y0.n), .d (.sl Key.tm y0.args)]), []))

def Rc74_0 (C : Tab) (ρ : Type) (args : List (PV sig)) (m : Mem sig) (K : Res sig × Mem sig → Option ρ) : Option ρ :=
  uC args fun x0 x1 => uTm .d x0 fun a1 => uC x1 fun x2 x3 => uI .i64 x2 fun a2 => uC x3 fun x4 x5 => uP 0 0 x4 <| u0 x5 <| uM m fun x7 x6 => uC x7 fun x8 x9 => uI .i64 x8 fun a3 => u0 x9 <| uE x6 <| C.c74_0 ρ a1 a2 a3 (fun (y0 : Bool) (y1 : Int) => K (.ret (.d (.bool y0)), [some [.d (.int .i64 y1)]]))

def Rc75_0 (C : Tab) (ρ : Type) (args : List (PV sig)) (m : Mem sig) (K : Res sig × Mem sig → Option ρ) : Option ρ :=
  uC args fun x0 x1 => uTm .d x0 fun a1 => uC x1 fun x2 x3 => uI .i64 x2 fun a2 => uC x3 fun x4 x5 => uFn 76 x4 fun x6 x7 => u0 x6 <| u0 x7 <| u0 x5 <| uE m <| C.c75_0 ρ a1 a2 (fun (y0 : Tm) => K (.ret (.agg [.d (.int .i64 y0.op), .d (.int .i64 y0.head), .d (.int .i64 y0.n), .d (.sl Key.tm y0.args)]), []))

def Rc75_1 (C : Tab) (ρ : Type) (args : List (PV sig)) (m : Mem sig) (K : Res sig × Mem sig → Option ρ) : Option ρ :=
  uC args fun x0 x1 => uTm .d x0 fun a1 => uC x1 fun x2 x3 => uI .i64 x2 fun a2 => uC x3 fun x4 x5 => uFn 89 x4 fun x6 x7 => u0 x6 <| uC x7 fun x8 x9 => uP 0 0 x8 <| uC x9 fun x10 x11 => uP 1 0 x10 <| u0 x11 <| u0 x5 <| uM m fun x13 x12 => uC x13 fun x14 x15 => uI .i64 x14 fun a3 => u0 x15 <| uM x12 fun x17 x16 => uC x17 fun x18 x19 => uI .i64 x18 fun a4 => u0 x19 <| uE x16 <| C.c75_1 ρ a1 a2 a3 a4 (fun (y0 : Tm) (y1 : Int) (y2 : Int) => K (.ret (.agg [.d (.int .i64 y0.op), .d (.int .i64 y0.head), .d (.int .i64 y0.n), .d (.sl Key.tm y0.args)]), [some [.d (.int .i64 y1)], some [.d (.int .i64 y2)]]))

def Rc76_0 (C : Tab) (ρ : Type) (args : List (PV sig)) (m : Mem sig) (K : Res sig × Mem sig → Option ρ) : Option ρ :=
  uC args fun x0 x1 => uTm .full x0 fun a1 => uC x1 fun x2 x3 => uI .i64 x2 fun a2 => u0 x3 <| uE m <| C.c76_0 ρ a1 a2 (fun (y0 : Tm) => K (.ret (.agg [.d (.int .i64 y0.op), .d (.int .i64 y0.head), .d (.int .i64 y0.n), .full Key.tm y0.args]), []))

def Rc77_0 (C : Tab) (ρ : Type) (args : List (PV sig)) (m : Mem sig) (K : Res sig × Mem sig → Option ρ) : Option ρ :=
  uC args fun x0 x1 => uTm .d x0 fun a1 => uC x1 fun x2 x3 => uI .i64 x2 fun a2 => uC x3 fun x4 x5 => uI .i64 x4 fun a3 => u0 x5 <| uE m <| C.c77_0 ρ a1 a2 a3 (fun (y0 : Tm) (y1 : Int) => K (.ret (.tup [.agg [.d (.int .i64 y0.op), .d (.int .i64 y0.head), .d (.int .i64 y0.n), .d (.sl Key.tm y0.args)], .d (.int .i64 y1)]), []))

def Rc78_0 (C : Tab) (ρ : Type) (args : List (PV sig)) (m : Mem sig) (K : Res sig × Mem sig → Option ρ) : Option ρ :=
  uC args fun x0 x1 => uTm .d x0 fun a1 => uC x1 fun x2 x3 => uI .i64 x2 fun a2 => uC x3 fun x4 x5 => uI .i64 x4 fun a3 => u0 x5 <| uE m <| C.c78_0 ρ a1 a2 a3 (fun (y0 : Tm) => K (.ret (.agg [.d (.int .i64 y0.op), .d (.int .i64 y0.head), .d (.int .i64 y0.n), .d (.sl Key.tm y0.args)]), []))

def Rc79_0 (C : Tab) (ρ : Type) (args : List (PV sig)) (m : Mem sig) (K : Res sig × Mem sig → Option ρ) : Option ρ :=
  uC args fun x0 x1 => uTm .d x0 fun a1 => u0 x1 <| uE m <| C.c79_0 ρ a1 (fun (y0 : Sm) (y1 : Int) => K (.ret (.tup [.agg [.d (.sl Key.sm y0.args), .d (.int .i64 y0.con)], .d (.int .i64 y1)]), []))

def Rc80_0 (C : Tab) (ρ : Type) (args : List (PV sig)) (m : Mem sig) (K : Res sig × Mem sig → Option ρ) : Option ρ :=
  uC args fun x0 x1 => uSm .d x0 fun a1 => uC x1 fun x2 x3 => uP 0 0 x2 <| u0 x3 <| uM m fun x5 x4 => uC x5 fun x6 x7 => uI .i64 x6 fun a2 => u0 x7 <| uE x4 <| C.c80_0 ρ a1 a2 (fun (y0 : Bool) (y1 : Int) => K (.ret (.d (.bool y0)), [some [.d (.int .i64 y1)]]))

def Rc81_0 (C : Tab) (ρ : Type) (args : List (PV sig)) (m : Mem sig) (K : Res sig × Mem sig → Option ρ) : Option ρ :=
  uC args fun x0 x1 => uTm .d x0 fun a1 => u0 x1 <| uE m <| C.c81_0 ρ a1 (fun (y0 : Sm) (y1 : Bool) => K (.ret (.tup [.agg [.d (.sl Key.sm y0.args), .d (.int .i64 y0.con)], .d (.bool y1)]), []))

def Rc82_0 (C : Tab) (ρ : Type) (args : List (PV sig)) (m : Mem sig) (K : Res sig × Mem sig → Option ρ) : Option ρ :=
  uC args fun x0 x1 => uS (S := sig) .d Key.sm x0 fun (a1 : List Sm) => uC x1 fun x2 x3 => uFn 67 x2 fun x4 x5 => u0 x4 <| u0 x5 <| u0 x3 <| uE m <| C.c82_0 ρ a1 (fun (y0 : Int) => K (.ret (.d (.int .i64 y0)), []))

def Rc82_1 (C : Tab) (ρ : Type) (args : List (PV sig)) (m : Mem sig) (K : Res sig × Mem sig → Option ρ) : Option ρ :=
  uC args fun x0 x1 => uS (S := sig) .d Key.sm x0 fun (a1 : List Sm) => uC x1 fun x2 x3 => uFn 88 x2 fun x4 x5 => u0 x4 <| uC x5 fun x6 x7 => uP 0 0 x6 <| u0 x7 <| u0 x3 <| uM m fun x9 x8 => uC x9 fun x10 x11 => uP 1 0 x10 <| u0 x11 <| uM x8 fun x13 x12 => uC x13 fun x14 x15 => uI .i64 x14 fun a2 => u0 x15 <| uE x12 <| C.c82_1 ρ a1 a2 (fun (y0 : Int) (y1 : Int) => K (.ret (.d (.int .i64 y0)), [some [.ptr 1 0], some [.d (.int .i64 y1)]]))

def Rc83_0 (C : Tab) (ρ : Type) (args : List (PV sig)) (m : Mem sig) (K : Res sig × Mem sig → Option ρ) : Option ρ :=
  uC args fun x0 x1 => uS (S := sig) .d Key.int x0 fun (a1 : List Int) => uC x1 fun x2 x3 => uFn 69 x2 fun x4 x5 => u0 x4 <| u0 x5 <| u0 x3 <| uE m <| C.c83_0 ρ a1 (fun (y0 : Int) => K (.ret (.d (.int .i64 y0)), []))

def Rc84_0 (C : Tab) (ρ : Type) (args : List (PV sig)) (m : Mem sig) (K : Res sig × Mem sig → Option ρ) : Option ρ :=
  uC args fun x0 x1 => uTm .d x0 fun a1 => uC x1 fun x2 x3 => uI .i64 x2 fun a2 => uC x3 fun x4 x5 => uFn 85 x4 fun x6 x7 => u0 x6 <| uC x7 fun x8 x9 => uP 0 0 x8 <| uC x9 fun x10 x11 => uP 1 0 x10 <| uC x11 fun x12 x13 => uP 2 0 x12 <| uC x13 fun x14 x15 => uP 3 0 x14 <| u0 x15 <| u0 x5 <| uM m fun x17 x16 => uC x17 fun x18 x19 => uI .i64 x18 fun a3 => u0 x19 <| uM x16 fun x21 x20 => uC x21 fun x22 x23 => uB x22 fun a4 => u0 x23 <| uM x20 fun x25 x24 => uC x25 fun x26 x27 => uI .i64 x26 fun a5 => u0 x27 <| uM x24 fun x29 x28 => uC x29 fun x30 x31 => uB x30 fun a6 => u0 x31 <| uE x28 <| C.c84_0 ρ a1 a2 a3 a4 a5 a6 (fun (y0 : Int) (y1 : Bool) (y2 : Int) (y3 : Bool) => K (.ret (.tup []), [some [.d (.int .i64 y0)], some [.d (.bool y1)], some [.d (.int .i64 y2)], some [.d (.bool y3)]]))

def Rc85_0 (C : Tab) (ρ : Type) (args : List (PV sig)) (m : Mem sig) (K : Res sig × Mem sig → Option ρ) : Option ρ :=
  uC args fun x0 x1 => uTm .d x0 fun a1 => uC x1 fun x2 x3 => uI .i64 x2 fun a2 => uC x3 fun x4 x5 => uP 0 0 x4 <| uC x5 fun x6 x7 => uP 1 0 x6 <| uC x7 fun x8 x9 => uP 2 0 x8 <| uC x9 fun x10 x11 => uP 3 0 x10 <| u0 x11 <| uM m fun x13 x12 => uC x13 fun x14 x15 => uI .i64 x14 fun a3 => u0 x15 <| uM x12 fun x17 x16 => uC x17 fun x18 x19 => uB x18 fun a4 => u0 x19 <| uM x16 fun x21 x20 => uC x21 fun x22 x23 => uI .i64 x22 fun a5 => u0 x23 <| uM x20 fun x25 x24 => uC x25 fun x26 x27 => uB x26 fun a6 => u0 x27 <| uE x24 <| C.c85_0 ρ a1 a2 a3 a4 a5 a6 (fun (y0 : Int) (y1 : Bool) (y2 : Int) (y3 : Bool) => K (.ret (.tup []), [some [.d (.int .i64 y0)], some [.d (.bool y1)], some [.d (.int .i64 y2)], some [.d (.bool y3)]]))

def Rc86_0 (C : Tab) (ρ : Type) (args : List (PV sig)) (m : Mem sig) (K : Res sig × Mem sig → Option ρ) : Option ρ :=
  uC args fun x0 x1 => uTm .d x0 fun a1 => uC x1 fun x2 x3 => uI .i64 x2 fun a2 => uC x3 fun x4 x5 => uI .i64 x4 fun a3 => u0 x5 <| uE m <| C.c86_0 ρ a1 a2 a3 (fun (y0 : Tm) => K (.ret (.agg [.d (.int .i64 y0.op), .d (.int .i64 y0.head), .d (.int .i64 y0.n), .d (.sl Key.tm y0.args)]), []))

def Rc87_0 (C : Tab) (ρ : Type) (args : List (PV sig)) (m : Mem sig) (K : Res sig × Mem sig → Option ρ) : Option ρ :=
  uC args fun x0 x1 => uTm .d x0 fun a1 => u0 x1 <| uE m <| C.c87_0 ρ a1 (fun (y0 : List Tm) (y1 : Tm) => K (.ret (.tup [.d (.sl Key.tm y0), .agg [.d (.int .i64 y1.op), .d (.int .i64 y1.head), .d (.int .i64 y1.n), .d (.sl Key.tm y1.args)]]), []))

def Rc88_0 (C : Tab) (ρ : Type) (args : List (PV sig)) (m : Mem sig) (K : Res sig × Mem sig → Option ρ) : Option ρ :=
  uC args fun x0 x1 => uSm .d x0 fun a1 => uC x1 fun x2 x3 => uP 0 0 x2 <| u0 x3 <| uM m fun x5 x4 => uC x5 fun x6 x7 => uP 1 0 x6 <| u0 x7 <| uM x4 fun x9 x8 => uC x9 fun x10 x11 => uI .i64 x10 fun a2 => u0 x11 <| uE x8 <| C.c88_0 ρ a1 a2 (fun (y0 : Bool) (y1 : Int) => K (.ret (.d (.bool y0)), [some [.ptr 1 0], some [.d (.int .i64 y1)]]))

def Rc89_0 (C : Tab) (ρ : Type) (args : List (PV sig)) (m : Mem sig) (K : Res sig × Mem sig → Option ρ) : Option ρ :=
  uC args fun x0 x1 => uTm .full x0 fun a1 => uC x1 fun x2 x3 => uI .i64 x2 fun a2 => uC x3 fun x4 x5 => uP 0 0 x4 <| uC x5 fun x6 x7 => uP 1 0 x6 <| u0 x7 <| uM m fun x9 x8 => uC x9 fun x10 x11 => uI .i64 x10 fun a3 => u0 x11 <| uM x8 fun x13 x12 => uC x13 fun x14 x15 => uI .i64 x14 fun a4 => u0 x15 <| uE x12 <| C.c89_0 ρ a1 a2 a3 a4 (fun (y0 : Tm) (y1 : Int) (y2 : Int) => K (.ret (.agg [.d (.int .i64 y0.op), .d (.int .i64 y0.head), .d (.int .i64 y0.n), .full Key.tm y0.args]), [some [.d (.int .i64 y1)], some [.d (.int .i64 y2)]]))

def Rl13_4_0 (C : Tab) (ρ : Type) (vs : List (PV sig)) (m : Mem sig) (ds : List (FuncId × List (PV sig))) (nt : Nat) (K : Ex sig → St sig → Option ρ) : Option ρ :=
  uN nt 130 <| uC vs fun x0 x1 => uS (S := sig) .d Key.tm x0 fun (a1 : List Tm) => uC x1 fun x2 x3 => uP 0 0 x2 <| uC x3 fun x4 x5 => uP 1 0 x4 <| uC x5 fun x6 x7 => uI .i64 x6 fun a2 => uC x7 fun x8 x9 => uI .i64 x8 fun a3 => u0 x9 <| uM m fun x11 x10 => uTmL .d x11 fun a4 => uM x10 fun x13 x12 => uSmL .d x13 fun a5 => uE x12 <| uDe ds <| C.l13_4_0 ρ a1 a2 a3 a4 a5 (fun (y0 : List Tm) (y1 : Tm) (y2 : Sm) => K (.exit 0) (canon [1, 3, 5] [.d (.sl Key.tm y0), .ptr 0 0, .ptr 1 0] [some [.d (.int .i64 y1.op), .d (.int .i64 y1.head), .d (.int .i64 y1.n), .d (.sl Key.tm y1.args)], some [.d (.sl Key.sm y2.args), .d (.int .i64 y2.con)]] [] 130)) (fun (y0 : Bool) => K .ret (canon [6] [.d (.bool y0)] [] [] 130))

def Rl22_4_0 (C : Tab) (ρ : Type) (vs : List (PV sig)) (m : Mem sig) (ds : List (FuncId × List (PV sig))) (nt : Nat) (K : Ex sig → St sig → Option ρ) : Option ρ :=
  uN nt 60 <| uC vs fun x0 x1 => uP 0 0 x0 <| uC x1 fun x2 x3 => uS (S := sig) .d Key.sm x2 fun (a1 : List Sm) => uC x3 fun x4 x5 => uI .i64 x4 fun a2 => uC x5 fun x6 x7 => uI .i64 x6 fun a3 => u0 x7 <| uM m fun x9 x8 => uC x9 fun x10 x11 => uS (S := sig) .d Key.sm x10 fun (a4 : List Sm) => uC x11 fun x12 x13 => uS (S := sig) .d Key.sm x12 fun (a5 : List Sm) => uC x13 fun x14 x15 => uI .i64 x14 fun a6 => uC x15 fun x16 x17 => uI .i64 x16 fun a7 => uC x17 fun x18 x19 => uI .i64 x18 fun a8 => uC x19 fun x20 x21 => uS (S := sig) .d Key.tm x20 fun (a9 : List Tm) => uC x21 fun x22 x23 => uS (S := sig) .d Key.sm x22 fun (a10 : List Sm) => uC x23 fun x24 x25 => uI .i64 x24 fun a11 => u0 x25 <| uE x8 <| uDe ds <| C.l22_4_0 ρ a1 a2 a3 a4 a5 a6 a7 a8 a9 a10 a11 (fun (y0 : Bool) => K .ret (canon [2] [.d (.bool y0)] [] [] 60)) (fun (y0 : List Sm) (y1 : List Sm) (y2 : Int) (y3 : Int) (y4 : Int) (y5 : List Tm) (y6 : List Sm) (y7 : Int) => K (.exit 0) (canon [1] [.ptr 0 0] [some [.d (.sl Key.sm y0), .d (.sl Key.sm y1), .d (.int .i64 y2), .d (.int .i64 y3), .d (.int .i64 y4), .d (.sl Key.tm y5), .d (.sl Key.sm y6), .d (.int .i64 y7)]] [] 60))

def Rl22_10_0 (C : Tab) (ρ : Type) (vs : List (PV sig)) (m : Mem sig) (ds : List (FuncId × List (PV sig))) (nt : Nat) (K : Ex sig → St sig → Option ρ) : Option ρ :=
  uN nt 60 <| uC vs fun x0 x1 => uP 0 0 x0 <| uC x1 fun x2 x3 => uS (S := sig) .d Key.sm x2 fun (a1 : List Sm) => uC x3 fun x4 x5 => uI .i64 x4 fun a2 => uC x5 fun x6 x7 => uI .i64 x6 fun a3 => u0 x7 <| uM m fun x9 x8 => uC x9 fun x10 x11 => uS (S := sig) .d Key.sm x10 fun (a4 : List Sm) => uC x11 fun x12 x13 => uS (S := sig) .d Key.sm x12 fun (a5 : List Sm) => uC x13 fun x14 x15 => uI .i64 x14 fun a6 => uC x15 fun x16 x17 => uI .i64 x16 fun a7 => uC x17 fun x18 x19 => uI .i64 x18 fun a8 => uC x19 fun x20 x21 => uS (S := sig) .d Key.tm x20 fun (a9 : List Tm) => uC x21 fun x22 x23 => uS (S := sig) .d Key.sm x22 fun (a10 : List Sm) => uC x23 fun x24 x25 => uI .i64 x24 fun a11 => u0 x25 <| uE x8 <| uDe ds <| C.l22_10_0 ρ a1 a2 a3 a4 a5 a6 a7 a8 a9 a10 a11 (fun (y0 : Bool) => K .ret (canon [2] [.d (.bool y0)] [] [] 60)) (fun (y0 : List Sm) (y1 : List Sm) (y2 : Int) (y3 : Int) (y4 : Int) (y5 : List Tm) (y6 : List Sm) (y7 : Int) => K (.exit 2) (canon [1] [.ptr 0 0] [some [.d (.sl Key.sm y0), .d (.sl Key.sm y1), .d (.int .i64 y2), .d (.int .i64 y3), .d (.int .i64 y4), .d (.sl Key.tm y5), .d (.sl Key.sm y6), .d (.int .i64 y7)]] [] 60))

def Rl23_2_0 (C : Tab) (ρ : Type) (vs : List (PV sig)) (m : Mem sig) (ds : List (FuncId × List (PV sig))) (nt : Nat) (K : Ex sig → St sig → Option ρ) : Option ρ :=
  uN nt 122 <| uC vs fun x0 x1 => uS (S := sig) .d Key.sm x0 fun (a1 : List Sm) => uC x1 fun x2 x3 => uS (S := sig) .d Key.sm x2 fun (a2 : List Sm) => uC x3 fun x4 x5 => uP 0 0 x4 <| uC x5 fun x6 x7 => uP 1 0 x6 <| uC x7 fun x8 x9 => uS (S := sig) .d Key.sm x8 fun (a3 : List Sm) => uC x9 fun x10 x11 => uI .i64 x10 fun a4 => uC x11 fun x12 x13 => uI .i64 x12 fun a5 => u0 x13 <| uM m fun x15 x14 => uTmL .d x15 fun a6 => uM x14 fun x17 x16 => uSmL .d x17 fun a7 => uE x16 <| uDe ds <| C.l23_2_0 ρ a1 a2 a3 a4 a5 a6 a7 (fun (y0 : Bool) => K .ret (canon [8] [.d (.bool y0)] [] [] 122)) (fun (y0 : List Sm) (y1 : List Sm) (y2 : Tm) (y3 : Sm) => K (.exit 0) (canon [0, 1, 6, 7] [.d (.sl Key.sm y0), .d (.sl Key.sm y1), .ptr 0 0, .ptr 1 0] [some [.d (.int .i64 y2.op), .d (.int .i64 y2.head), .d (.int .i64 y2.n), .d (.sl Key.tm y2.args)], some [.d (.sl Key.sm y3.args), .d (.int .i64 y3.con)]] [] 122))

def Rl23_23_0 (C : Tab) (ρ : Type) (vs : List (PV sig)) (m : Mem sig) (ds : List (FuncId × List (PV sig))) (nt : Nat) (K : Ex sig → St sig → Option ρ) : Option ρ :=
  uN nt 122 <| uC vs fun x0 x1 => uS (S := sig) .d Key.sm x0 fun (a1 : List Sm) => uC x1 fun x2 x3 => uS (S := sig) .d Key.sm x2 fun (a2 : List Sm) => uC x3 fun x4 x5 => uP 0 0 x4 <| uC x5 fun x6 x7 => uP 2 0 x6 <| uC x7 fun x8 x9 => uI .i64 x8 fun a3 => uC x9 fun x10 x11 => uI .i64 x10 fun a4 => u0 x11 <| uM m fun x13 x12 => uTmL .d x13 fun a5 => uM x12 fun x15 x14 => uSmL .d x15 fun a6 => uM x14 fun x17 x16 => uSmL .d x17 fun a7 => uE x16 <| uDe ds <| C.l23_23_0 ρ a1 a2 a3 a4 a5 a6 a7 (fun (y0 : Bool) => K .ret (canon [8] [.d (.bool y0)] [] [] 122)) (K (.exit 3) (canon [] [] [] [] 122))

def Rl26_4_0 (C : Tab) (ρ : Type) (vs : List (PV sig)) (m : Mem sig) (ds : List (FuncId × List (PV sig))) (nt : Nat) (K : Ex sig → St sig → Option ρ) : Option ρ :=
  uN nt 53 <| uC vs fun x0 x1 => uP 0 0 x0 <| uC x1 fun x2 x3 => uP 1 0 x2 <| uC x3 fun x4 x5 => uI .i64 x4 fun a1 => u0 x5 <| uM m fun x7 x6 => uTmL .d x7 fun a2 => uM x6 fun x9 x8 => uTmL .d x9 fun a3 => uE x8 <| uDe ds <| C.l26_4_0 ρ a1 a2 a3 (fun (y0 : Bool) => K .ret (canon [4] [.d (.bool y0)] [] [] 53)) (K (.exit 0) (canon [] [] [] [] 53))

def Rl27_4_0 (C : Tab) (ρ : Type) (vs : List (PV sig)) (m : Mem sig) (ds : List (FuncId × List (PV sig))) (nt : Nat) (K : Ex sig → St sig → Option ρ) : Option ρ :=
  uN nt 39 <| uC vs fun x0 x1 => uP 0 0 x0 <| uC x1 fun x2 x3 => uP 1 0 x2 <| uC x3 fun x4 x5 => uI .i64 x4 fun a1 => u0 x5 <| uM m fun x7 x6 => uSmL .d x7 fun a2 => uM x6 fun x9 x8 => uSmL .d x9 fun a3 => uE x8 <| uDe ds <| C.l27_4_0 ρ a1 a2 a3 (fun (y0 : Bool) => K .ret (canon [4] [.d (.bool y0)] [] [] 39)) (K (.exit 0) (canon [] [] [] [] 39))

def Rl29_9_0 (C : Tab) (ρ : Type) (vs : List (PV sig)) (m : Mem sig) (ds : List (FuncId × List (PV sig))) (nt : Nat) (K : Ex sig → St sig → Option ρ) : Option ρ :=
  uN nt 71 <| uC vs fun x0 x1 => uI .i64 x0 fun a1 => uC x1 fun x2 x3 => uI .i64 x2 fun a2 => uC x3 fun x4 x5 => uI .i64 x4 fun a3 => uC x5 fun x6 x7 => uP 0 0 x6 <| uC x7 fun x8 x9 => uP 1 0 x8 <| uC x9 fun x10 x11 => uP 2 0 x10 <| uC x11 fun x12 x13 => uI .i64 x12 fun a4 => uC x13 fun x14 x15 => uI .i64 x14 fun a5 => u0 x15 <| uM m fun x17 x16 => uTmL .d x17 fun a6 => uM x16 fun x19 x18 => uTmL .full x19 fun a7 => uM x18 fun x21 x20 => uTmL .own x21 fun a8 => uE x20 <| uDe ds <| C.l29_9_0 ρ a1 a2 a3 a4 a5 a6 a7 a8 (fun (y0 : Tm) (y1 : Tm) (y2 : Tm) => K (.exit 1) (canon [8, 9] [.ptr 1 0, .ptr 2 0] [some [.d (.int .i64 y0.op), .d (.int .i64 y0.head), .d (.int .i64 y0.n), .d (.sl Key.tm y0.args)], some [.d (.int .i64 y1.op), .d (.int .i64 y1.head), .d (.int .i64 y1.n), .full Key.tm y1.args], some [.d (.int .i64 y2.op), .d (.int .i64 y2.head), .d (.int .i64 y2.n), .own Key.tm y2.args]] [] 71))

def Rl32_6_0 (C : Tab) (ρ : Type) (vs : List (PV sig)) (m : Mem sig) (ds : List (FuncId × List (PV sig))) (nt : Nat) (K : Ex sig → St sig → Option ρ) : Option ρ :=
  uN nt 57 <| uC vs fun x0 x1 => uS (S := sig) .d Key.tm x0 fun (a1 : List Tm) => uC x1 fun x2 x3 => uS (S := sig) .d Key.sm x2 fun (a2 : List Sm) => uC x3 fun x4 x5 => uP 0 0 x4 <| uC x5 fun x6 x7 => uP 1 0 x6 <| uC x7 fun x8 x9 => uP 2 0 x8 <| uC x9 fun x10 x11 => uP 3 0 x10 <| uC x11 fun x12 x13 => uS (S := sig) .d Key.tm x12 fun (a3 : List Tm) => uC x13 fun x14 x15 => uI .i64 x14 fun a4 => uC x15 fun x16 x17 => uI .i64 x16 fun a5 => u0 x17 <| uM m fun x19 x18 => uTmL .d x19 fun a6 => uM x18 fun x21 x20 => uTmL .full x21 fun a7 => uM x20 fun x23 x22 => uC x23 fun x24 x25 => uI .i64 x24 fun a8 => u0 x25 <| uM x22 fun x27 x26 => uC x27 fun x28 x29 => uI .i64 x28 fun a9 => u0 x29 <| uE x26 <| uD 40 ds fun x30 x31 => uC x30 fun x32 x33 => uP 1 0 x32 <| uC x33 fun x34 x35 => uP 2 0 x34 <| u0 x35 <| uDe x31 <| C.l32_6_0 ρ a1 a2 a3 a4 a5 a6 a7 a8 a9 (fun (y0 : Tm) (y1 : Tm) (y2 : Int) => K (.exit 0) (canon [3, 6, 7] [.ptr 0 0, .ptr 1 0, .ptr 2 0] [some [.d (.int .i64 y0.op), .d (.int .i64 y0.head), .d (.int .i64 y0.n), .d (.sl Key.tm y0.args)], some [.d (.int .i64 y1.op), .d (.int .i64 y1.head), .d (.int .i64 y1.n), .full Key.tm y1.args], some [.d (.int .i64 y2)]] [(40, [.ptr 1 0, .ptr 2 0])] 57)) (fun (y0 : Tm) (y1 : Tm) (y2 : Int) (y3 : Int) => K (.pan (.iface 104 (.agg [.d (.int .i64 y3)]))) (canon [6, 7] [.ptr 1 0, .ptr 2 0] [some [.d (.int .i64 y0.op), .d (.int .i64 y0.head), .d (.int .i64 y0.n), .d (.sl Key.tm y0.args)], some [.d (.int .i64 y1.op), .d (.int .i64 y1.head), .d (.int .i64 y1.n), .d (.sl Key.tm y1.args)], some [.d (.int .i64 y2)]] [(40, [.ptr 1 0, .ptr 2 0])] 57))

def Rl33_4_0 (C : Tab) (ρ : Type) (vs : List (PV sig)) (m : Mem sig) (ds : List (FuncId × List (PV sig))) (nt : Nat) (K : Ex sig → St sig → Option ρ) : Option ρ :=
  uN nt 87 <| uC vs fun x0 x1 => uS (S := sig) .d Key.tm x0 fun (a1 : List Tm) => uC x1 fun x2 x3 => uS (S := sig) .d Key.sm x2 fun (a2 : List Sm) => uC x3 fun x4 x5 => uP 0 0 x4 <| uC x5 fun x6 x7 => uP 1 0 x6 <| uC x7 fun x8 x9 => uI .i64 x8 fun a3 => u0 x9 <| uM m fun x11 x10 => uTmL .d x11 fun a4 => uM x10 fun x13 x12 => uTmL .full x13 fun a5 => uE x12 <| uDe ds <| C.l33_4_0 ρ a1 a2 a3 a4 a5 (fun (y0 : Int) (y1 : Tm) (y2 : Tm) => K .ret (canon [6, 7] [.ptr 1 0, .d (.int .i64 y0)] [some [.d (.int .i64 y1.op), .d (.int .i64 y1.head), .d (.int .i64 y1.n), .d (.sl Key.tm y1.args)], some [.d (.int .i64 y2.op), .d (.int .i64 y2.head), .d (.int .i64 y2.n), .full Key.tm y2.args]] [] 87)) (fun (y0 : List Tm) (y1 : List Sm) (y2 : Tm) (y3 : Tm) => K (.exit 0) (canon [1, 2, 3, 6] [.d (.sl Key.tm y0), .d (.sl Key.sm y1), .ptr 0 0, .ptr 1 0] [some [.d (.int .i64 y2.op), .d (.int .i64 y2.head), .d (.int .i64 y2.n), .d (.sl Key.tm y2.args)], some [.d (.int .i64 y3.op), .d (.int .i64 y3.head), .d (.int .i64 y3.n), .full Key.tm y3.args]] [] 87))

def Rl33_10_0 (C : Tab) (ρ : Type) (vs : List (PV sig)) (m : Mem sig) (ds : List (FuncId × List (PV sig))) (nt : Nat) (K : Ex sig → St sig → Option ρ) : Option ρ :=
  uN nt 87 <| uC vs fun x0 x1 => uS (S := sig) .d Key.tm x0 fun (a1 : List Tm) => uC x1 fun x2 x3 => uS (S := sig) .d Key.sm x2 fun (a2 : List Sm) => uC x3 fun x4 x5 => uP 0 0 x4 <| uC x5 fun x6 x7 => uP 1 0 x6 <| uC x7 fun x8 x9 => uP 2 0 x8 <| uC x9 fun x10 x11 => uI .i64 x10 fun a3 => u0 x11 <| uM m fun x13 x12 => uTmL .d x13 fun a4 => uM x12 fun x15 x14 => uTmL .full x15 fun a5 => uM x14 fun x17 x16 => uC x17 fun x18 x19 => uI .i64 x18 fun a6 => u0 x19 <| uE x16 <| uDe ds <| C.l33_10_0 ρ a1 a2 a3 a4 a5 a6 (fun (y0 : Tm) (y1 : Tm) => K (.exit 2) (canon [3, 6] [.ptr 0 0, .ptr 1 0] [some [.d (.int .i64 y0.op), .d (.int .i64 y0.head), .d (.int .i64 y0.n), .d (.sl Key.tm y0.args)], some [.d (.int .i64 y1.op), .d (.int .i64 y1.head), .d (.int .i64 y1.n), .full Key.tm y1.args]] [] 87)) (fun (y0 : Int) (y1 : Tm) (y2 : Tm) => K .ret (canon [6, 7] [.ptr 1 0, .d (.int .i64 y0)] [some [.d (.int .i64 y1.op), .d (.int .i64 y1.head), .d (.int .i64 y1.n), .d (.sl Key.tm y1.args)], some [.d (.int .i64 y2.op), .d (.int .i64 y2.head), .d (.int .i64 y2.n), .full Key.tm y2.args]] [] 87))

def Rl35_4_0 (C : Tab) (ρ : Type) (vs : List (PV sig)) (m : Mem sig) (ds : List (FuncId × List (PV sig))) (nt : Nat) (K : Ex sig → St sig → Option ρ) : Option ρ :=
  uN nt 86 <| uC vs fun x0 x1 => uP 0 0 x0 <| uC x1 fun x2 x3 => uI .i64 x2 fun a1 => u0 x3 <| uM m fun x5 x4 => uTmL .d x5 fun a2 => uE x4 <| uDe ds <| C.l35_4_0 ρ a1 a2 (fun (y0 : Int) (y1 : Tm) => K (.exit 0) (canon [1, 5] [.ptr 0 0, .d (.int .i64 y0)] [some [.d (.int .i64 y1.op), .d (.int .i64 y1.head), .d (.int .i64 y1.n), .d (.sl Key.tm y1.args)]] [] 86))

def Rl35_10_0 (C : Tab) (ρ : Type) (vs : List (PV sig)) (m : Mem sig) (ds : List (FuncId × List (PV sig))) (nt : Nat) (K : Ex sig → St sig → Option ρ) : Option ρ :=
  uN nt 86 <| uC vs fun x0 x1 => uP 0 0 x0 <| uC x1 fun x2 x3 => uI .i64 x2 fun a1 => uC x3 fun x4 x5 => uS (S := sig) .d Key.tm x4 fun (a2 : List Tm) => uC x5 fun x6 x7 => uI .i64 x6 fun a3 => uC x7 fun x8 x9 => uI .i64 x8 fun a4 => u0 x9 <| uM m fun x11 x10 => uTmL .d x11 fun a5 => uE x10 <| uDe ds <| C.l35_10_0 ρ a1 a2 a3 a4 a5 (fun (y0 : Int) (y1 : Int) (y2 : Int) => K .ret (canon [2, 3, 4] [.d (.int .i64 y0), .d (.int .i64 y1), .d (.int .i64 y2)] [] [] 86)) (fun (y0 : Int) (y1 : Tm) => K (.exit 2) (canon [1, 5] [.ptr 0 0, .d (.int .i64 y0)] [some [.d (.int .i64 y1.op), .d (.int .i64 y1.head), .d (.int .i64 y1.n), .d (.sl Key.tm y1.args)]] [] 86))

def Rl36_2_0 (C : Tab) (ρ : Type) (vs : List (PV sig)) (m : Mem sig) (ds : List (FuncId × List (PV sig))) (nt : Nat) (K : Ex sig → St sig → Option ρ) : Option ρ :=
  uN nt 75 <| uC vs fun x0 x1 => uP 0 0 x0 <| uC x1 fun x2 x3 => uI .i64 x2 fun a1 => u0 x3 <| uM m fun x5 x4 => uTmL .d x5 fun a2 => uE x4 <| uDe ds <| C.l36_2_0 ρ a1 a2 (fun (y0 : Int) (y1 : Tm) => K (.exit 0) (canon [1, 5] [.ptr 0 0, .d (.int .i64 y0)] [some [.d (.int .i64 y1.op), .d (.int .i64 y1.head), .d (.int .i64 y1.n), .d (.sl Key.tm y1.args)]] [] 75))

def Rl36_8_0 (C : Tab) (ρ : Type) (vs : List (PV sig)) (m : Mem sig) (ds : List (FuncId × List (PV sig))) (nt : Nat) (K : Ex sig → St sig → Option ρ) : Option ρ :=
  uN nt 75 <| uC vs fun x0 x1 => uP 0 0 x0 <| uC x1 fun x2 x3 => uI .i64 x2 fun a1 => uC x3 fun x4 x5 => uI .i64 x4 fun a2 => u0 x5 <| uM m fun x7 x6 => uTmL .d x7 fun a3 => uE x6 <| uDe ds <| C.l36_8_0 ρ a1 a2 a3 (fun (y0 : Int) (y1 : Int) (y2 : Bool) => K .ret (canon [2, 3, 4] [.d (.int .i64 y0), .d (.int .i64 y1), .d (.bool y2)] [] [] 75)) (fun (y0 : Int) (y1 : Tm) => K (.exit 2) (canon [1, 5] [.ptr 0 0, .d (.int .i64 y0)] [some [.d (.int .i64 y1.op), .d (.int .i64 y1.head), .d (.int .i64 y1.n), .d (.sl Key.tm y1.args)]] [] 75))

def Rl37_6_0 (C : Tab) (ρ : Type) (vs : List (PV sig)) (m : Mem sig) (ds : List (FuncId × List (PV sig))) (nt : Nat) (K : Ex sig → St sig → Option ρ) : Option ρ :=
  uN nt 62 <| uC vs fun x0 x1 => uP 0 0 x0 <| uC x1 fun x2 x3 => uP 1 0 x2 <| uC x3 fun x4 x5 => uP 2 0 x4 <| uC x5 fun x6 x7 => uP 3 0 x6 <| uC x7 fun x8 x9 => uS (S := sig) .d Key.tm x8 fun (a1 : List Tm) => uC x9 fun x10 x11 => uI .i64 x10 fun a2 => uC x11 fun x12 x13 => uI .i64 x12 fun a3 => u0 x13 <| uM m fun x15 x14 => uTmL .d x15 fun a4 => uM x14 fun x17 x16 => uTmL .full x17 fun a5 => uM x16 fun x19 x18 => uC x19 fun x20 x21 => uI .i64 x20 fun a6 => u0 x21 <| uM x18 fun x23 x22 => uC x23 fun x24 x25 => uI .i64 x24 fun a7 => u0 x25 <| uE x22 <| uD 40 ds fun x26 x27 => uC x26 fun x28 x29 => uP 1 0 x28 <| uC x29 fun x30 x31 => uP 2 0 x30 <| u0 x31 <| uDe x27 <| C.l37_6_0 ρ a1 a2 a3 a4 a5 a6 a7 (fun (y0 : Tm) (y1 : Tm) (y2 : Int) => K (.exit 0) (canon [2, 4, 5] [.ptr 0 0, .ptr 1 0, .ptr 2 0] [some [.d (.int .i64 y0.op), .d (.int .i64 y0.head), .d (.int .i64 y0.n), .d (.sl Key.tm y0.args)], some [.d (.int .i64 y1.op), .d (.int .i64 y1.head), .d (.int .i64 y1.n), .full Key.tm y1.args], some [.d (.int .i64 y2)]] [(40, [.ptr 1 0, .ptr 2 0])] 62)) (fun (y0 : Tm) (y1 : Tm) (y2 : Int) (y3 : Int) => K (.pan (.iface 104 (.agg [.d (.int .i64 y3)]))) (canon [4, 5] [.ptr 1 0, .ptr 2 0] [some [.d (.int .i64 y0.op), .d (.int .i64 y0.head), .d (.int .i64 y0.n), .d (.sl Key.tm y0.args)], some [.d (.int .i64 y1.op), .d (.int .i64 y1.head), .d (.int .i64 y1.n), .d (.sl Key.tm y1.args)], some [.d (.int .i64 y2)]] [(40, [.ptr 1 0, .ptr 2 0])] 62))

def Rl38_5_0 (C : Tab) (ρ : Type) (vs : List (PV sig)) (m : Mem sig) (ds : List (FuncId × List (PV sig))) (nt : Nat) (K : Ex sig → St sig → Option ρ) : Option ρ :=
  uN nt 43 <| uC vs fun x0 x1 => uS (S := sig) .d Key.tm x0 fun (a1 : List Tm) => uC x1 fun x2 x3 => uP 0 0 x2 <| uC x3 fun x4 x5 => uP 1 0 x4 <| uC x5 fun x6 x7 => uP 2 0 x6 <| uC x7 fun x8 x9 => uI .i64 x8 fun a2 => u0 x9 <| uM m fun x11 x10 => uTmL .d x11 fun a3 => uM x10 fun x13 x12 => uTmL .full x13 fun a4 => uM x12 fun x15 x14 => uC x15 fun x16 x17 => uI .i64 x16 fun a5 => u0 x17 <| uE x14 <| uDe ds <| C.l38_5_0 ρ a1 a2 a3 a4 a5 (fun (y0 : Tm) (y1 : Tm) => K (.exit 0) (canon [2, 4] [.ptr 0 0, .ptr 1 0] [some [.d (.int .i64 y0.op), .d (.int .i64 y0.head), .d (.int .i64 y0.n), .d (.sl Key.tm y0.args)], some [.d (.int .i64 y1.op), .d (.int .i64 y1.head), .d (.int .i64 y1.n), .full Key.tm y1.args]] [] 43)) (fun (y0 : Int) (y1 : Tm) (y2 : Tm) => K .ret (canon [4, 5] [.ptr 1 0, .d (.int .i64 y0)] [some [.d (.int .i64 y1.op), .d (.int .i64 y1.head), .d (.int .i64 y1.n), .d (.sl Key.tm y1.args)], some [.d (.int .i64 y2.op), .d (.int .i64 y2.head), .d (.int .i64 y2.n), .full Key.tm y2.args]] [] 43))

def Rl39_4_0 (C : Tab) (ρ : Type) (vs : List (PV sig)) (m : Mem sig) (ds : List (FuncId × List (PV sig))) (nt : Nat) (K : Ex sig → St sig → Option ρ) : Option ρ :=
  uN nt 27 <| uC vs fun x0 x1 => uS (S := sig) .d Key.sm x0 fun (a1 : List Sm) => uC x1 fun x2 x3 => uS (S := sig) .d Key.int x2 fun (a2 : List Int) => uC x3 fun x4 x5 => uS (S := sig) .d Key.tm x4 fun (a3 : List Tm) => uC x5 fun x6 x7 => uI .i64 x6 fun a4 => uC x7 fun x8 x9 => uI .i64 x8 fun a5 => u0 x9 <| uE m <| uDe ds <| C.l39_4_0 ρ a1 a2 a3 a4 a5 (fun (y0 : List Sm) (y1 : List Int) => K (.exit 0) (canon [1, 2] [.d (.sl Key.sm y0), .d (.sl Key.int y1)] [] [] 27)) (fun (y0 : Bool) => K .ret (canon [6] [.d (.bool y0)] [] [] 27))

def Rl41_6_0 (C : Tab) (ρ : Type) (vs : List (PV sig)) (m : Mem sig) (ds : List (FuncId × List (PV sig))) (nt : Nat) (K : Ex sig → St sig → Option ρ) : Option ρ :=
  uN nt 89 <| uC vs fun x0 x1 => uP 0 0 x0 <| uC x1 fun x2 x3 => uI .i64 x2 fun a1 => uC x3 fun x4 x5 => uP 1 0 x4 <| uC x5 fun x6 x7 => uP 2 0 x6 <| uC x7 fun x8 x9 => uP 3 0 x8 <| uC x9 fun x10 x11 => uP 4 0 x10 <| uC x11 fun x12 x13 => uP 5 0 x12 <| uC x13 fun x14 x15 => uS (S := sig) .d Key.tm x14 fun (a2 : List Tm) => uC x15 fun x16 x17 => uI .i64 x16 fun a3 => uC x17 fun x18 x19 => uI .i64 x18 fun a4 => u0 x19 <| uM m fun x21 x20 => uC x21 fun x22 x23 => uI .i64 x22 fun a5 => u0 x23 <| uM x20 fun x25 x24 => uTmL .d x25 fun a6 => uM x24 fun x27 x26 => uTmL .d x27 fun a7 => uM x26 fun x29 x28 => uSmL .d x29 fun a8 => uM x28 fun x31 x30 => uTmL .full x31 fun a9 => uM x30 fun x33 x32 => uTmL .own x33 fun a10 => uE x32 <| uDe ds <| C.l41_6_0 ρ a1 a2 a3 a4 a5 a6 a7 a8 a9 a10 (fun (y0 : Int) (y1 : Int) (y2 : Tm) (y3 : Tm) (y4 : Sm) (y5 : Tm) (y6 : Tm) => K (.exit 0) (canon [0, 2, 6, 8, 9, 10, 11] [.ptr 0 0, .d (.int .i64 y0), .ptr 1 0, .ptr 2 0, .ptr 3 0, .ptr 4 0, .ptr 5 0] [some [.d (.int .i64 y1)], some [.d (.int .i64 y2.op), .d (.int .i64 y2.head), .d (.int .i64 y2.n), .d (.sl Key.tm y2.args)], some [.d (.int .i64 y3.op), .d (.int .i64 y3.head), .d (.int .i64 y3.n), .d (.sl Key.tm y3.args)], some [.d (.sl Key.sm y4.args), .d (.int .i64 y4.con)], some [.d (.int .i64 y5.op), .d (.int .i64 y5.head), .d (.int .i64 y5.n), .full Key.tm y5.args], some [.d (.int .i64 y6.op), .d (.int .i64 y6.head), .d (.int .i64 y6.n), .own Key.tm y6.args]] [] 89)) (fun (y0 : Int) (y1 : Tm) (y2 : Tm) (y3 : Sm) (y4 : Tm) (y5 : Int) => K (.pan (.iface 104 (.agg [.d (.int .i64 y5)]))) (canon [10] [.ptr 4 0] [some [.d (.int .i64 y0)], some [.d (.int .i64 y1.op), .d (.int .i64 y1.head), .d (.int .i64 y1.n), .d (.sl Key.tm y1.args)], some [.d (.int .i64 y2.op), .d (.int .i64 y2.head), .d (.int .i64 y2.n), .d (.sl Key.tm y2.args)], some [.d (.sl Key.sm y3.args), .d (.int .i64 y3.con)], some [.d (.int .i64 y4.op), .d (.int .i64 y4.head), .d (.int .i64 y4.n), .d (.sl Key.tm y4.args)]] [] 89))

def Rl43_7_0 (C : Tab) (ρ : Type) (vs : List (PV sig)) (m : Mem sig) (ds : List (FuncId × List (PV sig))) (nt : Nat) (K : Ex sig → St sig → Option ρ) : Option ρ :=
  uN nt 127 <| uC vs fun x0 x1 => uP 0 0 x0 <| uC x1 fun x2 x3 => uI .i64 x2 fun a1 => uC x3 fun x4 x5 => uP 1 0 x4 <| uC x5 fun x6 x7 => uP 2 0 x6 <| uC x7 fun x8 x9 => uP 3 0 x8 <| uC x9 fun x10 x11 => uP 4 0 x10 <| uC x11 fun x12 x13 => uP 5 0 x12 <| uC x13 fun x14 x15 => uI .i64 x14 fun a2 => u0 x15 <| uM m fun x17 x16 => uC x17 fun x18 x19 => uI .i64 x18 fun a3 => u0 x19 <| uM x16 fun x21 x20 => uTmL .d x21 fun a4 => uM x20 fun x23 x22 => uTmL .d x23 fun a5 => uM x22 fun x25 x24 => uSmL .d x25 fun a6 => uM x24 fun x27 x26 => uTmL .full x27 fun a7 => uM x26 fun x29 x28 => uTmL .own x29 fun a8 => uE x28 <| uDe ds <| C.l43_7_0 ρ a1 a2 a3 a4 a5 a6 a7 a8 (fun (y0 : Int) (y1 : Int) (y2 : Tm) (y3 : Tm) (y4 : Sm) (y5 : Tm) => K .ret (canon [10, 11] [.ptr 4 0, .d (.int .i64 y0)] [some [.d (.int .i64 y1)], some [.d (.int .i64 y2.op), .d (.int .i64 y2.head), .d (.int .i64 y2.n), .d (.sl Key.tm y2.args)], some [.d (.int .i64 y3.op), .d (.int .i64 y3.head), .d (.int .i64 y3.n), .d (.sl Key.tm y3.args)], some [.d (.sl Key.sm y4.args), .d (.int .i64 y4.con)], some [.d (.int .i64 y5.op), .d (.int .i64 y5.head), .d (.int .i64 y5.n), .full Key.tm y5.args]] [] 127)) (fun (y0 : Int) (y1 : Int) (y2 : Tm) (y3 : Tm) (y4 : Sm) (y5 : Tm) (y6 : Tm) => K (.exit 0) (canon [0, 2, 6, 8, 9, 10, 12] [.ptr 0 0, .d (.int .i64 y0), .ptr 1 0, .ptr 2 0, .ptr 3 0, .ptr 4 0, .ptr 5 0] [some [.d (.int .i64 y1)], some [.d (.int .i64 y2.op), .d (.int .i64 y2.head), .d (.int .i64 y2.n), .d (.sl Key.tm y2.args)], some [.d (.int .i64 y3.op), .d (.int .i64 y3.head), .d (.int .i64 y3.n), .d (.sl Key.tm y3.args)], some [.d (.sl Key.sm y4.args), .d (.int .i64 y4.con)], some [.d (.int .i64 y5.op), .d (.int .i64 y5.head), .d (.int .i64 y5.n), .full Key.tm y5.args], some [.d (.int .i64 y6.op), .d (.int .i64 y6.head), .d (.int .i64 y6.n), .own Key.tm y6.args]] [] 127))

def Rl47_3_0 (C : Tab) (ρ : Type) (vs : List (PV sig)) (m : Mem sig) (ds : List (FuncId × List (PV sig))) (nt : Nat) (K : Ex sig → St sig → Option ρ) : Option ρ :=
  uN nt 34 <| uC vs fun x0 x1 => uI .i64 x0 fun a1 => uC x1 fun x2 x3 => uP 0 0 x2 <| uC x3 fun x4 x5 => uI .i64 x4 fun a2 => uC x5 fun x6 x7 => uI .i64 x6 fun a3 => u0 x7 <| uM m fun x9 x8 => uTmL .d x9 fun a4 => uE x8 <| uDe ds <| C.l47_3_0 ρ a1 a2 a3 a4 (fun (y0 : Int) (y1 : Int) => K (.exit 0) (canon [1, 5] [.d (.int .i64 y0), .d (.int .i64 y1)] [] [] 34))

def Rl48_18_0 (C : Tab) (ρ : Type) (vs : List (PV sig)) (m : Mem sig) (ds : List (FuncId × List (PV sig))) (nt : Nat) (K : Ex sig → St sig → Option ρ) : Option ρ :=
  uN nt 94 <| uC vs fun x0 x1 => uI .i64 x0 fun a1 => uC x1 fun x2 x3 => uP 0 0 x2 <| uC x3 fun x4 x5 => uI .i64 x4 fun a2 => u0 x5 <| uM m fun x7 x6 => uTmL .d x7 fun a3 => uE x6 <| uDe ds <| C.l48_18_0 ρ a1 a2 a3 (fun (y0 : Bool) => K .ret (canon [4] [.d (.bool y0)] [] [] 94)) (K (.exit 1) (canon [] [] [] [] 94))

def Rl49_5_0 (C : Tab) (ρ : Type) (vs : List (PV sig)) (m : Mem sig) (ds : List (FuncId × List (PV sig))) (nt : Nat) (K : Ex sig → St sig → Option ρ) : Option ρ :=
  uN nt 46 <| uC vs fun x0 x1 => uI .i64 x0 fun a1 => uC x1 fun x2 x3 => uP 0 0 x2 <| uC x3 fun x4 x5 => uI .i64 x4 fun a2 => uC x5 fun x6 x7 => uI .i64 x6 fun a3 => u0 x7 <| uM m fun x9 x8 => uSmL .d x9 fun a4 => uE x8 <| uDe ds <| C.l49_5_0 ρ a1 a2 a3 a4 (fun (y0 : Int) => K .ret (canon [4] [.d (.int .i64 y0)] [] [] 46)) (fun (y0 : Int) (y1 : Int) => K (.exit 0) (canon [1, 5] [.d (.int .i64 y0), .d (.int .i64 y1)] [] [] 46))

def Rl50_4_0 (C : Tab) (ρ : Type) (vs : List (PV sig)) (m : Mem sig) (ds : List (FuncId × List (PV sig))) (nt : Nat) (K : Ex sig → St sig → Option ρ) : Option ρ :=
  uN nt 51 <| uC vs fun x0 x1 => uI .i64 x0 fun a1 => uC x1 fun x2 x3 => uI .i64 x2 fun a2 => uC x3 fun x4 x5 => uP 0 0 x4 <| uC x5 fun x6 x7 => uI .i64 x6 fun a3 => u0 x7 <| uM m fun x9 x8 => uTmL .d x9 fun a4 => uE x8 <| uDe ds <| C.l50_4_0 ρ a1 a2 a3 a4 (K (.exit 0) (canon [] [] [] [] 51)) (fun (y0 : Bool) => K .ret (canon [6] [.d (.bool y0)] [] [] 51))

def Rl51_6_0 (C : Tab) (ρ : Type) (vs : List (PV sig)) (m : Mem sig) (ds : List (FuncId × List (PV sig))) (nt : Nat) (K : Ex sig → St sig → Option ρ) : Option ρ :=
  uN nt 55 <| uC vs fun x0 x1 => uI .i64 x0 fun a1 => uC x1 fun x2 x3 => uI .i64 x2 fun a2 => uC x3 fun x4 x5 => uP 0 0 x4 <| uC x5 fun x6 x7 => uP 1 0 x6 <| uC x7 fun x8 x9 => uP 2 0 x8 <| uC x9 fun x10 x11 => uI .i64 x10 fun a3 => u0 x11 <| uM m fun x13 x12 => uTmL .d x13 fun a4 => uM x12 fun x15 x14 => uTmL .full x15 fun a5 => uM x14 fun x17 x16 => uTmL .own x17 fun a6 => uE x16 <| uDe ds <| C.l51_6_0 ρ a1 a2 a3 a4 a5 a6 (fun (y0 : Tm) (y1 : Tm) (y2 : Tm) => K (.exit 0) (canon [6, 7] [.ptr 1 0, .ptr 2 0] [some [.d (.int .i64 y0.op), .d (.int .i64 y0.head), .d (.int .i64 y0.n), .d (.sl Key.tm y0.args)], some [.d (.int .i64 y1.op), .d (.int .i64 y1.head), .d (.int .i64 y1.n), .full Key.tm y1.args], some [.d (.int .i64 y2.op), .d (.int .i64 y2.head), .d (.int .i64 y2.n), .own Key.tm y2.args]] [] 55))

def Rl52_6_0 (C : Tab) (ρ : Type) (vs : List (PV sig)) (m : Mem sig) (ds : List (FuncId × List (PV sig))) (nt : Nat) (K : Ex sig → St sig → Option ρ) : Option ρ :=
  uN nt 51 <| uC vs fun x0 x1 => uP 1 0 x0 <| uC x1 fun x2 x3 => uI .i64 x2 fun a1 => uC x3 fun x4 x5 => uP 2 0 x4 <| uC x5 fun x6 x7 => uS (S := sig) .d Key.sm x6 fun (a2 : List Sm) => uC x7 fun x8 x9 => uI .i64 x8 fun a3 => uC x9 fun x10 x11 => uI .i64 x10 fun a4 => u0 x11 <| uM m fun x13 x12 => uSmL .d x13 fun a5 => uM x12 fun x15 x14 => uTmL .full x15 fun a6 => uM x14 fun x17 x16 => uTmL .own x17 fun a7 => uE x16 <| uDe ds <| C.l52_6_0 ρ a1 a2 a3 a4 a5 a6 a7 (fun (y0 : Int) (y1 : Sm) (y2 : Tm) (y3 : Tm) => K (.exit 0) (canon [6, 7, 8] [.ptr 1 0, .d (.int .i64 y0), .ptr 2 0] [some [.d (.sl Key.sm y1.args), .d (.int .i64 y1.con)], some [.d (.int .i64 y2.op), .d (.int .i64 y2.head), .d (.int .i64 y2.n), .full Key.tm y2.args], some [.d (.int .i64 y3.op), .d (.int .i64 y3.head), .d (.int .i64 y3.n), .own Key.tm y3.args]] [] 51))

def Rl52_11_0 (C : Tab) (ρ : Type) (vs : List (PV sig)) (m : Mem sig) (ds : List (FuncId × List (PV sig))) (nt : Nat) (K : Ex sig → St sig → Option ρ) : Option ρ :=
  uN nt 51 <| uC vs fun x0 x1 => uP 1 0 x0 <| uC x1 fun x2 x3 => uP 2 0 x2 <| uC x3 fun x4 x5 => uI .i64 x4 fun a1 => uC x5 fun x6 x7 => uI .i64 x6 fun a2 => u0 x7 <| uM m fun x9 x8 => uSmL .d x9 fun a3 => uM x8 fun x11 x10 => uTmL .full x11 fun a4 => uM x10 fun x13 x12 => uTmL .d x13 fun a5 => uE x12 <| uDe ds <| C.l52_11_0 ρ a1 a2 a3 a4 a5 (fun (y0 : Sm) (y1 : Tm) (y2 : Tm) => K (.exit 2) (canon [6, 8] [.ptr 1 0, .ptr 2 0] [some [.d (.sl Key.sm y0.args), .d (.int .i64 y0.con)], some [.d (.int .i64 y1.op), .d (.int .i64 y1.head), .d (.int .i64 y1.n), .full Key.tm y1.args], some [.d (.int .i64 y2.op), .d (.int .i64 y2.head), .d (.int .i64 y2.n), .d (.sl Key.tm y2.args)]] [] 51))

def Rl55_3_0 (C : Tab) (ρ : Type) (vs : List (PV sig)) (m : Mem sig) (ds : List (FuncId × List (PV sig))) (nt : Nat) (K : Ex sig → St sig → Option ρ) : Option ρ :=
  uN nt 47 <| uC vs fun x0 x1 => uP 1 0 x0 <| uC x1 fun x2 x3 => uP 2 0 x2 <| uC x3 fun x4 x5 => uP 3 0 x4 <| uC x5 fun x6 x7 => uFn 41 x6 fun x8 x9 => uC x8 fun x10 x11 => uP 0 0 x10 <| u0 x11 <| u0 x9 <| uC x7 fun x12 x13 => uS (S := sig) .d Key.tm x12 fun (a1 : List Tm) => uC x13 fun x14 x15 => uI .i64 x14 fun a2 => uC x15 fun x16 x17 => uI .i64 x16 fun a3 => u0 x17 <| uM m fun x19 x18 => uC x19 fun x20 x21 => uI .i64 x20 fun a4 => u0 x21 <| uM x18 fun x23 x22 => uTmL .d x23 fun a5 => uM x22 fun x25 x24 => uSmL .d x25 fun a6 => uM x24 fun x27 x26 => uTmL .full x27 fun a7 => uE x26 <| uDe ds <| C.l55_3_0 ρ a1 a2 a3 a4 a5 a6 a7 (fun (y0 : Int) (y1 : Tm) (y2 : Sm) (y3 : Tm) (y4 : Int) => K (.pan (.iface 104 (.agg [.d (.int .i64 y4)]))) (canon [8] [.ptr 3 0] [some [.d (.int .i64 y0)], some [.d (.int .i64 y1.op), .d (.int .i64 y1.head), .d (.int .i64 y1.n), .d (.sl Key.tm y1.args)], some [.d (.sl Key.sm y2.args), .d (.int .i64 y2.con)], some [.d (.int .i64 y3.op), .d (.int .i64 y3.head), .d (.int .i64 y3.n), .d (.sl Key.tm y3.args)]] [] 47)) (fun (y0 : Int) (y1 : Tm) (y2 : Sm) (y3 : Tm) => K (.exit 0) (canon [5, 8] [.ptr 1 0, .ptr 3 0] [some [.d (.int .i64 y0)], some [.d (.int .i64 y1.op), .d (.int .i64 y1.head), .d (.int .i64 y1.n), .d (.sl Key.tm y1.args)], some [.d (.sl Key.sm y2.args), .d (.int .i64 y2.con)], some [.d (.int .i64 y3.op), .d (.int .i64 y3.head), .d (.int .i64 y3.n), .full Key.tm y3.args]] [] 47))

def Rl56_2_0 (C : Tab) (ρ : Type) (vs : List (PV sig)) (m : Mem sig) (ds : List (FuncId × List (PV sig))) (nt : Nat) (K : Ex sig → St sig → Option ρ) : Option ρ :=
  uN nt 24 <| uC vs fun x0 x1 => uS (S := sig) .d Key.tm x0 fun (a1 : List Tm) => uC x1 fun x2 x3 => uI .i64 x2 fun a2 => u0 x3 <| uE m <| uDe ds <| C.l56_2_0 ρ a1 a2 (fun (y0 : Bool) => K .ret (canon [2] [.d (.bool y0)] [] [] 24)) (fun (y0 : List Tm) => K (.exit 0) (canon [0] [.d (.sl Key.tm y0)] [] [] 24))

def Rl61_6_0 (C : Tab) (ρ : Type) (vs : List (PV sig)) (m : Mem sig) (ds : List (FuncId × List (PV sig))) (nt : Nat) (K : Ex sig → St sig → Option ρ) : Option ρ :=
  uN nt 54 <| uC vs fun x0 x1 => uP 0 0 x0 <| uC x1 fun x2 x3 => uP 1 0 x2 <| uC x3 fun x4 x5 => uI .i64 x4 fun a1 => uC x5 fun x6 x7 => uP 2 0 x6 <| uC x7 fun x8 x9 => uI .i64 x8 fun a2 => u0 x9 <| uM m fun x11 x10 => uSmL .d x11 fun a3 => uM x10 fun x13 x12 => uTmL .full x13 fun a4 => uM x12 fun x15 x14 => uTmL .own x15 fun a5 => uE x14 <| uDe ds <| C.l61_6_0 ρ a1 a2 a3 a4 a5 (fun (y0 : Int) (y1 : Sm) (y2 : Tm) (y3 : Tm) => K (.exit 0) (canon [6, 7, 8] [.ptr 1 0, .d (.int .i64 y0), .ptr 2 0] [some [.d (.sl Key.sm y1.args), .d (.int .i64 y1.con)], some [.d (.int .i64 y2.op), .d (.int .i64 y2.head), .d (.int .i64 y2.n), .full Key.tm y2.args], some [.d (.int .i64 y3.op), .d (.int .i64 y3.head), .d (.int .i64 y3.n), .own Key.tm y3.args]] [] 54))

def Rl61_11_0 (C : Tab) (ρ : Type) (vs : List (PV sig)) (m : Mem sig) (ds : List (FuncId × List (PV sig))) (nt : Nat) (K : Ex sig → St sig → Option ρ) : Option ρ :=
  uN nt 54 <| uC vs fun x0 x1 => uP 1 0 x0 <| uC x1 fun x2 x3 => uI .i64 x2 fun a1 => uC x3 fun x4 x5 => uP 2 0 x4 <| uC x5 fun x6 x7 => uI .i64 x6 fun a2 => u0 x7 <| uM m fun x9 x8 => uSmL .d x9 fun a3 => uM x8 fun x11 x10 => uTmL .full x11 fun a4 => uM x10 fun x13 x12 => uTmL .own x13 fun a5 => uE x12 <| uDe ds <| C.l61_11_0 ρ a1 a2 a3 a4 a5 (fun (y0 : Sm) (y1 : Tm) (y2 : Tm) => K (.exit 2) (canon [6, 8] [.ptr 1 0, .ptr 2 0] [some [.d (.sl Key.sm y0.args), .d (.int .i64 y0.con)], some [.d (.int .i64 y1.op), .d (.int .i64 y1.head), .d (.int .i64 y1.n), .full Key.tm y1.args], some [.d (.int .i64 y2.op), .d (.int .i64 y2.head), .d (.int .i64 y2.n), .own Key.tm y2.args]] [] 54))

def Rl74_17_0 (C : Tab) (ρ : Type) (vs : List (PV sig)) (m : Mem sig) (ds : List (FuncId × List (PV sig))) (nt : Nat) (K : Ex sig → St sig → Option ρ) : Option ρ :=
  uN nt 95 <| uC vs fun x0 x1 => uI .i64 x0 fun a1 => uC x1 fun x2 x3 => uP 0 0 x2 <| uC x3 fun x4 x5 => uP 1 0 x4 <| uC x5 fun x6 x7 => uI .i64 x6 fun a2 => uC x7 fun x8 x9 => uB x8 fun a3 => uC x9 fun x10 x11 => uI .i64 x10 fun a4 => u0 x11 <| uM m fun x13 x12 => uC x13 fun x14 x15 => uI .i64 x14 fun a5 => u0 x15 <| uM x12 fun x17 x16 => uTmL .d x17 fun a6 => uE x16 <| uDe ds <| C.l74_17_0 ρ a1 a2 a3 a4 a5 a6 (fun (y0 : Bool) (y1 : Int) => K (.exit 1) (canon [8] [.d (.bool y0)] [some [.d (.int .i64 y1)]] [] 95))

def Rl75_3_0 (C : Tab) (ρ : Type) (vs : List (PV sig)) (m : Mem sig) (ds : List (FuncId × List (PV sig))) (nt : Nat) (K : Ex sig → St sig → Option ρ) : Option ρ :=
  uN nt 43 <| uC vs fun x0 x1 => uI .i64 x0 fun a1 => uC x1 fun x2 x3 => uFn 76 x2 fun x4 x5 => u0 x4 <| u0 x5 <| uC x3 fun x6 x7 => uP 0 0 x6 <| uC x7 fun x8 x9 => uP 1 0 x8 <| uC x9 fun x10 x11 => uP 2 0 x10 <| uC x11 fun x12 x13 => uS (S := sig) .d Key.tm x12 fun (a2 : List Tm) => uC x13 fun x14 x15 => uI .i64 x14 fun a3 => uC x15 fun x16 x17 => uI .i64 x16 fun a4 => u0 x17 <| uM m fun x19 x18 => uTmL .d x19 fun a5 => uM x18 fun x21 x20 => uTmL .full x21 fun a6 => uM x20 fun x23 x22 => uTmL .own x23 fun a7 => uE x22 <| uDe ds <| C.l75_3_0 ρ a1 a2 a3 a4 a5 a6 a7 (fun (y0 : Tm) (y1 : Tm) (y2 : Tm) => K (.exit 0) (canon [6, 7] [.ptr 1 0, .ptr 2 0] [some [.d (.int .i64 y0.op), .d (.int .i64 y0.head), .d (.int .i64 y0.n), .d (.sl Key.tm y0.args)], some [.d (.int .i64 y1.op), .d (.int .i64 y1.head), .d (.int .i64 y1.n), .full Key.tm y1.args], some [.d (.int .i64 y2.op), .d (.int .i64 y2.head), .d (.int .i64 y2.n), .own Key.tm y2.args]] [] 43))

def Rl75_3_1 (C : Tab) (ρ : Type) (vs : List (PV sig)) (m : Mem sig) (ds : List (FuncId × List (PV sig))) (nt : Nat) (K : Ex sig → St sig → Option ρ) : Option ρ :=
  uN nt 43 <| uC vs fun x0 x1 => uI .i64 x0 fun a1 => uC x1 fun x2 x3 => uFn 89 x2 fun x4 x5 => u0 x4 <| uC x5 fun x6 x7 => uP 0 0 x6 <| uC x7 fun x8 x9 => uP 1 0 x8 <| u0 x9 <| uC x3 fun x10 x11 => uP 2 0 x10 <| uC x11 fun x12 x13 => uP 3 0 x12 <| uC x13 fun x14 x15 => uP 4 0 x14 <| uC x15 fun x16 x17 => uS (S := sig) .d Key.tm x16 fun (a2 : List Tm) => uC x17 fun x18 x19 => uI .i64 x18 fun a3 => uC x19 fun x20 x21 => uI .i64 x20 fun a4 => u0 x21 <| uM m fun x23 x22 => uC x23 fun x24 x25 => uI .i64 x24 fun a5 => u0 x25 <| uM x22 fun x27 x26 => uC x27 fun x28 x29 => uI .i64 x28 fun a6 => u0 x29 <| uM x26 fun x31 x30 => uTmL .d x31 fun a7 => uM x30 fun x33 x32 => uTmL .full x33 fun a8 => uM x32 fun x35 x34 => uTmL .own x35 fun a9 => uE x34 <| uDe ds <| C.l75_3_1 ρ a1 a2 a3 a4 a5 a6 a7 a8 a9 (fun (y0 : Int) (y1 : Int) (y2 : Tm) (y3 : Tm) (y4 : Tm) => K (.exit 0) (canon [6, 7] [.ptr 3 0, .ptr 4 0] [some [.d (.int .i64 y0)], some [.d (.int .i64 y1)], some [.d (.int .i64 y2.op), .d (.int .i64 y2.head), .d (.int .i64 y2.n), .d (.sl Key.tm y2.args)], some [.d (.int .i64 y3.op), .d (.int .i64 y3.head), .d (.int .i64 y3.n), .full Key.tm y3.args], some [.d (.int .i64 y4.op), .d (.int .i64 y4.head), .d (.int .i64 y4.n), .own Key.tm y4.args]] [] 43))

def Rl78_6_0 (C : Tab) (ρ : Type) (vs : List (PV sig)) (m : Mem sig) (ds : List (FuncId × List (PV sig))) (nt : Nat) (K : Ex sig → St sig → Option ρ) : Option ρ :=
  uN nt 66 <| uC vs fun x0 x1 => uI .i64 x0 fun a1 => uC x1 fun x2 x3 => uI .i64 x2 fun a2 => uC x3 fun x4 x5 => uP 0 0 x4 <| uC x5 fun x6 x7 => uP 1 0 x6 <| uC x7 fun x8 x9 => uP 2 0 x8 <| uC x9 fun x10 x11 => uI .i64 x10 fun a3 => u0 x11 <| uM m fun x13 x12 => uTmL .d x13 fun a4 => uM x12 fun x15 x14 => uTmL .full x15 fun a5 => uM x14 fun x17 x16 => uTmL .own x17 fun a6 => uE x16 <| uDe ds <| C.l78_6_0 ρ a1 a2 a3 a4 a5 a6 (fun (y0 : Tm) (y1 : Tm) (y2 : Tm) => K (.exit 0) (canon [6, 7] [.ptr 1 0, .ptr 2 0] [some [.d (.int .i64 y0.op), .d (.int .i64 y0.head), .d (.int .i64 y0.n), .d (.sl Key.tm y0.args)], some [.d (.int .i64 y1.op), .d (.int .i64 y1.head), .d (.int .i64 y1.n), .full Key.tm y1.args], some [.d (.int .i64 y2.op), .d (.int .i64 y2.head), .d (.int .i64 y2.n), .own Key.tm y2.args]] [] 66))

def Rl79_6_0 (C : Tab) (ρ : Type) (vs : List (PV sig)) (m : Mem sig) (ds : List (FuncId × List (PV sig))) (nt : Nat) (K : Ex sig → St sig → Option ρ) : Option ρ :=
  uN nt 51 <| uC vs fun x0 x1 => uP 1 0 x0 <| uC x1 fun x2 x3 => uP 3 0 x2 <| uC x3 fun x4 x5 => uS (S := sig) .d Key.tm x4 fun (a1 : List Tm) => uC x5 fun x6 x7 => uI .i64 x6 fun a2 => uC x7 fun x8 x9 => uI .i64 x8 fun a3 => u0 x9 <| uM m fun x11 x10 => uTmL .d x11 fun a4 => uM x10 fun x13 x12 => uSmL .full x13 fun a5 => uM x12 fun x15 x14 => uTmL .d x15 fun a6 => uM x14 fun x17 x16 => uSmL .own x17 fun a7 => uE x16 <| uDe ds <| C.l79_6_0 ρ a1 a2 a3 a4 a5 a6 a7 (fun (y0 : Int) (y1 : Tm) (y2 : Sm) => K .ret (canon [2, 3] [.ptr 1 0, .d (.int .i64 y0)] [some [.d (.int .i64 y1.op), .d (.int .i64 y1.head), .d (.int .i64 y1.n), .d (.sl Key.tm y1.args)], some [.full Key.sm y2.args, .d (.int .i64 y2.con)]] [] 51)) (fun (y0 : Tm) (y1 : Sm) (y2 : Tm) (y3 : Sm) => K (.exit 0) (canon [2, 6] [.ptr 1 0, .ptr 3 0] [some [.d (.int .i64 y0.op), .d (.int .i64 y0.head), .d (.int .i64 y0.n), .d (.sl Key.tm y0.args)], some [.full Key.sm y1.args, .d (.int .i64 y1.con)], some [.d (.int .i64 y2.op), .d (.int .i64 y2.head), .d (.int .i64 y2.n), .d (.sl Key.tm y2.args)], some [.own Key.sm y3.args, .d (.int .i64 y3.con)]] [] 51))

def Rl82_2_0 (C : Tab) (ρ : Type) (vs : List (PV sig)) (m : Mem sig) (ds : List (FuncId × List (PV sig))) (nt : Nat) (K : Ex sig → St sig → Option ρ) : Option ρ :=
  uN nt 19 <| uC vs fun x0 x1 => uS (S := sig) .d Key.sm x0 fun (a1 : List Sm) => uC x1 fun x2 x3 => uFn 67 x2 fun x4 x5 => u0 x4 <| u0 x5 <| uC x3 fun x6 x7 => uI .i64 x6 fun a2 => uC x7 fun x8 x9 => uI .i64 x8 fun a3 => u0 x9 <| uE m <| uDe ds <| C.l82_2_0 ρ a1 a2 a3 (K (.exit 0) (canon [] [] [] [] 19)) (fun (y0 : Int) => K .ret (canon [4] [.d (.int .i64 y0)] [] [] 19))

def Rl82_2_1 (C : Tab) (ρ : Type) (vs : List (PV sig)) (m : Mem sig) (ds : List (FuncId × List (PV sig))) (nt : Nat) (K : Ex sig → St sig → Option ρ) : Option ρ :=
  uN nt 19 <| uC vs fun x0 x1 => uS (S := sig) .d Key.sm x0 fun (a1 : List Sm) => uC x1 fun x2 x3 => uFn 88 x2 fun x4 x5 => u0 x4 <| uC x5 fun x6 x7 => uP 0 0 x6 <| u0 x7 <| uC x3 fun x8 x9 => uI .i64 x8 fun a2 => uC x9 fun x10 x11 => uI .i64 x10 fun a3 => u0 x11 <| uM m fun x13 x12 => uC x13 fun x14 x15 => uP 1 0 x14 <| u0 x15 <| uM x12 fun x17 x16 => uC x17 fun x18 x19 => uI .i64 x18 fun a4 => u0 x19 <| uE x16 <| uDe ds <| C.l82_2_1 ρ a1 a2 a3 a4 (fun (y0 : Int) => K (.exit 0) (canon [] [] [some [.ptr 1 0], some [.d (.int .i64 y0)]] [] 19)) (fun (y0 : Int) (y1 : Int) => K .ret (canon [4] [.d (.int .i64 y0)] [some [.ptr 1 0], some [.d (.int .i64 y1)]] [] 19))

def Rl83_2_0 (C : Tab) (ρ : Type) (vs : List (PV sig)) (m : Mem sig) (ds : List (FuncId × List (PV sig))) (nt : Nat) (K : Ex sig → St sig → Option ρ) : Option ρ :=
  uN nt 19 <| uC vs fun x0 x1 => uS (S := sig) .d Key.int x0 fun (a1 : List Int) => uC x1 fun x2 x3 => uFn 69 x2 fun x4 x5 => u0 x4 <| u0 x5 <| uC x3 fun x6 x7 => uI .i64 x6 fun a2 => uC x7 fun x8 x9 => uI .i64 x8 fun a3 => u0 x9 <| uE m <| uDe ds <| C.l83_2_0 ρ a1 a2 a3 (K (.exit 0) (canon [] [] [] [] 19)) (fun (y0 : Int) => K .ret (canon [4] [.d (.int .i64 y0)] [] [] 19))

def Rl84_3_0 (C : Tab) (ρ : Type) (vs : List (PV sig)) (m : Mem sig) (ds : List (FuncId × List (PV sig))) (nt : Nat) (K : Ex sig → St sig → Option ρ) : Option ρ :=
  uN nt 29 <| uC vs fun x0 x1 => uI .i64 x0 fun a1 => uC x1 fun x2 x3 => uFn 85 x2 fun x4 x5 => u0 x4 <| uC x5 fun x6 x7 => uP 0 0 x6 <| uC x7 fun x8 x9 => uP 1 0 x8 <| uC x9 fun x10 x11 => uP 2 0 x10 <| uC x11 fun x12 x13 => uP 3 0 x12 <| u0 x13 <| uC x3 fun x14 x15 => uP 4 0 x14 <| uC x15 fun x16 x17 => uS (S := sig) .d Key.tm x16 fun (a2 : List Tm) => uC x17 fun x18 x19 => uI .i64 x18 fun a3 => uC x19 fun x20 x21 => uI .i64 x20 fun a4 => u0 x21 <| uM m fun x23 x22 => uC x23 fun x24 x25 => uI .i64 x24 fun a5 => u0 x25 <| uM x22 fun x27 x26 => uC x27 fun x28 x29 => uB x28 fun a6 => u0 x29 <| uM x26 fun x31 x30 => uC x31 fun x32 x33 => uI .i64 x32 fun a7 => u0 x33 <| uM x30 fun x35 x34 => uC x35 fun x36 x37 => uB x36 fun a8 => u0 x37 <| uM x34 fun x39 x38 => uTmL .d x39 fun a9 => uE x38 <| uDe ds <| C.l84_3_0 ρ a1 a2 a3 a4 a5 a6 a7 a8 a9 (fun (y0 : Int) (y1 : Bool) (y2 : Int) (y3 : Bool) => K (.exit 0) (canon [] [] [some [.d (.int .i64 y0)], some [.d (.bool y1)], some [.d (.int .i64 y2)], some [.d (.bool y3)]] [] 29))

def Rl87_2_0 (C : Tab) (ρ : Type) (vs : List (PV sig)) (m : Mem sig) (ds : List (FuncId × List (PV sig))) (nt : Nat) (K : Ex sig → St sig → Option ρ) : Option ρ :=
  uN nt 21 <| uC vs fun x0 x1 => uP 0 0 x0 <| uC x1 fun x2 x3 => uP 1 0 x2 <| uC x3 fun x4 x5 => uS (S := sig) .own Key.tm x4 fun (a1 : List Tm) => u0 x5 <| uM m fun x7 x6 => uTmL .d x7 fun a2 => uM x6 fun x9 x8 => uTmL .full x9 fun a3 => uE x8 <| uDe ds <| C.l87_2_0 ρ a1 a2 a3 (fun (y0 : List Tm) (y1 : Tm) (y2 : Tm) => K (.exit 0) (canon [1, 3, 4] [.ptr 0 0, .ptr 1 0, .own Key.tm y0] [some [.d (.int .i64 y1.op), .d (.int .i64 y1.head), .d (.int .i64 y1.n), .d (.sl Key.tm y1.args)], some [.d (.int .i64 y2.op), .d (.int .i64 y2.head), .d (.int .i64 y2.n), .full Key.tm y2.args]] [] 21))

def fnId : PV sig → Nat
  | .fn (.func g) _ _ => g
  | _ => 0

def T3 (C : Tab) (ρ : Type) (args : List (PV sig)) (m : Mem sig) (K : Res sig × Mem sig → Option ρ) : Option ρ := Rc3_0 C ρ args m K

def T4 (C : Tab) (ρ : Type) (args : List (PV sig)) (m : Mem sig) (K : Res sig × Mem sig → Option ρ) : Option ρ := Rc4_0 C ρ args m K

def T5 (C : Tab) (ρ : Type) (args : List (PV sig)) (m : Mem sig) (K : Res sig × Mem sig → Option ρ) : Option ρ := Rc5_0 C ρ args m K

def T6 (C : Tab) (ρ : Type) (args : List (PV sig)) (m : Mem sig) (K : Res sig × Mem sig → Option ρ) : Option ρ := Rc6_0 C ρ args m K

def T7 (C : Tab) (ρ : Type) (args : List (PV sig)) (m : Mem sig) (K : Res sig × Mem sig → Option ρ) : Option ρ := Rc7_0 C ρ args m K

def T8 (C : Tab) (ρ : Type) (args : List (PV sig)) (m : Mem sig) (K : Res sig × Mem sig → Option ρ) : Option ρ := Rc8_0 C ρ args m K

def T9 (C : Tab) (ρ : Type) (args : List (PV sig)) (m : Mem sig) (K : Res sig × Mem sig → Option ρ) : Option ρ := Rc9_0 C ρ args m K

def T10 (C : Tab) (ρ : Type) (args : List (PV sig)) (m : Mem sig) (K : Res sig × Mem sig → Option ρ) : Option ρ := Rc10_0 C ρ args m K

def T11 (C : Tab) (ρ : Type) (args : List (PV sig)) (m : Mem sig) (K : Res sig × Mem sig → Option ρ) : Option ρ := Rc11_0 C ρ args m K

def T12 (C : Tab) (ρ : Type) (args : List (PV sig)) (m : Mem sig) (K : Res sig × Mem sig → Option ρ) : Option ρ := Rc12_0 C ρ args m K

def T13 (C : Tab) (ρ : Type) (args : List (PV sig)) (m : Mem sig) (K : Res sig × Mem sig → Option ρ) : Option ρ := Rc13_0 C ρ args m K

def T14 (C : Tab) (ρ : Type) (args : List (PV sig)) (m : Mem sig) (K : Res sig × Mem sig → Option ρ) : Option ρ := Rc14_0 C ρ args m K

def T15 (C : Tab) (ρ : Type) (args : List (PV sig)) (m : Mem sig) (K : Res sig × Mem sig → Option ρ) : Option ρ := Rc15_0 C ρ args m K

def T16 (C : Tab) (ρ : Type) (args : List (PV sig)) (m : Mem sig) (K : Res sig × Mem sig → Option ρ) : Option ρ := Rc16_0 C ρ args m K

def T17 (C : Tab) (ρ : Type) (args : List (PV sig)) (m : Mem sig) (K : Res sig × Mem sig → Option ρ) : Option ρ := Rc17_0 C ρ args m K

def T18 (C : Tab) (ρ : Type) (args : List (PV sig)) (m : Mem sig) (K : Res sig × Mem sig → Option ρ) : Option ρ := Rc18_0 C ρ args m K

def T19 (C : Tab) (ρ : Type) (args : List (PV sig)) (m : Mem sig) (K : Res sig × Mem sig → Option ρ) : Option ρ := Rc19_0 C ρ args m K

def T20 (C : Tab) (ρ : Type) (args : List (PV sig)) (m : Mem sig) (K : Res sig × Mem sig → Option ρ) : Option ρ := Rc20_0 C ρ args m K

def T21 (C : Tab) (ρ : Type) (args : List (PV sig)) (m : Mem sig) (K : Res sig × Mem sig → Option ρ) : Option ρ := Rc21_0 C ρ args m K

def T22 (C : Tab) (ρ : Type) (args : List (PV sig)) (m : Mem sig) (K : Res sig × Mem sig → Option ρ) : Option ρ := Rc22_0 C ρ args m K

def T23 (C : Tab) (ρ : Type) (args : List (PV sig)) (m : Mem sig) (K : Res sig × Mem sig → Option ρ) : Option ρ := Rc23_0 C ρ args m K

def T24 (C : Tab) (ρ : Type) (args : List (PV sig)) (m : Mem sig) (K : Res sig × Mem sig → Option ρ) : Option ρ := Rc24_0 C ρ args m K

def T25 (C : Tab) (ρ : Type) (args : List (PV sig)) (m : Mem sig) (K : Res sig × Mem sig → Option ρ) : Option ρ := Rc25_0 C ρ args m K

def T26 (C : Tab) (ρ : Type) (args : List (PV sig)) (m : Mem sig) (K : Res sig × Mem sig → Option ρ) : Option ρ := Rc26_0 C ρ args m K

def T27 (C : Tab) (ρ : Type) (args : List (PV sig)) (m : Mem sig) (K : Res sig × Mem sig → Option ρ) : Option ρ := Rc27_0 C ρ args m K

def T28 (C : Tab) (ρ : Type) (args : List (PV sig)) (m : Mem sig) (K : Res sig × Mem sig → Option ρ) : Option ρ := Rc28_0 C ρ args m K

def T29 (C : Tab) (ρ : Type) (args : List (PV sig)) (m : Mem sig) (K : Res sig × Mem sig → Option ρ) : Option ρ := Rc29_0 C ρ args m K

def T30 (C : Tab) (ρ : Type) (args : List (PV sig)) (m : Mem sig) (K : Res sig × Mem sig → Option ρ) : Option ρ := Rc30_0 C ρ args m K

def T31 (C : Tab) (ρ : Type) (args : List (PV sig)) (m : Mem sig) (K : Res sig × Mem sig → Option ρ) : Option ρ := Rc31_0 C ρ args m K

def T32 (C : Tab) (ρ : Type) (args : List (PV sig)) (m : Mem sig) (K : Res sig × Mem sig → Option ρ) : Option ρ := Rc32_0 C ρ args m K

def T33 (C : Tab) (ρ : Type) (args : List (PV sig)) (m : Mem sig) (K : Res sig × Mem sig → Option ρ) : Option ρ := Rc33_0 C ρ args m K

def T34 (C : Tab) (ρ : Type) (args : List (PV sig)) (m : Mem sig) (K : Res sig × Mem sig → Option ρ) : Option ρ := Rc34_0 C ρ args m K

def T35 (C : Tab) (ρ : Type) (args : List (PV sig)) (m : Mem sig) (K : Res sig × Mem sig → Option ρ) : Option ρ := Rc35_0 C ρ args m K

def T36 (C : Tab) (ρ : Type) (args : List (PV sig)) (m : Mem sig) (K : Res sig × Mem sig → Option ρ) : Option ρ := Rc36_0 C ρ args m K

def T37 (C : Tab) (ρ : Type) (args : List (PV sig)) (m : Mem sig) (K : Res sig × Mem sig → Option ρ) : Option ρ := Rc37_0 C ρ args m K

def T38 (C : Tab) (ρ : Type) (args : List (PV sig)) (m : Mem sig) (K : Res sig × Mem sig → Option ρ) : Option ρ := Rc38_0 C ρ args m K

def T39 (C : Tab) (ρ : Type) (args : List (PV sig)) (m : Mem sig) (K : Res sig × Mem sig → Option ρ) : Option ρ := Rc39_0 C ρ args m K

def T41 (C : Tab) (ρ : Type) (args : List (PV sig)) (m : Mem sig) (K : Res sig × Mem sig → Option ρ) : Option ρ := Rc41_0 C ρ args m K

def T42 (C : Tab) (ρ : Type) (args : List (PV sig)) (m : Mem sig) (K : Res sig × Mem sig → Option ρ) : Option ρ := Rc42_0 C ρ args m K

def T43 (C : Tab) (ρ : Type) (args : List (PV sig)) (m : Mem sig) (K : Res sig × Mem sig → Option ρ) : Option ρ := Rc43_0 C ρ args m K

def T44 (C : Tab) (ρ : Type) (args : List (PV sig)) (m : Mem sig) (K : Res sig × Mem sig → Option ρ) : Option ρ := Rc44_0 C ρ args m K

def T45 (C : Tab) (ρ : Type) (args : List (PV sig)) (m : Mem sig) (K : Res sig × Mem sig → Option ρ) : Option ρ := Rc45_0 C ρ args m K

def T46 (C : Tab) (ρ : Type) (args : List (PV sig)) (m : Mem sig) (K : Res sig × Mem sig → Option ρ) : Option ρ := Rc46_0 C ρ args m K

def T47 (C : Tab) (ρ : Type) (args : List (PV sig)) (m : Mem sig) (K : Res sig × Mem sig → Option ρ) : Option ρ := Rc47_0 C ρ args m K

def T48 (C : Tab) (ρ : Type) (args : List (PV sig)) (m : Mem sig) (K : Res sig × Mem sig → Option ρ) : Option ρ := Rc48_0 C ρ args m K

def T49 (C : Tab) (ρ : Type) (args : List (PV sig)) (m : Mem sig) (K : Res sig × Mem sig → Option ρ) : Option ρ := Rc49_0 C ρ args m K

def T50 (C : Tab) (ρ : Type) (args : List (PV sig)) (m : Mem sig) (K : Res sig × Mem sig → Option ρ) : Option ρ := Rc50_0 C ρ args m K

def T51 (C : Tab) (ρ : Type) (args : List (PV sig)) (m : Mem sig) (K : Res sig × Mem sig → Option ρ) : Option ρ := Rc51_0 C ρ args m K

def T52 (C : Tab) (ρ : Type) (args : List (PV sig)) (m : Mem sig) (K : Res sig × Mem sig → Option ρ) : Option ρ := Rc52_0 C ρ args m K

def T53 (C : Tab) (ρ : Type) (args : List (PV sig)) (m : Mem sig) (K : Res sig × Mem sig → Option ρ) : Option ρ := Rc53_0 C ρ args m K

def T54 (C : Tab) (ρ : Type) (args : List (PV sig)) (m : Mem sig) (K : Res sig × Mem sig → Option ρ) : Option ρ := Rc54_0 C ρ args m K

def T55 (C : Tab) (ρ : Type) (args : List (PV sig)) (m : Mem sig) (K : Res sig × Mem sig → Option ρ) : Option ρ := Rc55_0 C ρ args m K

def T56 (C : Tab) (ρ : Type) (args : List (PV sig)) (m : Mem sig) (K : Res sig × Mem sig → Option ρ) : Option ρ := Rc56_0 C ρ args m K

def T57 (C : Tab) (ρ : Type) (args : List (PV sig)) (m : Mem sig) (K : Res sig × Mem sig → Option ρ) : Option ρ := Rc57_0 C ρ args m K

def T58 (C : Tab) (ρ : Type) (args : List (PV sig)) (m : Mem sig) (K : Res sig × Mem sig → Option ρ) : Option ρ := Rc58_0 C ρ args m K

def T59 (C : Tab) (ρ : Type) (args : List (PV sig)) (m : Mem sig) (K : Res sig × Mem sig → Option ρ) : Option ρ := Rc59_0 C ρ args m K

def T60 (C : Tab) (ρ : Type) (args : List (PV sig)) (m : Mem sig) (K : Res sig × Mem sig → Option ρ) : Option ρ := Rc60_0 C ρ args m K

def T61 (C : Tab) (ρ : Type) (args : List (PV sig)) (m : Mem sig) (K : Res sig × Mem sig → Option ρ) : Option ρ := Rc61_0 C ρ args m K

def T62 (C : Tab) (ρ : Type) (args : List (PV sig)) (m : Mem sig) (K : Res sig × Mem sig → Option ρ) : Option ρ := Rc62_0 C ρ args m K

def T63 (C : Tab) (ρ : Type) (args : List (PV sig)) (m : Mem sig) (K : Res sig × Mem sig → Option ρ) : Option ρ := Rc63_0 C ρ args m K

def T64 (C : Tab) (ρ : Type) (args : List (PV sig)) (m : Mem sig) (K : Res sig × Mem sig → Option ρ) : Option ρ := Rc64_0 C ρ args m K

def T65 (C : Tab) (ρ : Type) (args : List (PV sig)) (m : Mem sig) (K : Res sig × Mem sig → Option ρ) : Option ρ := Rc65_0 C ρ args m K

def T66 (C : Tab) (ρ : Type) (args : List (PV sig)) (m : Mem sig) (K : Res sig × Mem sig → Option ρ) : Option ρ := bif Nat.beq (fnId (args.getD 1 .any)) 67 then Rc66_0 C ρ args m K else bif Nat.beq (fnId (args.getD 1 .any)) 88 then Rc66_1 C ρ args m K else none

def T67 (C : Tab) (ρ : Type) (args : List (PV sig)) (m : Mem sig) (K : Res sig × Mem sig → Option ρ) : Option ρ := Rc67_0 C ρ args m K

def T68 (C : Tab) (ρ : Type) (args : List (PV sig)) (m : Mem sig) (K : Res sig × Mem sig → Option ρ) : Option ρ := Rc68_0 C ρ args m K

def T69 (C : Tab) (ρ : Type) (args : List (PV sig)) (m : Mem sig) (K : Res sig × Mem sig → Option ρ) : Option ρ := Rc69_0 C ρ args m K

def T70 (C : Tab) (ρ : Type) (args : List (PV sig)) (m : Mem sig) (K : Res sig × Mem sig → Option ρ) : Option ρ := Rc70_0 C ρ args m K

def T71 (C : Tab) (ρ : Type) (args : List (PV sig)) (m : Mem sig) (K : Res sig × Mem sig → Option ρ) : Option ρ := Rc71_0 C ρ args m K

def T72 (C : Tab) (ρ : Type) (args : List (PV sig)) (m : Mem sig) (K : Res sig × Mem sig → Option ρ) : Option ρ := Rc72_0 C ρ args m K

def T73 (C : Tab) (ρ : Type) (args : List (PV sig)) (m : Mem sig) (K : Res sig × Mem sig → Option ρ) : Option ρ := Rc73_0 C ρ args m K

def T74 (C : Tab) (ρ : Type) (args : List (PV sig)) (m : Mem sig) (K : Res sig × Mem sig → Option ρ) : Option ρ := Rc74_0 C ρ args m K

def T75 (C : Tab) (ρ : Type) (args : List (PV sig)) (m : Mem sig) (K : Res sig × Mem sig → Option ρ) : Option ρ := bif Nat.beq (fnId (args.getD 2 .any)) 76 then Rc75_0 C ρ args m K else bif Nat.beq (fnId (args.getD 2 .any)) 89 then Rc75_1 C ρ args m K else none

def T76 (C : Tab) (ρ : Type) (args : List (PV sig)) (m : Mem sig) (K : Res sig × Mem sig → Option ρ) : Option ρ := Rc76_0 C ρ args m K

def T77 (C : Tab) (ρ : Type) (args : List (PV sig)) (m : Mem sig) (K : Res sig × Mem sig → Option ρ) : Option ρ := Rc77_0 C ρ args m K

def T78 (C : Tab) (ρ : Type) (args : List (PV sig)) (m : Mem sig) (K : Res sig × Mem sig → Option ρ) : Option ρ := Rc78_0 C ρ args m K

def T79 (C : Tab) (ρ : Type) (args : List (PV sig)) (m : Mem sig) (K : Res sig × Mem sig → Option ρ) : Option ρ := Rc79_0 C ρ args m K

def T80 (C : Tab) (ρ : Type) (args : List (PV sig)) (m : Mem sig) (K : Res sig × Mem sig → Option ρ) : Option ρ := Rc80_0 C ρ args m K

def T81 (C : Tab) (ρ : Type) (args : List (PV sig)) (m : Mem sig) (K : Res sig × Mem sig → Option ρ) : Option ρ := Rc81_0 C ρ args m K

def T82 (C : Tab) (ρ : Type) (args : List (PV sig)) (m : Mem sig) (K : Res sig × Mem sig → Option ρ) : Option ρ := bif Nat.beq (fnId (args.getD 1 .any)) 67 then Rc82_0 C ρ args m K else bif Nat.beq (fnId (args.getD 1 .any)) 88 then Rc82_1 C ρ args m K else none

def T83 (C : Tab) (ρ : Type) (args : List (PV sig)) (m : Mem sig) (K : Res sig × Mem sig → Option ρ) : Option ρ := Rc83_0 C ρ args m K

def T84 (C : Tab) (ρ : Type) (args : List (PV sig)) (m : Mem sig) (K : Res sig × Mem sig → Option ρ) : Option ρ := Rc84_0 C ρ args m K

def T85 (C : Tab) (ρ : Type) (args : List (PV sig)) (m : Mem sig) (K : Res sig × Mem sig → Option ρ) : Option ρ := Rc85_0 C ρ args m K

def T86 (C : Tab) (ρ : Type) (args : List (PV sig)) (m : Mem sig) (K : Res sig × Mem sig → Option ρ) : Option ρ := Rc86_0 C ρ args m K

def T87 (C : Tab) (ρ : Type) (args : List (PV sig)) (m : Mem sig) (K : Res sig × Mem sig → Option ρ) : Option ρ := Rc87_0 C ρ args m K

def T88 (C : Tab) (ρ : Type) (args : List (PV sig)) (m : Mem sig) (K : Res sig × Mem sig → Option ρ) : Option ρ := Rc88_0 C ρ args m K

def T89 (C : Tab) (ρ : Type) (args : List (PV sig)) (m : Mem sig) (K : Res sig × Mem sig → Option ρ) : Option ρ := Rc89_0 C ρ args m K

/-- The table of functions. -/
def T (C : Tab) : CallT sig := fun ρ f args m K =>
  bif Nat.beq f 3 then T3 C ρ args m K else
  bif Nat.beq f 4 then T4 C ρ args m K else
  bif Nat.beq f 5 then T5 C ρ args m K else
  bif Nat.beq f 6 then T6 C ρ args m K else
  bif Nat.beq f 7 then T7 C ρ args m K else
  bif Nat.beq f 8 then T8 C ρ args m K else
  bif Nat.beq f 9 then T9 C ρ args m K else
  bif Nat.beq f 10 then T10 C ρ args m K else
  bif Nat.beq f 11 then T11 C ρ args m K else
  bif Nat.beq f 12 then T12 C ρ args m K else
  bif Nat.beq f 13 then T13 C ρ args m K else
  bif Nat.beq f 14 then T14 C ρ args m K else
  bif Nat.beq f 15 then T15 C ρ args m K else
  bif Nat.beq f 16 then T16 C ρ args m K else
  bif Nat.beq f 17 then T17 C ρ args m K else
  bif Nat.beq f 18 then T18 C ρ args m K else
  bif Nat.beq f 19 then T19 C ρ args m K else
  bif Nat.beq f 20 then T20 C ρ args m K else
  bif Nat.beq f 21 then T21 C ρ args m K else
  bif Nat.beq f 22 then T22 C ρ args m K else
  bif Nat.beq f 23 then T23 C ρ args m K else
  bif Nat.beq f 24 then T24 C ρ args m K else
  bif Nat.beq f 25 then T25 C ρ args m K else
  bif Nat.beq f 26 then T26 C ρ args m K else
  bif Nat.beq f 27 then T27 C ρ args m K else
  bif Nat.beq f 28 then T28 C ρ args m K else
  bif Nat.beq f 29 then T29 C ρ args m K else
  bif Nat.beq f 30 then T30 C ρ args m K else
  bif Nat.beq f 31 then T31 C ρ args m K else
  bif Nat.beq f 32 then T32 C ρ args m K else
  bif Nat.beq f 33 then T33 C ρ args m K else
  bif Nat.beq f 34 then T34 C ρ args m K else
  bif Nat.beq f 35 then T35 C ρ args m K else
  bif Nat.beq f 36 then T36 C ρ args m K else
  bif Nat.beq f 37 then T37 C ρ args m K else
  bif Nat.beq f 38 then T38 C ρ args m K else
  bif Nat.beq f 39 then T39 C ρ args m K else
  bif Nat.beq f 41 then T41 C ρ args m K else
  bif Nat.beq f 42 then T42 C ρ args m K else
  bif Nat.beq f 43 then T43 C ρ args m K else
  bif Nat.beq f 44 then T44 C ρ args m K else
  bif Nat.beq f 45 then T45 C ρ args m K else
  bif Nat.beq f 46 then T46 C ρ args m K else
  bif Nat.beq f 47 then T47 C ρ args m K else
  bif Nat.beq f 48 then T48 C ρ args m K else
  bif Nat.beq f 49 then T49 C ρ args m K else
  bif Nat.beq f 50 then T50 C ρ args m K else
  bif Nat.beq f 51 then T51 C ρ args m K else
  bif Nat.beq f 52 then T52 C ρ args m K else
  bif Nat.beq f 53 then T53 C ρ args m K else
  bif Nat.beq f 54 then T54 C ρ args m K else
  bif Nat.beq f 55 then T55 C ρ args m K else
  bif Nat.beq f 56 then T56 C ρ args m K else
  bif Nat.beq f 57 then T57 C ρ args m K else
  bif Nat.beq f 58 then T58 C ρ args m K else
  bif Nat.beq f 59 then T59 C ρ args m K else
  bif Nat.beq f 60 then T60 C ρ args m K else
  bif Nat.beq f 61 then T61 C ρ args m K else
  bif Nat.beq f 62 then T62 C ρ args m K else
  bif Nat.beq f 63 then T63 C ρ args m K else
  bif Nat.beq f 64 then T64 C ρ args m K else
  bif Nat.beq f 65 then T65 C ρ args m K else
  bif Nat.beq f 66 then T66 C ρ args m K else
  bif Nat.beq f 67 then T67 C ρ args m K else
  bif Nat.beq f 68 then T68 C ρ args m K else
  bif Nat.beq f 69 then T69 C ρ args m K else
  bif Nat.beq f 70 then T70 C ρ args m K else
  bif Nat.beq f 71 then T71 C ρ args m K else
  bif Nat.beq f 72 then T72 C ρ args m K else
  bif Nat.beq f 73 then T73 C ρ args m K else
  bif Nat.beq f 74 then T74 C ρ args m K else
  bif Nat.beq f 75 then T75 C ρ args m K else
  bif Nat.beq f 76 then T76 C ρ args m K else
  bif Nat.beq f 77 then T77 C ρ args m K else
  bif Nat.beq f 78 then T78 C ρ args m K else
  bif Nat.beq f 79 then T79 C ρ args m K else
  bif Nat.beq f 80 then T80 C ρ args m K else
  bif Nat.beq f 81 then T81 C ρ args m K else
  bif Nat.beq f 82 then T82 C ρ args m K else
  bif Nat.beq f 83 then T83 C ρ args m K else
  bif Nat.beq f 84 then T84 C ρ args m K else
  bif Nat.beq f 85 then T85 C ρ args m K else
  bif Nat.beq f 86 then T86 C ρ args m K else
  bif Nat.beq f 87 then T87 C ρ args m K else
  bif Nat.beq f 88 then T88 C ρ args m K else
  bif Nat.beq f 89 then T89 C ρ args m K else none

/-- The table of loops. -/
def LT (C : Tab) : LoopT sig := fun ρ f np key st K =>
  bif Nat.beq f 13 && (Nat.beq np 0 && Nat.beq key 4) then Rl13_4_0 C ρ (seenV (PK 13 0 4 0) st) (seenM 0 (PK 13 0 4 0) st) st.dfs st.nt K else
  bif Nat.beq f 22 && (Nat.beq np 0 && Nat.beq key 4) then Rl22_4_0 C ρ (seenV (PK 22 0 4 0) st) (seenM 0 (PK 22 0 4 0) st) st.dfs st.nt K else
  bif Nat.beq f 22 && (Nat.beq np 0 && Nat.beq key 10) then Rl22_10_0 C ρ (seenV (PK 22 0 10 0) st) (seenM 0 (PK 22 0 10 0) st) st.dfs st.nt K else
  bif Nat.beq f 23 && (Nat.beq np 0 && Nat.beq key 2) then Rl23_2_0 C ρ (seenV (PK 23 0 2 0) st) (seenM 0 (PK 23 0 2 0) st) st.dfs st.nt K else
  bif Nat.beq f 23 && (Nat.beq np 0 && Nat.beq key 23) then Rl23_23_0 C ρ (seenV (PK 23 0 23 0) st) (seenM 0 (PK 23 0 23 0) st) st.dfs st.nt K else
  bif Nat.beq f 26 && (Nat.beq np 0 && Nat.beq key 4) then Rl26_4_0 C ρ (seenV (PK 26 0 4 0) st) (seenM 0 (PK 26 0 4 0) st) st.dfs st.nt K else
  bif Nat.beq f 27 && (Nat.beq np 0 && Nat.beq key 4) then Rl27_4_0 C ρ (seenV (PK 27 0 4 0) st) (seenM 0 (PK 27 0 4 0) st) st.dfs st.nt K else
  bif Nat.beq f 29 && (Nat.beq np 0 && Nat.beq key 9) then Rl29_9_0 C ρ (seenV (PK 29 0 9 0) st) (seenM 0 (PK 29 0 9 0) st) st.dfs st.nt K else
  bif Nat.beq f 32 && (Nat.beq np 0 && Nat.beq key 6) then Rl32_6_0 C ρ (seenV (PK 32 0 6 0) st) (seenM 0 (PK 32 0 6 0) st) st.dfs st.nt K else
  bif Nat.beq f 33 && (Nat.beq np 0 && Nat.beq key 4) then Rl33_4_0 C ρ (seenV (PK 33 0 4 0) st) (seenM 0 (PK 33 0 4 0) st) st.dfs st.nt K else
  bif Nat.beq f 33 && (Nat.beq np 0 && Nat.beq key 10) then Rl33_10_0 C ρ (seenV (PK 33 0 10 0) st) (seenM 0 (PK 33 0 10 0) st) st.dfs st.nt K else
  bif Nat.beq f 35 && (Nat.beq np 0 && Nat.beq key 4) then Rl35_4_0 C ρ (seenV (PK 35 0 4 0) st) (seenM 0 (PK 35 0 4 0) st) st.dfs st.nt K else
  bif Nat.beq f 35 && (Nat.beq np 0 && Nat.beq key 10) then Rl35_10_0 C ρ (seenV (PK 35 0 10 0) st) (seenM 0 (PK 35 0 10 0) st) st.dfs st.nt K else
  bif Nat.beq f 36 && (Nat.beq np 0 && Nat.beq key 2) then Rl36_2_0 C ρ (seenV (PK 36 0 2 0) st) (seenM 0 (PK 36 0 2 0) st) st.dfs st.nt K else
  bif Nat.beq f 36 && (Nat.beq np 0 && Nat.beq key 8) then Rl36_8_0 C ρ (seenV (PK 36 0 8 0) st) (seenM 0 (PK 36 0 8 0) st) st.dfs st.nt K else
  bif Nat.beq f 37 && (Nat.beq np 0 && Nat.beq key 6) then Rl37_6_0 C ρ (seenV (PK 37 0 6 0) st) (seenM 0 (PK 37 0 6 0) st) st.dfs st.nt K else
  bif Nat.beq f 38 && (Nat.beq np 0 && Nat.beq key 5) then Rl38_5_0 C ρ (seenV (PK 38 0 5 0) st) (seenM 0 (PK 38 0 5 0) st) st.dfs st.nt K else
  bif Nat.beq f 39 && (Nat.beq np 0 && Nat.beq key 4) then Rl39_4_0 C ρ (seenV (PK 39 0 4 0) st) (seenM 0 (PK 39 0 4 0) st) st.dfs st.nt K else
  bif Nat.beq f 41 && (Nat.beq np 1 && Nat.beq key 6) then Rl41_6_0 C ρ (seenV (PK 41 1 6 0) st) (seenM 1 (PK 41 1 6 0) st) st.dfs st.nt K else
  bif Nat.beq f 43 && (Nat.beq np 1 && Nat.beq key 7) then Rl43_7_0 C ρ (seenV (PK 43 1 7 0) st) (seenM 1 (PK 43 1 7 0) st) st.dfs st.nt K else
  bif Nat.beq f 47 && (Nat.beq np 0 && Nat.beq key 3) then Rl47_3_0 C ρ (seenV (PK 47 0 3 0) st) (seenM 0 (PK 47 0 3 0) st) st.dfs st.nt K else
  bif Nat.beq f 48 && (Nat.beq np 0 && Nat.beq key 18) then Rl48_18_0 C ρ (seenV (PK 48 0 18 0) st) (seenM 0 (PK 48 0 18 0) st) st.dfs st.nt K else
  bif Nat.beq f 49 && (Nat.beq np 0 && Nat.beq key 5) then Rl49_5_0 C ρ (seenV (PK 49 0 5 0) st) (seenM 0 (PK 49 0 5 0) st) st.dfs st.nt K else
  bif Nat.beq f 50 && (Nat.beq np 0 && Nat.beq key 4) then Rl50_4_0 C ρ (seenV (PK 50 0 4 0) st) (seenM 0 (PK 50 0 4 0) st) st.dfs st.nt K else
  bif Nat.beq f 51 && (Nat.beq np 0 && Nat.beq key 6) then Rl51_6_0 C ρ (seenV (PK 51 0 6 0) st) (seenM 0 (PK 51 0 6 0) st) st.dfs st.nt K else
  bif Nat.beq f 52 && (Nat.beq np 0 && Nat.beq key 6) then Rl52_6_0 C ρ (seenV (PK 52 0 6 0) st) (seenM 0 (PK 52 0 6 0) st) st.dfs st.nt K else
  bif Nat.beq f 52 && (Nat.beq np 0 && Nat.beq key 11) then Rl52_11_0 C ρ (seenV (PK 52 0 11 0) st) (seenM 0 (PK 52 0 11 0) st) st.dfs st.nt K else
  bif Nat.beq f 55 && (Nat.beq np 1 && Nat.beq key 3) then Rl55_3_0 C ρ (seenV (PK 55 1 3 0) st) (seenM 1 (PK 55 1 3 0) st) st.dfs st.nt K else
  bif Nat.beq f 56 && (Nat.beq np 0 && Nat.beq key 2) then Rl56_2_0 C ρ (seenV (PK 56 0 2 0) st) (seenM 0 (PK 56 0 2 0) st) st.dfs st.nt K else
  bif Nat.beq f 61 && (Nat.beq np 0 && Nat.beq key 6) then Rl61_6_0 C ρ (seenV (PK 61 0 6 0) st) (seenM 0 (PK 61 0 6 0) st) st.dfs st.nt K else
  bif Nat.beq f 61 && (Nat.beq np 0 && Nat.beq key 11) then Rl61_11_0 C ρ (seenV (PK 61 0 11 0) st) (seenM 0 (PK 61 0 11 0) st) st.dfs st.nt K else
  bif Nat.beq f 74 && (Nat.beq np 1 && Nat.beq key 17) then Rl74_17_0 C ρ (seenV (PK 74 1 17 0) st) (seenM 1 (PK 74 1 17 0) st) st.dfs st.nt K else
  bif Nat.beq f 75 && (Nat.beq np 0 && Nat.beq key 3) then Rl75_3_0 C ρ (seenV (PK 75 0 3 0) st) (seenM 0 (PK 75 0 3 0) st) st.dfs st.nt K else
  bif Nat.beq f 75 && (Nat.beq np 2 && Nat.beq key 3) then Rl75_3_1 C ρ (seenV (PK 75 2 3 0) st) (seenM 2 (PK 75 2 3 0) st) st.dfs st.nt K else
  bif Nat.beq f 78 && (Nat.beq np 0 && Nat.beq key 6) then Rl78_6_0 C ρ (seenV (PK 78 0 6 0) st) (seenM 0 (PK 78 0 6 0) st) st.dfs st.nt K else
  bif Nat.beq f 79 && (Nat.beq np 0 && Nat.beq key 6) then Rl79_6_0 C ρ (seenV (PK 79 0 6 0) st) (seenM 0 (PK 79 0 6 0) st) st.dfs st.nt K else
  bif Nat.beq f 82 && (Nat.beq np 0 && Nat.beq key 2) then Rl82_2_0 C ρ (seenV (PK 82 0 2 0) st) (seenM 0 (PK 82 0 2 0) st) st.dfs st.nt K else
  bif Nat.beq f 82 && (Nat.beq np 2 && Nat.beq key 2) then Rl82_2_1 C ρ (seenV (PK 82 2 2 0) st) (seenM 2 (PK 82 2 2 0) st) st.dfs st.nt K else
  bif Nat.beq f 83 && (Nat.beq np 0 && Nat.beq key 2) then Rl83_2_0 C ρ (seenV (PK 83 0 2 0) st) (seenM 0 (PK 83 0 2 0) st) st.dfs st.nt K else
  bif Nat.beq f 84 && (Nat.beq np 4 && Nat.beq key 3) then Rl84_3_0 C ρ (seenV (PK 84 4 3 0) st) (seenM 4 (PK 84 4 3 0) st) st.dfs st.nt K else
  bif Nat.beq f 87 && (Nat.beq np 0 && Nat.beq key 2) then Rl87_2_0 C ρ (seenV (PK 87 0 2 0) st) (seenM 0 (PK 87 0 2 0) st) st.dfs st.nt K else none

end Go.Proofs.Ytcgbfghdcjmaeaa.Ev
