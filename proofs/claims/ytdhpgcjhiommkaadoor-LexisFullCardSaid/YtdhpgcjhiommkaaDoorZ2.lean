/- This file proves what the evaluator does with the rest of LexisFull behind its two loops; without any condition. -/
import Derived.Test.YtdhpgcjhiommkaaDoorZ1
import Derived.Test.YtdhpgcjhiommkaaDoorV7
set_option linter.unusedVariables false
set_option linter.unusedSimpArgs false
namespace Go.Proofs.YtdhpgcjhiommkaaDoor.Ev

def hints7 : Hints where
  take := fun f r i => false
  keep := fun f r => none
  full := fun f r i => false
  ret := fun f => false

noncomputable def rest7 : Code := seqB (seqB (seqB (seqB (seqB (seqB c7)))))

def st7 (m : Int) (l1 l2 : List Int) : St sig := canon [0, 3, 5] [.d (.int .i64 m), .d (.sl Key.u8 l1), .d (.sl Key.u8 l2)] [] [] 115

def k7 {ρ : Type} (k0 : Bool → Option ρ) (e : Ex sig) (s : St sig) : Option ρ :=
  match e, s.slots 2, s.dfs, s.mem with
  | .ret, .d (.bool b), [], [] => k0 b
  | _, _, _, _ => none

def GF (C : Tab) (ρ : Type) (a1 : Int) (a2 a3 : List Int) (k0 : Bool → Option ρ) : Option ρ :=
  bytesK a2 (fun s1 => C.c11_0 ρ s1 (fun (r2 : List Tok) (r3 : Int) (r4 : Int) => bytesK a3 (fun s5 => cond (decide ((ByteArray.mk #[32]).size + s5.size ≤ 9223372036854775807)) (C.c11_0 ρ ((ByteArray.mk #[32]) ++ s5) (fun (r6 : List Tok) (r7 : Int) (r8 : Int) => cond (decide (a1 < (2 : Int))) (cond (r4 == (0 : Int)) (cond (((List.length r2 : Nat) : Int) == (1 : Int)) (cond (r8 == (0 : Int)) (cond (((List.length r6 : Nat) : Int) == (2 : Int)) (bytesK a3 (fun s9 => C.c15_0 ρ s9 (fun (r10 : Bool) => cond r10 (C.c14_0 ρ (fun (r11 : Bool) => k0 r11)) (k0 false)))) (k0 false)) (k0 false)) (k0 false)) (k0 false)) (cond (r4 == (5 : Int)) (cond (r3 == (0 : Int)) (cond (((List.length r2 : Nat) : Int) == (0 : Int)) (cond (r8 == (4 : Int)) (cond (r7 == (1 : Int)) (cond (((List.length r6 : Nat) : Int) == (0 : Int)) (bytesK a3 (fun s12 => C.c15_0 ρ s12 (fun (r13 : Bool) => cond (!r13) (C.c14_0 ρ (fun (r14 : Bool) => k0 r14)) (k0 false)))) (k0 false)) (k0 false)) (k0 false)) (k0 false)) (k0 false)) (k0 false)))) (none))))

theorem gF (C : Tab) (ρ : Type) (a1 : Int) (a2 a3 : List Int) (k0 : Bool → Option ρ) : evK Tryd.prog lay (T C) (LT C) hints7 7 0 rest7 (st7 a1 a2 a3) (k7 k0) =
    GF C ρ a1 a2 a3 k0 := by kernel_rfl

end Go.Proofs.YtdhpgcjhiommkaaDoor.Ev
