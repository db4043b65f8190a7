/- This file proves what Items does: what it does before its range over the reader's items, the range, and what follows it; without any condition. -/
import Derived.Test.YtanfoijdfcnpoaaGreatDoorI2
set_option linter.unusedVariables false
set_option linter.unusedSimpArgs false
set_option maxRecDepth 8000
set_option maxHeartbeats 400000
namespace Go.Proofs.YtanfoijdfcnpoaaGreatDoor.Ev
open Go.RowKit

/-! ### Frames -/

theorem FrN.le {n m : Nat} (hnm : n ≤ m) {g g' : Gh} {w w' : World} (h : FrN m g w g' w') : FrN n g w g' w' :=
  ⟨h.os, h.tape, h.output, h.size, h.keep, h.gmono, fun c b hc hb => h.βmono c b (by omega) hb, h.βnew⟩

theorem FrN.allocO {np : Nat} (g : Gh) (w : World) (o : Obj) : FrN np g w g (w.alloc o) :=
  ⟨rfl, rfl, rfl, by rw [World.size_alloc]; omega, fun b hb _ hω => ⟨alloc_heap w o b hb, fun _ => rfl, hω⟩, fun _ _ _ h => h, fun _ _ _ h => h, fun _ _ h => .inl h⟩

theorem FrN.putNew {np : Nat} {g g' : Gh} {w w' : World} (h : FrN np g w g' w') {b : Nat} (hb : w.heap.size ≤ b) (o : Obj) : FrN np g w g' (w'.putObj b o) :=
  ⟨h.os, h.tape, h.output, by have := h.size; simpa [World.putObj] using this, fun b' hb' h1 h2 => ⟨(World.putObj_heap_other (by omega)).trans (h.keep b' hb' h1 h2).1, (h.keep b' hb' h1 h2).2⟩, h.gmono, h.βmono, h.βnew⟩

theorem fix_far {g : Gh} {m : Mem sig} {w : World} (hM : MemInv lay g m w) {b : Nat} (hb : w.heap.size ≤ b) : lay.fixB b = false := by
  cases h : lay.fixB b with
  | false => rfl
  | true =>
    obtain ⟨_, _, o, ho, _⟩ := hM.wok b h
    have := (Array.getElem?_eq_some_iff.1 ho).1
    omega

/-! ### How a function leaves -/

theorem leave_nil {P : Program} {rf : Bool} {D : DeferT sig} {fn : Func} {m : Mem sig} {g g' : Gh} {w w' : World} {st' : St sig} {a' : Act} {r : Res sig × Mem sig} (hm : MemInv lay g m w) (hF : FrN m.length g w g' w') (hI : Inv lay g' st' a' w')
    (hd : st'.dfs = []) (hk : finishE P rf D fn m.length .ret st' = some r) : Leaves P fn a'.tmps (ResOk lay g w r) a'.defers .returning w' := by
  unfold finishE at hk
  simp only [hd] at hk
  obtain ⟨p, hp, rfl⟩ := Option.map_eq_some_iff.1 hk
  have h2 := hI.dfs
  rw [hd] at h2
  cases hdd : a'.defers with
  | cons _ _ => rw [hdd] at h2; cases h2
  | nil =>
    obtain ⟨v, h3, h4⟩ := ret_ok (st := st') hm hF hI.slot hI.mem hp
    exact ⟨v, h3, h4⟩

theorem leave_ds {P : Program} {rf : Bool} {D : DeferT sig} (hD : DOk P lay D) {fn : Func} {m : Mem sig} {g g' : Gh} {w w' : World} {st' : St sig} {tm : Array Value} {ds : List Deferred} {r : Res sig × Mem sig} (hm : MemInv lay g m w) (hF : FrN m.length g w g' w')
    (hM : MemInv lay g' st'.mem w') (hs : ∀ i, PRel lay g'.β g'.G (st'.slots i) (tm.getD i undef)) (hds : DfRels lay g'.β g'.G st'.dfs ds) (hne : st'.dfs ≠ []) {e : Ex sig} {md : FrameMode}
    (hmode : ((e = .ret ∨ e = .normal) ∧ md = .returning) ∨ ∃ p v, e = .pan p ∧ md = .panicking [{ v, recovered := false }] ∧ PRel lay g'.β g'.G p v) (hk : finishE P rf D fn m.length e st' = some r) : Leaves P fn tm (ResOk lay g w r) ds md w' := by
  unfold finishE at hk
  rcases hmode with ⟨he, rfl⟩ | ⟨p, v, rfl, rfl, hp⟩
  · rcases he with rfl | rfl
    all_goals
      simp only at hk
      split at hk
      · rename_i m1 hde
        obtain ⟨p, hp, rfl⟩ := Option.map_eq_some_iff.1 hk
        refine leaves_ok hD hds hM (u := none) rfl hde fun g2 w2 md hF2 hM2 hU2 => ?_
        rw [ModeRel] at hU2
        subst hU2
        obtain ⟨v, h2, h3⟩ := ret_ok' (st := st') hm (hF.trans hF2.toN) (fun i => (hs i).mono hF2.gmono hF2.βmono) hM2 hp
        exact ⟨v, h2, h3⟩
      · cases hk
  · simp only at hk
    split at hk
    · rename_i m1 hde
      obtain ⟨q, hq, rfl⟩ := Option.map_eq_some_iff.1 hk
      refine leaves_ok hD hds hM (u := some p) ⟨v, rfl, hp⟩ hde fun g2 w2 md hF2 hM2 hU2 => ?_
      rw [ModeRel] at hU2
      subst hU2
      obtain ⟨v, h2, h3⟩ := ret_ok' (st := st') hm (hF.trans hF2.toN) (fun i => (hs i).mono hF2.gmono hF2.βmono) hM2 hq
      exact ⟨v, h2, h3⟩
    · rename_i q m1 hde
      cases hk
      refine leaves_ok hD hds hM (u := some p) ⟨v, rfl, hp⟩ hde fun g2 w2 md hF2 hM2 hU2 => ?_
      obtain ⟨u, hmd, hu⟩ := hU2
      subst hmd
      exact pan_ok hm (hF.trans hF2.toN) hM2 hu
    · cases hk

/-- With a mark first among the deferred calls. -/
def finM (P : Program) (rf : Bool) (D : DeferT sig) (fn : Func) (np : Nat) (e : Ex sig) (st : St sig) : Option (Res sig × Mem sig) := finishE P rf D fn np e { st with dfs := st.dfs.tail }

theorem mark_first {β : Nat → Option Nat} {G : Nat → Nat → Option Value} {D : Nat} {xs : List (FuncId × List (PV sig))} {ds : List Deferred} (h : DfRels lay β G ((markId, [.fn (.yield D) [] []]) :: xs) ds) :
    ∃ d ds', ds = d :: ds' ∧ d.target = .collected D ∧ DfRels lay β G xs ds' := by
  cases h with
  | cons h0 _ _ => exact absurd (show Nat.beq markId markId = false from h0) (by decide)
  | mark h => exact ⟨_, _, rfl, rfl, h⟩

theorem leave_mark {P : Program} {rf : Bool} {D : DeferT sig} (hD : DOk P lay D) {fn : Func} {m : Mem sig} {g g' : Gh} {w w' : World} {st' : St sig} {tm : Array Value} {ds : List Deferred} {r : Res sig × Mem sig} (hm : MemInv lay g m w) (hF : FrN m.length g w g' w')
    (hM : MemInv lay g' st'.mem w') (hs : ∀ i, PRel lay g'.β g'.G (st'.slots i) (tm.getD i undef)) {b : Nat} {xs : List (FuncId × List (PV sig))} (hdfs : st'.dfs = (markId, [.fn (.yield b) [] []]) :: xs) (hne : xs ≠ []) (hds : DfRels lay g'.β g'.G st'.dfs ds)
    (hb : w'.heap[b]? = some (.deferred (some []))) (hbn : w.heap.size ≤ b) (hfix : lay.fixB b = false) {e : Ex sig} {md : FrameMode}
    (hmode : ((e = .ret ∨ e = .normal) ∧ md = .returning) ∨ ∃ p v, e = .pan p ∧ md = .panicking [{ v, recovered := false }] ∧ PRel lay g'.β g'.G p v) (hk : finM P rf D fn m.length e st' = some r) : LeavesK P fn tm (ResOk lay g w r) ds md w' := by
  rw [hdfs] at hds
  obtain ⟨d, ds', rfl, ht, hds'⟩ := mark_first hds
  refine .inr ⟨b, d, ds', w'.putObj b (.deferred none), rfl, ht, ?_, run_takeDeferred hb, ?_⟩
  · rcases hmode with ⟨_, rfl⟩ | ⟨_, _, _, rfl, _⟩ <;> simp
  · exact leave_ds (st' := { st' with dfs := st'.dfs.tail }) hD hm (hF.putNew hbn _) (hM.putO hb (fun _ _ _ e => by cases e) hfix _) hs (by rw [hdfs]; exact hds') (by rw [hdfs]; exact hne) hmode hk

/-! ### The codes by their places, and what they do -/

noncomputable def q0 : Code := sqA c21
noncomputable def Y1 : Code := sqB c21
noncomputable def q1 : Code := sqA Y1
noncomputable def Y2 : Code := sqB Y1
noncomputable def q2 : Code := sqA (sqA Y2)
noncomputable def q3 : Code := cnA (sqB (sqA Y2))
noncomputable def Y3 : Code := sqB Y2
noncomputable def q4 : Code := sqA Y3
noncomputable def Y4 : Code := sqB Y3
noncomputable def q5 : Code := sqA Y4
noncomputable def Y5 : Code := sqB Y4
noncomputable def q6 : Code := sqA Y5
noncomputable def q7 : Code := sqA (sqA X6)
noncomputable def X7 : Code := sqB X6
theorem sh21 : c21 = .seq q0 (.seq q1 (.seq (.seq q2 (.cond (.tmp 17) q3 .skip)) Y3)) := by kernel_rfl
theorem shY3 : Y3 = .seq q4 (.seq q5 (.seq q6 (.seq (.seq q7 B0) X7))) := by kernel_rfl
noncomputable def fn21 : Func := fnOf Tryz.prog 21

def encTok (q : List Tok × Int × Int) : Res sig × Mem sig := (.ret (.tup [.d (.sl Key.tok q.1), .d (.int .i64 q.2.1), .d (.int .i64 q.2.2)]), [])
def encAll (q : List Tok × Int) : Res sig × Mem sig := (.ret (.fn (.func 87) [] [.ptr 1 0]), [some [.d (.sl Key.tok q.1), .d (.int .i64 q.2)], some [.ptr 0 0]])
abbrev ret21 (l : List It) (a e : Int) : Res sig × Mem sig := (.ret (.tup [.d (.sl Key.item l), .d (.int .i64 a), .d (.int .i64 e)]), [])

noncomputable def st0 (s : ByteArray) : St sig := startE fn21 [.d (.str s)] []
section
variable (s : ByteArray) (r2 : List Tok) (r3 r4 : Int) (r5 : List Tok) (r6 : Int)
noncomputable def stA1 : St sig := stateOf (evL Tryz.prog lay (fakeC (encTok (r2, r3, r4))) loop0 hints 21 0 [q0, q1] (st0 s) fun e s => some (e, s))
theorem evA1 (C : Tab) {ρ : Type} (K : Ex sig → St sig → Option ρ) : evL Tryz.prog lay (T C) (LT C) hints 21 0 [q0, q1] (st0 s) K = C.c28_0 ρ s fun r2 r3 r4 => K .normal (stA1 s r2 r3 r4) := by kernel_rfl
noncomputable def stA2 : St sig := stateOf (evK Tryz.prog lay call0 loop0 hints 21 0 q2 (stA1 s r2 r3 r4) fun e s => some (e, s))
theorem evA2 : evK Tryz.prog lay call0 loop0 hints 21 0 q2 (stA1 s r2 r3 r4) (fun e s => some (e, s)) = some (.normal, stA2 s r2 r3 r4) := by kernel_rfl
theorem stA2_17 : (stA2 s r2 r3 r4).slots 17 = .d (.bool (r4 != 0)) := by kernel_rfl
noncomputable def stE : St sig := stateOf (evK Tryz.prog lay call0 loop0 hints 21 0 q3 (stA2 s r2 r3 r4) fun e s => some (e, s))
theorem evE : evK Tryz.prog lay call0 loop0 hints 21 0 q3 (stA2 s r2 r3 r4) (fun e s => some (e, s)) = some (.ret, stE s r2 r3 r4) := by kernel_rfl
theorem stE_d : (stE s r2 r3 r4).dfs = [] := by kernel_rfl
theorem finE : finishE Tryz.prog (hints.ret 21) dfT fn21 0 .ret (stE s r2 r3 r4) = some (ret21 [] r3 r4) := by kernel_rfl
noncomputable def stB : St sig := stateOf (evL Tryz.prog lay call0 loop0 hints 21 0 [q4, q5, q6] (stA2 s r2 r3 r4) fun e s => some (e, s))
theorem evB : evL Tryz.prog lay call0 loop0 hints 21 0 [q4, q5, q6] (stA2 s r2 r3 r4) (fun e s => some (e, s)) = some (.normal, stB s r2 r3 r4) := by kernel_rfl
noncomputable def stC : St sig := stateOf (evK Tryz.prog lay (fakeC (encAll (r5, r6))) loop0 hints 21 0 q7 (stB s r2 r3 r4) fun e s => some (e, s))
theorem evC (C : Tab) {ρ : Type} (K : Ex sig → St sig → Option ρ) : evK Tryz.prog lay (T C) (LT C) hints 21 0 q7 (stB s r2 r3 r4) K = C.c51_0 ρ r2 0 fun r5 r6 => K .normal (stC s r2 r3 r4 r5 r6) := by kernel_rfl
theorem stC_n : (stC s r2 r3 r4 r5 r6).nt = 45 := by kernel_rfl
theorem stC_m : (stC s r2 r3 r4 r5 r6).mem = m5 (.full Key.item []) r3 r4 r5 r6 := by kernel_rfl
theorem stC_d : (stC s r2 r3 r4 r5 r6).dfs = [(29, [.ptr 1 0, .ptr 2 0]), (50, [.ptr 2 0, .ptr 0 0])] := by kernel_rfl
theorem stC_2 : (stC s r2 r3 r4 r5 r6).slots 2 = .ptr 0 0 := by kernel_rfl
theorem stC_3 : (stC s r2 r3 r4 r5 r6).slots 3 = .ptr 1 0 := by kernel_rfl
theorem stC_4 : (stC s r2 r3 r4 r5 r6).slots 4 = .ptr 2 0 := by kernel_rfl
theorem stC_25 : (stC s r2 r3 r4 r5 r6).slots 25 = .fn (.func 87) [] [.ptr 4 0] := by kernel_rfl
end

def stD (D : Nat) (r : List It) (a b : Int) (l : List Tok) (n : Int) : St sig := { slots := slotsOf [(2, .ptr 0 0), (3, .ptr 1 0), (4, .ptr 2 0)], mem := m5 (.d (.sl Key.item r)) a b l n, dfs := [(markId, [.fn (.yield D) [] []]), (29, [.ptr 1 0, .ptr 2 0]), (50, [.ptr 2 0, .ptr 0 0])], nt := 45, rb := 0 }
noncomputable def fin21 (e : Ex sig) (st : St sig) : Option (Res sig × Mem sig) := finM Tryz.prog (hints.ret 21) dfT fn21 0 e st
abbrev dfs21 (D : Nat) : List (FuncId × List (PV sig)) := [(markId, [.fn (.yield D) [] []]), (29, [.ptr 1 0, .ptr 2 0]), (50, [.ptr 2 0, .ptr 0 0])]
noncomputable def end21 {ρ : Type} (F : (Res sig × Mem sig) × List (FuncId × List (PV sig)) → Option ρ) (e : Ex sig) (st : St sig) : Option ρ := match fin21 e st with | some q => F (q, st.dfs) | none => none
theorem evX7 (C : Tab) {ρ : Type} (F : (Res sig × Mem sig) × List (FuncId × List (PV sig)) → Option ρ) (D : Nat) (r : List It) (a b : Int) (l : List Tok) (n : Int) :
    evK Tryz.prog lay (T C) (LT C) hints 21 0 X7 (stD D r a b l n) (end21 F) =
      C.l21_11_0 ρ r ((List.length r : Nat) : Int) (0 : Int) r a b D (fun r10 r11 r12 => cond (decide (((List.length r10 : Nat) : Int) > (120 : Int))) (F (ret21 (cond ((5 : Int) == (0 : Int)) [] []) 0 5, dfs21 D)) (F (ret21 (cond ((0 : Int) == (0 : Int)) r10 []) 0 0, dfs21 D)))
        (fun r13 r14 r15 => F (ret21 (cond (r15 == (0 : Int)) r13 []) r14 r15, dfs21 D)) := by kernel_rfl
theorem finP (D : Nat) (r : List It) (a b : Int) (l : List Tok) (n : Int) (p e : Int) : fin21 (.pan (failP p e)) (stD D r a b l n) = some (ret21 (cond (e == (0 : Int)) r []) p e) := by kernel_rfl

/-- What the typed function says. -/
def out21 (C : Tab) (ρ : Type) (s : ByteArray) (K : Res sig × Mem sig → Option ρ) : Option ρ :=
  C.c28_0 ρ s fun r2 r3 r4 => cond (r4 != (0 : Int)) (K (ret21 [] r3 r4)) (C.c51_0 ρ r2 (0 : Int) fun r5 r6 => rngI C ρ (List.length r5 + 2) r5 r6 []
    (fun r7 => C.l21_11_0 ρ r7 ((List.length r7 : Nat) : Int) (0 : Int) r7 r3 r4 0 (fun r10 r11 r12 => cond (decide (((List.length r10 : Nat) : Int) > (120 : Int))) (K (ret21 (cond ((5 : Int) == (0 : Int)) [] []) 0 5)) (K (ret21 (cond ((0 : Int) == (0 : Int)) r10 []) 0 0)))
      (fun r13 r14 r15 => K (ret21 (cond (r15 == (0 : Int)) r13 []) r14 r15)))
    (fun r7 r8 r9 => K (ret21 (cond (r9 == (0 : Int)) r7 []) r8 r9)))
theorem T21_eq (k : Nat) (ρ : Type) (s : ByteArray) (K : Res sig × Mem sig → Option ρ) : T21 (Tabs (k + 1)) ρ [.d (.str s)] [] K = out21 (Tabs k) ρ s K := by kernel_rfl

attribute [local irreducible] stA1 stA2 stE stB stC

/-! ### Typed answers: one, or none -/

theorem cps_dich {A B : Type} {c : ∀ ρ : Type, (A → Option ρ) → Option ρ} {enc : A → B} {D : Option B} (hinj : ∀ a b, enc a = enc b → a = b)
    (h : ∀ (ρ : Type) (K : B → Option ρ), c ρ (fun a => K (enc a)) = D.bind K) : (∀ ρ K, c ρ K = none) ∨ ∃ a, ∀ ρ K, c ρ K = K a := by
  cases hc : c A some with
  | some a =>
    obtain ⟨a', h1, h2⟩ := cps_inv hinj h hc
    exact .inr ⟨a', h1⟩
  | none =>
    refine .inl fun ρ K => ?_
    cases hK : c ρ K with
    | none => rfl
    | some x =>
      obtain ⟨a', h1, h2⟩ := cps_inv hinj h hK
      rw [h1] at hc; cases hc

section
variable {k : Nat} (hS : Snd Tryz.prog lay (T (Tabs k)) (LT (Tabs k)))
include hS

theorem tok_dich (s : ByteArray) : (∀ (ρ : Type) (K : List Tok → Int → Int → Option ρ), (Tabs k).c28_0 ρ s K = none) ∨ ∃ t a e, ∀ (ρ : Type) (K : List Tok → Int → Int → Option ρ), (Tabs k).c28_0 ρ s K = K t a e := by
  rcases cps_dich (c := fun ρ K => (Tabs k).c28_0 ρ s fun t a e => K (t, a, e)) (enc := encTok) (fun a b h => by obtain ⟨x, y, z⟩ := a; obtain ⟨x', y', z'⟩ := b; cases h; rfl)
    (fun ρ K => (show _ = T (Tabs k) ρ 28 [.d (.str s)] [] K by kernel_rfl).trans (hS.nat.nat ρ 28 [.d (.str s)] [] K)) with h | ⟨⟨t, a, e⟩, h⟩
  · exact .inl fun ρ K => h ρ fun q => K q.1 q.2.1 q.2.2
  · exact .inr ⟨t, a, e, fun ρ K => h ρ fun q => K q.1 q.2.1 q.2.2⟩

theorem all_dich (l : List Tok) (n : Int) : (∀ (ρ : Type) (K : List Tok → Int → Option ρ), (Tabs k).c51_0 ρ l n K = none) ∨ ∃ l' n', ∀ (ρ : Type) (K : List Tok → Int → Option ρ), (Tabs k).c51_0 ρ l n K = K l' n' := by
  rcases cps_dich (c := fun ρ K => (Tabs k).c51_0 ρ l n fun t a => K (t, a)) (enc := encAll) (fun a b h => by obtain ⟨x, y⟩ := a; obtain ⟨x', y'⟩ := b; cases h; rfl)
    (fun ρ K => (show _ = T (Tabs k) ρ 51 [.ptr 0 0] [some [.d (.sl Key.tok l), .d (.int .i64 n)]] K by kernel_rfl).trans (hS.nat.nat ρ 51 [.ptr 0 0] [some [.d (.sl Key.tok l), .d (.int .i64 n)]] K)) with h | ⟨⟨t, a⟩, h⟩
  · exact .inl fun ρ K => h ρ fun q => K q.1 q.2
  · exact .inr ⟨t, a, fun ρ K => h ρ fun q => K q.1 q.2⟩

def rngK {ρ : Type} (out : List It ⊕ (List It × Int × Int)) (kd : List It → Option ρ) (kp : List It → Int → Int → Option ρ) : Option ρ :=
  match out with
  | .inl r => kd r
  | .inr q => kp q.1 q.2.1 q.2.2

theorem rng_dich : ∀ (f : Nat) (l : List Tok) (n : Int) (r : List It), (∀ ρ kd kp, rngI (Tabs k) ρ f l n r kd kp = none) ∨ ∃ out, ∀ ρ kd kp, rngI (Tabs k) ρ f l n r kd kp = rngK out kd kp
  | 0, l, n, r => .inl fun ρ kd kp => rfl
  | f + 1, l, n, r => by
    cases h : (Tabs k).c31_0 _ l n fun t l1 n1 => some (t, l1, n1) with
    | none =>
      refine .inl fun ρ kd kp => ?_
      rw [rngI]
      cases hK : (Tabs k).c31_0 ρ l n _ with
      | none => rfl
      | some x =>
        obtain ⟨t, l1, n1, h1, h2⟩ := now_inv hS hK
        rw [h1] at h; cases h
    | some q =>
      obtain ⟨t, l1, n1, h1, _⟩ := now_inv hS h
      simp only [rngI, h1]
      cases hk : t.kind == 7 with
      | true => exact .inr ⟨.inl r, fun ρ kd kp => rfl⟩
      | false =>
        simp only [cond_false]
        cases h3 : (Tabs k).c88_0 _ l1 n1 (fun x l2 n2 => some (Sum.inl (x, l2, n2))) (fun a e l2 n2 => some (Sum.inr (a, e, l2, n2))) with
        | none =>
          refine .inl fun ρ kd kp => ?_
          cases hK : (Tabs k).c88_0 ρ l1 n1 _ _ with
          | none => rfl
          | some y =>
            rcases item_inv hS hK with ⟨x, l2, n2, h4, _⟩ | ⟨a, e, l2, n2, h4, _⟩ <;> rw [h4] at h3 <;> cases h3
        | some y =>
          rcases item_inv hS h3 with ⟨x, l2, n2, h4, _⟩ | ⟨a, e, l2, n2, h4, _⟩
          · simp only [h4]
            cases decide ((r.length + 1) * 104 ≤ 140737488355328) with
            | false => exact .inl fun ρ kd kp => rfl
            | true => simp only [cond_true]; exact rng_dich f l2 n2 (r ++ [x])
          · exact .inr ⟨.inr (r, a, e), fun ρ kd kp => by rw [h4]; rfl⟩

def encLoop (D : Nat) : (List It × Int × Int) ⊕ (List It × Int × Int) → Ex sig × St sig
  | .inl q => (.exit 2, canon [2, 3, 4] [.ptr 0 0, .ptr 1 0, .ptr 2 0] [some [.d (.sl Key.item q.1)], some [.d (.int .i64 q.2.1)], some [.d (.int .i64 q.2.2)]] [(1000000, [.fn (.yield D) [] []]), (29, [.ptr 1 0, .ptr 2 0]), (50, [.ptr 2 0, .ptr 0 0])] 45)
  | .inr q => (.ret, canon [2, 3, 4] [.ptr 0 0, .ptr 1 0, .ptr 2 0] [some [.full Key.item q.1], some [.d (.int .i64 q.2.1)], some [.d (.int .i64 q.2.2)]] [(1000000, [.fn (.yield D) [] []]), (29, [.ptr 1 0, .ptr 2 0]), (50, [.ptr 2 0, .ptr 0 0])] 45)

omit hS in
theorem encLoop_inj (D : Nat) : ∀ a b, encLoop D a = encLoop D b → a = b := by
  have mem : ∀ a, (encLoop D a).2.mem = match a with | .inl q => [some [.d (.sl Key.item q.1)], some [.d (.int .i64 q.2.1)], some [.d (.int .i64 q.2.2)]] | .inr q => [some [.full Key.item q.1], some [.d (.int .i64 q.2.1)], some [.d (.int .i64 q.2.2)]] := by
    intro a; cases a <;> rfl
  intro a b h
  have h1 := mem a
  have h2 := mem b
  rw [h] at h1
  rw [h1] at h2
  rcases a with ⟨x, y, z⟩ | ⟨x, y, z⟩ <;> rcases b with ⟨x', y', z'⟩ | ⟨x', y', z'⟩ <;> cases h2 <;> rfl

theorem loop_dich (l : List It) (n i : Int) (q : List It) (a e : Int) (D : Nat) : (∀ ρ k0 k1, (Tabs k).l21_11_0 ρ l n i q a e D k0 k1 = none) ∨
    ∃ out : (List It × Int × Int) ⊕ (List It × Int × Int), ∀ ρ k0 k1, (Tabs k).l21_11_0 ρ l n i q a e D k0 k1 = match out with | .inl x => k0 x.1 x.2.1 x.2.2 | .inr x => k1 x.1 x.2.1 x.2.2 := by
  let st : St sig := canon [2, 3, 4, 31, 32, 33] [.ptr 0 0, .ptr 1 0, .ptr 2 0, .d (.sl Key.item l), .d (.int .i64 n), .d (.int .i64 i)] [some [.d (.sl Key.item q)], some [.d (.int .i64 a)], some [.d (.int .i64 e)]] [(1000000, [.fn (.yield D) [] []]), (29, [.ptr 1 0, .ptr 2 0]), (50, [.ptr 2 0, .ptr 0 0])] 45
  rcases cps_dich (c := fun ρ K => (Tabs k).l21_11_0 ρ l n i q a e D (fun x y z => K (.inl (x, y, z))) (fun x y z => K (.inr (x, y, z)))) (enc := encLoop D) (encLoop_inj D)
    (fun ρ K => (show _ = LT (Tabs k) ρ 21 0 11 st (fun x y => K (x, y)) by kernel_rfl).trans (hS.natL.nat ρ 21 0 11 st fun x y => K (x, y))) with h | ⟨out, h⟩
  · exact .inl fun ρ k0 k1 => h ρ fun y => match y with | .inl x => k0 x.1 x.2.1 x.2.2 | .inr x => k1 x.1 x.2.1 x.2.2
  · refine .inr ⟨out, fun ρ k0 k1 => ?_⟩
    have := h ρ fun y => match y with | .inl x => k0 x.1 x.2.1 x.2.2 | .inr x => k1 x.1 x.2.1 x.2.2
    rcases out with x | x <;> exact this

end

theorem loop_mark : ∀ (k : Nat) (ρ : Type) (l : List It) (n i : Int) (q : List It) (a e : Int) (D : Nat) k0 k1, (Tabs k).l21_11_0 ρ l n i q a e D k0 k1 = (Tabs k).l21_11_0 ρ l n i q a e 0 k0 k1
  | 0, ρ, l, n, i, q, a, e, D, k0, k1 => rfl
  | k + 1, ρ, l, n, i, q, a, e, D, k0, k1 => by
    show Gl21_11_0 (Tabs k) ρ l n i q a e D k0 k1 = Gl21_11_0 (Tabs k) ρ l n i q a e 0 k0 k1
    unfold Gl21_11_0
    simp only [loop_mark k ρ _ _ _ _ _ _ D]

end Go.Proofs.YtanfoijdfcnpoaaGreatDoor.Ev
