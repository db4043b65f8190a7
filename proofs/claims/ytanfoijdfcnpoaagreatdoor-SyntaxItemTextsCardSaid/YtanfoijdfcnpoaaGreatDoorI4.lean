/- This file proves that Items does what the typed function says; without any condition. -/
import Derived.Test.YtanfoijdfcnpoaaGreatDoorI3
set_option linter.unusedVariables false
set_option linter.unusedSimpArgs false
set_option maxRecDepth 8000
set_option maxHeartbeats 400000
namespace Go.Proofs.YtanfoijdfcnpoaaGreatDoor.Ev
open Go.RowKit

theorem inv_slot {st : St sig} {g : Gh} {a : Act} {w : World} {i : Nat} {p : PV sig} (h : Inv lay g st a w) (hs : st.slots i = p) : PRel lay g.β g.G p (a.tmps.getD i undef) := slot_rel h hs

theorem slot_fn {st : St sig} {g : Gh} {a : Act} {w : World} {i f c : Nat} (h : Inv lay g st a w) (hs : st.slots i = .fn (.func f) [] [.ptr c 0]) : ∃ pv, a.tmps.getD i undef = .func (.func f) #[] #[pv] ∧ PRel lay g.β g.G (.ptr c 0) pv := by
  have hv := slot_rel h hs
  generalize a.tmps.getD i undef = v at hv
  simp only [PRel] at hv
  obtain ⟨va, vb, rfl, h1, h2⟩ := hv
  cases va with
  | cons _ _ => simp only [PRels] at h1
  | nil =>
    cases vb with
    | nil => simp only [PRels] at h2
    | cons pv vb =>
      cases vb with
      | cons _ _ => simp [PRels] at h2
      | nil =>
        simp only [PRels, and_true] at h2
        exact ⟨pv, rfl, by simp only [PRel]; exact h2⟩

theorem res87 (tm : Array Value) (w : World) : (results (fnOf Tryz.prog 87) tm).run Tryz.prog w = .ok (.tuple #[]) w := by
  have : (fnOf Tryz.prog 87).results = #[] := by kernel_rfl
  simp [results, this]

theorem nt87 : (fnOf Tryz.prog 87).ntmps = 13 := by kernel_rfl

/-- The range: what has become of it. -/
theorem range_wp {k : Nat} (hS : Snd Tryz.prog lay (T (Tabs k)) (LT (Tabs k))) {s : ByteArray} {r2 : List Tok} {r3 r4 : Int} {r5 : List Tok} {r6 : Int} {out : List It ⊕ (List It × Int × Int)}
    (hout : ∀ ρ kd kp, rngI (Tabs k) ρ (r5.length + 2) r5 r6 [] kd kp = rngK out kd kp) {g : Gh} {a : Act} {w : World} (hI : Inv lay g (stC s r2 r3 r4 r5 r6) a w) {Q : Exit → Act → World → Prop}
    (hdone : ∀ r, out = .inl r → ∀ D g' a' w' l' n', FrN 5 g w g' w' → w'.heap[D]? = some (.deferred (some [])) → w.heap.size ≤ D → lay.fixB D = false → Inv lay g' (stD D r r3 r4 l' n') a' w' → Q .normal a' w')
    (hpan : ∀ r p e, out = .inr (r, p, e) → ∀ D g' a' w' l' n' v, FrN 5 g w g' w' → w'.heap[D]? = some (.deferred (some [])) → w.heap.size ≤ D → lay.fixB D = false → Inv lay g' (stD D r r3 r4 l' n') a' w' → PRel lay g'.β g'.G (failP p e) v → Q (.panic [{ v, recovered := false }]) a' w') :
    B0.wp Tryz.prog Q a w := by
  have nl : ∀ rc : Loop, NoCells (.loop rc) := fun rc cs ty fr e => by cases e
  have nd : NoCells (.deferred (some [])) := fun cs ty fr e => by cases e
  obtain ⟨pv, h25, hpv⟩ := slot_fn hI (stC_25 ..)
  have hM0 : MemInv lay g (m5 (.own Key.item []) r3 r4 r5 r6) w := (mem_at hI (stC_m ..)).modes [[.own]]
  have hsz : a.tmps.size = 45 := hI.size.trans (stC_n ..)
  have hp2 := slot_rel hI (stC_2 ..)
  have hp3 := slot_rel hI (stC_3 ..)
  have hp4 := slot_rel hI (stC_4 ..)
  have hds := hI.dfs
  rw [stC_d] at hds
  have hfix1 : lay.fixB (w.heap.size + 1) = false := fix_far hM0 (by omega)
  have hfix0 : lay.fixB w.heap.size = false := fix_far hM0 (by omega)
  rw [shB0]
  refine wp_block (wpIn_wide (n := 0).1 (wpIn_rangeFunc fun fn _ => ?_))
  obtain ⟨rc, hrc⟩ : ∃ rc : Loop, rc = { state := .ready, pending := none, fn := fn, tmps := a.tmps, params := #[26], assign := RA, body := RB, defers := w.heap.size } := ⟨_, rfl⟩
  have hrec : Rec21 rc := by subst hrc; exact ⟨rfl, rfl, hsz, rfl, rfl, rfl⟩
  obtain ⟨w1, hw1⟩ : ∃ w1, w1 = (w.alloc (.deferred (some []))).alloc (.loop rc) := ⟨_, rfl⟩
  have hL1 : w1.heap[w.heap.size + 1]? = some (.loop rc) := by
    rw [hw1]; have := World.alloc_heap_new (w.alloc (.deferred (some []))) (.loop rc); rwa [World.size_alloc] at this
  have hK1 : w1.heap[w.heap.size]? = some (.deferred (some [])) := by
    rw [hw1]; exact (alloc_heap _ _ _ (by rw [World.size_alloc]; omega)).trans (World.alloc_heap_new w _)
  have hF1 : FrN 5 g w g w1 := by rw [hw1]; exact (FrN.allocO g w (.deferred (some []))).trans (FrN.allocO g (w.alloc (.deferred (some []))) (.loop rc))
  have hM1 : MemInv lay g (m5 (.own Key.item []) r3 r4 r5 r6) w1 := by rw [hw1]; exact (hM0.allocO _).allocO _
  refine ⟨w.heap.size + 1, [{ target := .collected w.heap.size, args := #[] }], w1, { target := .fn (.func 87) #[pv], args := #[.func (.yield (w.heap.size + 1)) #[] #[]] }, w1, 87,
    #[.func (.yield (w.heap.size + 1)) #[] #[]] ++ #[pv], w1, ?_, ?_, ?_, ?_, fun e => by simp [Fence.wide] at e, ?_⟩
  · rw [hw1, hrc]; exact run_enterLoop_outer _ _ _ _ _
  · have h25' : a.eval (.tmp 25) = .func (.func 87) #[] #[pv] := h25
    simp only [resolve, h25']
    simp [go_sem]
  · intro f' _; trivial
  · have := run_enter fit1 (f := 87) (fn := fnOf Tryz.prog 87) (c := c87) (by kernel_rfl) (by kernel_rfl) (#[.func (.yield (w.heap.size + 1)) #[] #[]] ++ #[pv]) w1
    simp only [invoke]
    exact this
  · refine callsIn_of_wp (fn := fnOf Tryz.prog 87) (c := c87) (by kernel_rfl) (by kernel_rfl) trivial ?_
    rw [shc87]
    refine wpIn_block (wpIn_mono (wpIn_loop_rounds (r5.length + 2) (all_rounds hS hrec hfix1 (r5.length + 2) r5 r6 [] out ?_ g w1 g _ w1 (Fr.refl g w1).toN hM1 ?_ hL1 ?_)) ?_)
    · rw [hout]
      rcases out with r | ⟨r, p, e⟩ <;> rfl
    · refine ⟨by simp [nt87], rfl, by simp [nt87], ?_⟩
      have : ((#[Value.func (.yield (w.heap.size + 1)) #[] #[]] ++ #[pv] ++ Array.replicate ((fnOf Tryz.prog 87).ntmps - (#[Value.func (.yield (w.heap.size + 1)) #[] #[]] ++ #[pv]).size) undef : Array Value)).getD 1 undef = pv := by simp [nt87]
      rw [this]; exact hpv
    · rw [show rc.tmps = a.tmps from by rw [hrc]]; exact hp2
    · rintro x a3 w3 ⟨hd3, g3, l3, n3, hF3, hx⟩
      have hF03 : FrN 5 g w g3 w3 := hF1.trans hF3
      have hL3 := hF3.noCell hM1 hL1 (nl _)
      have hK3 := hF3.noCell hM1 hK1 nd
      have inv : ∀ {r : List It} {w4 : World}, MemInv lay g3 (m5 (.own Key.item r) r3 r4 l3 n3) w4 → Inv lay g3 (stD w.heap.size r r3 r4 l3 n3) { a with defers := { target := .collected w.heap.size, args := #[] } :: a.defers } w4 := by
        intro r w4 hM
        refine ⟨hsz, fun i => ?_, hM.modes [[.norm]], .mark (DfRels.sub ((hds.sub (β' := fun c => if c < 5 then g.β c else none) ?_).mono hF03.gmono (fun c b hb => ?_)) fun _ _ _ h => h)⟩
        · show SRel lay g3 (.slot i) (slotsOf [(2, .ptr 0 0), (3, .ptr 1 0), (4, .ptr 2 0)] i) (a.tmps.getD i undef)
          by_cases e2 : i = 2
          · subst e2; exact ⟨ptr_mono (c := 0) (by omega) hF03 hp2, trivial⟩
          by_cases e3 : i = 3
          · subst e3; exact ⟨ptr_mono (c := 1) (by omega) hF03 hp3, trivial⟩
          by_cases e4 : i = 4
          · subst e4; exact ⟨ptr_mono (c := 2) (by omega) hF03 hp4, trivial⟩
          simp only [slotsOf]
          rw [upd_other _ _ e2, upd_other _ _ e3, upd_other _ _ e4]
          exact ⟨by simp only [PRel], trivial⟩
        · intro c hc b hb
          have hc' : c < 5 := by
            have : c = 1 ∨ c = 2 ∨ c = 2 ∨ c = 0 := by simpa [PV.ptrsL, PV.ptrs] using hc
            omega
          simp [hc', hb]
        · by_cases hc : c < 5
          · simp only [hc, if_true] at hb; exact hF03.βmono c b hc hb
          · simp [hc] at hb
      cases out with
      | inl r =>
        obtain ⟨rfl, hM3⟩ := hx
        refine show a3.defers = [] ∧ _ from ⟨hd3, _, res87 _ _, none, w3.putObj (w.heap.size + 1) (.loop { rc with state := .exhausted }), ?_, ?_⟩
        · have := run_endLoop (P := Tryz.prog) hL3 (by rw [hrec.state]; simp)
          exact (this.trans (by rw [hrec.pending]))
        · refine hdone r rfl w.heap.size g3 _ _ l3 n3 (hF03.putNew (by omega) _) ?_ (Nat.le_refl _) hfix0 (inv (hM3.putO hL3 (nl _) hfix1 _))
          exact (World.putObj_heap_other (by omega)).trans hK3
      | inr q =>
        obtain ⟨r, p, e⟩ := q
        obtain ⟨v, rfl, hv, hM3⟩ := hx
        refine show a3.defers = [] ∧ _ from ⟨hd3, ?_⟩
        exact hpan r p e rfl w.heap.size g3 _ _ l3 n3 v hF03 hK3 (Nat.le_refl _) hfix0 (inv hM3) hv

theorem heads21 {cs : List Code} (h : ∀ c ∈ cs, loopsOf c = []) : ∀ c ∈ cs, ∀ c' ∈ loopsOf c, ∀ key, headOf c' = some key → loopOf Tryz.prog 21 key = some c' := by
  intro c hc c' hc' key _
  rw [h c hc] at hc'; cases hc'

theorem loopsX7 : loopsOf c21 = loopsOf X7 := by kernel_rfl
theorem body21 : fn21.body = some c21 := by kernel_rfl
theorem func21 : Tryz.prog.funcs[21]? = some fn21 := by kernel_rfl
theorem nt21 : fn21.ntmps = 45 := by kernel_rfl

/-- Up to the tokens. -/
theorem call_pre {k : Nat} (hS : Snd Tryz.prog lay (T (Tabs k)) (LT (Tabs k))) {s : ByteArray} {r2 : List Tok} {r3 r4 : Int} (htok : ∀ (ρ : Type) (K : List Tok → Int → Int → Option ρ), (Tabs k).c28_0 ρ s K = K r2 r3 r4) {res : Res sig × Mem sig}
    (hrest : ∀ g0 w0 g a w, MemInv lay g0 [] w0 → FrN 0 g0 w0 g w → Inv lay g (stA2 s r2 r3 r4) a w → a.eval (.tmp 17) = .bool (r4 != 0) →
      (Code.cond (.tmp 17) q3 .skip).wp Tryz.prog (Exit.then (Y3.wp Tryz.prog (bodyPostK Tryz.prog fn21 (ResOk lay g0 w0 res))) (bodyPostK Tryz.prog fn21 (ResOk lay g0 w0 res))) a w) :
    CallOk Tryz.prog lay 21 [.d (.str s)] [] res := by
  haveI := hS.nat
  haveI := hS.natL
  intro g vs w hm hl ha
  refine .inl ⟨run_enter fit1 func21 body21 _ _, calls_of_wp_mark func21 body21 ?_⟩
  have hn : [PV.d (S := sig) (.str s)].length ≤ fn21.ntmps := by rw [nt21]; show 1 ≤ 45; omega
  have hI0 : Inv lay g (startE fn21 [.d (.str s)] []) { tmps := vs.toArray ++ Array.replicate (fn21.ntmps - vs.toArray.size) undef, defers := [] } w := startE_inv hm hl hn ha
  generalize hact : ({ tmps := vs.toArray ++ Array.replicate (fn21.ntmps - vs.toArray.size) undef, defers := [] } : Act) = a0 at hI0 ⊢
  have hheads : ∀ c ∈ [q0, q1], ∀ c' ∈ loopsOf c, ∀ key, headOf c' = some key → loopOf Tryz.prog 21 key = some c' := heads21 fun c hc => by
    simp only [List.mem_cons, List.not_mem_nil, or_false] at hc
    rcases hc with rfl | rfl <;> kernel_rfl
  have hev : evL Tryz.prog lay (T (Tabs k)) (LT (Tabs k)) hints 21 0 [q0, q1] (st0 s) (fun e s => some (e, s)) = some (.normal, stA1 s r2 r3 r4) := (evA1 s (Tabs k) fun e s => some (e, s)).trans (htok _ _)
  rw [sh21]
  have key := evL_sound (cs := [q0, q1]) (X := .seq (.seq q2 (.cond (.tmp 17) q3 .skip)) Y3) (Q := bodyPostK Tryz.prog fn21 (ResOk lay g w res)) (np := 0) (H := hints) (f := 21) fit1.mixed hS.call (fun key st r c hc hr => hS.loop 21 0 key st r c hc hr) hheads hI0 hev
  refine key fun x a1 w1 hx => ?_
  obtain ⟨g1, hF1, rfl, hI1⟩ := hx
  show (Code.seq (.seq q2 (.cond (.tmp 17) q3 .skip)) Y3).wp Tryz.prog _ a1 w1
  have hq2 : ∀ c' ∈ loopsOf q2, ∀ key, headOf c' = some key → loopOf Tryz.prog 21 key = some c' := by rw [show loopsOf q2 = [] from by kernel_rfl]; intro _ h; cases h
  refine wp_seq (wp_seq (wp_mono (evK_sound (np := 0) fit1.mixed (call := call0) (LT := loop0) (fun f args m r h => by cases h) (fun key st r c _ h => by cases h) hq2 hI1 (evA2 s r2 r3 r4)) fun x a2 w2 hx => ?_))
  obtain ⟨g2, hF2, rfl, hI2⟩ := hx
  have h17 := slot_bool hI2 (stA2_17 s r2 r3 r4)
  have hF := hF1.trans hF2
  have h3 := hrest g w g2 a2 w2 hm hF hI2 h17
  simp only [Exit.then]
  exact h3

/-- No tokens. -/
theorem call_err {k : Nat} (hS : Snd Tryz.prog lay (T (Tabs k)) (LT (Tabs k))) {s : ByteArray} {r2 : List Tok} {r3 r4 : Int} (htok : ∀ (ρ : Type) (K : List Tok → Int → Int → Option ρ), (Tabs k).c28_0 ρ s K = K r2 r3 r4) (h4 : (r4 != 0) = true) :
    CallOk Tryz.prog lay 21 [.d (.str s)] [] (ret21 [] r3 r4) := by
  refine call_pre hS htok fun g0 w0 g a w hm hF hI h17 => ?_
  rw [h4] at h17
  refine wp_cond_true h17 (wp_mono (evK_sound (np := 0) fit1.mixed (call := call0) (LT := loop0) (fun f args m r h => by cases h) (fun key st r c _ h => by cases h) (by rw [show loopsOf q3 = [] from by kernel_rfl]; intro _ h; cases h) hI (evE s r2 r3 r4)) fun x a2 w2 hx => ?_)
  obtain ⟨g2, hF2, rfl, hI2⟩ := hx
  exact .inl (leave_nil (m := []) hm (hF.trans hF2) hI2 (stE_d ..) (finE s r2 r3 r4))

/-- Tokens, and what the range and what follows come to. -/
theorem call_run {k : Nat} (hS : Snd Tryz.prog lay (T (Tabs k)) (LT (Tabs k))) {s : ByteArray} {r2 : List Tok} {r3 r4 : Int} (htok : ∀ (ρ : Type) (K : List Tok → Int → Int → Option ρ), (Tabs k).c28_0 ρ s K = K r2 r3 r4) (h4 : (r4 != 0) = false)
    {r5 : List Tok} {r6 : Int} (hall : ∀ (ρ : Type) (K : List Tok → Int → Option ρ), (Tabs k).c51_0 ρ r2 0 K = K r5 r6) {out : List It ⊕ (List It × Int × Int)} (hout : ∀ ρ kd kp, rngI (Tabs k) ρ (r5.length + 2) r5 r6 [] kd kp = rngK out kd kp)
    {res : Res sig × Mem sig} (hok : ∀ r, out = .inl r → ∀ D l n, evK Tryz.prog lay (T (Tabs k)) (LT (Tabs k)) hints 21 0 X7 (stD D r r3 r4 l n) (end21 some) = some (res, dfs21 D))
    (hbad : ∀ r p e, out = .inr (r, p, e) → res = ret21 (cond (e == (0 : Int)) r []) p e) :
    CallOk Tryz.prog lay 21 [.d (.str s)] [] res := by
  haveI := hS.nat
  haveI := hS.natL
  refine call_pre hS htok fun g0 w0 g a w hm hF hI h17 => ?_
  rw [h4] at h17
  refine wp_cond_false h17 (wp_skip ?_)
  show Y3.wp Tryz.prog _ a w
  rw [shY3]
  refine evL_sound (cs := [q4, q5, q6]) (X := .seq (.seq q7 B0) X7) (np := 0) fit1.mixed (call := call0) (LT := loop0) (fun f args m r h => by cases h) (fun key st r c _ h => by cases h)
    (heads21 (fun c hc => by
      simp only [List.mem_cons, List.not_mem_nil, or_false] at hc
      rcases hc with rfl | rfl | rfl <;> kernel_rfl)) hI (evB s r2 r3 r4) fun x a1 w1 hx => ?_
  obtain ⟨g1, hF1, rfl, hI1⟩ := hx
  show (Code.seq (.seq q7 B0) X7).wp Tryz.prog _ a1 w1
  refine wp_seq (wp_seq (wp_mono (evK_sound (np := 0) fit1.mixed hS.call (fun key st r c hc hr => hS.loop 21 0 key st r c hc hr) (by rw [show loopsOf q7 = [] from by kernel_rfl]; intro _ h; cases h) hI1 ((evC s r2 r3 r4 (Tabs k) fun e s => some (e, s)).trans (hall _ _))) fun x a2 w2 hx => ?_))
  obtain ⟨g2, hF2, rfl, hI2⟩ := hx
  show B0.wp Tryz.prog _ a2 w2
  have hF02 : FrN 0 g0 w0 g2 w2 := (hF.trans hF1).trans hF2
  refine range_wp hS hout hI2 (fun r hr D g3 a3 w3 l n hF3 hK3 hD hfix hI3 => ?_) (fun r p e hr D g3 a3 w3 l n v hF3 hK3 hD hfix hI3 hv => ?_)
  · show X7.wp Tryz.prog _ a3 w3
    have hev := hok r hr D l n
    rw [evK_cps] at hev
    obtain ⟨⟨e, st'⟩, hev, hfin⟩ := Option.bind_eq_some_iff.1 hev
    have hfin2 : fin21 e st' = some res ∧ st'.dfs = dfs21 D := by
      have hfin : end21 some e st' = some (res, dfs21 D) := hfin
      unfold end21 at hfin
      cases hf : fin21 e st' with
      | none => simp [hf] at hfin
      | some q => simpa [hf] using hfin
    obtain ⟨hfin1, hdfs⟩ := hfin2
    have hF03 : FrN 0 g0 w0 g3 w3 := hF02.trans (hF3.le (by omega))
    refine wp_mono (evK_sound (np := 0) fit1.mixed hS.call (fun key st r c hc hr => hS.loop 21 0 key st r c hc hr) (by rw [← loopsX7]; exact fit1.heads func21 body21) hI3 hev) fun x a4 w4 hx => ?_
    obtain ⟨g4, hF4, hx⟩ := hx
    have hK4 := hF4.noCell hI3.mem hK3 (fun cs ty fr e => by cases e)
    have hbn : w0.heap.size ≤ D := by have := hF02.size; omega
    cases e with
    | normal =>
      obtain ⟨rfl, hI4⟩ := hx
      exact leave_mark dok (m := []) hm (hF03.trans hF4) hI4.mem (fun i => (hI4.slot i).1) hdfs (by simp) hI4.dfs hK4 hbn hfix (.inl ⟨.inr rfl, rfl⟩) hfin1
    | ret =>
      obtain ⟨rfl, hI4⟩ := hx
      exact leave_mark dok (m := []) hm (hF03.trans hF4) hI4.mem (fun i => (hI4.slot i).1) hdfs (by simp) hI4.dfs hK4 hbn hfix (.inl ⟨.inl rfl, rfl⟩) hfin1
    | exit id => cases hfin1
    | pan p =>
      obtain ⟨v, rfl, hp, hM4, hD4, hs4⟩ := hx
      exact leave_mark dok (m := []) hm (hF03.trans hF4) hM4 hs4 hdfs (by simp) hD4 hK4 hbn hfix (.inr ⟨p, v, rfl, rfl, hp⟩) hfin1
  · have hF03 : FrN 0 g0 w0 g3 w3 := hF02.trans (hF3.le (by omega))
    rw [hbad r p e hr]
    exact leave_mark dok (m := []) hm hF03 hI3.mem (fun i => (hI3.slot i).1) rfl (by simp) hI3.dfs hK3 (by have := hF02.size; omega) hfix (.inr ⟨_, v, rfl, rfl, hv⟩) (finP D r r3 r4 l n p e)

def endL (D : Nat) : (List It × Int × Int) ⊕ (List It × Int × Int) → Option ((Res sig × Mem sig) × List (FuncId × List (PV sig)))
  | .inl x => cond (decide (((List.length x.1 : Nat) : Int) > (120 : Int))) (some (ret21 (cond ((5 : Int) == (0 : Int)) [] []) 0 5, dfs21 D)) (some (ret21 (cond ((0 : Int) == (0 : Int)) x.1 []) 0 0, dfs21 D))
  | .inr x => some (ret21 (cond (x.2.2 == (0 : Int)) x.1 []) x.2.1 x.2.2, dfs21 D)

theorem told21 (k : Nat) (hS : Snd Tryz.prog lay (T (Tabs k)) (LT (Tabs k))) (s : ByteArray) : (∀ (ρ : Type) (K : Res sig × Mem sig → Option ρ), T21 (Tabs (k + 1)) ρ [.d (.str s)] [] K = none) ∨
    ∃ r, CallOk Tryz.prog lay 21 [.d (.str s)] [] r ∧ ∀ (ρ : Type) (K : Res sig × Mem sig → Option ρ), T21 (Tabs (k + 1)) ρ [.d (.str s)] [] K = K r := by
  simp only [T21_eq, out21]
  rcases tok_dich hS s with h | ⟨r2, r3, r4, h⟩
  · exact .inl fun ρ K => h ..
  simp only [h]
  cases h4 : (r4 != (0 : Int)) with
  | true => exact .inr ⟨ret21 [] r3 r4, call_err hS h h4, fun ρ K => rfl⟩
  | false =>
  simp only [cond_false]
  rcases all_dich hS r2 0 with h1 | ⟨r5, r6, h1⟩
  · exact .inl fun ρ K => h1 ..
  simp only [h1]
  rcases rng_dich hS (r5.length + 2) r5 r6 [] with h2 | ⟨out, h2⟩
  · exact .inl fun ρ K => h2 ..
  simp only [h2]
  rcases out with r | ⟨r, p, e⟩
  · simp only [rngK]
    rcases loop_dich hS r ((List.length r : Nat) : Int) 0 r r3 r4 0 with h3 | ⟨o2, h3⟩
    · exact .inl fun ρ K => h3 ..
    simp only [h3]
    have fin : ∀ res : Res sig × Mem sig, (∀ (D : Nat), endL D o2 = some (res, dfs21 D)) → CallOk Tryz.prog lay 21 [.d (.str s)] [] res := fun res hres => by
      refine call_run hS h h4 h1 h2 (fun r' hr' D l n => ?_) fun r' p e hr' => by cases hr'
      cases hr'
      rw [evX7, loop_mark, h3]
      have := hres D
      rcases o2 with x | x <;> exact this
    rcases o2 with x | x
    · cases hc : decide (((List.length x.1 : Nat) : Int) > (120 : Int)) with
      | true => exact .inr ⟨_, fin _ fun D => by simp only [endL, hc]; rfl, fun ρ K => by simp only [hc]; rfl⟩
      | false => exact .inr ⟨_, fin _ fun D => by simp only [endL, hc]; rfl, fun ρ K => by simp only [hc]; rfl⟩
    · exact .inr ⟨_, fin _ fun D => rfl, fun ρ K => rfl⟩
  · refine .inr ⟨_, call_run hS h h4 h1 h2 (fun r' hr' => by cases hr') fun r' p' e' hr' => ?_, fun ρ K => rfl⟩
    cases hr'; rfl

end Go.Proofs.YtanfoijdfcnpoaaGreatDoor.Ev
