/- This file proves that LexisFull, called with any number, returns true and leaves what it was handed; without any condition. -/
import Derived.Test.YtdhpgcjhiommkaaDoorZ2
import Derived.Test.YtdhpgcjhiommkaaDoorA1
set_option linter.unusedVariables false
set_option linter.unusedSimpArgs false
set_option maxRecDepth 8000
namespace Go.Proofs.YtdhpgcjhiommkaaDoor.Ev
open Go.RowKit

def ints (w : List UInt8) : List Int := w.map fun b => (b.toNat : Int)
theorem byteList_eq : ∀ l : List Int, byteList (l.map (lay.cells Key.u8)) = some l
  | [] => rfl
  | n :: l => by
    show (byteList (l.map (lay.cells Key.u8))).map (n :: ·) = _
    rw [byteList_eq l]; rfl

theorem strOf_ints (w : List UInt8) : strOf (ints w) = mk w := by
  have : ∀ (w : List UInt8) (acc : List UInt8), (ints w).foldl (fun r n => r.push (UInt8.ofNat n.toNat)) (mk acc) = mk (acc ++ w) := by
    intro w
    induction w with
    | nil => intro acc; simp [ints]
    | cons b w ih =>
      intro acc
      show (ints w).foldl _ ((mk acc).push (UInt8.ofNat ((b.toNat : Int)).toNat)) = _
      have : (mk acc).push (UInt8.ofNat ((b.toNat : Int)).toNat) = mk (acc ++ [b]) := by
        have hb : UInt8.ofNat ((b.toNat : Int)).toNat = b := by simp
        rw [hb]
        apply ByteArray.ext
        simp [ByteArray.push]
      rw [this, ih]
      simp
  exact this w []

theorem bytes_eq {ρ : Type} (w : List UInt8) (f : ByteArray → Option ρ) : bytesK (ints w) f = f (mk w) := by
  unfold bytesK
  rw [byteList_eq]
  show f (strOf (ints w)) = _
  rw [strOf_ints]

/-! ### What the rest answers -/

theorem ints_rep (m : Nat) (c : UInt8) : List.replicate m (c.toNat : Int) = ints (List.replicate m c) := by simp [ints]

theorem bytes_rep {ρ : Type} (m : Nat) (c : UInt8) (f : ByteArray → Option ρ) : bytesK (List.replicate m (c.toNat : Int)) f = f (mk (List.replicate m c)) := by
  rw [ints_rep, bytes_eq]

theorem skip_blanks : ∀ m : Nat, skip (List.replicate m 32) false = []
  | 0 => rfl
  | m + 1 => by
    show skip (32 :: List.replicate m 32) false = []
    rw [skip, if_pos (by rfl)]
    exact skip_blanks m

theorem toks_blanks {m : Nat} (h : m ≤ 6000) : toks (List.replicate m 32) = ([⟨7, mk [], (m : Int)⟩], 0, 0) := by
  unfold toks
  rw [skip_blanks, List.length_replicate, decide_eq_true h]
  cases m <;> rfl

theorem toks_many {m : Nat} (h : 6000 < m) : toks (List.replicate m 32) = ([], 0, 5) := by
  unfold toks
  rw [List.length_replicate, decide_eq_false (by omega)]
  rfl

/-- The name behind a blank. -/
def nm7 (m : Nat) : List UInt8 := 32 :: List.replicate m 97

theorem rest_ok (n : Nat) (hn : n < 4) : Evt fun k => ∀ (ρ : Type) k0, GF (Tabs k) ρ (n : Int) (List.replicate (5999 + n) 32) (List.replicate (15 + n) 97) k0 = k0 true := by
  refine ((s11 (List.replicate (5999 + n) 32)).and ((s11 (nm7 (15 + n))).and ((s15 (List.replicate (15 + n) 97)).and awake_ok))).mono fun k ⟨h1, h2, h3, h4⟩ ρ k0 => ?_
  unfold GF
  rw [show List.replicate (5999 + n) (32 : Int) = List.replicate (5999 + n) (((32 : UInt8).toNat : Nat) : Int) from rfl, bytes_rep, h1]
  rw [show List.replicate (15 + n) (97 : Int) = List.replicate (15 + n) (((97 : UInt8).toNat : Nat) : Int) from rfl]
  simp only [bytes_rep]
  rw [show (ByteArray.mk #[32]) ++ mk (List.replicate (15 + n) 97) = mk (nm7 (15 + n)) from mk_append [32] _, h2]
  rw [show decide ((ByteArray.mk #[32]).size + (mk (List.replicate (15 + n) 97)).size ≤ 9223372036854775807) = true from by
    rw [mk_size, mk_size, List.length_replicate]
    exact decide_eq_true (by show 1 + (15 + n) ≤ _; omega)]
  simp only [h3, h4, cond_true]
  obtain rfl | rfl | rfl | rfl : n = 0 ∨ n = 1 ∨ n = 2 ∨ n = 3 := by omega
  · rw [toks_blanks (by omega)]
    generalize ht : toks (nm7 (15 + 0)) = t
    have h5 : (t.1.length : Int) = 2 ∧ t.2.2 = 0 := by rw [← ht]; exact ⟨by kernel_rfl, by kernel_rfl⟩
    rw [h5.1, h5.2, show nameL smallB (List.replicate (15 + 0) 97) = true from by kernel_rfl]
    rfl
  · rw [toks_blanks (by omega)]
    generalize ht : toks (nm7 (15 + 1)) = t
    have h5 : (t.1.length : Int) = 2 ∧ t.2.2 = 0 := by rw [← ht]; exact ⟨by kernel_rfl, by kernel_rfl⟩
    rw [h5.1, h5.2, show nameL smallB (List.replicate (15 + 1) 97) = true from by kernel_rfl]
    rfl
  · rw [toks_many (by omega), show toks (nm7 (15 + 2)) = ([], 1, 4) from by kernel_rfl, show nameL smallB (List.replicate (15 + 2) 97) = false from by kernel_rfl]
    rfl
  · rw [toks_many (by omega), show toks (nm7 (15 + 3)) = ([], 1, 4) from by kernel_rfl, show nameL smallB (List.replicate (15 + 3) 97) = false from by kernel_rfl]
    rfl

/-! ### The walk -/

noncomputable def R00 : Code := seqA c7
noncomputable def R01 : Code := seqA (seqB c7)

theorem shc7 : c7 = .seq R00 (.seq R01 (.seq R1 (.seq L1 (.seq R2 (.seq L2 rest7))))) := by kernel_rfl
theorem bodyc7 : Tryd.f7.body = some c7 := by kernel_rfl

noncomputable def stA (m : Int) : St sig := stateOf (evK Tryd.prog lay (T (Tabs 0)) (LT (Tabs 0)) hints7 7 0 R00 (startE Tryd.f7 [.d (.int .i64 m)] []) fun e s => some (e, s))
noncomputable def stB (m : Int) : St sig := stateOf (evK Tryd.prog lay (T (Tabs 0)) (LT (Tabs 0)) hints7 7 0 R01 (stA m) fun e s => some (e, s))

theorem evA (m : Int) : evK Tryd.prog lay (T (Tabs 0)) (LT (Tabs 0)) hints7 7 0 R00 (startE Tryd.f7 [.d (.int .i64 m)] []) (fun e s => some (e, s)) = some (.normal, stA m) := by kernel_rfl
theorem evB (m : Int) : evK Tryd.prog lay (T (Tabs 0)) (LT (Tabs 0)) hints7 7 0 R01 (stA m) (fun e s => some (e, s)) = some (.normal, stB m) := by kernel_rfl
theorem stB0 (m : Int) : (stB m).slots 0 = .d (.int .i64 (IntKind.wrap .i64 (Int.tmod (IntKind.wrap .u64 m) 4))) := by kernel_rfl
theorem stBm (m : Int) : (stB m).mem = [] := by kernel_rfl
theorem stBd (m : Int) : (stB m).dfs = [] := by kernel_rfl
theorem stBn (m : Int) : (stB m).nt = 115 := by kernel_rfl

theorem four (m : Int) : ∃ n : Nat, n < 4 ∧ IntKind.wrap .i64 (Int.tmod (IntKind.wrap .u64 m) 4) = (n : Int) := by
  have h0 : 0 ≤ IntKind.wrap .u64 m := by simp only [IntKind.wrap, IntKind.signed, IntKind.bits]; simp; omega
  generalize IntKind.wrap .u64 m = x at h0
  obtain ⟨y, rfl⟩ := Int.eq_ofNat_of_zero_le h0
  refine ⟨y % 4, by omega, ?_⟩
  rw [show Int.tmod (y : Int) 4 = ((y % 4 : Nat) : Int) from by rw [Int.tmod_eq_emod_of_nonneg (by omega)]; omega]
  have : y % 4 < 4 := by omega
  generalize y % 4 = z at this
  simp only [IntKind.wrap, IntKind.signed, IntKind.bits]; simp; omega

/-- A row of equal bytes is a slice. -/
theorem dr_row {g : Gh} {b n : Nat} {c : Int} (hG : ∀ o, o < n → g.G b o = some (.int .u8 c)) : DRel lay g.G (.sl Key.u8 (List.replicate n c)) (.slice (some ⟨b, 0, none⟩) n n) := by
  have h : ∀ (i : Nat) (x : Int), (List.replicate n c)[i]? = some x → i < n ∧ x = c := fun i x hx => by
    rw [List.getElem?_replicate] at hx
    split at hx
    · exact ⟨by assumption, by cases hx; rfl⟩
    · cases hx
  have h' : ∀ (i : Nat) (x : Int), (List.replicate n c)[i]? = some x → ∀ (j : Nat) (d : DV sig), (lay.cells Key.u8 x)[j]? = some d → g.G b (0 + i * lay.sz Key.u8 + j) = some (.int .u8 c) ∧ d = .int .u8 c := by
    intro i x hx j d hd
    obtain ⟨h1, rfl⟩ := h i x hx
    match j, hd with
    | 0, hd =>
      refine ⟨?_, by cases hd; rfl⟩
      rw [show 0 + i * lay.sz Key.u8 + 0 = i from by show 0 + i * 1 + 0 = i; omega]
      exact hG i h1
    | j + 1, hd => exact absurd hd (by show ¬ ([DV.int .u8 x] : List (DV sig))[j + 1]? = some d; simp)
  have base := DRel.sl (L := lay) (G := g.G) Key.u8 (List.replicate n c) b 0 n (by show (List.replicate n c : List Int).length ≤ n; rw [List.length_replicate]; exact Nat.le_refl _) (fun i x hx j d hd => by rw [(h' i x hx j d hd).1]; rfl)
    (fun i x hx j d hd => by rw [(h' i x hx j d hd).1, (h' i x hx j d hd).2]; exact .int _ _)
  have key : ∀ q, q = n → DRel lay g.G (.sl Key.u8 (List.replicate n c)) (.slice (some ⟨b, 0, none⟩) q n) → DRel lay g.G (.sl Key.u8 (List.replicate n c)) (.slice (some ⟨b, 0, none⟩) n n) := by
    rintro _ rfl h; exact h
  exact key _ (by show (List.replicate n c : List Int).length = n; rw [List.length_replicate]) base

theorem full_ok (m : Int) : CallOk Tryd.prog lay 7 [.d (.int .i64 m)] [] (.ret (.d (.bool true)), []) := by
  intro g vs w hM hl ha
  refine .inl ⟨run_enter fit1 Tryd.func7 bodyc7 _ _, calls_of_wp_defers Tryd.func7 bodyc7 ?_⟩
  have hI0 := startE_inv (S := sig) (L := lay) (fn := Tryd.f7) hM hl (by show 1 ≤ Tryd.f7.ntmps; rw [show Tryd.f7.ntmps = 115 from by kernel_rfl]; omega) ha
  have lv := fun k => levels.sound fit1 dok k
  rw [shc7]
  refine wp_seq (wp_mono (@evK_sound sig Tryd.prog lay _ (lv 0).1 fit1.mixed (lv 0).2.2.1 _ (lv 0).2.1 hints7 7 0 (fun key st r c hc hr => (lv 0).2.2.2 7 _ key st r c hc hr) _ _ _ _ _ _ _ (by
    rw [show loopsOf R00 = [] from by kernel_rfl]; intro _ h; cases h) hI0 (evA m)) fun x a1 w1 hx => ?_)
  obtain ⟨g1, hF1, rfl, hI1⟩ := hx
  refine wp_seq (wp_mono (@evK_sound sig Tryd.prog lay _ (lv 0).1 fit1.mixed (lv 0).2.2.1 _ (lv 0).2.1 hints7 7 0 (fun key st r c hc hr => (lv 0).2.2.2 7 _ key st r c hc hr) _ _ _ _ _ _ _ (by
    rw [show loopsOf R01 = [] from by kernel_rfl]; intro _ h; cases h) hI1 (evB m)) fun x a2 w2 hx => ?_)
  obtain ⟨g2, hF2, rfl, hI2⟩ := hx
  obtain ⟨n, hn, hnm⟩ := four m
  have hs0 := (hI2.slot 0).1
  rw [stB0, hnm] at hs0
  have hv0 : a2.eval (.tmp 0) = .int .i64 (n : Int) := by
    simp only [PRel] at hs0
    cases hs0h : a2.tmps.getD 0 undef <;> rw [hs0h] at hs0 <;> cases hs0
    exact hs0h
  have hz : a2.tmps.size = 115 := hI2.size.trans (stBn m)
  have hM2 : MemInv lay g2 [] w2 := by have := hI2.mem; rwa [stBm] at this
  have hD2 : a2.defers = [] := by
    have := hI2.dfs
    rw [stBd] at this
    generalize a2.defers = ds at this
    cases this; rfl
  have wr : ∀ x : Int, 0 ≤ x → x < 10000 → IntKind.wrap .i64 x = x := fun x h1 h2 => by
    simp only [IntKind.wrap, IntKind.signed, IntKind.bits]; simp; omega
  refine fill1 hz hv0 (n := 5999 + n) (by rw [wr _ (by omega) (by omega)]; omega) (by omega) fun a3 w3 p3 => ?_
  refine fill2 (p3.size.trans hz) ((p3.other 0 rfl).trans hv0) (n := 15 + n) (by rw [wr _ (by omega) (by omega)]; omega) (by omega) fun a4 w4 p4 => ?_
  obtain ⟨cur1, ty1, hc1, hl1⟩ := p3.row
  obtain ⟨cur2, ty2, hc2, hl2⟩ := p4.row
  have hM3 : MemInv lay (g2.addG w2.heap.size (List.replicate (5999 + n) (.int .u8 32))) [] w3 := hM2.rowAt p3.below (Nat.le_refl _) hc1 (fun o v hv => by rw [← hl1] at hv; simpa using hv)
  have hF3 := Fr.rowAt hM2 p3.below (Nat.le_refl _) (vs := List.replicate (5999 + n) (.int .u8 32))
  have hM4 : MemInv lay ((g2.addG w2.heap.size (List.replicate (5999 + n) (.int .u8 32))).addG w3.heap.size (List.replicate (15 + n) (.int .u8 97))) [] w4 := hM3.rowAt p4.below (Nat.le_refl _) hc2 (fun o v hv => by rw [← hl2] at hv; simpa using hv)
  have hF4 := Fr.rowAt hM3 p4.below (Nat.le_refl _) (vs := List.replicate (15 + n) (.int .u8 97))
  generalize hg4 : (g2.addG w2.heap.size (List.replicate (5999 + n) (.int .u8 32))).addG w3.heap.size (List.replicate (15 + n) (.int .u8 97)) = g4 at hM4 hF4
  have hlt : w2.heap.size < w3.heap.size := heap_lt hc1
  have G1 : ∀ o, o < 5999 + n → g4.G w2.heap.size o = some (.int .u8 32) := fun o ho => by
    rw [← hg4]
    show (if w2.heap.size = w3.heap.size then _ else if w2.heap.size = w2.heap.size then _ else _) = _
    rw [if_neg (by omega), if_pos rfl, List.getElem?_replicate, if_pos ho]
  have G2 : ∀ o, o < 15 + n → g4.G w3.heap.size o = some (.int .u8 97) := fun o ho => by
    rw [← hg4]
    show (if w3.heap.size = w3.heap.size then _ else _) = _
    rw [if_pos rfl, List.getElem?_replicate, if_pos ho]
  have hI4 : Inv lay g4 (st7 (n : Int) (List.replicate (5999 + n) (32 : Int)) (List.replicate (15 + n) (97 : Int))) a4 w4 := by
    refine ⟨p4.size.trans (p3.size.trans hz), fun i => ?_, hM4, ?_⟩
    · show SRel lay g4 (.slot i) (slotsOf [(0, .d (.int .i64 (n : Int))), (3, .d (.sl Key.u8 (List.replicate (5999 + n) (32 : Int)))), (5, .d (.sl Key.u8 (List.replicate (15 + n) (97 : Int))))] i) _
      by_cases e0 : i = 0
      · subst e0
        refine ⟨?_, trivial⟩
        rw [show a4.tmps.getD 0 undef = .int .i64 (n : Int) from (p4.other 0 rfl).trans ((p3.other 0 rfl).trans hv0)]
        show PRel lay g4.β g4.G (.d (.int .i64 (n : Int))) _
        simp only [PRel]; exact .int _ _
      by_cases e3 : i = 3
      · subst e3
        refine ⟨?_, trivial⟩
        rw [show a4.tmps.getD 3 undef = .slice (some ⟨w2.heap.size, 0, none⟩) (5999 + n) (5999 + n) from (p4.other 3 rfl).trans p3.slice]
        show PRel lay g4.β g4.G (.d (.sl Key.u8 (List.replicate (5999 + n) (32 : Int)))) _
        simp only [PRel]; exact dr_row G1
      by_cases e5 : i = 5
      · subst e5
        refine ⟨?_, trivial⟩
        rw [show a4.tmps.getD 5 undef = .slice (some ⟨w3.heap.size, 0, none⟩) (15 + n) (15 + n) from p4.slice]
        show PRel lay g4.β g4.G (.d (.sl Key.u8 (List.replicate (15 + n) (97 : Int)))) _
        simp only [PRel]; exact dr_row G2
      simp only [slotsOf]
      rw [upd_other _ _ e0, upd_other _ _ e3, upd_other _ _ e5]
      exact ⟨by simp only [PRel], trivial⟩
    · rw [p4.dfs, p3.dfs, hD2]; exact .nil
  obtain ⟨k, hk⟩ := (rest_ok n hn).get
  have hev := (gF (Tabs k) Bool (n : Int) (List.replicate (5999 + n) (32 : Int)) (List.replicate (15 + n) (97 : Int)) some).trans (hk Bool some)
  haveI := (lv k).1
  haveI := (lv k).2.1
  rw [evK_cps] at hev
  obtain ⟨⟨e, s'⟩, hq, hk7⟩ := Option.bind_eq_some_iff.1 hev
  have hend : e = .ret ∧ s'.slots 2 = .d (.bool true) ∧ s'.dfs = [] ∧ s'.mem = [] := by
    revert hk7
    show k7 some e s' = some true → _
    unfold k7
    split
    · rename_i b h1 h2 h3
      intro h; cases h
      exact ⟨rfl, h1, h2, h3⟩
    · intro h; cases h
  obtain ⟨rfl, hr2, hrd, hrm⟩ := hend
  refine wp_mono (@evK_sound sig Tryd.prog lay _ (lv k).1 fit1.mixed (lv k).2.2.1 _ (lv k).2.1 hints7 7 0 (fun key st r c hc hr => (lv k).2.2.2 7 _ key st r c hc hr) _ _ _ _ _ _ _ (by
    rw [show loopsOf rest7 = [] from by kernel_rfl]; intro _ h; cases h) hI4 hq) fun x a5 w5 hx => ?_
  obtain ⟨g5, hF5, rfl, hI5⟩ := hx
  have hd5 : a5.defers = [] := by
    have := hI5.dfs
    rw [hrd] at this
    generalize a5.defers = ds at this
    cases this; rfl
  show Leaves Tryd.prog Tryd.f7 a5.tmps _ a5.defers .returning w5
  rw [hd5]
  have hp : resultsE Tryd.prog false Tryd.f7 s' = some (.d (.bool true)) := by
    unfold resultsE
    rw [show Tryd.f7.results.toList = [.tmp 2] from by kernel_rfl]
    simp [resItem, hr2, PV.norm]
  obtain ⟨v, hv1, hv2⟩ := ret_ok (st := s') hM ((((hF1.trans hF2).trans hF3.toN).trans hF4.toN).trans hF5) hI5.slot hI5.mem hp
  refine ⟨v, hv1, ?_⟩
  rw [hrm] at hv2
  rwa [show trim (S := sig) ([] : Mem sig).length (.d (.bool true)) [] = [] from by simp [trim]] at hv2

end Go.Proofs.YtdhpgcjhiommkaaDoor.Ev
