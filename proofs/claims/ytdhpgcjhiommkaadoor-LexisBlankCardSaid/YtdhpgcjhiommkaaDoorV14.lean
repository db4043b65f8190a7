/- This file proves what LexisJoins answers, for lists of tokens that fit the machine. -/
import Derived.Test.YtdhpgcjhiommkaaDoorV13
set_option linter.unusedVariables false
set_option linter.unusedSimpArgs false
namespace Go.Proofs.YtdhpgcjhiommkaaDoor.Ev

theorem join_eq : ∀ ws : List (List UInt8), Lib.join ws [32] = joinT ws
  | [] => rfl
  | [w] => by simp [Lib.join, List.intercalate, joinT]
  | w :: v :: r => by
    have ih := join_eq (v :: r)
    unfold Lib.join List.intercalate at ih ⊢
    show w ++ ([32] ++ (List.intersperse [32] (v :: r)).flatten) = _
    rw [ih]; rfl

theorem tail_len : ∀ ts : List Tok, ts.all isT = true → (tailT ((live ts).map txt)).length ≤ 18 * ts.length
  | [], _ => by simp [live, tailT]
  | x :: r, h => by
    simp only [List.all_cons, Bool.and_eq_true] at h
    have ih := tail_len r h.2
    cases h7 : (x.kind == 7) with
    | true =>
      have : live (x :: r) = live r := by simp [live, h7]
      rw [this]; simp only [List.length_cons]; omega
    | false =>
      have e : live (x :: r) = x :: live r := by simp [live, h7]
      have h17 := isT_len h.1 h7
      rw [e]
      simp only [tailT, List.map_cons, List.flatten_cons, List.length_append, List.length_cons] at ih ⊢
      omega

theorem join_len (ws : List (List UInt8)) : (joinT ws).length ≤ (tailT ws).length := by
  cases ws with
  | nil => simp [joinT]
  | cons w r =>
    rw [joinT_tail]
    simp [tailT]

theorem live_len (ts : List Tok) : (live ts).length ≤ ts.length := List.length_filter_le _ _

/-- The joined texts. -/
def joined (ts : List Tok) : List UInt8 := joinT ((live ts).map txt)

section
variable {all : List Tok} (hall : all.length * 32 ≤ 140737488351232)
include hall

theorem s19 : Evt fun n => ∀ (ρ : Type) k0, (Tabs n).c19_0 ρ all k0 = bif all.all isT then k0 (mk (joined all)) 0 else k0 (mk []) 2 := by
  have h33 : Evt fun n => ∀ (ρ : Type) l t k0, (Tabs n).c33_0 ρ l t k0 = toldJoin l t k0 := Evt.step0 fun n ρ l t k0 => rfl
  refine ((s19_3 hall all [] [] rfl (by simp)).and h33).step fun n ⟨h1, h2⟩ ρ k0 => ?_
  rw [show (Tabs (n + 1)).c19_0 = Gc19_0 (Tabs n) from rfl]
  unfold Gc19_0
  refine (h1 ρ _ _).trans ?_
  cases ha : all.all isT with
  | false => rfl
  | true =>
    have e1 : (List.map (fun x : ByteArray => x.data.toList) ((live all).map (·.text))) = (live all).map txt := by simp [txt, Function.comp_def]
    have e2 : (ByteArray.mk #[32]).data.toList = [32] := rfl
    have l1 := live_len all
    have l2 := join_len ((live all).map txt)
    have l3 := tail_len all ha
    simp only [cond_true, List.nil_append, h2, toldJoin, e1, e2, join_eq, List.length_map]
    have e3 : decide ((live all).length ≤ 140737488355328) = true := by simp only [decide_eq_true_eq]; omega
    have e4 : decide ((joinT ((live all).map txt)).length ≤ 140737488355328) = true := by simp only [decide_eq_true_eq]; omega
    rw [e3, e4]; rfl

theorem s20 (htx : ∀ x ∈ all, x.text.size ≤ 140737488355328) : Evt fun n => ∀ (ρ : Type) k0, (Tabs n).c20_0 ρ all k0 = bif all.all isT then k0 (mk (joined all)) 0 else k0 (mk []) 2 := by
  refine (s20_4 hall htx all [] [] true rfl (by simp)).step fun n h1 ρ k0 => ?_
  rw [show (Tabs (n + 1)).c20_0 = Gc20_0 (Tabs n) from rfl]
  unfold Gc20_0
  refine (h1 ρ _ _).trans ?_
  cases ha : all.all isT with
  | false => rfl
  | true =>
    simp only [cond_true, List.nil_append]
    exact bytes_eq _ _

end

def keyT (t : Tok) : Int × ByteArray := (t.kind, t.text)

theorem s13_4k : ∀ (r r' pre pre' : List Tok), pre.length = pre'.length → r.map keyT = r'.map keyT → (pre ++ r).length ≤ 1000000 →
    Evt fun n => ∀ (ρ : Type) k0 k1, (Tabs n).l13_4_0 ρ (pre ++ r) (pre' ++ r') false ((pre ++ r).length : Int) (pre.length : Int) k0 k1 = k1
  | [], r', pre, pre', hp, hk, h => Evt.step0 fun n ρ k0 k1 => by
    rw [show (Tabs (n + 1)).l13_4_0 = Gl13_4_0 (Tabs n) from rfl]
    unfold Gl13_4_0
    have : decide ((pre.length : Int) < ((pre ++ []).length : Int)) = false := by simp
    simp only [this, cond_false]
  | x :: r, [], pre, pre', hp, hk, h => by simp at hk
  | x :: r, y :: r', pre, pre', hp, hk, h => by
    simp only [List.map_cons, List.cons.injEq] at hk
    obtain ⟨hxy, hk⟩ := hk
    have k1 : x.kind = y.kind := congrArg Prod.fst hxy
    have k2 : x.text = y.text := congrArg Prod.snd hxy
    have hl : pre ++ x :: r = (pre ++ [x]) ++ r := by simp
    have hl' : pre' ++ y :: r' = (pre' ++ [y]) ++ r' := by simp
    have hlen : r.length = r'.length := by have := congrArg List.length hk; simpa using this
    have ih := s13_4k r r' (pre ++ [x]) (pre' ++ [y]) (by simp [hp]) hk (by rw [← hl]; exact h)
    rw [← hl, ← hl'] at ih
    refine ih.step fun n ih ρ k0 k1' => ?_
    rw [show (Tabs (n + 1)).l13_4_0 = Gl13_4_0 (Tabs n) from rfl]
    unfold Gl13_4_0
    have hx : rdEl lay Key.tok (pre ++ x :: r) (pre.length : Int) = x := rdTok pre x r
    have hy : rdEl lay Key.tok (pre' ++ y :: r') (pre.length : Int) = y := by rw [hp]; exact rdTok pre' y r'
    have e1 : decide ((pre.length : Int) < ((pre ++ x :: r).length : Int)) = true := by simp; omega
    have e1' : decide ((pre.length : Int) < ((pre' ++ y :: r').length : Int)) = true := by rw [hp]; simp; omega
    have e2 : decide ((0 : Int) ≤ (pre.length : Int)) = true := by simp
    have e3 : IntKind.wrap .i64 ((pre.length : Int) + 1) = ((pre ++ [x]).length : Int) := by
      have : pre.length ≤ 1000000 := by simp at h; omega
      rw [W_id (by omega) (by omega)]; simp
    have e4 : strEq y.text y.text = true := by simp [strEq]
    simp only [e1, e1', e2, Bool.and_self, cond_true, hx, hy, k1, k2, bne_self_eq_false, cond_false, e4, Bool.not_true, e3, ih]

theorem s13k (r r' : List Tok) (hk : r.map keyT = r'.map keyT) (h : r.length ≤ 1000000) : Evt fun n => ∀ (ρ : Type) k0, (Tabs n).c13_0 ρ r r' false k0 = k0 true := (s13_4k r r' [] [] rfl hk h).step fun n ih ρ k0 => by
  rw [show (Tabs (n + 1)).c13_0 = Gc13_0 (Tabs n) from rfl]
  unfold Gc13_0
  have hlen : r.length = r'.length := by have := congrArg List.length hk; simpa using this
  have : (((List.length r : Nat) : Int) != ((List.length r' : Nat) : Int)) = false := by rw [hlen]; simp
  rw [this]
  exact ih ρ _ _

theorem live_tok {all : List Tok} (h : all.all isT = true) : ∀ x ∈ (live all).map (fun t => (t.kind, txt t)), isTok x.1 x.2 = true ∧ x.1 ≠ 7 := by
  intro x hx
  obtain ⟨t, ht, rfl⟩ := List.mem_map.1 hx
  unfold live at ht
  obtain ⟨h1, h2⟩ := List.mem_filter.1 ht
  exact ⟨List.all_eq_true.1 h t h1, by simpa using h2⟩

theorem toks_join {all : List Tok} (h : all.all isT = true) (h6 : (joined all).length ≤ 6000) : ∃ us : List Tok, toks (joined all) = (us ++ [⟨7, mk [], ((joined all).length : Int)⟩], 0, 0) ∧ us.map keyT = (live all).map keyT := by
  have hts := live_tok h
  have hj : joinT (((live all).map (fun t => (t.kind, txt t))).map (·.2)) = joined all := by simp [joined, Function.comp_def]
  have hsk := skip_join hts
  rw [hj] at hsk
  obtain ⟨us, e1, e2⟩ := tk_join (joined all).length _ (joined all).length hts (by rw [hj]; exact Nat.le_refl _)
  rw [hj] at e1
  refine ⟨us, ?_, ?_⟩
  · unfold toks
    have h6' : decide ((joined all).length ≤ 6000) = true := by simpa using h6
    rw [h6', cond_true, hsk, e1]
  · rw [show us.map keyT = us.map (fun t => (t.kind, t.text)) from rfl, e2, List.map_map]
    apply List.map_congr_left
    intro t _
    simp only [Function.comp_def, keyT, txt_mk]

theorem joins_law (all : List Tok) (hb : all.length * 32 ≤ 140737488351232 ∧ ∀ x ∈ all, x.text.size ≤ 140737488355328) : Evt fun n => ∀ (ρ : Type) K, (Tabs n).c8_0 ρ all K = K true := by
  obtain ⟨hall, htx⟩ := hb
  have e0 : decide ((List.length ([] : List Tok) + List.length all) * 32 ≤ 140737488355328) = true := by simp only [List.length_nil, decide_eq_true_eq]; omega
  have hse : ∀ w : List UInt8, strEq (mk w) (mk w) = true := fun w => by rw [strEq_mk]; simp
  cases ha : all.all isT with
  | false =>
    refine ((s19 hall).and ((s20 hall htx).and awake_ok)).step fun n ⟨h1, h2, h3⟩ ρ K => ?_
    rw [show (Tabs (n + 1)).c8_0 = Gc8_0 (Tabs n) from rfl]
    unfold Gc8_0
    simp only [e0, cond_true, List.nil_append, h1, h2, ha, cond_false, hse, Bool.not_true, bne_self_eq_false, h3]
    rfl
  | true =>
    by_cases h6 : (joined all).length ≤ 6000
    · obtain ⟨us, ht, hk⟩ := toks_join ha h6
      have hlen : us.length = (live all).length := by have := congrArg List.length hk; simpa using this
      have htl := toks_len (joined all)
      rw [ht] at htl
      have hs11 := s11 (joined all)
      rw [ht] at hs11
      have hs13 := s13k (us ++ [⟨7, mk [], ((joined all).length : Int)⟩]) (live all ++ [⟨7, mk [], 0⟩]) (by simp [hk, keyT]) htl
      have l1 := live_len all
      refine ((s19 hall).and ((s20 hall htx).and ((s8_9 hall (mk (joined all)) all [] [] rfl (by simp)).and (hs11.and (hs13.and awake_ok))))).step fun n ⟨h1, h2, h3, h4, h5, h7⟩ ρ K => ?_
      rw [show (Tabs (n + 1)).c8_0 = Gc8_0 (Tabs n) from rfl]
      unfold Gc8_0
      have e1 : decide (((mk (joined all)).size : Int) > (6000 : Int)) = false := by rw [size_big]; simp [h6]
      have e2 : ((0 : Int) != 0) = false := rfl
      simp only [e0, cond_true, List.nil_append, h1, h2, ha, hse, Bool.not_true, cond_false, e2, e1]
      refine (h3 ρ _).trans ?_
      have e3 : decide ((List.length ([] ++ live all) + List.length [(⟨7, ByteArray.mk #[], (0 : Int)⟩ : Tok)]) * 32 ≤ 140737488355328) = true := by
        simp only [List.nil_append, List.length_cons, List.length_nil, decide_eq_true_eq]; omega
      rw [e3, cond_true]
      refine (h4 ρ _).trans ?_
      have e4 : ((0 : Int) == 0) = true := rfl
      rw [e4, cond_true, cond_true]
      refine (h5 ρ _).trans ?_
      rw [cond_true]
      exact h7 ρ _
    · refine ((s19 hall).and ((s20 hall htx).and awake_ok)).step fun n ⟨h1, h2, h3⟩ ρ K => ?_
      rw [show (Tabs (n + 1)).c8_0 = Gc8_0 (Tabs n) from rfl]
      unfold Gc8_0
      have e1 : decide (((mk (joined all)).size : Int) > (6000 : Int)) = true := by rw [size_big]; simp [h6]
      have e2 : ((0 : Int) != 0) = false := rfl
      simp only [e0, cond_true, List.nil_append, h1, h2, ha, hse, Bool.not_true, cond_false, e2, e1, h3]

end Go.Proofs.YtdhpgcjhiommkaaDoor.Ev
