/- This file proves when a raw expression is well formed, and that both checks say so; without any condition. -/
import Derived.Test.YtanfoijdfcnpoaaGreatDoorR0
import Derived.Test.YtanfoijdfcnpoaaGreatDoorVA
set_option linter.unusedVariables false
set_option linter.unusedSimpArgs false
namespace Go.Proofs.YtanfoijdfcnpoaaGreatDoor.Ev

def tyB : List UInt8 := [116, 121, 112, 101]
/-- A name other than type. -/
def nmOk (w : List UInt8) : Bool := nameL letB w && !(w == tyB)

theorem named_eq (w : List UInt8) : cond (nameL capB w) true (cond (nameL smallB w) (!(w == tyB)) false) = nmOk w := by
  cases w with
  | nil => rfl
  | cons c r =>
    simp only [nmOk, nameL]
    have h : letB (c.toNat : Int) = (smallB (c.toNat : Int) || capB (c.toNat : Int)) := rfl
    rw [h]
    cases hs : smallB (c.toNat : Int) with
    | true => simp only [not_small hs, Bool.true_or, Bool.false_and, Bool.and_false, cond_false, Bool.true_and]; cases (decide ((c :: r).length ≤ 16) && (c :: r).all nmC) <;> simp
    | false =>
      cases hc : capB (c.toNat : Int) with
      | false => simp
      | true =>
        have hne : ((c :: r) == tyB) = false := by
          cases hq : ((c :: r) == tyB) with
          | false => rfl
          | true =>
            have := eq_of_beq hq
            simp only [tyB, List.cons.injEq] at this
            rw [this.1] at hs
            exact absurd hs (by decide)
        simp only [hne, Bool.false_or, Bool.true_and, Bool.not_false, Bool.and_true, Bool.false_and, Bool.and_false, cond_false]
        cases (decide ((c :: r).length ≤ 16) && (c :: r).all nmC) <;> simp

theorem s_named (s : ByteArray) : Evt fun k => ∀ (ρ : Type) K, (Tabs k).c38_0 ρ s K = K (nmOk s.data.toList) := by
  rw [mk_of s]
  generalize s.data.toList = w
  refine ((s77 w).and (s54 w)).step fun k ⟨h1, h2⟩ ρ K => ?_
  show Gc38_0 (Tabs k) ρ _ _ = _
  have e : strEq (mk w) (ByteArray.mk #[116, 121, 112, 101]) = (w == tyB) := strEq_mk w tyB
  simp only [Gc38_0, h1, h2, e, ← named_eq, mk_list]
  cases nameL capB w <;> cases nameL smallB w <;> rfl

theorem s_isName (s : ByteArray) : Evt fun k => ∀ (ρ : Type) K, (Tabs k).c14_0 ρ s K = K (nmOk s.data.toList) := by
  rw [mk_of s]
  generalize s.data.toList = w
  refine (s44 w).step fun k h1 ρ K => ?_
  show Gc14_0 (Tabs k) ρ _ _ = _
  have e : strEq (mk w) (ByteArray.mk #[116, 121, 112, 101]) = (w == tyB) := strEq_mk w tyB
  simp only [Gc14_0, h1, e, nmOk, mk_list]
  cases nameL letB w <;> rfl

mutual
def Rw.size : Rw → Nat
  | ⟨_, _, l⟩ => 1 + sizeRL l
def sizeRL : List Rw → Nat
  | [] => 0
  | x :: r => x.size + sizeRL r
end

theorem Rw.size_pos (t : Rw) : 1 ≤ t.size := by cases t; simp [Rw.size]

/-- What a node of a raw expression must be. -/
def nodeB (o : Int) (w : List UInt8) (n : Nat) : Bool :=
  bif o == 1 || o == 3 then n == 0 && w == [] else
  bif o == 2 then n == 0 && nmOk w else
  bif o == 4 || o == 6 then n == 2 && w == [] else
  bif o == 5 || o == 7 then n == 2 && nmOk w else false

mutual
def formB : Rw → Int → Bool
  | ⟨o, nm, l⟩, d => decide (d ≤ 40) && (nodeB o nm.data.toList l.length && formBL l (d + 1))
def formBL : List Rw → Int → Bool
  | [], _ => true
  | x :: r, d => formB x d && formBL r d
end

def wellB (t : Rw) : Bool := decide (t.size ≤ 400) && formB t 1

theorem emp_nm (nm : ByteArray) : strEq nm (ByteArray.mk #[]) = (nm.data.toList == []) := by
  have := strEq_mk nm.data.toList []
  rwa [← mk_of nm] at this

theorem nm_emp : nmOk [] = false := by decide

/-! ### The reference -/

theorem nodes_loop (t : Rw) (most : Nat) (hm : most ≤ 400) : ∀ (r pre : List Rw) (n : Nat), t.args = pre ++ r → n ≤ most + 1 → t.args.length ≤ 140737488351232 →
    (∀ x ∈ r, ∀ m, m ≤ 400 → Evt fun k => ∀ (ρ : Type) K, (Tabs k).c42_0 ρ x (m : Nat) K = K ((min x.size (m + 1) : Nat) : Int)) →
    Evt fun k => ∀ (ρ : Type) k0, (Tabs k).l42_3_0 ρ (most : Nat) (n : Nat) (pre.length : Int) t k0 = k0 (most : Int) ((min (n + sizeRL r) (most + 1) : Nat) : Int)
  | [], pre, n, ha, hn, hl, _ => by
    refine Evt.step0 fun k ρ k0 => ?_
    show Gl42_3_0 (Tabs k) ρ _ _ _ _ _ = _
    have e : decide ((pre.length : Int) < ((t.args).length : Int)) = false := by simp [ha]
    have e2 : min (n + sizeRL []) (most + 1) = n := by simp only [sizeRL]; omega
    simp only [Gl42_3_0, e, cond_false, e2]
  | x :: r, pre, n, ha, hn, hl, ih => by
    have hlen : pre.length < t.args.length := by simp [ha]
    have e1 : decide ((pre.length : Int) < ((t.args).length : Int)) = true := by simp; omega
    have e2 : decide ((0 : Int) ≤ (pre.length : Int)) = true := by simp
    have e4 : IntKind.wrap .i64 ((pre.length : Int) + 1) = ((pre ++ [x]).length : Int) := by
      rw [W_id (by omega) (by omega)]; simp
    have e6 : rdEl lay Key.raw t.args (pre.length : Int) = x := by rw [ha]; exact rdRw ..
    by_cases hnm : n ≤ most
    · have h2 := nodes_loop t most hm r (pre ++ [x]) (n + min x.size (most - n + 1)) (by simp [ha]) (by omega) hl (fun z hz => ih z (List.mem_cons_of_mem _ hz))
      refine ((ih x (List.mem_cons_self ..) (most - n) (by omega)).and h2).step fun k hk ρ k0 => ?_
      obtain ⟨hk1, hk2⟩ := hk
      show Gl42_3_0 (Tabs k) ρ _ _ _ _ _ = _
      have e7 : decide ((n : Int) ≤ (most : Int)) = true := by simp; omega
      have e8 : IntKind.wrap .i64 ((most : Int) - (n : Int)) = ((most - n : Nat) : Int) := by rw [W_id (by omega) (by omega)]; omega
      have e9 : IntKind.wrap .i64 ((n : Int) + ((min x.size (most - n + 1) : Nat) : Int)) = ((n + min x.size (most - n + 1) : Nat) : Int) := by rw [W_id (by omega) (by omega)]; omega
      have e10 : min (n + min x.size (most - n + 1) + sizeRL r) (most + 1) = min (n + sizeRL (x :: r)) (most + 1) := by simp only [sizeRL]; omega
      simp only [Gl42_3_0, e1, e2, e7, Bool.and_self, cond_true, e6, Rw.eta, e8, hk1, e9, e4, hk2, e10]
    · refine Evt.step0 fun k ρ k0 => ?_
      show Gl42_3_0 (Tabs k) ρ _ _ _ _ _ = _
      have e7 : decide ((n : Int) ≤ (most : Int)) = false := by simp; omega
      have e10 : min (n + sizeRL (x :: r)) (most + 1) = n := by omega
      simp only [Gl42_3_0, e1, e7, cond_true, cond_false, e10]

theorem s_nodes (t : Rw) : t.Ok → ∀ m, m ≤ 400 → Evt fun k => ∀ (ρ : Type) K, (Tabs k).c42_0 ρ t (m : Nat) K = K ((min t.size (m + 1) : Nat) : Int) := by
  induction t using Rw.ind with
  | h o nm l ih =>
    intro hok m hm
    have hlen : l.length * 48 ≤ 140737488351232 := hok.len
    refine (nodes_loop ⟨o, nm, l⟩ m hm l [] 1 rfl (by omega) (by show l.length ≤ _; omega) (fun x hx m hm => ih x hx (hok.mem x hx) m hm)).step fun k hk ρ K => ?_
    show Gc42_0 (Tabs k) ρ _ _ _ = _
    have e1 : IntKind.wrap .i64 ((m : Int) + 1) = ((m + 1 : Nat) : Int) := by rw [W_id (by omega) (by omega)]; omega
    have hk' := hk ρ
    simp only [List.length_nil, Int.ofNat_eq_natCast, Int.natCast_zero, Int.natCast_one] at hk'
    simp only [Gc42_0, hk', e1, Rw.size]
    have e2 : min2 ((min (1 + sizeRL l) (m + 1) : Nat) : Int) ((m + 1 : Nat) : Int) = ((min (1 + sizeRL l) (m + 1) : Nat) : Int) := by
      unfold min2; rw [if_neg (by omega)]
    rw [e2]

theorem formed_loop (t : Rw) (d : Int) (hd : 1 ≤ d ∧ d ≤ 40) : ∀ (r pre : List Rw), t.args = pre ++ r → t.args.length ≤ 140737488351232 →
    (∀ x ∈ r, Evt fun k => ∀ (ρ : Type) K, (Tabs k).c43_0 ρ x (d + 1) K = K (formB x (d + 1))) →
    Evt fun k => ∀ (ρ : Type) k0 k1, (Tabs k).l43_18_0 ρ d (pre.length : Int) t k0 k1 = cond (formBL r (d + 1)) k1 (k0 false)
  | [], pre, ha, hl, _ => by
    refine Evt.step0 fun k ρ k0 k1 => ?_
    show Gl43_18_0 (Tabs k) ρ _ _ _ _ _ = _
    have e : decide ((pre.length : Int) < ((t.args).length : Int)) = false := by simp [ha]
    simp only [Gl43_18_0, e, cond_false, formBL, cond_true]
  | x :: r, pre, ha, hl, ih => by
    have h2 := formed_loop t d hd r (pre ++ [x]) (by simp [ha]) hl (fun z hz => ih z (List.mem_cons_of_mem _ hz))
    refine ((ih x (List.mem_cons_self ..)).and h2).step fun k hk ρ k0 k1 => ?_
    obtain ⟨hk1, hk2⟩ := hk
    show Gl43_18_0 (Tabs k) ρ _ _ _ _ _ = _
    have hlen : pre.length < t.args.length := by simp [ha]
    have e1 : decide ((pre.length : Int) < ((t.args).length : Int)) = true := by simp; omega
    have e2 : decide ((0 : Int) ≤ (pre.length : Int)) = true := by simp
    have e4 : IntKind.wrap .i64 ((pre.length : Int) + 1) = ((pre ++ [x]).length : Int) := by
      rw [W_id (by omega) (by omega)]; simp
    have e5 : IntKind.wrap .i64 (d + 1) = d + 1 := W_id (by omega) (by omega)
    have e6 : rdEl lay Key.raw t.args (pre.length : Int) = x := by rw [ha]; exact rdRw ..
    simp only [Gl43_18_0, e1, e2, Bool.and_self, cond_true, e6, Rw.eta, e5, hk1, e4, hk2, formBL]
    cases formB x (d + 1) <;> simp

theorem op_cases (o : Int) : o = 1 ∨ o = 2 ∨ o = 3 ∨ o = 4 ∨ o = 5 ∨ o = 6 ∨ o = 7 ∨ ((o == 1) = false ∧ (o == 2) = false ∧ (o == 3) = false ∧ (o == 4) = false ∧ (o == 5) = false ∧ (o == 6) = false ∧ (o == 7) = false) := by
  simp only [beq_eq_false_iff_ne]
  omega

theorem len_ne (l : List Rw) (n : Nat) : (((List.length l : Nat) : Int) != (n : Int)) = !(l.length == n) := by
  rw [bne, show (((List.length l : Nat) : Int) == (n : Int)) = (l.length == n) from by
    rw [Bool.eq_iff_iff]; simp; omega]
theorem len_ne0 (l : List Rw) : (((List.length l : Nat) : Int) != (0 : Int)) = !(l.length == 0) := len_ne l 0
theorem len_ne2 (l : List Rw) : (((List.length l : Nat) : Int) != (2 : Int)) = !(l.length == 2) := len_ne l 2

theorem s_formed (t : Rw) : t.Ok → ∀ d : Int, 1 ≤ d → d ≤ 41 → Evt fun k => ∀ (ρ : Type) K, (Tabs k).c43_0 ρ t d K = K (formB t d) := by
  induction t using Rw.ind with
  | h o nm l ih =>
    intro hok d h1 h2
    have hlen : l.length * 48 ≤ 140737488351232 := hok.len
    by_cases hd : d ≤ 40
    · refine ((formed_loop ⟨o, nm, l⟩ d ⟨h1, hd⟩ l [] rfl (by show l.length ≤ _; omega) (fun x hx => ih x hx (hok.mem x hx) (d + 1) (by omega) (by omega))).and (s_isName nm)).step fun k hk ρ K => ?_
      obtain ⟨hk, hn⟩ := hk
      show Gc43_0 (Tabs k) ρ _ _ _ = _
      have hk' := hk ρ
      simp only [List.length_nil, Int.natCast_zero] at hk'
      have hd1 : decide (d > (40 : Int)) = false := by simp; omega
      have hd2 : decide (d ≤ (40 : Int)) = true := by simp; omega
      rcases op_cases o with rfl | rfl | rfl | rfl | rfl | rfl | rfl | ⟨q1, q2, q3, q4, q5, q6, q7⟩
      all_goals
        simp only [Gc43_0, formB, nodeB, hd1, hd2, len_ne0, len_ne2, emp_nm, hk', hn, Int.reduceBEq, cond_true, cond_false, Bool.true_or, Bool.or_true, Bool.or_false, Bool.or_self, Bool.true_and]
      · cases l.length == 0 <;> cases nm.data.toList == [] <;> cases formBL l (d + 1) <;> rfl
      · cases l.length == 0 <;> cases hw : nm.data.toList == [] <;> cases hv : nmOk nm.data.toList <;> cases formBL l (d + 1) <;> first | rfl | (rw [eq_of_beq hw] at hv; exact absurd hv (by decide))
      · cases l.length == 0 <;> cases nm.data.toList == [] <;> cases formBL l (d + 1) <;> rfl
      · cases l.length == 2 <;> cases nm.data.toList == [] <;> cases formBL l (d + 1) <;> rfl
      · cases l.length == 2 <;> cases hw : nm.data.toList == [] <;> cases hv : nmOk nm.data.toList <;> cases formBL l (d + 1) <;> first | rfl | (rw [eq_of_beq hw] at hv; exact absurd hv (by decide))
      · cases l.length == 2 <;> cases nm.data.toList == [] <;> cases formBL l (d + 1) <;> rfl
      · cases l.length == 2 <;> cases hw : nm.data.toList == [] <;> cases hv : nmOk nm.data.toList <;> cases formBL l (d + 1) <;> first | rfl | (rw [eq_of_beq hw] at hv; exact absurd hv (by decide))
      · simp only [q1, q2, q3, q4, q5, q6, q7, cond_false, Bool.or_self, Bool.false_and]
    · refine Evt.step0 fun k ρ K => ?_
      show Gc43_0 (Tabs k) ρ _ _ _ = _
      have hd1 : decide (d > (40 : Int)) = true := by simp; omega
      have hd2 : decide (d ≤ (40 : Int)) = false := by simp; omega
      rcases op_cases o with rfl | rfl | rfl | rfl | rfl | rfl | rfl | ⟨q1, q2, q3, q4, q5, q6, q7⟩
      all_goals
        simp only [Gc43_0, formB, hd1, hd2, Int.reduceBEq, cond_true, cond_false, Bool.false_and]
      simp only [q1, q2, q3, q4, q5, q6, q7, cond_false]

theorem s_well (t : Rw) (h : t.Ok) : Evt fun k => ∀ (ρ : Type) K, (Tabs k).c13_0 ρ t K = K (wellB t) := by
  refine ((s_nodes t h 400 (by omega)).and (s_formed t h 1 (by omega) (by omega))).step fun k hk ρ K => ?_
  obtain ⟨h1, h2⟩ := hk
  show Gc13_0 (Tabs k) ρ _ _ = _
  have h1' := h1 ρ
  simp only [show ((400 : Nat) : Int) = 400 from rfl] at h1'
  simp only [Gc13_0, Rw.eta, h1', h2, wellB]
  by_cases hs : t.size ≤ 400
  · have e1 : decide (((min t.size (400 + 1) : Nat) : Int) ≤ 400) = true := by simp only [decide_eq_true_eq]; omega
    rw [e1]; simp [hs]
  · have e1 : decide (((min t.size (400 + 1) : Nat) : Int) ≤ 400) = false := by simp only [decide_eq_false_iff_not]; omega
    rw [e1]; simp [hs]

/-! ### The program -/

mutual
def cnt : Rw → Int → Nat → Bool × Nat
  | ⟨o, nm, l⟩, d, n => bif decide (n + 1 ≤ 400) && (decide (d ≤ 40) && nodeB o nm.data.toList l.length) then cntL l (d + 1) (n + 1) else (false, n + 1)
def cntL : List Rw → Int → Nat → Bool × Nat
  | [], _, n => (true, n)
  | x :: r, d, n => match cnt x d n with | (false, m) => (false, m) | (true, m) => cntL r d m
end

theorem cnt_le (t : Rw) : ∀ d n, n ≤ 400 → (cnt t d n).2 ≤ 401 ∧ ((cnt t d n).1 = true → (cnt t d n).2 ≤ 400) := by
  induction t using Rw.ind with
  | h o nm l ih =>
    intro d n hn
    have key : ∀ (l : List Rw), (∀ x ∈ l, ∀ d n, n ≤ 400 → (cnt x d n).2 ≤ 401 ∧ ((cnt x d n).1 = true → (cnt x d n).2 ≤ 400)) → ∀ d n, n ≤ 400 → (cntL l d n).2 ≤ 401 ∧ ((cntL l d n).1 = true → (cntL l d n).2 ≤ 400) := by
      intro l
      induction l with
      | nil => intro _ d n hn; simp [cntL]; omega
      | cons x r ihr =>
        intro h d n hn
        have hx := h x (List.mem_cons_self ..) d n hn
        simp only [cntL]
        rcases hc : cnt x d n with ⟨b, m⟩
        rw [hc] at hx
        cases b with
        | false => exact ⟨hx.1, fun h => by cases h⟩
        | true => exact ihr (fun z hz => h z (List.mem_cons_of_mem _ hz)) d m (hx.2 rfl)
    simp only [cnt]
    cases hc : (decide (n + 1 ≤ 400) && (decide (d ≤ 40) && nodeB o nm.data.toList l.length)) with
    | false => simp only [cond_false]; exact ⟨by omega, fun h => by cases h⟩
    | true =>
      simp only [cond_true]
      simp only [Bool.and_eq_true, decide_eq_true_eq] at hc
      exact key l ih (d + 1) (n + 1) hc.1

theorem cnt_spec (t : Rw) : ∀ d n, n ≤ 400 → ((cnt t d n).1 = (formB t d && decide (n + t.size ≤ 400))) ∧ ((cnt t d n).1 = true → (cnt t d n).2 = n + t.size) := by
  induction t using Rw.ind with
  | h o nm l ih =>
    intro d n hn
    have key : ∀ (l : List Rw), (∀ x ∈ l, ∀ d n, n ≤ 400 → ((cnt x d n).1 = (formB x d && decide (n + x.size ≤ 400))) ∧ ((cnt x d n).1 = true → (cnt x d n).2 = n + x.size)) →
        ∀ d n, n ≤ 400 → ((cntL l d n).1 = (formBL l d && decide (n + sizeRL l ≤ 400))) ∧ ((cntL l d n).1 = true → (cntL l d n).2 = n + sizeRL l) := by
      intro l
      induction l with
      | nil => intro _ d n hn; simp [cntL, formBL, sizeRL, hn]
      | cons x r ihr =>
        intro h d n hn
        obtain ⟨hx1, hx2⟩ := h x (List.mem_cons_self ..) d n hn
        have hle := cnt_le x d n hn
        simp only [cntL, formBL, sizeRL]
        rcases hc : cnt x d n with ⟨b, m⟩
        rw [hc] at hx1 hx2 hle
        cases b with
        | false =>
          refine ⟨?_, fun h => by cases h⟩
          simp only at hx1
          cases hf : formB x d with
          | false => simp
          | true =>
            rw [hf, Bool.true_and] at hx1
            have : ¬ (n + x.size ≤ 400) := of_decide_eq_false hx1.symm
            have hno : ¬ (n + (x.size + sizeRL r) ≤ 400) := by omega
            simp [hno]
        | true =>
          have hm := hx2 rfl
          simp only at hm
          obtain ⟨h1, h2⟩ := ihr (fun z hz => h z (List.mem_cons_of_mem _ hz)) d m (hle.2 rfl)
          simp only [Bool.true_eq, Bool.and_eq_true] at hx1
          refine ⟨?_, fun h => ?_⟩
          · subst hm
            rw [hx1.1, Bool.true_and]
            show (cntL r d (n + x.size)).1 = _
            rw [h1, Nat.add_assoc]; rfl
          · rw [h2 h, hm, Nat.add_assoc]
    simp only [cnt, formB, Rw.size]
    by_cases hn1 : n + 1 ≤ 400
    · cases hc : (decide (d ≤ 40) && nodeB o nm.data.toList l.length) with
      | false => simp only [hn1, decide_true, Bool.true_and, cond_false, ← Bool.and_assoc, hc, Bool.false_and]; exact ⟨trivial, fun h => by cases h⟩
      | true =>
        obtain ⟨h1, h2⟩ := key l ih (d + 1) (n + 1) hn1
        simp only [hn1, decide_true, Bool.true_and, cond_true, ← Bool.and_assoc, hc]
        refine ⟨?_, fun h => by rw [h2 h]; omega⟩
        rw [h1, Nat.add_assoc]; rfl
    · have : ¬ (n + (1 + sizeRL l) ≤ 400) := by omega
      simp only [hn1, this, decide_false, Bool.false_and, Bool.and_false, cond_false]
      exact ⟨trivial, fun h => by cases h⟩

theorem count_loop (l : List Rw) (d : Int) (hd : 1 ≤ d ∧ d ≤ 40) (hl : l.length ≤ 140737488351232) : ∀ (r pre : List Rw) (n : Nat), l = pre ++ r → n ≤ 400 →
    (∀ x ∈ r, ∀ n : Nat, n ≤ 400 → Evt fun k => ∀ (ρ : Type) K, (Tabs k).c70_0 ρ x (d + 1) (n : Nat) K = K (cnt x (d + 1) n).1 ((cnt x (d + 1) n).2 : Nat)) →
    Evt fun k => ∀ (ρ : Type) k0 k1, (Tabs k).l70_20_0 ρ d l (l.length : Int) (pre.length : Int) (n : Nat) k0 k1 = cond (cntL r (d + 1) n).1 (k1 ((cntL r (d + 1) n).2 : Nat)) (k0 false ((cntL r (d + 1) n).2 : Nat))
  | [], pre, n, ha, hn, _ => by
    refine Evt.step0 fun k ρ k0 k1 => ?_
    show Gl70_20_0 (Tabs k) ρ _ _ _ _ _ _ _ = _
    have e : decide ((pre.length : Int) < ((l).length : Int)) = false := by simp [ha]
    simp only [Gl70_20_0, e, cond_false, cntL, cond_true]
  | x :: r, pre, n, ha, hn, ih => by
    have hlen : pre.length < l.length := by simp [ha]
    have e1 : decide ((pre.length : Int) < ((l).length : Int)) = true := by simp; omega
    have e2 : decide ((0 : Int) ≤ (pre.length : Int)) = true := by simp
    have e4 : IntKind.wrap .i64 ((pre.length : Int) + 1) = ((pre ++ [x]).length : Int) := by
      rw [W_id (by omega) (by omega)]; simp
    have e5 : IntKind.wrap .i64 (d + 1) = d + 1 := W_id (by omega) (by omega)
    have e6 : rdEl lay Key.raw l (pre.length : Int) = x := by rw [ha]; exact rdRw ..
    have hle := cnt_le x (d + 1) n hn
    cases hc : cnt x (d + 1) n with
    | mk b m =>
      rw [hc] at hle
      cases b with
      | false =>
        refine (ih x (List.mem_cons_self ..) n hn).step fun k hk1 ρ k0 k1 => ?_
        show Gl70_20_0 (Tabs k) ρ _ _ _ _ _ _ _ = _
        simp only [Gl70_20_0, e1, e2, Bool.and_self, cond_true, e6, Rw.eta, e5, hk1, hc, Bool.not_false, cntL, cond_false]
      | true =>
        refine ((ih x (List.mem_cons_self ..) n hn).and (count_loop l d hd hl r (pre ++ [x]) m (by simp [ha]) (hle.2 rfl) (fun z hz => ih z (List.mem_cons_of_mem _ hz)))).step fun k hk ρ k0 k1 => ?_
        obtain ⟨hk1, hk2⟩ := hk
        show Gl70_20_0 (Tabs k) ρ _ _ _ _ _ _ _ = _
        simp only [Gl70_20_0, e1, e2, Bool.and_self, cond_true, e6, Rw.eta, e5, hk1, hc, Bool.not_true, cntL, cond_false, e4, hk2]

theorem s_count (t : Rw) : t.Ok → ∀ (d : Int) (n : Nat), 1 ≤ d → d ≤ 41 → n ≤ 400 → Evt fun k => ∀ (ρ : Type) K, (Tabs k).c70_0 ρ t d (n : Nat) K = K (cnt t d n).1 ((cnt t d n).2 : Nat) := by
  induction t using Rw.ind with
  | h o nm l ih =>
    intro hok d n h1 h2 hn
    have hlen : l.length * 48 ≤ 140737488351232 := hok.len
    have en : IntKind.wrap .i64 ((n : Int) + 1) = ((n + 1 : Nat) : Int) := by rw [W_id (by omega) (by omega)]; omega
    by_cases hd : d ≤ 40 ∧ n + 1 ≤ 400
    · refine ((count_loop l d ⟨h1, hd.1⟩ (by omega) l [] (n + 1) rfl hd.2 (fun x hx m hm => ih x hx (hok.mem x hx) (d + 1) m (by omega) (by omega) hm)).and (s_named nm)).step fun k hk ρ K => ?_
      obtain ⟨hk, hn'⟩ := hk
      show Gc70_0 (Tabs k) ρ _ _ _ _ = _
      have hk' := hk ρ
      simp only [List.length_nil, Int.natCast_zero] at hk'
      have hd1 : decide (d > (40 : Int)) = false := by simp; omega
      have hd2 : decide (d ≤ (40 : Int)) = true := by simp; omega
      have hd3 : decide (((n + 1 : Nat) : Int) > (400 : Int)) = false := by simp only [decide_eq_false_iff_not]; omega
      have hd4 : decide (n + 1 ≤ 400) = true := by simp; omega
      have hfin : ∀ (c : Bool × Nat), (bif c.1 then K true ((c.2 : Nat) : Int) else K false ((c.2 : Nat) : Int)) = K c.1 ((c.2 : Nat) : Int) := by rintro ⟨b, m⟩; cases b <;> rfl
      rcases op_cases o with rfl | rfl | rfl | rfl | rfl | rfl | rfl | ⟨q1, q2, q3, q4, q5, q6, q7⟩
      all_goals
        simp only [Gc70_0, cnt, nodeB, en, hd1, hd2, hd3, hd4, len_ne0, len_ne2, emp_nm, hk', hn', Int.reduceBEq, cond_true, cond_false, Bool.true_or, Bool.or_true, Bool.or_false, Bool.or_self, Bool.true_and]
      · cases l.length == 0 <;> cases hw : nm.data.toList == [] <;> cases hv : nmOk nm.data.toList <;> first | rfl | exact hfin _ | (rw [eq_of_beq hw] at hv; exact absurd hv (by decide))
      · cases l.length == 0 <;> cases hv : nmOk nm.data.toList <;> first | rfl | exact hfin _
      · cases l.length == 0 <;> cases hw : nm.data.toList == [] <;> cases hv : nmOk nm.data.toList <;> first | rfl | exact hfin _ | (rw [eq_of_beq hw] at hv; exact absurd hv (by decide))
      · cases l.length == 2 <;> cases hw : nm.data.toList == [] <;> cases hv : nmOk nm.data.toList <;> first | rfl | exact hfin _ | (rw [eq_of_beq hw] at hv; exact absurd hv (by decide))
      · cases l.length == 2 <;> cases hv : nmOk nm.data.toList <;> first | rfl | exact hfin _
      · cases l.length == 2 <;> cases hw : nm.data.toList == [] <;> cases hv : nmOk nm.data.toList <;> first | rfl | exact hfin _ | (rw [eq_of_beq hw] at hv; exact absurd hv (by decide))
      · cases l.length == 2 <;> cases hv : nmOk nm.data.toList <;> first | rfl | exact hfin _
      · simp only [q1, q2, q3, q4, q5, q6, q7, cond_false, Bool.or_self, Bool.and_false]
    · refine Evt.step0 fun k ρ K => ?_
      show Gc70_0 (Tabs k) ρ _ _ _ _ = _
      have hc : (decide (n + 1 ≤ 400) && (decide (d ≤ 40) && nodeB o nm.data.toList l.length)) = false := by
        by_cases h3 : n + 1 ≤ 400
        · have : decide (d ≤ 40) = false := by simp only [decide_eq_false_iff_not]; omega
          rw [this]; simp
        · simp [h3]
      simp only [cnt, hc, cond_false]
      by_cases h3 : n + 1 ≤ 400
      · have hd3 : decide (((n + 1 : Nat) : Int) > (400 : Int)) = false := by simp only [decide_eq_false_iff_not]; omega
        have hd1 : decide (d > (40 : Int)) = true := by simp; omega
        simp only [Gc70_0, en, hd3, hd1, cond_true, cond_false]
      · have hd3 : decide (((n + 1 : Nat) : Int) > (400 : Int)) = true := by simp only [decide_eq_true_eq]; omega
        simp only [Gc70_0, en, hd3, cond_true]

theorem s_check (t : Rw) (h : t.Ok) : Evt fun k => ∀ (ρ : Type) K, (Tabs k).c33_0 ρ t K = K (bif wellB t then 0 else 2) := by
  refine (s_count t h 1 0 (by omega) (by omega) (by omega)).step fun k hk ρ K => ?_
  show Gc33_0 (Tabs k) ρ _ _ = _
  have hk' := hk ρ
  simp only [Int.natCast_zero] at hk'
  have hs := (cnt_spec t 1 0 (by omega)).1
  simp only [Nat.zero_add] at hs
  simp only [Gc33_0, Rw.eta, hk', hs, wellB]
  cases formB t 1 <;> cases decide (t.size ≤ 400) <;> rfl

end Go.Proofs.YtanfoijdfcnpoaaGreatDoor.Ev
