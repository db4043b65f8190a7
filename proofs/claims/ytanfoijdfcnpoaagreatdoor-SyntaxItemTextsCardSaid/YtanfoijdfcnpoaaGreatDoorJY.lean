/- This file proves when items are well formed for the reference, and that it finds an item to be the same as itself; without any condition. -/
import Derived.Test.YtanfoijdfcnpoaaGreatDoorJA
import Derived.Test.YtanfoijdfcnpoaaGreatDoorR1
set_option linter.unusedVariables false
set_option linter.unusedSimpArgs false
namespace Go.Proofs.YtanfoijdfcnpoaaGreatDoor.Ev

theorem s_noRaw : Evt fun k => ∀ (r : Rw) (ρ : Type) K, (Tabs k).c60_0 ρ r K = K (noRawB r) := Evt.step0 fun k r ρ K => by
  rw [show (Tabs (k + 1)).c60_0 = Gc60_0 (Tabs k) from rfl]
  simp only [Gc60_0, noRawB, oplenR]
  cases r.op == 0 <;> cases strEq r.name (ByteArray.mk #[]) <;> rfl

theorem sign_loop (ws : List ByteArray) (hw : ws.length ≤ 1000) : ∀ (r pre : List ByteArray), ws = pre ++ r →
    Evt fun k => ∀ (x : ByteArray) (ρ : Type) k0 k1, (Tabs k).l98_2_0 ρ x ws (ws.length : Int) (pre.length : Int) k0 k1 = bif r.any (strEq x) then k0 true else k1
  | [], pre, ha => by
    refine Evt.step0 fun k x ρ k0 k1 => ?_
    rw [show (Tabs (k + 1)).l98_2_0 = Gl98_2_0 (Tabs k) from rfl]
    have e : decide ((pre.length : Int) < ((ws).length : Int)) = false := by simp [ha]
    simp only [Gl98_2_0, e, cond_false, List.any_nil]
  | y :: r, pre, ha => by
    refine (sign_loop ws hw r (pre ++ [y]) (by simp [ha])).step fun k ih x ρ k0 k1 => ?_
    rw [show (Tabs (k + 1)).l98_2_0 = Gl98_2_0 (Tabs k) from rfl]
    have hlen : pre.length < ws.length := by simp [ha]
    have e1 : decide ((pre.length : Int) < ((ws).length : Int)) = true := by simp; omega
    have e2 : decide ((0 : Int) ≤ (pre.length : Int)) = true := by simp
    have e4 : IntKind.wrap .i64 ((pre.length : Int) + 1) = ((pre ++ [y]).length : Int) := by
      rw [W_id (by omega) (by omega)]; simp
    have e6 : rdEl lay Key.str ws (pre.length : Int) = y := by rw [ha]; exact rdStr ..
    simp only [Gl98_2_0, e1, e2, Bool.and_self, cond_true, e6, e4, ih, List.any_cons]
    cases strEq x y <;> simp

theorem s_sign (ws : List ByteArray) (hw : ws.length ≤ 1000) : Evt fun k => ∀ (x : ByteArray) (ρ : Type) K, (Tabs k).c98_0 ρ x ws K = K (ws.any (strEq x)) :=
  (sign_loop ws hw ws [] rfl).step fun k h x ρ K => by
    rw [show (Tabs (k + 1)).c98_0 = Gc98_0 (Tabs k) from rfl]
    have h := h x ρ
    simp only [List.length_nil, Int.natCast_zero] at h
    simp only [Gc98_0, h]
    cases ws.any (strEq x) <;> rfl

/-! ### The reference: parts -/

theorem part_loop (p : Pt) (d : Int) (hd : 1 ≤ d ∧ d ≤ 40) (b : Bool) : ∀ (r pre : List Pt), p.parts = pre ++ r → p.parts.length ≤ 140737488351232 → (∀ x ∈ r, Evt fun k => ∀ (ρ : Type) K, (Tabs k).c62_0 ρ x (d + 1) K = K (partB x (d + 1))) →
    Evt fun k => ∀ (ρ : Type) k0 k1, (Tabs k).l62_23_0 ρ d b (pre.length : Int) p k0 k1 = cond (partBL r (d + 1)) (k1 b p) (k0 false)
  | [], pre, ha, hl, _ => by
    refine Evt.step0 fun k ρ k0 k1 => ?_
    rw [show (Tabs (k + 1)).l62_23_0 = Gl62_23_0 (Tabs k) from rfl]
    have e : decide ((pre.length : Int) < ((p.parts).length : Int)) = false := by simp [ha]
    simp only [Gl62_23_0, e, cond_false, partBL, cond_true, rdE_parts]
  | x :: r, pre, ha, hl, ih => by
    have h2 := part_loop p d hd b r (pre ++ [x]) (by simp [ha]) hl (fun z hz => ih z (List.mem_cons_of_mem _ hz))
    refine ((ih x (List.mem_cons_self ..)).and h2).step fun k ⟨hk1, hk2⟩ ρ k0 k1 => ?_
    rw [show (Tabs (k + 1)).l62_23_0 = Gl62_23_0 (Tabs k) from rfl]
    have hlen : pre.length < p.parts.length := by simp [ha]
    have e1 : decide ((pre.length : Int) < ((p.parts).length : Int)) = true := by simp; omega
    have e2 : decide ((0 : Int) ≤ (pre.length : Int)) = true := by simp
    have e4 : IntKind.wrap .i64 ((pre.length : Int) + 1) = ((pre ++ [x]).length : Int) := by
      rw [W_id (by omega) (by omega)]; simp
    have e5 : IntKind.wrap .i64 (d + 1) = d + 1 := W_id (by omega) (by omega)
    have e6 : rdEl lay Key.part p.parts (pre.length : Int) = x := by rw [ha]; exact rdPt ..
    simp only [Gl62_23_0, e1, e2, Bool.and_self, cond_true, e6, rdE_parts, e5, hk1, e4, hk2, partBL]
    cases partB x (d + 1) <;> simp

/-- What the reference's part is made of. -/
structure Hs (k : Nat) : Prop where
  noRaw : ∀ (r : Rw) (ρ : Type) K, (Tabs k).c60_0 ρ r K = K (noRawB r)
  sign1 : ∀ (x : ByteArray) (ρ : Type) K, (Tabs k).c98_0 ρ x [tPl, tMi, tSt] K = K (sgn1 x)
  sign2 : ∀ (x : ByteArray) (ρ : Type) K, (Tabs k).c98_0 ρ x [tCo, tBa, tEq] K = K (sgn2 x)

theorem hs : Evt Hs := (s_noRaw.and ((s_sign [tPl, tMi, tSt] (by simp)).and (s_sign [tCo, tBa, tEq] (by simp)))).mono fun k ⟨h1, h2, h3⟩ => ⟨h1, h2, h3⟩

theorem s_part (t : Pt) : t.Ok → ∀ d : Int, 1 ≤ d → d ≤ 41 → Evt fun k => ∀ (ρ : Type) K, (Tabs k).c62_0 ρ t d K = K (partB t d) := by
  induction t using Pt.ind with
  | h o s nm n r l ih =>
    intro hok d h1 h2
    have hlen : l.length * 120 ≤ 140737488351232 := hok.len
    by_cases hd : d ≤ 40
    · refine ((part_loop ⟨o, s, nm, n, r, l⟩ d ⟨h1, hd⟩ (noRawB r) l [] rfl (by show l.length ≤ _; omega) (fun x hx => ih x hx (hok.mem x hx) (d + 1) (by omega) (by omega))).and
        ((part_loop ⟨o, s, nm, n, r, l⟩ d ⟨h1, hd⟩ false l [] rfl (by show l.length ≤ _; omega) (fun x hx => ih x hx (hok.mem x hx) (d + 1) (by omega) (by omega))).and ((s_isName nm).and ((s_well r hok.rw').and hs)))).step fun k ⟨l1, l2, hn, hw, hs⟩ ρ K => ?_
      rw [show (Tabs (k + 1)).c62_0 = Gc62_0 (Tabs k) from rfl]
      have l1' := l1 ρ
      have l2' := l2 ρ
      simp only [List.length_nil, Int.natCast_zero] at l1' l2'
      have hd1 : decide (d > (40 : Int)) = false := by simp; omega
      have hd2 : decide (d ≤ (40 : Int)) = true := by simp; omega
      have hb : o ≠ 5 → o ≠ 6 → partB ⟨o, s, nm, n, r, l⟩ d = nodeP o s nm n r l := fun h5 h6 => by
        simp only [partB, hd2, Bool.true_and]; exact partB_eq d h5 h6
      rcases op_cases8 o with rfl | rfl | rfl | rfl | rfl | rfl | rfl | rfl | ⟨p1, p2, p3, p4, p5, p6, p7, p8⟩
      · rw [hb (by decide) (by decide)]
        simp only [Gc62_0, hd1, hd2, hs.noRaw, hs.sign1, hs.sign2, hn, hw, Rw.eta, oplen, Int.reduceBEq, cond_true, cond_false, Bool.true_and, nodeP]
        cases strEq s tNo <;> cases n == 0 <;> cases noRawB r <;> cases nmOk nm.data.toList <;> cases l.length == 0 <;> rfl
      · rw [hb (by decide) (by decide)]
        simp only [Gc62_0, hd1, hd2, hs.noRaw, hs.sign1, hs.sign2, hn, hw, Rw.eta, oplen, Int.reduceBEq, cond_true, cond_false, Bool.true_and, nodeP]
        cases strEq s tNo <;> cases n == 0 <;> cases noRawB r <;> cases nmOk nm.data.toList <;> cases l.length == 0 <;> cases sgn1 s <;> rfl
      · rw [hb (by decide) (by decide)]
        simp only [Gc62_0, hd1, hd2, hs.noRaw, hs.sign1, hs.sign2, hn, hw, Rw.eta, oplen, Int.reduceBEq, cond_true, cond_false, Bool.true_and, nodeP, ge_iff_le]
        cases strEq s tNo <;> cases n == 0 <;> cases noRawB r <;> cases strEq nm tNo <;> cases l.length == 0 <;> cases decide ((0 : Int) ≤ n) <;> cases decide (n ≤ (10000 : Int)) <;> rfl
      · rw [hb (by decide) (by decide)]
        simp only [Gc62_0, hd1, hd2, hs.noRaw, hs.sign1, hs.sign2, hn, hw, Rw.eta, oplen, Int.reduceBEq, cond_true, cond_false, Bool.true_and, nodeP]
        cases strEq s tNo <;> cases n == 0 <;> cases noRawB r <;> cases strEq nm tNo <;> cases l.length == 0 <;> cases wellB r <;> rfl
      · cases hx : lexBad l with
        | true =>
          obtain ⟨a, b, l3, rfl⟩ : ∃ a b l3, l = a :: b :: l3 := by
            match l, hx with
            | a :: b :: l3, _ => exact ⟨a, b, l3, rfl⟩
          simp only [lexBad, Bool.and_eq_true] at hx
          obtain ⟨x1, x2, x3⟩ := hx
          obtain ⟨c1, c2, c3⟩ := lex_two (a := a) (b := b) (l := l3)
          simp only [Gc62_0, partB, hd1, hd2, hs.noRaw, Int.reduceBEq, cond_true, cond_false, c1, c2, c3, rdPt0, rdPt1, x1, x2, x3, nodeP, lexBad, Bool.and_self, Bool.not_true, Bool.false_and, Bool.and_false]
          cases strEq s tNo <;> cases n == 0 <;> cases noRawB r <;> rfl
        | false =>
          simp only [Gc62_0, partB, hd1, hd2, hs.noRaw, Rw.eta, oplen, Int.reduceBEq, cond_true, cond_false, Bool.true_and, l1', l2', nodeP, hx, Bool.not_false]
          have fin : ∀ p : Option ρ, cond (decide (((List.length l : Nat) : Int) > (1 : Int))) (cond (decide ((0 : Int) ≤ (0 : Int)) && decide ((0 : Int) < ((List.length l : Nat) : Int))) (cond ((rdEl lay Key.part l (0 : Int)).op == (1 : Int)) (cond (decide ((0 : Int) ≤ (1 : Int)) && decide ((1 : Int) < ((List.length l : Nat) : Int))) (cond ((rdEl lay Key.part l (1 : Int)).op == (8 : Int)) (cond (decide ((0 : Int) ≤ (1 : Int)) && decide ((1 : Int) < ((List.length l : Nat) : Int))) (cond (strEq ((rdEl lay Key.part l (1 : Int)).sign) (ByteArray.mk #[58])) (K false) p) (none)) p) (none)) p) (none)) p = p := by
            intro p
            match l, hx with
            | [], _ => rfl
            | [a], _ => rfl
            | a :: b :: l3, hx =>
              obtain ⟨c1, c2, c3⟩ := lex_two (a := a) (b := b) (l := l3)
              simp only [c1, c2, c3, rdPt0, rdPt1, cond_true]
              simp only [lexBad] at hx
              cases x1 : a.op == 1 <;> cases x2 : b.op == 8 <;> cases x3 : strEq b.sign tCo <;> first | rfl | (rw [x1, x2, x3] at hx; cases hx)
          rw [fin, fin]
          cases strEq s tNo <;> cases n == 0 <;> cases noRawB r <;> cases strEq nm tNo <;> cases partBL l (d + 1) <;> rfl
      · simp only [Gc62_0, partB, hd1, hd2, hs.noRaw, Rw.eta, oplen, Int.reduceBEq, cond_true, cond_false, Bool.true_and, l1', l2', nodeP]
        cases strEq s tNo <;> cases n == 0 <;> cases noRawB r <;> cases strEq nm tNo <;> cases partBL l (d + 1) <;> rfl
      · rw [hb (by decide) (by decide)]
        simp only [Gc62_0, hd1, hd2, hs.noRaw, hs.sign1, hs.sign2, hn, hw, Rw.eta, oplen, Int.reduceBEq, cond_true, cond_false, Bool.true_and, nodeP]
        cases strEq s tNo <;> cases n == 0 <;> cases noRawB r <;> cases nmOk nm.data.toList <;> cases l.length == 0 <;> cases wellB r <;> rfl
      · rw [hb (by decide) (by decide)]
        simp only [Gc62_0, hd1, hd2, hs.noRaw, hs.sign1, hs.sign2, hn, hw, Rw.eta, oplen, Int.reduceBEq, cond_true, cond_false, Bool.true_and, nodeP]
        cases strEq s tNo <;> cases n == 0 <;> cases noRawB r <;> cases strEq nm tNo <;> cases l.length == 0 <;> cases sgn2 s <;> rfl
      · simp only [Gc62_0, partB, hd1, hd2, hs.noRaw, p1, p2, p3, p4, p5, p6, p7, p8, cond_false, Bool.true_and, nodeP, Bool.false_and]
        cases strEq s tNo <;> cases n == 0 <;> rfl
    · refine Evt.step0 fun k ρ K => ?_
      rw [show (Tabs (k + 1)).c62_0 = Gc62_0 (Tabs k) from rfl]
      have hd1 : decide (d > (40 : Int)) = true := by simp; omega
      have hd2 : decide (d ≤ (40 : Int)) = false := by simp; omega
      rw [Gc62_0, hd1, cond_true]
      simp only [partB, hd2, Bool.false_and]

/-! ### The reference -/

theorem min2_nat (a b : Nat) : min2 (a : Int) (b : Int) = ((min a b : Nat) : Int) := by
  by_cases h : a ≤ b
  · rw [min2_le (by omega), Nat.min_eq_left h]
  · rw [min2_ge (by omega), Nat.min_eq_right (by omega)]

theorem many_loop (M : Nat) (hM : M ≤ 401) (l : List Pt) (hl : l.length ≤ 140737488351232) : ∀ (r pre : List Pt) (n : Nat), l = pre ++ r → n ≤ M →
    (∀ x ∈ r, ∀ m : Nat, m ≤ 401 → Evt fun k => ∀ (ρ : Type) K, (Tabs k).c61_0 ρ x.parts ((m : Int) - 1) K = K ((min (sizePL x.parts) m : Nat) : Int)) →
    Evt fun k => ∀ (ρ : Type) K, (Tabs k).l61_3_0 ρ l ((M : Int) - 1) (n : Int) (pre.length : Int) K = K ((M : Int) - 1) ((min (n + sizePL r) M : Nat) : Int)
  | [], pre, n, ha, hn, _ => by
    refine Evt.step0 fun k ρ K => ?_
    rw [show (Tabs (k + 1)).l61_3_0 = Gl61_3_0 (Tabs k) from rfl]
    have e : decide ((pre.length : Int) < ((l).length : Int)) = false := by simp [ha]
    simp only [Gl61_3_0, e, cond_false, sizePL, Nat.add_zero, Nat.min_eq_left hn]
  | x :: r, pre, n, ha, hn, ih => by
    have hlen : pre.length < l.length := by simp [ha]
    have e1 : decide ((pre.length : Int) < ((l).length : Int)) = true := by simp; omega
    have e2 : decide ((0 : Int) ≤ (pre.length : Int)) = true := by simp
    have e4 : IntKind.wrap .i64 ((pre.length : Int) + 1) = ((pre ++ [x]).length : Int) := by
      rw [W_id (by omega) (by omega)]; simp
    have e6 : rdEl lay Key.part l (pre.length : Int) = x := by rw [ha]; exact rdPt ..
    by_cases hc : n < M
    · have hx := ih x (List.mem_cons_self ..) (M - (n + 1)) (by omega)
      have h2 := many_loop M hM l hl r (pre ++ [x]) (n + 1 + min (sizePL x.parts) (M - (n + 1))) (by simp [ha]) (by omega) (fun z hz => ih z (List.mem_cons_of_mem _ hz))
      refine (hx.and h2).step fun k ⟨hk1, hk2⟩ ρ K => ?_
      rw [show (Tabs (k + 1)).l61_3_0 = Gl61_3_0 (Tabs k) from rfl]
      have e3 : decide ((n : Int) ≤ (M : Int) - 1) = true := by simp; omega
      have e5 : IntKind.wrap .i64 ((n : Int) + 1) = (n : Int) + 1 := W_id (by omega) (by omega)
      have e7 : IntKind.wrap .i64 ((M : Int) - 1 - ((n : Int) + 1)) = ((M - (n + 1) : Nat) : Int) - 1 := by rw [W_id (by omega) (by omega)]; omega
      have e8 : IntKind.wrap .i64 ((n : Int) + 1 + ((min (sizePL x.parts) (M - (n + 1)) : Nat) : Int)) = ((n + 1 + min (sizePL x.parts) (M - (n + 1)) : Nat) : Int) := by rw [W_id (by omega) (by omega)]; omega
      have hsz : x.size = 1 + sizePL x.parts := by obtain ⟨o, s, nm, n, rr, ll⟩ := x; rfl
      simp only [Gl61_3_0, e1, e2, e3, Bool.and_self, cond_true, e6, e5, e7, hk1, e8, e4, hk2, sizePL, hsz]
      congr 2; omega
    · refine Evt.step0 fun k ρ K => ?_
      rw [show (Tabs (k + 1)).l61_3_0 = Gl61_3_0 (Tabs k) from rfl]
      have e3 : decide ((n : Int) ≤ (M : Int) - 1) = false := by simp; omega
      simp only [Gl61_3_0, e1, e3, cond_true, cond_false]
      congr 1; omega

theorem many_of (l : List Pt) (hl : l.length ≤ 140737488351232) (ih : ∀ x ∈ l, ∀ m : Nat, m ≤ 401 → Evt fun k => ∀ (ρ : Type) K, (Tabs k).c61_0 ρ x.parts ((m : Int) - 1) K = K ((min (sizePL x.parts) m : Nat) : Int)) (M : Nat) (hM : M ≤ 401) :
    Evt fun k => ∀ (ρ : Type) K, (Tabs k).c61_0 ρ l ((M : Int) - 1) K = K ((min (sizePL l) M : Nat) : Int) := by
  refine (many_loop M hM l hl l [] 0 rfl (by omega) ih).step fun k hk ρ K => ?_
  rw [show (Tabs (k + 1)).c61_0 = Gc61_0 (Tabs k) from rfl]
  have hk := hk ρ
  simp only [List.length_nil, Int.natCast_zero, Nat.zero_add] at hk
  have e : IntKind.wrap .i64 ((M : Int) - 1 + 1) = (M : Int) := by rw [W_id (by omega) (by omega)]; omega
  simp only [Gc61_0, hk, e, min2_nat]
  congr 2; omega

theorem s_many1 (t : Pt) : t.Ok → ∀ m : Nat, m ≤ 401 → Evt fun k => ∀ (ρ : Type) K, (Tabs k).c61_0 ρ t.parts ((m : Int) - 1) K = K ((min (sizePL t.parts) m : Nat) : Int) := by
  induction t using Pt.ind with
  | h o s nm n r l ih =>
    intro hok m hm
    have hlen : l.length * 120 ≤ 140737488351232 := hok.len
    exact many_of l (by omega) (fun x hx => ih x hx (hok.mem x hx)) m hm

theorem s_many (x : It) (h : x.Ok) : Evt fun k => ∀ (ρ : Type) K, (Tabs k).c61_0 ρ x.parts 400 K = K ((min (sizePL x.parts) 401 : Nat) : Int) := by
  have hl := h.len
  exact many_of x.parts (by omega) (fun y hy => s_many1 y (h.mem y hy)) 401 (by omega)

theorem wellitem_loop (x : It) : ∀ (r pre : List Pt), x.parts = pre ++ r → x.parts.length ≤ 140737488351232 → (∀ y ∈ r, Evt fun k => ∀ (ρ : Type) K, (Tabs k).c62_0 ρ y 1 K = K (partB y 1)) →
    Evt fun k => ∀ (ρ : Type) k0 k1, (Tabs k).l26_6_0 ρ (pre.length : Int) x k0 k1 = cond (partBL r 1) k0 (k1 false)
  | [], pre, ha, hl, _ => by
    refine Evt.step0 fun k ρ k0 k1 => ?_
    rw [show (Tabs (k + 1)).l26_6_0 = Gl26_6_0 (Tabs k) from rfl]
    have e : decide ((pre.length : Int) < ((x.parts).length : Int)) = false := by simp [ha]
    simp only [Gl26_6_0, e, cond_false, partBL, cond_true]
  | y :: r, pre, ha, hl, ih => by
    have h2 := wellitem_loop x r (pre ++ [y]) (by simp [ha]) hl (fun z hz => ih z (List.mem_cons_of_mem _ hz))
    refine ((ih y (List.mem_cons_self ..)).and h2).step fun k ⟨hk1, hk2⟩ ρ k0 k1 => ?_
    rw [show (Tabs (k + 1)).l26_6_0 = Gl26_6_0 (Tabs k) from rfl]
    have hlen : pre.length < x.parts.length := by simp [ha]
    have e1 : decide ((pre.length : Int) < ((x.parts).length : Int)) = true := by simp; omega
    have e2 : decide ((0 : Int) ≤ (pre.length : Int)) = true := by simp
    have e4 : IntKind.wrap .i64 ((pre.length : Int) + 1) = ((pre ++ [y]).length : Int) := by
      rw [W_id (by omega) (by omega)]; simp
    have e6 : rdEl lay Key.part x.parts (pre.length : Int) = y := by rw [ha]; exact rdPt ..
    simp only [Gl26_6_0, e1, e2, Bool.and_self, cond_true, e6, rdE_parts, It.eta, hk1, e4, hk2, partBL]
    cases partB y 1 <;> simp

theorem s_rsmall (s : ByteArray) : Evt fun k => ∀ (ρ : Type) K, (Tabs k).c59_0 ρ s K = K (smB s) := by
  rw [mk_of s]
  generalize s.data.toList = w
  refine (s59 w).mono fun k h ρ K => ?_
  rw [h]; simp only [smB, mk_list]

theorem s_wellI (x : It) (h : x.Ok) : Evt fun k => ∀ (ρ : Type) K, (Tabs k).c26_0 ρ x K = K (wellI x) := by
  have hl := h.len
  refine ((wellitem_loop x x.parts [] rfl (by omega) (fun y hy => s_part y (h.mem y hy) 1 (by omega) (by omega))).and ((s_many x h).and ((s_rsmall x.name).and ((s_rsmall x.word).and ((s_well x.raw h.raw).and s_noRaw))))).step fun k ⟨h1, h2, h3, h4, h5, h6⟩ ρ K => ?_
  rw [show (Tabs (k + 1)).c26_0 = Gc26_0 (Tabs k) from rfl]
  have h1 := h1 ρ
  simp only [List.length_nil, Int.natCast_zero] at h1
  have e : decide (((min (sizePL x.parts) 401 : Nat) : Int) > (400 : Int)) = !decide (sizePL x.parts ≤ 400) := by
    by_cases hs : sizePL x.parts ≤ 400
    · have : ¬ (((min (sizePL x.parts) 401 : Nat) : Int) > (400 : Int)) := by omega
      simp [hs, this]
    · have : (((min (sizePL x.parts) 401 : Nat) : Int) > (400 : Int)) := by omega
      simp only [this, hs, decide_true, decide_false, Bool.not_false]
  simp only [Gc26_0, h2, h3, h4, h5, h6, Rw.eta, It.eta, oplen, e, h1, wellI]
  cases strEq x.word tNo with
  | true => cases smB x.name <;> cases strEq x.name tTy <;> cases wellB x.raw <;> cases x.parts.length == 0 <;> rfl
  | false => cases smB x.word <;> cases strEq x.name tNo <;> cases noRawB x.raw <;> cases decide (sizePL x.parts ≤ 400) <;> cases partBL x.parts 1 <;> rfl

end Go.Proofs.YtanfoijdfcnpoaaGreatDoor.Ev

set_option linter.unusedVariables false
set_option linter.unusedSimpArgs false
namespace Go.Proofs.YtanfoijdfcnpoaaGreatDoor.Ev

/-! ### Items that are the same -/

theorem same_loop (x : Pt) : ∀ (r pre : List Pt), x.parts = pre ++ r → x.parts.length ≤ 140737488351232 → (∀ y ∈ r, Evt fun k => ∀ (ρ : Type) K, (Tabs k).c53_0 ρ y y K = K true) →
    Evt fun k => ∀ (ρ : Type) k0 k1, (Tabs k).l53_4_0 ρ (pre.length : Int) x x k0 k1 = k1
  | [], pre, ha, hl, _ => by
    refine Evt.step0 fun k ρ k0 k1 => ?_
    rw [show (Tabs (k + 1)).l53_4_0 = Gl53_4_0 (Tabs k) from rfl]
    have e : decide ((pre.length : Int) < ((x.parts).length : Int)) = false := by simp [ha]
    simp only [Gl53_4_0, e, cond_false]
  | y :: r, pre, ha, hl, ih => by
    have hlen : pre.length < x.parts.length := by simp [ha]
    have e1 : decide ((pre.length : Int) < ((x.parts).length : Int)) = true := by simp; omega
    have e2 : decide ((0 : Int) ≤ (pre.length : Int)) = true := by simp
    have e4 : IntKind.wrap .i64 ((pre.length : Int) + 1) = ((pre ++ [y]).length : Int) := by
      rw [W_id (by omega) (by omega)]; simp
    have e6 : rdEl lay Key.part x.parts (pre.length : Int) = y := by rw [ha]; exact rdPt ..
    refine ((ih y (List.mem_cons_self ..)).and (same_loop x r (pre ++ [y]) (by simp [ha]) hl fun z hz => ih z (List.mem_cons_of_mem _ hz))).step fun k ⟨h1, h2⟩ ρ k0 k1 => ?_
    rw [show (Tabs (k + 1)).l53_4_0 = Gl53_4_0 (Tabs k) from rfl]
    simp only [Gl53_4_0, e1, e2, Bool.and_self, cond_true, e6, rdE_parts, h1, Bool.not_true, cond_false, e4, h2]

theorem s_samePart (x : Pt) : x.Ok → Evt fun k => ∀ (ρ : Type) K, (Tabs k).c53_0 ρ x x K = K true := by
  induction x using Pt.ind with
  | h o s nm n r l ih =>
    intro hok
    have hlen : l.length * 120 ≤ 140737488351232 := hok.len
    refine ((same_loop ⟨o, s, nm, n, r, l⟩ l [] rfl (by show l.length ≤ _; omega) fun y hy => ih y hy (hok.mem y hy)).and (s_rsame r r hok.rw')).step fun k ⟨h1, h2⟩ ρ K => ?_
    rw [show (Tabs (k + 1)).c53_0 = Gc53_0 (Tabs k) from rfl]
    have h1 := h1 ρ
    simp only [List.length_nil, Int.natCast_zero] at h1
    simp only [Gc53_0, bne_self_eq_false, cond_false, strEq_refl, Bool.not_true, Rw.eta, h2, eqRw_refl, h1]

theorem sameI_loop (x : It) : ∀ (r pre : List Pt), x.parts = pre ++ r → x.parts.length ≤ 140737488351232 → (∀ y ∈ r, y.Ok) →
    Evt fun k => ∀ (ρ : Type) k0 k1, (Tabs k).l23_4_0 ρ (pre.length : Int) x x k0 k1 = k0
  | [], pre, ha, hl, _ => by
    refine Evt.step0 fun k ρ k0 k1 => ?_
    rw [show (Tabs (k + 1)).l23_4_0 = Gl23_4_0 (Tabs k) from rfl]
    have e : decide ((pre.length : Int) < ((x.parts).length : Int)) = false := by simp [ha]
    simp only [Gl23_4_0, e, cond_false]
  | y :: r, pre, ha, hl, ih => by
    have hlen : pre.length < x.parts.length := by simp [ha]
    have e1 : decide ((pre.length : Int) < ((x.parts).length : Int)) = true := by simp; omega
    have e2 : decide ((0 : Int) ≤ (pre.length : Int)) = true := by simp
    have e4 : IntKind.wrap .i64 ((pre.length : Int) + 1) = ((pre ++ [y]).length : Int) := by
      rw [W_id (by omega) (by omega)]; simp
    have e6 : rdEl lay Key.part x.parts (pre.length : Int) = y := by rw [ha]; exact rdPt ..
    refine ((s_samePart y (ih y (List.mem_cons_self ..))).and (sameI_loop x r (pre ++ [y]) (by simp [ha]) hl fun z hz => ih z (List.mem_cons_of_mem _ hz))).step fun k ⟨h1, h2⟩ ρ k0 k1 => ?_
    rw [show (Tabs (k + 1)).l23_4_0 = Gl23_4_0 (Tabs k) from rfl]
    simp only [Gl23_4_0, e1, e2, Bool.and_self, cond_true, e6, rdE_parts, It.eta, h1, Bool.not_true, cond_false, e4, h2]

theorem s_sameItem (x : It) (h : x.Ok) : Evt fun k => ∀ (ρ : Type) K, (Tabs k).c23_0 ρ x x K = K true := by
  have hl := h.len
  refine ((sameI_loop x x.parts [] rfl (by omega) h.mem).and (s_rsame x.raw x.raw h.raw)).step fun k ⟨h1, h2⟩ ρ K => ?_
  rw [show (Tabs (k + 1)).c23_0 = Gc23_0 (Tabs k) from rfl]
  have h1 := h1 ρ
  simp only [List.length_nil, Int.natCast_zero] at h1
  simp only [Gc23_0, bne_self_eq_false, cond_false, strEq_refl, Bool.not_true, Rw.eta, It.eta, h2, eqRw_refl, h1]

theorem itemsR_ok (l : List UInt8) : (∀ x ∈ (itemsR l).1, x.Ok) ∧ (itemsR l).1.length ≤ 120 := by
  unfold itemsR
  cases h0 : ((toks l).2.2 == 0) with
  | false => exact ⟨fun x hx => (by cases hx), by simp⟩
  | true =>
    obtain ⟨g0, hlen, hO⟩ := toks_good l (eq_of_beq h0)
    simp only [cond_true]
    cases ho : itemsP ((toks l).1.length + 2) (toks l).1 [] with
    | none => exact ⟨fun x hx => (by cases hx), by simp⟩
    | some out =>
      rcases out with r | q
      · obtain ⟨hok, hrl⟩ := itemsP_ok hO (by omega) _ _ _ _ ho (List.suffix_refl _) g0 (fun x hx => by cases hx) r rfl
        simp only
        cases hw : (r.all wellI && decide (r.length ≤ 120)) with
        | false => exact ⟨fun x hx => (by cases hx), by simp⟩
        | true =>
          simp only [Bool.and_eq_true, decide_eq_true_eq] at hw
          exact ⟨hok, hw.2⟩
      · exact ⟨fun x hx => (by cases hx), by simp⟩

end Go.Proofs.YtanfoijdfcnpoaaGreatDoor.Ev
