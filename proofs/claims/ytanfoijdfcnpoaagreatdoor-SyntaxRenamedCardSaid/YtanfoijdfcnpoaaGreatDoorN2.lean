/- This file proves what the program's functions of renaming compute (names, fresh, rename, copied); without any condition. -/
import Derived.Test.YtanfoijdfcnpoaaGreatDoorN1
set_option linter.unusedVariables false
set_option linter.unusedSimpArgs false
namespace Go.Proofs.YtanfoijdfcnpoaaGreatDoor.Ev

theorem catv_ok (l : List UInt8) (h : l.length ≤ 1000) : decide ((ByteArray.mk #[118]).size + (mk l).size ≤ 9223372036854775807) = true := by
  have h1 : (ByteArray.mk #[118]).size = 1 := rfl
  rw [decide_eq_true_eq, h1, mk_size]; omega

theorem catv (l : List UInt8) : ByteArray.mk #[118] ++ mk l = mk (118 :: l) := mk_append [118] l

theorem s_itoa (u : Nat) (h : u ≤ 10000) : Evt fun k => ∀ (ρ : Type) K, (Tabs k).c95_0 ρ (u : Int) K = K (mk (Lib.decDigits u)) := Evt.step0 fun k ρ K => by
  rw [show (Tabs (k + 1)).c95_0 = Gc95_0 (Tabs k) from rfl]
  unfold Gc95_0 toldItoa
  have e1 : decide ((-9223372036854775808 : Int) ≤ (u : Int)) = true := by simp <;> omega
  have e2 : decide ((u : Int) ≤ 9223372036854775807) = true := by simp <;> omega
  rw [e1, e2, Bool.and_self, cond_true]
  have e3 : Lib.itoa (u : Int) = Lib.decDigits u := by
    unfold Lib.itoa
    rw [if_neg (by omega), Int.toNat_natCast]
  rw [e3]

/-! ### Names -/

theorem pnl_none : Evt fun k => ∀ (o : List (ByteArray × Bool)) (ρ : Type) K, (Tabs k).l39_3_0 ρ [] 0 0 o K = K o := Evt.step0 fun k o ρ K => by
  rw [show (Tabs (k + 1)).l39_3_0 = Gl39_3_0 (Tabs k) from rfl]
  have e : decide ((0 : Int) < 0) = false := rfl
  simp only [Gl39_3_0, e, cond_false]

theorem pnl_two {x y : Rw} {o o1 o2 : List (ByteArray × Bool)} (ha : Evt fun k => ∀ (ρ : Type) K, (Tabs k).c39_0 ρ x o K = K o1) (hb : Evt fun k => ∀ (ρ : Type) K, (Tabs k).c39_0 ρ y o1 K = K o2) :
    Evt fun k => ∀ (ρ : Type) K, (Tabs k).l39_3_0 ρ [x, y] 2 0 o K = K o2 := by
  have h2 : Evt fun k => ∀ (ρ : Type) K, (Tabs k).l39_3_0 ρ [x, y] 2 2 o2 K = K o2 := Evt.step0 fun k ρ K => by
    rw [show (Tabs (k + 1)).l39_3_0 = Gl39_3_0 (Tabs k) from rfl]
    have e : decide ((2 : Int) < 2) = false := rfl
    simp only [Gl39_3_0, e, cond_false]
  have h1 : Evt fun k => ∀ (ρ : Type) K, (Tabs k).l39_3_0 ρ [x, y] 2 1 o1 K = K o2 := (hb.and h2).step fun k ⟨hb, h2⟩ ρ K => by
    rw [show (Tabs (k + 1)).l39_3_0 = Gl39_3_0 (Tabs k) from rfl]
    unfold Gl39_3_0
    have e : decide ((1 : Int) < 2) = true := rfl
    have e2 : (decide ((0 : Int) ≤ 1) && decide ((1 : Int) < ((List.length [x, y] : Nat) : Int))) = true := rfl
    have e3 : IntKind.wrap .i64 ((1 : Int) + 1) = 2 := rfl
    simp only [e, e2, cond_true, rdRw1, Rw.eta, hb, e3, h2]
  exact (ha.and h1).step fun k ⟨ha, h1⟩ ρ K => by
    rw [show (Tabs (k + 1)).l39_3_0 = Gl39_3_0 (Tabs k) from rfl]
    unfold Gl39_3_0
    have e : decide ((0 : Int) < 2) = true := rfl
    have e2 : (decide ((0 : Int) ≤ 0) && decide ((0 : Int) < ((List.length [x, y] : Nat) : Int))) = true := rfl
    have e3 : IntKind.wrap .i64 ((0 : Int) + 1) = 1 := rfl
    simp only [e, e2, cond_true, rdRw0, Rw.eta, ha, e3, h1]

theorem s_pnames : ∀ (e : Xp) (o : List (ByteArray × Bool)), Evt fun k => ∀ (ρ : Type) K, (Tabs k).c39_0 ρ e.rw o K = K (e.pnames o)
  | .ty, o => pnl_none.step fun k h ρ K => h _ ρ fun r3 => K r3
  | .hole, o => pnl_none.step fun k h ρ K => h _ ρ fun r3 => K r3
  | .nm w, o => pnl_none.step fun k h ρ K => h _ ρ fun r3 => K r3
  | .app a b, o => (pnl_two (s_pnames a (mset o tNo true)) (s_pnames b _)).step fun k h ρ K => h ρ fun r3 => K r3
  | .arr a b, o => (pnl_two (s_pnames a (mset o tNo true)) (s_pnames b _)).step fun k h ρ K => h ρ fun r3 => K r3
  | .bnd l w a b, o => (pnl_two (s_pnames a (mset o (mk w) true)) (s_pnames b _)).step fun k h ρ K => h ρ fun r3 => K r3

/-! ### The fresh name -/

theorem fresh_loop (f t : ByteArray) (u : List (ByteArray × Bool)) : ∀ (j n : Nat), n + j ≤ 9000 → frN (mget false u) j (n + 1) < n + 1 + j →
    Evt fun k => ∀ (ρ : Type) K, (Tabs k).l81_1_0 ρ f t (n : Int) u K = K (mk (vn (frN (mget false u) j (n + 1)))) f t (frN (mget false u) j (n + 1) : Int) (mset u (mk (vn (frN (mget false u) j (n + 1)))) true)
  | 0, n, hn, h => by simp only [frN] at h; omega
  | j + 1, n, hn, h => by
    have hw : IntKind.wrap .i64 ((n : Int) + 1) = ((n + 1 : Nat) : Int) := by rw [W_id (by omega) (by omega)]; omega
    have hlen := dec_len5 4 (n + 1) (by omega)
    simp only [frN] at h ⊢
    cases hU : mget false u (mk (vn (n + 1))) with
    | false =>
      simp only [cond_false]
      refine (s_itoa (n + 1) (by omega)).step fun k h1 ρ K => ?_
      rw [show (Tabs (k + 1)).l81_1_0 = Gl81_1_0 (Tabs k) from rfl]
      unfold Gl81_1_0
      have hU' : mget false u (mk (118 :: Lib.decDigits (n + 1))) = false := hU
      simp only [hw, h1, catv_ok _ (show (Lib.decDigits (n + 1)).length ≤ 1000 by omega), cond_true, catv, hU', Bool.not_false]
      rfl
    | true =>
      rw [hU] at h
      simp only [cond_true] at h ⊢
      refine ((s_itoa (n + 1) (by omega)).and (fresh_loop f t u j (n + 1) (by omega) (by omega))).step fun k ⟨h1, h2⟩ ρ K => ?_
      rw [show (Tabs (k + 1)).l81_1_0 = Gl81_1_0 (Tabs k) from rfl]
      unfold Gl81_1_0
      have hU' : mget false u (mk (118 :: Lib.decDigits (n + 1))) = true := hU
      simp only [hw, h1, catv_ok _ (show (Lib.decDigits (n + 1)).length ≤ 1000 by omega), cond_true, catv, hU', Bool.not_true, cond_false, h2]

theorem mget_key : ∀ {l : List (ByteArray × Bool)} {x : ByteArray}, mget false l x = true → hasB (l.map (·.1)) x = true
  | [], x, h => by cases h
  | y :: r, x, h => by
    simp only [mget] at h
    show (strEq x y.1 || hasB (r.map (·.1)) x) = true
    cases hx : strEq x y.1 with
    | true => rfl
    | false => rw [hx] at h; simp only [cond_false] at h; rw [mget_key h]; rfl

/-- The names up to the counter are used. -/
def PS.ok (s : PS) : Prop := ∀ m, 1 ≤ m → m ≤ s.n → mget false s.u (mk (vn m)) = true

theorem PS.ok.le {s : PS} (h : s.ok) : s.n ≤ s.u.length := by
  have := pigeon 1 s.n (s.u.map (·.1)) fun i hi => mget_key (h (1 + i) (by omega) (by omega))
  simpa using this

theorem PS.ok.found {s : PS} (h : s.ok) (hl : s.u.length ≤ 1000) : s.m < s.n + 1 + 2000 ∧ s.m ≤ s.n + 1 + s.u.length := by
  obtain ⟨j, j1, j2, j3⟩ := fresh_ex (s.u.map (·.1)) (s.n + 1)
  have hj : mget false s.u (mk (vn j)) = false := by
    cases hq : mget false s.u (mk (vn j)) with
    | false => rfl
    | true => rw [mget_key hq] at j3; cases j3
  obtain ⟨a1, a2, a3, a4⟩ := frN_spec (mget false s.u) 2000 (s.n + 1)
  have hle : frN (mget false s.u) 2000 (s.n + 1) ≤ j := by
    rcases Nat.lt_or_ge j (frN (mget false s.u) 2000 (s.n + 1)) with q | q
    · rw [a3 j j1 q] at hj; cases hj
    · exact q
  simp only [List.length_map] at j2
  unfold PS.m
  omega

theorem PS.ok.next {s : PS} (h : s.ok) : s.next.ok := by
  intro m h1 h2
  simp only [PS.next] at h2 ⊢
  rw [mget_mset]
  cases hq : strEq (mk (vn m)) (mk (vn s.m)) with
  | true => rfl
  | false =>
    simp only [cond_false]
    by_cases hm : m ≤ s.n
    · exact h m h1 hm
    · obtain ⟨a1, a2, a3, a4⟩ := frN_spec (mget false s.u) 2000 (s.n + 1)
      refine a3 m (by omega) ?_
      rcases Nat.lt_or_ge m s.m with q | q
      · exact q
      · have : m = s.m := by omega
        subst this
        rw [strEq_iff.2 rfl] at hq; cases hq

theorem rn_ok (f t : ByteArray) : ∀ (e : Xp) (bd : List ByteArray) (now : List (ByteArray × ByteArray)) (s : PS), s.ok → (e.rn f t bd now s).2.ok ∧ (e.rn f t bd now s).2.u.length ≤ s.u.length + e.sz
  | .ty, bd, now, s, h => ⟨h, by simp [Xp.rn]⟩
  | .hole, bd, now, s, h => ⟨h, by simp [Xp.rn]⟩
  | .nm w, bd, now, s, h => ⟨h, by simp [Xp.rn]⟩
  | .app a b, bd, now, s, h => by
    obtain ⟨a1, a2⟩ := rn_ok f t a bd now s h
    obtain ⟨b1, b2⟩ := rn_ok f t b bd now _ a1
    exact ⟨b1, by simp only [Xp.rn, Xp.sz]; omega⟩
  | .arr a b, bd, now, s, h => by
    obtain ⟨a1, a2⟩ := rn_ok f t a bd now s h
    obtain ⟨b1, b2⟩ := rn_ok f t b bd now _ a1
    exact ⟨b1, by simp only [Xp.rn, Xp.sz]; omega⟩
  | .bnd l w a b, bd, now, s, h => by
    simp only [Xp.rn, Xp.sz]
    cases strEq (mk w) t && hasB (b.free (bd ++ [mk w]) []) f with
    | true =>
      obtain ⟨a1, a2⟩ := rn_ok f t a bd now s.next h.next
      obtain ⟨b1, b2⟩ := rn_ok f t b (bd ++ [mk w]) (mset (mdel now (mk w)) (mk w) (mk (vn s.m))) _ a1
      have := mset_len (mk (vn s.m)) true s.u
      have e : s.next.u = mset s.u (mk (vn s.m)) true := rfl
      rw [e] at a2
      exact ⟨b1, by simp only [cond_true]; omega⟩
    | false =>
      obtain ⟨a1, a2⟩ := rn_ok f t a bd now s h
      obtain ⟨b1, b2⟩ := rn_ok f t b (bd ++ [mk w]) (mdel now (mk w)) _ a1
      exact ⟨b1, by simp only [cond_false]; omega⟩

theorem s_fresh (f t : ByteArray) (s : PS) (h : s.ok) (hl : s.u.length ≤ 1000) : Evt fun k => ∀ (ρ : Type) K, (Tabs k).c81_0 ρ f t (s.n : Int) s.u K = K (mk (vn s.m)) f t (s.next.n : Int) s.next.u := by
  have := h.le
  refine (fresh_loop f t s.u 2000 s.n (by omega) (h.found hl).1).step fun k h1 ρ K => ?_
  rw [show (Tabs (k + 1)).c81_0 = Gc81_0 (Tabs k) from rfl]
  exact h1 ρ _

/-! ### The loops over the parts -/

section
variable {bd : List ByteArray} {f t : ByteArray} {x y x' y' r1 r2 : Rw} {op : Int} {nm : ByteArray}

theorem rnl_none0 : Evt fun k => ∀ (n : Int) (u : List (ByteArray × Bool)) (r1 r2 r3 : Rw) (ρ : Type) K, (Tabs k).l40_23_0 ρ bd [] 0 0 f t n u r1 r2 r3 K = K f t n u r1 r2 r3 := Evt.step0 fun k n u r1 r2 r3 ρ K => by
  rw [show (Tabs (k + 1)).l40_23_0 = Gl40_23_0 (Tabs k) from rfl]
  have e : decide ((0 : Int) < 0) = false := rfl
  simp only [Gl40_23_0, e, cond_false, Rw.eta]

theorem rnl_two0 {s s1 s2 : PS} (ha : Evt fun k => ∀ (ρ : Type) K, (Tabs k).c40_0 ρ x bd f t (s.n : Int) s.u K = K x' f t (s1.n : Int) s1.u) (hb : Evt fun k => ∀ (ρ : Type) K, (Tabs k).c40_0 ρ y bd f t (s1.n : Int) s1.u K = K y' f t (s2.n : Int) s2.u) :
    Evt fun k => ∀ (r1 r2 : Rw) (ρ : Type) K, (Tabs k).l40_23_0 ρ bd [x, y] 2 0 f t (s.n : Int) s.u r1 r2 ⟨op, nm, []⟩ K = K f t (s2.n : Int) s2.u r1 r2 ⟨op, nm, [x', y']⟩ := by
  have h2 : Evt fun k => ∀ (r1 r2 : Rw) (ρ : Type) K, (Tabs k).l40_23_0 ρ bd [x, y] 2 2 f t (s2.n : Int) s2.u r1 r2 ⟨op, nm, [x', y']⟩ K = K f t (s2.n : Int) s2.u r1 r2 ⟨op, nm, [x', y']⟩ := Evt.step0 fun k r1 r2 ρ K => by
    rw [show (Tabs (k + 1)).l40_23_0 = Gl40_23_0 (Tabs k) from rfl]
    have e : decide ((2 : Int) < 2) = false := rfl
    simp only [Gl40_23_0, e, cond_false, Rw.eta]
  have h1 : Evt fun k => ∀ (r1 r2 : Rw) (ρ : Type) K, (Tabs k).l40_23_0 ρ bd [x, y] 2 1 f t (s1.n : Int) s1.u r1 r2 ⟨op, nm, [x']⟩ K = K f t (s2.n : Int) s2.u r1 r2 ⟨op, nm, [x', y']⟩ := (hb.and h2).step fun k ⟨hb, h2⟩ r1 r2 ρ K => by
    rw [show (Tabs (k + 1)).l40_23_0 = Gl40_23_0 (Tabs k) from rfl]
    unfold Gl40_23_0
    have e : decide ((1 : Int) < 2) = true := rfl
    have e2 : (decide ((0 : Int) ≤ 1) && decide ((1 : Int) < ((List.length [x, y] : Nat) : Int))) = true := rfl
    have e3 : IntKind.wrap .i64 ((1 : Int) + 1) = 2 := rfl
    have e4 : decide ((List.length [x'] + List.length [y']) * 48 ≤ 140737488355328) = true := rfl
    simp only [e, e2, cond_true, rdRw1, Rw.eta, hb, e3, e4, List.cons_append, List.nil_append, h2]
  exact (ha.and h1).step fun k ⟨ha, h1⟩ r1 r2 ρ K => by
    rw [show (Tabs (k + 1)).l40_23_0 = Gl40_23_0 (Tabs k) from rfl]
    unfold Gl40_23_0
    have e : decide ((0 : Int) < 2) = true := rfl
    have e2 : (decide ((0 : Int) ≤ 0) && decide ((0 : Int) < ((List.length [x, y] : Nat) : Int))) = true := rfl
    have e3 : IntKind.wrap .i64 ((0 : Int) + 1) = 1 := rfl
    have e4 : decide ((List.length ([] : List Rw) + List.length [x']) * 48 ≤ 140737488355328) = true := rfl
    simp only [e, e2, cond_true, rdRw0, Rw.eta, ha, e3, e4, List.nil_append, h1]

theorem rnl_none1 : Evt fun k => ∀ (n : Int) (now : List (ByteArray × ByteArray)) (u : List (ByteArray × Bool)) (r1 r2 r3 : Rw) (ρ : Type) K, (Tabs k).l40_23_1 ρ bd [] 0 0 f t n now u r1 r2 r3 K = K f t n now u r1 r2 r3 := Evt.step0 fun k n now u r1 r2 r3 ρ K => by
  rw [show (Tabs (k + 1)).l40_23_1 = Gl40_23_1 (Tabs k) from rfl]
  have e : decide ((0 : Int) < 0) = false := rfl
  simp only [Gl40_23_1, e, cond_false, Rw.eta]

theorem rnl_two1 {now : List (ByteArray × ByteArray)} {s s1 s2 : PS} (ha : Evt fun k => ∀ (ρ : Type) K, (Tabs k).c40_1 ρ x bd f t (s.n : Int) now s.u K = K x' f t (s1.n : Int) now s1.u) (hb : Evt fun k => ∀ (ρ : Type) K, (Tabs k).c40_1 ρ y bd f t (s1.n : Int) now s1.u K = K y' f t (s2.n : Int) now s2.u) :
    Evt fun k => ∀ (r1 r2 : Rw) (ρ : Type) K, (Tabs k).l40_23_1 ρ bd [x, y] 2 0 f t (s.n : Int) now s.u r1 r2 ⟨op, nm, []⟩ K = K f t (s2.n : Int) now s2.u r1 r2 ⟨op, nm, [x', y']⟩ := by
  have h2 : Evt fun k => ∀ (r1 r2 : Rw) (ρ : Type) K, (Tabs k).l40_23_1 ρ bd [x, y] 2 2 f t (s2.n : Int) now s2.u r1 r2 ⟨op, nm, [x', y']⟩ K = K f t (s2.n : Int) now s2.u r1 r2 ⟨op, nm, [x', y']⟩ := Evt.step0 fun k r1 r2 ρ K => by
    rw [show (Tabs (k + 1)).l40_23_1 = Gl40_23_1 (Tabs k) from rfl]
    have e : decide ((2 : Int) < 2) = false := rfl
    simp only [Gl40_23_1, e, cond_false, Rw.eta]
  have h1 : Evt fun k => ∀ (r1 r2 : Rw) (ρ : Type) K, (Tabs k).l40_23_1 ρ bd [x, y] 2 1 f t (s1.n : Int) now s1.u r1 r2 ⟨op, nm, [x']⟩ K = K f t (s2.n : Int) now s2.u r1 r2 ⟨op, nm, [x', y']⟩ := (hb.and h2).step fun k ⟨hb, h2⟩ r1 r2 ρ K => by
    rw [show (Tabs (k + 1)).l40_23_1 = Gl40_23_1 (Tabs k) from rfl]
    unfold Gl40_23_1
    have e : decide ((1 : Int) < 2) = true := rfl
    have e2 : (decide ((0 : Int) ≤ 1) && decide ((1 : Int) < ((List.length [x, y] : Nat) : Int))) = true := rfl
    have e3 : IntKind.wrap .i64 ((1 : Int) + 1) = 2 := rfl
    have e4 : decide ((List.length [x'] + List.length [y']) * 48 ≤ 140737488355328) = true := rfl
    simp only [e, e2, cond_true, rdRw1, Rw.eta, hb, e3, e4, List.cons_append, List.nil_append, h2]
  exact (ha.and h1).step fun k ⟨ha, h1⟩ r1 r2 ρ K => by
    rw [show (Tabs (k + 1)).l40_23_1 = Gl40_23_1 (Tabs k) from rfl]
    unfold Gl40_23_1
    have e : decide ((0 : Int) < 2) = true := rfl
    have e2 : (decide ((0 : Int) ≤ 0) && decide ((0 : Int) < ((List.length [x, y] : Nat) : Int))) = true := rfl
    have e3 : IntKind.wrap .i64 ((0 : Int) + 1) = 1 := rfl
    have e4 : decide ((List.length ([] : List Rw) + List.length [x']) * 48 ≤ 140737488355328) = true := rfl
    simp only [e, e2, cond_true, rdRw0, Rw.eta, ha, e3, e4, List.nil_append, h1]

end

/-! ### The renamer -/

/-- What stands now is a name for the one that is put in, if anything. -/
inductive NowT (t : ByteArray) : List (ByteArray × ByteArray) → Prop
  | nil : NowT t []
  | one (v : ByteArray) : NowT t [(t, v)]

theorem NowT.del {t : ByteArray} {now : List (ByteArray × ByteArray)} (h : NowT t now) (w : ByteArray) : NowT t (mdel now w) := by
  cases h with
  | nil => exact .nil
  | one v =>
    simp only [mdel]
    cases strEq w t with
    | true => exact .nil
    | false => exact .one v

theorem NowT.set {t : ByteArray} {now : List (ByteArray × ByteArray)} (h : NowT t now) (v : ByteArray) : NowT t (mset (mdel now t) t v) := by
  cases h with
  | nil => exact .one v
  | one u => simp only [mdel, strEq_iff.2 rfl, cond_true, mset]; exact .one v

theorem NowT.len {t : ByteArray} {now : List (ByteArray × ByteArray)} (h : NowT t now) : decide (now.length ≤ 1) = true ∧ mcopy now [] = now := by
  cases h <;> exact ⟨rfl, rfl⟩

section
variable (f t : ByteArray)

def RnA (e : Xp) (bd : List ByteArray) (s : PS) (k : Nat) : Prop :=
  ∀ (ρ : Type) K, (Tabs k).c40_0 ρ e.rw bd f t (s.n : Int) s.u K = K (e.rn f t bd [] s).1.rw f t ((e.rn f t bd [] s).2.n : Int) (e.rn f t bd [] s).2.u
def RnB (e : Xp) (bd : List ByteArray) (now : List (ByteArray × ByteArray)) (s : PS) (k : Nat) : Prop :=
  ∀ (ρ : Type) K, (Tabs k).c40_1 ρ e.rw bd f t (s.n : Int) now s.u K = K (e.rn f t bd now s).1.rw f t ((e.rn f t bd now s).2.n : Int) now (e.rn f t bd now s).2.u

theorem s_rename0 (e : Xp) (iA : ∀ (e' : Xp), e'.sz < e.sz → ∀ bd s, s.ok → bd.length + e'.sz ≤ 800 → s.u.length + e'.sz ≤ 1000 → Evt (RnA f t e' bd s))
    (iB : ∀ (e' : Xp), e'.sz < e.sz → ∀ bd now s, NowT t now → s.ok → bd.length + e'.sz ≤ 800 → s.u.length + e'.sz ≤ 1000 → Evt (RnB f t e' bd now s)) (bd : List ByteArray) (s : PS) (hs : s.ok) (hb : bd.length + e.sz ≤ 800) (hu : s.u.length + e.sz ≤ 1000) : Evt (RnA f t e bd s) := by
  cases e with
  | ty =>
    refine ((rnl_none0 (bd := bd) (f := f) (t := t)).and s_binds).step fun k ⟨h1, h2⟩ ρ K => ?_
    rw [show (Tabs (k + 1)).c40_0 = Gc40_0 (Tabs k) from rfl]
    show Gc40_0 (Tabs k) ρ (⟨1, tNo, []⟩ : Rw) bd f t _ _ K = _
    simp only [Gc40_0, Int.reduceBEq, cond_false, h2, Bool.or_self, List.length_nil, Int.natCast_zero, Int.ofNat_eq_natCast, h1]
    rfl
  | hole =>
    refine ((rnl_none0 (bd := bd) (f := f) (t := t)).and s_binds).step fun k ⟨h1, h2⟩ ρ K => ?_
    rw [show (Tabs (k + 1)).c40_0 = Gc40_0 (Tabs k) from rfl]
    show Gc40_0 (Tabs k) ρ (⟨3, tNo, []⟩ : Rw) bd f t _ _ K = _
    simp only [Gc40_0, Int.reduceBEq, cond_false, h2, Bool.or_self, List.length_nil, Int.natCast_zero, Int.ofNat_eq_natCast, h1]
    rfl
  | nm w =>
    simp only [Xp.sz] at hb hu
    refine ((rnl_none0 (bd := bd) (f := f) (t := t)).and (s_contains bd (by omega))).step fun k ⟨h1, h2⟩ ρ K => ?_
    rw [show (Tabs (k + 1)).c40_0 = Gc40_0 (Tabs k) from rfl]
    show Gc40_0 (Tabs k) ρ (⟨2, mk w, []⟩ : Rw) bd f t _ _ K = _
    have e0 : ∀ x : ByteArray, strEq (mget (ByteArray.mk #[]) ([] : List (ByteArray × ByteArray)) x) (ByteArray.mk #[]) = true := fun x => strEq_iff.2 rfl
    simp only [Gc40_0, Int.reduceBEq, cond_true, h2, List.length_nil, Int.natCast_zero, Int.ofNat_eq_natCast, h1, e0, Bool.not_true, cond_false, Xp.rn, nmP, hasB, mget]
    cases bd.any (strEq (mk w)) with
    | true => simp only [Bool.not_true, cond_false, cond_true, strEq_iff.2 rfl]; rfl
    | false =>
      simp only [Bool.not_false, cond_true, cond_false]
      cases strEq (mk w) f with
      | true => simp only [cond_true, Xp.rw, mk_ls]
      | false => rfl
  | app a b =>
    simp only [Xp.sz] at hb hu
    obtain ⟨a1, a2⟩ := rn_ok f t a bd [] s hs
    have h0 := rnl_two0 (op := 4) (nm := tNo) (iA a (by simp only [Xp.sz]; omega) bd s hs (by omega) (by omega)) (iA b (by simp only [Xp.sz]; omega) bd _ a1 (by omega) (by omega))
    refine (h0.and s_binds).step fun k ⟨h1, h2⟩ ρ K => ?_
    have el : (((List.length [a.rw, b.rw] : Nat)) : Int) = 2 := rfl
    rw [show (Tabs (k + 1)).c40_0 = Gc40_0 (Tabs k) from rfl]
    show Gc40_0 (Tabs k) ρ (⟨4, tNo, [a.rw, b.rw]⟩ : Rw) bd f t _ _ K = _
    simp only [Gc40_0, Int.reduceBEq, cond_false, h2, Bool.or_self, el, h1]
    rfl
  | arr a b =>
    simp only [Xp.sz] at hb hu
    obtain ⟨a1, a2⟩ := rn_ok f t a bd [] s hs
    have h0 := rnl_two0 (op := 6) (nm := tNo) (iA a (by simp only [Xp.sz]; omega) bd s hs (by omega) (by omega)) (iA b (by simp only [Xp.sz]; omega) bd _ a1 (by omega) (by omega))
    refine (h0.and s_binds).step fun k ⟨h1, h2⟩ ρ K => ?_
    have el : (((List.length [a.rw, b.rw] : Nat)) : Int) = 2 := rfl
    rw [show (Tabs (k + 1)).c40_0 = Gc40_0 (Tabs k) from rfl]
    show Gc40_0 (Tabs k) ρ (⟨6, tNo, [a.rw, b.rw]⟩ : Rw) bd f t _ _ K = _
    simp only [Gc40_0, Int.reduceBEq, cond_false, h2, Bool.or_self, el, h1]
    rfl
  | bnd l w a b =>
    simp only [Xp.sz] at hb hu
    have e0 := app16 (l := bd) (m := [mk w]) (by simp; omega)
    have q1 : ((bif l then (7 : Int) else 5) == 2) = false := by cases l <;> rfl
    have q2 : ((bif l then (7 : Int) else 5) == 5 || (bif l then (7 : Int) else 5) == 7) = true := by cases l <;> rfl
    have i0 : (decide ((0 : Int) ≤ 0) && decide ((0 : Int) < ((List.length [a.rw, b.rw] : Nat) : Int))) = true := rfl
    have i1 : (decide ((0 : Int) ≤ 1) && decide ((1 : Int) < ((List.length [a.rw, b.rw] : Nat) : Int))) = true := rfl
    have hbl : (bd ++ [mk w]).length + b.sz ≤ 800 := by simp; omega
    cases hc : strEq (mk w) t && hasB (b.free (bd ++ [mk w]) []) f with
    | false =>
      obtain ⟨a1, a2⟩ := rn_ok f t a bd [] s hs
      have hfl := free_len b (bd ++ [mk w]) []
      refine ((iA a (by simp only [Xp.sz]; omega) bd s hs (by omega) (by omega)).and ((iB b (by simp only [Xp.sz]; omega) (bd ++ [mk w]) (mdel [] (mk w)) _ NowT.nil a1 hbl (by omega)).and ((s_free b (bd ++ [mk w]) [] (by simp; omega) (by simp; omega)).and
        ((s_contains (b.free (bd ++ [mk w]) []) (by simp at hfl; omega)).and (s_clone.and s_binds))))).step fun k ⟨ha, hbb, hf, hct, hcl, h2⟩ ρ K => ?_
      have hcl' := hcl bd (by omega)
      rw [show (Tabs (k + 1)).c40_0 = Gc40_0 (Tabs k) from rfl]
      show Gc40_0 (Tabs k) ρ (⟨bif l then 7 else 5, mk w, [a.rw, b.rw]⟩ : Rw) bd f t _ _ K = _
      unfold Gc40_0
      dsimp only
      unfold RnA at ha
      unfold RnB at hbb
      unfold hasB at hc
      simp only [q1, cond_false, h2, q2, cond_true, hcl', e0, i0, i1, rdRw0, rdRw1, Rw.eta, hf.2.2.2, hct, ha, hbb, Xp.rn, hasB, hc]
      cases hq : strEq (mk w) t with
      | false => rfl
      | true =>
        rw [hq, Bool.true_and] at hc
        simp only [cond_true, hc, cond_false]
        rfl
    | true =>
      have hlen := hs.le
      have hnl := mset_len (mk (vn s.m)) true s.u
      have hne : s.next.u = mset s.u (mk (vn s.m)) true := rfl
      obtain ⟨a1, a2⟩ := rn_ok f t a bd [] s.next hs.next
      rw [hne] at a2
      have hfl := free_len b (bd ++ [mk w]) []
      have hwt : mk w = t := by
        have : strEq (mk w) t = true := by revert hc; cases strEq (mk w) t <;> simp
        exact strEq_iff.1 this
      have hnow : NowT t (mset (mdel [] (mk w)) (mk w) (mk (vn s.m))) := by rw [hwt]; exact NowT.nil.set _
      refine ((iA a (by simp only [Xp.sz]; omega) bd s.next hs.next (by omega) (by rw [hne]; omega)).and ((iB b (by simp only [Xp.sz]; omega) (bd ++ [mk w]) _ _ hnow a1 hbl (by omega)).and ((s_free b (bd ++ [mk w]) [] (by simp; omega) (by simp; omega)).and
        ((s_contains (b.free (bd ++ [mk w]) []) (by simp at hfl; omega)).and (s_clone.and (s_binds.and (s_fresh f t s hs (by omega)))))))).step fun k ⟨ha, hbb, hf, hct, hcl, h2, hfr⟩ ρ K => ?_
      have hcl' := hcl bd (by omega)
      rw [show (Tabs (k + 1)).c40_0 = Gc40_0 (Tabs k) from rfl]
      show Gc40_0 (Tabs k) ρ (⟨bif l then 7 else 5, mk w, [a.rw, b.rw]⟩ : Rw) bd f t _ _ K = _
      unfold Gc40_0
      dsimp only
      unfold RnA at ha
      unfold RnB at hbb
      unfold hasB at hc
      have hc1 : strEq (mk w) t = true := strEq_iff.2 hwt
      have hc2 := hc
      rw [hc1, Bool.true_and] at hc2
      simp only [q1, cond_false, h2, q2, cond_true, hcl', e0, i0, i1, rdRw0, rdRw1, Rw.eta, hf.2.2.2, hct, hfr, ha, hbb, Xp.rn, hasB, hc, hc1, hc2]
      rfl

theorem s_rename1 (e : Xp) (iB : ∀ (e' : Xp), e'.sz < e.sz → ∀ bd now s, NowT t now → s.ok → bd.length + e'.sz ≤ 800 → s.u.length + e'.sz ≤ 1000 → Evt (RnB f t e' bd now s)) (bd : List ByteArray) (now : List (ByteArray × ByteArray)) (s : PS) (hn : NowT t now) (hs : s.ok)
    (hb : bd.length + e.sz ≤ 800) (hu : s.u.length + e.sz ≤ 1000) : Evt (RnB f t e bd now s) := by
  cases e with
  | ty =>
    refine ((rnl_none1 (bd := bd) (f := f) (t := t)).and s_binds).step fun k ⟨h1, h2⟩ ρ K => ?_
    rw [show (Tabs (k + 1)).c40_1 = Gc40_1 (Tabs k) from rfl]
    show Gc40_1 (Tabs k) ρ (⟨1, tNo, []⟩ : Rw) bd f t _ now _ K = _
    simp only [Gc40_1, Int.reduceBEq, cond_false, h2, Bool.or_self, List.length_nil, Int.natCast_zero, Int.ofNat_eq_natCast, h1]
    rfl
  | hole =>
    refine ((rnl_none1 (bd := bd) (f := f) (t := t)).and s_binds).step fun k ⟨h1, h2⟩ ρ K => ?_
    rw [show (Tabs (k + 1)).c40_1 = Gc40_1 (Tabs k) from rfl]
    show Gc40_1 (Tabs k) ρ (⟨3, tNo, []⟩ : Rw) bd f t _ now _ K = _
    simp only [Gc40_1, Int.reduceBEq, cond_false, h2, Bool.or_self, List.length_nil, Int.natCast_zero, Int.ofNat_eq_natCast, h1]
    rfl
  | nm w =>
    simp only [Xp.sz] at hb hu
    refine ((rnl_none1 (bd := bd) (f := f) (t := t)).and (s_contains bd (by omega))).step fun k ⟨h1, h2⟩ ρ K => ?_
    rw [show (Tabs (k + 1)).c40_1 = Gc40_1 (Tabs k) from rfl]
    show Gc40_1 (Tabs k) ρ (⟨2, mk w, []⟩ : Rw) bd f t _ now _ K = _
    simp only [Gc40_1, Int.reduceBEq, cond_true, h2, List.length_nil, Int.natCast_zero, Int.ofNat_eq_natCast, h1, Xp.rn, nmP, hasB]
    cases bd.any (strEq (mk w)) with
    | true =>
      simp only [Bool.not_true, cond_false, cond_true]
      cases strEq (mget tNo now (mk w)) tNo with
      | true => rfl
      | false => simp only [Bool.not_false, cond_true, cond_false, Xp.rw, mk_ls]
    | false =>
      simp only [Bool.not_false, cond_true, cond_false]
      cases strEq (mk w) f with
      | true => simp only [cond_true, Xp.rw, mk_ls]
      | false => rfl
  | app a b =>
    simp only [Xp.sz] at hb hu
    obtain ⟨a1, a2⟩ := rn_ok f t a bd now s hs
    have h0 := rnl_two1 (op := 4) (nm := tNo) (iB a (by simp only [Xp.sz]; omega) bd now s hn hs (by omega) (by omega)) (iB b (by simp only [Xp.sz]; omega) bd now _ hn a1 (by omega) (by omega))
    refine (h0.and s_binds).step fun k ⟨h1, h2⟩ ρ K => ?_
    have el : (((List.length [a.rw, b.rw] : Nat)) : Int) = 2 := rfl
    rw [show (Tabs (k + 1)).c40_1 = Gc40_1 (Tabs k) from rfl]
    show Gc40_1 (Tabs k) ρ (⟨4, tNo, [a.rw, b.rw]⟩ : Rw) bd f t _ now _ K = _
    simp only [Gc40_1, Int.reduceBEq, cond_false, h2, Bool.or_self, el, h1]
    rfl
  | arr a b =>
    simp only [Xp.sz] at hb hu
    obtain ⟨a1, a2⟩ := rn_ok f t a bd now s hs
    have h0 := rnl_two1 (op := 6) (nm := tNo) (iB a (by simp only [Xp.sz]; omega) bd now s hn hs (by omega) (by omega)) (iB b (by simp only [Xp.sz]; omega) bd now _ hn a1 (by omega) (by omega))
    refine (h0.and s_binds).step fun k ⟨h1, h2⟩ ρ K => ?_
    have el : (((List.length [a.rw, b.rw] : Nat)) : Int) = 2 := rfl
    rw [show (Tabs (k + 1)).c40_1 = Gc40_1 (Tabs k) from rfl]
    show Gc40_1 (Tabs k) ρ (⟨6, tNo, [a.rw, b.rw]⟩ : Rw) bd f t _ now _ K = _
    simp only [Gc40_1, Int.reduceBEq, cond_false, h2, Bool.or_self, el, h1]
    rfl
  | bnd l w a b =>
    simp only [Xp.sz] at hb hu
    have e0 := app16 (l := bd) (m := [mk w]) (by simp; omega)
    have q1 : ((bif l then (7 : Int) else 5) == 2) = false := by cases l <;> rfl
    have q2 : ((bif l then (7 : Int) else 5) == 5 || (bif l then (7 : Int) else 5) == 7) = true := by cases l <;> rfl
    have i0 : (decide ((0 : Int) ≤ 0) && decide ((0 : Int) < ((List.length [a.rw, b.rw] : Nat) : Int))) = true := rfl
    have i1 : (decide ((0 : Int) ≤ 1) && decide ((1 : Int) < ((List.length [a.rw, b.rw] : Nat) : Int))) = true := rfl
    have hbl : (bd ++ [mk w]).length + b.sz ≤ 800 := by simp; omega
    cases hc : strEq (mk w) t && hasB (b.free (bd ++ [mk w]) []) f with
    | false =>
      obtain ⟨a1, a2⟩ := rn_ok f t a bd now s hs
      have hfl := free_len b (bd ++ [mk w]) []
      refine ((iB a (by simp only [Xp.sz]; omega) bd now s hn hs (by omega) (by omega)).and ((iB b (by simp only [Xp.sz]; omega) (bd ++ [mk w]) (mdel now (mk w)) _ (hn.del _) a1 hbl (by omega)).and ((s_free b (bd ++ [mk w]) [] (by simp; omega) (by simp; omega)).and
        ((s_contains (b.free (bd ++ [mk w]) []) (by simp at hfl; omega)).and (s_clone.and s_binds))))).step fun k ⟨ha, hbb, hf, hct, hcl, h2⟩ ρ K => ?_
      have hcl' := hcl bd (by omega)
      rw [show (Tabs (k + 1)).c40_1 = Gc40_1 (Tabs k) from rfl]
      show Gc40_1 (Tabs k) ρ (⟨bif l then 7 else 5, mk w, [a.rw, b.rw]⟩ : Rw) bd f t _ now _ K = _
      unfold Gc40_1
      dsimp only
      unfold RnB at ha hbb
      unfold hasB at hc
      simp only [q1, cond_false, h2, q2, cond_true, hcl', e0, hn.len.1, hn.len.2, i0, i1, rdRw0, rdRw1, Rw.eta, hf.2.2.2, hct, ha, hbb, Xp.rn, hasB, hc]
      cases hq : strEq (mk w) t with
      | false => rfl
      | true =>
        rw [hq, Bool.true_and] at hc
        simp only [cond_true, hc, cond_false]
        rfl
    | true =>
      have hlen := hs.le
      have hnl := mset_len (mk (vn s.m)) true s.u
      have hne : s.next.u = mset s.u (mk (vn s.m)) true := rfl
      obtain ⟨a1, a2⟩ := rn_ok f t a bd now s.next hs.next
      rw [hne] at a2
      have hfl := free_len b (bd ++ [mk w]) []
      have hwt : mk w = t := by
        have : strEq (mk w) t = true := by revert hc; cases strEq (mk w) t <;> simp
        exact strEq_iff.1 this
      have hnow : NowT t (mset (mdel now (mk w)) (mk w) (mk (vn s.m))) := by rw [hwt]; exact hn.set _
      refine ((iB a (by simp only [Xp.sz]; omega) bd now s.next hn hs.next (by omega) (by rw [hne]; omega)).and ((iB b (by simp only [Xp.sz]; omega) (bd ++ [mk w]) _ _ hnow a1 hbl (by omega)).and ((s_free b (bd ++ [mk w]) [] (by simp; omega) (by simp; omega)).and
        ((s_contains (b.free (bd ++ [mk w]) []) (by simp at hfl; omega)).and (s_clone.and (s_binds.and (s_fresh f t s hs (by omega)))))))).step fun k ⟨ha, hbb, hf, hct, hcl, h2, hfr⟩ ρ K => ?_
      have hcl' := hcl bd (by omega)
      rw [show (Tabs (k + 1)).c40_1 = Gc40_1 (Tabs k) from rfl]
      show Gc40_1 (Tabs k) ρ (⟨bif l then 7 else 5, mk w, [a.rw, b.rw]⟩ : Rw) bd f t _ now _ K = _
      unfold Gc40_1
      dsimp only
      unfold RnB at ha hbb
      unfold hasB at hc
      have hc1 : strEq (mk w) t = true := strEq_iff.2 hwt
      have hc2 := hc
      rw [hc1, Bool.true_and] at hc2
      simp only [q1, cond_false, h2, q2, cond_true, hcl', e0, hn.len.1, hn.len.2, i0, i1, rdRw0, rdRw1, Rw.eta, hf.2.2.2, hct, hfr, ha, hbb, Xp.rn, hasB, hc, hc1, hc2]
      rfl

theorem s_renameN : ∀ (n : Nat) (e : Xp), e.sz ≤ n → ∀ bd now s, NowT t now → s.ok → bd.length + e.sz ≤ 800 → s.u.length + e.sz ≤ 1000 → Evt (RnB f t e bd now s)
  | 0, e, he, _, _, _, _, _, _, _ => by have := sz_pos e; omega
  | n + 1, e, he, bd, now, s, hn, hs, hb, hu => s_rename1 f t e (fun e' hlt bd now s hn hs hb hu => s_renameN n e' (by omega) bd now s hn hs hb hu) bd now s hn hs hb hu

theorem s_renameA : ∀ (n : Nat) (e : Xp), e.sz ≤ n → ∀ bd s, s.ok → bd.length + e.sz ≤ 800 → s.u.length + e.sz ≤ 1000 → Evt (RnA f t e bd s)
  | 0, e, he, _, _, _, _, _ => by have := sz_pos e; omega
  | n + 1, e, he, bd, s, hs, hb, hu => s_rename0 f t e (fun e' hlt bd s hs hb hu => s_renameA n e' (by omega) bd s hs hb hu) (fun e' hlt bd now s hn hs hb hu => s_renameN f t e'.sz e' (Nat.le_refl _) bd now s hn hs hb hu) bd s hs hb hu

end

end Go.Proofs.YtanfoijdfcnpoaaGreatDoor.Ev
