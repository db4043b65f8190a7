/- This file proves plain laws of renaming: the names v1, v2, .., the first one that is free, maps of names; what the program's and the reference's way of renaming come to, and that it is the same; without any condition. -/
import Derived.Test.YtanfoijdfcnpoaaGreatDoorFA
set_option linter.unusedVariables false
set_option linter.unusedSimpArgs false
namespace Go.Proofs.YtanfoijdfcnpoaaGreatDoor.Ev

/-! ### The names v1, v2, .. -/

def vn (m : Nat) : List UInt8 := 118 :: Lib.decDigits m

def valD (l : List UInt8) : Nat := l.foldl (fun a c => 10 * a + (c.toNat - 48)) 0

theorem dec_big {u : Nat} (h : ¬ u < 10) : Lib.decDigits u = Lib.decDigits (u / 10) ++ [UInt8.ofNat (48 + u % 10)] := by
  rw [Lib.decDigits, dif_neg h]

theorem dig_nat (d : Nat) (h : d < 10) : (UInt8.ofNat (48 + d)).toNat = 48 + d := by
  simp only [UInt8.toNat_ofNat']; omega

theorem val_dec (u : Nat) : valD (Lib.decDigits u) = u := by
  induction u using Nat.strongRecOn with
  | ind u ih =>
    by_cases h : u < 10
    · rw [Lib.decDigits_one h]
      simp only [valD, List.foldl_cons, List.foldl_nil, dig_nat u h]; omega
    · rw [dec_big h]
      have h1 := ih (u / 10) (by omega)
      unfold valD at h1 ⊢
      rw [List.foldl_append, h1]
      simp only [List.foldl_cons, List.foldl_nil, dig_nat (u % 10) (by omega)]; omega

theorem vn_inj {a b : Nat} (h : vn a = vn b) : a = b := by
  simp only [vn, List.cons.injEq, true_and] at h
  rw [← val_dec a, h, val_dec]

theorem vn_mk {a b : Nat} (h : mk (vn a) = mk (vn b)) : a = b := by
  refine vn_inj ?_
  have := congrArg (fun s : ByteArray => s.data.toList) h
  simpa using this

theorem dec_all (u : Nat) : ∀ c ∈ Lib.decDigits u, 48 ≤ c.toNat ∧ c.toNat ≤ 57 := by
  induction u using Nat.strongRecOn with
  | ind u ih =>
    intro c hc
    by_cases h : u < 10
    · rw [Lib.decDigits_one h] at hc
      simp only [List.mem_cons, List.not_mem_nil, or_false] at hc
      subst hc
      rw [dig_nat u h]; omega
    · rw [dec_big h, List.mem_append] at hc
      rcases hc with hc | hc
      · exact ih (u / 10) (by omega) c hc
      · simp only [List.mem_cons, List.not_mem_nil, or_false] at hc
        subst hc
        rw [dig_nat (u % 10) (by omega)]; omega

theorem dec_len5 : ∀ (k u : Nat), u < 10 ^ (k + 1) → (Lib.decDigits u).length ≤ k + 1
  | 0, u, h => by rw [Lib.decDigits_one (by omega)]; simp
  | k + 1, u, h => by
    by_cases h10 : u < 10
    · rw [Lib.decDigits_one h10]; simp
    · rw [dec_big h10, List.length_append]
      have := dec_len5 k (u / 10) (by rw [Nat.pow_succ] at h; omega)
      simp; omega

theorem nmOk_vn {m : Nat} (h : m ≤ 10000) : nmOk (vn m) = true := by
  have hl := dec_len5 4 m (by omega)
  have ha := dec_all m
  have h1 : ((vn m).all nmC) = true := by
    rw [List.all_eq_true]
    intro c hc
    simp only [vn, List.mem_cons] at hc
    rcases hc with rfl | hc
    · decide
    · obtain ⟨q1, q2⟩ := ha c hc
      have : digB (c.toNat : Int) = true := by simp only [digB, Bool.and_eq_true, decide_eq_true_eq]; omega
      simp [nmC, nmB, this]
  have h2 : ((vn m) == tyB) = false := by
    cases hq : ((vn m) == tyB) with
    | false => rfl
    | true => have := eq_of_beq hq; simp [vn, tyB] at this
  simp only [nmOk, h2, Bool.not_false, Bool.and_true]
  show (decide ((118 :: Lib.decDigits m).length ≤ 16) && (letB ((118 : UInt8).toNat : Int) && (vn m).all nmC)) = true
  rw [h1, show letB ((118 : UInt8).toNat : Int) = true from by decide]
  simp; omega

/-! ### Maps of names -/

theorem mget_mset {α : Type} (d : α) (k : ByteArray) (v : α) (x : ByteArray) : ∀ l : List (ByteArray × α), mget d (mset l k v) x = bif strEq x k then v else mget d l x
  | [] => by simp only [mset, mget]
  | (k', v') :: r => by
    simp only [mset]
    cases hk : strEq k k' with
    | true =>
      have := strEq_iff.1 hk; subst this
      simp only [cond_true, mget]
      cases strEq x k <;> rfl
    | false =>
      simp only [cond_false, mget, mget_mset d k v x r]
      cases hx : strEq x k' with
      | false => rfl
      | true =>
        have := strEq_iff.1 hx; subst this
        rw [strEq_comm, hk]; rfl

theorem mset_len {α : Type} (k : ByteArray) (v : α) : ∀ l : List (ByteArray × α), (mset l k v).length ≤ l.length + 1
  | [] => by simp [mset]
  | x :: r => by
    simp only [mset]
    cases strEq k x.1 with
    | true => simp
    | false => have := mset_len k v r; simp only [cond_false, List.length_cons]; omega

theorem hasB_app (l r : List ByteArray) (x : ByteArray) : hasB (l ++ r) x = (hasB l x || hasB r x) := by simp [hasB]
theorem hasB_one (y x : ByteArray) : hasB [y] x = strEq x y := by simp [hasB]
theorem hasB_iff {l : List ByteArray} {x : ByteArray} : hasB l x = true ↔ x ∈ l := by
  unfold hasB
  rw [List.any_eq_true]
  constructor
  · rintro ⟨y, hy, h⟩; rw [strEq_iff.1 h]; exact hy
  · intro h; exact ⟨x, h, strEq_iff.2 rfl⟩

/-! ### The first that is free -/

def frN (U : ByteArray → Bool) : Nat → Nat → Nat
  | 0, m => m
  | k + 1, m => bif U (mk (vn m)) then frN U k (m + 1) else m

theorem frN_spec (U : ByteArray → Bool) : ∀ k m, m ≤ frN U k m ∧ frN U k m ≤ m + k ∧ (∀ j, m ≤ j → j < frN U k m → U (mk (vn j)) = true) ∧ (frN U k m < m + k → U (mk (vn (frN U k m))) = false)
  | 0, m => ⟨Nat.le_refl _, Nat.le_refl _, fun j h1 h2 => by simp only [frN] at h2; omega, fun h => by simp only [frN] at h; omega⟩
  | k + 1, m => by
    simp only [frN]
    cases hU : U (mk (vn m)) with
    | false => simp only [cond_false]; exact ⟨Nat.le_refl _, by omega, fun j h1 h2 => by omega, fun _ => hU⟩
    | true =>
      simp only [cond_true]
      obtain ⟨h1, h2, h3, h4⟩ := frN_spec U k (m + 1)
      refine ⟨by omega, by omega, fun j h5 h6 => ?_, fun h => h4 (by omega)⟩
      by_cases e : j = m
      · subst e; exact hU
      · exact h3 j (by omega) h6

theorem frN_eq {U : ByteArray → Bool} {k m k' m' : Nat} (h : m' ≤ m) (hall : ∀ j, m' ≤ j → j < m → U (mk (vn j)) = true) {j : Nat} (h1 : m ≤ j) (h2 : j < m + k) (h3 : j < m' + k') (h4 : U (mk (vn j)) = false) : frN U k m = frN U k' m' := by
  obtain ⟨a1, a2, a3, a4⟩ := frN_spec U k m
  obtain ⟨b1, b2, b3, b4⟩ := frN_spec U k' m'
  have ha : frN U k m ≤ j := by
    rcases Nat.lt_or_ge j (frN U k m) with q | q
    · rw [a3 j h1 q] at h4; cases h4
    · exact q
  have hb : frN U k' m' ≤ j := by
    rcases Nat.lt_or_ge j (frN U k' m') with q | q
    · rw [b3 j (by omega) q] at h4; cases h4
    · exact q
  have fa := a4 (by omega)
  have fb := b4 (by omega)
  rcases Nat.lt_trichotomy (frN U k m) (frN U k' m') with q | q | q
  · rw [b3 _ (by omega) q] at fa; cases fa
  · exact q
  · exfalso
    rcases Nat.lt_or_ge (frN U k' m') m with q2 | q2
    · rw [hall _ b1 q2] at fb; cases fb
    · rw [a3 _ q2 q] at fb; cases fb

theorem pigeon (a : Nat) : ∀ (n : Nat) (l : List ByteArray), (∀ i, i < n → hasB l (mk (vn (a + i))) = true) → n ≤ l.length
  | 0, l, _ => Nat.zero_le _
  | n + 1, l, h => by
    have hn := hasB_iff.1 (h n (by omega))
    have hlt : (l.filter fun x => !strEq x (mk (vn (a + n)))).length < l.length := by
      rw [List.length_filter_lt_length_iff_exists]
      exact ⟨_, hn, by simp [strEq_iff.2]⟩
    have := pigeon a n (l.filter fun x => !strEq x (mk (vn (a + n)))) fun i hi => by
      rw [hasB_iff, List.mem_filter]
      refine ⟨hasB_iff.1 (h i (by omega)), ?_⟩
      cases hq : strEq (mk (vn (a + i))) (mk (vn (a + n))) with
      | false => rfl
      | true => have := vn_mk (strEq_iff.1 hq); omega
    omega

theorem fresh_ex (l : List ByteArray) (a : Nat) : ∃ j, a ≤ j ∧ j ≤ a + l.length ∧ hasB l (mk (vn j)) = false := by
  classical
  refine Classical.byContradiction fun hno => ?_
  have := pigeon a (l.length + 1) l fun i hi => by
    cases hq : hasB l (mk (vn (a + i))) with
    | true => rfl
    | false => exact absurd ⟨a + i, by omega, by omega, hq⟩ hno
  omega

/-! ### The program's way -/

structure PS where
  ps ::
  u : List (ByteArray × Bool)
  n : Nat

def PS.m (s : PS) : Nat := frN (mget false s.u) 2000 (s.n + 1)
def PS.next (s : PS) : PS := ⟨mset s.u (mk (vn s.m)) true, s.m⟩

def nmP (f t : ByteArray) (bd : List ByteArray) (now : List (ByteArray × ByteArray)) (w : List UInt8) : List UInt8 :=
  bif hasB bd (mk w) then (bif strEq (mget tNo now (mk w)) tNo then w else (mget tNo now (mk w)).data.toList) else bif strEq (mk w) f then t.data.toList else w

def Xp.rn (f t : ByteArray) : Xp → List ByteArray → List (ByteArray × ByteArray) → PS → Xp × PS
  | .ty, _, _, s => (.ty, s)
  | .hole, _, _, s => (.hole, s)
  | .nm w, bd, now, s => (.nm (nmP f t bd now w), s)
  | .app a b, bd, now, s => (.app (a.rn f t bd now s).1 (b.rn f t bd now (a.rn f t bd now s).2).1, (b.rn f t bd now (a.rn f t bd now s).2).2)
  | .arr a b, bd, now, s => (.arr (a.rn f t bd now s).1 (b.rn f t bd now (a.rn f t bd now s).2).1, (b.rn f t bd now (a.rn f t bd now s).2).2)
  | .bnd l w a b, bd, now, s =>
    bif strEq (mk w) t && hasB (b.free (bd ++ [mk w]) []) f then
      (.bnd l (vn s.m) (a.rn f t bd now s.next).1 (b.rn f t (bd ++ [mk w]) (mset (mdel now (mk w)) (mk w) (mk (vn s.m))) (a.rn f t bd now s.next).2).1,
        (b.rn f t (bd ++ [mk w]) (mset (mdel now (mk w)) (mk w) (mk (vn s.m))) (a.rn f t bd now s.next).2).2)
    else
      (.bnd l w (a.rn f t bd now s).1 (b.rn f t (bd ++ [mk w]) (mdel now (mk w)) (a.rn f t bd now s).2).1, (b.rn f t (bd ++ [mk w]) (mdel now (mk w)) (a.rn f t bd now s).2).2)

/-- All names, into a set. -/
def Xp.pnames : Xp → List (ByteArray × Bool) → List (ByteArray × Bool)
  | .ty, o => mset o tNo true
  | .hole, o => mset o tNo true
  | .nm w, o => mset o (mk w) true
  | .app a b, o => b.pnames (a.pnames (mset o tNo true))
  | .arr a b, o => b.pnames (a.pnames (mset o tNo true))
  | .bnd _ w a b, o => b.pnames (a.pnames (mset o (mk w) true))

/-! ### The reference's way -/

def Xp.put (f t : ByteArray) : Xp → Xp
  | .ty => .ty
  | .hole => .hole
  | .nm w => .nm (bif strEq (mk w) f then t.data.toList else w)
  | .app a b => .app (a.put f t) (b.put f t)
  | .arr a b => .arr (a.put f t) (b.put f t)
  | .bnd l w a b => .bnd l w (a.put f t) (bif strEq (mk w) f then b else b.put f t)

def frR (u : List ByteArray) : Nat := frN (hasB u) 2000 1

def Xp.rnd (f t : ByteArray) : Xp → List ByteArray → Xp × List ByteArray
  | .ty, u => (.ty, u)
  | .hole, u => (.hole, u)
  | .nm w, u => (.nm w, u)
  | .app a b, u => (.app (a.rnd f t u).1 (b.rnd f t (a.rnd f t u).2).1, (b.rnd f t (a.rnd f t u).2).2)
  | .arr a b, u => (.arr (a.rnd f t u).1 (b.rnd f t (a.rnd f t u).2).1, (b.rnd f t (a.rnd f t u).2).2)
  | .bnd l w a b, u =>
    bif strEq (mk w) t && (!strEq f t && hasB (b.free [] []) f) then
      (.bnd l (vn (frR u)) (a.rnd f t (u ++ [mk (vn (frR u))])).1 ((b.rnd f t (a.rnd f t (u ++ [mk (vn (frR u))])).2).1.put t (mk (vn (frR u)))), (b.rnd f t (a.rnd f t (u ++ [mk (vn (frR u))])).2).2)
    else bif strEq (mk w) f then (.bnd l w (a.rnd f t u).1 b, (a.rnd f t u).2)
    else (.bnd l w (a.rnd f t u).1 (b.rnd f t (a.rnd f t u).2).1, (b.rnd f t (a.rnd f t u).2).2)

def addN (o : List ByteArray) (x : ByteArray) : List ByteArray := bif strEq x tNo then o else bif hasB o x then o else o ++ [x]

def Xp.rnames : Xp → List ByteArray → List ByteArray
  | .ty, o => o
  | .hole, o => o
  | .nm w, o => addN o (mk w)
  | .app a b, o => b.rnames (a.rnames o)
  | .arr a b, o => b.rnames (a.rnames o)
  | .bnd _ w a b, o => b.rnames (a.rnames (addN o (mk w)))

/-! ### They are the same -/

theorem mk_ls (s : ByteArray) : mk s.data.toList = s := (mk_of s).symm

theorem free_has : ∀ (e : Xp) (bd out : List ByteArray) (x : ByteArray), hasB (e.free bd out) x = (hasB out x || hasB (e.free bd []) x)
  | .ty, bd, out, x => by simp [Xp.free, hasB]
  | .hole, bd, out, x => by simp [Xp.free, hasB]
  | .nm w, bd, out, x => by
    simp only [Xp.free]
    cases hasB bd (mk w) with
    | true => simp [hasB]
    | false =>
      simp only [cond_false, show hasB [] (mk w) = false from rfl, List.nil_append]
      cases h : hasB out (mk w) with
      | false => rw [cond_false, hasB_app]
      | true =>
        rw [cond_true, hasB_one]
        cases hx : strEq x (mk w) with
        | false => simp
        | true => rw [strEq_iff.1 hx, h]; rfl
  | .app a b, bd, out, x => by
    simp only [Xp.free]
    rw [free_has b bd (a.free bd out) x, free_has a bd out x, free_has b bd (a.free bd []) x, Bool.or_assoc]
  | .arr a b, bd, out, x => by
    simp only [Xp.free]
    rw [free_has b bd (a.free bd out) x, free_has a bd out x, free_has b bd (a.free bd []) x, Bool.or_assoc]
  | .bnd l w a b, bd, out, x => by
    simp only [Xp.free]
    rw [free_has b (bd ++ [mk w]) (a.free bd out) x, free_has a bd out x, free_has b (bd ++ [mk w]) (a.free bd []) x, Bool.or_assoc]

/-- What is bound is not free; what else is, does not hang on the names that are bound. -/
theorem free_bd : ∀ (e : Xp) (bd bd' : List ByteArray) (x : ByteArray), hasB bd x = hasB bd' x → hasB (e.free bd []) x = hasB (e.free bd' []) x
  | .ty, bd, bd', x, h => rfl
  | .hole, bd, bd', x, h => rfl
  | .nm w, bd, bd', x, h => by
    simp only [Xp.free, show hasB [] (mk w) = false from rfl, cond_false, List.nil_append]
    by_cases hx : strEq x (mk w) = true
    · have := strEq_iff.1 hx; subst this; rw [h]
    · have hx : strEq x (mk w) = false := by simpa using hx
      cases hasB bd (mk w) <;> cases hasB bd' (mk w) <;> simp [hasB, hx]
  | .app a b, bd, bd', x, h => by
    simp only [Xp.free]
    rw [free_has b bd, free_has b bd', free_bd a bd bd' x h, free_bd b bd bd' x h]
  | .arr a b, bd, bd', x, h => by
    simp only [Xp.free]
    rw [free_has b bd, free_has b bd', free_bd a bd bd' x h, free_bd b bd bd' x h]
  | .bnd l w a b, bd, bd', x, h => by
    simp only [Xp.free]
    rw [free_has b _, free_has b (bd' ++ [mk w]), free_bd a bd bd' x h, free_bd b (bd ++ [mk w]) (bd' ++ [mk w]) x (by rw [hasB_app, hasB_app, h])]

theorem free_bound : ∀ (e : Xp) (bd : List ByteArray) (x : ByteArray), hasB bd x = true → hasB (e.free bd []) x = false
  | .ty, bd, x, h => rfl
  | .hole, bd, x, h => rfl
  | .nm w, bd, x, h => by
    simp only [Xp.free, show hasB [] (mk w) = false from rfl, cond_false, List.nil_append]
    by_cases hx : strEq x (mk w) = true
    · have := strEq_iff.1 hx; subst this; rw [h]; rfl
    · have hx : strEq x (mk w) = false := by simpa using hx
      cases hasB bd (mk w) <;> simp [hasB, hx]
  | .app a b, bd, x, h => by
    simp only [Xp.free]
    rw [free_has b bd, free_bound a bd x h, free_bound b bd x h]; rfl
  | .arr a b, bd, x, h => by
    simp only [Xp.free]
    rw [free_has b bd, free_bound a bd x h, free_bound b bd x h]; rfl
  | .bnd l w a b, bd, x, h => by
    simp only [Xp.free]
    rw [free_has b _, free_bound a bd x h, free_bound b (bd ++ [mk w]) x (by rw [hasB_app, h]; rfl)]; rfl

theorem put_again (t v v' : ByteArray) (hv : strEq v t = false) : ∀ x : Xp, (x.put t v).put t v' = x.put t v
  | .ty => rfl
  | .hole => rfl
  | .nm w => by
    simp only [Xp.put]
    cases h : strEq (mk w) t with
    | true => simp only [cond_true, mk_ls, hv, cond_false]
    | false => simp only [cond_false, h]
  | .app a b => by simp only [Xp.put, put_again t v v' hv a, put_again t v v' hv b]
  | .arr a b => by simp only [Xp.put, put_again t v v' hv a, put_again t v v' hv b]
  | .bnd l w a b => by
    simp only [Xp.put, put_again t v v' hv a]
    cases strEq (mk w) t with
    | true => simp only [cond_true]
    | false => simp only [cond_false, put_again t v v' hv b]

/-- What stands now for the name that is put in. -/
inductive NowOk (f t : ByteArray) (bd : List ByteArray) : List (ByteArray × ByteArray) → Prop
  | nil : NowOk f t bd []
  | one (v : ByteArray) (h0 : strEq v tNo = false) (hf : strEq v f = false) (ht : strEq v t = false) (hb : hasB bd t = true) : NowOk f t bd [(t, v)]

def putN (now : List (ByteArray × ByteArray)) (x : Xp) : Xp :=
  match now with
  | [(t, v)] => x.put t v
  | _ => x

theorem NowOk.ext {f t : ByteArray} {bd : List ByteArray} {now : List (ByteArray × ByteArray)} (h : NowOk f t bd now) (w : ByteArray) (hw : strEq w t = false) : NowOk f t (bd ++ [w]) (mdel now w) ∧ mdel now w = now := by
  cases h with
  | nil => exact ⟨.nil, rfl⟩
  | one v h0 hf ht hb =>
    have : mdel [(t, v)] w = [(t, v)] := by simp only [mdel, hw, cond_false]
    rw [this]
    exact ⟨.one v h0 hf ht (by rw [hasB_app, hb]; rfl), rfl⟩

theorem NowOk.gone {f t : ByteArray} {bd : List ByteArray} {now : List (ByteArray × ByteArray)} (h : NowOk f t bd now) : mdel now t = [] := by
  cases h with
  | nil => rfl
  | one v h0 hf ht hb => simp only [mdel, strEq_iff.2 rfl, cond_true]

theorem putN_app {f t : ByteArray} {bd : List ByteArray} {now : List (ByteArray × ByteArray)} (h : NowOk f t bd now) (a b : Xp) : putN now (.app a b) = .app (putN now a) (putN now b) := by
  cases h <;> rfl
theorem putN_arr {f t : ByteArray} {bd : List ByteArray} {now : List (ByteArray × ByteArray)} (h : NowOk f t bd now) (a b : Xp) : putN now (.arr a b) = .arr (putN now a) (putN now b) := by
  cases h <;> rfl
theorem putN_bnd {f t : ByteArray} {bd : List ByteArray} {now : List (ByteArray × ByteArray)} (h : NowOk f t bd now) (l : Bool) (w : List UInt8) (a b : Xp) (hw : strEq (mk w) t = false) : putN now (.bnd l w a b) = .bnd l w (putN now a) (putN now b) := by
  cases h with
  | nil => rfl
  | one v h0 hf ht hb => simp only [putN, Xp.put, hw, cond_false]
theorem putN_bnd_t {f t : ByteArray} {bd : List ByteArray} {now : List (ByteArray × ByteArray)} (h : NowOk f t bd now) (l : Bool) (w : List UInt8) (a b : Xp) (hw : strEq (mk w) t = true) : putN now (.bnd l w a b) = .bnd l w (putN now a) b := by
  cases h with
  | nil => rfl
  | one v h0 hf ht hb => simp only [putN, Xp.put, hw, cond_true]
theorem putN_put {f t : ByteArray} {bd : List ByteArray} {now : List (ByteArray × ByteArray)} (h : NowOk f t bd now) (v : ByteArray) (hv : strEq v t = false) (x : Xp) : putN now (x.put t v) = x.put t v := by
  cases h with
  | nil => rfl
  | one v' h0 hf ht hb => exact put_again t v v' hv x

/-- Within a binder of the name that is put away, nothing but what stands now is done. -/
theorem rn_in {f t : ByteArray} (hft : strEq f t = false) : ∀ (e : Xp) (bd : List ByteArray) (now : List (ByteArray × ByteArray)) (s : PS), hasB bd f = true → NowOk f t bd now → e.rn f t bd now s = (putN now e, s)
  | .ty, bd, now, s, hb, hn => by cases hn <;> rfl
  | .hole, bd, now, s, hb, hn => by cases hn <;> rfl
  | .nm w, bd, now, s, hb, hn => by
    simp only [Xp.rn, nmP]
    cases hn with
    | nil =>
      simp only [mget, strEq_iff.2 rfl, cond_true, putN]
      cases hw : hasB bd (mk w) with
      | true => rfl
      | false =>
        simp only [cond_false]
        cases hq : strEq (mk w) f with
        | false => rfl
        | true => rw [strEq_iff.1 hq, hb] at hw; cases hw
    | one v h0 hf ht hbt =>
      simp only [putN, Xp.put, mget]
      cases hq : strEq (mk w) t with
      | true =>
        have := strEq_iff.1 hq
        rw [this, hbt]
        simp only [cond_true, h0, cond_false]
      | false =>
        simp only [cond_false, strEq_iff.2 rfl, cond_true]
        cases hw : hasB bd (mk w) with
        | true => rfl
        | false =>
          simp only [cond_false]
          cases hq : strEq (mk w) f with
          | false => rfl
          | true => rw [strEq_iff.1 hq, hb] at hw; cases hw
  | .app a b, bd, now, s, hb, hn => by simp only [Xp.rn, rn_in hft a bd now s hb hn, rn_in hft b bd now s hb hn, putN_app hn]
  | .arr a b, bd, now, s, hb, hn => by simp only [Xp.rn, rn_in hft a bd now s hb hn, rn_in hft b bd now s hb hn, putN_arr hn]
  | .bnd l w a b, bd, now, s, hb, hn => by
    have hb2 : hasB (bd ++ [mk w]) f = true := by rw [hasB_app, hb]; rfl
    simp only [Xp.rn, free_bound b (bd ++ [mk w]) f hb2, Bool.and_false, cond_false, rn_in hft a bd now s hb hn]
    cases hq : strEq (mk w) t with
    | true =>
      rw [strEq_iff.1 hq, hn.gone, putN_bnd_t hn l w a b hq, rn_in hft b (bd ++ [t]) [] s (by rw [hasB_app, hb]; rfl) .nil]; rfl
    | false =>
      obtain ⟨h1, h2⟩ := hn.ext (mk w) hq
      rw [rn_in hft b _ _ s hb2 h1, h2, putN_bnd hn l w a b hq]

/-- What is used, in the program and in the reference. -/
def PS.eqv (s : PS) (u : List ByteArray) : Prop := (∀ m, mget false s.u (mk (vn m)) = hasB u (mk (vn m))) ∧ ∀ m, 1 ≤ m → m ≤ s.n → hasB u (mk (vn m)) = true

theorem rnd_has (f t : ByteArray) : ∀ (e : Xp) (u : List ByteArray) (x : ByteArray), hasB u x = true → hasB (e.rnd f t u).2 x = true
  | .ty, u, x, h => h
  | .hole, u, x, h => h
  | .nm w, u, x, h => h
  | .app a b, u, x, h => rnd_has f t b _ x (rnd_has f t a u x h)
  | .arr a b, u, x, h => rnd_has f t b _ x (rnd_has f t a u x h)
  | .bnd l w a b, u, x, h => by
    simp only [Xp.rnd]
    cases strEq (mk w) t && (!strEq f t && hasB (b.free [] []) f) with
    | true => exact rnd_has f t b _ x (rnd_has f t a _ x (by rw [hasB_app, h]; rfl))
    | false =>
      simp only [cond_false]
      cases strEq (mk w) f with
      | true => exact rnd_has f t a u x h
      | false => exact rnd_has f t b _ x (rnd_has f t a u x h)

theorem rnd_len (f t : ByteArray) : ∀ (e : Xp) (u : List ByteArray), (e.rnd f t u).2.length ≤ u.length + e.sz
  | .ty, u => by simp [Xp.rnd]
  | .hole, u => by simp [Xp.rnd]
  | .nm w, u => by simp [Xp.rnd]
  | .app a b, u => by
    have h1 := rnd_len f t a u
    have h2 := rnd_len f t b (a.rnd f t u).2
    simp only [Xp.rnd, Xp.sz]; omega
  | .arr a b, u => by
    have h1 := rnd_len f t a u
    have h2 := rnd_len f t b (a.rnd f t u).2
    simp only [Xp.rnd, Xp.sz]; omega
  | .bnd l w a b, u => by
    simp only [Xp.rnd, Xp.sz]
    cases strEq (mk w) t && (!strEq f t && hasB (b.free [] []) f) with
    | true =>
      have h1 := rnd_len f t a (u ++ [mk (vn (frR u))])
      have h2 := rnd_len f t b (a.rnd f t (u ++ [mk (vn (frR u))])).2
      simp only [List.length_append, List.length_cons, List.length_nil] at h1
      simp only [cond_true]; omega
    | false =>
      simp only [cond_false]
      have h1 := rnd_len f t a u
      cases strEq (mk w) f with
      | true => simp only [cond_true]; omega
      | false =>
        have h2 := rnd_len f t b (a.rnd f t u).2
        simp only [cond_false]; omega

theorem PS.eqv.m_eq {s : PS} {u : List ByteArray} (h : s.eqv u) (hl : u.length ≤ 1000) : s.m = frR u ∧ hasB u (mk (vn s.m)) = false ∧ s.m ≤ s.n + 1 + u.length ∧ s.m ≤ 1 + u.length := by
  obtain ⟨j, j1, j2, j3⟩ := fresh_ex u (s.n + 1)
  obtain ⟨i, i1, i2, i3⟩ := fresh_ex u 1
  have hU : frN (mget false s.u) 2000 (s.n + 1) = frN (hasB u) 2000 (s.n + 1) := by
    have key : ∀ k m, frN (mget false s.u) k m = frN (hasB u) k m := by
      intro k
      induction k with
      | zero => intro m; rfl
      | succ k ih => intro m; simp only [frN, h.1, ih]
    exact key _ _
  have hle : s.n + 1 ≤ i := by
    rcases Nat.lt_or_ge s.n i with q | q
    · exact q
    · rw [h.2 i i1 q] at i3; cases i3
  have e1 : frN (hasB u) 2000 (s.n + 1) = frN (hasB u) 2000 1 :=
    frN_eq (by omega) (fun j a b => h.2 j a (by omega)) (j := i) hle (by omega) (by omega) i3
  obtain ⟨a1, a2, a3, a4⟩ := frN_spec (hasB u) 2000 1
  have hle2 : frN (hasB u) 2000 1 ≤ i := by
    rcases Nat.lt_or_ge i (frN (hasB u) 2000 1) with q | q
    · rw [a3 i i1 q] at i3; cases i3
    · exact q
  unfold PS.m frR
  rw [hU, e1]
  exact ⟨rfl, a4 (by omega), by omega, by omega⟩

theorem PS.eqv.step {s : PS} {u : List ByteArray} (h : s.eqv u) (hl : u.length ≤ 1000) : s.next.eqv (u ++ [mk (vn (frR u))]) := by
  obtain ⟨e, h1, h2, h3⟩ := h.m_eq hl
  refine ⟨fun m => ?_, fun m a b => ?_⟩
  · simp only [PS.next, mget_mset, hasB_app, hasB_one, h.1 m, e]
    cases strEq (mk (vn m)) (mk (vn (frR u))) <;> simp
  · simp only [PS.next] at b
    rw [hasB_app, hasB_one]
    by_cases hm : m = s.m
    · subst hm; rw [e, strEq_iff.2 rfl]; simp
    · obtain ⟨a1, a2, a3, a4⟩ := frN_spec (hasB u) 2000 1
      have : m < frN (hasB u) 2000 1 := by unfold frR at e; omega
      rw [a3 m a this]; rfl

theorem rn_out {f t : ByteArray} (hft : strEq f t = false) : ∀ (e : Xp) (bd : List ByteArray) (now : List (ByteArray × ByteArray)) (s : PS) (u : List ByteArray), hasB bd f = false → NowOk f t bd now → s.eqv u → hasB u f = true → hasB u t = true → u.length + e.sz ≤ 1000 →
    (e.rn f t bd now s).1 = (putN now (e.rnd f t u).1).put f t ∧ (e.rn f t bd now s).2.eqv (e.rnd f t u).2
  | .ty, bd, now, s, u, hb, hn, he, hf, ht, hl => by cases hn <;> exact ⟨rfl, he⟩
  | .hole, bd, now, s, u, hb, hn, he, hf, ht, hl => by cases hn <;> exact ⟨rfl, he⟩
  | .nm w, bd, now, s, u, hb, hn, he, hf, ht, hl => by
    refine ⟨?_, he⟩
    simp only [Xp.rn, nmP, Xp.rnd]
    cases hn with
    | nil =>
      simp only [mget, strEq_iff.2 rfl, cond_true, putN, Xp.put]
      cases hq : strEq (mk w) f with
      | true => rw [strEq_iff.1 hq, hb]; rfl
      | false => cases hasB bd (mk w) <;> rfl
    | one v h0 hvf hvt hbt =>
      simp only [putN, Xp.put, mget]
      cases hq : strEq (mk w) t with
      | true =>
        have := strEq_iff.1 hq
        rw [this, hbt]
        simp only [cond_true, h0, cond_false, mk_ls, hvf]
      | false =>
        simp only [cond_false, strEq_iff.2 rfl, cond_true]
        cases hq : strEq (mk w) f with
        | true => rw [strEq_iff.1 hq, hb]; rfl
        | false => cases hasB bd (mk w) <;> rfl
  | .app a b, bd, now, s, u, hb, hn, he, hf, ht, hl => by
    simp only [Xp.sz] at hl
    have hlen := rnd_len f t a u
    obtain ⟨a1, a2⟩ := rn_out hft a bd now s u hb hn he hf ht (by omega)
    obtain ⟨b1, b2⟩ := rn_out hft b bd now _ _ hb hn a2 (rnd_has f t a u f hf) (rnd_has f t a u t ht) (by omega)
    refine ⟨?_, b2⟩
    simp only [Xp.rn, Xp.rnd, a1, b1, putN_app hn, Xp.put]
  | .arr a b, bd, now, s, u, hb, hn, he, hf, ht, hl => by
    simp only [Xp.sz] at hl
    have hlen := rnd_len f t a u
    obtain ⟨a1, a2⟩ := rn_out hft a bd now s u hb hn he hf ht (by omega)
    obtain ⟨b1, b2⟩ := rn_out hft b bd now _ _ hb hn a2 (rnd_has f t a u f hf) (rnd_has f t a u t ht) (by omega)
    refine ⟨?_, b2⟩
    simp only [Xp.rn, Xp.rnd, a1, b1, putN_arr hn, Xp.put]
  | .bnd l w a b, bd, now, s, u, hb, hn, he, hf, ht, hl => by
    simp only [Xp.sz] at hl
    simp only [Xp.rn, Xp.rnd]
    cases hq : strEq (mk w) t with
    | false =>
      simp only [Bool.false_and, cond_false]
      obtain ⟨n1, n2⟩ := hn.ext (mk w) hq
      have hlen := rnd_len f t a u
      obtain ⟨a1, a2⟩ := rn_out hft a bd now s u hb hn he hf ht (by omega)
      cases hwf : strEq (mk w) f with
      | true =>
        simp only [cond_true]
        rw [rn_in hft b _ _ _ (by rw [hasB_app, hasB_one, strEq_comm, hwf]; simp) n1, n2]
        refine ⟨?_, a2⟩
        rw [a1, putN_bnd hn l w _ _ hq]
        simp only [Xp.put, hwf, cond_true]
      | false =>
        simp only [cond_false]
        obtain ⟨b1, b2⟩ := rn_out hft b (bd ++ [mk w]) _ _ _ (by rw [hasB_app, hasB_one, hb, strEq_comm, hwf]; rfl) n1 a2 (rnd_has f t a u f hf) (rnd_has f t a u t ht) (by omega)
        refine ⟨?_, b2⟩
        rw [a1, b1, n2, putN_bnd hn l w _ _ hq]
        simp only [Xp.put, hwf, cond_false]
    | true =>
      have hwt := strEq_iff.1 hq
      have hbf : hasB (bd ++ [mk w]) f = hasB [] f := by rw [hasB_app, hasB_one, hb, hwt, hft]; rfl
      rw [free_bd b (bd ++ [mk w]) [] f hbf]
      simp only [Bool.true_and, hft, Bool.not_false]
      have hwf : strEq (mk w) f = false := by rw [hwt, strEq_comm]; exact hft
      have hlen := rnd_len f t a u
      cases hc : hasB (b.free [] []) f with
      | false =>
        simp only [cond_false, hwf]
        obtain ⟨a1, a2⟩ := rn_out hft a bd now s u hb hn he hf ht (by omega)
        obtain ⟨b1, b2⟩ := rn_out hft b (bd ++ [mk w]) [] _ _ hbf .nil a2 (rnd_has f t a u f hf) (rnd_has f t a u t ht) (by omega)
        have hmd : mdel now (mk w) = [] := by rw [hwt]; exact hn.gone
        rw [hmd]
        refine ⟨?_, b2⟩
        rw [a1, b1, putN_bnd_t hn l w _ _ hq]
        simp only [Xp.put, hwf, cond_false, putN]
      | true =>
        simp only [cond_true]
        obtain ⟨e1, e2, e3⟩ := he.m_eq (by omega)
        have hvf : strEq (mk (vn s.m)) f = false := by
          cases h : strEq (mk (vn s.m)) f with
          | false => rfl
          | true => rw [strEq_iff.1 h, hf] at e2; cases e2
        have hvt : strEq (mk (vn s.m)) t = false := by
          cases h : strEq (mk (vn s.m)) t with
          | false => rfl
          | true => rw [strEq_iff.1 h, ht] at e2; cases e2
        have hv0 : strEq (mk (vn s.m)) tNo = false := by
          cases h : strEq (mk (vn s.m)) tNo with
          | false => rfl
          | true => have := congrArg (fun s : ByteArray => s.data.toList) (strEq_iff.1 h); simp [vn] at this
        have hl2 : (u ++ [mk (vn (frR u))]).length + (a.sz + b.sz) ≤ 1000 := by simp; omega
        have hf2 : hasB (u ++ [mk (vn (frR u))]) f = true := by rw [hasB_app, hf]; rfl
        have ht2 : hasB (u ++ [mk (vn (frR u))]) t = true := by rw [hasB_app, ht]; rfl
        have hlen2 := rnd_len f t a (u ++ [mk (vn (frR u))])
        obtain ⟨a1, a2⟩ := rn_out hft a bd now s.next _ hb hn (he.step (by omega)) hf2 ht2 (by omega)
        have hn2 : NowOk f t (bd ++ [mk w]) [(t, mk (vn s.m))] := .one _ hv0 hvf hvt (by rw [hasB_app, hasB_one, hwt, strEq_iff.2 rfl]; simp)
        have hset : mset (mdel now (mk w)) (mk w) (mk (vn s.m)) = [(t, mk (vn s.m))] := by rw [hwt, hn.gone]; rfl
        rw [hset]
        obtain ⟨b1, b2⟩ := rn_out hft b (bd ++ [mk w]) [(t, mk (vn s.m))] _ _ hbf hn2 a2 (rnd_has f t a _ f hf2) (rnd_has f t a _ t ht2) (by omega)
        refine ⟨?_, b2⟩
        rw [a1, b1, ← e1, putN_bnd hn l (vn s.m) _ _ hvt, putN_put hn _ hvt]
        simp only [Xp.put, hvf, cond_false, putN]

end Go.Proofs.YtanfoijdfcnpoaaGreatDoor.Ev
