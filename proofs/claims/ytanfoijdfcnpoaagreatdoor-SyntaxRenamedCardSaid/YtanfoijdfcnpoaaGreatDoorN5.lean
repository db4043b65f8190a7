/- This file proves plain laws of what is renamed: which names are free then, that it stays well formed, and that it comes back; without any condition. -/
import Derived.Test.YtanfoijdfcnpoaaGreatDoorN4
set_option linter.unusedVariables false
set_option linter.unusedSimpArgs false
namespace Go.Proofs.YtanfoijdfcnpoaaGreatDoor.Ev

/-! ### Free occurrences, one after the other -/

def Xp.occ : Xp → List ByteArray → List ByteArray
  | .ty, _ => []
  | .hole, _ => []
  | .nm w, bd => bif hasB bd (mk w) then [] else [mk w]
  | .app a b, bd => a.occ bd ++ b.occ bd
  | .arr a b, bd => a.occ bd ++ b.occ bd
  | .bnd _ w a b, bd => a.occ bd ++ b.occ (bd ++ [mk w])

def add1 (o : List ByteArray) (x : ByteArray) : List ByteArray := bif hasB o x then o else o ++ [x]
def adds (o l : List ByteArray) : List ByteArray := l.foldl add1 o

theorem adds_app (o l r : List ByteArray) : adds o (l ++ r) = adds (adds o l) r := List.foldl_append
theorem adds_cons (o : List ByteArray) (x : ByteArray) (r : List ByteArray) : adds o (x :: r) = adds (add1 o x) r := rfl

theorem free_occ : ∀ (e : Xp) (bd out : List ByteArray), e.free bd out = adds out (e.occ bd)
  | .ty, bd, out => rfl
  | .hole, bd, out => rfl
  | .nm w, bd, out => by
    simp only [Xp.free, Xp.occ]
    cases hasB bd (mk w) <;> rfl
  | .app a b, bd, out => by simp only [Xp.free, Xp.occ, adds_app, free_occ a, free_occ b]
  | .arr a b, bd, out => by simp only [Xp.free, Xp.occ, adds_app, free_occ a, free_occ b]
  | .bnd l w a b, bd, out => by simp only [Xp.free, Xp.occ, adds_app, free_occ a, free_occ b]

theorem add1_has (o : List ByteArray) (y x : ByteArray) : hasB (add1 o y) x = (hasB o x || strEq x y) := by
  unfold add1
  cases hh : hasB o y with
  | false => simp only [cond_false, hasB_app, hasB_one]
  | true =>
    simp only [cond_true]
    cases hq : strEq x y with
    | false => simp
    | true => rw [strEq_iff.1 hq, hh]; rfl

theorem adds_has (x : ByteArray) : ∀ (l o : List ByteArray), hasB (adds o l) x = (hasB o x || hasB l x)
  | [], o => by simp [adds, hasB]
  | y :: r, o => by
    rw [adds_cons, adds_has x r, add1_has, show hasB (y :: r) x = (strEq x y || hasB r x) from rfl, Bool.or_assoc]

theorem occ_free (e : Xp) (bd : List ByteArray) (x : ByteArray) : hasB (e.free bd []) x = hasB (e.occ bd) x := by
  rw [free_occ, adds_has]; rfl

/-- What a name becomes. -/
def sg (f t y : ByteArray) : ByteArray := bif strEq y f then t else y

theorem adds_map (g : ByteArray → ByteArray) : ∀ (l o : List ByteArray), adds [] ((adds o l).map g) = adds (adds [] (o.map g)) (l.map g)
  | [], o => rfl
  | x :: r, o => by
    rw [adds_cons, adds_map g r, List.map_cons, adds_cons]
    congr 1
    unfold add1
    cases hh : hasB o x with
    | false => simp only [cond_false, List.map_append, List.map_cons, List.map_nil, adds_app]; rfl
    | true =>
      simp only [cond_true]
      have : hasB (adds [] (o.map g)) (g x) = true := by
        rw [adds_has, hasB_iff.2 (List.mem_map_of_mem (hasB_iff.1 hh)), Bool.or_true]
      rw [this]; rfl

/-! ### All names -/

def Xp.hs : Xp → ByteArray → Bool
  | .ty, _ => false
  | .hole, _ => false
  | .nm w, y => strEq y (mk w)
  | .app a b, y => a.hs y || b.hs y
  | .arr a b, y => a.hs y || b.hs y
  | .bnd _ w a b, y => strEq y (mk w) || (a.hs y || b.hs y)

theorem mset_keep (k : ByteArray) (l : List (ByteArray × Bool)) (y : ByteArray) (h : mget false l y = true) : mget false (mset l k true) y = true := by
  rw [mget_mset, h]; cases strEq y k <;> rfl

theorem pnames_keep : ∀ (e : Xp) (o : List (ByteArray × Bool)) (y : ByteArray), mget false o y = true → mget false (e.pnames o) y = true
  | .ty, o, y, h => mset_keep _ _ _ h
  | .hole, o, y, h => mset_keep _ _ _ h
  | .nm w, o, y, h => mset_keep _ _ _ h
  | .app a b, o, y, h => pnames_keep b _ y (pnames_keep a _ y (mset_keep _ _ _ h))
  | .arr a b, o, y, h => pnames_keep b _ y (pnames_keep a _ y (mset_keep _ _ _ h))
  | .bnd l w a b, o, y, h => pnames_keep b _ y (pnames_keep a _ y (mset_keep _ _ _ h))

theorem pnames_hs : ∀ (e : Xp) (o : List (ByteArray × Bool)) (y : ByteArray), e.hs y = true → mget false (e.pnames o) y = true
  | .ty, o, y, h => by cases h
  | .hole, o, y, h => by cases h
  | .nm w, o, y, h => by
    have h : strEq y (mk w) = true := h
    simp only [Xp.pnames, mget_mset, h, cond_true]
  | .app a b, o, y, h => by
    simp only [Xp.hs, Bool.or_eq_true] at h
    rcases h with h | h
    · exact pnames_keep b _ y (pnames_hs a _ y h)
    · exact pnames_hs b _ y h
  | .arr a b, o, y, h => by
    simp only [Xp.hs, Bool.or_eq_true] at h
    rcases h with h | h
    · exact pnames_keep b _ y (pnames_hs a _ y h)
    · exact pnames_hs b _ y h
  | .bnd l w a b, o, y, h => by
    simp only [Xp.hs, Bool.or_eq_true] at h
    rcases h with h | h | h
    · exact pnames_keep b _ y (pnames_keep a _ y (by rw [mget_mset, h]; rfl))
    · exact pnames_keep b _ y (pnames_hs a _ y h)
    · exact pnames_hs b _ y h

theorem rn_keep (f t : ByteArray) : ∀ (e : Xp) (bd : List ByteArray) (now : List (ByteArray × ByteArray)) (s : PS) (y : ByteArray), mget false s.u y = true → mget false (e.rn f t bd now s).2.u y = true
  | .ty, bd, now, s, y, h => h
  | .hole, bd, now, s, y, h => h
  | .nm w, bd, now, s, y, h => h
  | .app a b, bd, now, s, y, h => rn_keep f t b _ _ _ y (rn_keep f t a _ _ _ y h)
  | .arr a b, bd, now, s, y, h => rn_keep f t b _ _ _ y (rn_keep f t a _ _ _ y h)
  | .bnd l w a b, bd, now, s, y, h => by
    simp only [Xp.rn]
    cases strEq (mk w) t && hasB (b.free (bd ++ [mk w]) []) f with
    | true => exact rn_keep f t b _ _ _ y (rn_keep f t a _ _ _ y (mset_keep _ _ _ h))
    | false => exact rn_keep f t b _ _ _ y (rn_keep f t a _ _ _ y h)

/-! ### The free names then -/

/-- How the binders around an expression, and around what it becomes, hang together. -/
structure RB (f t : ByteArray) (e : Xp) (bd bd' : List ByteArray) (now : List (ByteArray × ByteArray)) : Prop where
  same : ∀ y, e.hs y = true → strEq y t = false → hasB bd' y = hasB bd y
  keep : NowT t now
  nil : now = [] → hasB bd' t = hasB bd t
  one : ∀ v, now = [(t, v)] → hasB bd t = true ∧ hasB bd' v = true ∧ strEq v tNo = false
  free : hasB (e.occ bd) f = true → hasB bd' t = false

theorem occ_rn {f t : ByteArray} : ∀ (e : Xp) (bd bd' : List ByteArray) (now : List (ByteArray × ByteArray)) (s : PS), s.ok → s.u.length + e.sz ≤ 1000 → mget false s.u t = true → (∀ y, e.hs y = true → mget false s.u y = true) → RB f t e bd bd' now →
    (e.rn f t bd now s).1.occ bd' = (e.occ bd).map (sg f t)
  | .ty, bd, bd', now, s, hs, hl, ht, hu, h => rfl
  | .hole, bd, bd', now, s, hs, hl, ht, hu, h => rfl
  | .nm w, bd, bd', now, s, hs, hl, ht, hu, h => by
    show (bif hasB bd' (mk (nmP f t bd now w)) then [] else [mk (nmP f t bd now w)]) = (bif hasB bd (mk w) then [] else [mk w]).map (sg f t)
    have hw : strEq (mk w) (mk w) = true := strEq_iff.2 rfl
    unfold nmP
    cases hb : hasB bd (mk w) with
    | true =>
      simp only [cond_true, List.map_nil]
      cases hq : strEq (mk w) t with
      | true =>
        have hwt := strEq_iff.1 hq
        rcases h.keep with _ | v
        · simp only [mget, strEq_iff.2 rfl, cond_true]
          rw [hwt, h.nil rfl, ← hwt, hb]; rfl
        · obtain ⟨h1, h2, h3⟩ := h.one v rfl
          simp only [mget, hq, cond_true, h3, cond_false, mk_ls, h2]
      | false =>
        have hm : mget tNo now (mk w) = tNo := by
          rcases h.keep with _ | v
          · rfl
          · simp only [mget, hq, cond_false]
        simp only [hm, strEq_iff.2 rfl, cond_true]
        rw [h.same (mk w) hw hq, hb]; rfl
    | false =>
      simp only [cond_false, List.map_cons, List.map_nil]
      cases hf : strEq (mk w) f with
      | true =>
        have hfo := h.free (by show hasB (bif hasB bd (mk w) then [] else [mk w]) f = true; rw [hb]; simp only [cond_false, hasB_one]; rw [strEq_comm]; exact hf)
        simp only [cond_true, mk_ls, hfo, cond_false, sg, hf]
      | false =>
        simp only [cond_false, sg, hf]
        have : hasB bd' (mk w) = false := by
          cases hq : strEq (mk w) t with
          | true =>
            have hwt := strEq_iff.1 hq
            have hn : now = [] := by
              rcases h.keep with _ | v
              · rfl
              · have := (h.one v rfl).1; rw [← hwt, hb] at this; cases this
            rw [hwt, h.nil hn, ← hwt, hb]
          | false => rw [h.same (mk w) hw hq, hb]
        rw [this]; rfl
  | .app a b, bd, bd', now, s, hs, hl, ht, hu, h => by
    simp only [Xp.sz] at hl
    obtain ⟨a1, a2⟩ := rn_ok f t a bd now s hs
    simp only [Xp.rn, Xp.occ, List.map_append]
    rw [occ_rn a bd bd' now s hs (by omega) ht (fun y hy => hu y (by simp [Xp.hs, hy])) ⟨fun y hy => h.same y (by simp [Xp.hs, hy]), h.keep, h.nil, h.one, fun hf => h.free (by simp only [Xp.occ, hasB_app, hf, Bool.true_or])⟩,
      occ_rn b bd bd' now _ a1 (by omega) (rn_keep f t a _ _ _ _ ht) (fun y hy => rn_keep f t a _ _ _ _ (hu y (by simp [Xp.hs, hy]))) ⟨fun y hy => h.same y (by simp [Xp.hs, hy]), h.keep, h.nil, h.one, fun hf => h.free (by simp only [Xp.occ, hasB_app, hf, Bool.or_true])⟩]
  | .arr a b, bd, bd', now, s, hs, hl, ht, hu, h => by
    simp only [Xp.sz] at hl
    obtain ⟨a1, a2⟩ := rn_ok f t a bd now s hs
    simp only [Xp.rn, Xp.occ, List.map_append]
    rw [occ_rn a bd bd' now s hs (by omega) ht (fun y hy => hu y (by simp [Xp.hs, hy])) ⟨fun y hy => h.same y (by simp [Xp.hs, hy]), h.keep, h.nil, h.one, fun hf => h.free (by simp only [Xp.occ, hasB_app, hf, Bool.true_or])⟩,
      occ_rn b bd bd' now _ a1 (by omega) (rn_keep f t a _ _ _ _ ht) (fun y hy => rn_keep f t a _ _ _ _ (hu y (by simp [Xp.hs, hy]))) ⟨fun y hy => h.same y (by simp [Xp.hs, hy]), h.keep, h.nil, h.one, fun hf => h.free (by simp only [Xp.occ, hasB_app, hf, Bool.or_true])⟩]
  | .bnd l w a b, bd, bd', now, s, hs, hl, ht, hu, h => by
    simp only [Xp.sz] at hl
    simp only [Xp.rn]
    have hocc : (Xp.bnd l w a b).occ bd = a.occ bd ++ b.occ (bd ++ [mk w]) := rfl
    rw [hocc, List.map_append]
    have RBa : RB f t a bd bd' now := ⟨fun y hy => h.same y (by simp [Xp.hs, hy]), h.keep, h.nil, h.one, fun hf => h.free (by rw [hocc, hasB_app, hf]; rfl)⟩
    have hua : ∀ y, a.hs y = true → mget false s.u y = true := fun y hy => hu y (by simp [Xp.hs, hy])
    have hub : ∀ y, b.hs y = true → mget false s.u y = true := fun y hy => hu y (by simp [Xp.hs, hy])
    have hfb : hasB (b.occ (bd ++ [mk w])) f = true → hasB bd' t = false := fun hf => h.free (by rw [hocc, hasB_app, hf, Bool.or_true])
    cases hc : strEq (mk w) t && hasB (b.free (bd ++ [mk w]) []) f with
    | false =>
      obtain ⟨a1, a2⟩ := rn_ok f t a bd now s hs
      show (a.rn f t bd now s).1.occ bd' ++ (b.rn f t (bd ++ [mk w]) (mdel now (mk w)) (a.rn f t bd now s).2).1.occ (bd' ++ [mk w]) = _
      rw [occ_rn a bd bd' now s hs (by omega) ht hua RBa]
      congr 1
      refine occ_rn b (bd ++ [mk w]) (bd' ++ [mk w]) _ _ a1 (by omega) (rn_keep f t a _ _ _ _ ht) (fun y hy => rn_keep f t a _ _ _ _ (hub y hy)) ?_
      cases hq : strEq (mk w) t with
      | true =>
        have hwt := strEq_iff.1 hq
        have hnil : mdel now (mk w) = [] := by
          rcases h.keep with _ | v
          · rfl
          · simp only [mdel, hq, cond_true]
        rw [hnil]
        refine ⟨fun y hy hyt => ?_, .nil, fun _ => ?_, fun v hv => (by cases hv), fun hf => ?_⟩
        · rw [hasB_app, hasB_app, h.same y (by simp [Xp.hs, hy]) hyt]
        · rw [hasB_app, hasB_app, hasB_one, hwt, strEq_iff.2 rfl, Bool.or_true, Bool.or_true]
        · exfalso
          rw [hq, Bool.true_and, occ_free, hf] at hc
          cases hc
      | false =>
        have hsame : mdel now (mk w) = now := by
          rcases h.keep with _ | v
          · rfl
          · simp only [mdel, hq, cond_false]
        rw [hsame]
        have hqt : strEq t (mk w) = false := by rw [strEq_comm]; exact hq
        refine ⟨fun y hy hyt => ?_, h.keep, fun hn => ?_, fun v hv => ?_, fun hf => ?_⟩
        · rw [hasB_app, hasB_app, h.same y (by simp [Xp.hs, hy]) hyt]
        · rw [hasB_app, hasB_app, h.nil hn]
        · obtain ⟨q1, q2, q3⟩ := h.one v hv
          exact ⟨by rw [hasB_app, q1]; rfl, by rw [hasB_app, q2]; rfl, q3⟩
        · rw [hasB_app, hfb hf, hasB_one, hqt]; rfl
    | true =>
      have hwt : mk w = t := by
        have : strEq (mk w) t = true := by revert hc; cases strEq (mk w) t <;> simp
        exact strEq_iff.1 this
      have hle := hs.le
      obtain ⟨p1, p2⟩ := hs.found (by omega)
      obtain ⟨c1, c2, c3, c4⟩ := frN_spec (mget false s.u) 2000 (s.n + 1)
      have hfresh : mget false s.u (mk (vn s.m)) = false := c4 p1
      have hne : ∀ y, mget false s.u y = true → strEq y (mk (vn s.m)) = false := fun y hy => by
        cases hq : strEq y (mk (vn s.m)) with
        | false => rfl
        | true => rw [strEq_iff.1 hq, hfresh] at hy; cases hy
      obtain ⟨a1, a2⟩ := rn_ok f t a bd now s.next hs.next
      have hnl := mset_len (mk (vn s.m)) true s.u
      have hnu : s.next.u = mset s.u (mk (vn s.m)) true := rfl
      rw [hnu] at a2
      show (a.rn f t bd now s.next).1.occ bd' ++ (b.rn f t (bd ++ [mk w]) (mset (mdel now (mk w)) (mk w) (mk (vn s.m))) (a.rn f t bd now s.next).2).1.occ (bd' ++ [mk (vn s.m)]) = _
      rw [occ_rn a bd bd' now s.next hs.next (by rw [hnu]; omega) (mset_keep _ _ _ ht) (fun y hy => mset_keep _ _ _ (hua y hy)) RBa]
      congr 1
      refine occ_rn b (bd ++ [mk w]) (bd' ++ [mk (vn s.m)]) _ _ a1 (by omega) (rn_keep f t a _ _ _ _ (mset_keep _ _ _ ht)) (fun y hy => rn_keep f t a _ _ _ _ (mset_keep _ _ _ (hub y hy))) ?_
      have hset : mset (mdel now (mk w)) (mk w) (mk (vn s.m)) = [(t, mk (vn s.m))] := by
        rw [hwt]
        rcases h.keep with _ | v
        · rfl
        · simp only [mdel, strEq_iff.2 rfl, cond_true, mset]
      rw [hset]
      refine ⟨fun y hy hyt => ?_, .one _, fun hn => (by cases hn), fun v hv => ?_, fun hf => ?_⟩
      · rw [hasB_app, hasB_app, h.same y (by simp [Xp.hs, hy]) hyt, hasB_one, hasB_one, hne y (hub y hy), hwt, hyt]
      · cases hv
        refine ⟨by rw [hasB_app, hasB_one, hwt, strEq_iff.2 rfl, Bool.or_true], by rw [hasB_app, hasB_one, strEq_iff.2 rfl, Bool.or_true], vn_no s.m⟩
      · rw [hasB_app, hfb hf, hasB_one, hne t ht]; rfl

theorem rename_free (f t : ByteArray) (hft : strEq f t = false) (e : Xp) (h : e.sz ≤ 400) : (e.renameP f t).free [] [] = adds [] ((e.free [] []).map (sg f t)) := by
  have hl := PS0_len f t e
  have ht : mget false (PS0 f t e).u t = true := pnames_keep e _ t (by rw [mget_mset, strEq_iff.2 rfl]; rfl)
  have := occ_rn (f := f) (t := t) e [] [] [] (PS0 f t e) (PS0_ok f t e) (by omega) ht (fun y hy => pnames_hs e _ y hy) ⟨fun _ _ _ => rfl, .nil, fun _ => rfl, fun v hv => (by cases hv), fun _ => rfl⟩
  unfold Xp.renameP
  rw [hft, cond_false, free_occ, this, free_occ, adds_map]
  rfl

/-! ### It stays well formed -/

def Xp.ht : Xp → Nat
  | .ty | .hole | .nm _ => 0
  | .app a b | .arr a b | .bnd _ _ a b => 1 + max a.ht b.ht

theorem ht_le (d : Int) (x y : Nat) : (d + ((1 + max x y : Nat) : Int) ≤ 40) ↔ (d ≤ 40 ∧ d + 1 + (x : Int) ≤ 40 ∧ d + 1 + (y : Int) ≤ 40) := by
  rcases Nat.le_total x y with q | q
  · rw [Nat.max_eq_right q]; omega
  · rw [Nat.max_eq_left q]; omega

theorem form_two {d : Int} {o : Int} {w : List UInt8} {a b : Xp} (hn : nodeB o w 2 = true) (ha : formB a.rw (d + 1) = decide (d + 1 + (a.ht : Int) ≤ 40)) (hb : formB b.rw (d + 1) = decide (d + 1 + (b.ht : Int) ≤ 40)) :
    formB ⟨o, mk w, [a.rw, b.rw]⟩ d = decide (d + ((1 + max a.ht b.ht : Nat) : Int) ≤ 40) := by
  show (decide (d ≤ 40) && (nodeB o (mk w).data.toList 2 && (formB a.rw (d + 1) && (formB b.rw (d + 1) && true)))) = _
  rw [mk_list, hn, ha, hb, Bool.eq_iff_iff]
  simp only [Bool.and_eq_true, decide_eq_true_eq, true_and, and_true]
  exact (ht_le d a.ht b.ht).symm

theorem form_ht : ∀ (e : Xp), e.Nm → ∀ d : Int, formB e.rw d = decide (d + (e.ht : Int) ≤ 40)
  | .ty, _, d => by simp [Xp.rw, formB, formBL, nodeB, Xp.ht]
  | .hole, _, d => by simp [Xp.rw, formB, formBL, nodeB, Xp.ht]
  | .nm w, h, d => by
    have h : nmOk w = true := h
    simp [Xp.rw, formB, formBL, nodeB, Xp.ht, h]
  | .app a b, h, d => form_two (w := []) rfl (form_ht a h.1 _) (form_ht b h.2 _)
  | .arr a b, h, d => form_two (w := []) rfl (form_ht a h.1 _) (form_ht b h.2 _)
  | .bnd l w a b, h, d => form_two (by have hw : nmOk w = true := h.1; cases l <;> simp [nodeB, hw]) (form_ht a h.2.1 _) (form_ht b h.2.2 _)

theorem rn_shape (f t : ByteArray) : ∀ (e : Xp) (bd : List ByteArray) (now : List (ByteArray × ByteArray)) (s : PS), (e.rn f t bd now s).1.ht = e.ht ∧ (e.rn f t bd now s).1.sz = e.sz
  | .ty, bd, now, s => ⟨rfl, rfl⟩
  | .hole, bd, now, s => ⟨rfl, rfl⟩
  | .nm w, bd, now, s => ⟨rfl, rfl⟩
  | .app a b, bd, now, s => by
    obtain ⟨a1, a2⟩ := rn_shape f t a bd now s
    obtain ⟨b1, b2⟩ := rn_shape f t b bd now (a.rn f t bd now s).2
    simp only [Xp.rn, Xp.ht, Xp.sz, a1, a2, b1, b2, and_self]
  | .arr a b, bd, now, s => by
    obtain ⟨a1, a2⟩ := rn_shape f t a bd now s
    obtain ⟨b1, b2⟩ := rn_shape f t b bd now (a.rn f t bd now s).2
    simp only [Xp.rn, Xp.ht, Xp.sz, a1, a2, b1, b2, and_self]
  | .bnd l w a b, bd, now, s => by
    simp only [Xp.rn]
    cases strEq (mk w) t && hasB (b.free (bd ++ [mk w]) []) f with
    | true =>
      obtain ⟨a1, a2⟩ := rn_shape f t a bd now s.next
      obtain ⟨b1, b2⟩ := rn_shape f t b (bd ++ [mk w]) (mset (mdel now (mk w)) (mk w) (mk (vn s.m))) (a.rn f t bd now s.next).2
      simp only [cond_true, Xp.ht, Xp.sz, a1, a2, b1, b2, and_self]
    | false =>
      obtain ⟨a1, a2⟩ := rn_shape f t a bd now s
      obtain ⟨b1, b2⟩ := rn_shape f t b (bd ++ [mk w]) (mdel now (mk w)) (a.rn f t bd now s).2
      simp only [cond_false, Xp.ht, Xp.sz, a1, a2, b1, b2, and_self]

theorem rename_well (f t : ByteArray) (ht : nmOk t.data.toList = true) (e : Xp) (hn : e.Nm) (hs : e.sz ≤ 400) (hw : wellB e.rw = true) : wellB (e.renameP f t).rw = true ∧ (e.renameP f t).sz ≤ 400 := by
  have hm := rename_nm f t ht e hn hs
  have hsh : (e.renameP f t).ht = e.ht ∧ (e.renameP f t).sz = e.sz := by
    unfold Xp.renameP
    cases strEq f t with
    | true => exact ⟨rfl, rfl⟩
    | false => exact rn_shape f t e _ _ _
  refine ⟨?_, by rw [hsh.2]; exact hs⟩
  unfold wellB at hw ⊢
  rw [form_ht _ hm, sz_rw, hsh.1, hsh.2]
  rw [form_ht _ hn, sz_rw] at hw
  exact hw

/-! ### And back again -/

/-- Whether a binder has a name. -/
def Xp.bnds : Xp → ByteArray → Bool
  | .ty, _ => false
  | .hole, _ => false
  | .nm _, _ => false
  | .app a b, y => a.bnds y || b.bnds y
  | .arr a b, y => a.bnds y || b.bnds y
  | .bnd _ w a b, y => strEq (mk w) y || (a.bnds y || b.bnds y)

theorem go_back (f t : ByteArray) (hft : strEq f t = false) : ∀ (e : Xp) (bd : List ByteArray), e.bnds f = false → e.bnds t = false → hasB (e.occ bd) t = false → hasB bd f = false → hasB bd t = false →
    (∀ s, e.rn f t bd [] s = (e.put f t, s)) ∧ ∀ s, (e.put f t).rn t f bd [] s = (e, s)
  | .ty, bd, _, _, _, _, _ => ⟨fun _ => rfl, fun _ => rfl⟩
  | .hole, bd, _, _, _, _, _ => ⟨fun _ => rfl, fun _ => rfl⟩
  | .nm w, bd, hbf, hbt, ho, h1, h2 => by
    have hm : strEq (mget tNo ([] : List (ByteArray × ByteArray)) (mk w)) tNo = true := strEq_iff.2 rfl
    cases hf : strEq (mk w) f with
    | true =>
      have hwf := strEq_iff.1 hf
      refine ⟨fun s => ?_, fun s => ?_⟩
      · simp only [Xp.rn, nmP, Xp.put, hf, cond_true]
        rw [hwf, h1]; rfl
      · simp only [Xp.put, hf, cond_true, Xp.rn, nmP, mk_ls, h2, cond_false, strEq_iff.2 rfl]
        rw [← hwf]
    | false =>
      refine ⟨fun s => ?_, fun s => ?_⟩
      · simp only [Xp.rn, nmP, Xp.put, hf, cond_false, hm, cond_true]
        cases hasB bd (mk w) <;> rfl
      · simp only [Xp.put, hf, cond_false, Xp.rn, nmP, hm, cond_true]
        cases hb : hasB bd (mk w) with
        | true => rfl
        | false =>
          have : strEq (mk w) t = false := by
            cases hq : strEq (mk w) t with
            | false => rfl
            | true =>
              have ho : hasB (bif hasB bd (mk w) then [] else [mk w]) t = false := ho
              rw [hb] at ho
              simp only [cond_false, hasB_one] at ho
              rw [strEq_comm, hq] at ho; cases ho
          simp only [cond_false, this]
  | .app a b, bd, hbf, hbt, ho, h1, h2 => by
    simp only [Xp.bnds, Bool.or_eq_false_iff] at hbf hbt
    simp only [Xp.occ, hasB_app, Bool.or_eq_false_iff] at ho
    obtain ⟨a1, a2⟩ := go_back f t hft a bd hbf.1 hbt.1 ho.1 h1 h2
    obtain ⟨b1, b2⟩ := go_back f t hft b bd hbf.2 hbt.2 ho.2 h1 h2
    exact ⟨fun s => by simp only [Xp.rn, a1, b1, Xp.put], fun s => by simp only [Xp.put, Xp.rn, a2, b2]⟩
  | .arr a b, bd, hbf, hbt, ho, h1, h2 => by
    simp only [Xp.bnds, Bool.or_eq_false_iff] at hbf hbt
    simp only [Xp.occ, hasB_app, Bool.or_eq_false_iff] at ho
    obtain ⟨a1, a2⟩ := go_back f t hft a bd hbf.1 hbt.1 ho.1 h1 h2
    obtain ⟨b1, b2⟩ := go_back f t hft b bd hbf.2 hbt.2 ho.2 h1 h2
    exact ⟨fun s => by simp only [Xp.rn, a1, b1, Xp.put], fun s => by simp only [Xp.put, Xp.rn, a2, b2]⟩
  | .bnd l w a b, bd, hbf, hbt, ho, h1, h2 => by
    simp only [Xp.bnds, Bool.or_eq_false_iff] at hbf hbt
    simp only [Xp.occ, hasB_app, Bool.or_eq_false_iff] at ho
    obtain ⟨a1, a2⟩ := go_back f t hft a bd hbf.2.1 hbt.2.1 ho.1 h1 h2
    obtain ⟨b1, b2⟩ := go_back f t hft b (bd ++ [mk w]) hbf.2.2 hbt.2.2 ho.2 (by rw [hasB_app, hasB_one, h1, strEq_comm, hbf.1]; rfl) (by rw [hasB_app, hasB_one, h2, strEq_comm, hbt.1]; rfl)
    refine ⟨fun s => ?_, fun s => ?_⟩
    · simp only [Xp.rn, hbt.1, Bool.false_and, cond_false, a1, mdel, b1, Xp.put, hbf.1]
    · simp only [Xp.put, hbf.1, cond_false, Xp.rn, Bool.false_and, a2, mdel, b2]

theorem rename_back (f t : ByteArray) (hft : strEq f t = false) (e : Xp) (h1 : hasB (e.free [] []) t = false) (h2 : e.bnds t = false) (h3 : e.bnds f = false) : (e.renameP f t).renameP t f = e := by
  obtain ⟨a1, a2⟩ := go_back f t hft e [] h3 h2 (by rw [← occ_free]; exact h1) rfl rfl
  have e1 : e.renameP f t = e.put f t := by unfold Xp.renameP; rw [hft, cond_false, a1]
  rw [e1]
  unfold Xp.renameP
  rw [strEq_comm, hft, cond_false, a2]

end Go.Proofs.YtanfoijdfcnpoaaGreatDoor.Ev
