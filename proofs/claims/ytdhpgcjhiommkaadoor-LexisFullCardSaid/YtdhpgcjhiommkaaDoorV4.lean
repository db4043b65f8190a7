/- This file proves what token begins at a place, in the program and in the reference; without any condition. -/
import Derived.Test.YtdhpgcjhiommkaaDoorV3
set_option linter.unusedVariables false
set_option linter.unusedSimpArgs false
namespace Go.Proofs.YtdhpgcjhiommkaaDoor.Ev

def signs : List UInt8 := [58, 46, 123, 125, 91, 93, 40, 41, 43, 42, 124, 61]

def byteAt : List UInt8 → Int
  | [] => 0
  | d :: _ => (d.toNat : Int)

/-- The kind and the text of the token that begins here, if one does. -/
def next (c : UInt8) (r : List UInt8) : Option (Int × List UInt8) :=
  let b : Int := (c.toNat : Int)
  bif smallB b then (bif nameL smallB (word (c :: r)) then some (1, word (c :: r)) else none)
  else bif capB b then (bif nameL capB (word (c :: r)) then some (2, word (c :: r)) else none)
  else bif digB b then (bif numOk (word (c :: r)) then some (6, word (c :: r)) else none)
  else bif b == 95 then (bif word (c :: r) == [95] then some (3, [95]) else none)
  else bif b == 37 then (bif nameL smallB (word r) then some (5, 37 :: word r) else none)
  else bif b == 45 then (bif byteAt r == 62 then some (4, [45, 62]) else some (4, [45]))
  else bif b == 60 then (bif byteAt r == 45 then some (4, [60, 45]) else none)
  else bif signs.contains c then some (4, [c]) else none

/-- How the program's rules hand a token over: none is kind 0 and no text. -/
def outP {ρ : Type} (o : Option (Int × List UInt8)) (K : Int → ByteArray → Option ρ) : Option ρ :=
  match o with
  | some x => K x.1 (mk x.2)
  | none => K 0 (mk [])

theorem outP_bif {ρ : Type} {b : Bool} {x y : Option (Int × List UInt8)} {K : Int → ByteArray → Option ρ} : outP (bif b then x else y) K = cond b (outP x K) (outP y K) := by cases b <;> rfl

theorem s24 : Evt fun k => ∀ (ρ : Type) b k0 k1 k2 k3 k4 k5 k6 k7, (Tabs k).c24_0 ρ b k0 k1 k2 k3 k4 k5 k6 k7 =
    cond (smallB b) (k0 b) (cond (capB b) (k1 b) (cond (digB b) (k2 b) (cond (b == 95) (k3 b) (cond (b == 37) (k4 b) (cond (b == 45) k5 (cond (b == 60) (k6 b) (k7 b))))))) :=
  (s28.and (s29.and s43)).step fun k ⟨h1, h2, h3⟩ ρ b k0 k1 k2 k3 k4 k5 k6 k7 => by
    rw [show (Tabs (k + 1)).c24_0 = Gc24_0 (Tabs k) from rfl]
    unfold Gc24_0
    simp only [h1, h2, h3]

theorem s39 : Evt fun k => ∀ (ρ : Type) a s b k0, (Tabs k).c39_0 ρ a s b k0 = cond b (k0 a s) (k0 0 (mk [])) := Evt.step0 fun k ρ a s b k0 => by
  rw [show (Tabs (k + 1)).c39_0 = Gc39_0 (Tabs k) from rfl]
  unfold Gc39_0
  cases b <;> rfl

section
variable {l : List UInt8} (hl : l.length ≤ 140737488355328)
include hl

theorem s40 {r : List UInt8} (h : r <:+ l) : Evt fun k => ∀ (ρ : Type) k0, (Tabs k).c40_0 ρ (mk l) (pos l r) k0 = outP (bif nameL smallB (word r) then some (1, word r) else none) (fun a s => k0 a s (mk l) (pos l r)) :=
  ((s41_0 hl h).and ((s15 (word r)).and s39)).step fun k ⟨h1, h2, h3⟩ ρ k0 => by
    rw [show (Tabs (k + 1)).c40_0 = Gc40_0 (Tabs k) from rfl]
    unfold Gc40_0
    simp only [h1, h2, h3, outP_bif]; rfl
theorem s42 {r : List UInt8} (h : r <:+ l) : Evt fun k => ∀ (ρ : Type) k0, (Tabs k).c42_0 ρ (mk l) (pos l r) k0 = outP (bif nameL capB (word r) then some (2, word r) else none) (fun a s => k0 a s (mk l) (pos l r)) :=
  ((s41_0 hl h).and ((s16 (word r)).and s39)).step fun k ⟨h1, h2, h3⟩ ρ k0 => by
    rw [show (Tabs (k + 1)).c42_0 = Gc42_0 (Tabs k) from rfl]
    unfold Gc42_0
    simp only [h1, h2, h3, outP_bif]; rfl
theorem word_le {r : List UInt8} (h : r <:+ l) : (word r).length ≤ 140737488355328 := by
  have := congrArg List.length (word_after r)
  have := suf_le h
  simp at *
  omega
theorem s44 {r : List UInt8} (h : r <:+ l) : Evt fun k => ∀ (ρ : Type) k0, (Tabs k).c44_0 ρ (mk l) (pos l r) k0 = outP (bif numOk (word r) then some (6, word r) else none) (fun a s => k0 a s (mk l) (pos l r)) :=
  ((s41_0 hl h).and ((s45 (word r) (word_le hl h)).and s39)).step fun k ⟨h1, h2, h3⟩ ρ k0 => by
    rw [show (Tabs (k + 1)).c44_0 = Gc44_0 (Tabs k) from rfl]
    unfold Gc44_0
    simp only [h1, h2, h3, outP_bif, num_eq]; rfl
theorem s46 {r : List UInt8} (h : r <:+ l) : Evt fun k => ∀ (ρ : Type) k0, (Tabs k).c46_0 ρ (mk l) (pos l r) k0 = outP (bif word r == [95] then some (3, [95]) else none) (fun a s => k0 a s (mk l) (pos l r)) :=
  ((s41_0 hl h).and s39).step fun k ⟨h1, h3⟩ ρ k0 => by
    rw [show (Tabs (k + 1)).c46_0 = Gc46_0 (Tabs k) from rfl]
    unfold Gc46_0
    simp only [h1, h3, outP_bif]
    rw [show (ByteArray.mk #[95]) = mk [95] from rfl, strEq_mk]; rfl
theorem s47 {c : UInt8} {r : List UInt8} (h : c :: r <:+ l) : Evt fun k => ∀ (ρ : Type) k0, (Tabs k).c47_0 ρ (mk l) (pos l (c :: r)) k0 = outP (bif nameL smallB (word r) then some (5, 37 :: word r) else none) (fun a s => k0 a s (mk l) (pos l (c :: r))) :=
  ((s41_1 hl h).and ((s15 (word r)).and s39)).step fun k ⟨h1, h2, h3⟩ ρ k0 => by
    rw [show (Tabs (k + 1)).c47_0 = Gc47_0 (Tabs k) from rfl]
    unfold Gc47_0
    have hw := word_le hl (suf_tail h)
    have hs : decide ((ByteArray.mk #[37]).size + (mk (word r)).size ≤ 9223372036854775807) = true := by
      have e1 : (ByteArray.mk #[37]).size = 1 := rfl
      rw [e1, mk_size (word r)]; simp; omega
    have ht : (ByteArray.mk #[37]) ++ mk (word r) = mk (37 :: word r) := mk_append [37] (word r)
    simp only [h1, h2, h3, hs, cond_true, ht, outP_bif]; rfl
theorem s48 {c : UInt8} {r : List UInt8} (h : c :: r <:+ l) : Evt fun k => ∀ (ρ : Type) k0, (Tabs k).c48_0 ρ (mk l) (pos l (c :: r)) k0 = outP (bif byteAt r == 62 then some (4, [45, 62]) else some (4, [45])) (fun a s => k0 a s (mk l) (pos l (c :: r))) :=
  (s37 hl h).step fun k h1 ρ k0 => by
    rw [show (Tabs (k + 1)).c48_0 = Gc48_0 (Tabs k) from rfl]
    unfold Gc48_0
    simp only [h1, outP_bif]
    cases r <;> rfl
theorem s49 {c : UInt8} {r : List UInt8} (h : c :: r <:+ l) : Evt fun k => ∀ (ρ : Type) k0, (Tabs k).c49_0 ρ (mk l) (pos l (c :: r)) k0 = outP (bif byteAt r == 45 then some (4, [60, 45]) else none) (fun a s => k0 a s (mk l) (pos l (c :: r))) :=
  ((s37 hl h).and s39).step fun k ⟨h1, h3⟩ ρ k0 => by
    rw [show (Tabs (k + 1)).c49_0 = Gc49_0 (Tabs k) from rfl]
    unfold Gc49_0
    simp only [h1, h3, outP_bif]
    cases r <;> rfl

end

theorem index_mem : ∀ (s : List UInt8) (c : UInt8), decide (Lib.indexByte s c ≥ 0) = s.contains c
  | [], c => rfl
  | d :: s, c => by
    have ih := index_mem s c
    have hg := Lib.indexByte_ge s c
    unfold Lib.indexByte
    cases hd : (d == c) with
    | true => simp only [beq_iff_eq] at hd; subst hd; simp
    | false =>
      have hcd : (c == d) = false := by
        simp only [beq_eq_false_iff_ne] at hd ⊢; exact fun e => hd e.symm
      simp only [Bool.false_eq_true, if_false, List.contains_cons, hcd, Bool.false_or, ← ih]
      cases h1 : (Lib.indexByte s c == -1) with
      | true => simp only [beq_iff_eq] at h1; rw [h1]; rfl
      | false =>
        simp only [beq_eq_false_iff_ne, ne_eq] at h1
        simp only [Bool.false_eq_true, if_false]
        have e1 : decide (Lib.indexByte s c + 1 ≥ 0) = true := by simp; omega
        have e2 : decide (Lib.indexByte s c ≥ 0) = true := by simp; omega
        rw [e1, e2]

theorem sign_text {c : UInt8} (h : signs.contains c = true) : Utf8.encode (IntKind.wrap .i32 (c.toNat : Int)) = mk [c] := by
  simp only [signs, List.contains_iff_mem, List.mem_cons, List.not_mem_nil, or_false] at h
  rcases h with rfl | rfl | rfl | rfl | rfl | rfl | rfl | rfl | rfl | rfl | rfl | rfl <;> decide +kernel

theorem s50 (s : ByteArray) (n : Int) (c : UInt8) : Evt fun k => ∀ (ρ : Type) k0, (Tabs k).c50_0 ρ s n (c.toNat : Int) k0 = outP (bif signs.contains c then some (4, [c]) else none) (fun a t => k0 a t s n (c.toNat : Int)) :=
  (s38.and s39).step fun k ⟨h1, h3⟩ ρ k0 => by
    rw [show (Tabs (k + 1)).c50_0 = Gc50_0 (Tabs k) from rfl]
    unfold Gc50_0
    have hc : (c.toNat : Int).toNat.toUInt8 = c := by simp
    simp only [h1, h3, outP_bif, hc]
    rw [show ([58, 46, 123, 125, 91, 93, 40, 41, 43, 42, 124, 61] : List UInt8) = signs from rfl, index_mem]
    cases h : signs.contains c with
    | true => rw [sign_text h]; rfl
    | false => rfl

/-! ### The reference -/

section
variable {l : List UInt8} (hl : l.length ≤ 140737488355328)
include hl

theorem take_two {r : List UInt8} (h : r <:+ l) (n : Nat) (hn : n ≤ 2) : IntKind.wrap .i64 (pos l r + (n : Int)) = pos l r + n := by
  have := pos_bounds h
  exact W_id (by omega) (by omega)

omit hl in
theorem extract_take {r : List UInt8} (h : r <:+ l) (n : Nat) {e : Int} (he : e = pos l r + n) : ByteArray.extract (mk l) (pos l r).toNat e.toNat = mk (r.take n) := by
  subst he
  rw [mk_extract]
  congr 1
  obtain ⟨p, rfl⟩ := h
  have e1 : pos (p ++ r) r = p.length := by unfold pos; simp
  rw [e1]
  have : ((p.length : Int) + (n : Int)).toNat = p.length + n := by omega
  rw [this, Int.toNat_natCast, List.take_append, List.take_of_length_le (by omega), Nat.add_sub_cancel_left, List.drop_append, Nat.sub_self, List.drop_length, List.nil_append, List.drop_zero]

/-- The sign that begins here. -/
def signR (c : UInt8) (r : List UInt8) : Option (Int × List UInt8) :=
  bif (c :: r).take 2 == [45, 62] then some (4, [45, 62])
  else bif (c :: r).take 2 == [60, 45] then some (4, [60, 45])
  else bif (c.toNat : Int) == 45 || signs.contains c then some (4, [c]) else none

omit hl in
theorem contains_int (c : UInt8) : signs.contains c = ((c.toNat : Int) == 58 || ((c.toNat : Int) == 46 || ((c.toNat : Int) == 123 || ((c.toNat : Int) == 125 || ((c.toNat : Int) == 91 || ((c.toNat : Int) == 93 || ((c.toNat : Int) == 40 || ((c.toNat : Int) == 41 || ((c.toNat : Int) == 43 || ((c.toNat : Int) == 42 || ((c.toNat : Int) == 124 || (c.toNat : Int) == 61))))))))))) := by
  have e : ∀ d : UInt8, (c == d) = ((c.toNat : Int) == (d.toNat : Int)) := by
    intro d
    rw [Bool.eq_iff_iff]
    simp only [beq_iff_eq]
    constructor
    · rintro rfl; rfl
    · intro h; exact UInt8.toNat_inj.1 (by omega)
  simp only [signs, List.contains_cons, List.contains_nil, Bool.or_false, e]
  rfl

theorem s55 {c : UInt8} {r : List UInt8} (h : c :: r <:+ l) : ∃ tb : Tok, Evt fun k => ∀ (ρ : Type) k0, (Tabs k).c55_0 ρ (mk l) (pos l (c :: r)) k0 =
    match signR c r with | some x => k0 ⟨x.1, mk x.2, pos l (c :: r)⟩ true | none => k0 tb false := by
  refine ⟨⟨4, mk [c], pos l (c :: r)⟩, Evt.step0 fun k ρ k0 => ?_⟩
  rw [show (Tabs (k + 1)).c55_0 = Gc55_0 (Tabs k) from rfl]
  unfold Gc55_0
  have hb := pos_bounds h
  have hsz : ((mk l).size : Int) = l.length := by rw [mk_size]
  have hr := suf_tail h
  have hn1 := pos_bounds hr
  have hn : pos l (c :: r) + 1 = pos l r := pos_next
  have ht1 : ByteArray.extract (mk l) (pos l (c :: r)).toNat (pos l r).toNat = mk [c] := extract_take h 1 (by omega)
  have hmin : min2 (IntKind.wrap .i64 (pos l (c :: r) + 2)) ((mk l).size : Int) = pos l (c :: r) + ((c :: r).take 2).length := by
    rw [W_id (by omega) (by omega)]
    unfold min2
    rw [hsz]
    unfold pos at *
    cases r with
    | nil => simp; omega
    | cons d r => simp; omega
  have ht2 : ByteArray.extract (mk l) (pos l (c :: r)).toNat (pos l (c :: r) + ((c :: r).take 2).length).toNat = mk ((c :: r).take 2) := by
    rw [extract_take h ((c :: r).take 2).length rfl]
    congr 1
    cases r <;> simp
  have g1 : (decide ((0 : Int) ≤ pos l (c :: r)) && (decide (pos l (c :: r) ≤ pos l r) && decide (pos l r ≤ ((mk l).size : Int)))) = true := by
    rw [pos_ge h, pos_le hr]; simp; omega
  have g2 : (decide ((0 : Int) ≤ pos l (c :: r)) && (decide (pos l (c :: r) ≤ pos l (c :: r) + ((c :: r).take 2).length) && decide (pos l (c :: r) + (((c :: r).take 2).length : Int) ≤ ((mk l).size : Int)))) = true := by
    rw [pos_ge h, hsz]
    unfold pos at *
    have := List.length_take_le 2 (c :: r)
    have h3 : ((c :: r).take 2).length ≤ (c :: r).length := by rw [List.length_take]; omega
    have h4 := suf_le h
    simp only [Bool.true_and, Bool.and_eq_true, decide_eq_true_eq]
    omega
  rw [hmin, pos_W h (by omega), g1, g2, ht1, ht2]
  rw [show (ByteArray.mk #[45, 62]) = mk [45, 62] from rfl, show (ByteArray.mk #[60, 45]) = mk [60, 45] from rfl, strEq_mk, strEq_mk]
  simp only [cond_true, pos_ge h, pos_lt h, Bool.and_self, bt_at h, signR]
  cases q1 : ((c :: r).take 2 == [45, 62]) with
  | true => simp only [beq_iff_eq] at q1; simp only [cond_true, q1]
  | false =>
    cases q2 : ((c :: r).take 2 == [60, 45]) with
    | true => simp only [beq_iff_eq] at q2; simp only [cond_true, cond_false, q2]
    | false =>
      simp only [cond_false]
      rw [contains_int]
      cases ((c.toNat : Int) == 45) <;> (try rfl)
      cases ((c.toNat : Int) == 58) <;> (try rfl)
      cases ((c.toNat : Int) == 46) <;> (try rfl)
      cases ((c.toNat : Int) == 123) <;> (try rfl)
      cases ((c.toNat : Int) == 125) <;> (try rfl)
      cases ((c.toNat : Int) == 91) <;> (try rfl)
      cases ((c.toNat : Int) == 93) <;> (try rfl)
      cases ((c.toNat : Int) == 40) <;> (try rfl)
      cases ((c.toNat : Int) == 41) <;> (try rfl)
      cases ((c.toNat : Int) == 43) <;> (try rfl)
      cases ((c.toNat : Int) == 42) <;> (try rfl)
      cases ((c.toNat : Int) == 124) <;> (try rfl)
      cases ((c.toNat : Int) == 61) <;> rfl

end
end Go.Proofs.YtdhpgcjhiommkaaDoor.Ev
