/- This file proves that both scanners cut a source into the same tokens; without any condition. -/
import Derived.Test.YtdhpgcjhiommkaaDoorV4
set_option linter.unusedVariables false
set_option linter.unusedSimpArgs false
namespace Go.Proofs.YtdhpgcjhiommkaaDoor.Ev

theorem word_ne {c : UInt8} {r : List UInt8} (h : nmC c = true) : word (c :: r) = c :: word r := by
  unfold word; rw [List.takeWhile_cons, h]; rfl

theorem nameL_len {f : Int → Bool} {w : List UInt8} (h : nameL f w = true) : w ≠ [] := by
  cases w with
  | nil => cases h
  | cons => simp
theorem numOk_len {w : List UInt8} (h : numOk w = true) : w ≠ [] := by
  cases w with
  | nil => cases h
  | cons => simp

/-- A token's text is not empty, and stands here. -/
theorem next_text {c : UInt8} {r : List UInt8} {x : Int × List UInt8} (h : next c r = some x) : x.2 ≠ [] ∧ ∃ t, c :: r = x.2 ++ t := by
  have wa : ∀ q : List UInt8, ∃ t, q = word q ++ t := fun q => ⟨after q, (word_after q).symm⟩
  unfold next at h
  simp only at h
  have one : ∀ {b : Bool} {y : Int × List UInt8}, (bif b then some y else none) = some x → b = true ∧ y = x := by
    intro b y hb; cases b
    · cases hb
    · exact ⟨rfl, by simpa using hb⟩
  cases h1 : smallB (c.toNat : Int) with
  | true =>
    rw [h1, cond_true] at h
    obtain ⟨h2, rfl⟩ := one h
    exact ⟨nameL_len h2, wa _⟩
  | false =>
    rw [h1, cond_false] at h
    cases h1 : capB (c.toNat : Int) with
    | true =>
      rw [h1, cond_true] at h
      obtain ⟨h2, rfl⟩ := one h
      exact ⟨nameL_len h2, wa _⟩
    | false =>
      rw [h1, cond_false] at h
      cases h1 : digB (c.toNat : Int) with
      | true =>
        rw [h1, cond_true] at h
        obtain ⟨h2, rfl⟩ := one h
        exact ⟨numOk_len h2, wa _⟩
      | false =>
        rw [h1, cond_false] at h
        have byt : ∀ {d : UInt8}, (c.toNat : Int) = (d.toNat : Int) → c = d := fun h => UInt8.toNat_inj.1 (by omega)
        cases h1 : ((c.toNat : Int) == 95) with
        | true =>
          rw [h1, cond_true] at h
          obtain ⟨h2, rfl⟩ := one h
          have : c = 95 := byt (by simpa using h1)
          subst this
          exact ⟨by simp, r, rfl⟩
        | false =>
          rw [h1, cond_false] at h
          cases h1 : ((c.toNat : Int) == 37) with
          | true =>
            rw [h1, cond_true] at h
            obtain ⟨h2, rfl⟩ := one h
            have : c = 37 := byt (by simpa using h1)
            subst this
            obtain ⟨t, ht⟩ := wa r
            refine ⟨by simp, t, ?_⟩
            show 37 :: r = 37 :: (word r ++ t)
            rw [← ht]
          | false =>
            rw [h1, cond_false] at h
            have b2 : ∀ {n : Int} {d : UInt8}, (byteAt r == n) = true → n = (d.toNat : Int) → n ≠ 0 → ∃ t, r = d :: t := by
              intro n d hb hn h0
              cases r with
              | nil => simp [byteAt] at hb; omega
              | cons e t =>
                simp only [byteAt, beq_iff_eq] at hb
                exact ⟨t, by rw [show e = d from UInt8.toNat_inj.1 (by omega)]⟩
            cases h1 : ((c.toNat : Int) == 45) with
            | true =>
              rw [h1, cond_true] at h
              have : c = 45 := byt (by simpa using h1)
              subst this
              cases h2 : (byteAt r == 62) with
              | true =>
                rw [h2] at h; cases h
                obtain ⟨t, rfl⟩ := b2 (d := 62) h2 rfl (by decide)
                exact ⟨by simp, t, rfl⟩
              | false => rw [h2] at h; cases h; exact ⟨by simp, r, rfl⟩
            | false =>
              rw [h1, cond_false] at h
              cases h1 : ((c.toNat : Int) == 60) with
              | true =>
                rw [h1, cond_true] at h
                obtain ⟨h2, rfl⟩ := one h
                have : c = 60 := byt (by simpa using h1)
                subst this
                obtain ⟨t, rfl⟩ := b2 (d := 45) h2 rfl (by decide)
                exact ⟨by simp, t, rfl⟩
              | false =>
                rw [h1, cond_false] at h
                obtain ⟨h2, rfl⟩ := one h
                exact ⟨by simp, r, rfl⟩

/-- The tokens of a rest, or where none begins. -/
def tk (N : Nat) : Nat → List UInt8 → List Tok ⊕ Int
  | 0, _ => .inl []
  | _ + 1, [] => .inl []
  | k + 1, c :: r =>
    match next c r with
    | none => .inr ((N : Int) - ((c :: r).length : Int))
    | some x =>
      match tk N k (skip ((c :: r).drop x.2.length) false) with
      | .inl ts => .inl (⟨x.1, mk x.2, (N : Int) - ((c :: r).length : Int)⟩ :: ts)
      | .inr p => .inr p

theorem big {n : Nat} (h : n ≤ 1000000) : n ≤ 140737488355328 := by omega

section
variable {l : List UInt8} (hl : l.length ≤ 1000000)

theorem drop_suffix {r : List UInt8} (n : Nat) (h : r <:+ l) : r.drop n <:+ l := (List.drop_suffix n r).trans h

theorem pos_drop {r : List UInt8} {n : Nat} (h : r <:+ l) (hn : n ≤ r.length) : pos l (r.drop n) = pos l r + n := by
  unfold pos; rw [List.length_drop]; omega

include hl

theorem app_fits {α : Type} {a : List α} {x : α} {r : List UInt8} (h : r <:+ l) (ha : a.length + r.length ≤ l.length) : decide ((a.length + [x].length) * 32 ≤ 140737488355328) = true := by
  simp; omega

/-- What the program does with a token that begins here. -/
theorem s11_6 : ∀ (n : Nat) {r : List UInt8} (acc : List Tok), r.length ≤ n → r <:+ l → acc.length + r.length ≤ l.length →
    Evt fun k => ∀ (ρ : Type) k0 k1, (Tabs k).l11_6_0 ρ (mk l) acc (mk l) (pos l r) k0 k1 =
      match tk l.length n r with | .inl ts => k0 (mk l) (acc ++ ts) | .inr p => k1 [] p 4
  | 0, [], acc, _, h, _ => Evt.step0 fun k ρ k0 k1 => by
    rw [show (Tabs (k + 1)).l11_6_0 = Gl11_6_0 (Tabs k) from rfl]
    unfold Gl11_6_0
    simp only [pos_end, cond_false, tk, List.append_nil]
  | n + 1, [], acc, _, h, _ => Evt.step0 fun k ρ k0 k1 => by
    rw [show (Tabs (k + 1)).l11_6_0 = Gl11_6_0 (Tabs k) from rfl]
    unfold Gl11_6_0
    simp only [pos_end, cond_false, tk, List.append_nil]
  | n + 1, c :: r, acc, hn, h, ha => by
    -- what is done with what a rule hands over
    have hcont : ∀ x : Int × List UInt8, next c r = some x → Evt fun k => ∀ (ρ : Type) k0 k1,
        (Tabs k).c23_0 ρ (mk l) (IntKind.wrap .i64 (pos l (c :: r) + ((mk x.2).size : Int))) (fun s p => (Tabs k).l11_6_0 ρ (mk l) (acc ++ [⟨x.1, mk x.2, pos l (c :: r)⟩]) s p k0 k1) =
        match tk l.length (n + 1) (c :: r) with | .inl ts => k0 (mk l) (acc ++ ts) | .inr p => k1 [] p 4 := by
      intro x hx
      obtain ⟨h1, t, h2⟩ := next_text hx
      have hlen : x.2.length ≤ (c :: r).length := by rw [h2]; simp
      have hpos : 0 < x.2.length := List.length_pos_iff.2 h1
      have hd := drop_suffix (l := l) x.2.length h
      have hs : skip ((c :: r).drop x.2.length) false <:+ l := (skip_suffix _ _).trans hd
      have hsl := (skip_suffix ((c :: r).drop x.2.length) false).length_le
      rw [List.length_drop] at hsl
      refine ((s23 (big hl) hd).and (s11_6 n (r := skip ((c :: r).drop x.2.length) false) (acc ++ [⟨x.1, mk x.2, pos l (c :: r)⟩]) (by omega) hs (by simp only [List.length_append, List.length_cons, List.length_nil]; omega))).mono fun k ⟨e1, e2⟩ ρ k0 k1 => ?_
      have hb := pos_bounds h
      have hp : IntKind.wrap .i64 (pos l (c :: r) + ((mk x.2).size : Int)) = pos l ((c :: r).drop x.2.length) := by
        rw [mk_size, pos_drop h hlen]
        have := pos_bounds hd
        rw [pos_drop h hlen] at this
        exact W_id (by omega) (by omega)
      rw [hp, e1, e2]
      simp only [tk, hx]
      cases tk l.length n (skip ((c :: r).drop x.2.length) false) with
      | inl ts => simp [pos]
      | inr p => rfl
    -- the branch that is taken
    have fin : ∀ {k : Nat} {ρ : Type} (k0 : ByteArray → List Tok → Option ρ) (k1 : List Tok → Int → Int → Option ρ) (o : Option (Int × List UInt8)), next c r = o →
        (∀ x : Int × List UInt8, next c r = some x → ∀ (ρ : Type) k0 k1,
          (Tabs k).c23_0 ρ (mk l) (IntKind.wrap .i64 (pos l (c :: r) + ((mk x.2).size : Int))) (fun s p => (Tabs k).l11_6_0 ρ (mk l) (acc ++ [⟨x.1, mk x.2, pos l (c :: r)⟩]) s p k0 k1) =
          match tk l.length (n + 1) (c :: r) with | .inl ts => k0 (mk l) (acc ++ ts) | .inr p => k1 [] p 4) →
        outP o (fun (r6 : Int) (r7 : ByteArray) => cond (strEq r7 (ByteArray.mk #[])) (k1 ([] : List Tok) (pos l (c :: r)) (4 : Int)) (cond (decide ((List.length acc + List.length [(⟨r6, r7, pos l (c :: r)⟩ : Tok)]) * 32 ≤ 140737488355328)) ((Tabs k).c23_0 ρ (mk l) (IntKind.wrap .i64 (pos l (c :: r) + (r7.size : Int))) (fun (r10 : ByteArray) (r11 : Int) => (Tabs k).l11_6_0 ρ (mk l) ((acc : List Tok) ++ ([(⟨r6, r7, pos l (c :: r)⟩ : Tok)] : List Tok)) r10 r11 k0 k1)) none)) =
        match tk l.length (n + 1) (c :: r) with | .inl ts => k0 (mk l) (acc ++ ts) | .inr p => k1 [] p 4 := by
      intro k ρ k0 k1 o ho hc
      cases o with
      | none =>
        simp only [outP, tk, ho]
        rw [show (ByteArray.mk #[]) = mk [] from rfl, strEq_mk]
        simp [pos]
      | some x =>
        obtain ⟨h1, t, h2⟩ := next_text ho
        simp only [outP]
        have he : strEq (mk x.2) (ByteArray.mk #[]) = false := by
          rw [show (ByteArray.mk #[]) = mk [] from rfl, strEq_mk]
          simpa using h1
        rw [he, app_fits hl h ha, hc x ho ρ k0 k1]
        rfl
    have hall : Evt fun k => ∀ x : Int × List UInt8, next c r = some x → ∀ (ρ : Type) k0 k1,
          (Tabs k).c23_0 ρ (mk l) (IntKind.wrap .i64 (pos l (c :: r) + ((mk x.2).size : Int))) (fun s p => (Tabs k).l11_6_0 ρ (mk l) (acc ++ [⟨x.1, mk x.2, pos l (c :: r)⟩]) s p k0 k1) =
          match tk l.length (n + 1) (c :: r) with | .inl ts => k0 (mk l) (acc ++ ts) | .inr p => k1 [] p 4 := by
      cases hx : next c r with
      | none => exact .pure fun k x h => by cases h
      | some y =>
        refine (hcont y hx).mono fun k h x e => ?_
        cases e
        exact h
    refine (hall.and (s24.and ((s40 (big hl) h).and ((s42 (big hl) h).and ((s44 (big hl) h).and ((s46 (big hl) h).and ((s47 (big hl) h).and ((s48 (big hl) h).and ((s49 (big hl) h).and (s50 (mk l) (pos l (c :: r)) c)))))))))).step fun k ⟨hc, e24, e40, e42, e44, e46, e47, e48, e49, e50⟩ ρ k0 k1 => ?_
    rw [show (Tabs (k + 1)).l11_6_0 = Gl11_6_0 (Tabs k) from rfl]
    unfold Gl11_6_0
    simp only [pos_ge h, pos_lt h, Bool.and_self, cond_true, bt_at h, e24, e40, e42, e44, e46, e47, e48, e49, e50]
    have hne : next c r = next c r := rfl
    conv at hne => lhs; unfold next
    simp only at hne
    cases h1 : smallB (c.toNat : Int) with
    | true =>
      rw [h1, cond_true] at hne
      simp only [cond_true]
      exact fin k0 k1 _ hne.symm hc
    | false =>
      rw [h1, cond_false] at hne
      simp only [cond_false]
      cases h1 : capB (c.toNat : Int) with
      | true =>
        rw [h1, cond_true] at hne
        simp only [cond_true]
        exact fin k0 k1 _ hne.symm hc
      | false =>
        rw [h1, cond_false] at hne
        simp only [cond_false]
        cases h1 : digB (c.toNat : Int) with
        | true =>
          rw [h1, cond_true] at hne
          simp only [cond_true]
          exact fin k0 k1 _ hne.symm hc
        | false =>
          rw [h1, cond_false] at hne
          simp only [cond_false]
          cases h1 : ((c.toNat : Int) == 95) with
          | true =>
            rw [h1, cond_true] at hne
            simp only [cond_true]
            exact fin k0 k1 _ hne.symm hc
          | false =>
            rw [h1, cond_false] at hne
            simp only [cond_false]
            cases h1 : ((c.toNat : Int) == 37) with
            | true =>
              rw [h1, cond_true] at hne
              simp only [cond_true]
              exact fin k0 k1 _ hne.symm hc
            | false =>
              rw [h1, cond_false] at hne
              simp only [cond_false]
              cases h1 : ((c.toNat : Int) == 45) with
              | true =>
                rw [h1, cond_true] at hne
                simp only [cond_true]
                exact fin k0 k1 _ hne.symm hc
              | false =>
                rw [h1, cond_false] at hne
                simp only [cond_false]
                cases h1 : ((c.toNat : Int) == 60) with
                | true =>
                  rw [h1, cond_true] at hne
                  simp only [cond_true]
                  exact fin k0 k1 _ hne.symm hc
                | false =>
                  rw [h1, cond_false] at hne
                  simp only [cond_false]
                  exact fin k0 k1 _ hne.symm hc

end
end Go.Proofs.YtdhpgcjhiommkaaDoor.Ev
