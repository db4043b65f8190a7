/- This file proves when a kind and a text are a token by itself, in the program and in the reference; its condition is that the text fits the machine. -/
import Derived.Test.YtdhpgcjhiommkaaDoorV11
set_option linter.unusedVariables false
set_option linter.unusedSimpArgs false
namespace Go.Proofs.YtdhpgcjhiommkaaDoor.Ev

theorem next_len {c : UInt8} {r : List UInt8} {x : Int × List UInt8} (h : next c r = some x) : x.2.length ≤ 17 := by
  have one : ∀ {b : Bool} {n : Int} {w : List UInt8}, (b = true → w.length ≤ 17) → (bif b then some (n, w) else none) = some x → x.2.length ≤ 17 := by
    intro b n w hw hb; cases b
    · cases hb
    · simp only [cond_true, Option.some.injEq] at hb; subst hb; exact hw rfl
  have nl : ∀ {f : Int → Bool} {w : List UInt8}, nameL f w = true → w.length ≤ 16 := by
    intro f w hw
    cases w with
    | nil => cases hw
    | cons c r =>
      simp only [nameL, Bool.and_eq_true, decide_eq_true_eq] at hw
      exact hw.1
  have ol : ∀ {w : List UInt8}, numOk w = true → w.length ≤ 5 := by
    intro w hw
    cases w with
    | nil => cases hw
    | cons c r =>
      simp only [numOk, Bool.and_eq_true, decide_eq_true_eq] at hw
      exact hw.1
  unfold next at h
  simp only at h
  cases h1 : smallB (c.toNat : Int) with
  | true => rw [h1, cond_true] at h; exact one (fun h => by have := nl h; omega) h
  | false =>
  rw [h1, cond_false] at h
  cases h1 : capB (c.toNat : Int) with
  | true => rw [h1, cond_true] at h; exact one (fun h => by have := nl h; omega) h
  | false =>
  rw [h1, cond_false] at h
  cases h1 : digB (c.toNat : Int) with
  | true => rw [h1, cond_true] at h; exact one (fun h => by have := ol h; omega) h
  | false =>
  rw [h1, cond_false] at h
  cases h1 : ((c.toNat : Int) == 95) with
  | true => rw [h1, cond_true] at h; exact one (fun _ => by simp) h
  | false =>
  rw [h1, cond_false] at h
  cases h1 : ((c.toNat : Int) == 37) with
  | true => rw [h1, cond_true] at h; exact one (fun h => by have := nl h; simp only [List.length_cons]; omega) h
  | false =>
  rw [h1, cond_false] at h
  cases h1 : ((c.toNat : Int) == 45) with
  | true =>
    rw [h1, cond_true] at h
    cases h2 : (byteAt r == 62) with
    | true => rw [h2] at h; exact one (b := true) (fun _ => by simp) h
    | false => rw [h2] at h; exact one (b := true) (fun _ => by simp) h
  | false =>
  rw [h1, cond_false] at h
  cases h1 : ((c.toNat : Int) == 60) with
  | true => rw [h1, cond_true] at h; exact one (fun _ => by simp) h
  | false => rw [h1, cond_false] at h; exact one (fun _ => by simp) h

theorem toks_one {k : Int} {w : List UInt8} (h : isTok k w = true) (hk : k ≠ 7) : toks w = ([⟨k, mk w, 0⟩, ⟨7, mk [], (w.length : Int)⟩], 0, 0) := by
  obtain ⟨c, r, rfl, h1, h2⟩ := isTok_spec h hk
  have hlen : (c :: r).length ≤ 17 := next_len h2
  unfold toks
  have h6 : decide ((c :: r).length ≤ 6000) = true := by simp only [decide_eq_true_eq]; omega
  rw [h6, cond_true, h1]
  have ht : tk (c :: r).length (c :: r).length (c :: r) = .inl [⟨k, mk (c :: r), 0⟩] := by
    show tk (r.length + 1) (r.length + 1) (c :: r) = _
    simp only [tk, h2]
    have hd : (c :: r).drop (c :: r).length = [] := List.drop_length
    rw [hd]
    simp only [skip, tk_nil, List.length_cons]
    simp
  rw [ht]
  rfl

theorem of_toks {k : Int} {w : List UInt8} (hk7 : k ≠ 7) (h0 : (toks w).2.2 = 0) (h2 : (toks w).1.length = 2) (hkd : (rdEl lay Key.tok (toks w).1 (0 : Int)).kind = k) (ht : strEq (rdEl lay Key.tok (toks w).1 (0 : Int)).text (mk w) = true) : isTok k w = true := by
  unfold toks at h0 h2 ht hkd
  by_cases h6 : w.length ≤ 6000
  · simp only [h6, decide_true, cond_true] at h0 h2 ht hkd
    cases hk : tk w.length w.length (skip w false) with
    | inr p => rw [hk] at h0; exact absurd h0 (show ¬ ((4 : Int) = 0) by decide)
    | inl ts =>
      rw [hk] at h2 ht hkd
      simp only [List.length_append, List.length_cons, List.length_nil] at h2
      match ts, hk, h2, ht, hkd with
      | [t], hk, _, ht, hkd =>
        have e : rdEl lay Key.tok ([t] ++ [⟨7, mk [], (w.length : Int)⟩] : List Tok) (0 : Int) = t := rfl
        simp only [e] at ht hkd
        have hN : ∀ n, w.length = n → tk w.length n (skip w false) = .inl [t] → isTok k w = true := by
          intro n hn hk
          cases n with
          | zero => cases hk
          | succ n =>
            cases hsk : skip w false with
            | nil => rw [hsk] at hk; cases hk
            | cons c r =>
              rw [hsk] at hk
              simp only [tk] at hk
              cases hx : next c r with
              | none => rw [hx] at hk; cases hk
              | some x =>
                rw [hx] at hk
                simp only at hk
                split at hk
                · simp only [Sum.inl.injEq, List.cons.injEq] at hk
                  obtain ⟨rfl, _⟩ := hk
                  rw [strEq_mk] at ht
                  have hw : x.2 = w := by simpa using ht
                  obtain ⟨_, q, hq⟩ := next_text hx
                  have hsuf := skip_suffix w false
                  rw [hsk] at hsuf
                  have hl1 := hsuf.length_le
                  have hl2 : (c :: r).length = w.length + q.length := by rw [hq, hw, List.length_append]
                  have he : c :: r = w := hsuf.eq_of_length (by omega)
                  subst he
                  unfold isTok
                  have h7 : (k == 7) = false := by simpa using hk7
                  rw [h7, cond_false]
                  simp only [hsk, hx, beq_self_eq_true, cond_true]
                  have h8 : (x.1 == k) = true := by simpa using hkd
                  rw [h8, hw]; simp
                · cases hk
        exact hN _ rfl hk
  · simp only [h6, decide_false, cond_false] at h0
    exact absurd h0 (show ¬ ((5 : Int) = 0) by decide)

theorem s32 (k : Int) (w : List UInt8) (a : Int) : Evt fun n => ∀ (ρ : Type) k0, (Tabs n).c32_0 ρ ⟨k, mk w, a⟩ k0 = k0 (isTok k w) := by
  have hemp : strEq (mk w) (ByteArray.mk #[]) = (w == []) := strEq_mk w []
  cases h7 : (k == 7) with
  | true =>
    refine Evt.step0 fun n ρ k0 => ?_
    rw [show (Tabs (n + 1)).c32_0 = Gc32_0 (Tabs n) from rfl]
    unfold Gc32_0 isTok
    simp only [h7, cond_true, hemp]
  | false =>
    have hk : k ≠ 7 := by simpa using h7
    refine (s11 w).step fun n h1 ρ k0 => ?_
    rw [show (Tabs (n + 1)).c32_0 = Gc32_0 (Tabs n) from rfl]
    unfold Gc32_0
    simp only [h7, cond_false, h1]
    cases ht : isTok k w with
    | true =>
      have e : rdEl lay Key.tok ([⟨k, mk w, 0⟩, ⟨7, mk [], (w.length : Int)⟩] : List Tok) (0 : Int) = ⟨k, mk w, 0⟩ := rfl
      have e2 : strEq (mk w) (mk w) = true := by rw [strEq_mk]; simp
      have e3 : (k == k) = true := by simp
      simp only [toks_one ht hk, e, e2, e3]
      rfl
    | false =>
      cases e0 : ((toks w).2.2 == 0) with
      | false => rfl
      | true =>
        cases e2 : (((toks w).1.length : Int) == 2) with
        | false => rfl
        | true =>
          have hi2 : ((toks w).1.length : Int) = 2 := by simpa using e2
          have hl2 : (toks w).1.length = 2 := by omega
          have e3 : decide ((0 : Int) < ((toks w).1.length : Int)) = true := by rw [hl2]; decide
          have e4 : decide ((0 : Int) ≤ 0) = true := by decide
          simp only [e3, e4, Bool.and_self, cond_true]
          cases ek : ((rdEl lay Key.tok (toks w).1 (0 : Int)).kind == k) with
          | false => rfl
          | true =>
            cases et : strEq (rdEl lay Key.tok (toks w).1 (0 : Int)).text (mk w) with
            | false => rfl
            | true =>
              have := of_toks hk (by simpa using e0) hl2 (by simpa using ek) et
              rw [ht] at this; cases this

theorem s34 (k : Int) (w : List UInt8) (a : Int) (hw : w.length ≤ 140737488355328) : Evt fun n => ∀ (ρ : Type) k0, (Tabs n).c34_0 ρ ⟨k, mk w, a⟩ k0 = k0 (isTok k w) := by
  have hemp : strEq (mk w) (ByteArray.mk #[]) = (w == []) := strEq_mk w []
  cases h7 : (k == 7) with
  | true =>
    refine Evt.step0 fun n ρ k0 => ?_
    rw [show (Tabs (n + 1)).c34_0 = Gc34_0 (Tabs n) from rfl]
    unfold Gc34_0 isTok
    simp only [h7, cond_true, hemp]
  | false =>
    cases w with
    | nil =>
      refine Evt.step0 fun n ρ k0 => ?_
      rw [show (Tabs (n + 1)).c34_0 = Gc34_0 (Tabs n) from rfl]
      unfold Gc34_0 isTok
      simp only [h7, cond_false, hemp]
      rfl
    | cons c r =>
      have hne : ((c :: r) == ([] : List UInt8)) = false := rfl
      have h25 := s25 hw (List.suffix_refl (c :: r))
      rw [pos_all] at h25
      obtain ⟨tb, h26⟩ := s26 hw (List.suffix_refl (c :: r))
      rw [pos_all] at h26
      refine (h25.and h26).step fun n ⟨h1, h2⟩ ρ k0 => ?_
      rw [show (Tabs (n + 1)).c34_0 = Gc34_0 (Tabs n) from rfl]
      unfold Gc34_0 isTok
      simp only [h7, cond_false, hemp, hne, h1, h2]
      have hsuf := skip_suffix (c :: r) false
      cases hsk : (skip (c :: r) false == (c :: r)) with
      | true =>
        have hsk2 : skip (c :: r) false = c :: r := by simpa using hsk
        have e : decide (pos (c :: r) (skip (c :: r) false) > 0) = false := by rw [hsk2, pos_all]; rfl
        rw [e]
        simp only [cond_false, cond_true]
        cases hx : next c r with
        | none => rfl
        | some x =>
          simp only [inR, cond_true]
          rw [strEq_mk]
          cases (x.1 == k) <;> rfl
      | false =>
        have hne2 : skip (c :: r) false ≠ c :: r := by simpa using hsk
        have e : decide (pos (c :: r) (skip (c :: r) false) > 0) = true := by
          simp only [decide_eq_true_eq]
          have := hsuf.length_le
          have h3 : (skip (c :: r) false).length ≠ (c :: r).length := fun h => hne2 (hsuf.eq_of_length h)
          unfold pos
          omega
        rw [e]; rfl

end Go.Proofs.YtdhpgcjhiommkaaDoor.Ev
