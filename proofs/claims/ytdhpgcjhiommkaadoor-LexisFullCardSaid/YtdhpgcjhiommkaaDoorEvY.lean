/- This file proves that each operation of the evaluator keeps its relation to the model's world, if the calls do; without any other condition. -/
import Derived.Test.YtdhpgcjhiommkaaDoorEvX
set_option linter.unusedVariables false
set_option linter.unusedSimpArgs false
namespace Go.Proofs.YtdhpgcjhiommkaaDoor.Ev

section
variable {S : Sig} {P : Program} {L : Lay S} {g : Gh} {st : St S} {a : Act} {w w' : World}

theorem opt_inj {α : Type} {x y : α} (h : some x = some y) : x = y := Option.some.inj h

theorem loadK_sound (h : Inv L g st a w) {o : Oper} {t : TypeId} {x : Operand} (ho : o.op = .load t x) {p : PV S} (hp : rd P L st 0 x = some p) {tk : Bool} {out : Out S}
    (hk : loadK P L o tk st t p some = some out) (hd : ∀ e, out = .ok e → fits st.nt e.w = true) : StepOk P L g w st o a out := by
  unfold loadK at hk
  split at hk
  · rename_i n hn
    split at hk
    · rename_i c off
      split at hk
      · rename_i cs hcs
        split at hk
        · rename_i hle
          split at hk
          · rename_i ps ha
            cases hk
            exact step_load_ptr h ho hp hcs hn hle ha (hd _ rfl)
          · rename_i p' ha hps
            split at hk
            · rename_i htk
              cases hk
              have hone : (((cs.drop off).take n).length) = 1 := by rw [hps]; rfl
              have hn1 : n = 1 := by simp at hone; omega
              have hg : cs[off]? = some p' := by
                have : ((cs.drop off).take n)[0]? = some p' := by rw [hps]; rfl
                rw [List.getElem?_take, if_pos (by omega), List.getElem?_drop] at this
                simpa using this
              exact step_load_take h ho hp hcs (by omega) ha hg (hd _ rfl)
            · cases hk
              exact step_load_ptr1 h ho hp hcs hle ha hps (hd _ rfl)
          · cases hk
        · cases hk
      · cases hk
    · rename_i k e off
      split at hk
      · rename_i hle
        split at hk
        · rename_i ps ha
          cases hk
          exact step_load_dp h ho hp hn hle ha (hd _ rfl)
        · rename_i p' ha hps
          cases hk
          exact step_load_dp1 h ho hp hle ha hps (hd _ rfl)
        · cases hk
      · cases hk
    · cases hk
  · cases hk

theorem builtinK_sound (h : Inv L g st a w) {o : Oper} {c : Call} (ho : o.op = .call c) {b : Builtin} (hc : c.callee = .builtin b) {out : Out S}
    (hk : builtinK P L o st b c.argTypes.toList c.args.toList some = some out) (hd : ∀ e, out = .ok e → fits st.nt e.w = true) : StepOk P L g w st o a out := by
  unfold builtinK at hk
  split at hk
  · split at hk
    · rename_i t x ht hx
      split at hk
      · rename_i e k l hu hb
        cases hk
        cases hp : rd P L st t x with
        | none => simp [hp] at hb
        | some p =>
          simp [hp] at hb
          exact step_len h ho hc ht hx hp (.inl ⟨e, k, l, hu, hb, rfl⟩) (hd _ rfl)
      · rename_i s hu hb
        cases hk
        cases hp : rd P L st t x with
        | none => simp [hp] at hb
        | some p =>
          simp [hp] at hb
          exact step_len h ho hc ht hx hp (.inr ⟨s, hu, hb, rfl⟩) (hd _ rfl)
      · cases hk
    · cases hk
  · unfold appK at hk
    split at hk
    · rename_i t u x y ht hx
      split at hk
      · rename_i e p q hu hp hq
        split at hk
        · rename_i i hi
          split at hk
          · rename_i z hz
            split at hk
            · rename_i k l
              split at hk
              · rename_i hcond
                obtain ⟨_, c2, c3, c4, c5⟩ := hcond
                split at hk
                · rename_i l' hn
                  obtain ⟨hb, hk⟩ := cond_some hk
                  cases hk
                  exact step_append h ho hc ht hx hu c4 hi hz c2 c3 c5 hp (.inl rfl) hq hn (of_decide_eq_true hb) (hd _ rfl)
                · cases hk
              · cases hk
            · rename_i k l
              split at hk
              · rename_i hcond
                obtain ⟨_, c2, c3, c4, c5⟩ := hcond
                split at hk
                · rename_i l' hn
                  obtain ⟨hb, hk⟩ := cond_some hk
                  cases hk
                  exact step_append h ho hc ht hx hu c4 hi hz c2 c3 c5 hp (.inr rfl) hq hn (of_decide_eq_true hb) (hd _ rfl)
                · cases hk
              · cases hk
            · cases hk
          · cases hk
        · cases hk
      · cases hk
    · cases hk
  · split at hk
    · rename_i t u x y ht hx
      split at hk
      · rename_i k m k' n hp hq
        cases hk
        exact step_min h ho hc hx hp hq (hd _ rfl)
      · cases hk
    · cases hk
  · cases hk

theorem pickK_some {o : Oper} {p : PV S} {out : Out S} (h : pickK o p some = some out) : out = val o p := by
  unfold pickK at h
  split at h
  · cases h
  · cases h; rfl

theorem effK_sound (h : Inv L g st a w) {call : CallT S} [Natural call] (hcall : ∀ f args m r, dir call f args m = some r → CallOk P L f args m r) {tk fl : Bool} {cid : Nat} {o : Oper} {out : Out S}
    (hk : effK P L call tk fl cid o st some = some out) (hd : ∀ e, out = .ok e → fits st.nt e.w = true) : StepOk P L g w st o a out := by
  unfold effK at hk
  split at hk
  · rename_i x ho
    split at hk
    · rename_i p hp
      split at hk
      · cases hk; exact step_move_take h ho hp (hd _ rfl)
      · cases hk; exact step_move h ho hp (hd _ rfl)
    · cases hk
  · rename_i x ho
    split at hk
    · rename_i p hp; cases hk; exact step_assign h ho hp (hd _ rfl)
    · cases hk
  · rename_i c x y ho
    split at hk
    · rename_i t ht
      split at hk
      · rename_i p q hp hq
        cases t with
        | true => simp only [cond_true] at hk; have hk := pickK_some hk; subst hk; exact step_pick h ho ht (by simpa using hp) (hd _ rfl)
        | false => simp only [cond_false] at hk; have hk := pickK_some hk; subst hk; exact step_pick h ho ht (by simpa using hq) (hd _ rfl)
      · cases hk
    · cases hk
  · rename_i e ho
    split at hk
    · rename_i cs hz hc; cases hk; exact step_alloc h ho hz hc (hd _ rfl)
    · cases hk
  · rename_i e x ho
    split at hk
    · rename_i p hp hc
      split at hk
      · rename_i h1; cases hk; exact step_box h ho hp hc h1 (hd _ rfl)
      · cases hk
    · cases hk
  · rename_i t ps ho
    split at hk
    · rename_i fs z hu hz
      split at hk
      · rename_i hall
        split at hk
        · rename_i cs hf; cases hk; exact step_build h ho hu hz hall hf (hd _ rfl)
        · cases hk
      · cases hk
    · cases hk
  · rename_i t n ps ho
    split at hk
    · rename_i e hu
      split at hk
      · rename_i k hkey
        split at hk
        · rename_i hc
          obtain ⟨c1, c2, c3, c4⟩ := hc
          split at hk
          · rename_i l hl; cases hk; exact step_buildSlice h ho hu c1 c2 c3 c4 hl (hd _ rfl)
          · cases hk
        · cases hk
      · cases hk
    · cases hk
  · rename_i t x ho
    split at hk
    · rename_i p hp; exact loadK_sound h ho hp hk hd
    · cases hk
  · rename_i t x y ho
    split at hk
    · rename_i c off p hx hy
      split at hk
      · rename_i cs hc
        split at hk
        · rename_i hcond
          obtain ⟨c1, c2, c3⟩ := hcond
          cases hk; exact step_store h ho hx hy hc c1 c2 c3 (hd _ rfl)
        · cases hk
      · cases hk
    · cases hk
  · rename_i x ho
    split at hk
    · rename_i c off hp; cases hk; exact step_nilCheck h ho hp (.inl ⟨c, off, rfl⟩) (hd _ rfl)
    · rename_i k e off hp; cases hk; exact step_nilCheck h ho hp (.inr ⟨k, e, off, rfl⟩) (hd _ rfl)
    · cases hk
  · rename_i op xt x y yt ho
    split at hk
    · rename_i p q hp hq; exact step_bin h ho hp hq hk hd
    · cases hk
  · rename_i t x ho
    split at hk
    · rename_i b hb; cases hk; exact step_not h ho hb (hd _ rfl)
    · cases hk
  · rename_i src dst x ho
    split at hk
    · rename_i p hp; exact step_conv h ho hp hk hd
    · cases hk
  · rename_i t x ho
    split at hk
    · cases hk
    · rename_i d p hni hu hp; cases hk; exact step_makeInterface h ho hu (fun ms e => hni ms (by subst e; first | rfl | exact hu)) hp (hd _ rfl)
    · cases hk
  · rename_i f fst cap ho
    split at hk
    · rename_i ps qs hp hq; cases hk; exact step_makeFunc h ho hp hq (hd _ rfl)
    · cases hk
  · rename_i t x lo hi mx ho
    split at hk
    · rename_i p hp; exact step_slice h ho hp hk hd
    · cases hk
  · rename_i t x f ho
    split at hk
    · rename_i fd p hf hp
      split at hk
      · rename_i n hs
        split at hk
        · rename_i c off; cases hk; exact step_fieldAddr h ho hf hs hp (.inl ⟨c, off, rfl, rfl⟩) (hd _ rfl)
        · rename_i k e off; cases hk; exact step_fieldAddr h ho hf hs hp (.inr ⟨k, e, off, rfl, rfl⟩) (hd _ rfl)
        · cases hk
      · cases hk
    · cases hk
  · rename_i t x f ho
    split at hk
    · rename_i fd cs hf hp
      split at hk
      · rename_i n ha hs
        split at hk
        · rename_i hn; cases hk; exact step_field h ho hf hp hs ha hn (hd _ rfl)
        · cases hk
      · rename_i n ha hs
        split at hk
        · rename_i p hpp; cases hk; exact step_field1 h ho hf hp ha hpp (hd _ rfl)
        · cases hk
      · cases hk
    · cases hk
  · rename_i t x i ho
    split at hk
    · rename_i e k l n hu hb hn
      split at hk
      · rename_i hc
        obtain ⟨hbb, hk⟩ := cond_some hk
        simp only [Bool.and_eq_true, decide_eq_true_eq] at hbb
        cases hk
        cases hp : rd P L st t x with
        | none => simp [hp] at hb
        | some p =>
          simp [hp] at hb
          exact step_indexAddr h ho hu hp hb hn hc.1 hbb.1 hbb.2 (hd _ rfl)
      · cases hk
    · cases hk
  · rename_i t x i ho
    split at hk
    · rename_i s n hu hp hn
      obtain ⟨hbb, hk⟩ := cond_some hk
      simp only [Bool.and_eq_true, decide_eq_true_eq] at hbb
      cases hk
      exact step_index h ho hu hp hn hbb.1 hbb.2 (hd _ rfl)
    · cases hk
  · rename_i x t ty ho
    split at hk
    · cases hk
    · rename_i d t' p hni hu hp
      split at hk
      · rename_i e
        subst e
        cases hk; exact step_typeAssert_yes h ho hu (fun ms e => hni ms (by subst e; first | rfl | exact hu)) hp (hd _ rfl)
      · rename_i hne
        split at hk
        · rename_i z hz; cases hk; exact step_typeAssert_no h ho hu (fun ms e => hni ms (by subst e; first | rfl | exact hu)) hp (.inr ⟨t', p, rfl, hne⟩) hz (hd _ rfl)
        · cases hk
    · rename_i d hni hu hp
      split at hk
      · rename_i z hz; cases hk; exact step_typeAssert_no h ho hu (fun ms e => hni ms (by subst e; first | rfl | exact hu)) hp (.inl rfl) hz (hd _ rfl)
      · cases hk
    · cases hk
  · rename_i x i ho
    split at hk
    · rename_i l hp
      split at hk
      · rename_i p hpp; cases hk; exact step_extract h ho hp hpp (hd _ rfl)
      · cases hk
    · cases hk
  · rename_i c ho
    split at hk
    · rename_i f hc
      unfold callK at hk
      split at hk
      · rename_i fd fst cap hf
        split at hk
        · rename_i args hargs
          rw [callC_eq] at hk
          cases hE : callE (dir call) st fd args with
          | none => simp [hE] at hk
          | some q =>
            obtain ⟨r, cs, now, more⟩ := q
            simp only [hE, Option.bind_some] at hk
            cases r with
            | ret p =>
              cases hk
              exact step_call h hcall ho hc hf hargs hE (fun p' hp' => by cases hp'; exact hd _ rfl)
            | pan p =>
              cases hk
              exact step_call h hcall ho hc hf hargs hE (fun p' hp' => by cases hp')
        · cases hk
      · cases hk
    · rename_i b hc
      exact builtinK_sound h ho hc hk hd
    · cases hk
  · rename_i c ho
    split at hk
    · rename_i f hc
      split at hk
      · rename_i fd fst cap args hf hargs; cases hk; exact step_defer h ho hc hf hargs (hd _ rfl)
      · cases hk
    · cases hk
  · rename_i x ho
    split at hk
    · rename_i t p hp; cases hk; exact step_panic h ho hp
    · cases hk
  · cases hk

end
end Go.Proofs.YtdhpgcjhiommkaaDoor.Ev
