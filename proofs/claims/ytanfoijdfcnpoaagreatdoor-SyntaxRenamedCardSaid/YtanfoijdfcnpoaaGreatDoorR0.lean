/- This file proves plain lemmas: what holds from some level on, elements of lists, raw expressions and when two are the same; without any condition. -/
import Derived.Test.YtanfoijdfcnpoaaGreatDoorVA
set_option linter.unusedVariables false
set_option linter.unusedSimpArgs false
namespace Go.Proofs.YtanfoijdfcnpoaaGreatDoor.Ev

theorem Evt.all {α : Type} {p : α → Nat → Prop} : ∀ {l : List α}, (∀ x ∈ l, Evt (p x)) → Evt fun k => ∀ x ∈ l, p x k
  | [], _ => .pure fun _ _ h => by cases h
  | x :: l, h => by
    refine ((h x (List.mem_cons_self ..)).and (Evt.all (l := l) fun y hy => h y (List.mem_cons_of_mem _ hy))).mono fun k hk y hy => ?_
    rcases List.mem_cons.1 hy with rfl | hy
    · exact hk.1
    · exact hk.2 y hy

/-- From a level on that is written out. -/
theorem Evt.of_add {p : Nat → Prop} (n : Nat) (h : ∀ k, p (k + n)) : Evt p := ⟨n, fun k hk => by have := h (k - n); rwa [Nat.sub_add_cancel hk] at this⟩

theorem rdEl_mid {S : Sig} {L : Lay S} {k : S.K} (pre : List (S.El k)) (x : S.El k) (post : List (S.El k)) {n : Int} (h : n = (pre.length : Int)) : rdEl L k (pre ++ x :: post) n = x := by
  subst h
  simp [rdEl, List.getD]

theorem rdRw (pre : List Rw) (x : Rw) (post : List Rw) : rdEl lay Key.raw (pre ++ x :: post) (pre.length : Int) = x := rdEl_mid (S := sig) (L := lay) (k := Key.raw) pre x post rfl
theorem rdRw0 (x : Rw) (post : List Rw) : rdEl lay Key.raw (x :: post : List Rw) (0 : Int) = x := rdRw [] x post
theorem rdRw1 (x y : Rw) (post : List Rw) : rdEl lay Key.raw (x :: y :: post : List Rw) (1 : Int) = y := rdRw [x] y post
theorem rdTok (pre : List Tok) (x : Tok) (post : List Tok) : rdEl lay Key.tok (pre ++ x :: post) (pre.length : Int) = x := rdEl_mid (S := sig) (L := lay) (k := Key.tok) pre x post rfl
theorem rdStr (pre : List ByteArray) (x : ByteArray) (post : List ByteArray) : rdEl lay Key.str (pre ++ x :: post) (pre.length : Int) = x := rdEl_mid (S := sig) (L := lay) (k := Key.str) pre x post rfl
theorem rdInt (pre : List Int) (x : Int) (post : List Int) : rdEl lay Key.int (pre ++ x :: post) (pre.length : Int) = x := rdEl_mid (S := sig) (L := lay) (k := Key.int) pre x post rfl

theorem Rw.eta (t : Rw) : (⟨t.op, t.name, t.args⟩ : Rw) = t := by cases t; rfl
theorem Tok.eta (t : Tok) : (⟨t.kind, t.text, t.at_⟩ : Tok) = t := by cases t; rfl

theorem Rw.ind {p : Rw → Prop} (h : ∀ op name args, (∀ x ∈ args, p x) → p ⟨op, name, args⟩) (t : Rw) : p t := by
  refine Rw.rec (motive_1 := p) (motive_2 := fun l => ∀ x ∈ l, p x) (fun op name args ih => h op name args ih) (fun x hx => by cases hx) (fun a l ha hl x hx => ?_) t
  rcases List.mem_cons.1 hx with rfl | hx
  · exact ha
  · exact hl x hx

/-- What is read of an argument fits the machine. -/
inductive Rw.Ok : Rw → Prop
  | mk (op : Int) (name : ByteArray) (args : List Rw) (hn : name.size ≤ 140737488355328) (hl : args.length * 48 ≤ 140737488351232) (h : ∀ x ∈ args, Rw.Ok x) : Rw.Ok ⟨op, name, args⟩

theorem Rw.Ok.len {t : Rw} (h : t.Ok) : t.args.length * 48 ≤ 140737488351232 := by cases h; assumption
theorem Rw.Ok.nm {t : Rw} (h : t.Ok) : t.name.size ≤ 140737488355328 := by cases h; assumption
theorem Rw.Ok.mem {t : Rw} (h : t.Ok) : ∀ x ∈ t.args, x.Ok := by cases h; assumption

mutual
/-- Whether two raw expressions are the same. -/
def eqRw : Rw → Rw → Bool
  | ⟨o, n, l⟩, ⟨o', n', l'⟩ => o == o' && (strEq n n' && eqRwL l l')
def eqRwL : List Rw → List Rw → Bool
  | [], [] => true
  | x :: r, y :: r' => eqRw x y && eqRwL r r'
  | _, _ => false
end

theorem strEq_iff {a b : ByteArray} : strEq a b = true ↔ a = b := by
  constructor
  · intro h
    rw [mk_of a, mk_of b, strEq_mk] at h
    rw [mk_of a, mk_of b, eq_of_beq h]
  · rintro rfl; simp [strEq]

theorem eqRw_iff (a : Rw) : ∀ b, eqRw a b = true ↔ a = b := by
  induction a using Rw.ind with
  | h o n l ih =>
    rintro ⟨o', n', l'⟩
    have key : ∀ (l l' : List Rw), (∀ x ∈ l, ∀ b, eqRw x b = true ↔ x = b) → (eqRwL l l' = true ↔ l = l') := by
      intro l
      induction l with
      | nil => intro l' _; cases l' <;> simp [eqRwL]
      | cons x r ihr =>
        intro l' h
        cases l' with
        | nil => simp [eqRwL]
        | cons y r' =>
          simp only [eqRwL, Bool.and_eq_true, List.cons.injEq]
          rw [h x (List.mem_cons_self ..), ihr r' fun z hz => h z (List.mem_cons_of_mem _ hz)]
    simp only [eqRw, Bool.and_eq_true, beq_iff_eq, strEq_iff, Rw.mk.injEq, key l l' ih]

theorem eqRw_refl (a : Rw) : eqRw a a = true := (eqRw_iff a a).2 rfl
theorem eqRw_comm (a b : Rw) : eqRw a b = eqRw b a := by
  rw [Bool.eq_iff_iff, eqRw_iff, eqRw_iff]; exact ⟨Eq.symm, Eq.symm⟩

theorem eqRwL_len : ∀ {l l' : List Rw}, l.length ≠ l'.length → eqRwL l l' = false
  | [], [], h => absurd rfl h
  | [], _ :: _, _ => rfl
  | _ :: _, [], _ => rfl
  | x :: r, y :: r', h => by
    have : r.length ≠ r'.length := fun e => h (by simp [e])
    simp [eqRwL, eqRwL_len this]

end Go.Proofs.YtanfoijdfcnpoaaGreatDoor.Ev
