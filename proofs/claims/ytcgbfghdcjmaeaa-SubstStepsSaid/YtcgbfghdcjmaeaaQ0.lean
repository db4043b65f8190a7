/- This file proves plain lemmas on terms and simple types: what is proper, shifts, substitution; without any condition. -/
set_option linter.unusedVariables false
set_option linter.unusedSimpArgs false
namespace Go.Proofs.Ytcgbfghdcjmaeaa.Ev

structure Tm where
  op : Int
  head : Int
  n : Int
  args : List Tm
deriving Inhabited

structure Sm where
  args : List Sm
  con : Int
deriving Inhabited

theorem Tm.eta (t : Tm) : (⟨t.op, t.head, t.n, t.args⟩ : Tm) = t := by cases t; rfl
theorem Sm.eta (t : Sm) : (⟨t.args, t.con⟩ : Sm) = t := by cases t; rfl

theorem Tm.ind {p : Tm → Prop} (h : ∀ op head n args, (∀ x ∈ args, p x) → p ⟨op, head, n, args⟩) (t : Tm) : p t := by
  refine Tm.rec (motive_1 := p) (motive_2 := fun l => ∀ x ∈ l, p x) (fun op head n args ih => h op head n args ih) (fun x hx => by cases hx) (fun a l ha hl x hx => ?_) t
  rcases List.mem_cons.1 hx with rfl | hx
  · exact ha
  · exact hl x hx

theorem Sm.ind {p : Sm → Prop} (h : ∀ args con, (∀ x ∈ args, p x) → p ⟨args, con⟩) (t : Sm) : p t := by
  refine Sm.rec (motive_1 := p) (motive_2 := fun l => ∀ x ∈ l, p x) (fun args con ih => h args con ih) (fun x hx => by cases hx) (fun a l ha hl x hx => ?_) t
  rcases List.mem_cons.1 hx with rfl | hx
  · exact ha
  · exact hl x hx

mutual
def Tm.size : Tm → Nat
  | ⟨_, _, _, args⟩ => 1 + sizeL args
def sizeL : List Tm → Nat
  | [] => 0
  | x :: r => x.size + sizeL r
end

/-- What a node of a term must be. -/
def nodeOk (op head n : Int) (k : Nat) : Prop :=
  (op = 1 ∧ head = 0 ∧ n = 0 ∧ k = 0) ∨ (op = 2 ∧ head = 0 ∧ n = 0 ∧ k = 2) ∨ (op = 3 ∧ head = 0 ∧ n = 0 ∧ k = 1) ∨ (op = 4 ∧ 1 ≤ head ∧ head ≤ 3 ∧ 0 ≤ n ∧ n ≤ 9999)

instance (op head n : Int) (k : Nat) : Decidable (nodeOk op head n k) := by unfold nodeOk; infer_instance

mutual
def Form : Tm → Int → Prop
  | ⟨op, head, n, args⟩, d => d ≤ 40 ∧ nodeOk op head n args.length ∧ FormL args (d + 1)
def FormL : List Tm → Int → Prop
  | [], _ => True
  | x :: r, d => Form x d ∧ FormL r d
end

/-- A proper term. -/
def Proper (t : Tm) : Prop := t.size ≤ 600 ∧ Form t 1

theorem Tm.size_pos (t : Tm) : 1 ≤ t.size := by cases t; simp [Tm.size]

theorem sizeL_len : ∀ l : List Tm, l.length ≤ sizeL l
  | [] => by simp [sizeL]
  | x :: r => by have := sizeL_len r; have := x.size_pos; simp [sizeL]; omega

theorem sizeL_append : ∀ l m : List Tm, sizeL (l ++ m) = sizeL l + sizeL m
  | [], m => by simp [sizeL]
  | x :: r, m => by simp [sizeL, sizeL_append r m]; omega

theorem FormL_append : ∀ {l m : List Tm} {d : Int}, FormL (l ++ m) d ↔ FormL l d ∧ FormL m d
  | [], m, d => by simp [FormL]
  | x :: r, m, d => by simp [FormL, FormL_append (l := r), and_assoc]

theorem FormL_mem : ∀ {l : List Tm} {d : Int}, FormL l d ↔ ∀ x ∈ l, Form x d
  | [], d => by simp [FormL]
  | x :: r, d => by simp [FormL, FormL_mem (l := r)]

/-- How many variables a term binds in one of its Args. -/
def under (op i : Int) : Int := if op = 3 then 1 else if op = 2 ∧ i = 1 then 1 else 0

theorem under_nonneg (op i : Int) : 0 ≤ under op i ∧ under op i ≤ 1 := by unfold under; split <;> (try split) <;> omega

mutual
/-- The shift. -/
def mv (by_ frm : Int) : Tm → Tm
  | ⟨op, head, n, args⟩ => ⟨op, head, if op = 4 ∧ head = 1 ∧ frm ≤ n then n + by_ else n, mvL by_ frm op 0 args⟩
def mvL (by_ frm op i : Int) : List Tm → List Tm
  | [] => []
  | x :: r => mv by_ (frm + under op i) x :: mvL by_ frm op (i + 1) r
end

mutual
/-- Whether a shift makes a number too great. -/
def grt (by_ frm : Int) : Tm → Bool
  | ⟨op, head, n, args⟩ => (decide (op = 4 ∧ head = 1 ∧ frm ≤ n ∧ 9999 < n + by_)) || grtL by_ frm op 0 args
def grtL (by_ frm op i : Int) : List Tm → Bool
  | [] => false
  | x :: r => grt by_ (frm + under op i) x || grtL by_ frm op (i + 1) r
end

mutual
theorem mv_size (by_ frm : Int) : ∀ t : Tm, (mv by_ frm t).size = t.size
  | ⟨op, head, n, args⟩ => by simp only [mv, Tm.size, mvL_size by_ frm op 0 args]
theorem mvL_size (by_ frm op i : Int) : ∀ l : List Tm, sizeL (mvL by_ frm op i l) = sizeL l
  | [] => rfl
  | x :: r => by simp only [mvL, sizeL, mv_size by_ (frm + under op i) x, mvL_size by_ frm op (i + 1) r]
end

theorem mvL_length (by_ frm op : Int) : ∀ (l : List Tm) (i : Int), (mvL by_ frm op i l).length = l.length
  | [], _ => rfl
  | x :: r, i => by simp [mvL, mvL_length by_ frm op r]

mutual
theorem form_mv {by_ : Int} (h : 0 ≤ by_) : ∀ (t : Tm) (frm d : Int), Form t d → (Form (mv by_ frm t) d ↔ grt by_ frm t = false)
  | ⟨op, head, n, args⟩, frm, d, hF => by
    simp only [Form] at hF
    simp only [mv, Form, mvL_length, grt, Bool.or_eq_false_iff, decide_eq_false_iff_not, formL_mv h args frm op 0 (d + 1) hF.2.2]
    have := hF.1
    have h2 := hF.2.1
    simp only [nodeOk] at h2 ⊢
    by_cases hc : op = 4 ∧ head = 1 ∧ frm ≤ n
    · simp only [if_pos hc]
      constructor
      · rintro ⟨_, a, b⟩; exact ⟨by omega, b⟩
      · rintro ⟨a, b⟩; exact ⟨this, by omega, b⟩
    · simp only [if_neg hc]
      constructor
      · rintro ⟨_, a, b⟩; exact ⟨by omega, b⟩
      · rintro ⟨a, b⟩; exact ⟨this, by omega, b⟩
theorem formL_mv {by_ : Int} (h : 0 ≤ by_) : ∀ (l : List Tm) (frm op i d : Int), FormL l d → (FormL (mvL by_ frm op i l) d ↔ grtL by_ frm op i l = false)
  | [], frm, op, i, d, _ => by simp [mvL, FormL, grtL]
  | x :: r, frm, op, i, d, hF => by
    simp only [FormL] at hF
    simp only [mvL, FormL, grtL, Bool.or_eq_false_iff, form_mv h x (frm + under op i) d hF.1, formL_mv h r frm op (i + 1) d hF.2]
end

theorem proper_mv {by_ : Int} (h : 0 ≤ by_) {t : Tm} (ht : Proper t) (frm : Int) : Proper (mv by_ frm t) ↔ grt by_ frm t = false := by
  unfold Proper
  rw [mv_size, form_mv h t frm 1 ht.2]
  exact ⟨fun h => h.2, fun h => ⟨ht.1, h⟩⟩

mutual
theorem Form.mono : ∀ {t : Tm} {d d' : Int}, d' ≤ d → Form t d → Form t d'
  | ⟨op, head, n, args⟩, d, d', h, hF => by
    simp only [Form] at hF ⊢
    exact ⟨by omega, hF.2.1, FormL.mono (by omega) hF.2.2⟩
theorem FormL.mono : ∀ {l : List Tm} {d d' : Int}, d' ≤ d → FormL l d → FormL l d'
  | [], d, d', h, hF => by simp only [FormL]
  | x :: r, d, d', h, hF => by
    simp only [FormL] at hF ⊢
    exact ⟨Form.mono h hF.1, FormL.mono h hF.2⟩
end

theorem sizeL_mem : ∀ {l : List Tm} {x : Tm}, x ∈ l → x.size ≤ sizeL l
  | y :: r, x, h => by
    simp only [sizeL]
    rcases List.mem_cons.1 h with rfl | h
    · omega
    · have := sizeL_mem h; omega

theorem Proper.arg {t : Tm} (h : Proper t) {x : Tm} (hx : x ∈ t.args) : Proper x := by
  cases t with
  | mk op head n args =>
    obtain ⟨h1, h2⟩ := h
    simp only [Tm.size] at h1
    simp only [Form] at h2
    have := sizeL_mem hx
    exact ⟨by simp only at this; omega, Form.mono (by omega) (FormL_mem.1 h2.2.2 x hx)⟩

/-- What is proper, as a Bool. -/
noncomputable def prB (t : Tm) : Bool := by classical exact decide (Proper t)
theorem prB_iff {t : Tm} : prB t = true ↔ Proper t := by simp [prB]
theorem prB_ok {t : Tm} (h : Proper t) : prB t = true := prB_iff.2 h
theorem prB_no {t : Tm} (h : ¬ Proper t) : prB t = false := by
  cases hb : prB t with
  | false => rfl
  | true => exact absurd (prB_iff.1 hb) h

/-! ### Substitution -/

/-- What is computed, or the error; and how many nodes have been arrived at. -/
abbrev Rs (α : Type) := Except Int α × Int

noncomputable def whole (t : Tm) : Except Int Tm := by classical exact if Proper t then .ok t else .error 5
theorem whole_ok {t : Tm} (h : Proper t) : whole t = .ok t := by simp [whole, h]
theorem whole_no {t : Tm} (h : ¬ Proper t) : whole t = .error 5 := by simp [whole, h]

def putL (p : Tm → Int → Int → Rs Tm) (op n : Int) : Int → List Tm → Int → Rs (List Tm)
  | _, [], c => (.ok [], c)
  | i, x :: r, c =>
    match p x (n + under op i) c with
    | (.error e, c) => (.error e, c)
    | (.ok y, c) =>
      match putL p op n (i + 1) r c with
      | (.error e, c) => (.error e, c)
      | (.ok l, c) => (.ok (y :: l), c)

def appL (p : Tm → Tm → Sm → Int → Rs Tm) : Tm → List Tm → List Sm → Int → Rs Tm
  | f, [], _, c => (.ok f, c)
  | f, x :: r, tys, c =>
    if f.op = 3 then
      match f.args, tys with
      | b :: _, a :: tys =>
        match p b x a c with
        | (.error e, c) => (.error e, c)
        | (.ok f, c) => appL p f r tys c
      | _, _ => (.error 23, c)
    else (.error 23, c)

/-- The number of a node behind a substitution that does not hit it. -/
def less (op head nn n : Int) : Int := if op = 4 ∧ head = 1 ∧ n < nn then nn - 1 else nn

noncomputable def put : Nat → Tm → Int → Tm → Sm → Int → Rs Tm
  | 0, _, _, _, _, c => (.error 5, c + 1)
  | g + 1, t, n, s, a, c =>
    if c + 1 > 20000 then (.error 5, c + 1) else
    match putL (fun x m c => put g x m s a c) t.op n 0 t.args (c + 1) with
    | (.error e, c) => (.error e, c)
    | (.ok l, c) =>
      if t.op = 4 ∧ t.head = 1 ∧ t.n = n then
        match whole (mv n 0 s) with
        | .error e => (.error e, c)
        | .ok s' => appL (fun b x a c => put g b 0 x a c) s' l a.args c
      else (whole ⟨t.op, t.head, less t.op t.head t.n n, l⟩, c)

/-- What is so of every outcome. -/
def Fine {α : Type} (Q : α → Prop) (c : Int) : Rs α → Prop
  | (.error e, c') => (e = 5 ∨ e = 23) ∧ c ≤ c' ∧ c' ≤ 20001
  | (.ok x, c') => Q x ∧ c ≤ c' ∧ c' ≤ 20000

theorem fine_putL {p : Tm → Int → Int → Rs Tm} (op n : Int) : ∀ (l : List Tm) (i c : Int), (∀ x ∈ l, ∀ m c, c ≤ 20000 → Fine Proper c (p x m c)) → c ≤ 20000 → Fine (fun m => m.length = l.length ∧ ∀ x ∈ m, Proper x) c (putL p op n i l c)
  | [], i, c, _, hc => ⟨⟨rfl, by simp⟩, Int.le_refl _, hc⟩
  | x :: r, i, c, hp, hc => by
    have h1 := hp x (List.mem_cons_self ..) (n + under op i) c hc
    rw [putL]
    revert h1
    generalize p x (n + under op i) c = q
    rcases q with ⟨e | y, c1⟩
    · intro h1; exact h1
    · intro h1
      have h2 := fine_putL op n r (i + 1) c1 (fun y hy => hp y (List.mem_cons_of_mem _ hy)) h1.2.2
      simp only
      revert h2
      generalize putL p op n (i + 1) r c1 = q
      rcases q with ⟨e | m, c2⟩
      · intro h2; exact ⟨h2.1, by have := h1.2.1; have := h2.2.1; omega, h2.2.2⟩
      · intro h2
        refine ⟨⟨by simp [h2.1.1], fun z hz => ?_⟩, by have := h1.2.1; have := h2.2.1; omega, h2.2.2⟩
        rcases List.mem_cons.1 hz with rfl | hz
        · exact h1.1
        · exact h2.1.2 z hz

theorem fine_appL {p : Tm → Tm → Sm → Int → Rs Tm} (hp : ∀ b x a c, Proper b → Proper x → c ≤ 20000 → Fine Proper c (p b x a c)) : ∀ (l : List Tm) (f : Tm) (tys : List Sm) (c : Int), (∀ x ∈ l, Proper x) → Proper f → c ≤ 20000 → Fine Proper c (appL p f l tys c)
  | [], f, tys, c, _, hf, hc => ⟨hf, Int.le_refl _, hc⟩
  | x :: r, f, tys, c, hl, hf, hc => by
    unfold appL
    split
    · rename_i ho
      split
      · rename_i b _ a tys' hb
        have h1 := hp b x a c (hf.arg (by rw [hb]; exact List.mem_cons_self ..)) (hl x (List.mem_cons_self ..)) hc
        revert h1
        generalize p b x a c = q
        rcases q with ⟨e | y, c1⟩
        · intro h1; exact h1
        · intro h1
          have h2 := fine_appL hp r y tys' c1 (fun y hy => hl y (List.mem_cons_of_mem _ hy)) h1.1 h1.2.2
          simp only
          revert h2
          generalize appL p y r tys' c1 = q
          rcases q with ⟨e | z, c2⟩
          · intro h2; exact ⟨h2.1, by have := h1.2.1; have := h2.2.1; omega, h2.2.2⟩
          · intro h2; exact ⟨h2.1, by have := h1.2.1; have := h2.2.1; omega, h2.2.2⟩
      · exact ⟨.inr rfl, Int.le_refl _, by omega⟩
    · exact ⟨.inr rfl, Int.le_refl _, by omega⟩

theorem fine_whole {t : Tm} {c : Int} (hc : c ≤ 20000) : Fine Proper c (whole t, c) := by
  by_cases h : Proper t
  · rw [whole_ok h]; exact ⟨h, Int.le_refl _, hc⟩
  · rw [whole_no h]; exact ⟨.inl rfl, Int.le_refl _, by omega⟩

theorem fine_put : ∀ (g : Nat) (t : Tm) (n : Int) (s : Tm) (a : Sm) (c : Int), Proper s → c ≤ 20000 → Fine Proper (c + 1) (put g t n s a c)
  | 0, t, n, s, a, c, hs, hc => ⟨.inl rfl, by omega, by omega⟩
  | g + 1, t, n, s, a, c, hs, hc => by
    rw [put]
    split
    · exact ⟨.inl rfl, by omega, by omega⟩
    · rename_i hc1
      have h1 := fine_putL (p := fun x m c => put g x m s a c) t.op n t.args 0 (c + 1) (fun x _ m c hc => by
        have := fine_put g x m s a c hs hc
        revert this
        generalize put g x m s a c = q
        rcases q with ⟨e | y, c1⟩ <;> intro h <;> exact ⟨h.1, by have := h.2.1; omega, h.2.2⟩) (by omega)
      revert h1
      generalize putL (fun x m c => put g x m s a c) t.op n 0 t.args (c + 1) = q
      rcases q with ⟨e | l, c1⟩
      · intro h1; exact h1
      · intro h1
        simp only
        have lift : ∀ {q : Rs Tm}, Fine Proper c1 q → Fine Proper (c + 1) q := by
          intro q
          rcases q with ⟨e | y, c2⟩ <;> intro h <;> exact ⟨h.1, by have := h.2.1; have := h1.2.1; omega, h.2.2⟩
        split
        · by_cases hm : Proper (mv n 0 s)
          · rw [whole_ok hm]
            refine lift (fine_appL (fun b x a c hb hx hc => ?_) l (mv n 0 s) a.args c1 h1.1.2 hm h1.2.2)
            have := fine_put g b 0 x a c hx hc
            revert this
            generalize put g b 0 x a c = q
            rcases q with ⟨e | y, c1⟩ <;> intro h <;> exact ⟨h.1, by have := h.2.1; omega, h.2.2⟩
          · rw [whole_no hm]; exact lift ⟨.inl rfl, Int.le_refl _, by have := h1.2.2; omega⟩
        · exact lift (fine_whole h1.2.2)

/-! ### Small simple types -/

mutual
def Sm.size : Sm → Nat
  | ⟨args, _⟩ => 1 + ssizeL args
def ssizeL : List Sm → Nat
  | [] => 0
  | x :: r => x.size + ssizeL r
end
mutual
def ConOk : Sm → Prop
  | ⟨args, con⟩ => (0 ≤ con ∧ con ≤ 9999) ∧ ConOkL args
def ConOkL : List Sm → Prop
  | [] => True
  | x :: r => ConOk x ∧ ConOkL r
end
/-- A small simple type. -/
def Small (s : Sm) : Prop := s.size ≤ 600 ∧ ConOk s

theorem Sm.size_pos (s : Sm) : 1 ≤ s.size := by cases s; simp [Sm.size]
theorem ssizeL_len : ∀ l : List Sm, l.length ≤ ssizeL l
  | [] => by simp [ssizeL]
  | x :: r => by have := ssizeL_len r; have := x.size_pos; simp [ssizeL]; omega
theorem ssizeL_append : ∀ l m : List Sm, ssizeL (l ++ m) = ssizeL l + ssizeL m
  | [], m => by simp [ssizeL]
  | x :: r, m => by simp [ssizeL, ssizeL_append r m]; omega
theorem ssizeL_mem : ∀ {l : List Sm} {x : Sm}, x ∈ l → x.size ≤ ssizeL l
  | y :: r, x, h => by
    simp only [ssizeL]
    rcases List.mem_cons.1 h with rfl | h
    · omega
    · have := ssizeL_mem h; omega
theorem ConOkL_mem : ∀ {l : List Sm}, ConOkL l ↔ ∀ x ∈ l, ConOk x
  | [] => by simp [ConOkL]
  | x :: r => by simp [ConOkL, ConOkL_mem (l := r)]

noncomputable def smB (s : Sm) : Bool := by classical exact decide (Small s)
theorem smB_iff {s : Sm} : smB s = true ↔ Small s := by simp [smB]
theorem smB_ok {s : Sm} (h : Small s) : smB s = true := smB_iff.2 h
theorem smB_no {s : Sm} (h : ¬ Small s) : smB s = false := by
  cases hb : smB s with
  | false => rfl
  | true => exact absurd (smB_iff.1 hb) h

end Go.Proofs.Ytcgbfghdcjmaeaa.Ev
