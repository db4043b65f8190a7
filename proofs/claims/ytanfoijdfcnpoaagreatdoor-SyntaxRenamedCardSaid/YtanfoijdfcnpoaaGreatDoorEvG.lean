/- This file proves what an operation of the evaluator may write; without any condition. -/
import Derived.Test.YtanfoijdfcnpoaaGreatDoorEvD
set_option linter.unusedVariables false
set_option linter.unusedSimpArgs false
namespace Go.Proofs.YtanfoijdfcnpoaaGreatDoor.Ev

section
variable {S : Sig} {P : Program} {L : Lay S} {call : CallT S} [Natural call]

theorem cond_cases {α : Type} {b : Bool} {x y : Option α} {r : α} (h : cond b x y = some r) : x = some r ∨ y = some r := by
  cases b
  · exact .inr h
  · exact .inl h

/-- What a floating operation does to a cell. -/
def Soft (cid : Nat) (st : St S) (c : Nat) (v : List (PV S)) : Prop :=
  (c = cid ∧ st.mem[cid]? = some none) ∨ ∃ cs, cellAt st.mem c = some cs ∧ v.map PV.norm1 = cs.map PV.norm1

/-- What an operation may write. -/
structure Wr (fl : Bool) (dst : Option Nat) (raw : List Nat) (cells : List (Nat × Bool)) (cid : Nat) (st : St S) (e : Eff S) : Prop where
  w : ∀ x ∈ e.w, some x.1 = dst ∨ (x.1 ∈ raw ∧ x.2 = (st.slots x.1).strip)
  m : ∀ x ∈ e.m, (x.1, true) ∈ cells
  soft : fl = true → e.g = [] ∧ e.df = [] ∧ (e.m = [] ∨ ∃ c v, e.m = [(c, v)] ∧ Soft cid st c v)

def OutWr (fl : Bool) (dst : Option Nat) (raw : List Nat) (cells : List (Nat × Bool)) (cid : Nat) (st : St S) : Out S → Prop
  | .ok e => Wr fl dst raw cells cid st e
  | .pan p e => fl = false ∧ e.w = [] ∧ ∀ x ∈ e.m, (x.1, true) ∈ cells

variable {fl : Bool} {raw : List Nat} {cells : List (Nat × Bool)} {cid : Nat} {st : St S}

theorem wr_key {dst : Option Nat} {p : PV S} {x : Nat × PV S} (h : x ∈ wr dst p) : some x.1 = dst := by
  unfold wr at h
  split at h
  · simp at h; subst h; rfl
  · simp at h

theorem took_key {y : Operand} {x : Nat × PV S} (h : x ∈ took st y) : x.1 ∈ tmps [y] ∧ x.2 = (st.slots x.1).strip := by
  unfold took at h
  split at h
  · simp at h; subst h; simp [tmps]
  · simp at h

theorem tookAll_key : ∀ {ys : List Operand} {x : Nat × PV S}, x ∈ tookAll st ys → x.1 ∈ tmps ys ∧ x.2 = (st.slots x.1).strip
  | [], x, h => by simp [tookAll] at h
  | y :: ys, x, h => by
    simp only [tookAll, List.mem_append] at h
    rcases h with h | h
    · obtain ⟨this, h2⟩ := took_key h
      refine ⟨?_, h2⟩
      cases y <;> simp [tmps] at this ⊢
      exact .inl this
    · obtain ⟨this, h2⟩ := tookAll_key h
      refine ⟨?_, h2⟩
      cases y <;> simp [tmps] at this ⊢
      · exact .inr this
      all_goals exact this

theorem val_wr (o : Oper) (p : PV S) : OutWr fl o.dst raw cells cid st (val o p) :=
  ⟨fun x hx => .inl (wr_key hx), fun x hx => (by cases hx), fun _ => ⟨rfl, rfl, .inl rfl⟩⟩

theorem took_wr {dst : Option Nat} {y : Operand} {p : PV S} (h : ∀ i ∈ tmps [y], i ∈ raw) : OutWr fl dst raw cells cid st (.ok { w := took st y ++ wr dst p }) := by
  refine ⟨fun x hx => ?_, fun x hx => (by simp at hx), fun _ => ⟨rfl, rfl, .inl rfl⟩⟩
  rcases List.mem_append.1 hx with hx | hx
  · exact .inr ⟨h _ (took_key hx).1, (took_key hx).2⟩
  · exact .inl (wr_key hx)

theorem binK_wr {o : Oper} {op : BinOp} {xt : TypeId} {x y : Operand} {p q : PV S} : ∀ {out : Out S}, binK P o op xt x y p q some = some out → OutWr fl o.dst raw cells cid st out := by
  unfold binK
  repeat' (first
    | (intro out hk; cases hk; done)
    | (intro out hk; cases hk; exact val_wr _ _)
    | (intro out hk; rcases cond_cases hk with hk | hk <;> cases hk <;> exact val_wr _ _)
    | split)

theorem convK_wr {o : Oper} {s d : TypeId} {p : PV S} : ∀ {out : Out S}, convK P L o s d p some = some out → OutWr fl o.dst raw cells cid st out := by
  unfold convK
  repeat' (first
    | (intro out hk; cases hk; done)
    | (intro out hk; cases hk; exact val_wr _ _)
    | (intro out hk; rcases cond_cases hk with hk | hk <;> cases hk <;> exact val_wr _ _)
    | split)

theorem sliceK_wr {o : Oper} {st2 : St S} {t : TypeId} {p : PV S} {lo hi mx : Option Operand} : ∀ {out : Out S}, sliceK P L o st2 t p lo hi mx some = some out → OutWr fl o.dst raw cells cid st out := by
  unfold sliceK
  repeat' (first
    | (intro out hk; cases hk; done)
    | (intro out hk; cases hk; exact val_wr _ _)
    | (intro out hk; rcases cond_cases hk with hk | hk <;> cases hk <;> exact val_wr _ _)
    | split)

theorem appK_wr {o : Oper} {ts : List TypeId} {xs : List Operand} (hr : ∀ i ∈ tmps (xs.take 1), i ∈ raw) : ∀ {out : Out S}, appK P L o st ts xs some = some out → OutWr fl o.dst raw cells cid st out := by
  unfold appK
  split
  · simp only [List.take_succ_cons, List.take_zero] at hr
    repeat' (first
      | (intro out hk; cases hk; done)
      | (intro out hk; cases hk; exact took_wr hr)
      | (intro out hk; rcases cond_cases hk with hk | hk <;> cases hk <;> exact took_wr hr)
      | split)
  · intro out hk; cases hk

theorem putAt_nrm {cs : List (PV S)} {off : Nat} {p : PV S} (h : (cs.drop off).take 1 = [p]) : (putAt cs off [p.strip]).map PV.norm1 = cs.map PV.norm1 := by
  have hp : p.strip.norm1 = p.norm1 := by cases p <;> rfl
  unfold putAt
  simp only [List.map_append, List.map_cons, List.map_nil, hp, List.length_singleton]
  rw [← List.map_singleton, ← h, ← List.map_append, ← List.map_append]
  congr 1
  have : cs.drop (off + 1) = (cs.drop off).drop 1 := by rw [List.drop_drop]
  rw [this, List.append_assoc, List.take_append_drop, List.take_append_drop]

theorem loadK_wr {o : Oper} {tk : Bool} {t : TypeId} {p : PV S} (hc : ∀ c off, p = .ptr c off → (c, tk) ∈ cells) : ∀ {out : Out S}, loadK P L o tk st t p some = some out → OutWr fl o.dst raw cells cid st out := by
  unfold loadK
  split
  · rename_i n hn
    split
    · rename_i c off
      split
      · rename_i cs hcs
        split
        · split
          · intro out hk; cases hk; exact val_wr _ _
          · rename_i p ha he
            split
            · intro out hk; cases hk
              rename_i htk
              have := hc c off rfl
              rw [htk] at this
              refine ⟨fun x hx => .inl (wr_key hx), fun x hx => ?_, fun _ => ⟨rfl, rfl, .inr ⟨c, _, rfl, .inr ⟨cs, hcs, ?_⟩⟩⟩⟩
              · simp at hx; subst hx; exact this
              · refine putAt_nrm ?_
                have hl := congrArg List.length he
                simp only [List.length_take, List.length_drop, List.length_singleton] at hl
                have h0 : n = 1 ∨ (cs.drop off).length = 1 := by rw [List.length_drop]; omega
                rcases h0 with h0 | h1
                · subst h0; exact he
                · have h2 : (cs.drop off).take n = cs.drop off := List.take_of_length_le (by rw [h1]; rw [List.length_drop] at h1; omega)
                  rw [List.take_of_length_le (by omega), ← h2]; exact he
            · intro out hk; cases hk; exact val_wr _ _
          · intro out hk; cases hk
        · intro out hk; cases hk
      · intro out hk; cases hk
    · repeat' (first
        | (intro out hk; cases hk; done)
        | (intro out hk; cases hk; exact val_wr _ _)
        | split)
    · intro out hk; cases hk
  · intro out hk; cases hk

theorem mapSetK_wr {o : Oper} {t : TypeId} {m k x : Operand} (hc : ∀ c, rd P L st t m = some (.mp c) → (c, true) ∈ cells) : ∀ {out : Out S}, mapSetK P L o st t m k x some = some out → OutWr false o.dst raw cells cid st out := by
  unfold mapSetK
  split
  · split
    · rename_i c s p hm _ _
      split
      · split
        · intro out hk; cases hk
          exact ⟨fun x hx => .inl (wr_key hx), fun x hx => (by simp at hx; subst hx; exact hc c hm), fun h => by cases h⟩
        · intro out hk; cases hk
      · intro out hk; cases hk
    · intro out hk; cases hk
  · intro out hk; cases hk

theorem mapGetK_wr {o : Oper} {t : TypeId} {m k : Operand} : ∀ {out : Out S}, mapGetK P L o st t m k some = some out → OutWr fl o.dst raw cells cid st out := by
  unfold mapGetK
  repeat' (first
    | (intro out hk; cases hk; done)
    | (intro out hk; cases hk; exact val_wr _ _)
    | split)

theorem loIdxK_wr {o : Oper} {t : TypeId} {q : S.K × Nat × Nat} {i : Operand} : ∀ {out : Out S}, loIdxK P L o st t q i some = some out → OutWr fl o.dst raw cells cid st out := by
  unfold loIdxK
  repeat' (first
    | (intro out hk; cases hk; done)
    | (intro out hk; rcases cond_cases hk with hk | hk <;> cases hk; exact val_wr _ _)
    | split)

theorem sliceLitK_wr {tk : Bool} {o : Oper} {n : Nat} {k : S.K} {l : List (S.El k)} (hc : tk = true → (cid, true) ∈ cells) : ∀ {out : Out S}, sliceLitK L tk cid o st n k l some = some out → OutWr fl o.dst raw cells cid st out := by
  unfold sliceLitK
  cases tk with
  | false => intro out hk; cases hk; exact val_wr _ _
  | true =>
    simp only
    split
    · rename_i hn
      intro out hk; cases hk
      exact ⟨fun y hy => .inl (wr_key hy), fun x hx => (by simp at hx; subst hx; exact hc rfl), fun _ => ⟨rfl, rfl, .inr ⟨cid, _, rfl, .inl ⟨rfl, hn⟩⟩⟩⟩
    · intro out hk; cases hk

theorem mapDelK_wr {o : Oper} {ts : List TypeId} {xs : List Operand} (hc : ∀ t u m k c, ts = [t, u] → xs = [m, k] → rd P L st t m = some (.mp c) → (c, true) ∈ cells) : ∀ {out : Out S}, mapDelK P L o st ts xs some = some out → OutWr false o.dst raw cells cid st out := by
  unfold mapDelK
  split
  · split
    · split
      · rename_i c s hm _
        split
        · intro out hk; cases hk
          exact ⟨fun x hx => (by cases hx), fun x hx => (by simp at hx; subst hx; exact hc _ _ _ _ c rfl rfl hm), fun h => by cases h⟩
        · intro out hk; cases hk
      · intro out hk; cases hk
    · intro out hk; cases hk
  · intro out hk; cases hk

theorem effK_wr {tk fl : Bool} {o : Oper} : ∀ {out : Out S}, effK P L call tk fl cid o st some = some out →
    OutWr (floats o.op) o.dst (rawTmps tk o) (cellsOf P L tk fl cid o st) cid st out := by
  obtain ⟨dst, op, type, pos, after, guard⟩ := o
  intro out hk
  cases op
  case move x =>
    simp only [effK] at hk
    split at hk
    · split at hk
      · cases hk; rename_i htk; subst htk; exact took_wr fun i hi => by simpa [rawTmps] using hi
      · cases hk; exact val_wr _ _
    · cases hk
  case assign x =>
    simp only [effK] at hk
    split at hk
    · cases hk; exact took_wr fun i hi => by simpa [rawTmps] using hi
    · cases hk
  case alloc e =>
    simp only [effK] at hk
    split at hk
    · rename_i hz hn
      cases hk
      refine ⟨fun x hx => .inl (wr_key hx), fun x hx => ?_, fun _ => ⟨rfl, rfl, .inr ⟨cid, _, rfl, .inl ⟨rfl, hn⟩⟩⟩⟩
      simp at hx; subst hx; simp [cellsOf]
    · cases hk
  case makeMap t r =>
    cases r with
    | some r => simp [effK] at hk
    | none =>
      simp only [effK] at hk
      split at hk
      · rename_i hz hn
        cases hk
        refine ⟨fun x hx => .inl (wr_key hx), fun x hx => ?_, fun _ => ⟨rfl, rfl, .inr ⟨cid, _, rfl, .inl ⟨rfl, hn⟩⟩⟩⟩
        simp at hx; subst hx; simp [cellsOf]
      · cases hk
  case insert t m k x =>
    simp only [effK] at hk
    exact mapSetK_wr (fun c hc => by simp [cellsOf, hc]) hk
  case mapUpdate t m k x =>
    simp only [effK] at hk
    exact mapSetK_wr (fun c hc => by simp [cellsOf, hc]) hk
  case lookup t m k b =>
    cases b <;> simp only [effK] at hk
    · exact mapGetK_wr hk
    · cases hk
  case box e x =>
    simp only [effK] at hk
    split at hk
    · rename_i hz hn
      split at hk
      · cases hk
        refine ⟨fun y hy => ?_, fun x hx => ?_, fun _ => ⟨rfl, rfl, .inr ⟨cid, _, rfl, .inl ⟨rfl, hn⟩⟩⟩⟩
        · rcases List.mem_append.1 hy with hy | hy
          · exact .inr ⟨by simpa [rawTmps] using (took_key hy).1, (took_key hy).2⟩
          · exact .inl (wr_key hy)
        · simp at hx; subst hx; simp [cellsOf]
      · cases hk
    · cases hk
  case load t a =>
    simp only [effK] at hk
    split at hk
    · rename_i p hp
      refine loadK_wr (fun c off e => ?_) hk
      subst e
      simp [cellsOf, hp]
    · cases hk
  case store t a x =>
    simp only [effK] at hk
    split at hk
    · rename_i c off p hp hx
      split at hk
      · split at hk
        · cases hk
          refine ⟨fun y hy => ?_, fun x hx => ?_, fun h => by simp [floats] at h⟩
          · rcases List.mem_append.1 hy with hy | hy
            · exact .inr ⟨by simpa [rawTmps] using (took_key hy).1, (took_key hy).2⟩
            · exact .inl (wr_key hy)
          · simp at hx; subst hx; simp [cellsOf, hp]
        · cases hk
      · cases hk
    · cases hk
  case binOp op xt x y yt =>
    simp only [effK] at hk
    split at hk
    · exact binK_wr hk
    · cases hk
  case convert a b x =>
    simp only [effK] at hk
    split at hk
    · exact convK_wr hk
    · cases hk
  case slice t x lo hi mx =>
    simp only [effK] at hk
    split at hk
    · exact sliceK_wr hk
    · cases hk
  case call c =>
    obtain ⟨callee, args, ts⟩ := c
    cases callee
    case value f =>
      simp only [effK, callK] at hk
      split at hk
      · rename_i gf fst cap hf
        split at hk
        · rename_i as ha
          rw [callC_eq] at hk
          cases hE : callE (dir call) st gf as with
          | none => simp [hE] at hk
          | some q =>
            obtain ⟨r, cs, now, more⟩ := q
            have hcs : cs = reachN st.mem.length st.mem (PV.ptrsL as).eraseDups := by
              unfold callE at hE
              simp only at hE
              repeat' split at hE
              all_goals first
                | (cases hE; done)
                | (simp only [Option.some.injEq, Prod.mk.injEq] at hE; exact hE.2.1.symm)
            simp only [hE, Option.bind_some] at hk
            have hm : ∀ x ∈ cs.zip now, (x.1, true) ∈ cellsOf P L tk fl cid { dst := dst, op := .call { callee := .value f, args := args, argTypes := ts }, type := type, pos := pos, after := after, guard := guard } st := by
              intro x hx
              simp only [cellsOf, hf, ha]
              exact List.mem_map.2 ⟨x.1, by rw [← hcs]; exact (List.of_mem_zip hx).1, rfl⟩
            cases r with
            | ret p =>
              cases hk
              refine ⟨fun x hx => ?_, hm, fun h => by simp [floats] at h⟩
              rcases List.mem_append.1 hx with hx | hx
              · split at hx
                · rename_i htk; exact .inr ⟨by simpa [rawTmps, htk] using (tookAll_key hx).1, (tookAll_key hx).2⟩
                · cases hx
              · exact .inl (wr_key hx)
            | pan p =>
              cases hk
              exact ⟨rfl, rfl, hm⟩
        · cases hk
      · cases hk
    case builtin b =>
      simp only [effK, builtinK] at hk
      split at hk
      · repeat' split at hk
        all_goals first
          | (cases hk; done)
          | (cases hk; exact val_wr _ _)
      · exact appK_wr (fun i hi => by simpa [rawTmps] using hi) hk
      · exact mapDelK_wr (fun t u m k c e1 e2 hc => by simp only [cellsOf, e1, e2, hc]; simp) hk
      · repeat' split at hk
        all_goals first
          | (cases hk; done)
          | (cases hk; exact val_wr _ _)
      · cases hk
    case invoke => simp [effK] at hk
  case defer c =>
    obtain ⟨callee, args, ts⟩ := c
    cases callee <;> simp only [effK] at hk
    case value f =>
      split at hk
      · split at hk
        · cases hk
        cases hk
        exact ⟨fun x hx => .inl (wr_key hx), fun x hx => (by cases hx), fun h => by simp [floats] at h⟩
      · cases hk
    all_goals cases hk
  case panic x =>
    simp only [effK] at hk
    split at hk
    · cases hk; exact ⟨rfl, rfl, fun x hx => by cases hx⟩
    · cases hk
  case pick c a b =>
    simp only [effK] at hk
    split at hk
    · split at hk
      · rcases cond_cases hk with hk | hk <;> (rw [pickK_some hk]; exact val_wr _ _)
      · cases hk
    · cases hk
  case unOp op xt x =>
    cases op <;> simp only [effK] at hk
    all_goals first
      | (cases hk; done)
      | (split at hk
         · cases hk; exact val_wr _ _
         · cases hk)
  case typeAssert x t a b =>
    cases b <;> simp only [effK] at hk
    · cases hk
    · repeat' split at hk
      all_goals first
        | (cases hk; done)
        | (cases hk; exact val_wr _ _)
  case makeFunc f fst cap =>
    cases f <;> simp only [effK] at hk
    all_goals first
      | (cases hk; done)
      | (split at hk
         · cases hk; exact val_wr _ _
         · cases hk)
  all_goals
    simp only [effK] at hk
    first
      | (cases hk; done)
      | (repeat' split at hk
         all_goals first
          | (cases hk; done)
          | (cases hk; exact val_wr _ _)
          | exact loIdxK_wr hk
          | exact sliceLitK_wr (fun e => by subst e; simp [cellsOf]) hk
          | (rcases cond_cases hk with hk | hk <;> cases hk <;> exact val_wr _ _))

end

section
variable {S : Sig} {P : Program} {L : Lay S} {call : CallT S} {cid : Nat} {st : St S}

/-- Where a floating operation that succeeds looks, there is a cell. -/
theorem effK_lt {tk fl : Bool} {o : Oper} (hf : floats o.op = true) {out : Out S} (hk : effK P L call tk fl cid o st some = some out) : ∀ x ∈ cellsOf P L tk fl cid o st, x.1 < st.mem.length := by
  obtain ⟨dst, op, type, pos, after, guard⟩ := o
  have hlt : ∀ {c : Nat} {v : Option (List (PV S))}, st.mem[c]? = some v → c < st.mem.length := fun h => (List.getElem?_eq_some_iff.1 h).1
  intro x hx
  cases op <;> simp only [cellsOf] at hx <;> try (cases hx; done)
  case alloc e =>
    simp only [effK] at hk
    split at hk
    · rename_i hn; simp at hx; subst hx; exact hlt hn
    · cases hk
  case box e y =>
    simp only [effK] at hk
    split at hk
    · rename_i hn; simp at hx; subst hx; exact hlt hn
    · cases hk
  case buildSlice t n ps =>
    cases tk with
    | false => simp at hx
    | true =>
      simp only [effK, sliceLitK] at hk
      repeat' split at hk
      all_goals first
        | (cases hk; done)
        | (rename_i hn; simp at hx; subst hx; exact hlt hn)
  case load t a =>
    simp only [effK] at hk
    split at hk
    · rename_i p hp
      split at hx
      · rename_i c off hp'
        rw [hp] at hp'; cases hp'
        simp at hx; subst hx
        unfold loadK at hk
        split at hk
        · simp only at hk
          split at hk
          · rename_i cs hcs; exact cellAt_lt hcs
          · cases hk
        · cases hk
      · cases hx
    · cases hk
  case store => simp [floats] at hf
  case makeMap => simp [floats] at hf
  case insert => simp [floats] at hf
  case mapUpdate => simp [floats] at hf
  case lookup => simp [floats] at hf
  case call c =>
    obtain ⟨callee, args, ts⟩ := c
    cases callee
    case value => simp [floats] at hf
    case builtin b => cases b <;> first | (cases hx; done) | simp [floats] at hf
    all_goals cases hx

end
end Go.Proofs.YtanfoijdfcnpoaaGreatDoor.Ev
