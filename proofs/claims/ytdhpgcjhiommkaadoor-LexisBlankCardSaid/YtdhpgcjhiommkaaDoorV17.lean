/- This file proves what LexisBlank answers, for strings that fit the machine. -/
import Derived.Test.YtdhpgcjhiommkaaDoorV14
import Derived.Test.YtdhpgcjhiommkaaDoorV15
set_option linter.unusedVariables false
set_option linter.unusedSimpArgs false
namespace Go.Proofs.YtdhpgcjhiommkaaDoor.Ev

/-- A comment's bytes but for line feeds. -/
def noLF (r : List UInt8) : List UInt8 := r.filter fun b => !((b.toNat : Int) == 10)

theorem noLF_ne (r : List UInt8) : ∀ b ∈ noLF r, b ≠ 10 := by
  intro b hb e
  unfold noLF at hb
  have := (List.mem_filter.1 hb).2
  subst e
  revert this
  decide

theorem s6_11 (s : ByteArray) (m : Int) (T : List Tok) {cs : List UInt8} (hcs : cs.length ≤ 6000) : ∀ (r : List UInt8) (acc : List Int), r <:+ cs → acc.length + r.length ≤ cs.length →
    Evt fun k => ∀ (ρ : Type) k0, (Tabs k).l6_11_0 ρ s m (mk cs) T acc (pos cs r) k0 = k0 s m T (acc ++ ints (noLF r))
  | [], acc, h, ha => Evt.step0 fun k ρ k0 => by
    rw [show (Tabs (k + 1)).l6_11_0 = Gl6_11_0 (Tabs k) from rfl]
    unfold Gl6_11_0
    simp only [pos_end, cond_false]
    simp [noLF, ints]
  | c :: r, acc, h, ha => by
    simp only [List.length_cons] at ha
    have hr := suf_tail h
    refine ((s6_11 s m T hcs r acc hr (by omega)).and (s6_11 s m T hcs r (acc ++ [(c.toNat : Int)]) hr (by simp only [List.length_append, List.length_cons, List.length_nil]; omega))).step fun k ⟨h1, h2⟩ ρ k0 => ?_
    rw [show (Tabs (k + 1)).l6_11_0 = Gl6_11_0 (Tabs k) from rfl]
    unfold Gl6_11_0
    have e : decide ((List.length acc + List.length [(c.toNat : Int)]) * 1 ≤ 140737488355328) = true := by simp only [List.length_cons, List.length_nil, decide_eq_true_eq]; omega
    simp only [pos_ge h, pos_lt h, bt_at h, Bool.and_self, cond_true, pos_W h (by omega), h1, h2, e, bne]
    cases h10 : ((c.toNat : Int) == 10) with
    | true => simp [noLF, h10]
    | false => simp [noLF, h10, ints]

theorem s6_20 (m d : Nat) (W : ByteArray) (hW : W.size = d) (hd : d ≤ 6000) : ∀ (r r' pre pre' : List Tok), pre.length = pre'.length → r.length = r'.length → (pre ++ r).length ≤ 1000000 →
    (∀ (j : Nat) x x', r[j]? = some x → r'[j]? = some x' → x'.at_ = (if m ≤ pre.length + j then x.at_ + d else x.at_) ∧ 0 ≤ x.at_ ∧ x.at_ ≤ 6000) →
    Evt fun k => ∀ (ρ : Type) k0 k1, (Tabs k).l6_20_0 ρ (m : Int) (pre ++ r) W (pre' ++ r') ((pre ++ r).length : Int) (pre.length : Int) k0 k1 = k1
  | [], r', pre, pre', hp, hl, h, hat => Evt.step0 fun k ρ k0 k1 => by
    rw [show (Tabs (k + 1)).l6_20_0 = Gl6_20_0 (Tabs k) from rfl]
    unfold Gl6_20_0
    have : decide ((pre.length : Int) < ((pre ++ []).length : Int)) = false := by simp
    simp only [this, cond_false]
  | x :: r, [], pre, pre', hp, hl, h, hat => by simp at hl
  | x :: r, y :: r', pre, pre', hp, hl, h, hat => by
    have hl1 : pre ++ x :: r = (pre ++ [x]) ++ r := by simp
    have hl2 : pre' ++ y :: r' = (pre' ++ [y]) ++ r' := by simp
    have ih := s6_20 m d W hW hd r r' (pre ++ [x]) (pre' ++ [y]) (by simp [hp]) (by simpa using hl) (by rw [← hl1]; exact h) (fun j u u' hu hu' => by
      have := hat (j + 1) u u' (by simpa using hu) (by simpa using hu')
      have e : (pre ++ [x]).length + j = pre.length + (j + 1) := by simp; omega
      rw [e]; exact this)
    rw [← hl1, ← hl2] at ih
    obtain ⟨h1, h2, h3⟩ := hat 0 x y rfl rfl
    refine ih.step fun k ih ρ k0 k1 => ?_
    rw [show (Tabs (k + 1)).l6_20_0 = Gl6_20_0 (Tabs k) from rfl]
    unfold Gl6_20_0
    have hx : rdEl lay Key.tok (pre ++ x :: r) (pre.length : Int) = x := rdTok pre x r
    have hy : rdEl lay Key.tok (pre' ++ y :: r') (pre.length : Int) = y := by rw [hp]; exact rdTok pre' y r'
    have hlen : r.length = r'.length := by simpa using hl
    have e1 : decide ((pre.length : Int) < ((pre ++ x :: r).length : Int)) = true := by simp; omega
    have e1' : decide ((pre.length : Int) < ((pre' ++ y :: r').length : Int)) = true := by rw [hp]; simp; omega
    have e2 : decide ((0 : Int) ≤ (pre.length : Int)) = true := by simp
    have e3 : IntKind.wrap .i64 ((pre.length : Int) + 1) = ((pre ++ [x]).length : Int) := by
      have : pre.length ≤ 1000000 := by simp at h; omega
      rw [W_id (by omega) (by omega)]; simp
    have e4 : IntKind.wrap .i64 (x.at_ + (W.size : Int)) = x.at_ + d := by rw [hW]; exact W_id (by omega) (by omega)
    simp only [e1, e1', e2, Bool.and_self, cond_true, hx, hy, e3, e4, ih]
    rw [Nat.add_zero] at h1
    by_cases hm : m ≤ pre.length
    · rw [if_pos hm] at h1
      have e5 : decide ((pre.length : Int) ≥ (m : Int)) = true := by simp; omega
      rw [e5, h1]; simp
    · rw [if_neg hm] at h1
      have e5 : decide ((pre.length : Int) ≥ (m : Int)) = false := by simp; omega
      rw [e5, h1]; simp


theorem sh_app (d : Nat) (e : Tok) : ∀ (i : Nat) (ts : List Tok), i ≤ ts.length → sh d i (ts ++ [e]) = sh d i ts ++ [far d e]
  | 0, ts, _ => by simp [sh]
  | i + 1, [], h => by simp at h
  | i + 1, t :: ts, h => by
    simp only [List.cons_append, sh]
    rw [sh_app d e i ts (by simpa using h)]

theorem sh_key (d : Nat) : ∀ (i : Nat) (ts : List Tok), i ≤ ts.length → (sh d i ts).map keyT = ts.map keyT
  | 0, ts, _ => by simp [sh, far, keyT, Function.comp_def]
  | i + 1, [], h => by simp at h
  | i + 1, t :: ts, h => by
    simp only [sh, List.map_cons]
    rw [sh_key d i ts (by simpa using h)]

theorem sh_at (d : Nat) : ∀ (i : Nat) (ts : List Tok), i ≤ ts.length → ∀ (j : Nat) x x', ts[j]? = some x → (sh d i ts)[j]? = some x' → x'.at_ = if i ≤ j then x.at_ + d else x.at_
  | 0, ts, _, j, x, x', h, h' => by
    simp only [sh, List.getElem?_map, h, Option.map_some, Option.some.injEq] at h'
    subst h'
    rw [if_pos (Nat.zero_le _)]; rfl
  | i + 1, [], hi, _, _, _, _, _ => by simp at hi
  | i + 1, t :: ts, hi, 0, x, x', h, h' => by
    simp only [sh, List.getElem?_cons_zero, Option.some.injEq] at h h'
    subst h; subst h'
    rw [if_neg (by omega)]
  | i + 1, t :: ts, hi, j + 1, x, x', h, h' => by
    simp only [sh, List.getElem?_cons_succ] at h h'
    have := sh_at d i ts (by simpa using hi) j x x' h h'
    rw [this]
    by_cases hij : i ≤ j
    · rw [if_pos hij, if_pos (by omega)]
    · rw [if_neg hij, if_neg (by omega)]

/-- The whole source, with blanks and a comment put in before the i-th token. -/
theorem toks_blank {l w : List UInt8} {ts : List Tok} (hw : ∀ b ∈ w, b ≠ 10) (h6 : l.length + (inn w).length ≤ 6000) (ht : tk l.length l.length (skip l false) = .inl ts) {i : Nat} (hi : i ≤ ts.length) :
    ∃ a B, l = a ++ B ∧ ((ts ++ [⟨7, mk [], (l.length : Int)⟩])[i]?.map (·.at_)) = some (a.length : Int) ∧
      toks (a ++ (inn w ++ B)) = (sh (inn w).length i (ts ++ [⟨7, mk [], (l.length : Int)⟩]), 0, 0) := by
  have hle := (skip_suffix l false).length_le
  have hss : skip (skip l false) false = skip l false := by
    have : ∀ (r : List UInt8) (b : Bool), skip (skip r b) false = skip r b := by
      intro r
      induction r with
      | nil => intro b; rfl
      | cons d t ih =>
        intro b
        cases b with
        | true => simp only [skip]; split <;> exact ih _
        | false =>
          simp only [skip]
          split
          · exact ih _
          · rename_i hw
            split
            · exact ih _
            · rename_i hc
              simp only [skip, if_neg hw, if_neg hc]
    exact this l false
  obtain ⟨s, B, e1, e2, e3⟩ := tk_blank l.length hw i l.length (skip l false) ts hle hss ht hi
  obtain ⟨g, hg⟩ := skip_suffix l false
  have hla : l = (g ++ s) ++ B := by rw [List.append_assoc, ← e1, hg]
  have hal : Alike (s ++ B) (s ++ (inn w ++ B)) := by
    cases s with
    | nil => exact .inr rfl
    | cons d t => exact .inl rfl
  have hgap : skip (g ++ (s ++ (inn w ++ B))) false = skip (s ++ (inn w ++ B)) false := by
    refine skip_gap (r1 := s ++ B) hal (fun he b => ?_) g false ?_
    · have h1 : s = [] := (List.append_eq_nil_iff.1 he).1
      have h2 : B = [] := (List.append_eq_nil_iff.1 he).2
      subst h1; subst h2
      rw [List.nil_append, skip_in hw, skip_in hw]
    · rw [← e1, hg]
  have hl1 : l.length = g.length + s.length + B.length := by
    have := congrArg List.length hla
    simp only [List.length_append] at this
    omega
  refine ⟨g ++ s, B, hla, ?_, ?_⟩
  · rw [e2]
    congr 1
    rw [List.length_append]; omega
  · have hN : ((g ++ s) ++ (inn w ++ B)).length = l.length + (inn w).length := by
      simp only [List.length_append]; omega
    unfold toks
    have h7 : decide (((g ++ s) ++ (inn w ++ B)).length ≤ 6000) = true := by rw [hN]; simpa using h6
    rw [h7, cond_true, hN]
    have hr : (g ++ s) ++ (inn w ++ B) = g ++ (s ++ (inn w ++ B)) := by simp
    rw [hr, hgap, e3 _ (by simp only [List.length_append]; omega), sh_app _ _ _ _ hi]
    simp only [far]
    congr 3


theorem rdEl_some {S : Sig} {L : Lay S} {k : S.K} {l : List (S.El k)} {m : Nat} {x : S.El k} (h : l[m]? = some x) : rdEl L k l (m : Int) = x := by
  simp [rdEl, List.getD, h]

theorem u64_small {n : Nat} (h : n ≤ 1000000) : IntKind.wrap .u64 (n : Int) = (n : Int) := by
  simp only [IntKind.wrap, IntKind.signed, IntKind.bits]
  simp
  omega

theorem u64_mod (n : Int) {k : Nat} (h0 : 0 < k) (h : k ≤ 1000000) : ∃ m : Nat, m < k ∧ IntKind.wrap .i64 (Int.tmod (IntKind.wrap .u64 n) (IntKind.wrap .u64 (k : Int))) = (m : Int) := by
  have e2 : 0 ≤ IntKind.wrap .u64 n := by
    simp only [IntKind.wrap, IntKind.signed, IntKind.bits]
    simp
    omega
  rw [u64_small h]
  have h1 := Int.tmod_nonneg (k : Int) e2
  have h2 := Int.tmod_lt_of_pos (IntKind.wrap .u64 n) (show (0 : Int) < (k : Int) by omega)
  obtain ⟨m, hm⟩ := Int.eq_ofNat_of_zero_le h1
  refine ⟨m, by omega, ?_⟩
  rw [hm]
  exact W_id (by omega) (by omega)

theorem tk_pos (N : Nat) : ∀ (n : Nat) (r : List UInt8) (ts : List Tok), r.length ≤ N → tk N n r = .inl ts → ∀ x ∈ ts, 0 ≤ x.at_ ∧ x.at_ ≤ N
  | 0, r, ts, _, h, x, hx => by simp only [tk, Sum.inl.injEq] at h; subst h; cases hx
  | n + 1, [], ts, _, h, x, hx => by simp only [tk, Sum.inl.injEq] at h; subst h; cases hx
  | n + 1, c :: r, ts, hN, h, x, hx => by
    simp only [tk] at h
    cases hn : next c r with
    | none => rw [hn] at h; cases h
    | some y =>
      rw [hn] at h
      simp only at h
      have hsl := (skip_suffix ((c :: r).drop y.2.length) false).length_le
      rw [List.length_drop] at hsl
      cases hk : tk N n (skip ((c :: r).drop y.2.length) false) with
      | inr p => rw [hk] at h; cases h
      | inl us =>
        rw [hk] at h
        simp only [Sum.inl.injEq] at h
        subst h
        rcases List.mem_cons.1 hx with rfl | hx
        · simp only [List.length_cons] at hN ⊢
          omega
        · exact tk_pos N n _ us (by omega) hk x hx

theorem blank_law (s : ByteArray) (n : Int) (t : ByteArray) (hs : s.size ≤ 140737488355328) (ht : t.size ≤ 140737488355328) : Evt fun k => ∀ (ρ : Type) K, (Tabs k).c6_0 ρ s n t K = K true := by
  rw [mk_of s] at hs ⊢
  rw [mk_of t] at ht ⊢
  generalize s.data.toList = l at *
  generalize t.data.toList = cs at *
  rw [mk_size] at hs ht
  have h11 := s11 l
  by_cases h6 : l.length ≤ 6000
  · have hle := (skip_suffix l false).length_le
    unfold toks at h11
    simp only [h6, decide_true, cond_true] at h11
    cases hk : tk l.length l.length (skip l false) with
    | inr p =>
      rw [hk] at h11
      refine (h11.and awake_ok).step fun k ⟨h1, h2⟩ ρ K => ?_
      rw [show (Tabs (k + 1)).c6_0 = Gc6_0 (Tabs k) from rfl]
      unfold Gc6_0
      refine (h1 ρ _).trans ?_
      have e : ((4 : Int) != 0) = true := rfl
      rw [e, cond_true]
      exact h2 ρ _
    | inl ts =>
      rw [hk] at h11
      have htl := tk_len _ _ _ _ hk
      have e0 : ((0 : Int) != 0) = false := rfl
      have hW : IntKind.wrap .i64 (((mk l).size : Int) + ((mk cs).size : Int)) = (l.length : Int) + cs.length := by
        rw [mk_size, mk_size]; exact W_id (by omega) (by omega)
      by_cases hb : l.length + cs.length > 5992
      · refine (h11.and awake_ok).step fun k ⟨h1, h2⟩ ρ K => ?_
        rw [show (Tabs (k + 1)).c6_0 = Gc6_0 (Tabs k) from rfl]
        unfold Gc6_0
        refine (h1 ρ _).trans ?_
        have e1 : decide ((l.length : Int) + cs.length > 5992) = true := by simp only [decide_eq_true_eq]; omega
        rw [e0, cond_false, hW, e1, cond_true]
        exact h2 ρ _
      · have hwl : (noLF cs).length ≤ cs.length := List.length_filter_le _ _
        have hil : (inn (noLF cs)).length = (noLF cs).length + 6 := by simp [inn]
        have hTl : (ts ++ [(⟨7, mk [], (l.length : Int)⟩ : Tok)]).length = ts.length + 1 := by simp
        obtain ⟨m, hm, hmod⟩ := u64_mod n (k := (ts ++ [(⟨7, mk [], (l.length : Int)⟩ : Tok)]).length) (by omega) (by omega)
        have hi : m ≤ ts.length := by omega
        obtain ⟨a, B, hla, hat, hto⟩ := toks_blank (l := l) (w := noLF cs) (ts := ts) (noLF_ne cs) (by omega) hk hi
        generalize hT : ts ++ [(⟨7, mk [], (l.length : Int)⟩ : Tok)] = T at *
        obtain ⟨x, hx, hxa⟩ := Option.map_eq_some_iff.1 hat
        have hrd : rdEl lay Key.tok T (m : Int) = x := rdEl_some (S := sig) (L := lay) (k := Key.tok) hx
        have hal : a.length ≤ l.length := by rw [hla]; simp
        have h11b := s11 (a ++ (inn (noLF cs) ++ B))
        rw [hto] at h11b
        have hkey : T.map keyT = (sh (inn (noLF cs)).length m T).map keyT := (sh_key _ m T (by omega)).symm
        have hlen : (sh (inn (noLF cs)).length m T).length = T.length := by have := congrArg List.length hkey; simpa using this.symm
        have h13 := s13k T (sh (inn (noLF cs)).length m T) hkey (by omega)
        have hpos : ∀ y ∈ T, 0 ≤ y.at_ ∧ y.at_ ≤ 6000 := by
          intro y hy
          rw [← hT] at hy
          rcases List.mem_append.1 hy with hy | hy
          · have := tk_pos _ _ _ _ hle hk y hy; omega
          · rcases List.mem_cons.1 hy with rfl | hy
            · simp only; omega
            · cases hy
        have h620 := s6_20 m (inn (noLF cs)).length (mk (inn (noLF cs))) (mk_size _) (by omega) T (sh (inn (noLF cs)).length m T) [] [] rfl hlen.symm (by rw [List.nil_append]; omega) (fun j u u' hu hu' => by
          have h1 := sh_at (inn (noLF cs)).length m T (by omega) j u u' hu hu'
          have h2 := hpos u (List.mem_of_getElem? hu)
          refine ⟨?_, h2⟩
          rw [h1]; simp)
        have h611 := s6_11 (mk l) (m : Int) T (cs := cs) (by omega) cs [] (List.suffix_refl cs) (by simp)
        rw [pos_all] at h611
        refine (h11.and (h611.and (h11b.and (h13.and (h620.and awake_ok))))).step fun k ⟨h1, h2, h3, h4, h5, h7⟩ ρ K => ?_
        rw [show (Tabs (k + 1)).c6_0 = Gc6_0 (Tabs k) from rfl]
        unfold Gc6_0
        refine (h1 ρ _).trans ?_
        have e1 : decide ((l.length : Int) + cs.length > 5992) = false := by simp only [decide_eq_false_iff_not]; omega
        have e2 : ((T.length : Int) == 0) = false := by simp only [beq_eq_false_iff_ne]; omega
        have e3 : (IntKind.wrap .u64 (T.length : Int) == 0) = false := by rw [u64_small (by omega)]; exact e2
        have e4 : decide ((0 : Int) ≤ (m : Int)) = true := by simp
        have e5 : decide ((m : Int) < (T.length : Int)) = true := by simp only [decide_eq_true_eq]; omega
        have e6 : decide ((a.length : Int) < 0) = false := by simp
        have e7 : decide ((a.length : Int) > ((mk l).size : Int)) = false := by rw [mk_size]; simp; omega
        simp only [hT, e0, cond_false, hW, e1, e2, e3, hmod, e4, e5, Bool.and_self, cond_true, hrd, hxa, e6, e7]
        refine (h2 ρ _).trans ?_
        simp only [List.nil_append]
        refine (bytes_eq _ _).trans ?_
        have a1 : (ByteArray.mk #[9, 32, 37, 32]) ++ mk (noLF cs) = mk (9 :: 32 :: 37 :: 32 :: noLF cs) := mk_append [9, 32, 37, 32] (noLF cs)
        have a2 : mk (9 :: 32 :: 37 :: 32 :: noLF cs) ++ (ByteArray.mk #[10, 13]) = mk (inn (noLF cs)) := by
          rw [show (ByteArray.mk #[10, 13]) = mk [10, 13] from rfl, mk_append]; rfl
        have a3 : (ByteArray.mk #[9, 32, 37, 32]).size = 4 := rfl
        have a4 : (ByteArray.mk #[10, 13]).size = 2 := rfl
        have x1 : ByteArray.extract (mk l) (Int.toNat 0) (Int.toNat (a.length : Int)) = mk a := by
          rw [mk_extract, Int.toNat_natCast, hla]; simp
        have x2 : ByteArray.extract (mk l) (Int.toNat (a.length : Int)) (Int.toNat ((mk l).size : Int)) = mk B := by
          rw [mk_extract, mk_size, Int.toNat_natCast, Int.toNat_natCast, List.take_of_length_le (Nat.le_refl _)]
          rw [hla, List.drop_left]
        have x3 : mk a ++ mk (inn (noLF cs)) ++ mk B = mk (a ++ (inn (noLF cs) ++ B)) := by rw [mk_append, mk_append, List.append_assoc]
        have hBl : B.length ≤ l.length := by rw [hla]; simp
        have f1 : decide ((4 : Nat) + (mk (noLF cs)).size ≤ 9223372036854775807) = true := by rw [mk_size]; simp; omega
        have f2 : decide ((mk (9 :: 32 :: 37 :: 32 :: noLF cs)).size + 2 ≤ 9223372036854775807) = true := by rw [mk_size]; simp; omega
        have f3 : decide ((0 : Int) ≤ (a.length : Int)) = true := by simp
        have f4 : decide ((a.length : Int) ≤ ((mk l).size : Int)) = true := by rw [mk_size]; simp; omega
        have f5 : decide ((mk a).size + (mk (inn (noLF cs))).size ≤ 9223372036854775807) = true := by rw [mk_size, mk_size]; simp; omega
        have f6 : decide ((mk a ++ mk (inn (noLF cs))).size + (mk B).size ≤ 9223372036854775807) = true := by rw [mk_append, mk_size, mk_size]; simp; omega
        have f7 : decide (((mk l).size : Int) ≤ ((mk l).size : Int)) = true := by simp
        have f8 : decide ((0 : Int) ≤ 0) = true := by decide
        simp only [a1, a2, a3, a4, f1, f2, e4, e5, hrd, hxa, f3, f4, f7, f8, Bool.and_self, cond_true, x1, x2, f5, f6, x3, h3, e0, cond_false, h4, Bool.not_true]
        refine (h5 ρ _ _).trans ?_
        exact h7 ρ _
  · unfold toks at h11
    simp only [h6, decide_false, cond_false] at h11
    refine (h11.and awake_ok).step fun k ⟨h1, h2⟩ ρ K => ?_
    rw [show (Tabs (k + 1)).c6_0 = Gc6_0 (Tabs k) from rfl]
    unfold Gc6_0
    refine (h1 ρ _).trans ?_
    have e : ((5 : Int) != 0) = true := rfl
    rw [e, cond_true]
    exact h2 ρ _

end Go.Proofs.YtdhpgcjhiommkaaDoor.Ev
