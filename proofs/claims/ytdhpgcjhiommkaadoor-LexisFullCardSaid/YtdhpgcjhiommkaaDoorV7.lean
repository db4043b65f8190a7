/- This file proves that lists of tokens are compared, that the first examples come out, and what LexisTokens answers; without any condition. -/
import Derived.Test.YtdhpgcjhiommkaaDoorV6
set_option linter.unusedVariables false
set_option linter.unusedSimpArgs false
namespace Go.Proofs.YtdhpgcjhiommkaaDoor.Ev

theorem rdEl_mid {S : Sig} {L : Lay S} {k : S.K} (pre : List (S.El k)) (x : S.El k) (post : List (S.El k)) {n : Int} (h : n = (pre.length : Int)) : rdEl L k (pre ++ x :: post) n = x := by
  subst h
  simp [rdEl, List.getD]
theorem rdTok (pre : List Tok) (x : Tok) (post : List Tok) : rdEl lay Key.tok (pre ++ x :: post) (pre.length : Int) = x := rdEl_mid (S := sig) (L := lay) (k := Key.tok) pre x post rfl

/-- Equal lists are found equal. -/
theorem s13_4 : ∀ (b : Bool) (pre r : List Tok), (pre ++ r).length ≤ 1000000 →
    Evt fun k => ∀ (ρ : Type) k0 k1, (Tabs k).l13_4_0 ρ (pre ++ r) (pre ++ r) b ((pre ++ r).length : Int) (pre.length : Int) k0 k1 = k1
  | b, pre, [], h => Evt.step0 fun k ρ k0 k1 => by
    rw [show (Tabs (k + 1)).l13_4_0 = Gl13_4_0 (Tabs k) from rfl]
    unfold Gl13_4_0
    have : decide ((pre.length : Int) < ((pre ++ []).length : Int)) = false := by simp
    simp only [this, cond_false]
  | b, pre, x :: r, h => by
    have hl : pre ++ x :: r = (pre ++ [x]) ++ r := by simp
    have ih := s13_4 b (pre ++ [x]) r (by rw [← hl]; exact h)
    rw [← hl] at ih
    refine ih.step fun k ih ρ k0 k1 => ?_
    rw [show (Tabs (k + 1)).l13_4_0 = Gl13_4_0 (Tabs k) from rfl]
    unfold Gl13_4_0
    have e1 : decide ((pre.length : Int) < ((pre ++ x :: r).length : Int)) = true := by simp; omega
    have e2 : decide ((0 : Int) ≤ (pre.length : Int)) = true := by simp
    have e3 : IntKind.wrap .i64 ((pre.length : Int) + 1) = ((pre ++ [x]).length : Int) := by
      have : pre.length ≤ 1000000 := by simp at h; omega
      rw [W_id (by omega) (by omega)]; simp
    have e4 : strEq x.text x.text = true := by simp [strEq]
    simp only [e1, e2, Bool.and_self, cond_true, rdTok, bne_self_eq_false, cond_false, e4, Bool.not_true, e3, ih]
    cases b <;> rfl

theorem s13 (b : Bool) (r : List Tok) (h : r.length ≤ 1000000) : Evt fun k => ∀ (ρ : Type) k0, (Tabs k).c13_0 ρ r r b k0 = k0 true := (s13_4 b [] r h).step fun k ih ρ k0 => by
  rw [show (Tabs (k + 1)).c13_0 = Gc13_0 (Tabs k) from rfl]
  unfold Gc13_0
  simp only [bne_self_eq_false, cond_false]
  exact ih ρ _ _

theorem toks_len (l : List UInt8) : (toks l).1.length ≤ 1000000 := by
  unfold toks
  by_cases h : l.length ≤ 6000
  · simp only [h, decide_true, cond_true]
    cases ht : tk l.length l.length (skip l false) with
    | inl ts =>
      have := tk_len _ _ _ _ ht
      have := (skip_suffix l false).length_le
      simp; omega
    | inr p => simp
  · simp [h]

def awake1 : List UInt8 := [115, 32, 58, 32, 110, 97, 116, 32, 45, 62, 32, 110, 97, 116, 46, 32, 37, 32, 115, 117, 99, 99, 101, 115, 115, 111, 114]
def awake2 : List UInt8 := [97, 60, 98]

theorem aw1 : toks awake1 = ([⟨1, mk [115], 0⟩, ⟨4, mk [58], 2⟩, ⟨1, mk [110, 97, 116], 4⟩, ⟨4, mk [45, 62], 8⟩, ⟨1, mk [110, 97, 116], 11⟩, ⟨4, mk [46], 14⟩, ⟨7, mk [], 27⟩], 0, 0) := by kernel_rfl
theorem aw2 : toks awake2 = ([], 1, 4) := by kernel_rfl

theorem awake_ok : Evt fun k => ∀ (ρ : Type) k0, (Tabs k).c14_0 ρ k0 = k0 true := ((s11 awake1).and (s11 awake2)).step fun k ⟨h1, h2⟩ ρ k0 => by
  rw [show (Tabs (k + 1)).c14_0 = Gc14_0 (Tabs k) from rfl]
  unfold Gc14_0
  refine (h1 ρ _).trans ?_
  refine (h2 ρ _).trans ?_
  rw [aw1, aw2]
  kernel_rfl

theorem tokens_law (s : ByteArray) : Evt fun k => ∀ (ρ : Type) K, (Tabs k).c3_0 ρ s K = K true := by
  rw [mk_of s]
  generalize s.data.toList = l
  refine ((s11 l).and ((s12 l).and ((s13 true (toks l).1 (toks_len l)).and awake_ok))).step fun k ⟨h1, h2, h3, h4⟩ ρ K => ?_
  rw [show (Tabs (k + 1)).c3_0 = Gc3_0 (Tabs k) from rfl]
  unfold Gc3_0
  simp only [h1, h2, h3, h4, beq_self_eq_true, cond_true]

end Go.Proofs.YtdhpgcjhiommkaaDoor.Ev
