/- This file proves what LexisJoins answers, for lists of tokens that fit the machine. -/
import Derived.Test.YtdhpgcjhiommkaaDoorV12
set_option linter.unusedVariables false
set_option linter.unusedSimpArgs false
namespace Go.Proofs.YtdhpgcjhiommkaaDoor.Ev

def txt (t : Tok) : List UInt8 := t.text.data.toList
theorem txt_mk (t : Tok) : mk (txt t) = t.text := (mk_of t.text).symm
def isT (t : Tok) : Bool := isTok t.kind (txt t)
/-- The tokens but for ends. -/
def live (ts : List Tok) : List Tok := ts.filter fun t => !(t.kind == 7)

theorem s32T (x : Tok) : Evt fun n => ∀ (ρ : Type) k0, (Tabs n).c32_0 ρ ⟨x.kind, x.text, x.at_⟩ k0 = k0 (isT x) := by
  have := s32 x.kind (txt x) x.at_
  rwa [txt_mk] at this
theorem s34T (x : Tok) (h : x.text.size ≤ 140737488355328) : Evt fun n => ∀ (ρ : Type) k0, (Tabs n).c34_0 ρ ⟨x.kind, x.text, x.at_⟩ k0 = k0 (isT x) := by
  have := s34 x.kind (txt x) x.at_ (by rw [← txt_mk x, mk_size] at h; exact h)
  rwa [txt_mk] at this

theorem isT_len {x : Tok} (h : isT x = true) (h7 : (x.kind == 7) = false) : (txt x).length ≤ 17 := by
  obtain ⟨c, r, hw, _, h2⟩ := isTok_spec h (by simpa using h7)
  rw [hw]
  exact next_len h2

section
variable {all : List Tok} (hall : all.length * 32 ≤ 140737488351232)
include hall

theorem s19_3 : ∀ (ts pre : List Tok) (acc : List ByteArray), all = pre ++ ts → acc.length ≤ pre.length →
    Evt fun n => ∀ (ρ : Type) k0 k1, (Tabs n).l19_3_0 ρ acc all (all.length : Int) (pre.length : Int) k0 k1 = bif ts.all isT then k0 (acc ++ (live ts).map (·.text)) else k1 (ByteArray.mk #[]) 2
  | [], pre, acc, h, ha => Evt.step0 fun n ρ k0 k1 => by
    rw [show (Tabs (n + 1)).l19_3_0 = Gl19_3_0 (Tabs n) from rfl]
    unfold Gl19_3_0
    have : decide ((pre.length : Int) < (all.length : Int)) = false := by rw [h]; simp
    simp only [this, cond_false]
    simp [live]
  | x :: r, pre, acc, h, ha => by
    have h2 : all = (pre ++ [x]) ++ r := by rw [h]; simp
    have hlen : all.length = pre.length + 1 + r.length := by rw [h2]; simp; omega
    have hrd : rdEl lay Key.tok all (pre.length : Int) = x := by rw [h]; exact rdTok pre x r
    have e1 : decide ((pre.length : Int) < (all.length : Int)) = true := by simp only [decide_eq_true_eq]; omega
    have e2 : decide ((0 : Int) ≤ (pre.length : Int)) = true := by simp
    have e3 : IntKind.wrap .i64 ((pre.length : Int) + 1) = ((pre ++ [x]).length : Int) := by rw [W_id (by omega) (by omega)]; simp
    refine ((s32T x).and ((s19_3 r (pre ++ [x]) acc h2 (by simp; omega)).and (s19_3 r (pre ++ [x]) (acc ++ [x.text]) h2 (by simp; omega)))).step fun n ⟨h3, h4, h5⟩ ρ k0 k1 => ?_
    rw [show (Tabs (n + 1)).l19_3_0 = Gl19_3_0 (Tabs n) from rfl]
    unfold Gl19_3_0
    have e4 : decide ((List.length acc + List.length [x.text]) * 16 ≤ 140737488355328) = true := by simp only [List.length_cons, List.length_nil, decide_eq_true_eq]; omega
    simp only [e1, e2, Bool.and_self, cond_true, hrd, h3, e3, h4, h5, e4, List.all_cons, live, List.filter_cons, bne]
    cases isT x with
    | false => rfl
    | true => cases (x.kind == 7) <;> simp [live]

theorem s8_9 (s : ByteArray) : ∀ (ts pre acc : List Tok), all = pre ++ ts → acc.length ≤ pre.length →
    Evt fun n => ∀ (ρ : Type) k0, (Tabs n).l8_9_0 ρ s acc all (all.length : Int) (pre.length : Int) k0 = k0 s (acc ++ live ts)
  | [], pre, acc, h, ha => Evt.step0 fun n ρ k0 => by
    rw [show (Tabs (n + 1)).l8_9_0 = Gl8_9_0 (Tabs n) from rfl]
    unfold Gl8_9_0
    have : decide ((pre.length : Int) < (all.length : Int)) = false := by rw [h]; simp
    simp only [this, cond_false]
    simp [live]
  | x :: r, pre, acc, h, ha => by
    have h2 : all = (pre ++ [x]) ++ r := by rw [h]; simp
    have hlen : all.length = pre.length + 1 + r.length := by rw [h2]; simp; omega
    have hrd : rdEl lay Key.tok all (pre.length : Int) = x := by rw [h]; exact rdTok pre x r
    have e1 : decide ((pre.length : Int) < (all.length : Int)) = true := by simp only [decide_eq_true_eq]; omega
    have e2 : decide ((0 : Int) ≤ (pre.length : Int)) = true := by simp
    have e3 : IntKind.wrap .i64 ((pre.length : Int) + 1) = ((pre ++ [x]).length : Int) := by rw [W_id (by omega) (by omega)]; simp
    refine ((s8_9 s r (pre ++ [x]) acc h2 (by simp; omega)).and (s8_9 s r (pre ++ [x]) (acc ++ [x]) h2 (by simp; omega))).step fun n ⟨h4, h5⟩ ρ k0 => ?_
    rw [show (Tabs (n + 1)).l8_9_0 = Gl8_9_0 (Tabs n) from rfl]
    unfold Gl8_9_0
    have e4 : decide ((List.length acc + List.length [x]) * 32 ≤ 140737488355328) = true := by simp only [List.length_cons, List.length_nil, decide_eq_true_eq]; omega
    have e5 : (⟨x.kind, x.text, x.at_⟩ : Tok) = x := rfl
    simp only [e1, e2, Bool.and_self, cond_true, hrd, e3, e5, h4, h5, e4, live, List.filter_cons, bne]
    cases (x.kind == 7) <;> simp [live]

end

/-- A string's bytes as numbers. -/
def ints (w : List UInt8) : List Int := w.map fun b => (b.toNat : Int)
theorem ints_append (a b : List UInt8) : ints (a ++ b) = ints a ++ ints b := by simp [ints]
theorem ints_len (a : List UInt8) : (ints a).length = a.length := by simp [ints]

theorem appStr_eq {ρ : Type} (s : ByteArray) (f : List Int → Option ρ) : appStrK s f = f (ints s.data.toList) := by
  have : newEls lay Key.u8 (.d (.str s)) = some (ints s.data.toList) := by
    show (s.data.toList.mapM fun b => (some (b.toNat : Int) : Option Int)) = _
    unfold ints
    induction s.data.toList with
    | nil => rfl
    | cons b l ih => rw [List.mapM_cons, ih]; rfl
  unfold appStrK
  rw [this]

theorem byteList_eq : ∀ l : List Int, byteList (l.map (lay.cells Key.u8)) = some l
  | [] => rfl
  | n :: l => by
    show (byteList (l.map (lay.cells Key.u8))).map (n :: ·) = _
    rw [byteList_eq l]; rfl

theorem strOf_ints (w : List UInt8) : strOf (ints w) = mk w := by
  have : ∀ (w : List UInt8) (acc : List UInt8), (ints w).foldl (fun r n => r.push (UInt8.ofNat n.toNat)) (mk acc) = mk (acc ++ w) := by
    intro w
    induction w with
    | nil => intro acc; simp [ints]
    | cons b w ih =>
      intro acc
      show (ints w).foldl _ ((mk acc).push (UInt8.ofNat ((b.toNat : Int)).toNat)) = _
      have : (mk acc).push (UInt8.ofNat ((b.toNat : Int)).toNat) = mk (acc ++ [b]) := by
        have hb : UInt8.ofNat ((b.toNat : Int)).toNat = b := by simp
        rw [hb]
        apply ByteArray.ext
        simp [ByteArray.push]
      rw [this, ih]
      simp
  exact this w []

theorem bytes_eq {ρ : Type} (w : List UInt8) (f : ByteArray → Option ρ) : bytesK (ints w) f = f (mk w) := by
  unfold bytesK
  rw [byteList_eq]
  show f (strOf (ints w)) = _
  rw [strOf_ints]

def tailT (ws : List (List UInt8)) : List UInt8 := (ws.map (32 :: ·)).flatten
theorem joinT_tail : ∀ (w : List UInt8) (r : List (List UInt8)), joinT (w :: r) = w ++ tailT r
  | w, [] => by simp [joinT, tailT]
  | w, v :: r => by
    show w ++ 32 :: joinT (v :: r) = _
    rw [joinT_tail v r]
    simp [tailT]

section
variable {all : List Tok} (hall : all.length * 32 ≤ 140737488351232) (htx : ∀ x ∈ all, x.text.size ≤ 140737488355328)
include hall htx

theorem s20_4 : ∀ (ts pre : List Tok) (acc : List Int) (first : Bool), all = pre ++ ts → acc.length ≤ 18 * pre.length →
    Evt fun n => ∀ (ρ : Type) k0 k1, (Tabs n).l20_4_0 ρ acc first all (all.length : Int) (pre.length : Int) k0 k1 =
      bif ts.all isT then k0 (acc ++ ints (bif first then joinT ((live ts).map txt) else tailT ((live ts).map txt))) else k1 (ByteArray.mk #[]) 2
  | [], pre, acc, first, h, ha => Evt.step0 fun n ρ k0 k1 => by
    rw [show (Tabs (n + 1)).l20_4_0 = Gl20_4_0 (Tabs n) from rfl]
    unfold Gl20_4_0
    have : decide ((pre.length : Int) < (all.length : Int)) = false := by rw [h]; simp
    simp only [this, cond_false]
    cases first <;> simp [live, joinT, tailT, ints]
  | x :: r, pre, acc, first, h, ha => by
    have h2 : all = (pre ++ [x]) ++ r := by rw [h]; simp
    have hlen : all.length = pre.length + 1 + r.length := by rw [h2]; simp; omega
    have hrd : rdEl lay Key.tok all (pre.length : Int) = x := by rw [h]; exact rdTok pre x r
    have e1 : decide ((pre.length : Int) < (all.length : Int)) = true := by simp only [decide_eq_true_eq]; omega
    have e2 : decide ((0 : Int) ≤ (pre.length : Int)) = true := by simp
    have e3 : IntKind.wrap .i64 ((pre.length : Int) + 1) = ((pre ++ [x]).length : Int) := by rw [W_id (by omega) (by omega)]; simp
    have h34 := s34T x (htx x (by rw [h]; simp))
    cases hx : isT x with
    | false =>
      refine h34.step fun n h3 ρ k0 k1 => ?_
      rw [show (Tabs (n + 1)).l20_4_0 = Gl20_4_0 (Tabs n) from rfl]
      unfold Gl20_4_0
      simp only [e1, e2, Bool.and_self, cond_true, hrd, h3, hx, List.all_cons, Bool.false_and, Bool.not_false, cond_false]
    | true =>
      cases h7 : (x.kind == 7) with
      | true =>
        refine (h34.and (s20_4 r (pre ++ [x]) acc first h2 (by simp; omega))).step fun n ⟨h3, h4⟩ ρ k0 k1 => ?_
        rw [show (Tabs (n + 1)).l20_4_0 = Gl20_4_0 (Tabs n) from rfl]
        unfold Gl20_4_0
        simp only [e1, e2, Bool.and_self, cond_true, hrd, h3, hx, h7, e3, h4, List.all_cons, Bool.true_and, Bool.not_true, cond_false, live, List.filter_cons, Bool.false_eq_true, if_false]
      | false =>
        have h17 := isT_len hx h7
        have hd : x.text.data.toList = txt x := rfl
        cases first with
        | true =>
          refine (h34.and (s20_4 r (pre ++ [x]) (acc ++ ints (txt x)) false h2 (by simp [ints_len]; omega))).step fun n ⟨h3, h4⟩ ρ k0 k1 => ?_
          rw [show (Tabs (n + 1)).l20_4_0 = Gl20_4_0 (Tabs n) from rfl]
          unfold Gl20_4_0
          have e4 : decide ((List.length acc + List.length (ints (txt x))) * 1 ≤ 140737488355328) = true := by rw [ints_len]; simp only [decide_eq_true_eq]; omega
          simp only [e1, e2, Bool.and_self, cond_true, hrd, h3, hx, h7, e3, h4, appStr_eq, hd, e4, List.all_cons, Bool.true_and, Bool.not_true, cond_false, live, List.filter_cons, Bool.not_false, if_true, List.map_cons, joinT_tail, ints_append, List.append_assoc]
        | false =>
          refine (h34.and (s20_4 r (pre ++ [x]) ((acc ++ [32]) ++ ints (txt x)) false h2 (by simp [ints_len]; omega))).step fun n ⟨h3, h4⟩ ρ k0 k1 => ?_
          rw [show (Tabs (n + 1)).l20_4_0 = Gl20_4_0 (Tabs n) from rfl]
          unfold Gl20_4_0
          have e4 : decide ((List.length acc + List.length [(32 : Int)]) * 1 ≤ 140737488355328) = true := by simp only [List.length_cons, List.length_nil, decide_eq_true_eq]; omega
          have e5 : decide ((List.length (acc ++ [(32 : Int)]) + List.length (ints (txt x))) * 1 ≤ 140737488355328) = true := by rw [ints_len]; simp only [List.length_append, List.length_cons, List.length_nil, decide_eq_true_eq]; omega
          have e6 : tailT (txt x :: (live r).map txt) = 32 :: (txt x ++ tailT ((live r).map txt)) := by simp [tailT]
          have e7 : ∀ q : List UInt8, ints (32 :: q) = 32 :: ints q := fun q => rfl
          simp only [e1, e2, Bool.and_self, cond_true, hrd, h3, hx, h7, e3, h4, appStr_eq, hd, e4, e5, List.all_cons, Bool.true_and, Bool.not_true, cond_false, live, List.filter_cons, Bool.not_false, if_true, List.map_cons]
          have e6' := e6
          unfold live at e6'
          rw [e6', e7, ints_append]
          simp

end
end Go.Proofs.YtdhpgcjhiommkaaDoor.Ev
