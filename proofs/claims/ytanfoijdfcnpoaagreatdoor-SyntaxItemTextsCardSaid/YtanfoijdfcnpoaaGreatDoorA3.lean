/- This file proves that an argument that is an item is read as a typed value; without any condition. -/
import Derived.Test.YtanfoijdfcnpoaaGreatDoorA2
import Derived.Test.YtanfoijdfcnpoaaGreatDoorJA
set_option linter.unusedVariables false
set_option linter.unusedSimpArgs false
namespace Go.Proofs.YtanfoijdfcnpoaaGreatDoor.Ev

theorem pts_ok {l : List Pt} (h : VOk Tryz.prog lay (.sl Key.part l)) : l.length * 120 ≤ 140737488351232 ∧ ∀ x ∈ l, VOk Tryz.prog lay (.str x.sign) ∧ VOk Tryz.prog lay (.str x.name) ∧ VOk Tryz.prog lay (.str x.raw.name) ∧ VOk Tryz.prog lay (.sl Key.raw x.raw.args) ∧ VOk Tryz.prog lay (.sl Key.part x.parts) := by
  have key : ∀ {x : DV sig}, VOk Tryz.prog lay x → x = .sl Key.part l → l.length * 120 ≤ 140737488351232 ∧ ∀ x ∈ l, VOk Tryz.prog lay (.str x.sign) ∧ VOk Tryz.prog lay (.str x.name) ∧ VOk Tryz.prog lay (.str x.raw.name) ∧ VOk Tryz.prog lay (.sl Key.raw x.raw.args) ∧ VOk Tryz.prog lay (.sl Key.part x.parts) := by
    intro x hx
    cases hx with
    | bool b => intro h; cases h
    | int k n _ => intro h; cases h
    | str s _ => intro h; cases h
    | sl e k l' hk hl hcs =>
      intro h
      cases h
      have he : e = 98 := by
        rcases key_inv hk with ⟨_, h⟩ | ⟨_, h⟩ | ⟨_, h⟩ | ⟨_, h⟩ | ⟨_, h⟩ | ⟨h, _⟩ | ⟨_, h⟩ <;> first | exact h | cases h
      subst he
      have hb : Tryz.prog.bytesOf 98 = 120 := by kernel_rfl
      rw [hb] at hl
      have c : ∀ x : Pt, lay.cells Key.part x = [.int .i64 x.op, .str x.sign, .str x.name, .int .i64 x.num, .int .i64 x.raw.op, .str x.raw.name, .sl Key.raw x.raw.args, .sl Key.part x.parts] := fun _ => rfl
      exact ⟨hl, fun x hx => ⟨hcs x hx _ (by rw [c]; simp), hcs x hx _ (by rw [c]; simp), hcs x hx _ (by rw [c]; simp), hcs x hx _ (by rw [c]; simp), hcs x hx _ (by rw [c]; simp)⟩⟩
  exact key h rfl

theorem pt_ok (t : Pt) : VOk Tryz.prog lay (.str t.sign) → VOk Tryz.prog lay (.str t.name) → VOk Tryz.prog lay (.str t.raw.name) → VOk Tryz.prog lay (.sl Key.raw t.raw.args) → VOk Tryz.prog lay (.sl Key.part t.parts) → t.Ok := by
  induction t using Pt.ind with
  | h o s nm n r l ih =>
    intro h1 h2 h3 h4 h5
    obtain ⟨h6, h7⟩ := pts_ok h5
    exact .mk o s nm n r l (str_ok h1) (str_ok h2) (rw_ok r h3 h4) h6 fun x hx => by
      obtain ⟨a1, a2, a3, a4, a5⟩ := h7 x hx
      exact ih x hx a1 a2 a3 a4 a5

theorem arg_item {p : PV sig} (h : Arg Tryz.prog lay 52 p) : ∃ t : It, p = .agg [.d (.str t.word), .d (.str t.name), .d (.int .i64 t.raw.op), .d (.str t.raw.name), .d (.sl Key.raw t.raw.args), .d (.sl Key.part t.parts)] ∧ t.Ok := by
  obtain ⟨ds, h1, h2, rfl⟩ := arg_of h (b := true) (ts := [.string, .string, .int .i64, .string, .slice 24, .slice 98]) (by kernel_rfl) (by kernel_rfl)
  obtain ⟨d0, r0, rfl, e0, hd⟩ := alls_cons h1
  obtain ⟨d1, r1, rfl, e1, hd⟩ := alls_cons hd
  obtain ⟨d2, r2, rfl, e2, hd⟩ := alls_cons hd
  obtain ⟨d3, r3, rfl, e3, hd⟩ := alls_cons hd
  obtain ⟨d4, r4, rfl, e4, hd⟩ := alls_cons hd
  obtain ⟨d5, r5, rfl, e5, hd⟩ := alls_cons hd
  cases alls_nil hd
  obtain ⟨a0, rfl⟩ := dv_str e0
  obtain ⟨a1, rfl⟩ := dv_str e1
  obtain ⟨a2, rfl⟩ := dv_int e2
  obtain ⟨a3, rfl⟩ := dv_str e3
  obtain ⟨a4, rfl⟩ := dv_raws e4
  obtain ⟨a5, rfl⟩ := dv_parts e5
  have g0 := h2 (.str a0) (by simp)
  have g1 := h2 (.str a1) (by simp)
  have g3 := h2 (.str a3) (by simp)
  have g4 := h2 (.sl Key.raw a4) (by simp)
  have g5 := h2 (.sl Key.part a5) (by simp)
  obtain ⟨p1, p2⟩ := pts_ok g5
  exact ⟨⟨a0, a1, ⟨a2, a3, a4⟩, a5⟩, rfl, str_ok g0, str_ok g1, rw_ok _ g3 g4, p1, fun x hx => by
    obtain ⟨b1, b2, b3, b4, b5⟩ := p2 x hx
    exact pt_ok x b1 b2 b3 b4 b5⟩

end Go.Proofs.YtanfoijdfcnpoaaGreatDoor.Ev
