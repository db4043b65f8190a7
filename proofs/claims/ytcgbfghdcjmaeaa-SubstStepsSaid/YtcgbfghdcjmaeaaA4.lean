/- This file proves how layer 4's arguments are read as typed values; without any condition. -/
import Derived.Test.YtcgbfghdcjmaeaaD4
import Derived.Test.YtcgbfghdcjmaeaaSh
import Derived.Test.YtcgbfghdcjmaeaaChecked
set_option linter.unusedVariables false
set_option linter.unusedSimpArgs false
namespace Go.Proofs.Ytcgbfghdcjmaeaa.Ev
open Go.Proofs

theorem ownT : ownKnob Try.prog.godebug = none := by kernel_rfl
theorem laidT : laidOutB Try.prog = true := by kernel_rfl

theorem dv_int {d : DV sig} {k : IntKind} (h : DvT lay (.int k) d) : ∃ n, d = .int k n := by cases h; exact ⟨_, rfl⟩
theorem dv_tms {d : DV sig} (h : DvT lay (.slice 24) d) : ∃ l : List Tm, d = .sl Key.tm l := by
  cases h with
  | sl e k l hk =>
    have : some Key.tm = some k := hk
    cases this
    exact ⟨l, rfl⟩
theorem dv_sms {d : DV sig} (h : DvT lay (.slice 27) d) : ∃ l : List Sm, d = .sl Key.sm l := by
  cases h with
  | sl e k l hk =>
    have : some Key.sm = some k := hk
    cases this
    exact ⟨l, rfl⟩

theorem alls_cons {α β : Type} {R : α → β → Prop} {a : α} {l : List α} {ds : List β} (h : Alls R (a :: l) ds) : ∃ d r, ds = d :: r ∧ R a d ∧ Alls R l r := by
  cases h with
  | cons h1 h2 => exact ⟨_, _, rfl, h1, h2⟩
theorem alls_nil {α β : Type} {R : α → β → Prop} {ds : List β} (h : Alls R [] ds) : ds = [] := by cases h; rfl

theorem reads4 : Reads Try.prog lay where
  key e k h := by
    have h' : (bif Nat.beq e 24 then some Key.tm else bif Nat.beq e 27 then some Key.sm else bif Nat.beq e 3 then some Key.int else none) = some k := h
    cases h1 : Nat.beq e 24 with
    | true =>
      have := Nat.eq_of_beq_eq_true h1
      subst this
      rw [h1] at h'; cases h'
      refine ⟨[.int .i64, .int .i64, .int .i64, .slice 24], by kernel_rfl, by kernel_rfl, by kernel_rfl, by show 1 ≤ 4; omega, fun ds hd => ?_⟩
      obtain ⟨d0, r0, rfl, e0, hd⟩ := alls_cons hd
      obtain ⟨d1, r1, rfl, e1, hd⟩ := alls_cons hd
      obtain ⟨d2, r2, rfl, e2, hd⟩ := alls_cons hd
      obtain ⟨d3, r3, rfl, e3, hd⟩ := alls_cons hd
      cases alls_nil hd
      obtain ⟨a, rfl⟩ := dv_int e0
      obtain ⟨b, rfl⟩ := dv_int e1
      obtain ⟨c, rfl⟩ := dv_int e2
      obtain ⟨l, rfl⟩ := dv_tms e3
      exact ⟨(⟨a, b, c, l⟩ : Tm), rfl⟩
    | false =>
    cases h2 : Nat.beq e 27 with
    | true =>
      have := Nat.eq_of_beq_eq_true h2
      subst this
      rw [h1, h2] at h'; cases h'
      refine ⟨[.slice 27, .int .i64], by kernel_rfl, by kernel_rfl, by kernel_rfl, by show 1 ≤ 2; omega, fun ds hd => ?_⟩
      obtain ⟨d0, r0, rfl, e0, hd⟩ := alls_cons hd
      obtain ⟨d1, r1, rfl, e1, hd⟩ := alls_cons hd
      cases alls_nil hd
      obtain ⟨l, rfl⟩ := dv_sms e0
      obtain ⟨a, rfl⟩ := dv_int e1
      exact ⟨(⟨l, a⟩ : Sm), rfl⟩
    | false =>
    cases h3 : Nat.beq e 3 with
    | true =>
      have := Nat.eq_of_beq_eq_true h3
      subst this
      rw [h1, h2, h3] at h'; cases h'
      refine ⟨[.int .i64], by kernel_rfl, by kernel_rfl, by kernel_rfl, by show 1 ≤ 1; omega, fun ds hd => ?_⟩
      obtain ⟨d0, r0, rfl, e0, hd⟩ := alls_cons hd
      cases alls_nil hd
      obtain ⟨a, rfl⟩ := dv_int e0
      exact ⟨(a : Int), rfl⟩
    | false => rw [h1, h2, h3] at h'; cases h'

theorem arg_of {t : TypeId} {p : PV sig} (h : Arg Try.prog lay t p) {b : Bool} {ts : List TypeDesc} (h1 : aggT Try.prog t = some b) (h2 : flat Try.prog 8 t = some ts) :
    ∃ ds, Alls (DvT lay) ts ds ∧ (∀ d ∈ ds, VOk Try.prog lay d) ∧ p = argP b ds := by
  obtain ⟨b', ts', ds, e1, e2, e3, e4, e5⟩ := h
  rw [h1] at e1; cases e1
  rw [h2] at e2; cases e2
  exact ⟨ds, e3, e4, e5⟩

/-- A list of terms that was read takes no more bytes than there are addresses. -/
theorem tms_len {l : List Tm} (h : VOk Try.prog lay (.sl Key.tm l)) : l.length * 48 ≤ 140737488351232 := by
  have key : ∀ {x : DV sig}, VOk Try.prog lay x → x = .sl Key.tm l → l.length * 48 ≤ 140737488351232 := by
    intro x hx
    cases hx with
    | bool b => intro h; cases h
    | int k n _ => intro h; cases h
    | str s _ => intro h; cases h
    | sl e k l' hk hl _ =>
      intro h
      cases h
      have h24 : e = 24 := by
        have h' : (bif Nat.beq e 24 then some Key.tm else bif Nat.beq e 27 then some Key.sm else bif Nat.beq e 3 then some Key.int else none) = some Key.tm := hk
        cases h1 : Nat.beq e 24 with
        | true => exact Nat.eq_of_beq_eq_true h1
        | false =>
          rw [h1] at h'
          cases h2 : Nat.beq e 27 with
          | true => rw [h2] at h'; cases h'
          | false =>
            rw [h2] at h'
            cases h3 : Nat.beq e 3 with
            | true => rw [h3] at h'; cases h'
            | false => rw [h3] at h'; cases h'
      subst h24
      have hb : Try.prog.bytesOf 24 = 48 := by kernel_rfl
      rw [hb] at hl
      exact hl
  exact key h rfl

theorem sms_len {l : List Sm} (h : VOk Try.prog lay (.sl Key.sm l)) : l.length * 32 ≤ 140737488351232 := by
  have key : ∀ {x : DV sig}, VOk Try.prog lay x → x = .sl Key.sm l → l.length * 32 ≤ 140737488351232 := by
    intro x hx
    cases hx with
    | bool b => intro h; cases h
    | int k n _ => intro h; cases h
    | str s _ => intro h; cases h
    | sl e k l' hk hl _ =>
      intro h
      cases h
      have h27 : e = 27 := by
        have h' : (bif Nat.beq e 24 then some Key.tm else bif Nat.beq e 27 then some Key.sm else bif Nat.beq e 3 then some Key.int else none) = some Key.sm := hk
        cases h1 : Nat.beq e 24 with
        | true => rw [h1] at h'; cases h'
        | false =>
          rw [h1] at h'
          cases h2 : Nat.beq e 27 with
          | true => exact Nat.eq_of_beq_eq_true h2
          | false =>
            rw [h2] at h'
            cases h3 : Nat.beq e 3 with
            | true => rw [h3] at h'; cases h'
            | false => rw [h3] at h'; cases h'
      subst h27
      have hb : Try.prog.bytesOf 27 = 32 := by kernel_rfl
      rw [hb] at hl
      exact hl
  exact key h rfl

theorem arg_int {p : PV sig} (h : Arg Try.prog lay 3 p) : ∃ n, p = inP n := by
  obtain ⟨ds, h1, _, rfl⟩ := arg_of h (b := false) (ts := [.int .i64]) (by kernel_rfl) (by kernel_rfl)
  obtain ⟨d0, r0, rfl, e0, hd⟩ := alls_cons h1
  cases alls_nil hd
  obtain ⟨n, rfl⟩ := dv_int e0
  exact ⟨n, rfl⟩

theorem arg_tm {p : PV sig} (h : Arg Try.prog lay 24 p) : ∃ t : Tm, p = tmP t := by
  obtain ⟨ds, h1, _, rfl⟩ := arg_of h (b := true) (ts := [.int .i64, .int .i64, .int .i64, .slice 24]) (by kernel_rfl) (by kernel_rfl)
  obtain ⟨d0, r0, rfl, e0, hd⟩ := alls_cons h1
  obtain ⟨d1, r1, rfl, e1, hd⟩ := alls_cons hd
  obtain ⟨d2, r2, rfl, e2, hd⟩ := alls_cons hd
  obtain ⟨d3, r3, rfl, e3, hd⟩ := alls_cons hd
  cases alls_nil hd
  obtain ⟨a, rfl⟩ := dv_int e0
  obtain ⟨b, rfl⟩ := dv_int e1
  obtain ⟨c, rfl⟩ := dv_int e2
  obtain ⟨l, rfl⟩ := dv_tms e3
  exact ⟨⟨a, b, c, l⟩, rfl⟩

theorem arg_sm {p : PV sig} (h : Arg Try.prog lay 27 p) : ∃ t : Sm, p = smP t := by
  obtain ⟨ds, h1, _, rfl⟩ := arg_of h (b := true) (ts := [.slice 27, .int .i64]) (by kernel_rfl) (by kernel_rfl)
  obtain ⟨d0, r0, rfl, e0, hd⟩ := alls_cons h1
  obtain ⟨d1, r1, rfl, e1, hd⟩ := alls_cons hd
  cases alls_nil hd
  obtain ⟨l, rfl⟩ := dv_sms e0
  obtain ⟨a, rfl⟩ := dv_int e1
  exact ⟨⟨l, a⟩, rfl⟩

theorem arg_tms {p : PV sig} (h : Arg Try.prog lay 22 p) : ∃ l : List Tm, p = .d (.sl Key.tm l) ∧ l.length * 48 ≤ 140737488351232 := by
  obtain ⟨ds, h1, h2, rfl⟩ := arg_of h (b := false) (ts := [.slice 24]) (by kernel_rfl) (by kernel_rfl)
  obtain ⟨d0, r0, rfl, e0, hd⟩ := alls_cons h1
  cases alls_nil hd
  obtain ⟨l, rfl⟩ := dv_tms e0
  exact ⟨l, rfl, tms_len (h2 _ (List.mem_cons_self ..))⟩

theorem arg_sms {p : PV sig} (h : Arg Try.prog lay 25 p) : ∃ l : List Sm, p = .d (.sl Key.sm l) ∧ l.length * 32 ≤ 140737488351232 := by
  obtain ⟨ds, h1, h2, rfl⟩ := arg_of h (b := false) (ts := [.slice 27]) (by kernel_rfl) (by kernel_rfl)
  obtain ⟨d0, r0, rfl, e0, hd⟩ := alls_cons h1
  cases alls_nil hd
  obtain ⟨l, rfl⟩ := dv_sms e0
  exact ⟨l, rfl, sms_len (h2 _ (List.mem_cons_self ..))⟩

/-- The cells of what is put for a variable. -/
theorem arg_put {p : PV sig} (h : Arg Try.prog lay 29 p) : ∃ (t : Tm) (n : Int) (s : Tm) (a : Sm), p = .agg [inP t.op, inP t.head, inP t.n, .d (.sl Key.tm t.args), inP n, inP s.op, inP s.head, inP s.n, .d (.sl Key.tm s.args), .d (.sl Key.sm a.args), inP a.con] := by
  obtain ⟨ds, h1, _, rfl⟩ := arg_of h (b := true) (ts := [.int .i64, .int .i64, .int .i64, .slice 24, .int .i64, .int .i64, .int .i64, .int .i64, .slice 24, .slice 27, .int .i64]) (by kernel_rfl) (by kernel_rfl)
  obtain ⟨d0, r0, rfl, e0, hd⟩ := alls_cons h1
  obtain ⟨d1, r1, rfl, e1, hd⟩ := alls_cons hd
  obtain ⟨d2, r2, rfl, e2, hd⟩ := alls_cons hd
  obtain ⟨d3, r3, rfl, e3, hd⟩ := alls_cons hd
  obtain ⟨d4, r4, rfl, e4, hd⟩ := alls_cons hd
  obtain ⟨d5, r5, rfl, e5, hd⟩ := alls_cons hd
  obtain ⟨d6, r6, rfl, e6, hd⟩ := alls_cons hd
  obtain ⟨d7, r7, rfl, e7, hd⟩ := alls_cons hd
  obtain ⟨d8, r8, rfl, e8, hd⟩ := alls_cons hd
  obtain ⟨d9, r9, rfl, e9, hd⟩ := alls_cons hd
  obtain ⟨d10, r10, rfl, e10, hd⟩ := alls_cons hd
  cases alls_nil hd
  obtain ⟨a0, rfl⟩ := dv_int e0
  obtain ⟨a1, rfl⟩ := dv_int e1
  obtain ⟨a2, rfl⟩ := dv_int e2
  obtain ⟨a3, rfl⟩ := dv_tms e3
  obtain ⟨a4, rfl⟩ := dv_int e4
  obtain ⟨a5, rfl⟩ := dv_int e5
  obtain ⟨a6, rfl⟩ := dv_int e6
  obtain ⟨a7, rfl⟩ := dv_int e7
  obtain ⟨a8, rfl⟩ := dv_tms e8
  obtain ⟨a9, rfl⟩ := dv_sms e9
  obtain ⟨a10, rfl⟩ := dv_int e10
  exact ⟨⟨a0, a1, a2, a3⟩, a4, ⟨a5, a6, a7, a8⟩, ⟨a9, a10⟩, rfl⟩

theorem arg_typed {p : PV sig} (h : Arg Try.prog lay 43 p) : ∃ (cs ctx : List Sm) (t : Tm) (s : Sm), p = .agg [.d (.sl Key.sm cs), .d (.sl Key.sm ctx), inP t.op, inP t.head, inP t.n, .d (.sl Key.tm t.args), .d (.sl Key.sm s.args), inP s.con] := by
  obtain ⟨ds, h1, _, rfl⟩ := arg_of h (b := true) (ts := [.slice 27, .slice 27, .int .i64, .int .i64, .int .i64, .slice 24, .slice 27, .int .i64]) (by kernel_rfl) (by kernel_rfl)
  obtain ⟨d0, r0, rfl, e0, hd⟩ := alls_cons h1
  obtain ⟨d1, r1, rfl, e1, hd⟩ := alls_cons hd
  obtain ⟨d2, r2, rfl, e2, hd⟩ := alls_cons hd
  obtain ⟨d3, r3, rfl, e3, hd⟩ := alls_cons hd
  obtain ⟨d4, r4, rfl, e4, hd⟩ := alls_cons hd
  obtain ⟨d5, r5, rfl, e5, hd⟩ := alls_cons hd
  obtain ⟨d6, r6, rfl, e6, hd⟩ := alls_cons hd
  obtain ⟨d7, r7, rfl, e7, hd⟩ := alls_cons hd
  cases alls_nil hd
  obtain ⟨a0, rfl⟩ := dv_sms e0
  obtain ⟨a1, rfl⟩ := dv_sms e1
  obtain ⟨a2, rfl⟩ := dv_int e2
  obtain ⟨a3, rfl⟩ := dv_int e3
  obtain ⟨a4, rfl⟩ := dv_int e4
  obtain ⟨a5, rfl⟩ := dv_tms e5
  obtain ⟨a6, rfl⟩ := dv_sms e6
  obtain ⟨a7, rfl⟩ := dv_int e7
  exact ⟨a0, a1, ⟨a2, a3, a4, a5⟩, ⟨a6, a7⟩, rfl⟩

theorem arg_two {p : PV sig} (h : Arg Try.prog lay 50 p) : ∃ (n m : Int) (u v : Tm), p = .agg [inP n, inP m, inP u.op, inP u.head, inP u.n, .d (.sl Key.tm u.args), inP v.op, inP v.head, inP v.n, .d (.sl Key.tm v.args)] := by
  obtain ⟨ds, h1, _, rfl⟩ := arg_of h (b := true) (ts := [.int .i64, .int .i64, .int .i64, .int .i64, .int .i64, .slice 24, .int .i64, .int .i64, .int .i64, .slice 24]) (by kernel_rfl) (by kernel_rfl)
  obtain ⟨d0, r0, rfl, e0, hd⟩ := alls_cons h1
  obtain ⟨d1, r1, rfl, e1, hd⟩ := alls_cons hd
  obtain ⟨d2, r2, rfl, e2, hd⟩ := alls_cons hd
  obtain ⟨d3, r3, rfl, e3, hd⟩ := alls_cons hd
  obtain ⟨d4, r4, rfl, e4, hd⟩ := alls_cons hd
  obtain ⟨d5, r5, rfl, e5, hd⟩ := alls_cons hd
  obtain ⟨d6, r6, rfl, e6, hd⟩ := alls_cons hd
  obtain ⟨d7, r7, rfl, e7, hd⟩ := alls_cons hd
  obtain ⟨d8, r8, rfl, e8, hd⟩ := alls_cons hd
  obtain ⟨d9, r9, rfl, e9, hd⟩ := alls_cons hd
  cases alls_nil hd
  obtain ⟨a0, rfl⟩ := dv_int e0
  obtain ⟨a1, rfl⟩ := dv_int e1
  obtain ⟨a2, rfl⟩ := dv_int e2
  obtain ⟨a3, rfl⟩ := dv_int e3
  obtain ⟨a4, rfl⟩ := dv_int e4
  obtain ⟨a5, rfl⟩ := dv_tms e5
  obtain ⟨a6, rfl⟩ := dv_int e6
  obtain ⟨a7, rfl⟩ := dv_int e7
  obtain ⟨a8, rfl⟩ := dv_int e8
  obtain ⟨a9, rfl⟩ := dv_tms e9
  exact ⟨a0, a1, ⟨a2, a3, a4, a5⟩, ⟨a6, a7, a8, a9⟩, rfl⟩

end Go.Proofs.Ytcgbfghdcjmaeaa.Ev
