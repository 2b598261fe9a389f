/- Contracts of sum.Whole and sum.Change. -/
import Derived.Test.YtknpaihlnkcpgaaSumCode
import Derived.Test.YtknpaihlnkcpgaaHelp
set_option linter.unusedVariables false
set_option linter.unusedSimpArgs false
namespace Go.Proofs.Ytknpaihlnkcpgaa.Own
open Go.RowKit Go.Proofs.YtknpaihlnkcpgaaW.PrintWords Go.Proofs.YtknpaihlnkcpgaaW.PrintLast Go.Proofs.YtknpaihlnkcpgaaW.PrintMore

theorem whole_any (l : List (List Int)) (A : Option Addr) (c : Nat) (w : World) (hr : Kd.C (Kd.slice 5 (Kd.int .u8)) w A l.length l) (hb : ∀ x ∈ l, bytes x) (hn : l.flatten.length ≤ 1152921504606846975) (hn2 : l.length ≤ 1152921504606846975) :
    Calls Try.prog 41 #[.slice A l.length c] w fun e w' => e = .returned (.bool (wholeB l.flatten)) ∧ Below w.heap.size w w' := by
  have HR := Aside0.mk hr
  have HB := Aside0.mk hb
  clear hr hb
  obtain ⟨v, ev⟩ : ∃ v, ck l.flatten = v := ⟨_, rfl⟩
  have HW := Aside0.mk (show wholeB l.flatten = (v == 0 || v == 65535) by simp [wholeB, ev])
  have EV := Aside0.mk ev
  clear ev
  by_cases h0 : (v == 0) = true
  · go_enter Try.func41, Try.ntmps41
    go_wp2_with fail
    refine (of_any l A c _ HR.out HB.out hn hn2).mono ?_
    rintro e w1 ⟨rfl, hb1⟩
    rw [EV.out]
    go_wp2
    go_ret
    exact ⟨ret_bool (by rw [HW.out, h0]; rfl), hb1⟩
  · replace h0 : (v == 0) = false := by simpa using h0
    by_cases h1 : (v == 65535) = true
    all_goals
      try (replace h1 : (v == 65535) = false := by simpa using h1)
      go_enter Try.func41, Try.ntmps41
      go_wp2_with fail
      refine (of_any l A c _ HR.out HB.out hn hn2).mono ?_
      rintro e w1 ⟨rfl, hb1⟩
      rw [EV.out]
      go_wp2
      go_ret
      exact ⟨ret_bool (by rw [HW.out, h0, h1]; rfl), hb1⟩

/-- the same two, at any spelling of the length -/
theorem of_at (l : List (List Int)) (A : Option Addr) (n c : Nat) (w : World) (hr : Kd.C (Kd.slice 5 (Kd.int .u8)) w A n l) (hb : ∀ x ∈ l, bytes x) (hn : l.flatten.length ≤ 1152921504606846975) (hn2 : l.length ≤ 1152921504606846975) :
    Calls Try.prog 36 #[.slice A n c] w fun e w' => e = .returned (.int .u16 (ck l.flatten)) ∧ Below w.heap.size w w' := by
  obtain rfl := hr.1
  exact of_any l A c w hr hb hn hn2
theorem whole_at (l : List (List Int)) (A : Option Addr) (n c : Nat) (w : World) (hr : Kd.C (Kd.slice 5 (Kd.int .u8)) w A n l) (hb : ∀ x ∈ l, bytes x) (hn : l.flatten.length ≤ 1152921504606846975) (hn2 : l.length ≤ 1152921504606846975) :
    Calls Try.prog 41 #[.slice A n c] w fun e w' => e = .returned (.bool (wholeB l.flatten)) ∧ Below w.heap.size w w' := by
  obtain rfl := hr.1
  exact whole_any l A c w hr hb hn hn2

theorem change_any (s f t : Int) (w : World) (s0 : 0 ≤ s) (s1 : s ≤ 65535) (f0 : 0 ≤ f) (f1 : f ≤ 65535) (t0 : 0 ≤ t) (t1 : t ≤ 65535) :
    Calls Try.prog 42 #[.int .u16 s, .int .u16 f, .int .u16 t] w fun e w' => e = .returned (.int .u16 (chg s f t)) ∧ w = w' := by
  have hr := cf_range (65535 - s + (65535 - f) + t) (by omega)
  obtain ⟨r0, r1⟩ := hr
  have e1 : IntKind.u16.wrap (65535 - s) = 65535 - s := wraps_u16 _ (by omega) (by omega)
  have e2 : IntKind.u16.wrap (65535 - f) = 65535 - f := wraps_u16 _ (by omega) (by omega)
  have e3 : IntKind.u64.wrap (65535 - s) = 65535 - s := wraps_u64 _ (by omega) (by omega)
  have e4 : IntKind.u64.wrap (65535 - f) = 65535 - f := wraps_u64 _ (by omega) (by omega)
  go_enter Try.func42, Try.ntmps42
  go_wp2_with fail
  refine (fold_any _ _ (by omega) (by omega)).mono ?_
  rintro e w1 ⟨rfl, rfl⟩
  go_wp2
  go_ret
  exact ⟨ret_u16 (by unfold chg; omega), rfl⟩
end Go.Proofs.Ytknpaihlnkcpgaa.Own
