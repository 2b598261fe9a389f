/- The law's 'works': true. -/
import Derived.Test.YthepinoloicfnaaSumMore
set_option linter.unusedVariables false
set_option linter.unusedSimpArgs false
namespace Go.Proofs.Ythepinoloicfnaa.Own
open Go.RowKit Go.Proofs.YthepinoloicfnaaW.PrintWords Go.Proofs.YthepinoloicfnaaW.PrintLast Go.Proofs.YthepinoloicfnaaW.PrintMore

set_option maxHeartbeats 1000000 in
theorem works_any (w : World) :
    Calls Try.prog 7 #[] w fun e w' => e = .returned (.bool true) ∧ Below w.heap.size w w' := by
  go_enter Try.func7, Try.ntmps7
  go_wp2_with fail
  trace "1"
  refine (of_any [[1, 2], [3]] _ _ _ (C_lits2 w [1, 2] [3] (by decide) (by decide)) (by decide) (by decide) (by decide)).mono ?_
  trace "2"
  rintro e w1 ⟨rfl, hb⟩
  rw [show ck ([[1, 2], [3]] : List (List Int)).flatten = 64509 by decide]
  have HB := Aside0.mk (below_tr (below_alloc3 w _ _ _) hb)
  clear hb
  trace "3"
  go_wp2_with fail
  refine (of_any [] _ _ _ (Kd.C_nil _ _) (by decide) (by decide) (by decide)).mono ?_
  trace "4"
  rintro e w2 ⟨rfl, hb⟩
  rw [show ck ([] : List (List Int)).flatten = 65535 by decide]
  have HB2 := Aside0.mk (below_tr HB.out hb)
  clear hb HB
  go_wp2_with fail
  refine (whole_any [[0, 0]] _ _ _ (C_lits1 w2 [0, 0] (by decide)) (by decide) (by decide) (by decide)).mono ?_
  rintro e w3 ⟨rfl, hb⟩
  rw [show wholeB ([[0, 0]] : List (List Int)).flatten = true by decide]
  have HB3 := Aside0.mk (below_tr HB2.out (below_tr (below_alloc2 w2 _ _) hb))
  clear hb HB2
  go_wp2_with fail
  refine (whole_any [[1, 2, 254, 253]] _ _ _ (C_lits1 w3 [1, 2, 254, 253] (by decide)) (by decide) (by decide) (by decide)).mono ?_
  rintro e w4 ⟨rfl, hb⟩
  rw [show wholeB ([[1, 2, 254, 253]] : List (List Int)).flatten = true by decide]
  have HB4 := Aside0.mk (below_tr HB3.out (below_tr (below_alloc2 w3 _ _) hb))
  clear hb HB3
  go_wp2_with fail
  refine (change_any 64509 768 769 _ (by decide) (by decide) (by decide) (by decide) (by decide) (by decide)).mono ?_
  rintro e w5 ⟨rfl, rfl⟩
  rw [show chg 64509 768 769 = 64508 by decide]
  go_wp2
  go_ret
  exact ⟨rfl, HB4.out⟩
end Go.Proofs.Ythepinoloicfnaa.Own
