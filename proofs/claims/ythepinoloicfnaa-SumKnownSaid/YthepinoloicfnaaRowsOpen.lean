/- A slice of slices of bytes that came in: what it reads as. -/
import Derived.Test.YthepinoloicfnaaHelp
import Derived.Test.YthepinoloicfnaaSumPlain
import Derived.Deep.Matrix
set_option linter.unusedVariables false
set_option linter.unusedSimpArgs false
namespace Go.Proofs.Ythepinoloicfnaa.Own
open Go.RowKit Go.ChangeShapes Go.WideShapes Go.Proofs.YthepinoloicfnaaW.PrintWords Go.Proofs.YthepinoloicfnaaW.PrintLast Go.Proofs.YthepinoloicfnaaW.PrintMore

theorem open_byte_rows {H : Type} {enc : TypeId × Value → H} {P : Program} {w : World} {base : Nat} {held : Bool} {t e q : TypeId} {d : DataW H} {ps : List MemPlace} {A0 : Option Addr} {n0 c0 : Nat} (ht : P.underlying t = some (.slice e)) (he : P.underlying e = some (.slice q)) (hq : P.underlying q = some (.int .u8))
    (ce : P.cellsOf e = 1) (cq : P.cellsOf q = 1) (h : DataW.Trod enc P w base (fun _ => true) held t (.slice A0 n0 c0) d ps) :
    ∃ l : List (List Int), l.length = n0 ∧ n0 ≤ c0 ∧ n0 ≤ 9223372036854775807 ∧ (∀ x ∈ l, bytes x) ∧ Kd.C (Kd.slice q (Kd.int .u8)) w A0 n0 l := by
  obtain ⟨fuel, hf⟩ := h
  rcases Deep.open_int_rows ht he hq ce cq hf with ⟨hcs, _⟩ | ⟨a, len, cap, A, L, C, Z, hcs, _, hl, hm, _, hrow⟩
  · simp [Value.cells] at hcs
    obtain ⟨rfl, rfl, rfl⟩ := hcs
    exact ⟨[], rfl, Nat.le_refl _, by decide, by simp, Kd.C_nil _ _⟩
  · simp [Value.cells] at hcs
    obtain ⟨rfl, rfl, rfl⟩ := hcs
    unfold maxLen at hm
    refine ⟨(List.range n0).map fun r => (Z r).take (L r), by simp, hl, by omega, ?_, by simp, by omega, fun hp => ⟨a, rfl, fun j p hj => ?_⟩⟩
    · intro x hx
      obtain ⟨r, hr, rfl⟩ := List.mem_map.1 hx
      have hr' : r < c0 := by have := List.mem_range.1 hr; omega
      exact fun y hy => bytes_of_wf (hrow r hr').2.2.2.2.1 y (List.mem_of_mem_take hy)
    · have hjn : j < n0 := by
        rcases Nat.lt_or_ge j n0 with h | h
        · exact h
        · rw [List.getElem?_eq_none (by simpa using h)] at hj
          cases hj
      rw [List.getElem?_map, List.getElem?_range hjn] at hj
      obtain rfl : (Z j).take (L j) = p := by simpa using hj
      obtain ⟨h1, h2, h3, h4, h5, h6, h7⟩ := hrow j (by omega)
      unfold maxLen at h3
      have hlen : ((Z j).take (L j)).length = L j := by rw [List.length_take]; omega
      refine ⟨[.slice (A j) (L j) (C j)], rfl, ⟨A j, C j, by rw [hlen], by rw [hlen]; exact h2, rfl, by rw [hlen]; omega, fun hp2 => ?_⟩, fun i u hu => ?_⟩
      · rw [hlen] at hp2
        cases hA : A j with
        | none => have := h6 hA; omega
        | some a' =>
          refine ⟨a', rfl, fun i p hi => ⟨[.int .u8 p], rfl, rfl, fun i' u hu => ?_⟩⟩
          match i', hu with
          | 0, hu =>
            have hu' : Value.int .u8 p = u := by simpa using hu
            subst hu'
            have hiL : i < L j := by
              rcases Nat.lt_or_ge i (L j) with h | h
              · exact h
              · rw [List.getElem?_eq_none (by rw [hlen]; exact h)] at hi
                cases hi
            have hc := (h7 a' hA).2 i (by omega)
            have hs : (Kd.int IntKind.u8).sz = 1 := rfl
            rw [hs, Nat.mul_one, Nat.add_zero, hc]
            rw [List.getElem?_take, if_pos hiL] at hi
            rw [List.getD_eq_getElem?_getD, hi]
            rfl
      · match i, hu with
        | 0, hu =>
          have hu' : Value.slice (A j) (L j) (C j) = u := by simpa using hu
          subst hu'
          have hs : (Kd.slice q (Kd.int IntKind.u8)).sz = 1 := rfl
          rw [hs, Nat.mul_one, Nat.add_zero]
          exact h1
end Go.Proofs.Ythepinoloicfnaa.Own
