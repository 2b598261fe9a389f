/- ip.Parse on rows that it refuses at once (for the works of chapter 05). -/
import Derived.Test.YtknpaihlnkcpgaaHd
set_option linter.unusedVariables false
set_option linter.unusedSimpArgs false
namespace Go.Proofs.Ytknpaihlnkcpgaa.Own
open Go.RowKit Go.Proofs.YtknpaihlnkcpgaaW.PrintWords Go.Proofs.YtknpaihlnkcpgaaW.PrintLast Go.Proofs.YtknpaihlnkcpgaaW.PrintMore
attribute [local go_sem ↓] ld17 ld4 sv_hd
attribute [local go_sem] run_sv_hd gv_some isV_some pick2_true stc nfz_false oc1_int oc1_bool oc1_string oc1_slice oc1_pointer oc1_func pick1_true setCells_new setCells_past setCells_drew

/-- the header that is nothing -/
abbrev noHd : Value := .agg (hcs ⟨0, 0, 0, false, false, 0, 0, 0, 0, 0, 0, 0, 0, 0, 0, 0⟩ none 0 0)
set_option maxRecDepth 100000 in
theorem parse_short (A : Option Addr) (n c : Nat) (w : World) (hn : n < 20) :
    Calls Try.prog 19 #[.slice A n c] w fun e w' => e = .returned (.tuple #[noHd, .int .i64 0, .int .i64 10]) ∧ Below w.heap.size w w' := by
  go_enter Try.func19, Try.ntmps19
  go_wp2
  have hc := hd_cells (heap_alloc_new w (.cells (hcs ⟨0, 0, 0, false, false, 0, 0, 0, 0, 0, 0, 0, 0, 0, 0, 0⟩ none 0 0) 39))
  refine bodyPost_ret (v := .tuple #[noHd, .int .i64 0, .int .i64 10]) ?_ rfl ⟨rfl, below_alloc1 w _⟩
  simp only [hcs] at hc
  simp [results, Try.results19, go_sem, hc]
set_option maxRecDepth 100000 in
theorem parse_version (b : List Int) (A : Option Addr) (n c : Nat) (w : World) (hC : Kd.C (Kd.int .u8) w A n b) (hn : 20 ≤ n) (h0 : b.getD 0 0 = 0) :
    Calls Try.prog 19 #[.slice A n c] w fun e w' => e = .returned (.tuple #[noHd, .int .i64 0, .int .i64 50]) ∧ Below w.heap.size w w' := by
  obtain ⟨ad, rfl, hx⟩ := Kd.at_int hC 0 (by omega) (by omega)
  have e0 : ad.add (0 : Int).toNat = ad := Addr.add_zero' ad
  have hx2 : w.cell? ad = some (.int .u8 (b.getD 0 0)) := by rw [e0] at hx; exact hx
  rw [h0] at hx2
  have hx3 := (below_alloc1 w (.cells (hcs ⟨0, 0, 0, false, false, 0, 0, 0, 0, 0, 0, 0, 0, 0, 0, 0⟩ none 0 0) 39)).cell (p := ad) (World.block_lt_of_cell? w _ hx2)
  rw [hx2] at hx3
  simp only [hcs] at hx3
  clear hC hx e0 h0
  go_enter Try.func19, Try.ntmps19
  go_wp2
  have hc := hd_cells (heap_alloc_new w (.cells (hcs ⟨0, 0, 0, false, false, 0, 0, 0, 0, 0, 0, 0, 0, 0, 0, 0⟩ none 0 0) 39))
  refine bodyPost_ret (v := .tuple #[noHd, .int .i64 0, .int .i64 50]) ?_ rfl ⟨rfl, below_alloc1 w _⟩
  simp only [hcs] at hc
  simp [results, Try.results19, go_sem, hc]
end Go.Proofs.Ytknpaihlnkcpgaa.Own
