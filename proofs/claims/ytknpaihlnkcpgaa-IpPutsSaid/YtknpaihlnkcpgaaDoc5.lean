/- octroidocs.Ip. (written by wip/gen_doc5.py) -/
import Derived.Test.YtknpaihlnkcpgaaRef5
import Derived.StillTailTactics
set_option linter.unusedVariables false
set_option linter.unusedSimpArgs false
namespace Go.Proofs.Ytknpaihlnkcpgaa.Own
open Go.RowKit Go.Proofs.YtknpaihlnkcpgaaW.PrintWords Go.Proofs.YtknpaihlnkcpgaaW.PrintLast Go.Proofs.YtknpaihlnkcpgaaW.PrintMore
attribute [local go_sem ↓] ld11 sv_rh
attribute [local go_sem] run_sv_rh gv_some isV_some pick2_true stc nfz_false oc1_int oc1_bool oc1_string oc1_slice oc1_pointer oc1_func pick1_true setCells_new setCells_past setCells_drew

/-- a header as the reference has it -/
abbrev docOf (h : Hd) (o : List Int) : Array Value := rcs h (strOfNums [h.s0, h.s1, h.s2, h.s3]) (strOfNums [h.d0, h.d1, h.d2, h.d3]) (strOfNums o)
set_option maxRecDepth 100000 in
set_option maxHeartbeats 4000000 in
theorem doc_any (h : Hd) (A : Option Addr) (n c : Nat) (o : List Int) (w : World) (hC : Kd.C (Kd.int .u8) w A n o) :
    Calls Try.prog 11 #[.agg (hcs h A n c)] w fun e w' => e = .returned (.agg (docOf h o)) ∧ Below w.heap.size w w' := by
  have hb := heap_alloc_new w (.cells (hcs h A n c) 39)
  have hS : ∀ o' : Obj, ((w.alloc (.cells (hcs h A n c) 39)).alloc o').drew.cell? ⟨w.heap.size, 0, none⟩ = some (.int .u8 h.tos) ∧ ((w.alloc (.cells (hcs h A n c) 39)).alloc o').drew.cell? ⟨w.heap.size, 1, none⟩ = some (.int .u16 h.total) ∧ ((w.alloc (.cells (hcs h A n c) 39)).alloc o').drew.cell? ⟨w.heap.size, 2, none⟩ = some (.int .u16 h.id) ∧ ((w.alloc (.cells (hcs h A n c) 39)).alloc o').drew.cell? ⟨w.heap.size, 3, none⟩ = some (.bool h.df) ∧ ((w.alloc (.cells (hcs h A n c) 39)).alloc o').drew.cell? ⟨w.heap.size, 4, none⟩ = some (.bool h.mf) ∧ ((w.alloc (.cells (hcs h A n c) 39)).alloc o').drew.cell? ⟨w.heap.size, 5, none⟩ = some (.int .u16 h.frag) ∧ ((w.alloc (.cells (hcs h A n c) 39)).alloc o').drew.cell? ⟨w.heap.size, 6, none⟩ = some (.int .u8 h.ttl) ∧ ((w.alloc (.cells (hcs h A n c) 39)).alloc o').drew.cell? ⟨w.heap.size, 7, none⟩ = some (.int .u8 h.proto) ∧ ((w.alloc (.cells (hcs h A n c) 39)).alloc o').drew.cell? ⟨w.heap.size, 16, none⟩ = some (.slice A n c) ∧ (convert 22 9 (.slice (some ⟨w.heap.size, 8, none⟩) 4 4)).run Try.prog ((w.alloc (.cells (hcs h A n c) 39)).alloc o').drew = .ok (.string (strOfNums [h.s0, h.s1, h.s2, h.s3])) ((w.alloc (.cells (hcs h A n c) 39)).alloc o').drew ∧ (convert 22 9 (.slice (some ⟨w.heap.size, 12, none⟩) 4 4)).run Try.prog ((w.alloc (.cells (hcs h A n c) 39)).alloc o').drew = .ok (.string (strOfNums [h.d0, h.d1, h.d2, h.d3])) ((w.alloc (.cells (hcs h A n c) 39)).alloc o').drew ∧ (convert 22 9 (.slice A n c)).run Try.prog ((w.alloc (.cells (hcs h A n c) 39)).alloc o').drew = .ok (.string (strOfNums o)) ((w.alloc (.cells (hcs h A n c) 39)).alloc o').drew := fun o' => by
    have h1 := fun i u (hc : (w.alloc (.cells (hcs h A n c) 39)).cell? ⟨w.heap.size, i, none⟩ = some u) => pw_cell_below (below_drew (below_alloc1 (w.alloc (.cells (hcs h A n c) 39)) o')) hc
    have hcc := hd_cells hb
    refine ⟨h1 _ _ hcc.1, h1 _ _ hcc.2.1, h1 _ _ hcc.2.2.1, h1 _ _ hcc.2.2.2.1, h1 _ _ hcc.2.2.2.2.1, h1 _ _ hcc.2.2.2.2.2.1, h1 _ _ hcc.2.2.2.2.2.2.1, h1 _ _ hcc.2.2.2.2.2.2.2.1, h1 _ _ hcc.2.2.2.2.2.2.2.2.2.2.2.2.2.2.2.2, ?_, ?_, ?_⟩
    · exact Kd.C_string (c := 4) Try.underlying22 Try.underlying5 Try.underlying9 (Kd.C_drew (Kd.C_alloc (hd_src hb) o'))
    · exact Kd.C_string (c := 4) Try.underlying22 Try.underlying5 Try.underlying9 (Kd.C_drew (Kd.C_alloc (hd_dst hb) o'))
    · exact Kd.C_string (c := c) Try.underlying22 Try.underlying5 Try.underlying9 (Kd.C_drew (Kd.C_alloc (Kd.C_alloc hC (.cells (hcs h A n c) 39)) o'))
  clear hb hC
  obtain ⟨tos, total, id, df, mf, frag, ttl, proto, s0, s1, s2, s3, d0, d1, d2, d3⟩ := h
  dsimp only [hcs] at hS
  have HS := Aside0.mk hS
  clear hS
  go_enter Try.func11, Try.ntmps11
  go_upto_region 1 with fail
  go_region_held3 (fun w' => w'.cell? ⟨w.heap.size, 0, none⟩ = some (.int .u8 tos) ∧ w'.cell? ⟨w.heap.size, 1, none⟩ = some (.int .u16 total) ∧ w'.cell? ⟨w.heap.size, 2, none⟩ = some (.int .u16 id) ∧ w'.cell? ⟨w.heap.size, 3, none⟩ = some (.bool df) ∧ w'.cell? ⟨w.heap.size, 4, none⟩ = some (.bool mf) ∧ w'.cell? ⟨w.heap.size, 5, none⟩ = some (.int .u16 frag) ∧ w'.cell? ⟨w.heap.size, 6, none⟩ = some (.int .u8 ttl) ∧ w'.cell? ⟨w.heap.size, 7, none⟩ = some (.int .u8 proto) ∧ w'.cell? ⟨w.heap.size, 16, none⟩ = some (.slice A n c) ∧ (convert 22 9 (.slice (some ⟨w.heap.size, 8, none⟩) 4 4)).run Try.prog w' = .ok (.string (strOfNums [s0, s1, s2, s3])) w' ∧ (convert 22 9 (.slice (some ⟨w.heap.size, 12, none⟩) 4 4)).run Try.prog w' = .ok (.string (strOfNums [d0, d1, d2, d3])) w' ∧ (convert 22 9 (.slice A n c)).run Try.prog w' = .ok (.string (strOfNums o)) w') (first | exact HS.out _) (fail)
  go_wp2
  refine bodyPost_ret (v := .agg #[.int .u8 tos, .int .u16 total, .int .u16 id, .bool df, .bool mf, .int .u16 frag, .int .u8 ttl, .int .u8 proto, .string (strOfNums [s0, s1, s2, s3]), .string (strOfNums [d0, d1, d2, d3]), .string (strOfNums o)]) (by simp [results, Try.results11, go_sem]) rfl ⟨rfl, ?_⟩
  exact below_drew (below_alloc2 w _ _)
end Go.Proofs.Ytknpaihlnkcpgaa.Own
