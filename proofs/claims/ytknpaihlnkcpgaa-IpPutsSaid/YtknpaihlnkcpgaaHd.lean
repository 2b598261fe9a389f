/- ip.Header: its 17 cells; length, Right, flag. (written by wip/gen_hd.py) -/
import Derived.Test.YtknpaihlnkcpgaaWriter
import Derived.Test.YtknpaihlnkcpgaaBigT
set_option linter.unusedVariables false
set_option linter.unusedSimpArgs false
namespace Go.Proofs.Ytknpaihlnkcpgaa.Own
open Go.RowKit Go.Proofs.YtknpaihlnkcpgaaW.PrintWords Go.Proofs.YtknpaihlnkcpgaaW.PrintLast Go.Proofs.YtknpaihlnkcpgaaW.PrintMore
attribute [local go_sem ↓] ld17 ld4 sv_hd
attribute [local go_sem] run_sv_hd gv_some isV_some pick2_true stc nfz_false oc1_int oc1_bool oc1_string oc1_slice oc1_pointer oc1_func pick1_true setCells_new setCells_past setCells_drew

/-- a header of IPv4; its options lie elsewhere -/
structure Hd where
  tos : Int
  total : Int
  id : Int
  df : Bool
  mf : Bool
  frag : Int
  ttl : Int
  proto : Int
  s0 : Int
  s1 : Int
  s2 : Int
  s3 : Int
  d0 : Int
  d1 : Int
  d2 : Int
  d3 : Int
/-- its cells -/
abbrev hcs (h : Hd) (A : Option Addr) (n c : Nat) : Array Value := #[.int .u8 h.tos, .int .u16 h.total, .int .u16 h.id, .bool h.df, .bool h.mf, .int .u16 h.frag, .int .u8 h.ttl, .int .u8 h.proto, .int .u8 h.s0, .int .u8 h.s1, .int .u8 h.s2, .int .u8 h.s3, .int .u8 h.d0, .int .u8 h.d1, .int .u8 h.d2, .int .u8 h.d3, .slice A n c]
def inB (x m : Int) : Prop := 0 ≤ x ∧ x ≤ m
/-- its numbers are of their kinds -/
def Hd.ok (h : Hd) : Prop := inB h.tos 255 ∧ inB h.total 65535 ∧ inB h.id 65535 ∧ inB h.frag 65535 ∧ inB h.ttl 255 ∧ inB h.proto 255 ∧ inB h.s0 255 ∧ inB h.s1 255 ∧ inB h.s2 255 ∧ inB h.s3 255 ∧ inB h.d0 255 ∧ inB h.d1 255 ∧ inB h.d2 255 ∧ inB h.d3 255
theorem hd_cells {w : World} {g t : Nat} {h : Hd} {A : Option Addr} {n c : Nat} (hb : w.heap[g]? = some (.cells (hcs h A n c) t (0, 0))) :
    w.cell? ⟨g, 0, none⟩ = some (.int .u8 h.tos) ∧ w.cell? ⟨g, 1, none⟩ = some (.int .u16 h.total) ∧ w.cell? ⟨g, 2, none⟩ = some (.int .u16 h.id) ∧ w.cell? ⟨g, 3, none⟩ = some (.bool h.df) ∧ w.cell? ⟨g, 4, none⟩ = some (.bool h.mf) ∧ w.cell? ⟨g, 5, none⟩ = some (.int .u16 h.frag) ∧ w.cell? ⟨g, 6, none⟩ = some (.int .u8 h.ttl) ∧ w.cell? ⟨g, 7, none⟩ = some (.int .u8 h.proto) ∧ w.cell? ⟨g, 8, none⟩ = some (.int .u8 h.s0) ∧ w.cell? ⟨g, 9, none⟩ = some (.int .u8 h.s1) ∧ w.cell? ⟨g, 10, none⟩ = some (.int .u8 h.s2) ∧ w.cell? ⟨g, 11, none⟩ = some (.int .u8 h.s3) ∧ w.cell? ⟨g, 12, none⟩ = some (.int .u8 h.d0) ∧ w.cell? ⟨g, 13, none⟩ = some (.int .u8 h.d1) ∧ w.cell? ⟨g, 14, none⟩ = some (.int .u8 h.d2) ∧ w.cell? ⟨g, 15, none⟩ = some (.int .u8 h.d3) ∧ w.cell? ⟨g, 16, none⟩ = some (.slice A n c) := by refine ⟨?_, ?_, ?_, ?_, ?_, ?_, ?_, ?_, ?_, ?_, ?_, ?_, ?_, ?_, ?_, ?_, ?_⟩ <;> (rw [blk_cell hb]; rfl)
/-- is a header with n bytes of options right? -/
def rightB (h : Hd) (n : Nat) : Bool := decide (h.frag ≤ 8191 ∧ n % 4 = 0 ∧ n ≤ 40 ∧ (20 : Int) + n ≤ h.total)

theorem len_hd (h : Hd) (A : Option Addr) (n c : Nat) (w : World) (hn : n ≤ 1000000) :
    Calls Try.prog 31 #[.agg (hcs h A n c)] w fun e w' => e = .returned (.int .i64 (20 + n)) ∧ Below w.heap.size w w' := by
  obtain ⟨tos, total, id, df, mf, frag, ttl, proto, s0, s1, s2, s3, d0, d1, d2, d3⟩ := h
  go_enter Try.func31, Try.ntmps31
  go_wp2
  go_ret
  exact ⟨rfl, below_alloc1 w _⟩
/-- n, if something holds -/
def fl (b : Bool) (n : Int) : Int := if b then n else 0
theorem flag_any (b : Bool) (f : Int) (w : World) :
    Calls Try.prog 32 #[.bool b, .int .u64 f] w fun e w' => e = .returned (.int .u64 (fl b f)) ∧ w = w' := by
  cases b
  · go_enter Try.func32, Try.ntmps32
    go_wp2
    go_ret
    exact ⟨rfl, rfl⟩
  · go_enter Try.func32, Try.ntmps32
    go_wp2
    go_ret
    exact ⟨rfl, rfl⟩

theorem held17 {a b : World} {g : Nat} {v0 v1 v2 v3 v4 v5 v6 v7 v8 v9 v10 v11 v12 v13 v14 v15 v16 : Value} (hb : Below a.heap.size a b) (h : a.cell? ⟨g, 0, none⟩ = some v0 ∧ a.cell? ⟨g, 1, none⟩ = some v1 ∧ a.cell? ⟨g, 2, none⟩ = some v2 ∧ a.cell? ⟨g, 3, none⟩ = some v3 ∧ a.cell? ⟨g, 4, none⟩ = some v4 ∧ a.cell? ⟨g, 5, none⟩ = some v5 ∧ a.cell? ⟨g, 6, none⟩ = some v6 ∧ a.cell? ⟨g, 7, none⟩ = some v7 ∧ a.cell? ⟨g, 8, none⟩ = some v8 ∧ a.cell? ⟨g, 9, none⟩ = some v9 ∧ a.cell? ⟨g, 10, none⟩ = some v10 ∧ a.cell? ⟨g, 11, none⟩ = some v11 ∧ a.cell? ⟨g, 12, none⟩ = some v12 ∧ a.cell? ⟨g, 13, none⟩ = some v13 ∧ a.cell? ⟨g, 14, none⟩ = some v14 ∧ a.cell? ⟨g, 15, none⟩ = some v15 ∧ a.cell? ⟨g, 16, none⟩ = some v16) : b.cell? ⟨g, 0, none⟩ = some v0 ∧ b.cell? ⟨g, 1, none⟩ = some v1 ∧ b.cell? ⟨g, 2, none⟩ = some v2 ∧ b.cell? ⟨g, 3, none⟩ = some v3 ∧ b.cell? ⟨g, 4, none⟩ = some v4 ∧ b.cell? ⟨g, 5, none⟩ = some v5 ∧ b.cell? ⟨g, 6, none⟩ = some v6 ∧ b.cell? ⟨g, 7, none⟩ = some v7 ∧ b.cell? ⟨g, 8, none⟩ = some v8 ∧ b.cell? ⟨g, 9, none⟩ = some v9 ∧ b.cell? ⟨g, 10, none⟩ = some v10 ∧ b.cell? ⟨g, 11, none⟩ = some v11 ∧ b.cell? ⟨g, 12, none⟩ = some v12 ∧ b.cell? ⟨g, 13, none⟩ = some v13 ∧ b.cell? ⟨g, 14, none⟩ = some v14 ∧ b.cell? ⟨g, 15, none⟩ = some v15 ∧ b.cell? ⟨g, 16, none⟩ = some v16 :=
  ⟨pw_cell_below hb h.1, pw_cell_below hb h.2.1, pw_cell_below hb h.2.2.1, pw_cell_below hb h.2.2.2.1, pw_cell_below hb h.2.2.2.2.1, pw_cell_below hb h.2.2.2.2.2.1, pw_cell_below hb h.2.2.2.2.2.2.1, pw_cell_below hb h.2.2.2.2.2.2.2.1, pw_cell_below hb h.2.2.2.2.2.2.2.2.1, pw_cell_below hb h.2.2.2.2.2.2.2.2.2.1, pw_cell_below hb h.2.2.2.2.2.2.2.2.2.2.1, pw_cell_below hb h.2.2.2.2.2.2.2.2.2.2.2.1, pw_cell_below hb h.2.2.2.2.2.2.2.2.2.2.2.2.1, pw_cell_below hb h.2.2.2.2.2.2.2.2.2.2.2.2.2.1, pw_cell_below hb h.2.2.2.2.2.2.2.2.2.2.2.2.2.2.1, pw_cell_below hb h.2.2.2.2.2.2.2.2.2.2.2.2.2.2.2.1, pw_cell_below hb h.2.2.2.2.2.2.2.2.2.2.2.2.2.2.2.2⟩
set_option maxHeartbeats 8000000 in
theorem right_hd (h : Hd) (A : Option Addr) (n c : Nat) (w : World) (hn : n ≤ 1000000) (ht : inB h.total 65535) :
    Calls Try.prog 15 #[.agg (hcs h A n c)] w fun e w' => e = .returned (.bool (rightB h n)) ∧ Below w.heap.size w w' := by
  have hl := fun W => len_hd h A n c W hn
  obtain ⟨tos, total, id, df, mf, frag, ttl, proto, s0, s1, s2, s3, d0, d1, d2, d3⟩ := h
  have hb := heap_alloc_new w (.cells (hcs ⟨tos, total, id, df, mf, frag, ttl, proto, s0, s1, s2, s3, d0, d1, d2, d3⟩ A n c) 39)
  have hcc := hd_cells hb
  have HB1 := Aside0.mk (below_alloc1 w (.cells (hcs ⟨tos, total, id, df, mf, frag, ttl, proto, s0, s1, s2, s3, d0, d1, d2, d3⟩ A n c) 39))
  clear hb
  dsimp only [hcs] at hcc hl HB1
  obtain ⟨c0, c1, c2, c3, c4, c5, c6, c7, c8, c9, c10, c11, c12, c13, c14, c15, c16⟩ := hcc
  go_enter Try.func15, Try.ntmps15
  go_wp2
  by_cases h1 : frag ≤ 8191
  · by_cases h2 : n % 4 = 0
    · have hq : ((n : Int).tmod 4 == 0) = true := by
        rw [Int.tmod_eq_emod_of_nonneg (by omega)]
        simp
        omega
      by_cases h3 : n ≤ 40
      · have H1 := Aside0.mk (And.intro h1 (And.intro h2 h3))
        have h3' : (n : Int) ≤ 40 := by omega
        have HW : Aside0 (IntKind.i64.wrap total = total) := ⟨by have h0 : 0 ≤ total := ht.1; have h1 : total ≤ 65535 := ht.2; simp [IntKind.wrap, IntKind.bits, IntKind.signed]; omega⟩
        go_region_held3 (fun w' => w'.cell? ⟨w.heap.size, 0, none⟩ = some (.int .u8 tos) ∧ w'.cell? ⟨w.heap.size, 1, none⟩ = some (.int .u16 total) ∧ w'.cell? ⟨w.heap.size, 2, none⟩ = some (.int .u16 id) ∧ w'.cell? ⟨w.heap.size, 3, none⟩ = some (.bool df) ∧ w'.cell? ⟨w.heap.size, 4, none⟩ = some (.bool mf) ∧ w'.cell? ⟨w.heap.size, 5, none⟩ = some (.int .u16 frag) ∧ w'.cell? ⟨w.heap.size, 6, none⟩ = some (.int .u8 ttl) ∧ w'.cell? ⟨w.heap.size, 7, none⟩ = some (.int .u8 proto) ∧ w'.cell? ⟨w.heap.size, 8, none⟩ = some (.int .u8 s0) ∧ w'.cell? ⟨w.heap.size, 9, none⟩ = some (.int .u8 s1) ∧ w'.cell? ⟨w.heap.size, 10, none⟩ = some (.int .u8 s2) ∧ w'.cell? ⟨w.heap.size, 11, none⟩ = some (.int .u8 s3) ∧ w'.cell? ⟨w.heap.size, 12, none⟩ = some (.int .u8 d0) ∧ w'.cell? ⟨w.heap.size, 13, none⟩ = some (.int .u8 d1) ∧ w'.cell? ⟨w.heap.size, 14, none⟩ = some (.int .u8 d2) ∧ w'.cell? ⟨w.heap.size, 15, none⟩ = some (.int .u8 d3) ∧ w'.cell? ⟨w.heap.size, 16, none⟩ = some (.slice A n c)) (first | exact ⟨c0, c1, c2, c3, c4, c5, c6, c7, c8, c9, c10, c11, c12, c13, c14, c15, c16⟩ | exact held17 hb2 ⟨c0, c1, c2, c3, c4, c5, c6, c7, c8, c9, c10, c11, c12, c13, c14, c15, c16⟩) (first | (go_at_call 31; go_must (with_reducible refine (hl _).mono ?_); rintro e w2 ⟨rfl, hb2⟩))
        all_goals (
          go_wp2
          go_ret
          refine ⟨ret_bool ?_, below_tr (below_drew (below_alloc1 w _)) hb2⟩
          have hx := H1.out
          rw [HW.out]
          exact decide_eq_decide.2 ⟨fun hh => ⟨hx.1, hx.2.1, hx.2.2, hh⟩, fun hh => hh.2.2.2⟩)
      · have H3 := Aside0.mk h3
        have hn40 : ¬ (n : Int) ≤ 40 := by omega
        go_quiet (fail)
        go_wp2
        go_ret
        exact ⟨ret_bool (show false = decide (frag ≤ 8191 ∧ n % 4 = 0 ∧ n ≤ 40 ∧ (20 : Int) + n ≤ total) from (decide_eq_false (by have hx := H3.out; intro hh; omega)).symm), pw_below_drewN HB1.out _⟩
    · have H2 := Aside0.mk h2
      have hq : ((n : Int).tmod 4 == 0) = false := by
        rw [Int.tmod_eq_emod_of_nonneg (by omega)]
        simp
        omega
      go_quiet (fail)
      go_wp2
      go_ret
      exact ⟨ret_bool (show false = decide (frag ≤ 8191 ∧ n % 4 = 0 ∧ n ≤ 40 ∧ (20 : Int) + n ≤ total) from (decide_eq_false (by have hx := H2.out; intro hh; omega)).symm), pw_below_drewN HB1.out _⟩
  · have H1 := Aside0.mk h1
    go_quiet (fail)
    go_wp2
    go_ret
    exact ⟨ret_bool (show false = decide (frag ≤ 8191 ∧ n % 4 = 0 ∧ n ≤ 40 ∧ (20 : Int) + n ≤ total) from (decide_eq_false (by have hx := H1.out; intro hh; omega)).symm), pw_below_drewN HB1.out _⟩
end Go.Proofs.Ytknpaihlnkcpgaa.Own
