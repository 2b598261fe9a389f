/- octroiref05.bit, Right, stands, Put. (written by wip/gen_ref5.py) -/
import Derived.Test.YtknpaihlnkcpgaaPut
import Derived.Test.YtknpaihlnkcpgaaRow
import Derived.Test.YtknpaihlnkcpgaaRefSum
import Derived.Test.YtknpaihlnkcpgaaRefOptions
set_option linter.unusedVariables false
set_option linter.unusedSimpArgs false
namespace Go.Proofs.Ytknpaihlnkcpgaa.Own
open Go.RowKit Go.Proofs.YtknpaihlnkcpgaaW.PrintWords Go.Proofs.YtknpaihlnkcpgaaW.PrintLast Go.Proofs.YtknpaihlnkcpgaaW.PrintMore
attribute [local go_sem ↓] ld11 sv_rh
attribute [local go_sem] run_sv_rh gv_some isV_some pick2_true stc nfz_false oc1_int oc1_bool oc1_string oc1_slice oc1_pointer oc1_func pick1_true setCells_new setCells_past setCells_drew

/-- the reference's header: its cells -/
abbrev rcs (h : Hd) (S D O : ByteArray) : Array Value := #[.int .u8 h.tos, .int .u16 h.total, .int .u16 h.id, .bool h.df, .bool h.mf, .int .u16 h.frag, .int .u8 h.ttl, .int .u8 h.proto, .string S, .string D, .string O]
theorem rh_cells {w : World} {g t : Nat} {h : Hd} {S D O : ByteArray} (hb : w.heap[g]? = some (.cells (rcs h S D O) t (0, 0))) :
    w.cell? ⟨g, 0, none⟩ = some (.int .u8 h.tos) ∧ w.cell? ⟨g, 1, none⟩ = some (.int .u16 h.total) ∧ w.cell? ⟨g, 2, none⟩ = some (.int .u16 h.id) ∧ w.cell? ⟨g, 3, none⟩ = some (.bool h.df) ∧ w.cell? ⟨g, 4, none⟩ = some (.bool h.mf) ∧ w.cell? ⟨g, 5, none⟩ = some (.int .u16 h.frag) ∧ w.cell? ⟨g, 6, none⟩ = some (.int .u8 h.ttl) ∧ w.cell? ⟨g, 7, none⟩ = some (.int .u8 h.proto) ∧ w.cell? ⟨g, 8, none⟩ = some (.string S) ∧ w.cell? ⟨g, 9, none⟩ = some (.string D) ∧ w.cell? ⟨g, 10, none⟩ = some (.string O) := by refine ⟨?_, ?_, ?_, ?_, ?_, ?_, ?_, ?_, ?_, ?_, ?_⟩ <;> (rw [blk_cell hb]; rfl)
theorem rof_at (b : List Int) (A : Option Addr) (n c : Nat) (w : World) (hr : Kd.C (Kd.int .u8) w A n b) (hb : bytes b) (hn : b.length ≤ 1048576) :
    Calls Try.prog 29 #[.slice A n c] w fun e w' => e = .returned (.int .u16 (ck b)) ∧ Below w.heap.size w w' := by
  obtain rfl := hr.1
  exact rof_any b A c w hr hb hn
theorem rbit_any (b : Bool) (f : Int) (w : World) :
    Calls Try.prog 48 #[.bool b, .int .u64 f] w fun e w' => e = .returned (.int .u64 (fl b f)) ∧ w = w' := by
  cases b
  · go_enter Try.func48, Try.ntmps48
    go_wp2
    go_ret
    exact ⟨rfl, rfl⟩
  · go_enter Try.func48, Try.ntmps48
    go_wp2
    go_ret
    exact ⟨rfl, rfl⟩
set_option maxRecDepth 100000 in
theorem rright_any (h : Hd) (S D O : ByteArray) (w : World) (ht : inB h.total 65535) (hO : O.size ≤ 1000000) :
    Calls Try.prog 16 #[.agg (rcs h S D O)] w fun e w' => e = .returned (.bool (rightB h O.size)) ∧ Below w.heap.size w w' := by
  obtain ⟨c0, c1, c2, c3, c4, c5, c6, c7, c8, c9, c10⟩ := rh_cells (heap_alloc_new w (.cells (rcs h S D O) 41))
  obtain ⟨t0, t1⟩ := ht
  have HR : Aside0 (rightB h O.size = decide (h.frag ≤ 8191 ∧ O.size % 4 = 0 ∧ O.size ≤ 40 ∧ (20 : Int) + O.size ≤ h.total)) := ⟨rfl⟩
  by_cases h1 : h.frag < 8192
  · by_cases h2 : (O.size : Int) % 4 = 0
    · by_cases h3 : O.size ≤ 40
      · by_cases h4 : (20 : Int) + O.size ≤ h.total
        · go_enter Try.func16, Try.ntmps16
          go_wp2
          go_ret
          exact ⟨ret_bool (by rw [HR.out]; simp; omega), below_alloc1 w _⟩
        · go_enter Try.func16, Try.ntmps16
          go_wp2
          go_ret
          exact ⟨ret_bool (by rw [HR.out]; simp; omega), below_alloc1 w _⟩
      · go_enter Try.func16, Try.ntmps16
        go_wp2
        go_ret
        exact ⟨ret_bool (by rw [HR.out]; simp; omega), below_alloc1 w _⟩
    · go_enter Try.func16, Try.ntmps16
      go_wp2
      go_ret
      exact ⟨ret_bool (by rw [HR.out]; simp; omega), below_alloc1 w _⟩
  · go_enter Try.func16, Try.ntmps16
    go_wp2
    go_ret
    exact ⟨ret_bool (by rw [HR.out]; simp; omega), below_alloc1 w _⟩

/-- where stands is: the header's box lies as it did, the row L is its own -/
def RSt (w W : World) (h : Hd) (S D O : ByteArray) (A : Option Addr) (n c : Nat) (L : List Int) : Prop :=
  Below (w.heap.size + 1) (w.alloc (.cells (rcs h S D O) 41)) W ∧ Kd.R (Kd.int .u8) 5 W (w.heap.size + 1) (fun _ => True) (.slice A n c) L
section
variable {w W W1 : World} {h : Hd} {S D O : ByteArray} {A B : Option Addr} {n c m d : Nat} {L ys : List Int}
theorem RSt.blk (hs : RSt w W h S D O A n c L) : W.heap[w.heap.size]? = some (.cells (rcs h S D O) 41 (0, 0)) :=
  (hs.1.block w.heap.size (by omega)).trans (heap_alloc_new w _)
theorem RSt.size (hs : RSt w W h S D O A n c L) : w.heap.size + 1 ≤ W.heap.size := by have := hs.1.size; simpa using this
theorem RSt.below (hs : RSt w W h S D O A n c L) (hb : Below W.heap.size W W1) : RSt w W1 h S D O A n c L := ⟨below_then hs.1 hs.size hb, Kd.R_below hs.2 hb⟩
theorem RSt.drew (hs : RSt w W h S D O A n c L) : RSt w W.drew h S D O A n c L := hs.below (below_drew (Below.refl _ _))
theorem RSt.all (hs : RSt w W h S D O A n c L) : Below w.heap.size w W := (below_alloc1 w _).trans (hs.1.mono (by omega))
theorem RSt.join (hs : RSt w W h S D O A n c L) (hC : Kd.C (Kd.int .u8) W B m ys) (hl : n + m ≤ 1000000) :
    Calls Try.prog 18 #[.slice A n c, .slice B m d] W fun e w' => ∃ A n c, e = .returned (.slice A n c) ∧ RSt w w' h S D O A n c (L ++ ys) := by
  refine (join_any L ys A B n c m d W (C_of_R hs.2).1 hC (by omega)).mono ?_
  rintro e w' ⟨A', n', c', rfl, hR, hb⟩
  exact ⟨_, _, _, rfl, (hs.below hb).1, Kd.R_lower hR hs.size⟩
theorem RSt.len (hs : RSt w W h S D O A n c L) : n = L.length := (C_of_R hs.2).1.1.symm
end
/-- the bytes of a header that is told by its numbers, and by what stands behind -/
def rst (h : Hd) (n : Nat) (R : List Int) (sum : Int) : List Int :=
  [(64 : Int) + (20 + (n : Int)) / 4, h.tos] ++ be 2 h.total ++ be 2 h.id ++ be 2 (fl h.df 16384 + fl h.mf 8192 + h.frag) ++ [h.ttl, h.proto] ++ be 2 sum ++ R
theorem wrap_fl (a b : Bool) (x : Int) (h0 : 0 ≤ x) (h1 : x ≤ 65535) : IntKind.u64.wrap (IntKind.u64.wrap (fl a 16384 + fl b 8192) + IntKind.u64.wrap x) = fl a 16384 + fl b 8192 + x := by
  have r1 : 0 ≤ fl a 16384 + fl b 8192 := by cases a <;> cases b <;> decide
  have r2 : fl a 16384 + fl b 8192 ≤ 24576 := by cases a <;> cases b <;> decide
  rw [wraps_u64 x h0 (by omega), wraps_u64 _ r1 (by omega), wraps_u64 _ (by omega) (by omega)]
theorem len_le {w : World} {A : Option Addr} {m k : Nat} {v : List Int} (h : Kd.C (Kd.int .u8) w A m v) (hk : v.length = k) (h100 : k ≤ 100 := by decide) : m ≤ 100 := by have := h.1; omega
theorem le_sum {a b : Nat} (ha : a ≤ 100) (hb : b ≤ 100) : a + b ≤ 1000000 := by omega
theorem fl_range (a b : Bool) (x : Int) (h0 : 0 ≤ x) (h1 : x ≤ 65535) : 0 ≤ fl a 16384 + fl b 8192 + x ∧ fl a 16384 + fl b 8192 + x ≤ 90111 := by cases a <;> cases b <;> simp [fl] <;> omega

set_option maxRecDepth 100000 in
set_option maxHeartbeats 4000000 in
theorem rstands_any (h : Hd) (S D O : ByteArray) (sum : Int) (w : World) (hok : h.ok) (hs0 : inB sum 65535) (hS : S.size ≤ 1000) (hD : D.size ≤ 1000) (hO : O.size ≤ 40) :
    Calls Try.prog 28 #[.agg (rcs h S D O), .int .u16 sum] w fun e w' => ∃ A n c, e = .returned (.slice A n c) ∧ Kd.R (Kd.int .u8) 5 w' w.heap.size (fun _ => True) (.slice A n c) (rst h O.size (inS (S ++ D ++ O)) sum) ∧ Below w.heap.size w w' := by
  obtain ⟨c0, c1, c2, c3, c4, c5, c6, c7, c8, c9, c10⟩ := rh_cells (heap_alloc_new w (.cells (rcs h S D O) 41))
  have HB0 := Aside0.mk (below_alloc1 w (.cells (rcs h S D O) 41))
  obtain ⟨⟨b0, b1⟩, ⟨b2, b3⟩, ⟨b4, b5⟩, ⟨b6, b7⟩, ⟨b8, b9⟩, ⟨b10, b11⟩, _⟩ := hok
  obtain ⟨s0, s1⟩ := hs0
  have hp1 := fun W => rput_at 1 1 rfl (64 + (20 + (O.size : Int)) / 4) W (by omega) (by omega) (by decide)
  have e1 : be 1 (64 + (20 + (O.size : Int)) / 4) = [64 + (20 + (O.size : Int)) / 4] := be1_of ⟨by omega, by omega⟩
  rw [e1] at hp1
  clear e1
  go_enter Try.func28, Try.ntmps28
  go_upto_region 2 with (go_at_call 45; go_must (with_reducible refine (hp1 _).mono ?_); rintro e w1 ⟨A1, n1, d1, rfl, hR1, hb1⟩)
  have h1 : RSt w w1 h S D O A1 n1 d1 [64 + (20 + (O.size : Int)) / 4] := ⟨by have := hb1; simpa using this, by have := hR1; simpa using this⟩
  clear hR1 hb1 hp1 c0 c1 c2 c3 c4 c5 c6 c7 c8 c9 c10
  obtain ⟨c0, c1, c2, c3, c4, c5, c6, c7, c8, c9, c10⟩ := rh_cells h1.blk
  have hy := C_new_bytes w1 [h.tos] (by simp)
  have HS := Aside0.mk h1
  clear h1
  go_upto_region 3 with (at_builtin; refine app_bytes (w.heap.size + 1) rfl (.tmp 14) (.tmp 17) rfl _ _ [h.tos] _ 1 1 rfl rfl (Kd.R_alloc HS.out.2 _) hy (HS.out.1.alloc HS.out.size _) (by have := HS.out.size; simp; omega) (by simp) ?_; intro A2 n2 d2 w2 hR2 hb2)
  have h2 : RSt w w2 h S D O A2 n2 d2 ([64 + (20 + (O.size : Int)) / 4] ++ [h.tos]) := ⟨hb2, hR2⟩
  clear hR2 hb2 hy HS c0 c1 c2 c3 c4 c5 c6 c7 c8 c9 c10
  obtain ⟨c0, c1, c2, c3, c4, c5, c6, c7, c8, c9, c10⟩ := rh_cells h2.blk
  have hp := fun W => rput_at 2 2 rfl (h.total) W (by omega) (by omega) (by decide)
  have HS := Aside0.mk h2
  have HL := Aside0.mk (be_length 2 (h.total))
  have hn2 : n2 ≤ 100 := by have := h2.len; simp [be_length] at this; omega
  clear h2
  go_upto_region 4 with (first | (go_at_call 45; go_must (with_reducible refine (hp _).mono ?_); rintro e w0 ⟨B, m, d, rfl, hR, hb⟩; have hC := (C_of_R hR).1; have hm : m ≤ 100 := len_le hC HL.out) | (go_at_call 18; go_must (with_reducible refine ((HS.out.below hb).join hC (le_sum hn2 hm)).mono ?_); rintro e w3 ⟨A3, n3, d3, rfl, h3⟩))
  clear HS hp hR hb hC hm hn2 HL c0 c1 c2 c3 c4 c5 c6 c7 c8 c9 c10
  obtain ⟨c0, c1, c2, c3, c4, c5, c6, c7, c8, c9, c10⟩ := rh_cells h3.blk
  have hp := fun W => rput_at 2 2 rfl (h.id) W (by omega) (by omega) (by decide)
  have HS := Aside0.mk h3
  have HL := Aside0.mk (be_length 2 (h.id))
  have hn3 : n3 ≤ 100 := by have := h3.len; simp [be_length] at this; omega
  clear h3
  go_upto_region 5 with (first | (go_at_call 45; go_must (with_reducible refine (hp _).mono ?_); rintro e w0 ⟨B, m, d, rfl, hR, hb⟩; have hC := (C_of_R hR).1; have hm : m ≤ 100 := len_le hC HL.out) | (go_at_call 18; go_must (with_reducible refine ((HS.out.below hb).join hC (le_sum hn3 hm)).mono ?_); rintro e w4 ⟨A4, n4, d4, rfl, h4⟩))
  clear HS hp hR hb hC hm hn3 HL c0 c1 c2 c3 c4 c5 c6 c7 c8 c9 c10
  have HS := Aside0.mk h4
  have hn4 : n4 ≤ 100 := by have := h4.len; simp [be_length] at this; omega
  clear h4
  go_cut [5] (fun v wx => ∃ A n d, v = .slice A n d ∧ Aside0 (RSt w wx h S D O A n d ([64 + (20 + (O.size : Int)) / 4] ++ [h.tos] ++ be 2 h.total ++ be 2 h.id ++ be 2 (fl h.df 16384 + fl h.mf 8192 + h.frag))))
  case first =>
    obtain ⟨c0, c1, c2, c3, c4, c5, c6, c7, c8, c9, c10⟩ := rh_cells HS.out.blk
    obtain ⟨f0, f1⟩ := fl_range h.df h.mf h.frag b6 b7
    have hp := fun W => rput_at 2 2 rfl (fl h.df 16384 + fl h.mf 8192 + h.frag) W f0 (by omega) (by decide)
    have HL := Aside0.mk (be_length 2 (fl h.df 16384 + fl h.mf 8192 + h.frag))
    have hw1 : IntKind.u64.wrap (fl h.df 16384 + fl h.mf 8192) = fl h.df 16384 + fl h.mf 8192 := wraps_u64 _ (by cases h.df <;> cases h.mf <;> decide) (by cases h.df <;> cases h.mf <;> decide)
    have hw2 : IntKind.u64.wrap h.frag = h.frag := wraps_u64 _ b6 (by omega)
    have hw3 : IntKind.u64.wrap (fl h.df 16384 + fl h.mf 8192 + h.frag) = fl h.df 16384 + fl h.mf 8192 + h.frag := wraps_u64 _ f0 (by omega)
    go_region_held3 (fun w' => w'.cell? ⟨w.heap.size, 3, none⟩ = some (.bool h.df) ∧ w'.cell? ⟨w.heap.size, 4, none⟩ = some (.bool h.mf) ∧ w'.cell? ⟨w.heap.size, 5, none⟩ = some (.int .u16 h.frag)) (first | exact ⟨c3, c4, c5⟩ | exact ⟨pw_cell_below hb c3, pw_cell_below hb c4, pw_cell_below hb c5⟩ | exact ⟨(rh_cells h5.blk).2.2.2.1, (rh_cells h5.blk).2.2.2.2.1, (rh_cells h5.blk).2.2.2.2.2.1⟩) (first | (go_at_call 48; go_must (with_reducible refine (rbit_any _ _ _).mono ?_); rintro e w0 ⟨rfl, rfl⟩) | (go_at_call 45; go_must (with_reducible refine (hp _).mono ?_); rintro e w0 ⟨B, m, d, rfl, hR, hb⟩; have hC := (C_of_R hR).1; have hm : m ≤ 100 := len_le hC HL.out) | (go_at_call 18; go_must (with_reducible refine ((HS.out.drew.below hb).join hC (le_sum hn4 hm)).mono ?_); rintro e w5 ⟨A5, n5, d5, rfl, h5⟩))
    all_goals (
      go_wp2
      go_meet
      exact ⟨_, _, _, rfl, ⟨h5⟩⟩)
  case rest =>
    clear HS hn4
    obtain ⟨A5, n5, d5, rfl, HS⟩ := hcut
    obtain ⟨c0, c1, c2, c3, c4, c5, c6, c7, c8, c9, c10⟩ := rh_cells HS.out.blk
    have hn5 : n5 ≤ 100 := by have := HS.out.len; simp [be_length] at this; omega
    have hy := C_new_bytes wc [h.ttl, h.proto] (by simp)
    go_upto_region 7 with (at_builtin; refine app_bytes (w.heap.size + 1) rfl (.tmp 45) (.tmp 50) rfl _ _ [h.ttl, h.proto] _ 2 2 rfl rfl (Kd.R_alloc HS.out.2 _) hy (HS.out.1.alloc HS.out.size _) (by have := HS.out.size; simp; omega) (by simp [be_length]) ?_; intro A6 n6 d6 w6 hR6 hb6)
    have h6 : RSt w w6 h S D O A6 n6 d6 ([64 + (20 + (O.size : Int)) / 4] ++ [h.tos] ++ be 2 h.total ++ be 2 h.id ++ be 2 (fl h.df 16384 + fl h.mf 8192 + h.frag) ++ [h.ttl, h.proto]) := ⟨hb6, hR6⟩
    have hn6 : n6 ≤ 100 := by have := h6.len; simp [be_length] at this; omega
    clear hR6 hb6 hy HS c0 c1 c2 c3 c4 c5 c6 c7 c8 c9 c10 hn5
    have hp := fun W => rput_at 2 2 rfl sum W s0 (by omega) (by decide)
    have HS := Aside0.mk h6
    have HL := Aside0.mk (be_length 2 sum)
    clear h6
    go_upto_region 8 with (first | (go_at_call 45; go_must (with_reducible refine (hp _).mono ?_); rintro e w0 ⟨B, m, d, rfl, hR, hb⟩; have hC := (C_of_R hR).1; have hm : m ≤ 100 := len_le hC HL.out) | (go_at_call 18; go_must (with_reducible refine ((HS.out.below hb).join hC (le_sum hn6 hm)).mono ?_); rintro e w7 ⟨A7, n7, d7, rfl, h7⟩))
    have hn7 : n7 ≤ 100 := by have := h7.len; simp [be_length] at this; omega
    clear HS hp hR hb hC hm hn6 HL
    obtain ⟨c0, c1, c2, c3, c4, c5, c6, c7, c8, c9, c10⟩ := rh_cells h7.blk
    have HS := Aside0.mk h7
    clear h7
    have kb := fun W => print_bytes (P := Try.prog) 9 22 5 Try.underlying9 Try.underlying22 Try.underlying5 (S ++ D ++ O) W
    have hsz : (S ++ D ++ O).size = S.size + D.size + O.size := by simp [ByteArray.size_append]
    have HBB := Aside0.mk (bytes_below (Below.refl w7.heap.size w7) (Nat.le_refl _) 5 (S ++ D ++ O))
    have HCB : Aside0 (Kd.C (Kd.int .u8) (Lib.bytesWorld w7 5 (S ++ D ++ O)) (some ⟨w7.heap.size, 0, none⟩) (S ++ D ++ O).size (inS (S ++ D ++ O))) := ⟨Kd.C_of_reads (enc := Value.int .u8) (d := (0 : Int)) (h1 := fun _ => rfl) (bytes_reads w7 5 (S ++ D ++ O) (by omega))⟩
    have hln : n7 + (S ++ D ++ O).size ≤ 1000000 := by omega
    rw [hsz] at HCB hln
    clear hsz
    go_wp2_with (go_at_call 18; go_must (with_reducible refine ((HS.out.below HBB.out).join HCB.out hln).mono ?_); rintro e w8 ⟨A8, n8, d8, rfl, h8⟩)
    go_ret
    exact ⟨_, _, _, rfl, Kd.R_lower h8.2 (by omega), h8.all⟩

set_option maxRecDepth 100000 in
set_option maxHeartbeats 4000000 in
theorem rput5_wrong (h : Hd) (S D O : ByteArray) (w : World) (hok : h.ok) (hO : O.size ≤ 1000) (hr : rightB h O.size = false) :
    Calls Try.prog 12 #[.agg (rcs h S D O)] w fun e w' => e = .returned (.tuple #[.slice none 0 0, .int .i64 51]) ∧ Below w.heap.size w w' := by
  obtain ⟨c0, c1, c2, c3, c4, c5, c6, c7, c8, c9, c10⟩ := rh_cells (heap_alloc_new w (.cells (rcs h S D O) 41))
  have hq := rright_any h S D O (w.alloc (.cells (rcs h S D O) 41)) hok.2.1 (by omega)
  rw [hr] at hq
  clear hr hok
  go_enter Try.func12, Try.ntmps12
  go_wp2_with (go_at_call 16; go_must (with_reducible refine hq.mono ?_); rintro e w1 ⟨rfl, hb1⟩)
  refine bodyPost_ret (results_tmp2 rfl _ _ _) rfl ?_
  exact ⟨rfl, below_tr (below_alloc1 w _) hb1⟩
theorem bytes_rst {h : Hd} {n : Nat} {R : List Int} {s : Int} (hok : h.ok) (hn : n ≤ 40) (hR : bytes R) : bytes (rst h n R s) := by
  obtain ⟨a1, a2, a3, a4, a5, a6, _⟩ := hok
  unfold rst
  simp only [bytes_append]
  exact ⟨⟨⟨⟨⟨⟨bytes_two' ⟨by omega, by omega⟩ a1, bytes_be _ _⟩, bytes_be _ _⟩, bytes_be _ _⟩, bytes_two' a5 a6⟩, bytes_be _ _⟩, hR⟩
set_option maxRecDepth 100000 in
set_option maxHeartbeats 4000000 in
theorem rput5_right (h : Hd) (S D O : ByteArray) (w : World) (hok : h.ok) (hS : S.size ≤ 1000) (hD : D.size ≤ 1000) (hr : rightB h O.size = true) :
    Calls Try.prog 12 #[.agg (rcs h S D O)] w fun e w' => ∃ A n c, e = .returned (.tuple #[.slice A n c, .int .i64 0]) ∧ Kd.R (Kd.int .u8) 5 w' w.heap.size (fun _ => True) (.slice A n c) (rst h O.size (inS (S ++ D ++ O)) (ck (rst h O.size (inS (S ++ D ++ O)) 0))) ∧ Below w.heap.size w w' := by
  have hR : h.frag ≤ 8191 ∧ O.size % 4 = 0 ∧ O.size ≤ 40 ∧ (20 : Int) + O.size ≤ h.total := of_decide_eq_true hr
  have hO := hR.2.2.1
  obtain ⟨c0, c1, c2, c3, c4, c5, c6, c7, c8, c9, c10⟩ := rh_cells (heap_alloc_new w (.cells (rcs h S D O) 41))
  have hq := rright_any h S D O (w.alloc (.cells (rcs h S D O) 41)) hok.2.1 (by omega)
  rw [hr] at hq
  have hby : bytes (rst h O.size (inS (S ++ D ++ O)) 0) := bytes_rst hok hO (inS_bytes _)
  have hck := ck_range _ hby
  have hsz : (S ++ D ++ O).size = S.size + D.size + O.size := by simp [ByteArray.size_append]
  have hll : (rst h O.size (inS (S ++ D ++ O)) 0).length ≤ 1048576 := by simp [rst, be_length, inS_length]; omega
  have hst := fun (s : Int) (hs : inB s 65535) W => rstands_any h S D O s W hok hs hS hD hO
  obtain ⟨L, eL⟩ : ∃ L, rst h O.size (inS (S ++ D ++ O)) 0 = L := ⟨_, rfl⟩
  have hst0 := hst 0 ⟨by decide, by decide⟩
  rw [eL] at hst0 hby hck hll ⊢
  obtain ⟨v, ev⟩ : ∃ v, ck L = v := ⟨_, rfl⟩
  have hof := fun W A n c (hC : Kd.C (Kd.int .u8) W A n L) => rof_at L A n c W hC hby hll
  rw [ev] at hck hof ⊢
  have hstv := hst v ⟨hck.1, by omega⟩
  have HB1 : ∀ {W W1 : World}, Below W.heap.size W W1 → ∀ i u, W.cell? ⟨w.heap.size, i, none⟩ = some u → W1.cell? ⟨w.heap.size, i, none⟩ = some u := fun hb i u hc => pw_cell_below hb hc
  have HKEEP : ∀ {W W1 : World}, Below W.heap.size W W1 → (W.cell? ⟨w.heap.size, 0, none⟩ = some (.int .u8 h.tos) ∧ W.cell? ⟨w.heap.size, 1, none⟩ = some (.int .u16 h.total) ∧ W.cell? ⟨w.heap.size, 2, none⟩ = some (.int .u16 h.id) ∧ W.cell? ⟨w.heap.size, 3, none⟩ = some (.bool h.df) ∧ W.cell? ⟨w.heap.size, 4, none⟩ = some (.bool h.mf) ∧ W.cell? ⟨w.heap.size, 5, none⟩ = some (.int .u16 h.frag) ∧ W.cell? ⟨w.heap.size, 6, none⟩ = some (.int .u8 h.ttl) ∧ W.cell? ⟨w.heap.size, 7, none⟩ = some (.int .u8 h.proto) ∧ W.cell? ⟨w.heap.size, 8, none⟩ = some (.string S) ∧ W.cell? ⟨w.heap.size, 9, none⟩ = some (.string D) ∧ W.cell? ⟨w.heap.size, 10, none⟩ = some (.string O)) → (W1.cell? ⟨w.heap.size, 0, none⟩ = some (.int .u8 h.tos) ∧ W1.cell? ⟨w.heap.size, 1, none⟩ = some (.int .u16 h.total) ∧ W1.cell? ⟨w.heap.size, 2, none⟩ = some (.int .u16 h.id) ∧ W1.cell? ⟨w.heap.size, 3, none⟩ = some (.bool h.df) ∧ W1.cell? ⟨w.heap.size, 4, none⟩ = some (.bool h.mf) ∧ W1.cell? ⟨w.heap.size, 5, none⟩ = some (.int .u16 h.frag) ∧ W1.cell? ⟨w.heap.size, 6, none⟩ = some (.int .u8 h.ttl) ∧ W1.cell? ⟨w.heap.size, 7, none⟩ = some (.int .u8 h.proto) ∧ W1.cell? ⟨w.heap.size, 8, none⟩ = some (.string S) ∧ W1.cell? ⟨w.heap.size, 9, none⟩ = some (.string D) ∧ W1.cell? ⟨w.heap.size, 10, none⟩ = some (.string O)) := fun hb hc => ⟨pw_cell_below hb hc.1, pw_cell_below hb hc.2.1, pw_cell_below hb hc.2.2.1, pw_cell_below hb hc.2.2.2.1, pw_cell_below hb hc.2.2.2.2.1, pw_cell_below hb hc.2.2.2.2.2.1, pw_cell_below hb hc.2.2.2.2.2.2.1, pw_cell_below hb hc.2.2.2.2.2.2.2.1, pw_cell_below hb hc.2.2.2.2.2.2.2.2.1, pw_cell_below hb hc.2.2.2.2.2.2.2.2.2.1, pw_cell_below hb hc.2.2.2.2.2.2.2.2.2.2⟩
  have HKP := Aside0.mk @HKEEP
  clear HB1 HKEEP hst hr hR hok hsz eL ev hby hll hck
  go_enter Try.func12, Try.ntmps12
  go_upto_region 3 with (go_at_call 16; go_must (with_reducible refine hq.mono ?_); rintro e w1 ⟨rfl, hb1⟩)
  have hk1 := HKP.out hb1 ⟨c0, c1, c2, c3, c4, c5, c6, c7, c8, c9, c10⟩
  have HB := Aside0.mk (below_tr (below_alloc1 w _) hb1)
  clear hb1 hq c0 c1 c2 c3 c4 c5 c6 c7 c8 c9 c10
  go_region_held3 (fun w' => w'.cell? ⟨w.heap.size, 0, none⟩ = some (.int .u8 h.tos) ∧ w'.cell? ⟨w.heap.size, 1, none⟩ = some (.int .u16 h.total) ∧ w'.cell? ⟨w.heap.size, 2, none⟩ = some (.int .u16 h.id) ∧ w'.cell? ⟨w.heap.size, 3, none⟩ = some (.bool h.df) ∧ w'.cell? ⟨w.heap.size, 4, none⟩ = some (.bool h.mf) ∧ w'.cell? ⟨w.heap.size, 5, none⟩ = some (.int .u16 h.frag) ∧ w'.cell? ⟨w.heap.size, 6, none⟩ = some (.int .u8 h.ttl) ∧ w'.cell? ⟨w.heap.size, 7, none⟩ = some (.int .u8 h.proto) ∧ w'.cell? ⟨w.heap.size, 8, none⟩ = some (.string S) ∧ w'.cell? ⟨w.heap.size, 9, none⟩ = some (.string D) ∧ w'.cell? ⟨w.heap.size, 10, none⟩ = some (.string O)) (first | exact hk1 | exact HKP.out hb2 hk1 | exact HKP.out hb3 (HKP.out hb2 hk1) | exact HKP.out hb4 (HKP.out hb3 (HKP.out hb2 hk1))) (first | (go_at_call 29; go_must (with_reducible refine (hof _ _ _ _ (C_of_R hR2).1).mono ?_); rintro e w3 ⟨rfl, hb3⟩) | (go_at_call 28; (with_reducible refine (hst0 _).mono ?_); rintro e w2 ⟨A2, n2, c2, rfl, hR2, hb2⟩) | (go_at_call 28; go_must (with_reducible refine (hstv _).mono ?_); rintro e w4 ⟨A4, n4, c4, rfl, hR4, hb4⟩))
  go_wp2
  refine bodyPost_ret (results_tmp2 rfl _ _ _) rfl ?_
  refine ⟨_, _, _, rfl, Kd.R_lower hR4 (by have := HB.out.size; have := hb2.size; have := hb3.size; simp at *; omega), ?_⟩
  exact below_tr (below_tr (below_tr (below_drew HB.out) hb2) hb3) hb4
end Go.Proofs.Ytknpaihlnkcpgaa.Own
