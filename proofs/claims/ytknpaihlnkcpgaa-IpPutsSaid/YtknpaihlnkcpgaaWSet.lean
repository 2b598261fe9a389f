/- bits.Writer.Set. -/
import Derived.Test.YtknpaihlnkcpgaaWriter
import Derived.Laws.CopyOwn
set_option linter.unusedVariables false
set_option linter.unusedSimpArgs false
namespace Go.Proofs.Ytknpaihlnkcpgaa.Own
open Go.RowKit Go.Proofs.YtknpaihlnkcpgaaW.PrintWords Go.Proofs.YtknpaihlnkcpgaaW.PrintLast Go.Proofs.YtknpaihlnkcpgaaW.PrintMore

theorem one_u8 : (Try.prog.info? 5).map (·.size) = some 1 := by kernel_rfl
theorem splice_len (L : List Int) (k : Nat) (l : List Int) (h : k + l.length ≤ L.length) : (splice L k l).length = L.length := length_splice L k l h
theorem splice_cells (cur : List Value) (bs l : List Int) (k m c : Nat) (hm : bs.length = m) (hk : k + l.length ≤ m) (htk : cur.take m = encs (Value.int .u8) bs) (hmc : m ≤ cur.length) (hc : c = l.length) :
    (cur.take k ++ (nums .u8 l ++ cur.drop (k + c))).length = cur.length ∧ (cur.take k ++ (nums .u8 l ++ cur.drop (k + c))).take m = encs (Value.int .u8) (splice bs k l) := by
  subst hc
  have hn : (nums .u8 l).length = l.length := nums_length _ _
  refine ⟨by simp [hn]; omega, ?_⟩
  have hcur : cur = encs (Value.int .u8) bs ++ cur.drop m := by rw [← htk, List.take_append_drop]
  have hel : (encs (Value.int .u8) bs).length = m := by simp [encs, hm]
  rw [hcur]
  generalize cur.drop m = R
  have e1 : (encs (Value.int .u8) bs ++ R).take k = (encs (Value.int .u8) bs).take k := List.take_append_of_le_length (by omega)
  have e2 : (encs (Value.int .u8) bs ++ R).drop (k + l.length) = (encs (Value.int .u8) bs).drop (k + l.length) ++ R := List.drop_append_of_le_length (by omega)
  rw [e1, e2, ← List.append_assoc, ← List.append_assoc]
  have hlen : (List.take k (encs (Value.int .u8) bs) ++ nums .u8 l ++ List.drop (k + l.length) (encs (Value.int .u8) bs)).length = m := by
    simp [hn, hel]; omega
  rw [List.take_left' hlen]
  simp [encs, splice, nums, List.map_take, List.map_drop]
set_option maxRecDepth 100000 in
set_option maxHeartbeats 4000000 in
theorem wset_any (base g t : Nat) (bs : List Int) (k : Nat) (v : Int) (n : Nat) (w : World) (hw : WrAt w base g t bs) (hbase : base ≤ g) (ht : t ≠ 5) (hbn : bs.length ≤ 1000000)
    (h0 : 0 ≤ v) (h1 : v < 256 ^ 8) (hn : 1 ≤ n) (hn8 : n ≤ 8) (hv : v < 256 ^ n) (hk : k + n ≤ bs.length) :
    Calls Try.prog 35 #[.pointer (some ⟨g, 0, none⟩), .int .i64 k, .int .u64 v, .int .i64 n] w fun e w' => e = .returned (.int .i64 0) ∧ WrAt w' base g t (splice bs k (be n v)) ∧ Below g w w' := by
  have hf := fits_any v n w h0 h1
  rw [fits_ok v n h0 h1 hn hn8 hv] at hf
  have ho := fun W => num_of v n W h0 h1 hn8
  obtain ⟨x, hg, hR⟩ := hw
  have hown := Kd.own_of_R hR
  obtain ⟨hlen, ⟨_, hz⟩ | ⟨g0, cap, cur, rfl, hgb, hg0, hcap, hmax, hcs, htk⟩⟩ := hown
  · omega
  have hlt := blk_lt hg
  have hg0lt : g < g0 := hR.1 g0 rfl
  obtain ⟨m, hm⟩ : ∃ m, bs.length = m := ⟨_, rfl⟩
  rw [hm] at hg hR hcap htk hk hbn
  have hcell : w.cell? ⟨g, 0, none⟩ = some (.slice (some ⟨g0, 0, none⟩) m cap) := (blk_cell hg 0).trans rfl
  have HN := Aside0.mk (be_length n v)
  have hspl : (splice bs k (be n v)).length = m := by rw [splice_len bs k (be n v) (by rw [be_length]; omega), hm]
  have hml := be_length n v
  have hSC := Aside0.mk (splice_cells cur.toList bs (be n v) k m ((be n v).length.min (m - k)) hm (by rw [hml]; omega) (by simpa using htk) (by simp; omega) (by rw [hml]; exact Nat.min_eq_left (by omega)))
  clear h1 hv hml
  go_enter Try.func35, Try.ntmps35
  have d1 : ¬ (k : Int) < 0 := by omega
  have d2 : ¬ (m : Int) < k := by omega
  have d3 : ¬ (m : Int) - k < n := by omega
  go_wp2_with (go_at_call 52; (with_reducible refine hf.mono ?_); clear hf; rintro e w' ⟨rfl, rfl⟩)
  have hkm : k ≤ m := by omega
  have hkc : k < cap := by omega
  clear d1 d2 d3
  have hg0l := blk_lt hg0
  have hbp : 0 < (be n v).length := by rw [HN.out]; omega
  have hmin : (nums .u8 (be n v)).length = Nat.min (be n v).length (m - k) := by rw [nums_length, HN.out]; exact (Nat.min_eq_left (by omega)).symm
  have hfit : k + (nums .u8 (be n v)).length ≤ cur.size := by rw [nums_length, HN.out]; omega
  have hone : ∀ u ∈ nums .u8 (be n v), u.oneCell' = true := by
    intro u hu
    obtain ⟨z, _, rfl⟩ := List.mem_map.1 hu
    rfl
  go_region_held3 (fun w' => w'.cell? ⟨g, 0, none⟩ = some (.slice (some ⟨g0, 0, none⟩) m cap)) (first | exact hcell | exact pw_cell_below hb1 hcell | exact ((below_setRow (Below.refl g0 w1) (Nat.le_refl _) _).cell (p := ⟨g, 0, none⟩) hg0lt).trans (pw_cell_below hb1 hcell)) (first | (go_at_call 53; (with_reducible refine (ho _).mono ?_); rintro e w1 ⟨x, rfl, hx, hb1⟩; obtain ⟨g1, c1, rfl, _⟩ := Kd.R_form hx hbp; have hcp := run_copy_row (P := Try.prog) w1 22 22 3 5 g0 k (m - k) (cap - k) ⟨g1, 0, none⟩ (be n v).length c1 cur 5 (nums .u8 (be n v)) Try.underlying22 one_u8 ((hb1.block g0 hg0l).trans hg0) hmin ((Kd.own_of_R hx).cells rfl) hfit hone))
  all_goals (
    have hg1 := (hb1.block g (by exact hlt)).trans hg
    have hg01 := (hb1.block g0 hg0l).trans hg0
    clear hcp
    go_wp2
    go_ret
    refine ⟨rfl, ⟨_, (setRow_other _ _ _ _ (by omega)).trans hg1, Kd.R_of_own (h1 := fun _ => rfl) ⟨by simp [encs], .inr ⟨g0, cap, _, by rw [hspl], hgb, setRow_heap _ _ _ _ _ _ hg01, by rw [hspl]; exact hcap, hmax, ?_, ?_⟩⟩ (fun i hi => by cases hi; exact hg0lt)⟩, ?_⟩
    · have h := hSC.out.1
      rw [List.size_toArray, h]
      simpa using hcs
    · have h := hSC.out.2
      rw [hspl, Nat.mul_one]
      exact h
    · exact ((Below.refl g w).drew.trans (hb1.mono (Nat.le_of_lt hlt))).trans (below_setRow (Below.refl g w1) (Nat.le_of_lt hg0lt) _))
end Go.Proofs.Ytknpaihlnkcpgaa.Own
