/- slices.Grow of nil, slices.Concat of rows of bytes. -/
import Derived.Test.YtknpaihlnkcpgaaWriter
import Derived.Lib.AppendZerosOnto
import Derived.Lib.Walk
import Derived.Lib.SliceRun
set_option linter.unusedVariables false
set_option linter.unusedSimpArgs false
namespace Go.Proofs.Ytknpaihlnkcpgaa.Own
open Go.RowKit Go.Proofs.YtknpaihlnkcpgaaW.PrintWords Go.Proofs.YtknpaihlnkcpgaaW.PrintLast Go.Proofs.YtknpaihlnkcpgaaW.PrintMore

set_option maxRecDepth 100000 in
set_option maxHeartbeats 4000000 in
theorem grow_nil (n : Nat) (w : World) (hn : n ≤ 1000000) :
    Calls Try.prog 51 #[.slice none 0 0, .int .i64 n] w fun e w' => ∃ v, e = .returned v ∧ Kd.R (Kd.int .u8) 5 w' w.heap.size (fun _ => True) v [] ∧ Below w.heap.size w w' := by
  obtain ⟨i0, hi, hzz⟩ := Option.map_eq_some_iff.1 info_u8
  simp only [Prod.mk.injEq] at hzz
  obtain ⟨hz0, hz1, hz2⟩ := hzz
  by_cases h0 : n = 0
  · subst h0
    go_enter Try.func51, Try.ntmps51
    go_wp2
    go_ret
    exact ⟨_, rfl, Kd.R_nil _ _ _ _ _, Below.refl _ _⟩
  · have hpos : 0 < n := by omega
    have hrz := fun ty => Lib.run_append_grow_zeros (P := Try.prog) w 22 3 ty 5 i0 (.int .u8 0) .i64 .i64 Try.underlying22 Try.underlying3 hi hz0 none 0 0 [] (run_firstCells_none w.drew i0.size 0 0 0) n hpos (by omega) (by omega) (by omega) (by rw [hz2]; omega)
      (growslice_fits (by omega) (by rw [hz2]; omega))
    have hG := grownCap_ge w (0 + n) 0 5
    have hG2 := grownCap_le_maxLen w (0 + n) 0 5 (by unfold maxLen; omega)
    obtain ⟨G, eG⟩ : ∃ G, grownCap w (0 + n) 0 5 = G := ⟨_, rfl⟩
    rw [eG] at hrz hG hG2
    have hG63 : G ≤ 9223372036854775807 := by unfold maxLen at hG2; omega
    have HR : Kd.R (Kd.int .u8) 5 (w.drew.alloc (.cells ((([] : List Value).toArray ++ Builtin.zeroCells (Value.int .u8 0).cells n ++ Builtin.zeroCells (Value.int .u8 0).cells (G - (0 + n)))) 5)) w.heap.size (fun _ => True) (.slice (some ⟨w.heap.size, 0, none⟩) 0 G) [] :=
      Kd.R_of_own (h1 := fun _ => rfl) ⟨rfl, .inr ⟨w.heap.size, G, _, rfl, Nat.le_refl _, heap_alloc_new w.drew _, Nat.zero_le _, hG2, by simp [Builtin.zeroCells, Value.cells]; omega, rfl⟩⟩ (fun _ _ => trivial)
    have HB := (Below.refl w.heap.size w).drew.alloc (Nat.le_refl _) (.cells ((([] : List Value).toArray ++ Builtin.zeroCells (Value.int .u8 0).cells n ++ Builtin.zeroCells (Value.int .u8 0).cells (G - (0 + n)))) 5)
    have h63 : n ≤ 9223372036854775807 := by omega
    clear eG hG
    go_enter Try.func51, Try.ntmps51
    go_wp2_with (at_builtin; refine Lib.wpList_append_run _ rfl _ _ _ _ rfl _ _ rfl rfl _ _ (hrz _) ?_)
    go_ret
    exact ⟨_, rfl, by have h := HR; simp [Value.cells] at h; exact h, by have h := HB; simp [Value.cells] at h; exact h⟩

theorem take_flat (l : List (List Int)) (k : Nat) (h : k < l.length) : (l.take (k + 1)).flatten = (l.take k).flatten ++ l.getD k [] := by
  rw [List.take_add_one, List.getD_eq_getElem?_getD, List.getElem?_eq_getElem h, List.flatten_append]
  simp
set_option maxRecDepth 100000 in
set_option maxHeartbeats 4000000 in
/-- slices.Concat of a few rows of bytes, which lie in block b -/
theorem concat_any (l : List (List Int)) (A : Option Addr) (n c : Nat) (w : World) (hC : Kd.C (Kd.slice 5 (Kd.int .u8)) w A n l) (hn : n ≤ 100) (hl : l.flatten.length ≤ 1000000) :
    Calls Try.prog 34 #[.slice A n c] w fun e w' => ∃ v, e = .returned v ∧ Kd.R (Kd.int .u8) 5 w' w.heap.size (fun _ => True) v l.flatten ∧ Below w.heap.size w w' := by
  have HC := Aside0.mk hC
  have hll : l.length = n := hC.1
  have HL := Aside0.mk hll
  have HF := Aside0.mk hl
  clear hC hll hl
  go_enter Try.func34, Try.ntmps34
  go_wp2
  go_loop [3, 5, 11] (fun p _ q => ∃ (k : Nat), k ≤ n ∧ q = .int .i64 k ∧ p = .int .i64 (l.take k).flatten.length) (fun _ _ q => n - (intOf q).toNat)
  case atStart => exact ⟨0, by omega, rfl, rfl⟩
  case round =>
    obtain ⟨k, hk, rfl, rfl⟩ := hrel
    by_cases hkn : k < n
    · obtain ⟨ad, A0, c0, rfl, hcx, hlx, hrx⟩ := at_rows HC.out k hkn
      have hkl : k < l.length := by rw [HL.out]; exact hkn
      have htk : (l.take (k + 1)).flatten.length = (l.take k).flatten.length + (l.getD k []).length := by
        rw [take_flat l k hkl, List.length_append]
      have hle : (l.take (k + 1)).flatten.length ≤ 1000000 := by
        have h := congrArg List.length (congrArg List.flatten (List.take_append_drop (k + 1) l))
        rw [List.flatten_append, List.length_append] at h
        have := HF.out
        omega
      rw [htk] at hle
      obtain ⟨a, ea⟩ : ∃ a, (l.take k).flatten.length = a := ⟨_, rfl⟩
      obtain ⟨m, em⟩ : ∃ m, (l.getD k []).length = m := ⟨_, rfl⟩
      rw [ea, em] at hle htk
      rw [em] at hcx hlx
      rw [ea]
      have HTK := Aside0.mk htk
      clear htk hrx ea em hkl
      go_wp2
      go_round
      case rel => exact ⟨k + 1, by omega, by go_num, by rw [HTK.out]; go_num⟩
      case measure => simp [intOf]; omega
    · have e : k = n := by omega
      subst e
      have hfl : (l.take k).flatten.length = l.flatten.length := by rw [List.take_of_length_le (by rw [HL.out]; exact Nat.le_refl _)]
      rw [hfl]
      obtain ⟨N, eN⟩ : ∃ N, l.flatten.length = N := ⟨_, rfl⟩
      have hN : N ≤ 1000000 := by rw [← eN]; exact HF.out
      rw [eN]
      have hgr := grow_nil N w hN
      go_wp2_with (go_at_call 51; go_must (with_reducible refine hgr.mono ?_); rintro e w1 ⟨v, rfl, hv, hb1⟩)
      have HV : Aside0 (Kd.R (Kd.int .u8) 5 w1 w.heap.size (fun _ => True) v (l.take 0).flatten) := ⟨hv⟩
      have HB1 := Aside0.mk hb1
      have HNN := Aside0.mk eN
      clear hv hb1 hgr hfl eN
      go_loopw [6, 8, 27] (fun v _ q wr => ∃ (j : Nat), j ≤ k ∧ q = .int .i64 j ∧ Aside0 (Kd.R (Kd.int .u8) 5 wr w.heap.size (fun _ => True) v (l.take j).flatten) ∧ Aside0 (Below w.heap.size w wr)) (fun _ _ q _ => k - (intOf q).toNat)
      case atStart => exact ⟨0, by omega, rfl, HV, HB1⟩
      case round =>
        clear HV HB1
        obtain ⟨j, hj, rfl, HV, HB⟩ := hrel
        by_cases hjn : j < k
        · obtain ⟨ad, A0, c0, rfl, hcx, hlx, hrx⟩ := at_rows (Kd.C_below HC.out HB.out) j hjn
          have hjl : j < l.length := by rw [HL.out]; exact hjn
          have HTF := Aside0.mk (take_flat l j hjl)
          have hle : (l.take j).flatten.length + (l.getD j []).length ≤ 1000000 := by
            have h := congrArg List.length (congrArg List.flatten (List.take_append_drop (j + 1) l))
            rw [List.flatten_append, List.length_append, HTF.out, List.length_append] at h
            have := HF.out
            omega
          have HRX := Aside0.mk hrx
          obtain ⟨x, ex⟩ : ∃ x, l.getD j [] = x := ⟨_, rfl⟩
          rw [ex] at hcx hlx HRX HTF hle
          obtain ⟨y, ey⟩ : ∃ y, (l.take j).flatten = y := ⟨_, rfl⟩
          rw [ey] at HV HTF hle
          obtain ⟨A7, c7, rfl⟩ := Kd.R_slice HV.out
          clear hrx ex ey hjl
          go_wp2_with (at_builtin; refine Kd.R_append_rows (Kd.int .u8) (w0 := w) w.heap.size rfl (.tmp 31) (.tmp 32) 22 5 (.int .u8 0) 1 rfl Try.underlying22 info_u8 rfl (by decide) (by decide) _ y x A0 x.length c0 (fun _ => True) (fun _ => False) rfl rfl HV.out HRX.out (fun _ _ h => h) (fun _ h => h.elim) (fun _ _ => trivial) HB.out HB.out.size (by omega) ?_; intro v1 w3 ho1 hb3 _ _)
          go_roundw
          case rel => exact ⟨j + 1, by omega, by go_num, ⟨by rw [HTF.out]; exact ho1⟩, ⟨hb3⟩⟩
          case measure => simp [intOf]; omega
        · have e : j = k := by omega
          subst e
          go_wp2
          go_ret
          exact ⟨_, rfl, by have h := HV.out; rw [List.take_of_length_le (by rw [HL.out]; exact Nat.le_refl _)] at h; exact h, HB.out⟩
end Go.Proofs.Ytknpaihlnkcpgaa.Own
