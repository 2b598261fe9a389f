/- The walk of the law SumFinds. -/
import Derived.Test.YthepinoloicfnaaKeeps
set_option linter.unusedVariables false
set_option linter.unusedSimpArgs false
namespace Go.Proofs.Ythepinoloicfnaa.Own
open Go.RowKit Go.Proofs.YthepinoloicfnaaW.PrintWords Go.Proofs.YthepinoloicfnaaW.PrintLast Go.Proofs.YthepinoloicfnaaW.PrintMore

/-- a byte more changes one word -/
theorem finds_plain (b : List Int) (j : Nat) (x : Int) (h : bytes b) (hj : j < b.length) (x0 : 0 ≤ x) (x1 : x < 256) (hw : wholeB b = true) :
    wholeB (b.set j x) = (wordAt b (j / 2) % 65535 == wordAt (b.set j x) (j / 2) % 65535) := by
  have hb := bytes_set h j x x0 x1
  have h0 := (whole_iff b h).1 hw
  rw [Bool.eq_iff_iff, whole_iff _ hb, beq_iff_eq, wt_set _ _ _ _ hj]
  have e : (0 + (j : Int)) = (j : Int) := by omega
  rw [e]
  by_cases hp : j % 2 = 0
  · have hq : 2 * (j / 2) = j := by omega
    rw [if_pos (by omega)]
    unfold wordAt
    rw [hq, getD_set_eq _ _ _ hj, getD_set_ne _ _ _ _ (by omega)]
    omega
  · have hq : 2 * (j / 2) + 1 = j := by omega
    rw [if_neg (by omega)]
    unfold wordAt
    rw [hq, getD_set_eq _ _ _ hj, getD_set_ne _ _ _ _ (by omega)]
    omega

set_option maxRecDepth 100000 in
set_option maxHeartbeats 4000000 in
theorem finds_any (b : List Int) (A : Option Addr) (c : Nat) (i d : Int) (w : World) (hr : Kd.C (Kd.int .u8) w A b.length b) (hc : b.length ≤ c) (hb : bytes b)
    (i0 : -9223372036854775808 ≤ i) (i1 : i ≤ 9223372036854775807) (d0 : 0 ≤ d) (d1 : d ≤ 255) (hl9 : b.length ≤ 9223372036854775807) :
    Calls Try.prog 4 #[.slice A b.length c, .int .i64 i, .int .u8 d] w fun e w' => e = .returned (.bool true) ∧ Below w.heap.size w w' := by
  have HR := Aside0.mk hr
  have HBY := Aside0.mk hb
  clear hr hb
  by_cases h600 : 600 < b.length
  · have e6 : decide ((600 : Int) < (b.length : Int)) = true := by simp; omega
    go_enter Try.func4, Try.ntmps4
    go_wp2_with (go_at_call 7; refine (works_any _).mono ?_; rintro e w1 ⟨rfl, hb1⟩)
    go_ret
    exact ⟨rfl, hb1⟩
  · have h600' : b.length ≤ 600 := by omega
    have e6 : decide ((600 : Int) < (b.length : Int)) = false := by simp; omega
    have e6n : decide (600 < b.length) = false := by simp; omega
    clear h600
    by_cases h2 : b.length < 2
    · have e7 : decide ((b.length : Int) < 2) = true := by simp; omega
      go_enter Try.func4, Try.ntmps4
      go_wp2_with (go_at_call 7; refine (works_any _).mono ?_; rintro e w1 ⟨rfl, hb1⟩)
      go_ret
      exact ⟨rfl, hb1⟩
    · have h2' : 2 ≤ b.length := by omega
      have e7 : decide ((b.length : Int) < 2) = false := by simp; omega
      have e7n : decide (b.length < 2) = false := by simp; omega
      clear h2
      obtain ⟨wh, ewh⟩ : ∃ wh, wholeB b = wh := ⟨_, rfl⟩
      have EWH := Aside0.mk ewh
      clear ewh
      cases wh with
      | false =>
        go_enter Try.func4, Try.ntmps4
        go_wp2_with fail
        refine (rwhole_any b A c w HR.out HBY.out (by omega)).mono ?_
        rintro e w1 ⟨rfl, hb1⟩
        rw [EWH.out]
        have HB1 := Aside0.mk hb1
        clear hb1
        go_wp2_with (go_at_call 7; refine (works_any _).mono ?_; rintro e w2 ⟨rfl, hb2⟩)
        go_ret
        exact ⟨rfl, below_tr HB1.out hb2⟩
      | true =>
        go_enter Try.func4, Try.ntmps4
        go_wp2_with fail
        refine (rwhole_any b A c w HR.out HBY.out (by omega)).mono ?_
        rintro e w1 ⟨rfl, hb1⟩
        rw [EWH.out]
        have HB1 := Aside0.mk hb1
        clear hb1
        go_wp2_with fail
        refine (pick_any i _ _ (by omega) (by omega) i0 i1).mono ?_
        rintro e w2 ⟨ji, rfl, ji0, ji1, rfl⟩
        have hlp : 0 < b.length := by omega
        go_upto_region 6 with (at_builtin; refine Kd.R_append_rows (Kd.int .u8) (w0 := w) w.heap.size rfl (.tmp 28) (.tmp 29) 22 5 (.int .u8 0) 1 rfl Try.underlying22 info_u8 rfl (by decide) (by decide) _ [] b A b.length c (fun _ => True) (fun _ => False) rfl rfl (Kd.R_nil _ _ _ _ _) (Kd.C_below HR.out HB1.out) (fun _ _ h => h) (fun _ h => h.elim) (fun _ _ => trivial) HB1.out HB1.out.size (by simp; omega) ?_; intro v1 w3 ho1 hb3 _ _)
        rw [List.nil_append] at ho1
        obtain ⟨g, cap, rfl, hg0, hg1, _⟩ := Kd.R_form ho1 hlp
        have HB3 := Aside0.mk hb3
        have HO := Aside0.mk ho1
        clear hb3 ho1
        obtain ⟨hc0, hf0⟩ := Kd.R_celln (0 : Int) HO.out ji (by omega) (by omega)
        have hx0 := bytes_getD HBY.out ji.toNat
        have er : rdOf (0 : Int) b ji = b.getD ji.toNat 0 := rfl
        rw [er] at hc0
        clear er
        obtain ⟨x0, ex0⟩ : ∃ x, b.getD ji.toNat 0 = x := ⟨_, rfl⟩
        rw [ex0] at hx0 hc0
        clear ex0
        obtain ⟨x00, x01⟩ := hx0
        go_upto_region 7 with fail
        have hx1 : 0 ≤ (x0 + d) % 256 ∧ (x0 + d) % 256 < 256 := by omega
        obtain ⟨x1, ex1⟩ : ∃ x, (x0 + d) % 256 = x := ⟨_, rfl⟩
        rw [ex1] at hx1
        rw [ex1]
        clear ex1 hc0 hf0
        obtain ⟨x10, x11⟩ := hx1
        generalize hw4 : w3.setCell ⟨g, ji.toNat, none⟩ (.int .u8 x1) = w4
        have HO1 := Aside0.mk (show Kd.R (Kd.int .u8) 5 w4 w.heap.size (fun _ => True) (.slice (some ⟨g, 0, none⟩) b.length cap) (b.set ji.toNat x1) by rw [← hw4]; exact Kd.R_putn HO.out ji x1)
        have HB4 := Aside0.mk (show Below w.heap.size w w4 by rw [← hw4]; exact HB3.out.setCell (p := ⟨g, ji.toNat, none⟩) hg0 _)
        clear hw4 HO HB3 HB1
        have HP := Aside0.mk (finds_plain b ji.toNat x1 HBY.out (by omega) x10 x11 EWH.out)
        have HLB := Aside0.mk (bytes_set HBY.out ji.toNat x1 x10 x11)
        have HLL := Aside0.mk (show (b.set ji.toNat x1).length = b.length by simp)
        obtain ⟨L, eL⟩ : ∃ L, b.set ji.toNat x1 = L := ⟨_, rfl⟩
        rw [eL] at HP HLB HLL HO1
        clear eL
        obtain ⟨hcL, hlL⟩ := C_of_R HO1.out
        have HCL := Aside0.mk hcL
        clear hcL
        have hnb : ji / 2 < (nwords b : Int) := by unfold nwords; omega
        have hnl : ji / 2 < (nwords L : Int) := by unfold nwords; rw [HLL.out]; omega
        have hj2 : 0 ≤ ji / 2 := by omega
        have hq : ji.tdiv 2 = ji / 2 := Int.tdiv_eq_ediv_of_nonneg ji0
        have hq2 : IntKind.i64.wrap (ji / 2) = ji / 2 := IntWalk.i64_in _ (by omega)
        go_cut [8, 9] (fun v8 v9 wx => v8 = .int .u64 (wordAt b (ji / 2).toNat) ∧ v9 = .int .u64 (wordAt L (ji / 2).toNat) ∧ Aside0 (Below w4.heap.size w4 wx))
        case first =>
          have HLP := Aside0.mk (show 0 < L.length by rw [HLL.out]; exact hlp)
          have HL6 := Aside0.mk (show L.length ≤ 1048576 by rw [HLL.out]; omega)
          go_region_with (first | (go_at_call_of 13 (Value.slice A b.length c); refine (rwords_at b _ _ _ _ (Kd.C_drew (Kd.C_below HR.out HB4.out)) HBY.out (by omega) hlp).mono ?_; rintro e w5 ⟨g5, cap5, rfl, hc5, hg5, hb5⟩; have hd5 := hc5 _ hj2 hnb; clear hc5) | (go_at_call 13; refine (rwords_at L _ _ _ _ (Kd.C_below HCL.out (below_tr (below_drew (Below.refl w4.heap.size w4)) hb5)) HLB.out HL6.out HLP.out).mono ?_; rintro e w6 ⟨g6, cap6, rfl, hc6, hg6, hb6⟩; have hd6 := hc6 _ hj2 hnl; clear hc6; have hd5' := (hb6.cell (p := ⟨g5, (ji / 2).toNat, none⟩) hg5).trans hd5))
          all_goals (go_wp2_with fail; go_meet; exact ⟨rfl, rfl, ⟨below_tr (below_tr (below_drew (Below.refl w4.heap.size w4)) hb5) hb6⟩⟩)
        case rest =>
          obtain ⟨rfl, rfl, HB5⟩ := hcut
          have HB6 := Aside0.mk (below_tr HB4.out HB5.out)
          have hcA := C_new_rows1n (Kd.C_below HR.out HB6.out) hc
          have hw1 := wordAt_range HBY.out (ji / 2).toNat
          have hw2 := wordAt_range HLB.out (ji / 2).toNat
          have ejn : (ji / 2).toNat = ji.toNat / 2 := by omega
          rw [ejn] at hw1 hw2
          rw [ejn]
          obtain ⟨p1, ep1⟩ : ∃ x, wordAt b (ji.toNat / 2) = x := ⟨_, rfl⟩
          obtain ⟨p2, ep2⟩ : ∃ x, wordAt L (ji.toNat / 2) = x := ⟨_, rfl⟩
          rw [ep1] at hw1 HP
          rw [ep2] at hw2 HP
          rw [ep1, ep2]
          obtain ⟨p10, p11⟩ := hw1
          obtain ⟨p20, p21⟩ := hw2
          clear ep1 ep2 ejn
          go_wp2_with fail
          with_reducible refine (whole_at [b] _ _ _ _ hcA (by simpa using HBY.out) (by simp; omega) (by simp)).mono ?_
          clear hcA
          rintro e w7 ⟨rfl, hb7⟩
          rw [show wholeB ([b] : List (List Int)).flatten = true by simpa using EWH.out]
          have HB7 := Aside0.mk (below_tr (below_alloc1 wc _) hb7)
          clear hb7
          have hcB := C_new_rows1n (Kd.C_below HCL.out (below_tr HB5.out HB7.out)) hlL
          go_wp2_with fail
          with_reducible refine (whole_at [L] _ _ _ _ hcB (by simpa using HLB.out) (by have := HLL.out; simp; omega) (by simp)).mono ?_
          clear hcB
          rintro e w8 ⟨rfl, hb8⟩
          rw [show wholeB ([L] : List (List Int)).flatten = (p1 % 65535 == p2 % 65535) by simpa using HP.out]
          have HB8 := Aside0.mk (below_tr (below_alloc1 w7 _) hb8)
          clear hb8
          obtain ⟨q, eq⟩ : ∃ q, (p1 % 65535 == p2 % 65535) = q := ⟨_, rfl⟩
          go_wp2_with (go_at_call 7; refine (works_any _).mono ?_; rintro e w9 ⟨rfl, hb9⟩)
          go_ret
          exact ⟨rfl, below_tr HB6.out (below_tr HB7.out (below_tr HB8.out hb9))⟩
end Go.Proofs.Ythepinoloicfnaa.Own
