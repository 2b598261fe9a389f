/- The walk of the law SumKeeps. -/
import Derived.Test.YthepinoloicfnaaSumWorks
import Derived.Test.YthepinoloicfnaaRefSum
set_option linter.unusedVariables false
set_option linter.unusedSimpArgs false
namespace Go.Proofs.Ythepinoloicfnaa.Own
open Go.RowKit Go.Proofs.YthepinoloicfnaaW.PrintWords Go.Proofs.YthepinoloicfnaaW.PrintLast Go.Proofs.YthepinoloicfnaaW.PrintMore

theorem pick_any (i n : Int) (w : World) (n0 : 1 ≤ n) (n1 : n ≤ 1099511627775) (i0 : -9223372036854775808 ≤ i) (i1 : i ≤ 9223372036854775807) :
    Calls Try.prog 10 #[.int .i64 i, .int .i64 n] w fun e w' => ∃ r : Int, e = .returned (.int .i64 r) ∧ 0 ≤ r ∧ r < n ∧ w = w' := by
  have t0 : i.tmod n < n := Int.tmod_lt_of_pos i (by omega)
  have t1 : -n < i.tmod n := by
    have := Int.tmod_lt_of_pos (-i) (b := n) (by omega)
    rw [Int.neg_tmod] at this
    omega
  go_enter Try.func10, Try.ntmps10
  go_wp2
  go_ret
  exact ⟨_, rfl, by have := Int.emod_nonneg (i.tmod n + n) (show n ≠ 0 by omega); omega, Int.emod_lt_of_pos _ (by omega), rfl⟩

theorem u16_hi (n : Int) (n0 : 0 ≤ n) (n1 : n ≤ 65535) : IntKind.u16.wrap (n.tdiv 256) % 256 = n / 256 := by
  rw [Int.tdiv_eq_ediv_of_nonneg n0, wraps_u16 _ (by omega) (by omega)]
  omega
set_option maxRecDepth 100000 in
set_option maxHeartbeats 4000000 in
theorem keeps_any (b0 : List Int) (A : Option Addr) (c : Nat) (i k t : Int) (w : World) (hr : Kd.C (Kd.int .u8) w A b0.length b0) (hc : b0.length ≤ c) (hb : bytes b0)
    (i0 : -9223372036854775808 ≤ i) (i1 : i ≤ 9223372036854775807) (k0 : -9223372036854775808 ≤ k) (k1 : k ≤ 9223372036854775807) (t0 : 0 ≤ t) (t1 : t ≤ 65535) (hl9 : b0.length ≤ 9223372036854775807) :
    Calls Try.prog 3 #[.slice A b0.length c, .int .i64 i, .int .i64 k, .int .u16 t] w fun e w' => e = .returned (.bool true) ∧ Below w.heap.size w w' := by
  have HR := Aside0.mk hr
  have HBY := Aside0.mk hb
  clear hr hb
  by_cases h600 : 600 < b0.length
  · go_enter Try.func3, Try.ntmps3
    go_wp2_with (go_at_call 7; refine (works_any _).mono ?_; rintro e w1 ⟨rfl, hb1⟩)
    go_ret
    exact ⟨rfl, hb1⟩
  · have h600' : b0.length ≤ 600 := by omega
    clear h600
    go_enter Try.func3, Try.ntmps3
    go_upto_if 21 with fail
    go_cut [0] (fun v wx => ∃ (A' : Option Addr) (c' : Nat) (b : List Int), v = .slice A' b.length c' ∧ Aside0 (Kd.C (Kd.int .u8) w A' b.length b) ∧ Aside0 (bytes b) ∧ b.length ≤ c' ∧ b.length ≤ 600 ∧ b.length % 2 = 0 ∧ wx = w)
    case first =>
      by_cases hodd : (b0.length : Int) % 2 = 1
      · obtain ⟨A1, hcut, hread, hcap⟩ := drop_bytes A c b0 1 (by omega) (by omega) hc
        have hl : (b0.drop (1 : Int).toNat).length = b0.length - 1 := by simp
        have HL := Aside0.mk hl
        have HRD := Aside0.mk hread
        have HCP := Aside0.mk hcap
        clear hl hread hcap
        go_wp2
        go_meet
        exact ⟨A1, c - 1, b0.drop (1 : Int).toNat, by rw [HL.out], ⟨HRD.out w HR.out⟩, ⟨bytes_drop HBY.out _⟩, HCP.out, by have := HL.out; omega, by have := HL.out; omega, rfl⟩
      · go_wp2
        go_meet
        exact ⟨A, c, b0, rfl, HR, HBY, hc, h600', by omega, rfl⟩
    case rest =>
      clear HR HBY
      obtain ⟨A', c', b, rfl, HR, HBY, hc', h600, hev, rfl⟩ := hcut
      go_wp2_with fail
      refine (of_any [b] _ _ _ (C_new_rows1 HR.out hc') (by simpa using HBY.out) (by simp; omega) (by simp)).mono ?_
      rintro e w1 ⟨rfl, hb1⟩
      rw [show ([b] : List (List Int)).flatten = b by simp]
      have HB1 := Aside0.mk (below_tr (below_alloc1 wc _) hb1)
      have HN := Aside0.mk (ck_range b HBY.out)
      obtain ⟨n, en⟩ : ∃ n, ck b = n := ⟨_, rfl⟩
      rw [en] at HN
      rw [en]
      have EN := Aside0.mk en
      clear en hb1
      obtain ⟨n0, n1⟩ := HN.out
      have hhi := u16_hi n n0 n1
      go_wp2_with fail
      have hC := C_row_two (Kd.C_below HR.out HB1.out) hc' (n / 256) (n % 256)
      have hby2 : ∀ x ∈ [b, [n / 256, n % 256]], bytes x := by
        intro x hx
        rcases List.mem_cons.1 hx with rfl | hx
        · exact HBY.out
        · rw [List.mem_singleton.1 hx]; exact bytes_two n n0 n1
      have HWH := Aside0.mk (show wholeB ([b, [n / 256, n % 256]] : List (List Int)).flatten = true by
        have h := keeps1 b HBY.out hev
        rw [EN.out] at h
        simpa [two] using h)
      with_reducible refine (whole_at [b, [n / 256, n % 256]] _ _ _ _ hC hby2 (by simp; omega) (by simp)).mono ?_
      clear hC hby2
      rintro e w2 ⟨rfl, hb2⟩
      rw [HWH.out]
      have HB2 := Aside0.mk (below_tr HB1.out (below_tr (below_alloc2 w1 _ _) hb2))
      clear hb2 HB1 HWH hhi
      by_cases hl0 : b.length = 0
      · have hb0 : b = [] := List.eq_nil_of_length_eq_zero hl0
        have hn : n = 65535 := by rw [← EN.out, hb0]; decide
        subst hn
        have hnb : ((b.length : Int) == 0) = true := by rw [hl0]; rfl
        have hne : b.length = 0 := hl0
        go_wp2_with (go_at_call 7; refine (works_any _).mono ?_; rintro e w15 ⟨rfl, hb15⟩)
        go_ret
        exact ⟨rfl, below_tr HB2.out hb15⟩
      · have hlp : 0 < b.length := by omega
        have hnb : ¬ ((b.length : Int) = 0) := by omega
        go_wp2_with fail
        refine (pick_any i _ _ (by omega) (by omega) i0 i1).mono ?_
        rintro e w3 ⟨ri, rfl, ri0, ri1, rfl⟩
        go_wp2_with fail
        refine (pick_any k _ _ (by omega) (by omega) k0 k1).mono ?_
        rintro e w3 ⟨rk, rfl, rk0, rk1, rfl⟩
        obtain ⟨ji, hji⟩ : ∃ j : Int, 2 * ri = j := ⟨_, rfl⟩
        obtain ⟨jk, hjk⟩ : ∃ j : Int, 2 * rk = j := ⟨_, rfl⟩
        have ji0 : 0 ≤ ji := by omega
        have ji1 : ji + 1 < b.length := by omega
        have jk0 : 0 ≤ jk := by omega
        have jk1 : jk + 1 < b.length := by omega
        have HJI := Aside0.mk (show ji % 2 = 0 by omega)
        have HJK := Aside0.mk (show jk % 2 = 0 by omega)
        clear ri0 ri1 rk0 rk1
        go_upto_region 14 with (at_builtin; refine Kd.R_append_rows (Kd.int .u8) (w0 := wc) wc.heap.size rfl (.tmp 58) (.tmp 59) 22 5 (.int .u8 0) 1 rfl Try.underlying22 info_u8 rfl (by decide) (by decide) _ [] b A' b.length c' (fun _ => True) (fun _ => False) rfl rfl (Kd.R_nil _ _ _ _ _) (Kd.C_below HR.out HB2.out) (fun _ _ h => h) (fun _ h => h.elim) (fun _ _ => trivial) HB2.out HB2.out.size (by simp; omega) ?_; intro v1 w3 ho1 hb3 _ _)
        clear hji hjk
        rw [List.nil_append] at ho1
        obtain ⟨g, cap, rfl, hg0, hg1, _⟩ := Kd.R_form ho1 hlp
        have HB3 := Aside0.mk hb3
        have HO := Aside0.mk ho1
        clear hb3 ho1
        obtain ⟨ad0, ead0, hx0⟩ := byte_at HR.out HB3.out (jk) (by omega) (by omega)
        cases ead0
        obtain ⟨hc0, hf0⟩ := Kd.R_celln (0 : Int) HO.out (ji) (by omega) (by omega)
        obtain ⟨x0, ex0⟩ : ∃ x, b.getD (jk).toNat 0 = x := ⟨_, rfl⟩
        rw [ex0] at hx0
        have EX0 := Aside0.mk ex0
        clear ex0
        go_upto_region 15 with fail
        generalize hw0 : w3.setCell ⟨g, (ji).toNat, none⟩ (.int .u8 x0) = w4
        have HO0 := Aside0.mk (show Kd.R (Kd.int .u8) 5 w4 wc.heap.size (fun _ => True) (.slice (some ⟨g, 0, none⟩) b.length cap) (b.set (ji).toNat x0) by rw [← hw0]; exact Kd.R_putn HO.out (ji) x0)
        have HB4 := Aside0.mk (show Below wc.heap.size wc w4 by rw [← hw0]; exact HB3.out.setCell (p := ⟨g, (ji).toNat, none⟩) hg0 _)
        clear hw0 hx0 hc0 hf0
        obtain ⟨ad1, ead1, hx1⟩ := byte_at HR.out HB4.out (jk + 1) (by omega) (by omega)
        cases ead1
        obtain ⟨hc1, hf1⟩ := Kd.R_celln (0 : Int) HO0.out (ji + 1) (by omega) (by omega)
        obtain ⟨x1, ex1⟩ : ∃ x, b.getD (jk + 1).toNat 0 = x := ⟨_, rfl⟩
        rw [ex1] at hx1
        have EX1 := Aside0.mk ex1
        clear ex1
        go_upto_region 16 with fail
        generalize hw1 : w4.setCell ⟨g, (ji + 1).toNat, none⟩ (.int .u8 x1) = w5
        have HO1 := Aside0.mk (show Kd.R (Kd.int .u8) 5 w5 wc.heap.size (fun _ => True) (.slice (some ⟨g, 0, none⟩) b.length cap) ((b.set (ji).toNat x0).set (ji + 1).toNat x1) by rw [← hw1]; exact Kd.R_putn HO0.out (ji + 1) x1)
        have HB5 := Aside0.mk (show Below wc.heap.size wc w5 by rw [← hw1]; exact HB4.out.setCell (p := ⟨g, (ji + 1).toNat, none⟩) hg0 _)
        clear hw1 hx1 hc1 hf1
        obtain ⟨ad2, ead2, hx2⟩ := byte_at HR.out HB5.out (ji) (by omega) (by omega)
        cases ead2
        obtain ⟨hc2, hf2⟩ := Kd.R_celln (0 : Int) HO1.out (jk) (by omega) (by omega)
        obtain ⟨x2, ex2⟩ : ∃ x, b.getD (ji).toNat 0 = x := ⟨_, rfl⟩
        rw [ex2] at hx2
        have EX2 := Aside0.mk ex2
        clear ex2
        go_upto_region 17 with fail
        generalize hw2 : w5.setCell ⟨g, (jk).toNat, none⟩ (.int .u8 x2) = w6
        have HO2 := Aside0.mk (show Kd.R (Kd.int .u8) 5 w6 wc.heap.size (fun _ => True) (.slice (some ⟨g, 0, none⟩) b.length cap) (((b.set (ji).toNat x0).set (ji + 1).toNat x1).set (jk).toNat x2) by rw [← hw2]; exact Kd.R_putn HO1.out (jk) x2)
        have HB6 := Aside0.mk (show Below wc.heap.size wc w6 by rw [← hw2]; exact HB5.out.setCell (p := ⟨g, (jk).toNat, none⟩) hg0 _)
        clear hw2 hx2 hc2 hf2
        obtain ⟨ad3, ead3, hx3⟩ := byte_at HR.out HB6.out (ji + 1) (by omega) (by omega)
        cases ead3
        obtain ⟨hc3, hf3⟩ := Kd.R_celln (0 : Int) HO2.out (jk + 1) (by omega) (by omega)
        obtain ⟨x3, ex3⟩ : ∃ x, b.getD (ji + 1).toNat 0 = x := ⟨_, rfl⟩
        rw [ex3] at hx3
        have EX3 := Aside0.mk ex3
        clear ex3
        go_upto_region 18 with fail
        generalize hw3 : w6.setCell ⟨g, (jk + 1).toNat, none⟩ (.int .u8 x3) = w7
        have HO3 := Aside0.mk (show Kd.R (Kd.int .u8) 5 w7 wc.heap.size (fun _ => True) (.slice (some ⟨g, 0, none⟩) b.length cap) ((((b.set (ji).toNat x0).set (ji + 1).toNat x1).set (jk).toNat x2).set (jk + 1).toNat x3) by rw [← hw3]; exact Kd.R_putn HO2.out (jk + 1) x3)
        have HB7 := Aside0.mk (show Below wc.heap.size wc w7 by rw [← hw3]; exact HB6.out.setCell (p := ⟨g, (jk + 1).toNat, none⟩) hg0 _)
        clear hw3 hx3 hc3 hf3
        have HLK := Aside0.mk (show wt 0 ((((b.set (ji).toNat x0).set (ji + 1).toNat x1).set (jk).toNat x2).set (jk + 1).toNat x3) = wt 0 b by
          rw [← EX0.out, ← EX1.out, ← EX2.out, ← EX3.out]
          have h := keeps2 b ji.toNat jk.toNat (by have := HJI.out; omega) (by have := HJK.out; omega) (by omega) (by omega)
          rw [show (ji + 1).toNat = ji.toNat + 1 by omega, show (jk + 1).toNat = jk.toNat + 1 by omega]
          exact h)
        have HLB := Aside0.mk (show bytes ((((b.set (ji).toNat x0).set (ji + 1).toNat x1).set (jk).toNat x2).set (jk + 1).toNat x3) by
          have g0 := bytes_getD HBY.out jk.toNat
          have g1 := bytes_getD HBY.out (jk + 1).toNat
          have g2 := bytes_getD HBY.out ji.toNat
          have g3 := bytes_getD HBY.out (ji + 1).toNat
          rw [EX0.out] at g0
          rw [EX1.out] at g1
          rw [EX2.out] at g2
          rw [EX3.out] at g3
          exact bytes_set (bytes_set (bytes_set (bytes_set HBY.out _ _ g0.1 g0.2) _ _ g1.1 g1.2) _ _ g2.1 g2.2) _ _ g3.1 g3.2)
        have HLL := Aside0.mk (show ((((b.set (ji).toNat x0).set (ji + 1).toNat x1).set (jk).toNat x2).set (jk + 1).toNat x3).length = b.length by simp)
        clear EX0 EX1 HO HO0 HO1 HO2 HB3 HB4 HB5 HB6
        obtain ⟨L, eL⟩ : ∃ L, ((((b.set (ji).toNat x0).set (ji + 1).toNat x1).set (jk).toNat x2).set (jk + 1).toNat x3) = L := ⟨_, rfl⟩
        rw [eL] at HLK HLB HLL HO3
        clear eL EX2 EX3
        obtain ⟨hcO, hlO⟩ := C_of_R HO3.out
        have hC := C_new_rows1n hcO hlO
        go_wp2_with fail
        with_reducible refine (of_at [L] _ _ _ _ hC (by simpa using HLB.out) (by have := HLL.out; simp; omega) (by simp)).mono ?_
        clear hC hcO hlO
        rintro e w8 ⟨rfl, hb8⟩
        rw [show ck ([L] : List (List Int)).flatten = n by rw [← EN.out]; simp [ck, HLK.out]]
        have HB8 := Aside0.mk (below_tr HB7.out (below_tr (below_alloc1 w7 _) hb8))
        clear hb8 HB7 HO3 HLK HLB HLL
        obtain ⟨ad4, ead4, hx4⟩ := byte_at HR.out HB8.out ji (by omega) (by omega)
        cases ead4
        obtain ⟨ad5, ead5, hx5⟩ := byte_at HR.out HB8.out (ji + 1) (by omega) (by omega)
        cases ead5
        have g4 := bytes_getD HBY.out ji.toNat
        have g5 := bytes_getD HBY.out (ji + 1).toNat
        obtain ⟨x4, ex4⟩ : ∃ x, b.getD ji.toNat 0 = x := ⟨_, rfl⟩
        obtain ⟨x5, ex5⟩ : ∃ x, b.getD (ji + 1).toNat 0 = x := ⟨_, rfl⟩
        rw [ex4] at hx4 g4
        rw [ex5] at hx5 g5
        have EX4 := Aside0.mk ex4
        have EX5 := Aside0.mk ex5
        clear ex4 ex5
        obtain ⟨x40, x41⟩ := g4
        obtain ⟨x50, x51⟩ := g5
        go_upto_region 20 with fail
        go_quiet (fail)
        generalize hw9 : w8.drewN nq = w9
        have HB9 := Aside0.mk (show Below wc.heap.size wc w9 by rw [← hw9]; exact pw_below_drewN HB8.out nq)
        clear hx4 hx5 hw9 HB8
        have hcr := cf_range (65535 - n + (65535 - (x4 * 256 + x5)) + t) (by omega)
        have HM := Aside0.mk (show wholeB (((b.set ji.toNat (t / 256)).set (ji + 1).toNat (t % 256)) ++ two (chg n (x4 * 256 + x5) t)) = true by
          have h := keeps3 b ji.toNat t HBY.out hev (by have := HJI.out; omega) (by omega) t0 t1
          rw [show ji.toNat + 1 = (ji + 1).toNat by omega, EN.out, EX4.out, EX5.out] at h
          exact h)
        go_wp2_with fail
        refine (change_any n (x4 * 256 + x5) t _ n0 n1 (by omega) (by omega) t0 t1).mono ?_
        rintro e w10 ⟨rfl, rfl⟩
        have hm0 : 0 ≤ chg n (x4 * 256 + x5) t := by unfold chg; omega
        have hm1 : chg n (x4 * 256 + x5) t ≤ 65535 := by unfold chg; omega
        obtain ⟨m, em⟩ : ∃ m, chg n (x4 * 256 + x5) t = m := ⟨_, rfl⟩
        rw [em] at HM hm0 hm1
        rw [em]
        clear em hcr
        go_upto_region 24 with (at_builtin; refine Kd.R_append_rows (Kd.int .u8) (w0 := wc) wc.heap.size rfl (.tmp 115) (.tmp 116) 22 5 (.int .u8 0) 1 rfl Try.underlying22 info_u8 rfl (by decide) (by decide) _ [] b (some ad0) b.length c' (fun _ => True) (fun _ => False) rfl rfl (Kd.R_nil _ _ _ _ _) (Kd.C_below HR.out HB9.out) (fun _ _ h => h) (fun _ h => h.elim) (fun _ _ => trivial) HB9.out HB9.out.size (by simp; omega) ?_; intro v2 w11 ho2 hb11 _ _)
        rw [List.nil_append] at ho2
        obtain ⟨g2, cap2, rfl, hg20, hg21, _⟩ := Kd.R_form ho2 hlp
        have HB11 := Aside0.mk hb11
        have HO5 := Aside0.mk ho2
        clear hb11 ho2 HB9
        obtain ⟨hc5, hf5⟩ := Kd.R_celln (0 : Int) HO5.out ji (by omega) (by omega)
        have hthi := u16_hi t t0 t1
        go_upto_region 25 with fail
        generalize hw5 : w11.setCell ⟨g2, ji.toNat, none⟩ (.int .u8 (t / 256)) = w12
        have HO6 := Aside0.mk (show Kd.R (Kd.int .u8) 5 w12 wc.heap.size (fun _ => True) (.slice (some ⟨g2, 0, none⟩) b.length cap2) (b.set ji.toNat (t / 256)) by rw [← hw5]; exact Kd.R_putn HO5.out ji (t / 256))
        have HB12 := Aside0.mk (show Below wc.heap.size wc w12 by rw [← hw5]; exact HB11.out.setCell (p := ⟨g2, ji.toNat, none⟩) hg20 _)
        clear hw5 hc5 hf5 HO5 HB11
        obtain ⟨hc6, hf6⟩ := Kd.R_celln (0 : Int) HO6.out (ji + 1) (by omega) (by omega)
        go_upto_region 26 with fail
        generalize hw6 : w12.setCell ⟨g2, (ji + 1).toNat, none⟩ (.int .u8 (t % 256)) = w13
        have HO7 := Aside0.mk (show Kd.R (Kd.int .u8) 5 w13 wc.heap.size (fun _ => True) (.slice (some ⟨g2, 0, none⟩) b.length cap2) ((b.set ji.toNat (t / 256)).set (ji + 1).toNat (t % 256)) by rw [← hw6]; exact Kd.R_putn HO6.out (ji + 1) (t % 256))
        have HB13 := Aside0.mk (show Below wc.heap.size wc w13 by rw [← hw6]; exact HB12.out.setCell (p := ⟨g2, (ji + 1).toNat, none⟩) hg20 _)
        clear hw6 hc6 hf6 HO6 HB12
        have HLB2 := Aside0.mk (show bytes ((b.set ji.toNat (t / 256)).set (ji + 1).toNat (t % 256)) from bytes_set (bytes_set HBY.out _ _ (by omega) (by omega)) _ _ (by omega) (by omega))
        have HLL2 := Aside0.mk (show ((b.set ji.toNat (t / 256)).set (ji + 1).toNat (t % 256)).length = b.length by simp)
        obtain ⟨M, eM⟩ : ∃ M, ((b.set ji.toNat (t / 256)).set (ji + 1).toNat (t % 256)) = M := ⟨_, rfl⟩
        rw [eM] at HLB2 HLL2 HO7 HM
        clear eM
        obtain ⟨hcP, hlP⟩ := C_of_R HO7.out
        have hC2 := C_row_twon hcP hlP (m / 256) (m % 256)
        have hmhi := u16_hi m hm0 hm1
        have hby3 : ∀ x ∈ [M, [m / 256, m % 256]], bytes x := by
          intro x hx
          rcases List.mem_cons.1 hx with rfl | hx
          · exact HLB2.out
          · rw [List.mem_singleton.1 hx]; exact bytes_two m hm0 hm1
        have HWH2 := Aside0.mk (show wholeB ([M, [m / 256, m % 256]] : List (List Int)).flatten = true by
          have h := HM.out
          simpa [two] using h)
        go_wp2_with fail
        with_reducible refine (whole_at [M, [m / 256, m % 256]] _ _ _ _ hC2 hby3 (by have := HLL2.out; simp; omega) (by simp)).mono ?_
        clear hC2 hby3 hcP hlP
        rintro e w14 ⟨rfl, hb14⟩
        rw [HWH2.out]
        have HB14 := Aside0.mk (below_tr HB13.out (below_tr (below_alloc2 w13 _ _) hb14))
        clear hb14 HB13
        go_wp2_with (go_at_call 7; refine (works_any _).mono ?_; rintro e w15 ⟨rfl, hb15⟩)
        go_ret
        exact ⟨rfl, below_tr HB14.out hb15⟩
end Go.Proofs.Ythepinoloicfnaa.Own
