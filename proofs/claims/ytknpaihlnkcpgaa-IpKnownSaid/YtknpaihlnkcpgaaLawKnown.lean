/- The walk of the law IpKnown. -/
import Derived.Test.YtknpaihlnkcpgaaMA3
set_option linter.unusedVariables false
set_option linter.unusedSimpArgs false
namespace Go.Proofs.Ytknpaihlnkcpgaa.Own
open Go.RowKit Go.Proofs.YtknpaihlnkcpgaaW.PrintWords Go.Proofs.YtknpaihlnkcpgaaW.PrintLast Go.Proofs.YtknpaihlnkcpgaaW.PrintMore
attribute [local go_sem ↓] lv_hd sv_hd
attribute [local go_sem] gv_some isV_some pick2_true stc nfz_false oc1_int oc1_bool oc1_string oc1_slice oc1_pointer oc1_func pick1_true setCells_new setCells_past setCells_drew

theorem u16_wrap_in (x : Int) : inB (IntKind.u16.wrap x) 65535 := by
  rw [IntKind.wrap_u16]
  exact ⟨by omega, by omega⟩
theorem hd_set1 {w : World} {b t : Nat} {h : Hd} {A : Option Addr} {n c : Nat} (hb : w.heap[b]? = some (.cells (hcs h A n c) t (0, 0))) (v : Int) : (w.setCell ⟨b, 1, none⟩ (.int .u16 v)).heap[b]? = some (.cells (hcs { h with total := v } A n c) t (0, 0)) := blk_set hb 1 _
theorem hd_set5 {w : World} {b t : Nat} {h : Hd} {A : Option Addr} {n c : Nat} (hb : w.heap[b]? = some (.cells (hcs h A n c) t (0, 0))) (v : Int) : (w.setCell ⟨b, 5, none⟩ (.int .u16 v)).heap[b]? = some (.cells (hcs { h with frag := v } A n c) t (0, 0)) := blk_set hb 5 _
theorem hd_set16 {w : World} {b t : Nat} {h : Hd} {A B : Option Addr} {n c m d : Nat} (hb : w.heap[b]? = some (.cells (hcs h A n c) t (0, 0))) : (w.setCell ⟨b, 16, none⟩ (.slice B m d)).heap[b]? = some (.cells (hcs h B m d) t (0, 0)) := blk_set hb 16 _
theorem putL_len {h : Hd} {n : Nat} (o : List Int) (hn : o.length ≤ 100) : (putL h n o).length ≤ 1000 := by
  unfold putL
  split
  · rw [stands_head, List.length_append, head_len]; omega
  · exact Nat.zero_le _
theorem cutN (A : Option Addr) (n c : Nat) (xs : List Int) (j : Nat) (hn : xs.length = n) (hm : j ≤ n) (hc : n ≤ c) :
    ∃ T : List Int, (∀ W : World, (Instr.slice 22 (.slice A n c) none (some (.int .i64 (j : Int))) none).run Try.prog W = .ok (.slice A j c) W) ∧ (∀ w : World, Kd.C (Kd.int .u8) w A n xs → Kd.C (Kd.int .u8) w A j T) ∧ (bytes xs → bytes T) := by
  obtain ⟨T, m, h1, h2, h3, h4, h5⟩ := cut_take A n c xs (j : Int) hn (by omega) (by omega) hc
  obtain rfl : m = j := by omega
  exact ⟨T, h1, h2, fun hb => by rw [h4]; exact bytes_take hb _⟩
theorem dropN (A : Option Addr) (n c : Nat) (xs : List Int) (j : Nat) (hn : xs.length = n) (hm : j ≤ n) (hc : n ≤ c) :
    ∃ (T : List Int) (A' : Option Addr) (m c' : Nat), (∀ W : World, (Instr.slice 22 (.slice A n c) (some (.int .i64 (j : Int))) none none).run Try.prog W = .ok (.slice A' m c') W) ∧ (∀ w : World, Kd.C (Kd.int .u8) w A n xs → Kd.C (Kd.int .u8) w A' m T) ∧ (bytes xs → bytes T) ∧ m ≤ c' := by
  obtain ⟨T, A', m, c', h1, h2, h3, h4, h5⟩ := cut_drop A n c xs (j : Int) hn (by omega) (by omega) hc
  exact ⟨T, A', m, c', h1, h2, fun hb => by rw [h4]; exact bytes_drop hb _, h3⟩
set_option maxRecDepth 100000 in
set_option maxHeartbeats 4000000 in
theorem ipKnown_any (w : World) :
    Calls Try.prog 7 #[] w fun e w' => e = .returned (.bool true) ∧ Below w.heap.size w w' := by
  go_enter Try.func7, Try.ntmps7
  go_upto_block 0 with fail
  go_cut [1] (fun _ wx => Aside0 (Below w.heap.size w wx))
  case first =>
    go_wp2_with fail
    go_loopw [1, 2] (fun s q wr => ∃ (i : Nat) (A : Option Addr) (c : Nat), i ≤ 44 ∧ q = .int .i64 i ∧ s = .slice A i c ∧ Aside0 (∃ l, bytes l ∧ Kd.R (Kd.int .u8) 5 wr w.heap.size (fun _ => True) (.slice A i c) l) ∧ Aside0 (Below w.heap.size w wr)) (fun _ q _ => 44 - (intOf q).toNat)
    case atStart => exact ⟨0, none, 0, by omega, rfl, rfl, ⟨[], bytes_nil, Kd.R_nil _ _ _ _ _⟩, ⟨Below.refl _ _⟩⟩
    case round =>
      obtain ⟨i, A, c, hi, rfl, rfl, HM, HB⟩ := hrel
      obtain ⟨wo, rfl⟩ : ∃ wo : World, wo = wr := ⟨_, rfl⟩
      by_cases hi44 : i < 44
      · obtain ⟨l, hbl, hR⟩ := HM.out
        obtain ⟨r, er⟩ : ∃ r : Nat, (i : Int) * 5 % 6 = (r : Int) := ⟨((i : Int) * 5 % 6).toNat, by omega⟩
        have hr6 : r < 6 := by omega
        obtain ⟨x, ex⟩ : ∃ x, ([1, 7, 4, 9, 2, 0] : List Int).getD r 0 = x := ⟨_, rfl⟩
        have hx : 0 ≤ x ∧ x < 256 := by rw [← ex]; exact bytes_getD (by decide) r
        have hcx : ∀ W : World, (W.alloc (.cells #[.int .u8 1, .int .u8 7, .int .u8 4, .int .u8 9, .int .u8 2, .int .u8 0] 5)).cell? ⟨W.heap.size, r, none⟩ = some (.int .u8 x) := fun W => by
          rw [blk_cell (heap_alloc_new W _), ← ex]
          match r, hr6 with
          | 0, _ => rfl
          | 1, _ => rfl
          | 2, _ => rfl
          | 3, _ => rfl
          | 4, _ => rfl
          | 5, _ => rfl
        have hli := (C_of_R hR).1.1
        have HRA : Aside0 (∀ o1 o2 : Obj, Kd.R (Kd.int .u8) 5 ((wo.alloc o1).alloc o2) w.heap.size (fun _ => True) (.slice A i c) l) := ⟨fun o1 o2 => Kd.R_alloc (Kd.R_alloc hR _) _⟩
        have hcn := (C_new_bytes (wo.alloc (.cells #[.int .u8 1, .int .u8 7, .int .u8 4, .int .u8 9, .int .u8 2, .int .u8 0] 5)) [x] (by simp))
        rw [World.size_alloc] at hcn
        have HCX := Aside0.mk hcn
        have HBX : Aside0 (∀ o1 o2 : Obj, Below w.heap.size w ((wo.alloc o1).alloc o2)) := ⟨fun o1 o2 => (HB.out.alloc HB.out.size _).alloc (by simp; have := HB.out.size; omega) _⟩
        have HLL : Aside0 (l.length = i) := ⟨hli⟩
        have HXX := Aside0.mk hx
        clear hli hR ex hx hcn
        go_upto_region 6 with (at_builtin; go_must (refine app_bytes w.heap.size rfl (.tmp 14) (.tmp 21) rfl _ l [x] _ 1 1 rfl rfl (HRA.out _ _) HCX.out (HBX.out _ _) (by simp; have := HB.out.size; omega) (by have := HLL.out; omega) ?_); intro A2 n2 c2 w2 hR2 hb2)
        have hn2 : n2 = i + 1 := by rw [← (C_of_R hR2).1.1, List.length_append, HLL.out]; rfl
        have hc2 := (C_of_R hR2).2
        obtain ⟨m1, em1⟩ : ∃ m1 : Nat, min (n2 : Int) ((i : Int) * 3 % 44) = (m1 : Int) := ⟨(min (n2 : Int) ((i : Int) * 3 % 44)).toNat, by omega⟩
        obtain ⟨m2, em2⟩ : ∃ m2 : Nat, min ((n2 : Int) / 4 * 4) ((i : Int) / 4 * 4 % 44) = (m2 : Int) := ⟨(min ((n2 : Int) / 4 * 4) ((i : Int) / 4 * 4 % 44)).toNat, by omega⟩
        have hm1 : m1 ≤ n2 := by omega
        have hm2 : m2 ≤ n2 := by omega
        obtain ⟨T1, hcut1, hrd1, hbt1⟩ := cutN A2 n2 c2 (l ++ [x]) m1 (C_of_R hR2).1.1 hm1 hc2
        obtain ⟨T2, hcut2, hrd2, hbt2⟩ := cutN A2 n2 c2 (l ++ [x]) m2 (C_of_R hR2).1.1 hm2 hc2
        have hbm : bytes (l ++ [x]) := (bytes_append _ _).2 ⟨hbl, (bytes_cons _ _).2 ⟨HXX.out, bytes_nil⟩⟩
        have HM2 := Aside0.mk (And.intro hbm hR2)
        have HB2 := Aside0.mk hb2
        have HT := Aside0.mk (And.intro hrd1 (And.intro hrd2 (And.intro (hbt1 hbm) (hbt2 hbm))))
        have hn245 : n2 ≤ 44 := by omega
        have HNI : Aside0 (n2 = i + 1) := ⟨hn2⟩
        clear HRA HCX HBX HLL HXX hrd1 hrd2 hbt1 hbt2 hR2 hb2 hbm hcx hr6 er hn2 HM HB hbl
        obtain ⟨h3, eh3⟩ : ∃ h : Hd, h = ⟨i, 18 + i * 7, IntKind.u16.wrap (i * 4000), (i : Int) % 2 == 0, (i : Int) % 3 == 0, 8185 + i, (i : Int) % 4, (i : Int) * 6 % 256, i, 2, 3, 4, 255, i, 0, 1⟩ := ⟨_, rfl⟩
        have hok3 : h3.ok := by
          have hw : inB (IntKind.u16.wrap ((i : Int) * 4000)) 65535 := u16_wrap_in _
          rw [eh3]
          refine ⟨⟨?_, ?_⟩, ⟨?_, ?_⟩, hw, ⟨?_, ?_⟩, ⟨?_, ?_⟩, ⟨?_, ?_⟩, ⟨?_, ?_⟩, ⟨?_, ?_⟩, ⟨?_, ?_⟩, ⟨?_, ?_⟩, ⟨?_, ?_⟩, ⟨?_, ?_⟩, ⟨?_, ?_⟩, ⟨?_, ?_⟩⟩ <;> dsimp only <;> omega
        have hfr : h3.frag = 8185 + i := by rw [eh3]
        obtain ⟨V3, eV3⟩ : ∃ V, hcs h3 A2 m1 c2 = V := ⟨_, rfl⟩
        have eb : Value.agg #[.int .u8 i, .int .u16 (18 + i * 7), .int .u16 (IntKind.u16.wrap (i * 4000)), .bool ((i : Int) % 2 == 0), .bool ((i : Int) % 3 == 0), .int .u16 (8185 + i), .int .u8 ((i : Int) % 4), .int .u8 ((i : Int) * 6 % 256), .int .u8 i, .int .u8 2, .int .u8 3, .int .u8 4, .int .u8 255, .int .u8 i, .int .u8 0, .int .u8 1, .slice A2 m1 c2] = .agg V3 := by rw [← eV3, eh3]
        have hst := sth eV3
        dsimp only [hcs] at hst
        have EV3 := Aside0.mk eV3
        have HOK3 := Aside0.mk (And.intro hok3 hfr)
        clear eV3 eh3 hok3 hfr
        go_upto_region 7 with fail
        have eV3 := EV3.out
        rw [← eV3]
        clear eV3 EV3 hst
        obtain ⟨V3, eV3⟩ : ∃ V, hcs h3 A2 m1 c2 = V := ⟨_, rfl⟩
        rw [eV3]
        have hst := sth eV3
        dsimp only [hcs] at hst
        have EV3 := Aside0.mk eV3
        clear eV3
        have HX3 := Aside0.mk (heap_alloc_new w2 (.cells V3 39))
        have HB3 := Aside0.mk (HB2.out.alloc HB2.out.size (.cells V3 39))
        have HM3 : Aside0 (bytes (l ++ [x]) ∧ Kd.R (Kd.int .u8) 5 (w2.alloc (.cells V3 39)) w.heap.size (fun _ => True) (.slice A2 n2 c2) (l ++ [x])) := ⟨HM2.out.1, Kd.R_alloc HM2.out.2 _⟩
        have HG3 := Aside0.mk HB2.out.size
        clear HM2 HB2
        generalize w2.alloc (.cells V3 39) = w3 at HX3 HB3 HM3 ⊢
        generalize w2.heap.size = g3 at HX3 HG3 ⊢
        have hl3 := ldh EV3.out HX3.out
        go_upto_region 8 with fail
        have HX4 := Aside0.mk (heap_alloc_new w3 (.cells V3 39))
        have HB4 := Aside0.mk (below_alloc1 w3 (.cells V3 39))
        clear hl3 hst
        generalize w3.alloc (.cells V3 39) = w4 at HX4 HB4 ⊢
        have hx4 := HX4.out
        rw [← EV3.out] at hx4
        have hc5 := (hd_cells hx4).2.2.2.2.2.1
        rw [HOK3.out.2] at hc5
        have hfz := fz_new hx4 5
        have HY4 := Aside0.mk hx4
        clear hx4 HX4
        go_upto_region 9 with fail
        have HY5 := Aside0.mk (hd_set5 HY4.out (((8185 : Int) + i) % 8192))
        have HB5 := Aside0.mk (HB4.out.setCell (p := ⟨w3.heap.size, 5, none⟩) (Nat.le_refl _) (.int .u16 (((8185 : Int) + i) % 8192)))
        clear hc5 hfz HY4 HB4
        generalize w4.setCell ⟨w3.heap.size, 5, none⟩ (.int .u16 (((8185 : Int) + i) % 8192)) = w5 at HY5 HB5 ⊢
        have hc16 := (hd_cells HY5.out).2.2.2.2.2.2.2.2.2.2.2.2.2.2.2.2
        have hfz := fz_new HY5.out 16
        go_upto_region 10 with fail
        have HY6 := Aside0.mk (hd_set16 (B := A2) (m := m2) (d := c2) HY5.out)
        have HB6 := Aside0.mk (HB5.out.setCell (p := ⟨w3.heap.size, 16, none⟩) (Nat.le_refl _) (.slice A2 m2 c2))
        clear hc16 hfz HY5 HB5
        generalize w5.setCell ⟨w3.heap.size, 16, none⟩ (.slice A2 m2 c2) = w6 at HY6 HB6 ⊢
        have hc1 := (hd_cells HY6.out).2.1
        have hfz := fz_new HY6.out 1
        go_upto_region 11 with fail
        have HY7 := Aside0.mk (hd_set1 HY6.out ((60 : Int) + i))
        have HB7 := Aside0.mk (HB6.out.setCell (p := ⟨w3.heap.size, 1, none⟩) (Nat.le_refl _) (.int .u16 ((60 : Int) + i)))
        clear hc1 hfz HY6 HB6
        generalize w6.setCell ⟨w3.heap.size, 1, none⟩ (.int .u16 ((60 : Int) + i)) = w7 at HY7 HB7 ⊢
        obtain ⟨h5, eh5⟩ : ∃ h : Hd, h = { { h3 with frag := ((8185 : Int) + i) % 8192 } with total := (60 : Int) + i } := ⟨_, rfl⟩
        have hok5 : h5.ok := by
          obtain ⟨a1, a2, a3, a4, a5⟩ := HOK3.out.1
          rw [eh5]
          exact ⟨a1, ⟨show 0 ≤ (60 : Int) + i by omega, show (60 : Int) + i ≤ 65535 by omega⟩, a3, ⟨show 0 ≤ ((8185 : Int) + i) % 8192 by omega, show ((8185 : Int) + i) % 8192 ≤ 65535 by omega⟩, a5⟩
        have hy7 := HY7.out
        rw [← eh5] at hy7
        obtain ⟨V4, eV4⟩ : ∃ V, hcs h5 A2 m2 c2 = V := ⟨_, rfl⟩
        rw [eV4] at hy7
        have HX7 := Aside0.mk hy7
        have EV4 := Aside0.mk eV4
        have HOK5 := Aside0.mk hok5
        clear hy7 HY7 eh5 eV4 hok5
        obtain ⟨p, ep⟩ : ∃ p : Nat, (i : Int) % 9 = (p : Int) := ⟨((i : Int) % 9).toNat, by omega⟩
        obtain ⟨q, eq⟩ : ∃ q : Nat, (i : Int) / 2 = (q : Int) := ⟨((i : Int) / 2).toNat, by omega⟩
        have hnl := (C_of_R HM3.out.2).1.1
        have hni := HNI.out
        obtain ⟨T3, hcut3, hrd3, hbt3⟩ := cutN A2 n2 c2 (l ++ [x]) p hnl (by omega) hc2
        obtain ⟨T4, A4, n4, c4, hcut4, hrd4, hbt4, hnc4⟩ := dropN A2 n2 c2 (l ++ [x]) q hnl (by omega) hc2
        have hC7 : ∀ W, Below w7.heap.size w7 W → Kd.C (Kd.int .u8) W A2 n2 (l ++ [x]) := fun W hW => Kd.C_below (Kd.C_below (C_of_R HM3.out.2).1 HB7.out) hW
        have hbl := HM3.out.1
        have hq1 : ∀ W, Below w7.heap.size w7 W → Calls Try.prog 4 #[.agg V3, .agg V4] W fun e w' => e = .returned (.bool true) ∧ Below W.heap.size W w' := fun W hW => by
          rw [← EV3.out, ← EV4.out]
          exact ipPuts_any h3 h5 A2 A2 m1 c2 m2 c2 T1 T2 W (HT.out.1 _ (hC7 W hW)) (HT.out.2.1 _ (hC7 W hW)) (by omega) (by omega) HT.out.2.2.1 HT.out.2.2.2 HOK3.out.1 HOK5.out (by omega) (by omega)
        have hq2 : ∀ W, Below w7.heap.size w7 W → Calls Try.prog 4 #[.agg V4, .agg V4] W fun e w' => e = .returned (.bool true) ∧ Below W.heap.size W w' := fun W hW => by
          rw [← EV4.out]
          exact ipPuts_any h5 h5 A2 A2 m2 c2 m2 c2 T2 T2 W (HT.out.2.1 _ (hC7 W hW)) (HT.out.2.1 _ (hC7 W hW)) (by omega) (by omega) HT.out.2.2.2 HT.out.2.2.2 HOK5.out HOK5.out (by omega) (by omega)
        have hq3 : ∀ W, Below w7.heap.size w7 W → Calls Try.prog 5 #[.agg V3, .slice A2 n2 c2, .int .i64 i, .int .u8 1] W fun e w' => e = .returned (.bool true) ∧ Below W.heap.size W w' := fun W hW => by
          rw [← EV3.out]
          exact ipBack_any h3 A2 m1 c2 T1 A2 n2 c2 (l ++ [x]) i 1 W (HT.out.1 _ (hC7 W hW)) (by omega) HT.out.2.2.1 HOK3.out.1 (by omega) (hC7 W hW) (by omega) hbl (by omega) (by omega) (by omega) (by omega) (by omega)
        have hq4 : ∀ W, Below w7.heap.size w7 W → Calls Try.prog 5 #[.agg V4, .slice A2 p c2, .int .i64 (i * 7), .int .u8 ((i : Int) * 5)] W fun e w' => e = .returned (.bool true) ∧ Below W.heap.size W w' := fun W hW => by
          rw [← EV4.out]
          exact ipBack_any h5 A2 m2 c2 T2 A2 p c2 T3 (i * 7) ((i : Int) * 5) W (HT.out.2.1 _ (hC7 W hW)) (by omega) HT.out.2.2.2 HOK5.out (by omega) (hrd3 _ (hC7 W hW)) (by omega) (hbt3 hbl) (by omega) (by omega) (by omega) (by omega) (by omega)
        have hq5 : ∀ W, Below w7.heap.size w7 W → Calls Try.prog 3 #[.slice A4 n4 c4] W fun e w' => e = .returned (.bool true) ∧ Below W.heap.size W w' := fun W hW =>
          ipOptions_any T4 A4 n4 c4 W (hrd4 _ (hC7 W hW)) hnc4 (hbt4 hbl) (hrd4 _ (hC7 W hW)).2.1
        have t1 : (i : Int).tmod 9 = (p : Int) := by rw [Int.tmod_eq_emod_of_nonneg (by omega)]; exact ep
        have t2 : IntKind.i64.wrap ((i : Int).tdiv 2) = (q : Int) := by rw [Int.tdiv_eq_ediv_of_nonneg (by omega), IntWalk.i64_in _ (by omega)]; exact eq
        have t2a : (i : Int).tdiv 2 = (q : Int) := by rw [Int.tdiv_eq_ediv_of_nonneg (by omega)]; exact eq
        have t2b : IntKind.i64.wrap (q : Int) = (q : Int) := IntWalk.i64_in _ (by omega)
        have t2c : ¬ (q : Int) < 0 := by omega
        have t2d : ¬ (n2 : Int) < (q : Int) := by omega
        have t2e : q ≤ n2 := by omega
        have t2f : q ≤ c2 := by omega
        have t3 : IntKind.i64.wrap ((i : Int) * 7) = (i : Int) * 7 := IntWalk.i64_in _ (by omega)
        have t4 : IntKind.i64.wrap ((i : Int) * 5) = (i : Int) * 5 := IntWalk.i64_in _ (by omega)
        have t5 : IntKind.u8.wrap ((i : Int) * 5) = (i : Int) * 5 := IntWalk.u8_in _ (by omega)
        have HQ1 := Aside0.mk hq1
        have HQ2 := Aside0.mk hq2
        have HQ3 := Aside0.mk hq3
        have HQ4 := Aside0.mk hq4
        have HQ5 := Aside0.mk hq5
        have HMK : Aside0 (∀ W', Below w7.heap.size w7 W' → Below w7.heap.size w7 W' ∧ (ldV 39 ⟨g3, 0, none⟩).run Try.prog W' = .ok (.agg V3) W' ∧ (ldV 39 ⟨w3.heap.size, 0, none⟩).run Try.prog W' = .ok (.agg V4) W') := ⟨fun W' hW => by
          have hx3 := (hW.block _ (Nat.lt_of_lt_of_le (blk_lt HX3.out) HB7.out.size)).trans ((HB7.out.block _ (blk_lt HX3.out)).trans HX3.out)
          have hx7 := (hW.block _ (blk_lt HX7.out)).trans HX7.out
          exact ⟨hW, ldh EV3.out hx3, ldh EV4.out hx7⟩⟩
        have HNX : Aside0 (∀ W W', (Below w7.heap.size w7 W ∧ (ldV 39 ⟨g3, 0, none⟩).run Try.prog W = .ok (.agg V3) W ∧ (ldV 39 ⟨w3.heap.size, 0, none⟩).run Try.prog W = .ok (.agg V4) W) → Below W.heap.size W W' → (Below w7.heap.size w7 W' ∧ (ldV 39 ⟨g3, 0, none⟩).run Try.prog W' = .ok (.agg V3) W' ∧ (ldV 39 ⟨w3.heap.size, 0, none⟩).run Try.prog W' = .ok (.agg V4) W')) := ⟨fun W W' hs hb => HMK.out W' (below_then hs.1 hs.1.size hb)⟩
        have HB37 := Aside0.mk (below_then HB3.out HB3.out.size HB7.out)
        have HM7 : Aside0 (bytes (l ++ [x]) ∧ Kd.R (Kd.int .u8) 5 w7 w.heap.size (fun _ => True) (.slice A2 n2 c2) (l ++ [x])) := ⟨hbl, Kd.R_below HM3.out.2 HB7.out⟩
        have HPU : Aside0 (∀ W, Below w7.heap.size w7 W → Calls Try.prog 13 #[.agg V4] W fun e w' => ∃ A1 n1 c1, e = .returned (.tuple #[.slice A1 n1 c1, .int .i64 (putF h5 m2)]) ∧ Kd.R (Kd.int .u8) 5 w' W.heap.size (fun _ => True) (.slice A1 n1 c1) (putL h5 m2 T2) ∧ Below W.heap.size W w') := ⟨fun W hW => by
          rw [← EV4.out]
          exact put_all h5 A2 m2 c2 T2 W HOK5.out (by omega) (HT.out.2.1 _ (hC7 W hW)) (by omega) HT.out.2.2.2⟩
        have hT2l : T2.length ≤ 100 := by have := (HT.out.2.1 _ (hC7 w7 (Below.refl _ _))).1; omega
        have HBP : Aside0 (bytes (putL h5 m2 T2)) := ⟨bytes_putL HOK5.out HT.out.2.2.2 (HT.out.2.1 _ (hC7 w7 (Below.refl _ _))).1⟩
        clear hq1 hq2 hq3 hq4 hq5 hC7 hbl hrd3 hbt3 hrd4 hbt4 hnl hni HB3 HM3 HX3 HX7 HB7 HT
        go_region_held3 (fun W' => Below w7.heap.size w7 W' ∧ (ldV 39 ⟨g3, 0, none⟩).run Try.prog W' = .ok (.agg V3) W' ∧ (ldV 39 ⟨w3.heap.size, 0, none⟩).run Try.prog W' = .ok (.agg V4) W') (first | exact HMK.out _ (below_drew (Below.refl _ _)) | (refine HNX.out _ _ ?_ hb; assumption) | assumption) (first
          | (go_at_call 4; (with_reducible refine (HQ1.out _ (And.left (by assumption))).mono ?_); rintro e w1 ⟨rfl, hb⟩)
          | (go_at_call 4; (with_reducible refine (HQ2.out _ (And.left (by assumption))).mono ?_); rintro e w1 ⟨rfl, hb⟩)
          | (go_at_call 5; (with_reducible refine (HQ3.out _ (And.left (by assumption))).mono ?_); rintro e w1 ⟨rfl, hb⟩)
          | (go_at_call 5; (with_reducible refine (HQ4.out _ (And.left (by assumption))).mono ?_); rintro e w1 ⟨rfl, hb⟩)
          | (go_at_call 3; (with_reducible refine (HQ5.out _ (And.left (by assumption))).mono ?_); rintro e w1 ⟨rfl, hb⟩))
        obtain ⟨hb17, hl3, hl4⟩ : Below w7.heap.size w7 w1 ∧ (ldV 39 ⟨g3, 0, none⟩).run Try.prog w1 = .ok (.agg V3) w1 ∧ (ldV 39 ⟨w3.heap.size, 0, none⟩).run Try.prog w1 = .ok (.agg V4) w1 := by assumption
        have HB17 := Aside0.mk hb17
        have HM1 : Aside0 (bytes (l ++ [x]) ∧ Kd.R (Kd.int .u8) 5 w1 w.heap.size (fun _ => True) (.slice A2 n2 c2) (l ++ [x])) := ⟨HM7.out.1, Kd.R_below HM7.out.2 hb17⟩
        have HB1 := Aside0.mk (below_then HB37.out HB37.out.size hb17)
        have HP1 := Aside0.mk (HPU.out _ hb17)
        clear HM7 HB37 HPU HNX HMK HQ1 HQ2 HQ3 HQ4 HQ5 t1 t2 t2a t2b t2c t2d t2e t2f t3 t4 t5 em1 em2 ep eq hcut1 hcut2 hcut3 hcut4 hnc4 hl3 hb17
        obtain ⟨LP, eLP⟩ : ∃ L, putL h5 m2 T2 = L := ⟨_, rfl⟩
        rw [eLP] at HP1 HBP
        have hLP : LP.length ≤ 1000 := by rw [← eLP]; exact putL_len _ hT2l
        clear eLP hT2l
        go_upto_region 14 with (go_at_call 13; go_must (with_reducible refine HP1.out.mono ?_); rintro e w8 ⟨A8, n8, c8, rfl, hR8, hb8⟩)
        have HM8 : Aside0 (bytes (l ++ [x]) ∧ Kd.R (Kd.int .u8) 5 w8 w.heap.size (fun _ => True) (.slice A2 n2 c2) (l ++ [x])) := ⟨HM1.out.1, Kd.R_below HM1.out.2 hb8⟩
        have HB8 := Aside0.mk (below_then HB1.out HB1.out.size hb8)
        have hn8 := (C_of_R hR8).1.1
        have HJ := Aside0.mk (join_any LP (l ++ [x]) A8 A2 n8 c8 n2 c2 w8 (C_of_R hR8).1 (C_of_R HM8.out.2).1 (by omega))
        have hn8' : n8 ≤ 1000 := by omega
        clear hl4 hR8 hb8 HM1 HB1 HP1 hn8
        go_upto_block 2 with (go_at_call 18; go_must (with_reducible refine HJ.out.mono ?_); rintro e w9 ⟨A9, n9, c9, rfl, hR9, hb9⟩)
        obtain ⟨LA, eLA⟩ : ∃ L, LP ++ (l ++ [x]) = L := ⟨_, rfl⟩
        rw [eLA] at hR9
        have hbLA : bytes LA := by rw [← eLA]; exact (bytes_append _ _).2 ⟨HBP.out, HM8.out.1⟩
        have HM9 : Aside0 (bytes (l ++ [x]) ∧ Kd.R (Kd.int .u8) 5 w9 w.heap.size (fun _ => True) (.slice A2 n2 c2) (l ++ [x])) := ⟨HM8.out.1, Kd.R_below HM8.out.2 hb9⟩
        have HB9 := Aside0.mk (below_then HB8.out HB8.out.size hb9)
        have HC9 := Aside0.mk (C_of_R hR9)
        have hn9 : n9 ≤ 2000 := by
          have h1 := (C_of_R hR9).1.1
          have h2 := (C_of_R HM8.out.2).1.1
          rw [← eLA, List.length_append] at h1
          omega
        have hnc9 := (C_of_R hR9).2
        have HBL := Aside0.mk hbLA
        have HLA := Aside0.mk (C_of_R hR9).1.1
        clear hR9 hb9 HJ HM8 HB8 eLA hbLA HBP hLP hn8'
        go_cut [8] (fun _ wx => Aside0 (Below w9.heap.size w9 wx))
        case first =>
          go_wp2_with fail
          go_loopw [8] (fun q wr => ∃ (n : Nat), n ≤ n9 ∧ q = .int .i64 n ∧ Aside0 (Below w9.heap.size w9 wr)) (fun q _ => n9 - (intOf q).toNat)
          case atStart => exact ⟨0, by omega, rfl, ⟨Below.refl _ _⟩⟩
          case round =>
            obtain ⟨n, hn, rfl, HB⟩ := hrel
            obtain ⟨wo2, rfl⟩ : ∃ wo2 : World, wo2 = wr := ⟨_, rfl⟩
            by_cases hnl : n < n9
            · have HJ := Aside0.mk (join_any [] LA none A9 0 0 n9 c9 wo2 (C_nil _) (Kd.C_below HC9.out.1 HB.out) (by omega))
              obtain ⟨T, hcut, hrd, hbt⟩ := cutN A9 n9 c9 LA n HLA.out (by omega) hnc9
              have HT := Aside0.mk (And.intro hrd (hbt HBL.out))
              clear hrd hbt
              go_upto_region 19 with (go_at_call 18; go_must (with_reducible refine HJ.out.mono ?_); rintro e w10 ⟨A10, n10, c10, rfl, hR10, hb10⟩)
              rw [List.nil_append] at hR10
              obtain rfl : n9 = n10 := by rw [← HLA.out]; exact (C_of_R hR10).1.1
              obtain ⟨ga, rfl, hga, hgs, hcx, hfx, hpn⟩ := row_put n hR10 hnl
              obtain ⟨lv, elv⟩ : ∃ v, LA.getD n 0 = v := ⟨_, rfl⟩
              have hlv := bytes_getD HBL.out n
              rw [elv] at hcx hlv
              obtain ⟨lv0, lv1⟩ := hlv
              have HPN := Aside0.mk hpn
              have HB10 := Aside0.mk hb10
              have HGA := Aside0.mk hga
              have hn62 : n9 ≤ 9223372036854775807 := by omega
              clear hR10 hb10 hga hgs hpn elv HJ
              go_upto_region 20 with fail
              have hR11 := HPN.out ((lv + (1 + (i : Int) * 16)) % 256)
              have HB11 := Aside0.mk (HB10.out.setCell (p := ⟨ga, n, none⟩) HGA.out (.int .u8 ((lv + (1 + (i : Int) * 16)) % 256)))
              have hb11 : bytes (LA.set n ((lv + (1 + (i : Int) * 16)) % 256)) := bytes_set HBL.out n _ (by omega) (by omega)
              clear hcx hfx HPN HB10 HGA
              generalize w10.setCell ⟨ga, n, none⟩ (.int .u8 ((lv + (1 + (i : Int) * 16)) % 256)) = w11 at hR11 HB11 ⊢
              have HW11 := Aside0.mk (below_then HB.out HB.out.size HB11.out)
              have HP1 := Aside0.mk (ipParses_any T A9 n c9 w11 (HT.out.1 _ (Kd.C_below HC9.out.1 HW11.out)) (by omega) HT.out.2 (by omega))
              have HP2 := Aside0.mk (fun W (hW : Below w11.heap.size w11 W) => ipParses_any _ _ n9 c10 W (Kd.C_below (C_of_R hR11).1 hW) (C_of_R hR11).2 hb11 (by omega))
              clear hR11 hb11 HB11 HB HT
              by_cases h4 : (i : Int) % 4 = 0
              · have e4 : ((i : Int) % 4 == 0) = true := by simpa using h4
                clear h4
                go_wp2_with (first | (go_at_call 6; (with_reducible refine HP1.out.mono ?_); rintro e w12 ⟨rfl, hb12⟩) | (go_at_call 6; (with_reducible refine (HP2.out _ (by assumption)).mono ?_); rintro e w13 ⟨rfl, hb13⟩))
                go_roundw
                case rel => exact ⟨n + 1, by omega, by go_num, ⟨below_then (below_then HW11.out HW11.out.size hb12) (Nat.le_trans HW11.out.size hb12.size) hb13⟩⟩
                case measure => simp [intOf]; omega
              · have e4 : ((i : Int) % 4 == 0) = false := by simpa using h4
                clear h4
                go_wp2_with fail
                go_roundw
                case rel => exact ⟨n + 1, by omega, by go_num, HW11⟩
                case measure => simp [intOf]; omega
            · go_wp2
              go_meet
              exact HB
        case rest =>
          have HPA := Aside0.mk (ipParses_any LA A9 n9 c9 wc (Kd.C_below HC9.out.1 hcut.out) hnc9 HBL.out (by omega))
          go_wp2_with (go_at_call 6; (with_reducible refine HPA.out.mono ?_); rintro e w12 ⟨rfl, hb12⟩)
          have HBZ := Aside0.mk (below_then hcut.out hcut.out.size hb12)
          have HRZ : Aside0 (∃ l, bytes l ∧ Kd.R (Kd.int .u8) 5 w12 w.heap.size (fun _ => True) (.slice A2 (i + 1) c2) l) := ⟨⟨_, HM9.out.1, by rw [← HNI.out]; exact Kd.R_below HM9.out.2 HBZ.out⟩⟩
          have HBE := Aside0.mk (below_then HB9.out HB9.out.size HBZ.out)
          have hni := HNI.out
          clear HPA hcut hb12 HBZ HM9 HC9 HBL HLA HNI
          subst hni
          go_roundw
          case rel => exact ⟨i + 1, A2, c2, by omega, by go_num, rfl, HRZ, HBE⟩
          case measure => simp [intOf]; omega
      · go_wp2
        go_meet
        exact HB
  case rest =>
    have HB := hcut
    clear hcut
    have HP0 := Aside0.mk (fun W => ipParses_any [] none 0 0 W (C_nil W) (Nat.le_refl _) bytes_nil (by omega))
    have HO1 : Aside0 (∀ W : World, Calls Try.prog 3 #[.slice (some ⟨W.heap.size, 0, none⟩) 1 1] (W.alloc (.cells #[.int .u8 7] 5)) fun e w' => e = .returned (.bool true) ∧ Below (W.alloc (.cells #[.int .u8 7] 5)).heap.size (W.alloc (.cells #[.int .u8 7] 5)) w') := ⟨fun W => ipOptions_any [7] _ 1 1 _ (C_new_bytes W [7] (by simp)) (Nat.le_refl _) (by decide) (by omega)⟩
    have HO2 : Aside0 (∀ W : World, Calls Try.prog 3 #[.slice (some ⟨W.heap.size, 0, none⟩) 2 2] (W.alloc (.cells #[.int .u8 7, .int .u8 1] 5)) fun e w' => e = .returned (.bool true) ∧ Below (W.alloc (.cells #[.int .u8 7, .int .u8 1] 5)).heap.size (W.alloc (.cells #[.int .u8 7, .int .u8 1] 5)) w') := ⟨fun W => ipOptions_any [7, 1] _ 2 2 _ (C_new_bytes W [7, 1] (by simp)) (Nat.le_refl _) (by decide) (by omega)⟩
    have HO3 : Aside0 (∀ W : World, Calls Try.prog 3 #[.slice (some ⟨W.heap.size, 0, none⟩) 2 2] (W.alloc (.cells #[.int .u8 7, .int .u8 3] 5)) fun e w' => e = .returned (.bool true) ∧ Below (W.alloc (.cells #[.int .u8 7, .int .u8 3] 5)).heap.size (W.alloc (.cells #[.int .u8 7, .int .u8 3] 5)) w') := ⟨fun W => ipOptions_any [7, 3] _ 2 2 _ (C_new_bytes W [7, 3] (by simp)) (Nat.le_refl _) (by decide) (by omega)⟩
    go_wp2_with (first | (go_at_call 6; (with_reducible refine (HP0.out _).mono ?_); rintro e w1 ⟨rfl, hb1⟩) | (go_at_call 3; (with_reducible refine (HO1.out _).mono ?_); rintro e w2 ⟨rfl, hb2⟩) | (go_at_call 3; (with_reducible refine (HO2.out _).mono ?_); rintro e w3 ⟨rfl, hb3⟩) | (go_at_call 3; (with_reducible refine (HO3.out _).mono ?_); rintro e w4 ⟨rfl, hb4⟩) | (go_at_call 8; (with_reducible refine (works5 _).mono ?_); rintro e w5 ⟨rfl, hb5⟩))
    go_ret
    exact ⟨rfl, below_then HB.out HB.out.size (below_tr (below_tr (below_tr (below_tr (below_tr (below_tr (below_tr hb1 (below_alloc1 _ _)) hb2) (below_alloc1 _ _)) hb3) (below_alloc1 _ _)) hb4) hb5)⟩
end Go.Proofs.Ytknpaihlnkcpgaa.Own
