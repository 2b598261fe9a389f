/- ip.Put of a header that is right. (written by wip/gen_put.py) -/
import Derived.Test.YtknpaihlnkcpgaaPut
set_option linter.unusedVariables false
set_option linter.unusedSimpArgs false
namespace Go.Proofs.Ytknpaihlnkcpgaa.Own
open Go.RowKit Go.Proofs.YtknpaihlnkcpgaaW.PrintWords Go.Proofs.YtknpaihlnkcpgaaW.PrintLast Go.Proofs.YtknpaihlnkcpgaaW.PrintMore
attribute [local go_sem ↓] ld17 ld4 sv_hd
attribute [local go_sem] run_sv_hd gv_some isV_some pick2_true stc nfz_false oc1_int oc1_bool oc1_string oc1_slice oc1_pointer oc1_func pick1_true setCells_new setCells_past setCells_drew

set_option maxRecDepth 100000 in
set_option maxHeartbeats 8000000 in
theorem put_right (h : Hd) (A : Option Addr) (n c : Nat) (o : List Int) (w : World) (hok : h.ok) (hn : n ≤ 1000000) (hr : rightB h n = true) (hC : Kd.C (Kd.int .u8) w A n o) (hc : n ≤ c) (ho : bytes o) :
    Calls Try.prog 13 #[.agg (hcs h A n c)] w fun e w' => ∃ x, e = .returned (.tuple #[x, .int .i64 0]) ∧ Kd.R (Kd.int .u8) 5 w' w.heap.size (fun _ => True) x (stands h o (ck (stands h o 0))) ∧ Below w.heap.size w w' := by
  have hq := right_hd h A n c (w.alloc (.cells (hcs h A n c) 39)) hn hok.2.1
  rw [hr] at hq
  have hcc := hd_cells (heap_alloc_new w (.cells (hcs h A n c) 39))
  have hl := fun W => len_hd h A n c W hn
  have hR : h.frag ≤ 8191 ∧ n % 4 = 0 ∧ n ≤ 40 ∧ (20 : Int) + n ≤ h.total := of_decide_eq_true hr
  obtain ⟨hR1, hR2, hR3, hR4⟩ := hR
  have HOK := Aside0.mk hok
  have HC := Aside0.mk hC
  have HC1 := Aside0.mk hc
  have HO := Aside0.mk ho
  have HBY := Aside0.mk (bytes_stands hok ho hR1 hR3 hC.1)
  have hor4 := ip_or4 n hR3
  have horF := ip_orF h.df h.mf h.frag hok.2.2.2.1.1 hR1
  obtain ⟨⟨b0, b1⟩, ⟨b2, b3⟩, ⟨b4, b5⟩, ⟨b6, b7⟩, ⟨b8, b9⟩, ⟨b10, b11⟩, _⟩ := hok
  clear hr hC hc ho hR2 hR4
  obtain ⟨tos, total, id, df, mf, frag, ttl, proto, s0, s1, s2, s3, d0, d1, d2, d3⟩ := h
  dsimp only at b0 b1 b2 b3 b4 b5 b6 b7 b8 b9 b10 b11 hR1 horF
  dsimp only [hcs] at hcc hq hl
  go_enter Try.func13, Try.ntmps13
  go_upto_region 4 with (go_at_call 15; go_must (with_reducible refine hq.mono ?_); rintro e w1 ⟨rfl, hb1⟩)
  have hP := putAt_new (h := ⟨tos, total, id, df, mf, frag, ttl, proto, s0, s1, s2, s3, d0, d1, d2, d3⟩) hb1
  clear hcc hq hb1
  obtain ⟨g, hg⟩ : ∃ g, w1.heap.size = g := ⟨_, rfl⟩
  rw [hg] at hP ⊢
  generalize w1.alloc (.cells #[.slice none 0 0] 68) = W at hP ⊢
  clear hg
  have HP := Aside0.mk hP
  clear hP
  go_cut [20] (fun _ wx => Aside0 (PutAt w wx ⟨tos, total, id, df, mf, frag, ttl, proto, s0, s1, s2, s3, d0, d1, d2, d3⟩ A n c g ([64 + (20 + (n : Int)) / 4, tos])))
  case first =>
    have hcc := hd_cells HP.out.2.1
    dsimp only [hcs] at hcc
    obtain ⟨c0, c1, c2, c3, c4, c5, c6, c7, c8, c9, c10, c11, c12, c13, c14, c15, c16⟩ := hcc
    have hp2 := fun (W2 : World) (hP2 : PutAt w W2 ⟨tos, total, id, df, mf, frag, ttl, proto, s0, s1, s2, s3, d0, d1, d2, d3⟩ A n c g []) => hP2.puts2 (by simp) 1 1 rfl (by decide) (by decide) p256_1 (64 + (20 + (n : Int)) / 4) tos ⟨by omega, by show _ < (256 : Int); omega⟩ ⟨b0, by show _ < (256 : Int); omega⟩
    have e1 : be 1 (64 + (20 + (n : Int)) / 4) = [64 + (20 + (n : Int)) / 4] := be1_of ⟨by omega, by omega⟩
    have e2 : be 1 tos = [tos] := be1_of ⟨b0, b1⟩
    rw [e1, e2] at hp2
    clear e1 e2
    have hw1 := w64_len n hR3
    have hw2 : IntKind.u64.wrap tos = tos := w64_of HOK.out.1 (by decide)
    go_region_held3 (fun w' => w'.cell? ⟨w.heap.size, 0, none⟩ = some (.int .u8 tos) ∧ w'.cell? ⟨w.heap.size, 1, none⟩ = some (.int .u16 total) ∧ w'.cell? ⟨w.heap.size, 2, none⟩ = some (.int .u16 id) ∧ w'.cell? ⟨w.heap.size, 3, none⟩ = some (.bool df) ∧ w'.cell? ⟨w.heap.size, 4, none⟩ = some (.bool mf) ∧ w'.cell? ⟨w.heap.size, 5, none⟩ = some (.int .u16 frag) ∧ w'.cell? ⟨w.heap.size, 6, none⟩ = some (.int .u8 ttl) ∧ w'.cell? ⟨w.heap.size, 7, none⟩ = some (.int .u8 proto) ∧ w'.cell? ⟨w.heap.size, 8, none⟩ = some (.int .u8 s0) ∧ w'.cell? ⟨w.heap.size, 9, none⟩ = some (.int .u8 s1) ∧ w'.cell? ⟨w.heap.size, 10, none⟩ = some (.int .u8 s2) ∧ w'.cell? ⟨w.heap.size, 11, none⟩ = some (.int .u8 s3) ∧ w'.cell? ⟨w.heap.size, 12, none⟩ = some (.int .u8 d0) ∧ w'.cell? ⟨w.heap.size, 13, none⟩ = some (.int .u8 d1) ∧ w'.cell? ⟨w.heap.size, 14, none⟩ = some (.int .u8 d2) ∧ w'.cell? ⟨w.heap.size, 15, none⟩ = some (.int .u8 d3) ∧ w'.cell? ⟨w.heap.size, 16, none⟩ = some (.slice A n c)) (first | exact ⟨c0, c1, c2, c3, c4, c5, c6, c7, c8, c9, c10, c11, c12, c13, c14, c15, c16⟩ | exact held17 hb2 ⟨c0, c1, c2, c3, c4, c5, c6, c7, c8, c9, c10, c11, c12, c13, c14, c15, c16⟩ | exact held17 (below_alloc1 w2 _) (held17 hb2 ⟨c0, c1, c2, c3, c4, c5, c6, c7, c8, c9, c10, c11, c12, c13, c14, c15, c16⟩) | exact hd_cells hP3.2.1) (first | (go_at_call 31; go_must (with_reducible refine (hl _).mono ?_); rintro e w2 ⟨rfl, hb2⟩) | (go_at_call 30; go_must (with_reducible refine (hp2 _ (HP.out.drew.below hb2)).mono ?_); rintro e w3 ⟨rfl, hP3⟩))
    go_wp2
    go_meet
    exact ⟨hP3⟩
  case rest =>
    clear HP hl hor4
    have HP := hcut
    clear hcut
    go_upto_region 5 with fail
    go_cut [40] (fun _ wx => Aside0 (PutAt w wx ⟨tos, total, id, df, mf, frag, ttl, proto, s0, s1, s2, s3, d0, d1, d2, d3⟩ A n c g ([64 + (20 + (n : Int)) / 4, tos] ++ (be 2 total ++ be 2 id ++ be 2 (fl df 16384 + fl mf 8192 + frag)))))
    case first =>
      have hcc := hd_cells HP.out.2.1
      dsimp only [hcs] at hcc
      obtain ⟨c0, c1, c2, c3, c4, c5, c6, c7, c8, c9, c10, c11, c12, c13, c14, c15, c16⟩ := hcc
      have hp3 := fun (W2 : World) (hP2 : PutAt w W2 ⟨tos, total, id, df, mf, frag, ttl, proto, s0, s1, s2, s3, d0, d1, d2, d3⟩ A n c g [64 + (20 + (n : Int)) / 4, tos]) => hP2.puts3d (by simp) 2 2 rfl (by decide) (by decide) p256_2 total id (fl df 16384 + fl mf 8192 + frag) (okN2 ⟨b2, b3⟩) (okN2 ⟨b4, b5⟩) (okF df mf frag b6 hR1)
      have hw1 : IntKind.u64.wrap total = total := w64_of HOK.out.2.1 (by decide)
      have hw2 : IntKind.u64.wrap id = id := w64_of HOK.out.2.2.1 (by decide)
      have hw3 : IntKind.u64.wrap frag = frag := w64_of HOK.out.2.2.2.1 (by decide)
      go_region_held3 (fun w' => w'.cell? ⟨w.heap.size, 0, none⟩ = some (.int .u8 tos) ∧ w'.cell? ⟨w.heap.size, 1, none⟩ = some (.int .u16 total) ∧ w'.cell? ⟨w.heap.size, 2, none⟩ = some (.int .u16 id) ∧ w'.cell? ⟨w.heap.size, 3, none⟩ = some (.bool df) ∧ w'.cell? ⟨w.heap.size, 4, none⟩ = some (.bool mf) ∧ w'.cell? ⟨w.heap.size, 5, none⟩ = some (.int .u16 frag) ∧ w'.cell? ⟨w.heap.size, 6, none⟩ = some (.int .u8 ttl) ∧ w'.cell? ⟨w.heap.size, 7, none⟩ = some (.int .u8 proto) ∧ w'.cell? ⟨w.heap.size, 8, none⟩ = some (.int .u8 s0) ∧ w'.cell? ⟨w.heap.size, 9, none⟩ = some (.int .u8 s1) ∧ w'.cell? ⟨w.heap.size, 10, none⟩ = some (.int .u8 s2) ∧ w'.cell? ⟨w.heap.size, 11, none⟩ = some (.int .u8 s3) ∧ w'.cell? ⟨w.heap.size, 12, none⟩ = some (.int .u8 d0) ∧ w'.cell? ⟨w.heap.size, 13, none⟩ = some (.int .u8 d1) ∧ w'.cell? ⟨w.heap.size, 14, none⟩ = some (.int .u8 d2) ∧ w'.cell? ⟨w.heap.size, 15, none⟩ = some (.int .u8 d3) ∧ w'.cell? ⟨w.heap.size, 16, none⟩ = some (.slice A n c)) (first | exact ⟨c0, c1, c2, c3, c4, c5, c6, c7, c8, c9, c10, c11, c12, c13, c14, c15, c16⟩ | exact held17 (below_drew (below_alloc1 _ _)) ⟨c0, c1, c2, c3, c4, c5, c6, c7, c8, c9, c10, c11, c12, c13, c14, c15, c16⟩ | exact hd_cells hP3.2.1) (first | (go_at_call 32; go_must (with_reducible refine (flag_any _ _ _).mono ?_); rintro e w2 ⟨rfl, rfl⟩) | (go_at_call 30; go_must (with_reducible refine (hp3 _ HP.out).mono ?_); rintro e w3 ⟨rfl, hP3⟩))
      all_goals (
        go_wp2
        go_meet
        exact ⟨hP3⟩)
    case rest =>
      clear HP horF
      have HP := hcut
      clear hcut
      obtain ⟨c0, c1, c2, c3, c4, c5, c6, c7, c8, c9, c10, c11, c12, c13, c14, c15, c16⟩ := hd_cells HP.out.2.1
      have hp4 := fun (W2 : World) (h2 : PutAt w W2 ⟨tos, total, id, df, mf, frag, ttl, proto, s0, s1, s2, s3, d0, d1, d2, d3⟩ A n c g ([64 + (20 + (n : Int)) / 4, tos] ++ (be 2 total ++ be 2 id ++ be 2 (fl df 16384 + fl mf 8192 + frag)))) => h2.puts2 (by simp [be_length]) 1 1 rfl (by decide) (by decide) p256_1 ttl proto (okN1 ⟨b8, b9⟩) (okN1 ⟨b10, b11⟩)
      have e1 : be 1 ttl = [ttl] := be1_of ⟨b8, b9⟩
      have e2 : be 1 proto = [proto] := be1_of ⟨b10, b11⟩
      rw [e1, e2] at hp4
      clear e1 e2
      go_upto_region 7 with (go_at_call 30; go_must (with_reducible refine (hp4 _ HP.out).mono ?_); rintro e w4 ⟨rfl, hP4⟩)
      clear hp4 HP c0 c1 c2 c3 c4 c5 c6 c7 c8 c9 c10 c11 c12 c13 c14 c15 c16
      have hp5 := hP4.puts1 (by simp [be_length]) 2 2 rfl (by decide) (by decide) p256_2 0 ⟨by decide, by decide⟩
      go_upto_region 8 with (go_at_call 30; go_must (with_reducible refine hp5.mono ?_); rintro e w5 ⟨rfl, hP5⟩)
      clear hp5 hP4
      have HP := Aside0.mk hP5
      clear hP5
      go_cut [70] (fun _ wx => Aside0 (PutAt w wx ⟨tos, total, id, df, mf, frag, ttl, proto, s0, s1, s2, s3, d0, d1, d2, d3⟩ A n c g (stands ⟨tos, total, id, df, mf, frag, ttl, proto, s0, s1, s2, s3, d0, d1, d2, d3⟩ o 0)))
      case first =>
        have hc16 := (hd_cells HP.out.2.1).2.2.2.2.2.2.2.2.2.2.2.2.2.2.2.2
        have hlen : ∀ n2, Aside0 (n2 = 8 + n) → ([64 + (20 + (n : Int)) / 4, tos] ++ (be 2 total ++ be 2 id ++ be 2 (fl df 16384 + fl mf 8192 + frag)) ++ ([ttl] ++ [proto]) ++ be 2 0).length + n2 ≤ 1000000 := fun n2 h => by have := h.out; simp [be_length]; omega
        have hcc := HP.out.concat HC.out (by omega) HC1.out
        go_region_held3 (fun w' => w'.cell? ⟨w.heap.size, 16, none⟩ = some (.slice A n c)) (first | exact hc16 | exact pw_cell_below (below_drew (below_alloc1 _ _)) hc16 | exact (hd_cells hP6.2.1).2.2.2.2.2.2.2.2.2.2.2.2.2.2.2.2 | exact (hd_cells hP7.2.1).2.2.2.2.2.2.2.2.2.2.2.2.2.2.2.2) (first | (go_at_call 34; go_must (with_reducible refine hcc.mono ?_); rintro e w6 ⟨A2, n2, c2, rfl, hC6, hn6, hn7, hP6⟩) | (go_at_call 33; go_must (with_reducible refine (hP6.raw hC6 (hlen _ hn7)).mono ?_); rintro e w7 ⟨rfl, hP7⟩))
        go_wp2
        go_meet
        exact ⟨by simpa [stands, HC.out.1] using hP7⟩
      case rest =>
        clear HP
        have HP := hcut
        clear hcut
        have hby : bytes (stands ⟨tos, total, id, df, mf, frag, ttl, proto, s0, s1, s2, s3, d0, d1, d2, d3⟩ o 0) := HBY.out
        have hll : (stands ⟨tos, total, id, df, mf, frag, ttl, proto, s0, s1, s2, s3, d0, d1, d2, d3⟩ o 0).length = 20 + n := by
          have := HC.out.1
          simp [stands, be_length]
          omega
        obtain ⟨L, eL⟩ : ∃ L, stands ⟨tos, total, id, df, mf, frag, ttl, proto, s0, s1, s2, s3, d0, d1, d2, d3⟩ o 0 = L := ⟨_, rfl⟩
        rw [eL] at hby hll HP
        have HBL := Aside0.mk hby
        have HLL := Aside0.mk hll
        have HEL := Aside0.mk eL
        have hl12 : 12 ≤ L.length := by omega
        have hl6 : L.length ≤ 1000000 := by omega
        have hck := ck_range L hby
        obtain ⟨v, ev⟩ : ∃ v, ck L = v := ⟨_, rfl⟩
        rw [ev] at hck
        have hwv : IntKind.u64.wrap v = v := wraps_u64 _ hck.1 (by omega)
        have HEV := Aside0.mk ev
        have hov : okN 2 v := ⟨hck.1, by show v < (65536 : Int); omega⟩
        have hsum : ∀ {W : World} {A2 : Option Addr} {n2 c2 : Nat} (h1 : PutAt w W ⟨tos, total, id, df, mf, frag, ttl, proto, s0, s1, s2, s3, d0, d1, d2, d3⟩ A n c g L) (h2 : Kd.C (Kd.int .u8) W A2 n2 L) (h3 : n2 ≤ c2), Calls Try.prog 36 #[.slice (some ⟨W.heap.size, 0, none⟩) 1 1] (W.alloc (.cells #[.slice A2 n2 c2] 22)) fun e w' => e = .returned (.int .u16 v) ∧ PutAt w w' ⟨tos, total, id, df, mf, frag, ttl, proto, s0, s1, s2, s3, d0, d1, d2, d3⟩ A n c g L := fun h1 h2 h3 => by
          have := h1.sum h2 h3 HBL.out hl6
          rw [HEV.out] at this
          exact this
        clear hby hll eL hck ev
        go_upto_region 9 with fail
        go_cut [70] (fun _ wx => Aside0 (PutAt w wx ⟨tos, total, id, df, mf, frag, ttl, proto, s0, s1, s2, s3, d0, d1, d2, d3⟩ A n c g (splice L 10 (be 2 v))))
        case first =>
          go_region_held3 (fun w' => True) (trivial) (first | (go_at_call 37; go_must (with_reducible refine (HP.out.drew.getb hl6).mono ?_); rintro e w6 ⟨A2, n2, c2, rfl, hR6, hn6, hP6⟩) | (go_at_call 36; go_must (with_reducible refine (hsum hP6 (C_of_R hR6).1 hn6).mono ?_); rintro e w7 ⟨rfl, hP7⟩) | (go_at_call 35; go_must (with_reducible refine (hP7.set hl6 hl12 v hov).mono ?_); rintro e w8 ⟨rfl, hP8⟩))
          go_wp2
          go_meet
          exact ⟨hP8⟩
        case rest =>
          clear HP hsum
          have HP := hcut
          clear hcut
          have hsp : splice L 10 (be 2 v) = stands ⟨tos, total, id, df, mf, frag, ttl, proto, s0, s1, s2, s3, d0, d1, d2, d3⟩ o v := by rw [← HEL.out, splice_stands]
          rw [hsp] at HP
          have hl7 : (stands ⟨tos, total, id, df, mf, frag, ttl, proto, s0, s1, s2, s3, d0, d1, d2, d3⟩ o v).length ≤ 1000000 := by have := HC.out.1; simp [stands, be_length]; omega
          obtain ⟨M, eM⟩ : ∃ M, stands ⟨tos, total, id, df, mf, frag, ttl, proto, s0, s1, s2, s3, d0, d1, d2, d3⟩ o v = M := ⟨_, rfl⟩
          rw [eM] at HP hl7
          have HEM := Aside0.mk eM
          clear hsp eM
          go_wp2_with (go_at_call 37; go_must (with_reducible refine (HP.out.getb hl7).mono ?_); rintro e w6 ⟨A2, n2, c2, rfl, hR6, hn6, hP6⟩)
          refine bodyPost_ret (results_tmp2 rfl _ _ _) rfl ?_
          refine ⟨_, rfl, ?_, hP6.1⟩
          rw [HEL.out, HEV.out, HEM.out]
          exact Kd.R_lower hR6 HP.out.1.size
end Go.Proofs.Ytknpaihlnkcpgaa.Own
