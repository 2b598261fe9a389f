/- The walk of the law IpPuts. (written by wip/gen_lawputs.py) -/
import Derived.Test.YtknpaihlnkcpgaaLawPutsA
set_option linter.unusedVariables false
set_option linter.unusedSimpArgs false
namespace Go.Proofs.Ytknpaihlnkcpgaa.Own
open Go.RowKit Go.Proofs.YtknpaihlnkcpgaaW.PrintWords Go.Proofs.YtknpaihlnkcpgaaW.PrintLast Go.Proofs.YtknpaihlnkcpgaaW.PrintMore
attribute [local go_sem ↓] lv_hd lv_rh sv_rh
attribute [local go_sem] run_sv_rh gv_some isV_some pick2_true stc nfz_false oc1_int oc1_bool oc1_string oc1_slice oc1_pointer oc1_func pick1_true setCells_new setCells_past setCells_drew


set_option maxRecDepth 100000 in
set_option maxHeartbeats 8000000 in
theorem ipPuts_any (h k : Hd) (A B : Option Addr) (n c m d : Nat) (o p : List Int) (w : World) (hC : Kd.C (Kd.int .u8) w A n o) (hD : Kd.C (Kd.int .u8) w B m p) (hc : n ≤ c) (hd : m ≤ d) (ho : bytes o) (hp : bytes p) (hok : h.ok) (kok : k.ok) (hn9 : n ≤ 9223372036854775807) (hm9 : m ≤ 9223372036854775807) :
    Calls Try.prog 4 #[.agg (hcs h A n c), .agg (hcs k B m d)] w fun e w' => e = .returned (.bool true) ∧ Below w.heap.size w w' := by
  have hb0 := heap_alloc_new w (.cells (hcs h A n c) 39)
  have hb1 := heap_alloc_new (w.alloc (.cells (hcs h A n c) 39)) (.cells (hcs k B m d) 39)
  have hb0' := (Below.heap_alloc (w.alloc (.cells (hcs h A n c) 39)) (.cells (hcs k B m d) 39) _ (blk_lt hb0)).trans hb0
  rw [World.size_alloc] at hb1
  have hc16 := (hd_cells hb0').2.2.2.2.2.2.2.2.2.2.2.2.2.2.2.2
  have he16 := (hd_cells hb1).2.2.2.2.2.2.2.2.2.2.2.2.2.2.2.2
  have HB0 := Aside0.mk (below_alloc2 w (.cells (hcs h A n c) 39) (.cells (hcs k B m d) 39))
  by_cases h100 : 100 < n
  · clear hb0 hb1 hb0' hC hD ho hp hok kok
    go_enter Try.func4, Try.ntmps4
    go_wp2_with (go_at_call 8; (with_reducible refine (works5 _).mono ?_); rintro e w1 ⟨rfl, hw1⟩)
    go_ret
    exact ⟨rfl, below_tr HB0.out hw1⟩
  · by_cases k100 : 100 < m
    · clear hb0 hb1 hb0' hC hD ho hp hok kok
      go_enter Try.func4, Try.ntmps4
      go_wp2_with (go_at_call 8; (with_reducible refine (works5 _).mono ?_); rintro e w1 ⟨rfl, hw1⟩)
      go_ret
      exact ⟨rfl, below_tr HB0.out hw1⟩
    · have hn1 : n ≤ 100 := by omega
      have hm1 : m ≤ 100 := by omega
      have HBK := Aside0.mk (And.intro hb0' hb1)
      have HC := Aside0.mk hC
      have HD := Aside0.mk hD
      have HO := Aside0.mk (And.intro ho hp)
      have HK := Aside0.mk (And.intro hok kok)
      have HCD := Aside0.mk (And.intro hc hd)
      clear hb0 hb1 hb0' hC hD ho hp hok kok h100 k100 hc hd
      go_enter Try.func4, Try.ntmps4
      go_upto_region 3 with fail
      clear hc16 he16
      have hz0 : ((w.alloc (.cells (hcs h A n c) 39)).alloc (.cells (hcs k B m d) 39)).heap.size = w.heap.size + 1 + 1 := by simp
      generalize (w.alloc (.cells (hcs h A n c) 39)).alloc (.cells (hcs k B m d) 39) = W0 at HB0 HBK hz0 ⊢
      have hl0 := ld_hd HBK.out.1
      have hdoc := doc_any h A n c o W0 (Kd.C_below HC.out HB0.out)
      dsimp only [docOf, rcs, hcs] at hdoc hl0
      go_upto_region 4 with (go_at_call 11; go_must (with_reducible refine hdoc.mono ?_); rintro e w1 ⟨rfl, hb1⟩)
      clear hdoc hl0
      have HL : Aside0 (LawPuts w (w1.alloc (.cells (docOf h o) 41)) h k A B n c m d w1.heap.size o) := ⟨below_then (below_then HB0.out HB0.out.size hb1) (Nat.le_trans HB0.out.size hb1.size) (below_alloc1 w1 _), (Below.heap_alloc _ _ _ (Nat.lt_of_lt_of_le (blk_lt HBK.out.1) hb1.size)).trans ((hb1.block _ (blk_lt HBK.out.1)).trans HBK.out.1), (Below.heap_alloc _ _ _ (Nat.lt_of_lt_of_le (blk_lt HBK.out.2) hb1.size)).trans ((hb1.block _ (blk_lt HBK.out.2)).trans HBK.out.2), heap_alloc_new w1 _⟩
      generalize w1.heap.size = g at HL ⊢
      dsimp only [docOf, rcs] at HL
      generalize w1.alloc (.cells #[.int .u8 h.tos, .int .u16 h.total, .int .u16 h.id, .bool h.df, .bool h.mf, .int .u16 h.frag, .int .u8 h.ttl, .int .u8 h.proto, .string (strOfNums [h.s0, h.s1, h.s2, h.s3]), .string (strOfNums [h.d0, h.d1, h.d2, h.d3]), .string (strOfNums o)] 41) = W2 at HL ⊢
      clear hb1 HBK hz0 HB0
      have hlr := ld_rh HL.out.2.2.2
      have hp5 := rput5_all h o n W2 HK.out.1 HO.out.1 HC.out.1 (by omega)
      dsimp only [docOf, rcs] at hp5 hlr
      obtain ⟨L, eL⟩ : ∃ L, putL h n o = L := ⟨_, rfl⟩
      obtain ⟨f, ef⟩ : ∃ f, putF h n = f := ⟨_, rfl⟩
      have HBL := Aside0.mk (bytes_putL HK.out.1 HO.out.1 HC.out.1)
      have HPUT := Aside0.mk (fun (W : World) (hW : Below w.heap.size w W) => put_all h A n c o W HK.out.1 (by omega) (Kd.C_below HC.out hW) HCD.out.1 HO.out.1)
      rw [eL] at hp5 HBL
      rw [ef] at hp5
      have EL := Aside0.mk eL
      have EF := Aside0.mk ef
      clear eL ef
      go_upto_block 0 with (go_at_call 12; go_must (with_reducible refine hp5.mono ?_); rintro e w3 ⟨Aw, nw, cw, rfl, hRw, hb3⟩)
      have HW0 := Aside0.mk (C_of_R hRw).1
      have HL3 := Aside0.mk (HL.out.below hb3)
      clear hp5 hlr hRw hb3 HL
      go_cut [8] (fun _ wx => Aside0 (LawPuts w wx h k A B n c m d g o))
      case first =>
        go_wp2_with fail
        go_loopw [8] (fun q wr => ∃ (t : Nat), t ≤ 2 ∧ q = .int .i64 t ∧ Aside0 (LawPuts w wr h k A B n c m d g o) ∧ Aside0 (Kd.C (Kd.int .u8) wr Aw nw L)) (fun q _ => 2 - (intOf q).toNat)
        case atStart => exact ⟨0, by omega, rfl, HL3, HW0⟩
        case round =>
          clear HW0 HL3
          obtain ⟨t, ht, rfl, HL3, HW⟩ := hrel
          obtain ⟨wo, rfl⟩ : ∃ wo : World, wo = wr := ⟨_, rfl⟩
          by_cases ht2 : t < 2
          · have hpt := HPUT.out wo HL3.out.1
            rw [EL.out, EF.out] at hpt
            have hl0 := ld_hd HL3.out.2.1
            dsimp only [hcs] at hpt hl0
            go_wp2_with fail
            with_reducible refine hpt.mono ?_
            rintro e w4 ⟨A4, n4, c4, rfl, hR4, hb4⟩
            clear hpt hl0
            have hsm := same_any L L A4 Aw n4 c4 nw cw w4 (C_of_R hR4).1 (Kd.C_below HW.out hb4) HBL.out HBL.out
            rw [show decide (L = L) = true from decide_eq_true rfl] at hsm
            have HR4 : Aside0 (∃ l, Kd.R (Kd.int .u8) 5 w4 wo.heap.size (fun _ => True) (.slice A4 n4 c4) l) := ⟨L, hR4⟩
            have HB4 := Aside0.mk hb4
            have hn63 : n4 ≤ 9223372036854775807 := (C_of_R hR4).1.2.1
            clear hR4 hb4
            go_wp2_with (go_at_call 14; go_must (with_reducible refine hsm.mono ?_); clear hsm; rintro e w5 ⟨rfl, rfl⟩)
            go_loopw [11] (fun q wj => ∃ (i : Nat), i ≤ n4 ∧ q = .int .i64 i ∧ Aside0 (∃ l, Kd.R (Kd.int .u8) 5 wj wo.heap.size (fun _ => True) (.slice A4 n4 c4) l) ∧ Aside0 (Below wo.heap.size wo wj)) (fun q _ => n4 - (intOf q).toNat)
            case atStart => exact ⟨0, by omega, rfl, HR4, HB4⟩
            case round =>
              clear HR4 HB4
              obtain ⟨i, hi, rfl, HR4, HB4⟩ := hrel
              obtain ⟨wj, rfl⟩ : ∃ wj : World, wj = wr := ⟨_, rfl⟩
              by_cases hin : i < n4
              · obtain ⟨l, hRl⟩ := HR4.out
                obtain ⟨ga, capa, e4, hga, _, _⟩ := Kd.R_form hRl (by have := (C_of_R hRl).1.1; omega)
                obtain rfl : A4 = some ⟨ga, 0, none⟩ := by injection e4
                obtain ⟨hcx, hfx⟩ := Kd.R_celln (0 : Int) hRl i (by omega) (by omega)
                rw [Int.toNat_natCast] at hcx hfx
                have HPN := fun y => Kd.R_putn hRl (i : Int) y
                simp only [Int.toNat_natCast] at HPN
                have HPN := Aside0.mk HPN
                clear hRl e4 HR4
                go_wp2
                go_roundw
                case rel => exact ⟨i + 1, by omega, by go_num, ⟨_, HPN.out _⟩, ⟨HB4.out.setCell (p := ⟨ga, i, none⟩) hga _⟩⟩
                case measure => simp [intOf]; omega
              · clear HR4
                go_wp2
                go_roundw
                case rel => exact ⟨t + 1, by omega, by go_num, ⟨HL3.out.below HB4.out⟩, ⟨Kd.C_below HW.out HB4.out⟩⟩
                case measure => simp [intOf]; omega
          · go_wp2
            go_meet
            exact HL3
      case rest =>
        clear HL3 HW0
        have HL := hcut
        clear hcut
        go_upto_region 15 with fail
        have hmk : ∀ W', Below wc.heap.size wc W' → Below wc.heap.size wc W' ∧ (ldV 39 ⟨w.heap.size, 0, none⟩).run Try.prog W' = .ok (.agg #[.int .u8 h.tos, .int .u16 h.total, .int .u16 h.id, .bool h.df, .bool h.mf, .int .u16 h.frag, .int .u8 h.ttl, .int .u8 h.proto, .int .u8 h.s0, .int .u8 h.s1, .int .u8 h.s2, .int .u8 h.s3, .int .u8 h.d0, .int .u8 h.d1, .int .u8 h.d2, .int .u8 h.d3, .slice A n c]) W' ∧ (ldV 39 ⟨w.heap.size + 1, 0, none⟩).run Try.prog W' = .ok (.agg #[.int .u8 k.tos, .int .u16 k.total, .int .u16 k.id, .bool k.df, .bool k.mf, .int .u16 k.frag, .int .u8 k.ttl, .int .u8 k.proto, .int .u8 k.s0, .int .u8 k.s1, .int .u8 k.s2, .int .u8 k.s3, .int .u8 k.d0, .int .u8 k.d1, .int .u8 k.d2, .int .u8 k.d3, .slice B m d]) W' ∧ (ldV 41 ⟨g, 0, none⟩).run Try.prog W' = .ok (.agg #[.int .u8 h.tos, .int .u16 h.total, .int .u16 h.id, .bool h.df, .bool h.mf, .int .u16 h.frag, .int .u8 h.ttl, .int .u8 h.proto, .string (strOfNums [h.s0, h.s1, h.s2, h.s3]), .string (strOfNums [h.d0, h.d1, h.d2, h.d3]), .string (strOfNums o)]) W' := fun W' hb => by
          have h1 := HL.out.below hb
          have e1 := ld_hd h1.2.1
          have e2 := ld_hd h1.2.2.1
          have e3 := ld_rh h1.2.2.2
          exact ⟨hb, e1, e2, e3⟩
        have HMK := Aside0.mk hmk
        have HNX : Aside0 (∀ W W', (Below wc.heap.size wc W ∧ (ldV 39 ⟨w.heap.size, 0, none⟩).run Try.prog W = .ok (.agg #[.int .u8 h.tos, .int .u16 h.total, .int .u16 h.id, .bool h.df, .bool h.mf, .int .u16 h.frag, .int .u8 h.ttl, .int .u8 h.proto, .int .u8 h.s0, .int .u8 h.s1, .int .u8 h.s2, .int .u8 h.s3, .int .u8 h.d0, .int .u8 h.d1, .int .u8 h.d2, .int .u8 h.d3, .slice A n c]) W ∧ (ldV 39 ⟨w.heap.size + 1, 0, none⟩).run Try.prog W = .ok (.agg #[.int .u8 k.tos, .int .u16 k.total, .int .u16 k.id, .bool k.df, .bool k.mf, .int .u16 k.frag, .int .u8 k.ttl, .int .u8 k.proto, .int .u8 k.s0, .int .u8 k.s1, .int .u8 k.s2, .int .u8 k.s3, .int .u8 k.d0, .int .u8 k.d1, .int .u8 k.d2, .int .u8 k.d3, .slice B m d]) W ∧ (ldV 41 ⟨g, 0, none⟩).run Try.prog W = .ok (.agg #[.int .u8 h.tos, .int .u16 h.total, .int .u16 h.id, .bool h.df, .bool h.mf, .int .u16 h.frag, .int .u8 h.ttl, .int .u8 h.proto, .string (strOfNums [h.s0, h.s1, h.s2, h.s3]), .string (strOfNums [h.d0, h.d1, h.d2, h.d3]), .string (strOfNums o)]) W) → Below W.heap.size W W' → Below wc.heap.size wc W' ∧ (ldV 39 ⟨w.heap.size, 0, none⟩).run Try.prog W' = .ok (.agg #[.int .u8 h.tos, .int .u16 h.total, .int .u16 h.id, .bool h.df, .bool h.mf, .int .u16 h.frag, .int .u8 h.ttl, .int .u8 h.proto, .int .u8 h.s0, .int .u8 h.s1, .int .u8 h.s2, .int .u8 h.s3, .int .u8 h.d0, .int .u8 h.d1, .int .u8 h.d2, .int .u8 h.d3, .slice A n c]) W' ∧ (ldV 39 ⟨w.heap.size + 1, 0, none⟩).run Try.prog W' = .ok (.agg #[.int .u8 k.tos, .int .u16 k.total, .int .u16 k.id, .bool k.df, .bool k.mf, .int .u16 k.frag, .int .u8 k.ttl, .int .u8 k.proto, .int .u8 k.s0, .int .u8 k.s1, .int .u8 k.s2, .int .u8 k.s3, .int .u8 k.d0, .int .u8 k.d1, .int .u8 k.d2, .int .u8 k.d3, .slice B m d]) W' ∧ (ldV 41 ⟨g, 0, none⟩).run Try.prog W' = .ok (.agg #[.int .u8 h.tos, .int .u16 h.total, .int .u16 h.id, .bool h.df, .bool h.mf, .int .u16 h.frag, .int .u8 h.ttl, .int .u8 h.proto, .string (strOfNums [h.s0, h.s1, h.s2, h.s3]), .string (strOfNums [h.d0, h.d1, h.d2, h.d3]), .string (strOfNums o)]) W') := ⟨fun W W' hs hb => HMK.out W' (below_then hs.1 hs.1.size hb)⟩
        obtain ⟨rb, erb⟩ : ∃ b, rightB h n = b := ⟨_, rfl⟩
        obtain ⟨sb, esb⟩ : ∃ b, sameB h k o p = b := ⟨_, rfl⟩
        have hq1 := fun W => right_hd h A n c W (by omega) HK.out.1.2.1
        have hq2 := fun W => rright_doc h o n W HK.out.1 HO.out.1 HC.out.1 (by omega)
        have hq3 := fun W (hs : Below wc.heap.size wc W ∧ (ldV 39 ⟨w.heap.size, 0, none⟩).run Try.prog W = .ok (.agg #[.int .u8 h.tos, .int .u16 h.total, .int .u16 h.id, .bool h.df, .bool h.mf, .int .u16 h.frag, .int .u8 h.ttl, .int .u8 h.proto, .int .u8 h.s0, .int .u8 h.s1, .int .u8 h.s2, .int .u8 h.s3, .int .u8 h.d0, .int .u8 h.d1, .int .u8 h.d2, .int .u8 h.d3, .slice A n c]) W ∧ (ldV 39 ⟨w.heap.size + 1, 0, none⟩).run Try.prog W = .ok (.agg #[.int .u8 k.tos, .int .u16 k.total, .int .u16 k.id, .bool k.df, .bool k.mf, .int .u16 k.frag, .int .u8 k.ttl, .int .u8 k.proto, .int .u8 k.s0, .int .u8 k.s1, .int .u8 k.s2, .int .u8 k.s3, .int .u8 k.d0, .int .u8 k.d1, .int .u8 k.d2, .int .u8 k.d3, .slice B m d]) W ∧ (ldV 41 ⟨g, 0, none⟩).run Try.prog W = .ok (.agg #[.int .u8 h.tos, .int .u16 h.total, .int .u16 h.id, .bool h.df, .bool h.mf, .int .u16 h.frag, .int .u8 h.ttl, .int .u8 h.proto, .string (strOfNums [h.s0, h.s1, h.s2, h.s3]), .string (strOfNums [h.d0, h.d1, h.d2, h.d3]), .string (strOfNums o)]) W) => have hb := hs.1; same_hd h k A B n c m d o p W (Kd.C_below HC.out (below_then HL.out.1 HL.out.1.size hb)) (Kd.C_below HD.out (below_then HL.out.1 HL.out.1.size hb)) HO.out.1 HO.out.2
        have hq4 := fun W (hs : Below wc.heap.size wc W ∧ (ldV 39 ⟨w.heap.size, 0, none⟩).run Try.prog W = .ok (.agg #[.int .u8 h.tos, .int .u16 h.total, .int .u16 h.id, .bool h.df, .bool h.mf, .int .u16 h.frag, .int .u8 h.ttl, .int .u8 h.proto, .int .u8 h.s0, .int .u8 h.s1, .int .u8 h.s2, .int .u8 h.s3, .int .u8 h.d0, .int .u8 h.d1, .int .u8 h.d2, .int .u8 h.d3, .slice A n c]) W ∧ (ldV 39 ⟨w.heap.size + 1, 0, none⟩).run Try.prog W = .ok (.agg #[.int .u8 k.tos, .int .u16 k.total, .int .u16 k.id, .bool k.df, .bool k.mf, .int .u16 k.frag, .int .u8 k.ttl, .int .u8 k.proto, .int .u8 k.s0, .int .u8 k.s1, .int .u8 k.s2, .int .u8 k.s3, .int .u8 k.d0, .int .u8 k.d1, .int .u8 k.d2, .int .u8 k.d3, .slice B m d]) W ∧ (ldV 41 ⟨g, 0, none⟩).run Try.prog W = .ok (.agg #[.int .u8 h.tos, .int .u16 h.total, .int .u16 h.id, .bool h.df, .bool h.mf, .int .u16 h.frag, .int .u8 h.ttl, .int .u8 h.proto, .string (strOfNums [h.s0, h.s1, h.s2, h.s3]), .string (strOfNums [h.d0, h.d1, h.d2, h.d3]), .string (strOfNums o)]) W) => have hb := hs.1; same_hd h h A A n c n c o o W (Kd.C_below HC.out (below_then HL.out.1 HL.out.1.size hb)) (Kd.C_below HC.out (below_then HL.out.1 HL.out.1.size hb)) HO.out.1 HO.out.1
        have hq5 := fun W (hs : Below wc.heap.size wc W ∧ (ldV 39 ⟨w.heap.size, 0, none⟩).run Try.prog W = .ok (.agg #[.int .u8 h.tos, .int .u16 h.total, .int .u16 h.id, .bool h.df, .bool h.mf, .int .u16 h.frag, .int .u8 h.ttl, .int .u8 h.proto, .int .u8 h.s0, .int .u8 h.s1, .int .u8 h.s2, .int .u8 h.s3, .int .u8 h.d0, .int .u8 h.d1, .int .u8 h.d2, .int .u8 h.d3, .slice A n c]) W ∧ (ldV 39 ⟨w.heap.size + 1, 0, none⟩).run Try.prog W = .ok (.agg #[.int .u8 k.tos, .int .u16 k.total, .int .u16 k.id, .bool k.df, .bool k.mf, .int .u16 k.frag, .int .u8 k.ttl, .int .u8 k.proto, .int .u8 k.s0, .int .u8 k.s1, .int .u8 k.s2, .int .u8 k.s3, .int .u8 k.d0, .int .u8 k.d1, .int .u8 k.d2, .int .u8 k.d3, .slice B m d]) W ∧ (ldV 41 ⟨g, 0, none⟩).run Try.prog W = .ok (.agg #[.int .u8 h.tos, .int .u16 h.total, .int .u16 h.id, .bool h.df, .bool h.mf, .int .u16 h.frag, .int .u8 h.ttl, .int .u8 h.proto, .string (strOfNums [h.s0, h.s1, h.s2, h.s3]), .string (strOfNums [h.d0, h.d1, h.d2, h.d3]), .string (strOfNums o)]) W) => have hb := hs.1; doc_any k B m d p W (Kd.C_below HD.out (below_then HL.out.1 HL.out.1.size hb))
        have hq6 := fun W (hs : Below wc.heap.size wc W ∧ (ldV 39 ⟨w.heap.size, 0, none⟩).run Try.prog W = .ok (.agg #[.int .u8 h.tos, .int .u16 h.total, .int .u16 h.id, .bool h.df, .bool h.mf, .int .u16 h.frag, .int .u8 h.ttl, .int .u8 h.proto, .int .u8 h.s0, .int .u8 h.s1, .int .u8 h.s2, .int .u8 h.s3, .int .u8 h.d0, .int .u8 h.d1, .int .u8 h.d2, .int .u8 h.d3, .slice A n c]) W ∧ (ldV 39 ⟨w.heap.size + 1, 0, none⟩).run Try.prog W = .ok (.agg #[.int .u8 k.tos, .int .u16 k.total, .int .u16 k.id, .bool k.df, .bool k.mf, .int .u16 k.frag, .int .u8 k.ttl, .int .u8 k.proto, .int .u8 k.s0, .int .u8 k.s1, .int .u8 k.s2, .int .u8 k.s3, .int .u8 k.d0, .int .u8 k.d1, .int .u8 k.d2, .int .u8 k.d3, .slice B m d]) W ∧ (ldV 41 ⟨g, 0, none⟩).run Try.prog W = .ok (.agg #[.int .u8 h.tos, .int .u16 h.total, .int .u16 h.id, .bool h.df, .bool h.mf, .int .u16 h.frag, .int .u8 h.ttl, .int .u8 h.proto, .string (strOfNums [h.s0, h.s1, h.s2, h.s3]), .string (strOfNums [h.d0, h.d1, h.d2, h.d3]), .string (strOfNums o)]) W) => have hb := hs.1; doc_any h A n c o W (Kd.C_below HC.out (below_then HL.out.1 HL.out.1.size hb))
        have hde1 := fun W => docEq h k o p HK.out.1 HK.out.2 HO.out.1 HO.out.2 W
        have hde2 := fun W => docEq h h o o HK.out.1 HK.out.1 HO.out.1 HO.out.1 W
        rw [erb] at hq1 hq2
        rw [esb] at hq3 hde1
        rw [sameB_self] at hq4 hde2
        dsimp only [docOf, rcs, hcs] at hq1 hq2 hq3 hq4 hq5 hq6
        have HQ1 := Aside0.mk hq1
        have HQ2 := Aside0.mk hq2
        have HQ3 := Aside0.mk hq3
        have HQ4 := Aside0.mk hq4
        have HQ5 := Aside0.mk hq5
        have HQ6 := Aside0.mk hq6
        clear hq1 hq2 hq3 hq4 hq5 hq6 hmk erb esb
        go_region_held3 (fun W' => Below wc.heap.size wc W' ∧ (ldV 39 ⟨w.heap.size, 0, none⟩).run Try.prog W' = .ok (.agg #[.int .u8 h.tos, .int .u16 h.total, .int .u16 h.id, .bool h.df, .bool h.mf, .int .u16 h.frag, .int .u8 h.ttl, .int .u8 h.proto, .int .u8 h.s0, .int .u8 h.s1, .int .u8 h.s2, .int .u8 h.s3, .int .u8 h.d0, .int .u8 h.d1, .int .u8 h.d2, .int .u8 h.d3, .slice A n c]) W' ∧ (ldV 39 ⟨w.heap.size + 1, 0, none⟩).run Try.prog W' = .ok (.agg #[.int .u8 k.tos, .int .u16 k.total, .int .u16 k.id, .bool k.df, .bool k.mf, .int .u16 k.frag, .int .u8 k.ttl, .int .u8 k.proto, .int .u8 k.s0, .int .u8 k.s1, .int .u8 k.s2, .int .u8 k.s3, .int .u8 k.d0, .int .u8 k.d1, .int .u8 k.d2, .int .u8 k.d3, .slice B m d]) W' ∧ (ldV 41 ⟨g, 0, none⟩).run Try.prog W' = .ok (.agg #[.int .u8 h.tos, .int .u16 h.total, .int .u16 h.id, .bool h.df, .bool h.mf, .int .u16 h.frag, .int .u8 h.ttl, .int .u8 h.proto, .string (strOfNums [h.s0, h.s1, h.s2, h.s3]), .string (strOfNums [h.d0, h.d1, h.d2, h.d3]), .string (strOfNums o)]) W') (first | exact HMK.out _ (below_drew (Below.refl _ _)) | (refine HNX.out _ _ ?_ hb; assumption)) (first
          | (go_at_call 15; go_must (with_reducible refine (HQ1.out _).mono ?_); rintro e w1 ⟨rfl, hb⟩)
          | (go_at_call 16; go_must (with_reducible refine (HQ2.out _).mono ?_); rintro e w1 ⟨rfl, hb⟩)
          | (go_at_call 17; (with_reducible refine (HQ3.out _ (by assumption)).mono ?_); rintro e w1 ⟨rfl, hb⟩)
          | (go_at_call 17; (with_reducible refine (HQ4.out _ (by assumption)).mono ?_); rintro e w1 ⟨rfl, hb⟩)
          | (go_at_call 11; (with_reducible refine (HQ5.out _ (by assumption)).mono ?_); rintro e w1 ⟨rfl, hb⟩)
          | (go_at_call 11; (with_reducible refine (HQ6.out _ (by assumption)).mono ?_); rintro e w1 ⟨rfl, hb⟩)
          | (go_at_call 8; go_must (with_reducible refine (works5 _).mono ?_); rintro e w1 ⟨rfl, hb⟩))
        go_wp2
        go_ret
        have hfin : Below wc.heap.size wc w1 ∧ (ldV 39 ⟨w.heap.size, 0, none⟩).run Try.prog w1 = .ok (.agg #[.int .u8 h.tos, .int .u16 h.total, .int .u16 h.id, .bool h.df, .bool h.mf, .int .u16 h.frag, .int .u8 h.ttl, .int .u8 h.proto, .int .u8 h.s0, .int .u8 h.s1, .int .u8 h.s2, .int .u8 h.s3, .int .u8 h.d0, .int .u8 h.d1, .int .u8 h.d2, .int .u8 h.d3, .slice A n c]) w1 ∧ (ldV 39 ⟨w.heap.size + 1, 0, none⟩).run Try.prog w1 = .ok (.agg #[.int .u8 k.tos, .int .u16 k.total, .int .u16 k.id, .bool k.df, .bool k.mf, .int .u16 k.frag, .int .u8 k.ttl, .int .u8 k.proto, .int .u8 k.s0, .int .u8 k.s1, .int .u8 k.s2, .int .u8 k.s3, .int .u8 k.d0, .int .u8 k.d1, .int .u8 k.d2, .int .u8 k.d3, .slice B m d]) w1 ∧ (ldV 41 ⟨g, 0, none⟩).run Try.prog w1 = .ok (.agg #[.int .u8 h.tos, .int .u16 h.total, .int .u16 h.id, .bool h.df, .bool h.mf, .int .u16 h.frag, .int .u8 h.ttl, .int .u8 h.proto, .string (strOfNums [h.s0, h.s1, h.s2, h.s3]), .string (strOfNums [h.d0, h.d1, h.d2, h.d3]), .string (strOfNums o)]) w1 := by assumption
        exact ⟨rfl, below_then HL.out.1 HL.out.1.size hfin.1⟩
end Go.Proofs.Ytknpaihlnkcpgaa.Own
