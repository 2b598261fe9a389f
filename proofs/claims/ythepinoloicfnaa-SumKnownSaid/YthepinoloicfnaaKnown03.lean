/- The walk of the law SumKnown. -/
import Derived.Test.YthepinoloicfnaaFinds
import Derived.Test.YthepinoloicfnaaTells
import Derived.Deep.RegionWith
import Derived.Deep.DeepMust
set_option linter.unusedVariables false
set_option linter.unusedSimpArgs false
namespace Go.Proofs.Ythepinoloicfnaa.Own
open Go.RowKit Go.Proofs.YthepinoloicfnaaW.PrintWords Go.Proofs.YthepinoloicfnaaW.PrintLast Go.Proofs.YthepinoloicfnaaW.PrintMore

/-- what a slice of bytes is: its address, its length, its capacity, its bytes -/
structure RowV where
  (A : Option Addr) (n c : Nat) (l : List Int)
def RowV.val (r : RowV) : Value := .slice r.A r.n r.c
def RowV.ok (r : RowV) (w : World) : Prop := Kd.C (Kd.int .u8) w r.A r.n r.l ∧ r.n ≤ r.c
theorem C_blk_rows {w : World} {g t : Nat} {fr : Nat × Nat} (rs : List RowV) (hm : rs.length ≤ 9223372036854775807) (hb : w.heap[g]? = some (.cells (rs.map RowV.val).toArray t fr)) (h : ∀ r ∈ rs, r.ok w) :
    Kd.C (Kd.slice 5 (Kd.int .u8)) w (some ⟨g, 0, none⟩) rs.length (rs.map RowV.l) := by
  refine ⟨by simp, hm, fun _ => ⟨_, rfl, fun j p hj => ?_⟩⟩
  rw [List.getElem?_map] at hj
  obtain ⟨r, hr, rfl⟩ := Option.map_eq_some_iff.1 hj
  obtain ⟨h1, h2⟩ := h r (List.mem_of_getElem? hr)
  have hlen : r.l.length = r.n := h1.1
  refine ⟨[r.val], rfl, ⟨r.A, r.c, by rw [hlen]; rfl, by rw [hlen]; exact h2, by rw [hlen]; exact h1⟩, fun i u hu => ?_⟩
  match i, hu with
  | 0, hu =>
    have hu' : r.val = u := by simpa using hu
    subst hu'
    have hs : (Kd.slice 5 (Kd.int IntKind.u8)).sz = 1 := rfl
    rw [hs, Nat.mul_one, Nat.add_zero, add_plain, cell_of_row w g j _ t fr hb]
    simp [hr]
theorem u16_wrap_range (n : Int) : 0 ≤ IntKind.u16.wrap n ∧ IntKind.u16.wrap n ≤ 65535 := by
  simp only [IntKind.wrap, IntKind.bits, IntKind.signed]
  constructor <;> simp <;> omega
theorem u8_wrap_range (n : Int) : 0 ≤ IntKind.u8.wrap n ∧ IntKind.u8.wrap n ≤ 255 := by
  simp only [IntKind.wrap, IntKind.bits, IntKind.signed]
  constructor <;> simp <;> omega
/-- an element of six bytes -/
theorem six_at (w : World) (x : Int) (x0 : 0 ≤ x) (x1 : x ≤ 255) (j : Nat) (hj : j < 6) : ∃ y : Int, 0 ≤ y ∧ y ≤ 255 ∧ (w.alloc (.cells #[.int .u8 255, .int .u8 255, .int .u8 0, .int .u8 x, .int .u8 1, .int .u8 254] 5)).cell? ⟨w.heap.size, j, none⟩ = some (.int .u8 y) := by
  have h := fun i => cell_of_row (w.alloc (.cells #[.int .u8 255, .int .u8 255, .int .u8 0, .int .u8 x, .int .u8 1, .int .u8 254] 5)) w.heap.size i _ 5 (0, 0) (heap_alloc_new w _)
  match j, hj with
  | 0, _ => exact ⟨255, by decide, by decide, h 0⟩
  | 1, _ => exact ⟨255, by decide, by decide, h 1⟩
  | 2, _ => exact ⟨0, by decide, by decide, h 2⟩
  | 3, _ => exact ⟨x, x0, x1, h 3⟩
  | 4, _ => exact ⟨1, by decide, by decide, h 4⟩
  | 5, _ => exact ⟨254, by decide, by decide, h 5⟩

/-- an element of four numbers -/
theorem four_at (w : World) (j : Nat) (hj : j < 4) : ∃ y : Int, 0 ≤ y ∧ y ≤ 65535 ∧ (w.alloc (.cells #[.int .u16 0, .int .u16 1, .int .u16 65535, .int .u16 65534] 23)).cell? ⟨w.heap.size, j, none⟩ = some (.int .u16 y) := by
  have h := fun i => cell_of_row (w.alloc (.cells #[.int .u16 0, .int .u16 1, .int .u16 65535, .int .u16 65534] 23)) w.heap.size i _ 23 (0, 0) (heap_alloc_new w _)
  match j, hj with
  | 0, _ => exact ⟨0, by decide, by decide, h 0⟩
  | 1, _ => exact ⟨1, by decide, by decide, h 1⟩
  | 2, _ => exact ⟨65535, by decide, by decide, h 2⟩
  | 3, _ => exact ⟨65534, by decide, by decide, h 3⟩
theorem keep3 {W W' : World} (hb : Below W.heap.size W W') {g a1 a2 a3 : Nat} {v1 v2 v3 : Value} (h : W.cell? ⟨g, a1, none⟩ = some v1 ∧ W.cell? ⟨g, a2, none⟩ = some v2 ∧ W.cell? ⟨g, a3, none⟩ = some v3) :
    W'.cell? ⟨g, a1, none⟩ = some v1 ∧ W'.cell? ⟨g, a2, none⟩ = some v2 ∧ W'.cell? ⟨g, a3, none⟩ = some v3 := ⟨pw_cell_below hb h.1, pw_cell_below hb h.2.1, pw_cell_below hb h.2.2⟩
theorem C_none_rows (w : World) : Kd.C (Kd.slice 5 (Kd.int .u8)) w none 0 [] := Kd.C_nil _ _
theorem C_four0 (w : World) : Kd.C (Kd.int .u8) (w.alloc (.cells #[.int .u8 0, .int .u8 0, .int .u8 0, .int .u8 0] 5)) (some ⟨w.heap.size, 0, none⟩) 4 [0, 0, 0, 0] := C_new_bytes w [0, 0, 0, 0] (by decide)
theorem C_twoF (w : World) : Kd.C (Kd.int .u8) (w.alloc (.cells #[.int .u8 255, .int .u8 255] 5)) (some ⟨w.heap.size, 0, none⟩) 2 [255, 255] := C_new_bytes w [255, 255] (by decide)
theorem rof_at (b : List Int) (A : Option Addr) (n c : Nat) (w : World) (hr : Kd.C (Kd.int .u8) w A n b) (hb : bytes b) (hn : b.length ≤ 1048576) :
    Calls Try.prog 16 #[.slice A n c] w fun e w' => e = .returned (.int .u16 (ck b)) ∧ Below w.heap.size w w' := by
  obtain rfl := hr.1
  exact rof_any b A c w hr hb hn
theorem u8_mod_range (n : Int) : 0 ≤ n % 256 ∧ n % 256 ≤ 255 := by omega
theorem tells_at (l : List (List Int)) (A : Option Addr) (n c : Nat) (a b d : Int) (w : World) (hr : Kd.C (Kd.slice 5 (Kd.int .u8)) w A n l) (hc : n ≤ c) (hb : ∀ x ∈ l, bytes x)
    (a0 : 0 ≤ a) (a1 : a ≤ 65535) (b0 : 0 ≤ b) (b1 : b ≤ 65535) (d0 : 0 ≤ d) (d1 : d ≤ 65535) :
    Calls Try.prog 5 #[.slice A n c, .int .u16 a, .int .u16 b, .int .u16 d] w fun e w' => e = .returned (.bool true) ∧ Below w.heap.size w w' := by
  have hm := hr.2.1
  obtain rfl := hr.1
  exact tells_any l A c a b d w hr hc hb hm a0 a1 b0 b1 d0 d1
theorem keeps_at (l : List Int) (A : Option Addr) (n c : Nat) (i k t : Int) (w : World) (hr : Kd.C (Kd.int .u8) w A n l) (hc : n ≤ c) (hb : bytes l)
    (i0 : -9223372036854775808 ≤ i) (i1 : i ≤ 9223372036854775807) (k0 : -9223372036854775808 ≤ k) (k1 : k ≤ 9223372036854775807) (t0 : 0 ≤ t) (t1 : t ≤ 65535) :
    Calls Try.prog 3 #[.slice A n c, .int .i64 i, .int .i64 k, .int .u16 t] w fun e w' => e = .returned (.bool true) ∧ Below w.heap.size w w' := by
  have hm := hr.2.1
  obtain rfl := hr.1
  exact keeps_any l A c i k t w hr hc hb i0 i1 k0 k1 t0 t1 hm
theorem finds_at (l : List Int) (A : Option Addr) (n c : Nat) (i d : Int) (w : World) (hr : Kd.C (Kd.int .u8) w A n l) (hc : n ≤ c) (hb : bytes l)
    (i0 : -9223372036854775808 ≤ i) (i1 : i ≤ 9223372036854775807) (d0 : 0 ≤ d) (d1 : d ≤ 255) :
    Calls Try.prog 4 #[.slice A n c, .int .i64 i, .int .u8 d] w fun e w' => e = .returned (.bool true) ∧ Below w.heap.size w w' := by
  have hm := hr.2.1
  obtain rfl := hr.1
  exact finds_any l A c i d w hr hc hb i0 i1 d0 d1 hm

set_option maxRecDepth 100000 in
set_option maxHeartbeats 4000000 in
theorem known_any (w : World) :
    Calls Try.prog 6 #[] w fun e w' => e = .returned (.bool true) ∧ Below w.heap.size w w' := by
  go_enter Try.func6, Try.ntmps6
  go_wp2
  go_loopw [1, 2] (fun vb vi wr => ∃ (k : Nat) (b : List Int), k ≤ 60 ∧ vi = .int .i64 k ∧ b.length = k ∧ Aside0 (bytes b) ∧ Aside0 (Kd.R (Kd.int .u8) 5 wr w.heap.size (fun _ => True) vb b) ∧ Aside0 (Below w.heap.size w wr)) (fun _ vi _ => 60 - (intOf vi).toNat)
  case atStart => exact ⟨0, [], by omega, rfl, rfl, ⟨bytes_nil⟩, ⟨Kd.R_nil _ _ _ _ _⟩, ⟨Below.refl _ _⟩⟩
  case round =>
    obtain ⟨k, b, hk, rfl, hbl, HBY, HO, HB⟩ := hrel
    have HBL := Aside0.mk hbl
    clear hbl
    by_cases hlt : k < 60
    · obtain ⟨y, y0, y1, hy⟩ := six_at wr ((k : Int) * 37 % 256) (by omega) (by omega) (k % 6) (by omega)
      go_upto_region 6 with (at_builtin; refine Kd.R_append (Kd.int .u8) (w0 := w) w.heap.size rfl (.tmp 12) (.tmp 21) 22 5 (.int .u8 0) 1 rfl Try.underlying22 info_u8 rfl (by decide) (by decide) _ b y [.int .u8 y] (fun _ => True) (fun _ => False) rfl (by rw [World.size_alloc]; rfl) rfl (fun _ hk => hk.elim) (fun _ _ => trivial) (Kd.R_alloc HO.out _) (HB.out.alloc HB.out.size _) (by have := HB.out.size; simp; omega) (by have := HBL.out; omega) ?_; intro v1 w1 ho1 hb1 _ _)
      have hlen : (b ++ [y]).length = k + 1 := by rw [List.length_append, HBL.out]; rfl
      have hby2 : bytes (b ++ [y]) := (bytes_append _ _).2 ⟨HBY.out, fun z hz => by rw [List.mem_singleton.1 hz]; omega⟩
      obtain ⟨g, cap, rfl, hg0, hg1, _⟩ := Kd.R_form ho1 (by omega)
      obtain ⟨L, eL⟩ : ∃ L, b ++ [y] = L := ⟨_, rfl⟩
      rw [eL] at ho1 hlen hby2
      rw [eL]
      have HO1 := Aside0.mk ho1
      have HB1 := Aside0.mk hb1
      have HBY2 := Aside0.mk hby2
      obtain ⟨hcb, hcap⟩ := C_of_R ho1
      rw [hlen] at hcb hcap
      obtain ⟨T, nt, ht1, ht2, ht3, ht4, ht5⟩ := cut_take (some ⟨g, 0, none⟩) (k + 1) cap L ((k : Int) / 2) hlen (by omega) (by omega) hcap
      obtain ⟨D, Ad, nd, cd, hd1, hd2, hd3, hd4, hd5⟩ := cut_drop (some ⟨g, 0, none⟩) (k + 1) cap L ((k : Int) / 3) hlen (by omega) (by omega) hcap
      have HL61 := Aside0.mk (show L.length ≤ 60 by omega)
      have HTL := Aside0.mk (show T.length ≤ 60 by rw [ht4, List.length_take]; omega)
      have HDL := Aside0.mk (show D.length ≤ 60 by rw [hd4, List.length_drop]; omega)
      have HTB := Aside0.mk (show bytes T by rw [ht4]; exact bytes_take hby2 _)
      have HDB := Aside0.mk (show bytes D by rw [hd4]; exact bytes_drop hby2 _)
      have HROWS := Aside0.mk (show Kd.C (Kd.slice 5 (Kd.int .u8)) (w1.alloc (.cells #[.slice (some ⟨g, 0, none⟩) (k + 1) cap, .slice (some ⟨g, 0, none⟩) nt cap, .slice none 0 0, .slice Ad nd cd] 22)).drew (some ⟨w1.heap.size, 0, none⟩) 4 [L, T, [], D] by
        refine Kd.C_drew (C_blk_rows [⟨some ⟨g, 0, none⟩, k + 1, cap, L⟩, ⟨some ⟨g, 0, none⟩, nt, cap, T⟩, ⟨none, 0, 0, []⟩, ⟨Ad, nd, cd, D⟩] (by simp) (heap_alloc_new w1 _) ?_)
        intro r hr
        simp only [List.mem_cons, List.mem_nil_iff, or_false] at hr
        rcases hr with rfl | rfl | rfl | rfl
        · exact ⟨Kd.C_alloc hcb _, hcap⟩
        · exact ⟨Kd.C_alloc (ht2 w1 hcb) _, ht3⟩
        · exact ⟨Kd.C_nil _ _, Nat.le_refl _⟩
        · exact ⟨Kd.C_alloc (hd2 w1 hcb) _, hd3⟩)
      have HBR := Aside0.mk (show ∀ x ∈ [L, T, [], D], bytes x by
        intro x hx
        simp only [List.mem_cons, List.mem_nil_iff, or_false] at hx
        rcases hx with rfl | rfl | rfl | rfl
        · exact HBY2.out
        · exact HTB.out
        · exact bytes_nil
        · exact HDB.out)
      have HCB := Aside0.mk hcb
      have hk0 : (0 : Int) ≤ k := by omega
      have hBA := Aside0.mk (show Below w1.heap.size w1 (w1.alloc (.cells #[.slice (some ⟨g, 0, none⟩) (k + 1) cap, .slice (some ⟨g, 0, none⟩) nt cap, .slice none 0 0, .slice Ad nd cd] 22)).drew from below_drew (below_alloc1 w1 _))
      rw [hlen]
      have HLEN := Aside0.mk hlen
      clear ho1 hb1 hby2 ht2 ht4 hd2 hd4 hcb eL HO HB HBY hy hlen ht3 ht5 hd3 hd5
      have q2 : (k : Int).tdiv 2 = (k : Int) / 2 := Int.tdiv_eq_ediv_of_nonneg hk0
      have q3 : (k : Int).tdiv 3 = (k : Int) / 3 := Int.tdiv_eq_ediv_of_nonneg hk0
      have e2 : IntKind.i64.wrap ((k : Int) / 2) = (k : Int) / 2 := IntWalk.i64_in _ (by omega)
      have e3 : IntKind.i64.wrap ((k : Int) / 3) = (k : Int) / 3 := IntWalk.i64_in _ (by omega)
      have e5 : IntKind.i64.wrap ((k : Int) * 5) = (k : Int) * 5 := IntWalk.i64_in _ (by omega)
      have e7 : IntKind.i64.wrap ((k : Int) * 7) = (k : Int) * 7 := IntWalk.i64_in _ (by omega)
      have zk5 : (-9223372036854775808 : Int) ≤ (k : Int) * 5 := by omega
      have zk5' : (k : Int) * 5 ≤ 9223372036854775807 := by omega
      have zk7 : (-9223372036854775808 : Int) ≤ (k : Int) * 7 := by omega
      have zk7' : (k : Int) * 7 ≤ 9223372036854775807 := by omega
      have zk1 : (-9223372036854775808 : Int) ≤ (k : Int) := by omega
      have zk1' : (k : Int) ≤ 9223372036854775807 := by omega
      have i2 : (0 : Int) ≤ (k : Int) / 2 := by omega
      have i2' : (k : Int) / 2 ≤ (k : Int) + 1 := by omega
      have i3 : (0 : Int) ≤ (k : Int) / 3 := by omega
      have i3' : (k : Int) / 3 ≤ (k : Int) + 1 := by omega
      go_cut [65] (fun v wx => v = .bool false ∧ Aside0 (Below w1.heap.size w1 wx))
      case first =>
        go_region_held3 (fun _ => True) (trivial) (first | (go_at_call 5; go_must (with_reducible refine (tells_at [L, T, [], D] _ _ _ _ _ _ _ HROWS.out (Nat.le_refl _) HBR.out (u16_wrap_range _).1 (u16_wrap_range _).2 (u16_wrap_range _).1 (u16_wrap_range _).2 (u16_wrap_range _).1 (u16_wrap_range _).2).mono ?_); rintro e w2 ⟨rfl, hb2⟩) | (go_at_call 3; go_must (with_reducible refine (keeps_at L _ _ _ _ _ _ _ (Kd.C_below HCB.out (below_tr hBA.out hb2)) hcap HBY2.out zk5 zk5' zk7 zk7' (u16_wrap_range _).1 (u16_wrap_range _).2).mono ?_); rintro e w3 ⟨rfl, hb3⟩) | (go_at_call 4; go_must (with_reducible refine (finds_at L _ _ _ _ _ _ (Kd.C_below HCB.out (below_tr (below_tr hBA.out hb2) hb3)) hcap HBY2.out zk1 zk1' (u8_wrap_range _).1 (u8_wrap_range _).2).mono ?_); rintro e w4 ⟨rfl, hb4⟩))
        all_goals (go_wp2_with fail; go_meet; exact ⟨rfl, ⟨below_tr (below_tr (below_tr hBA.out hb2) hb3) hb4⟩⟩)
      case rest =>
        obtain ⟨rfl, HB2⟩ := hcut
        clear ht1 hd1 HROWS HTB HDB HTL HDL HBR hBA
        have hL60 : L.length ≤ 60 := HL61.out
        have hcr := ck_range L HBY2.out
        obtain ⟨cv, ecv⟩ : ∃ x, ck L = x := ⟨_, rfl⟩
        rw [ecv] at hcr
        have ECV := Aside0.mk ecv
        clear ecv
        obtain ⟨cr0, cr1⟩ := hcr
        have hhi := u16_hi cv cr0 cr1
        have HBC := Aside0.mk (below_then HB1.out HB1.out.size HB2.out)
        go_wp2_with fail
        refine (rof_at L _ _ _ _ (Kd.C_below HCB.out HB2.out) HBY2.out (by have := HL61.out; omega)).mono ?_
        rintro e w3 ⟨rfl, hb3⟩
        rw [ECV.out]
        have HB3 := Aside0.mk (below_tr HB2.out hb3)
        clear hb3
        go_upto_if 74 with (at_builtin; refine Kd.R_append_rows (Kd.int .u8) (w0 := w1) w1.heap.size rfl (.tmp 68) (.tmp 69) 22 5 (.int .u8 0) 1 rfl Try.underlying22 info_u8 rfl (by decide) (by decide) _ [] L (some ⟨g, 0, none⟩) (k + 1) cap (fun _ => True) (fun _ => False) rfl rfl (Kd.R_nil _ _ _ _ _) (Kd.C_below HCB.out HB3.out) (fun _ _ h => h) (fun _ h => h.elim) (fun _ _ => trivial) HB3.out HB3.out.size (by simp; omega) ?_; intro v2 w4 ho2 hb4 _ _)
        rw [List.nil_append] at ho2
        have HO2 := Aside0.mk ho2
        have HB4 := Aside0.mk hb4
        clear ho2 hb4
        go_cut [4] (fun v wx => ∃ M : List Int, Aside0 (bytes M) ∧ M.length ≤ 61 ∧ Aside0 (Kd.R (Kd.int .u8) 5 wx w1.heap.size (fun _ => True) v M) ∧ Aside0 (Below w1.heap.size w1 wx))
        case first =>
          by_cases hodd : ((k : Int) + 1) % 2 = 1
          · go_wp2_with (at_builtin; refine Kd.R_append (Kd.int .u8) (w0 := w1) w1.heap.size rfl (.tmp 75) (.tmp 76) 22 5 (.int .u8 0) 1 rfl Try.underlying22 info_u8 rfl (by decide) (by decide) _ L 0 [.int .u8 0] (fun _ => True) (fun _ => False) rfl rfl rfl (fun _ hk => hk.elim) (fun _ _ => trivial) HO2.out HB4.out HB4.out.size (by omega) ?_; intro v3 w5 ho3 hb5 _ _)
            go_meet
            exact ⟨L ++ [0], ⟨(bytes_append _ _).2 ⟨HBY2.out, by intro x hx; rw [List.mem_singleton.1 hx]; decide⟩⟩, by simp; omega, ⟨ho3⟩, ⟨hb5⟩⟩
          · go_wp2
            go_meet
            exact ⟨L, HBY2, by omega, HO2, HB4⟩
        case rest =>
          clear HO2 HB4 HB3
          obtain ⟨M, HMB, hml, HO3, HB5⟩ := hcut
          have hcw := C_new_bytes wc (two cv) (by simp [two])
          go_wp2_with (at_builtin; refine Kd.R_append_rows (Kd.int .u8) (w0 := w1) w1.heap.size rfl (.tmp 78) (.tmp 85) 22 5 (.int .u8 0) 1 rfl Try.underlying22 info_u8 rfl (by decide) (by decide) _ M (two cv) (some ⟨wc.heap.size, 0, none⟩) 2 2 (fun _ => True) (fun _ => False) rfl rfl (Kd.R_alloc HO3.out _) hcw (fun _ _ h => h) (fun _ h => h.elim) (fun _ _ => trivial) (HB5.out.alloc HB5.out.size _) (by have := HB5.out.size; simp; omega) (by simp; omega) ?_; intro v6 w6 ho6 hb6 _ _)
          have hml2 : (M ++ two cv).length ≤ 63 := by simp [two]; omega
          have HMB2 := Aside0.mk ((bytes_append _ _).2 ⟨HMB.out, bytes_two cv cr0 cr1⟩)
          obtain ⟨M2, eM2⟩ : ∃ M2, M ++ two cv = M2 := ⟨_, rfl⟩
          rw [eM2] at ho6 hml2 HMB2
          obtain ⟨A6, c6, rfl, hl6, hC6⟩ := Kd.R_reads ho6
          have HC6 := Aside0.mk hC6
          have HB6 := Aside0.mk hb6
          clear ho6 hb6 hC6 eM2 hcw HO3 HB5 HMB
          go_loopw [5] (fun vj wr2 => ∃ j : Nat, j ≤ 4 ∧ vj = .int .i64 j ∧ Aside0 (Below w6.heap.size w6 wr2)) (fun vj _ => 4 - (intOf vj).toNat)
          case atStart => exact ⟨0, by omega, rfl, ⟨Below.refl _ _⟩⟩
          case round =>
            obtain ⟨j, hj, rfl, HB7⟩ := hrel
            by_cases hj4 : j < 4
            · have hkj : (k : Int) * j ≤ 60 * 4 := by
                have := Int.mul_le_mul (show (k : Int) ≤ 60 by omega) (show (j : Int) ≤ 4 by omega) (by omega) (by omega)
                omega
              have hkj0 : 0 ≤ (k : Int) * j := Int.mul_nonneg (by omega) (by omega)
              go_wp2_with fail
              refine (finds_at M2 _ _ _ _ _ _ (Kd.C_below HC6.out HB7.out) hl6 HMB2.out (by omega) (by omega) (u8_mod_range _).1 (u8_mod_range _).2).mono ?_
              rintro e w8 ⟨rfl, hb8⟩
              have HB8 := Aside0.mk (below_tr HB7.out hb8)
              clear hb8
              go_wp2
              go_roundw
              case rel => exact ⟨j + 1, by omega, by go_num, HB8⟩
              case measure => simp [intOf]; omega
            · have e : j = 4 := by omega
              subst e
              have HBE := Aside0.mk (below_tr HB6.out HB7.out)
              go_wp2
              go_roundw
              case rel => exact ⟨k + 1, L, by omega, by go_num, HLEN.out, HBY2, ⟨by have h := Kd.R_below HO1.out HBE.out; rw [HLEN.out] at h; exact h⟩, ⟨below_then HB1.out HB1.out.size HBE.out⟩⟩
              case measure => simp [intOf]; omega
    · have e : k = 60 := by omega
      subst e
      go_wp2
      clear HBL HBY HO hk hlt
      go_loopw [6] (fun vi wz => ∃ i : Nat, i ≤ 16 ∧ vi = .int .i64 i ∧ Aside0 (Below w.heap.size w wz)) (fun vi _ => 16 - (intOf vi).toNat)
      case atStart => exact ⟨0, by omega, rfl, HB⟩
      case round =>
        clear HB
        obtain ⟨i, hi, rfl, HB⟩ := hrel
        by_cases hlt : i < 16
        · go_upto_region 23 with fail
          obtain ⟨p1, p10, p11, hp1⟩ := four_at wr (i % 4) (by omega)
          obtain ⟨p2, p20, p21, hp2⟩ := four_at wr (i / 4) (by omega)
          obtain ⟨p3, p30, p31, hp3⟩ := four_at wr ((i + i / 4) % 4) (by omega)
          generalize hwq : wr.alloc (.cells #[.int .u16 0, .int .u16 1, .int .u16 65535, .int .u16 65534] 23) = wq
          rw [hwq] at hp1 hp2 hp3
          have HBQ := Aside0.mk (show Below w.heap.size w wq by rw [← hwq]; exact HB.out.alloc HB.out.size _)
          have HBQ2 := Aside0.mk (show wr.heap.size < wq.heap.size by rw [← hwq]; simp)
          clear hwq HB
          obtain ⟨gx, hgx⟩ : ∃ gx, wr.heap.size = gx := ⟨_, rfl⟩
          rw [hgx] at hp1 hp2 hp3 HBQ2
          rw [hgx]
          clear hgx
          have m4 : (i : Int).tmod 4 = (i : Int) % 4 := Int.tmod_eq_emod_of_nonneg (by omega)
          have d4 : (i : Int).tdiv 4 = (i : Int) / 4 := Int.tdiv_eq_ediv_of_nonneg (by omega)
          have w4 : IntKind.i64.wrap ((i : Int) / 4) = (i : Int) / 4 := IntWalk.i64_in _ (by omega)
          have s4 : IntKind.i64.wrap ((i : Int) + (i : Int) / 4) = (i : Int) + (i : Int) / 4 := IntWalk.i64_in _ (by omega)
          have m44 : ((i : Int) + (i : Int) / 4).tmod 4 = ((i : Int) + (i : Int) / 4) % 4 := Int.tmod_eq_emod_of_nonneg (by omega)
          have b1 : (0 : Int) ≤ (i : Int) % 4 := by omega
          have b2 : (i : Int) % 4 < 4 := by omega
          have b3 : (0 : Int) ≤ (i : Int) / 4 := by omega
          have b4 : (i : Int) / 4 < 4 := by omega
          have b5 : (0 : Int) ≤ ((i : Int) + (i : Int) / 4) % 4 := by omega
          have b6 : ((i : Int) + (i : Int) / 4) % 4 < 4 := by omega
          have hS := And.intro hp1 (And.intro hp2 hp3)
          rw [show i % 4 = ((i : Int) % 4).toNat by omega, show i / 4 = ((i : Int) / 4).toNat by omega, show (i + ((i : Int) / 4).toNat) % 4 = (((i : Int) + (i : Int) / 4) % 4).toNat by omega] at hS
          clear hp1 hp2 hp3
          go_cut [145] (fun v wx => v = .bool false ∧ Aside0 (Below wq.heap.size wq wx))
          case first =>
            have hd := below_drew (Below.refl wq.heap.size wq)
            have zb0 : ∀ x ∈ ([] : List (List Int)), bytes x := by simp
            have zb4 : bytes [0, 0, 0, 0] := by decide
            have zb2 : bytes [255, 255] := by decide
            have zi0 : (-9223372036854775808 : Int) ≤ 0 := by decide
            have zi1 : (0 : Int) ≤ 9223372036854775807 := by decide
            have zk0 : (-9223372036854775808 : Int) ≤ 1 := by decide
            have zk1 : (1 : Int) ≤ 9223372036854775807 := by decide
            go_region_held3 (fun w' => w'.cell? ⟨gx, ((i : Int) % 4).toNat, none⟩ = some (.int .u16 p1) ∧ w'.cell? ⟨gx, ((i : Int) / 4).toNat, none⟩ = some (.int .u16 p2) ∧ w'.cell? ⟨gx, (((i : Int) + (i : Int) / 4) % 4).toNat, none⟩ = some (.int .u16 p3)) (first | exact hS | exact keep3 (below_tr hd hb2) hS | exact keep3 (below_tr (below_tr hd hb2) (below_alloc1 _ _)) hS | exact keep3 (below_tr (below_tr (below_tr hd hb2) (below_alloc1 _ _)) hb3) hS | exact keep3 (below_tr (below_tr (below_tr (below_tr hd hb2) (below_alloc1 _ _)) hb3) (below_alloc1 _ _)) hS | exact keep3 (below_tr (below_tr (below_tr (below_tr (below_tr hd hb2) (below_alloc1 _ _)) hb3) (below_alloc1 _ _)) hb4) hS) (first | (go_at_call 5; with_reducible refine (tells_at [] _ _ _ _ _ _ _ (C_none_rows _) (Nat.le_refl _) zb0 p10 p11 p20 p21 p30 p31).mono ?_; rintro e w2 ⟨rfl, hb2⟩) | (go_at_call_of 3 (Value.int IntKind.i64 1); with_reducible refine (keeps_at [0, 0, 0, 0] _ 4 _ _ _ _ _ (C_four0 w2) (Nat.le_refl _) zb4 zi0 zi1 zk0 zk1 p10 p11).mono ?_; rintro e w3 ⟨rfl, hb3⟩) | (go_at_call 3; with_reducible refine (keeps_at [255, 255] _ 2 _ _ _ _ _ (C_twoF w3) (Nat.le_refl _) zb2 zi0 zi1 zi0 zi1 p10 p11).mono ?_; rintro e w4 ⟨rfl, hb4⟩))
            all_goals (go_wp2_with fail; go_meet; exact ⟨rfl, ⟨below_tr (below_tr (below_tr (below_tr (below_tr hd hb2) (below_alloc1 _ _)) hb3) (below_alloc1 _ _)) hb4⟩⟩)
          case rest =>
            obtain ⟨rfl, HB2⟩ := hcut
            go_wp2
            go_roundw
            case rel => exact ⟨i + 1, by omega, by go_num, ⟨below_then HBQ.out HBQ.out.size HB2.out⟩⟩
            case measure => simp [intOf]; omega
        · have e : i = 16 := by omega
          subst e
          go_wp2_with (go_at_call 7; refine (works_any _).mono ?_; rintro e w2 ⟨rfl, hb2⟩)
          go_ret
          exact ⟨rfl, below_tr HB.out hb2⟩
end Go.Proofs.Ythepinoloicfnaa.Own
