/- The session's texts that the law leans on, merged: LawBack, OpenHd. -/
import Derived.Test.YtknpaihlnkcpgaaMA2
import Derived.OpenShut
import Derived.WideShapes
import Derived.ChangeSlices
/- The walk of the law IpBack. -/
set_option linter.unusedVariables false
set_option linter.unusedSimpArgs false
namespace Go.Proofs.Ytknpaihlnkcpgaa.Own
open Go.RowKit Go.Proofs.YtknpaihlnkcpgaaW.PrintWords Go.Proofs.YtknpaihlnkcpgaaW.PrintLast Go.Proofs.YtknpaihlnkcpgaaW.PrintMore
attribute [local go_sem ↓] lv_hd sv_hd
attribute [local go_sem] gv_some isV_some pick2_true stc nfz_false oc1_int oc1_bool oc1_string oc1_slice oc1_pointer oc1_func pick1_true setCells_new setCells_past setCells_drew

/-- a header's box, and two rows -/
def BA (w W : World) (VH : Array Value) (A : Option Addr) (n : Nat) (l : List Int) (B : Option Addr) (m : Nat) (k : List Int) : Prop :=
  Below w.heap.size w W ∧ W.heap[w.heap.size]? = some (.cells VH 39 (0, 0)) ∧ Kd.C (Kd.int .u8) W A n l ∧ Kd.C (Kd.int .u8) W B m k
theorem BA.below {w W W' : World} {VH : Array Value} {A B : Option Addr} {n m : Nat} {l k : List Int} (h : BA w W VH A n l B m k) (hb : Below W.heap.size W W') : BA w W' VH A n l B m k :=
  ⟨below_then h.1 h.1.size hb, (hb.block _ (blk_lt h.2.1)).trans h.2.1, Kd.C_below h.2.2.1 hb, Kd.C_below h.2.2.2 hb⟩
theorem BA.alloc {w W : World} {VH : Array Value} {A B : Option Addr} {n m : Nat} {l k : List Int} (h : BA w W VH A n l B m k) (o : Obj) : BA w (W.alloc o) VH A n l B m k := h.below (below_alloc1 W o)
theorem sth {h : Hd} {A : Option Addr} {n c : Nat} {V : Array Value} (e : hcs h A n c = V) (W : World) : (stV 39 ⟨W.heap.size, 0, none⟩ (.agg V)).run Try.prog (W.alloc (.cells (hcs zHd none 0 0) 39)) = .ok () (W.alloc (.cells V 39)) := by
  rw [← e]; exact st_new _ (hcs h A n c) (hcs zHd none 0 0) rfl (by simp [hcs, ocv_int, ocv_bool, ocv_string, ocv_slice]) (fun w j => nf_new w _ _ _) (by kernel_rfl) W
theorem ldh {h : Hd} {A : Option Addr} {n c : Nat} {V : Array Value} (e : hcs h A n c = V) {W : World} {g t : Nat} (hb : W.heap[g]? = some (.cells V t (0, 0))) : (ldV 39 ⟨g, 0, none⟩).run Try.prog W = .ok (.agg V) W := by
  rw [← e] at hb ⊢; exact ld_hd hb
theorem stL_lim {h : Hd} {o : List Int} {n M : Nat} (ho : o.length = n) (hM : 20 + n = M) : (stL h o).length = M := by rw [stL_len]; omega
/-- ip.Parse of any row, its header a value -/
theorem parse_any {b : List Int} (hb : bytes b) (A : Option Addr) (k c : Nat) (W : World) (hC : Kd.C (Kd.int .u8) W A k b) (hc : k ≤ c) (hk : k ≤ 1000) :
    Calls Try.prog 19 #[.slice A k c] W fun e w' => ∃ A2 n2 c2 V, hcs (parseH b) A2 n2 c2 = V ∧ e = .returned (.tuple #[.agg V, .int .i64 (parseN b), .int .i64 (parseC b)]) ∧ Kd.R (Kd.int .u8) 5 w' W.heap.size (fun _ => True) (.slice A2 n2 c2) (parseO b) ∧ Below W.heap.size W w' := by
  refine (parse_all _ A k c W hC hc hb (by omega)).mono ?_
  rintro e w' ⟨A2, n2, c2', rfl, hR, hb⟩
  exact ⟨_, _, _, _, rfl, rfl, hR, hb⟩
/-- ip.Parse of what stands, with bytes behind it -/
theorem parse_back {h : Hd} {o x L : List Int} {n M : Nat} (hok : h.ok) (ho : bytes o) (hn : o.length = n) (hM : 20 + n = M) (hr : rightB h n = true) (hx : bytes x) (eL : stL h o = L) (A : Option Addr) (k c : Nat) (W : World) (hC : Kd.C (Kd.int .u8) W A k (L ++ x)) (hc : k ≤ c) (hx9 : x.length ≤ 1000) :
    Calls Try.prog 19 #[.slice A k c] W fun e w' => ∃ A2 c2 V, hcs h A2 n c2 = V ∧ e = .returned (.tuple #[.agg V, .int .i64 M, .int .i64 0]) ∧ Kd.R (Kd.int .u8) 5 w' W.heap.size (fun _ => True) (.slice A2 n c2) o ∧ Below W.heap.size W w' := by
  subst hn hM eL
  obtain ⟨hf, hn, hn4, ht⟩ := of_decide_eq_true hr
  obtain ⟨c1, c2, c3, c4⟩ := back1 hok ho hr x
  have hk := hC.1
  rw [List.length_append, stL_len] at hk
  refine (parse_all _ A k c W hC hc ((bytes_append _ _).2 ⟨bytes_stL hok ho hf hn4, hx⟩) (by omega)).mono ?_
  rintro e w' ⟨A2, n2, c2', rfl, hR, hb⟩
  rw [c4] at hR
  obtain rfl : o.length = n2 := (C_of_R hR).1.1
  rw [c1, c2, c3]
  exact ⟨_, _, _, rfl, rfl, hR, hb⟩
theorem hop_zero {h : Hd} {o x L : List Int} {n : Nat} (hok : h.ok) (ho : bytes o) (hn : o.length = n) (hr : rightB h n = true) (hx : bytes x) (eL : stL h o = L) (ht : h.ttl = 0) (A : Option Addr) (k c : Nat) (W : World) (hC : Kd.C (Kd.int .u8) W A k (L ++ x)) (hc : k ≤ c) (hx9 : x.length ≤ 1000) :
    Calls Try.prog 21 #[.slice A k c] W fun e w' => ∃ A2 n2 c2, e = .returned (.tuple #[.slice A2 n2 c2, .int .i64 51]) ∧ Below W.heap.size W w' := by
  subst hn eL
  obtain ⟨hf, hn, hn4, _⟩ := of_decide_eq_true hr
  obtain ⟨c1, c2, c3, c4⟩ := back1 hok ho hr x
  have hk := hC.1
  rw [List.length_append, stL_len] at hk
  have e : stL h o ++ x = head20 h o.length (ck (stands h o 0)) ++ (o ++ x) := by rw [stL_eq, List.append_assoc]
  have g8 : (stL h o ++ x).getD 8 0 = h.ttl := by rw [e]; rfl
  have hH : hopC (stL h o ++ x) = 51 := by
    unfold hopC
    rw [if_neg (fun h => h c1), if_pos (by rw [g8]; exact ht)]
  refine (hop_any _ A k c W hC hc ((bytes_append _ _).2 ⟨bytes_stL hok ho hf hn4, hx⟩) (by omega)).mono ?_
  rintro e w' ⟨A2, n2, c2', rfl, hR, hb⟩
  rw [hH]
  exact ⟨_, _, _, rfl, hb⟩
theorem hop_back {h : Hd} {o x L : List Int} {n : Nat} (hok : h.ok) (ho : bytes o) (hn : o.length = n) (hr : rightB h n = true) (hx : bytes x) (eL : stL h o = L) (ht : h.ttl ≠ 0) (A : Option Addr) (k c : Nat) (W : World) (hC : Kd.C (Kd.int .u8) W A k (L ++ x)) (hc : k ≤ c) (hx9 : x.length ≤ 1000) :
    Calls Try.prog 21 #[.slice A k c] W fun e w' => ∃ A2 c2, e = .returned (.tuple #[.slice A2 k c2, .int .i64 0]) ∧ Kd.R (Kd.int .u8) 5 w' W.heap.size (fun _ => True) (.slice A2 k c2) (hopL (L ++ x)) ∧ Below W.heap.size W w' := by
  subst hn eL
  obtain ⟨hf, hn, hn4, _⟩ := of_decide_eq_true hr
  obtain ⟨c1, c2, c3⟩ := back3 hok ho hr x hx ht
  have hk := hC.1
  have hk' := hk
  rw [List.length_append, stL_len] at hk'
  refine (hop_any _ A k c W hC hc ((bytes_append _ _).2 ⟨bytes_stL hok ho hf hn4, hx⟩) (by omega)).mono ?_
  rintro e w' ⟨A2, n2, c2', rfl, hR, hb⟩
  have hn2 := (C_of_R hR).1.1
  rw [c2, hk] at hn2
  subst hn2
  rw [c1]
  exact ⟨_, _, rfl, hR, hb⟩
theorem hop_parse {h : Hd} {o x L : List Int} {n M : Nat} (hok : h.ok) (ho : bytes o) (hn : o.length = n) (hM : 20 + n = M) (hr : rightB h n = true) (hx : bytes x) (eL : stL h o = L) (ht : h.ttl ≠ 0) (A : Option Addr) (k c : Nat) (W : World) (hC : Kd.C (Kd.int .u8) W A k (hopL (L ++ x))) (hc : k ≤ c) (hx9 : x.length ≤ 1000) :
    Calls Try.prog 19 #[.slice A k c] W fun e w' => ∃ A2 c2 V, hcs { h with ttl := h.ttl - 1 } A2 n c2 = V ∧ e = .returned (.tuple #[.agg V, .int .i64 M, .int .i64 0]) ∧ Kd.R (Kd.int .u8) 5 w' W.heap.size (fun _ => True) (.slice A2 n c2) o ∧ Below W.heap.size W w' := by
  subst hn hM eL
  obtain ⟨hf, hn, hn4, _⟩ := of_decide_eq_true hr
  obtain ⟨c1, c2, c3, c4, c5, c6, c7⟩ := back3 hok ho hr x hx ht
  have hk := hC.1
  rw [c2, List.length_append, stL_len] at hk
  refine (parse_all _ A k c W hC hc (bytes_hopL ((bytes_append _ _).2 ⟨bytes_stL hok ho hf hn4, hx⟩)) (by omega)).mono ?_
  rintro e w' ⟨A2, n2, c2', rfl, hR, hb⟩
  rw [c6] at hR
  obtain rfl : o.length = n2 := (C_of_R hR).1.1
  rw [c3, c4, c5]
  exact ⟨_, _, _, rfl, rfl, hR, hb⟩
set_option maxRecDepth 100000 in
set_option maxHeartbeats 2000000 in
theorem ipBack_any (h : Hd) (A : Option Addr) (n c : Nat) (o : List Int) (B : Option Addr) (m d : Nat) (x : List Int) (i by' : Int) (w : World) (hC : Kd.C (Kd.int .u8) w A n o) (hc : n ≤ c) (ho : bytes o) (hok : h.ok) (hn9 : n ≤ 9223372036854775807)
    (hD : Kd.C (Kd.int .u8) w B m x) (hd : m ≤ d) (hx : bytes x) (hm9 : m ≤ 9223372036854775807) (i0 : -9223372036854775808 ≤ i) (i1 : i ≤ 9223372036854775807) (b0 : 0 ≤ by') (b1 : by' ≤ 255) :
    Calls Try.prog 5 #[.agg (hcs h A n c), .slice B m d, .int .i64 i, .int .u8 by'] w fun e w' => e = .returned (.bool true) ∧ Below w.heap.size w w' := by
  obtain ⟨VH, eVH⟩ : ∃ V, hcs h A n c = V := ⟨_, rfl⟩
  have hb0 := heap_alloc_new w (.cells (hcs h A n c) 39)
  have hc16 := (hd_cells hb0).2.2.2.2.2.2.2.2.2.2.2.2.2.2.2.2
  rw [eVH] at hb0 hc16 ⊢
  by_cases h100 : 100 < n
  · clear hC hD ho hx hok hb0
    go_enter Try.func5, Try.ntmps5
    go_wp2_with (go_at_call 8; (with_reducible refine (works5 _).mono ?_); rintro e w1 ⟨rfl, hw1⟩)
    go_ret
    exact ⟨rfl, below_tr (below_alloc1 w _) hw1⟩
  by_cases h300 : 300 < m
  · clear hC hD ho hx hok hb0
    go_enter Try.func5, Try.ntmps5
    go_wp2_with (go_at_call 8; (with_reducible refine (works5 _).mono ?_); rintro e w1 ⟨rfl, hw1⟩)
    go_ret
    exact ⟨rfl, below_tr (below_alloc1 w _) hw1⟩
  have hl := ldh eVH hb0
  have hln := hC.1
  have hlm := hD.1
  have HB0 := Aside0.mk (below_alloc1 w (.cells VH 39))
  have hp := put_all h A n c o (w.alloc (.cells VH 39)) hok (by omega) (Kd.C_alloc hC _) hc ho
  have HR := Aside0.mk (fun W => right_hd h A n c W (by omega) hok.2.1)
  rw [eVH] at hp HR
  cases hr : rightB h n with
  | false =>
    have e1 : putF h n = 51 := by unfold putF; rw [hr]; rfl
    rw [e1] at hp
    rw [hr] at HR
    have HX := Aside0.mk hb0
    have HPP := Aside0.mk hp
    have HL := Aside0.mk (fun (W : World) (g t : Nat) (hb : W.heap[g]? = some (.cells VH t (0, 0))) => ldh eVH hb)
    clear hC hD ho hx hok hb0 e1 hr eVH hln hlm hp
    go_enter Try.func5, Try.ntmps5
    go_upto_region 4 with (go_at_call 13; go_must (with_reducible refine HPP.out.mono ?_); rintro e w1 ⟨A1, n1, c1, rfl, hR1, hb1⟩)
    have HB1 := Aside0.mk (below_tr HB0.out hb1)
    have hl2 := HL.out _ _ _ ((hb1.block _ (blk_lt HX.out)).trans HX.out)
    clear hl hR1 hb1
    go_wp2_with (first | (go_at_call 15; go_must (with_reducible refine (HR.out _).mono ?_); rintro e w2 ⟨rfl, hb2⟩) | (go_at_call 8; (with_reducible refine (works5 _).mono ?_); rintro e w3 ⟨rfl, hb3⟩))
    go_ret
    exact ⟨rfl, below_tr (below_tr HB1.out hb2) hb3⟩
  | true =>
    have e1 : putF h n = 0 := by unfold putF; rw [hr]; rfl
    have e2 : putL h n o = stL h o := by unfold putL; rw [hr]; rfl
    rw [e1, e2] at hp
    rw [hr] at HR
    obtain ⟨hf, hn, hn4, htot⟩ := of_decide_eq_true hr
    obtain ⟨M, hM⟩ : ∃ M, 20 + n = M := ⟨_, rfl⟩
    obtain ⟨L, eL⟩ : ∃ L, stL h o = L := ⟨_, rfl⟩
    have hbL : bytes L := by rw [← eL]; exact bytes_stL hok ho hf (by omega)
    have hLM : L.length = M := by rw [← eL]; exact stL_lim hln hM
    rw [eL] at hp
    have HJ := Aside0.mk (fun A1 n1 c1 W (h1 : Kd.C (Kd.int .u8) W A1 n1 L) (hW : Below w.heap.size w W) (hn1 : n1 = M) => join_any L x A1 B n1 c1 m d W h1 (Kd.C_below hD hW) (by omega))
    have HJ2 := Aside0.mk (fun A1 n1 c1 W (h1 : Kd.C (Kd.int .u8) W A1 n1 L) (hn1 : n1 = M) => join_any [] L none A1 0 0 n1 c1 W (C_nil W) h1 (by omega))
    have HPA := Aside0.mk (fun Aa na ca W (h1 : Kd.C (Kd.int .u8) W Aa na (L ++ x)) (h2 : na ≤ ca) => parse_back hok ho hln hM hr hx eL Aa na ca W h1 h2 (by omega))
    have HLD := Aside0.mk (fun (W : World) (g t : Nat) (hb : W.heap[g]? = some (.cells VH t (0, 0))) => ldh eVH hb)
    have HSM : Aside0 (∀ A2 c2 V W, hcs h A2 n c2 = V → Kd.C (Kd.int .u8) W A2 n o → Below w.heap.size w W → Calls Try.prog 17 #[.agg V, .agg VH] W fun e w' => e = .returned (.bool true) ∧ Below W.heap.size W w') := ⟨fun A2 c2 V W eV h1 hW => by
      subst eV
      have hq := same_hd h h A2 A n c2 n c o o W h1 (Kd.C_below hC hW) ho ho
      rw [eVH, sameB_self] at hq
      exact hq⟩
    have HO := Aside0.mk (And.intro ho (And.intro hx (And.intro hok hr)))
    have HC := Aside0.mk hC
    have HD := Aside0.mk hD
    have EVH := Aside0.mk eVH
    have EL := Aside0.mk eL
    have HLN := Aside0.mk (And.intro hln (And.intro hlm (And.intro hLM (And.intro hM hbL))))
    have HPP := Aside0.mk hp
    have HX := Aside0.mk hb0
    have ht := hok.2.2.2.2.1
    obtain ⟨ttl, ettl⟩ : ∃ v, h.ttl = v := ⟨_, rfl⟩
    have hc6 := (hd_cells (h := h) (A := A) (n := n) (c := c) (w := w.alloc (.cells VH 39)) (by rw [eVH]; exact hb0)).2.2.2.2.2.2.1
    rw [ettl] at ht hc6
    obtain ⟨ht0, ht1⟩ := ht
    have ETT := Aside0.mk ettl
    clear hC hD ho hx hok hb0 e1 e2 hr eVH hln hlm hp hM eL hbL hLM hf hn htot ettl hc6
    go_enter Try.func5, Try.ntmps5
    go_upto_region 4 with (go_at_call 13; go_must (with_reducible refine HPP.out.mono ?_); rintro e w1 ⟨A1, n1, c1, rfl, hR1, hb1⟩)
    have HB1 := Aside0.mk (below_tr HB0.out hb1)
    have HX1 := Aside0.mk ((hb1.block _ (blk_lt HX.out)).trans HX.out)
    have hl2 := HLD.out _ _ _ HX1.out
    have HC1 := Aside0.mk (C_of_R hR1)
    obtain rfl : M = n1 := by rw [← HLN.out.2.2.1]; exact HC1.out.1.1
    clear hl hR1 hb1 HX HB0 HPP
    go_upto_region 8 with (go_at_call 15; go_must (with_reducible refine (HR.out _).mono ?_); rintro e w2 ⟨rfl, hb2⟩)
    have HB2 := Aside0.mk (below_tr HB1.out hb2)
    have HX2 := Aside0.mk ((hb2.block _ (blk_lt HX1.out)).trans HX1.out)
    have HC2 := Aside0.mk (Kd.C_below HC1.out.1 hb2)
    have hcc := HC1.out.2
    clear hl2 hb2 HC1 HB1 HX1 hc16
    go_upto_region 9 with (go_at_call 18; go_must (with_reducible refine (HJ.out _ _ _ _ HC2.out HB2.out rfl).mono ?_); rintro e w3 ⟨Aa, na, ca, rfl, hR3, hb3⟩)
    have HBA : Aside0 (BA w w3 VH A1 M L Aa na (L ++ x)) := ⟨below_tr HB2.out hb3, (hb3.block _ (blk_lt HX2.out)).trans HX2.out, Kd.C_below HC2.out hb3, (C_of_R hR3).1⟩
    have hna := (C_of_R hR3).2
    have HC3 := Aside0.mk (C_of_R hR3).1
    clear hR3 hb3 HC2 HX2 HB2 HJ
    go_upto_region 10 with (go_at_call 19; go_must (with_reducible refine (HPA.out _ _ _ _ HC3.out hna).mono ?_); rintro e w4 ⟨A2, c2, VX, eVX, rfl, hR4, hb4⟩; have hsx := sth eVX; dsimp only [hcs] at hsx; replace eVX := Aside0.mk eVX)
    clear hsx
    have HBA4 := Aside0.mk ((HBA.out.below hb4).alloc (.cells VX 39))
    have hlx := ldh eVX.out (heap_alloc_new w4 (.cells VX 39))
    have hlh := HLD.out _ _ _ HBA4.out.2.1
    have hsm := HSM.out _ _ _ (w4.alloc (.cells VX 39)) eVX.out (Kd.C_alloc (C_of_R hR4).1 _) HBA4.out.1
    have HSMX := Aside0.mk hsm
    clear hR4 hb4 HBA hsm HC3
    go_upto_region 12 with (go_at_call 17; go_must (with_reducible refine HSMX.out.mono ?_); rintro e w5 ⟨rfl, hb5⟩)
    have HBA := Aside0.mk (HBA4.out.below hb5)
    clear HBA4 hlx hlh HSMX hb5 eVX
    have hj := HJ2.out A1 M c1 w5 HBA.out.2.2.1 rfl
    have HJX := Aside0.mk hj
    clear hj HJ2
    go_upto_region 13 with (go_at_call 18; go_must (with_reducible refine HJX.out.mono ?_); rintro e w6 ⟨A6, n6, c6, rfl, hR6, hb6⟩)
    rw [List.nil_append] at hR6
    obtain rfl : M = n6 := by rw [← HLN.out.2.2.1]; exact (C_of_R hR6).1.1
    have HR6 := Aside0.mk hR6
    have HB6 := Aside0.mk hb6
    clear hR6 hb6 HJX
    have hM1 : 20 ≤ M := by have := HLN.out; omega
    have hM2 : M ≤ 60 := by have := HLN.out; omega
    have hmx : max (1 : Int) (M : Int) = M := by omega
    have HPK := Aside0.mk (fun W => pick_any i M W (by omega) (by omega) i0 i1)
    go_upto_region 14 with (go_at_call 20; go_must (with_reducible refine (HPK.out _).mono ?_); rintro e w7 ⟨j0, rfl, j0a, j0b, rfl⟩)
    obtain ⟨j, rfl⟩ := Int.eq_ofNat_of_zero_le j0a
    have hjM : j < M := by omega
    obtain ⟨ga, rfl, hga, hgs, hcx, hfx, hpn⟩ := row_put j HR6.out hjM
    obtain ⟨lv, elv⟩ : ∃ v, L.getD j 0 = v := ⟨_, rfl⟩
    rw [elv] at hcx
    have hlv := bytes_getD HLN.out.2.2.2.2 j
    rw [elv] at hlv
    obtain ⟨lv0, lv1⟩ := hlv
    obtain ⟨v, ev⟩ : ∃ v, IntKind.u8.wrap (lv + by') = v := ⟨_, rfl⟩
    have hvr : 0 ≤ v ∧ v < 256 ∧ (0 < by' → v ≠ lv) := by
      rw [IntKind.wrap_u8] at ev
      omega
    have HV := Aside0.mk hvr
    have HPN := Aside0.mk hpn
    have HGA := Aside0.mk hga
    have ELV := Aside0.mk elv
    clear hpn hga hgs elv hvr HR6
    go_upto_region 15 with fail
    have HBA8 := Aside0.mk (HBA.out.below (HB6.out.setCell (p := ⟨ga, j, none⟩) HGA.out (.int .u8 v)))
    have hR8 := HPN.out v
    clear HPN hcx hfx ev HBA HGA HB6
    generalize w6.setCell ⟨ga, j, none⟩ (.int .u8 v) = w8 at HBA8 hR8 ⊢
    have HC8 := Aside0.mk (C_of_R hR8)
    have hbv : bytes (L.set j v) := bytes_set HLN.out.2.2.2.2 j v HV.out.1 HV.out.2.1
    have HPC := Aside0.mk (parse_any hbv _ M c6 w8 HC8.out.1 HC8.out.2 (by omega))
    have hbO := bytes_parseO hbv
    have hB2 : Aside0 (0 < by' → parseC (L.set j v) = 0 → sameB (parseH (L.set j v)) h (parseO (L.set j v)) o = false) := ⟨fun hb hc => by
      obtain ⟨k1, k2, k3, k4, k5⟩ := HLN.out
      have hr := HO.out.2.2.2
      rw [← k1] at hr
      have := back2 HO.out.2.2.1 HO.out.1 hr j v (by omega) HV.out.1 HV.out.2.1 (by rw [EL.out, ELV.out]; exact HV.out.2.2 hb)
      rw [EL.out] at this
      exact this hc⟩
    obtain ⟨fc, efc⟩ : ∃ f, parseC (L.set j v) = f := ⟨_, rfl⟩
    obtain ⟨Nc, eNc⟩ : ∃ f, parseN (L.set j v) = f := ⟨_, rfl⟩
    obtain ⟨Hc, eHc⟩ : ∃ f, parseH (L.set j v) = f := ⟨_, rfl⟩
    obtain ⟨Oc, eOc⟩ : ∃ f, parseO (L.set j v) = f := ⟨_, rfl⟩
    rw [efc, eHc, eOc] at hB2
    rw [efc, eNc, eHc, eOc] at HPC
    rw [eOc] at hbO
    have HBO := Aside0.mk hbO
    clear hR8 HC8 hbv hbO efc eNc eHc eOc
    go_upto_region 16 with (go_at_call 19; go_must (with_reducible refine HPC.out.mono ?_); rintro e w9 ⟨A7, n7, c7, VY, eVY, rfl, hR9, hb9⟩; have hsx := sth eVY; dsimp only [hcs] at hsx; replace eVY := Aside0.mk eVY)
    clear hsx HPC
    have HBA9 := Aside0.mk ((HBA8.out.below hb9).alloc (.cells VY 39))
    have hly := ldh eVY.out (heap_alloc_new w9 (.cells VY 39))
    have hlh := HLD.out _ _ _ HBA9.out.2.1
    have HSMY : Aside0 (Calls Try.prog 17 #[.agg VY, .agg VH] (w9.alloc (.cells VY 39)) fun e w' => e = .returned (.bool (sameB Hc h Oc o)) ∧ Below (w9.alloc (.cells VY 39)).heap.size (w9.alloc (.cells VY 39)) w') := ⟨by
      have hq := same_hd Hc h A7 A n7 c7 n c Oc o (w9.alloc (.cells VY 39)) (Kd.C_alloc (C_of_R hR9).1 _) (Kd.C_below HC.out HBA9.out.1) HBO.out HO.out.1
      rw [eVY.out, EVH.out] at hq
      exact hq⟩
    clear hR9 hb9 HBA8
    go_cut [8, 110] (fun q r wx => q = .bool false ∧ r = .bool false ∧ Aside0 (BA w wx VH A1 M L Aa na (L ++ x)))
    case first =>
      by_cases hb0 : by' = 0
      · subst hb0
        go_wp2_with fail
        go_meet
        case rel => exact ⟨rfl, rfl, HBA9⟩
      · have hby : 0 < by' := by omega
        by_cases h10 : j = 10
        · subst h10
          go_wp2_with fail
          go_meet
          case rel => exact ⟨rfl, rfl, HBA9⟩
        · by_cases h11 : j = 11
          · subst h11
            go_wp2_with fail
            go_meet
            case rel => exact ⟨rfl, rfl, HBA9⟩
          · by_cases hf0 : fc = 0
            · subst hf0
              have hs := hB2.out hby rfl
              rw [hs] at HSMY
              clear hs
              have hq10 : ((j : Int) != 10) = true := by simp; omega
              have hq11 : ((j : Int) != 11) = true := by simp; omega
              go_wp2_with (go_at_call 17; go_must (with_reducible refine HSMY.out.mono ?_); rintro e w5 ⟨rfl, hb5⟩)
              go_meet
              case rel => exact ⟨rfl, rfl, ⟨HBA9.out.below hb5⟩⟩
            · have hq10 : ((j : Int) != 10) = true := by simp; omega
              have hq11 : ((j : Int) != 11) = true := by simp; omega
              have hqf : (fc == 0) = false := by simpa using hf0
              go_wp2_with fail
              go_meet
              case rel => exact ⟨rfl, rfl, HBA9⟩
    case rest =>
      obtain ⟨rfl, rfl, HBA⟩ := hcut
      clear HBA9 hly hlh HSMY hB2 HBO eVY HSM
      have hca := (HBA.out.2.2.2).1
      have hcl : ∀ W, Below wc.heap.size wc W → W.cell? ⟨w.heap.size, 6, none⟩ = some (.int .u8 ttl) := fun W hW => by
        have hb := (HBA.out.below hW).2.1
        rw [← EVH.out] at hb
        rw [← ETT.out]
        exact (hd_cells hb).2.2.2.2.2.2.1
      by_cases ht : ttl = 0
      · have HH : Aside0 (Calls Try.prog 21 #[.slice Aa na ca] wc fun e w' => ∃ A2 n2 c2, e = .returned (.tuple #[.slice A2 n2 c2, .int .i64 51]) ∧ Below wc.heap.size wc w') := ⟨by
          obtain ⟨k1, k2, k3, k4, k5⟩ := HLN.out
          exact hop_zero HO.out.2.2.1 HO.out.1 k1 HO.out.2.2.2 HO.out.2.1 EL.out (by rw [ETT.out]; exact ht) Aa na ca wc HBA.out.2.2.2 hna (by omega)⟩
        have HCL := Aside0.mk hcl
        clear hcl hca
        subst ht
        go_upto_region 19 with (go_at_call 21; go_must (with_reducible refine HH.out.mono ?_); rintro e w10 ⟨A10, n10, c10, rfl, hb10⟩)
        have hc6 := HCL.out _ hb10
        have HB10 := Aside0.mk (below_then HBA.out.1 HBA.out.1.size hb10)
        clear hb10
        go_wp2_with (go_at_call 8; (with_reducible refine (works5 _).mono ?_); rintro e w3 ⟨rfl, hb3⟩)
        go_ret
        exact ⟨rfl, below_then HB10.out HB10.out.size hb3⟩
      · have HH : Aside0 (Calls Try.prog 21 #[.slice Aa na ca] wc fun e w' => ∃ A2 c2, e = .returned (.tuple #[.slice A2 na c2, .int .i64 0]) ∧ Kd.R (Kd.int .u8) 5 w' wc.heap.size (fun _ => True) (.slice A2 na c2) (hopL (L ++ x)) ∧ Below wc.heap.size wc w') := ⟨by
          obtain ⟨k1, k2, k3, k4, k5⟩ := HLN.out
          exact hop_back HO.out.2.2.1 HO.out.1 k1 HO.out.2.2.2 HO.out.2.1 EL.out (by rw [ETT.out]; exact ht) Aa na ca wc HBA.out.2.2.2 hna (by omega)⟩
        have HHP := Aside0.mk (fun A10 c10 W (h1 : Kd.C (Kd.int .u8) W A10 na (hopL (L ++ x))) (h2 : na ≤ c10) => hop_parse HO.out.2.2.1 HO.out.1 HLN.out.1 HLN.out.2.2.2.1 HO.out.2.2.2 HO.out.2.1 EL.out (by rw [ETT.out]; exact ht) A10 na c10 W h1 h2 (by have := HLN.out; omega))
        have HDR : Aside0 ((hopL (L ++ x)).drop M = x ∧ (hopL (L ++ x)).length = na) := ⟨by
          obtain ⟨k1, k2, k3, k4, k5⟩ := HLN.out
          have hr := HO.out.2.2.2
          rw [← k1] at hr
          obtain ⟨_, b2, _, _, _, _, b7⟩ := back3 HO.out.2.2.1 HO.out.1 hr x HO.out.2.1 (by rw [ETT.out]; exact ht)
          rw [EL.out] at b2 b7
          rw [k1, k4] at b7
          exact ⟨b7, b2.trans hca⟩⟩
        have HCL := Aside0.mk hcl
        clear hcl hca
        go_upto_region 19 with (go_at_call 21; go_must (with_reducible refine HH.out.mono ?_); rintro e w10 ⟨A10, c10, rfl, hR10, hb10⟩)
        have hc6 := HCL.out _ hb10
        have HBA10 := Aside0.mk (HBA.out.below hb10)
        have HB10 := Aside0.mk hb10
        have HR10 := Aside0.mk (C_of_R hR10)
        have hnc := (C_of_R hR10).2
        clear hR10 hb10 HH
        go_upto_region 22 with (go_at_call 19; go_must (with_reducible refine (HHP.out _ _ _ HR10.out.1 hnc).mono ?_); rintro e w11 ⟨A11, c11, VZ, eVZ, rfl, hR11, hb11⟩; have hsx := sth eVZ; dsimp only [hcs] at hsx; replace eVZ := Aside0.mk eVZ)
        clear hsx HHP
        have HBA11 := Aside0.mk (HBA10.out.below hb11)
        have HC11 := Aside0.mk (Kd.C_below HR10.out.1 hb11)
        have HR11 := Aside0.mk (C_of_R hR11).1
        have HB12 := Aside0.mk (below_alloc1 w11 (.cells VZ 39))
        have HZ12 := Aside0.mk (heap_alloc_new w11 (.cells VZ 39))
        have HG : Aside0 (w.heap.size < w11.heap.size) := ⟨blk_lt HBA11.out.2.1⟩
        clear HBA10 HR10 hR11 hb11 HB10 hc6
        generalize w11.alloc (.cells VZ 39) = w12 at HB12 HZ12 ⊢
        have HCL11 : Aside0 (∀ W, Below w11.heap.size w11 W → W.cell? ⟨w.heap.size, 6, none⟩ = some (.int .u8 ttl)) := ⟨fun W hW => by
          have hb := (HBA11.out.below hW).2.1
          rw [← EVH.out] at hb
          rw [← ETT.out]
          exact (hd_cells hb).2.2.2.2.2.2.1⟩
        have hc6 := HCL11.out _ HB12.out
        have HZC : Aside0 (∀ (W : World) (t : Nat), W.heap[w11.heap.size]? = some (.cells VZ t (0, 0)) → W.cell? ⟨w11.heap.size, 6, none⟩ = some (.int .u8 (ttl - 1))) := ⟨fun W t hW => by
          rw [← eVZ.out] at hW
          rw [← ETT.out]
          exact (hd_cells hW).2.2.2.2.2.2.1⟩
        have hz6 := HZC.out _ _ HZ12.out
        have hlz := ldh eVZ.out HZ12.out
        have hw1 : IntKind.u8.wrap (ttl - 1) = ttl - 1 := IntWalk.u8_in _ (by omega)
        have HRZ : Aside0 (Calls Try.prog 15 #[.agg VZ] w12 fun e w' => e = .returned (.bool true) ∧ Below w12.heap.size w12 w') := ⟨by
          have hq := right_hd { h with ttl := h.ttl - 1 } A11 n c11 w12 (by omega) HO.out.2.2.1.2.1
          rw [eVZ.out] at hq
          have e : rightB { h with ttl := h.ttl - 1 } n = true := HO.out.2.2.2
          rw [e] at hq
          exact hq⟩
        go_upto_region 24 with (go_at_call 15; go_must (with_reducible refine HRZ.out.mono ?_); rintro e w13 ⟨rfl, hb13⟩)
        have HB13 := Aside0.mk (below_then HB12.out HB12.out.size hb13)
        have HZ13 := Aside0.mk ((hb13.block _ (blk_lt HZ12.out)).trans HZ12.out)
        clear hc6 hz6 hlz hb13 HRZ HZ12 HB12
        have hc6 := HCL11.out _ HB13.out
        have hz6 := HZC.out _ _ HZ13.out
        have hfz := fz_new HZ13.out 6
        go_upto_region 25 with fail
        have HBW := Aside0.mk (HB13.out.setCell (p := ⟨w11.heap.size, 6, none⟩) (Nat.le_refl _) (.int .u8 ttl))
        have hzw := blk_set HZ13.out 6 (.int .u8 ttl)
        rw [← eVZ.out, ← ETT.out] at hzw
        change (w13.setCell ⟨w11.heap.size, 6, none⟩ (.int .u8 h.ttl)).heap[w11.heap.size]? = some (Obj.cells (hcs h A11 n c11) 39 (0, 0)) at hzw
        rw [ETT.out] at hzw
        clear hc6 hz6 hfz HB13 HZ13 HZC HCL11 eVZ
        obtain ⟨VW, eVW⟩ : ∃ V, hcs h A11 n c11 = V := ⟨_, rfl⟩
        rw [eVW] at hzw
        have EVW := Aside0.mk eVW
        have HZW := Aside0.mk hzw
        clear eVW hzw
        generalize w13.setCell ⟨w11.heap.size, 6, none⟩ (.int .u8 ttl) = w14 at HBW HZW ⊢
        have hlz := ldh EVW.out HZW.out
        have HBA14 := Aside0.mk (HBA11.out.below HBW.out)
        have hlh := HLD.out _ _ _ HBA14.out.2.1
        have HSZ : Aside0 (Calls Try.prog 17 #[.agg VW, .agg VH] w14 fun e w' => e = .returned (.bool true) ∧ Below w14.heap.size w14 w') := ⟨by
          have hq := same_hd h h A11 A n c11 n c o o w14 (Kd.C_below HR11.out HBW.out) (Kd.C_below HC.out HBA14.out.1) HO.out.1 HO.out.1
          rw [EVH.out, EVW.out, sameB_self] at hq
          exact hq⟩
        have hMn : M ≤ na := by have := HDR.out.2; have h2 := HBA.out.2.2.2.1; have h3 := HLN.out.2.2.1; rw [List.length_append] at h2; omega
        obtain ⟨T, A15, n15, c15, hcut15, hrd15, hmc15, hT15, hm15⟩ := cut_drop A10 na c10 (hopL (L ++ x)) (M : Int) HDR.out.2 (by omega) (by omega) hnc
        have hTx : T = x := by rw [hT15, Int.toNat_natCast]; exact HDR.out.1
        have HST : Aside0 (∀ W, Below w14.heap.size w14 W → Calls Try.prog 14 #[.slice A15 n15 c15, .slice B m d] W fun e w' => e = .returned (.bool true) ∧ W = w') := ⟨fun W hW => by
          have h := same_any T x A15 B n15 c15 m d W (Kd.C_below (Kd.C_below (hrd15 _ HC11.out) HBW.out) hW) (Kd.C_below HD.out (below_then HBA14.out.1 HBA14.out.1.size hW)) (by rw [hTx]; exact HO.out.2.1) HO.out.2.1
          rw [hTx, show decide (x = x) = true from decide_eq_true rfl] at h
          exact h⟩
        have HBE := Aside0.mk HBA14.out.1
        clear hTx hT15 hm15 hrd15 HBA14 HBA11 HC11 HR11 HBW HZW EVW
        go_wp2_with (first | (go_at_call 17; go_must (with_reducible refine HSZ.out.mono ?_); rintro e w15 ⟨rfl, hb15⟩) | (go_at_call 14; go_must (with_reducible refine (HST.out _ (by assumption)).mono ?_); rintro e w16 ⟨rfl, rfl⟩) | (go_at_call 8; (with_reducible refine (works5 _).mono ?_); rintro e w3 ⟨rfl, hb3⟩))
        go_ret
        exact ⟨rfl, below_then (below_then HBE.out HBE.out.size hb15) (Nat.le_trans HBE.out.size hb15.size) hb3⟩
end Go.Proofs.Ytknpaihlnkcpgaa.Own
/- A header that came in, opened: its numbers, its addresses, its options. -/
set_option linter.unusedVariables false
set_option linter.unusedSimpArgs false
namespace Go.Proofs.Ytknpaihlnkcpgaa.Own
open Go.RowKit Go.ChangeShapes Go.WideShapes Go.Proofs.YtknpaihlnkcpgaaW.PrintWords Go.Proofs.YtknpaihlnkcpgaaW.PrintLast Go.Proofs.YtknpaihlnkcpgaaW.PrintMore

def RowIn (w : World) (a : Option Addr) (len cap : Nat) (zs : List Int) : Prop :=
  (a = none ∧ len = 0 ∧ cap = 0 ∧ zs = []) ∨
  ∃ x, a = some x ∧ len ≤ cap ∧ cap ≤ maxLen ∧ zs.length = cap ∧ (∀ i, i < zs.length → w.cell? (x.add i) = some (.int .u8 (zs.getD i 0))) ∧ ∀ n ∈ zs, (Lit.int .u8 n).wf = true
theorem row_of_ints {H : Type} {enc : TypeId × Value → H} {W : World} {fuel : Nat} {v : Value} {x : DataW H × List MemPlace}
    (h : DataW.trod enc Try.prog W 0 (fun _ => true) true fuel 22 [v] = some x) : ∃ a n c zs, v = .slice a n c ∧ RowIn W a n c zs := by
  rcases open_ints Try.underlying22 Try.underlying5 (by kernel_rfl) h with ⟨hcs, _⟩ | ⟨ad, l, c, zs, hcs, _, hl, hm, hz, _, hcell, hwz⟩
  · exact ⟨none, 0, 0, [], by simpa using hcs, .inl ⟨rfl, rfl, rfl, rfl⟩⟩
  · exact ⟨some ad, l, c, zs, by simpa using hcs, .inr ⟨ad, rfl, hl, hm, by simpa using hz, hcell, hwz⟩⟩
theorem RowIn.read {w : World} {a : Option Addr} {n c : Nat} {zs : List Int} (h : RowIn w a n c zs) : ∃ l : List Int, Kd.C (Kd.int .u8) w a n l ∧ n ≤ c ∧ bytes l ∧ n ≤ 9223372036854775807 := by
  obtain ⟨l, rfl, hr, hm, hw, hc⟩ := ReadsInt.ofRowC h
  exact ⟨l, Kd.C_of_reads (d := (0 : Int)) (h1 := fun _ => rfl) hr, hc, bytes_of_wf hw, by simpa [maxLen] using hm⟩
theorem cellsOf_hd : Try.prog.cellsOf 39 = 17 := by kernel_rfl
theorem cellsOf_u8 : Try.prog.cellsOf 5 = 1 := by kernel_rfl
theorem cellsOf_u16 : Try.prog.cellsOf 36 = 1 := by kernel_rfl
theorem cellsOf_bool : Try.prog.cellsOf 4 = 1 := by kernel_rfl
theorem cellsOf_arr4 : Try.prog.cellsOf 37 = 4 := by kernel_rfl
theorem cellsOf_sl : Try.prog.cellsOf 22 = 1 := by kernel_rfl
section
variable {H : Type} {enc : TypeId × Value → H} {W : World} {fuel : Nat} {v : Value} {x : Option (DataW H × List MemPlace)}
theorem trod_u8 (h : DataW.trod enc Try.prog W 0 (fun _ => true) true fuel 5 [v] = x) (hx : x ≠ none) : ∃ n, v = .int .u8 n ∧ inB n 255 := by
  obtain ⟨y, rfl⟩ := Option.ne_none_iff_exists'.1 hx
  obtain ⟨n, hn, _, hw⟩ := DataW.trod_int Try.underlying5 h
  exact ⟨n, by simpa using hn, u8_of_wf hw⟩
theorem trod_u16 (h : DataW.trod enc Try.prog W 0 (fun _ => true) true fuel 36 [v] = x) (hx : x ≠ none) : ∃ n, v = .int .u16 n ∧ inB n 65535 := by
  obtain ⟨y, rfl⟩ := Option.ne_none_iff_exists'.1 hx
  obtain ⟨n, hn, _, hw⟩ := DataW.trod_int Try.underlying36 h
  exact ⟨n, by simpa using hn, u16_of_wf hw⟩
theorem trod_bl (h : DataW.trod enc Try.prog W 0 (fun _ => true) true fuel 4 [v] = x) (hx : x ≠ none) : ∃ b, v = .bool b := by
  obtain ⟨y, rfl⟩ := Option.ne_none_iff_exists'.1 hx
  obtain ⟨b, hb, _⟩ := DataW.trod_bool Try.underlying4 h
  exact ⟨b, by simpa using hb⟩
theorem trod_a4 {v0 v1 v2 v3 : Value} (h : DataW.trod enc Try.prog W 0 (fun _ => true) true fuel 37 [v0, v1, v2, v3] = x) (hx : x ≠ none) : ∃ a b c d, v0 = .int .u8 a ∧ v1 = .int .u8 b ∧ v2 = .int .u8 c ∧ v3 = .int .u8 d ∧ inB a 255 ∧ inB b 255 ∧ inB c 255 ∧ inB d 255 := by
  obtain ⟨y, rfl⟩ := Option.ne_none_iff_exists'.1 hx
  obtain ⟨xs, m, _, _, _, hl, each⟩ := DataW.trod_array Try.underlying37 h
  have hn : ∀ i, i < 4 → xs[i]? ≠ none := fun i hi => by rw [List.getElem?_eq_getElem (by omega)]; simp
  have e0 := each 0 (by decide)
  have e1 := each 1 (by decide)
  have e2 := each 2 (by decide)
  have e3 := each 3 (by decide)
  simp only [cellsOf_u8, Nat.mul_one, List.drop_zero, List.drop_succ_cons, List.take_succ_cons, List.take_zero] at e0 e1 e2 e3
  obtain ⟨a, rfl, ha⟩ := trod_u8 e0 (hn 0 (by decide))
  obtain ⟨b, rfl, hb⟩ := trod_u8 e1 (hn 1 (by decide))
  obtain ⟨c, rfl, hc⟩ := trod_u8 e2 (hn 2 (by decide))
  obtain ⟨d, rfl, hd⟩ := trod_u8 e3 (hn 3 (by decide))
  exact ⟨a, b, c, d, rfl, rfl, rfl, rfl, ha, hb, hc, hd⟩
end
set_option maxRecDepth 100000 in
theorem open_hd {H : Type} {enc : TypeId × Value → H} {W : World} {r : Reach} {b0 : Nat} {v : Value} {d : DataW H} {p : List MemPlace} (hv : Value.okWide Try.prog W r b0 39 v)
    (h : DataW.Trod enc Try.prog W 0 (fun _ => true) true 39 v d p) : ∃ (hd : Hd) (A : Option Addr) (n c : Nat) (z : List Int), v = .agg (hcs hd A n c) ∧ hd.ok ∧ RowIn W A n c z := by
  obtain ⟨cs, rfl, hcs⟩ := okWide_struct Try.underlying39 hv
  rw [cellsOf_hd] at hcs
  obtain ⟨fuel, hf⟩ := h
  obtain ⟨xs, m, _, _, _, hl, each⟩ := DataW.trod_struct Try.underlying39 hf
  obtain ⟨l⟩ := cs
  match l, hcs with
  | [v0, v1, v2, v3, v4, v5, v6, v7, v8, v9, v10, v11, v12, v13, v14, v15, v16], _ =>
    have hl' : xs.length = 11 := hl
    have hn : ∀ i, i < 11 → xs[i]? ≠ none := fun i hi => by rw [List.getElem?_eq_getElem (by omega)]; simp
    have e0 := each 0 _ rfl
    have e1 := each 1 _ rfl
    have e2 := each 2 _ rfl
    have e3 := each 3 _ rfl
    have e4 := each 4 _ rfl
    have e5 := each 5 _ rfl
    have e6 := each 6 _ rfl
    have e7 := each 7 _ rfl
    have e8 := each 8 _ rfl
    have e9 := each 9 _ rfl
    have e10 := each 10 _ rfl
    simp only [Value.cells, cellsOf_u8, cellsOf_u16, cellsOf_bool, cellsOf_arr4, cellsOf_sl, List.drop_zero, List.drop_succ_cons, List.take_succ_cons, List.take_zero] at e0 e1 e2 e3 e4 e5 e6 e7 e8 e9 e10
    obtain ⟨a0, rfl, h0⟩ := trod_u8 e0 (hn 0 (by decide))
    obtain ⟨a1, rfl, h1⟩ := trod_u16 e1 (hn 1 (by decide))
    obtain ⟨a2, rfl, h2⟩ := trod_u16 e2 (hn 2 (by decide))
    obtain ⟨a3, rfl⟩ := trod_bl e3 (hn 3 (by decide))
    obtain ⟨a4, rfl⟩ := trod_bl e4 (hn 4 (by decide))
    obtain ⟨a5, rfl, h5⟩ := trod_u16 e5 (hn 5 (by decide))
    obtain ⟨a6, rfl, h6⟩ := trod_u8 e6 (hn 6 (by decide))
    obtain ⟨a7, rfl, h7⟩ := trod_u8 e7 (hn 7 (by decide))
    obtain ⟨s0, s1, s2, s3, rfl, rfl, rfl, rfl, k0, k1, k2, k3⟩ := trod_a4 e8 (hn 8 (by decide))
    obtain ⟨d0, d1, d2, d3, rfl, rfl, rfl, rfl, j0, j1, j2, j3⟩ := trod_a4 e9 (hn 9 (by decide))
    obtain ⟨y, hy⟩ := Option.ne_none_iff_exists'.1 (hn 10 (by decide))
    rw [hy] at e10
    obtain ⟨A, n, c, z, rfl, hz⟩ := row_of_ints e10
    exact ⟨⟨a0, a1, a2, a3, a4, a5, a6, a7, s0, s1, s2, s3, d0, d1, d2, d3⟩, A, n, c, z, rfl, ⟨h0, h1, h2, h5, h6, h7, k0, k1, k2, k3, j0, j1, j2, j3⟩, hz⟩
end Go.Proofs.Ytknpaihlnkcpgaa.Own
