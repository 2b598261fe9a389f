/- ip.Put. (written by wip/gen_put.py) -/
import Derived.Test.YtknpaihlnkcpgaaHd
import Derived.Test.YtknpaihlnkcpgaaWSet
import Derived.Test.YtknpaihlnkcpgaaConcat
import Derived.Test.YtknpaihlnkcpgaaSumMore
import Derived.IntWalk
set_option linter.unusedVariables false
set_option linter.unusedSimpArgs false
namespace Go.Proofs.Ytknpaihlnkcpgaa.Own
open Go.RowKit Go.Proofs.YtknpaihlnkcpgaaW.PrintWords Go.Proofs.YtknpaihlnkcpgaaW.PrintLast Go.Proofs.YtknpaihlnkcpgaaW.PrintMore
attribute [local go_sem ↓] ld17 ld4 sv_hd
attribute [local go_sem] run_sv_hd gv_some isV_some pick2_true stc nfz_false oc1_int oc1_bool oc1_string oc1_slice oc1_pointer oc1_func pick1_true setCells_new setCells_past setCells_drew

/-- a header's bytes, with a checksum -/
def stands (h : Hd) (o : List Int) (sum : Int) : List Int :=
  [(64 : Int) + (20 + (o.length : Int)) / 4, h.tos] ++ be 2 h.total ++ be 2 h.id ++ be 2 (fl h.df 16384 + fl h.mf 8192 + h.frag) ++ [h.ttl, h.proto] ++ be 2 sum ++ [h.s0, h.s1, h.s2, h.s3, h.d0, h.d1, h.d2, h.d3] ++ o

set_option maxRecDepth 100000 in
set_option maxHeartbeats 8000000 in
theorem put_wrong (h : Hd) (A : Option Addr) (n c : Nat) (w : World) (ht : inB h.total 65535) (hn : n ≤ 1000000) (hr : rightB h n = false) :
    Calls Try.prog 13 #[.agg (hcs h A n c)] w fun e w' => e = .returned (.tuple #[.slice none 0 0, .int .i64 51]) ∧ Below w.heap.size w w' := by
  have hb := heap_alloc_new w (.cells (hcs h A n c) 39)
  have hcc := hd_cells hb
  have hq := right_hd h A n c (w.alloc (.cells (hcs h A n c) 39)) hn ht
  rw [hr] at hq
  clear hr ht hb
  obtain ⟨tos, total, id, df, mf, frag, ttl, proto, s0, s1, s2, s3, d0, d1, d2, d3⟩ := h
  dsimp only [hcs] at hcc hq
  go_enter Try.func13, Try.ntmps13
  go_wp2_with (go_at_call 15; go_must (with_reducible refine hq.mono ?_); rintro e w1 ⟨rfl, hb1⟩)
  refine bodyPost_ret (results_tmp2 rfl _ _ _) rfl ?_
  exact ⟨rfl, below_tr (below_alloc1 w _) hb1⟩

/-- where ip.Put stands: the header's box lies as it did, the writer g holds bs -/
def PutAt (w W : World) (h : Hd) (A : Option Addr) (n c g : Nat) (bs : List Int) : Prop :=
  Below w.heap.size w W ∧ W.heap[w.heap.size]? = some (.cells (hcs h A n c) 39 (0, 0)) ∧ w.heap.size < g ∧ WrAt W w.heap.size g 68 bs
theorem PutAt.below {w W W2 : World} {h : Hd} {A : Option Addr} {n c g : Nat} {bs : List Int} (hP : PutAt w W h A n c g bs) (hb : Below W.heap.size W W2) : PutAt w W2 h A n c g bs :=
  ⟨below_then hP.1 hP.1.size hb, (hb.block _ (blk_lt hP.2.1)).trans hP.2.1, hP.2.2.1, hP.2.2.2.below hb⟩
theorem PutAt.drew {w W : World} {h : Hd} {A : Option Addr} {n c g : Nat} {bs : List Int} (hP : PutAt w W h A n c g bs) : PutAt w W.drew h A n c g bs := hP.below (below_drew (Below.refl _ _))
theorem PutAt.alloc {w W : World} {h : Hd} {A : Option Addr} {n c g : Nat} {bs : List Int} (hP : PutAt w W h A n c g bs) (o : Obj) : PutAt w (W.alloc o) h A n c g bs := hP.below (below_alloc1 W o)
theorem PutAt.wrote {w W W2 : World} {h : Hd} {A : Option Addr} {n c g : Nat} {bs cs : List Int} (hP : PutAt w W h A n c g bs) (hk : Wrote w.heap.size g W W2) (hw : WrAt W2 w.heap.size g 68 cs) : PutAt w W2 h A n c g cs :=
  ⟨hP.1.trans hk.1, hk.2 _ _ _ _ hP.2.1 (by decide) (Nat.ne_of_lt hP.2.2.1), hP.2.2.1, hw⟩

theorem putAt_new {w w1 : World} {h : Hd} {A : Option Addr} {n c : Nat} (hb : Below (w.alloc (.cells (hcs h A n c) 39)).heap.size (w.alloc (.cells (hcs h A n c) 39)) w1) :
    PutAt w (w1.alloc (.cells #[.slice none 0 0] 68)) h A n c w1.heap.size [] := by
  have h1 := heap_alloc_new w (.cells (hcs h A n c) 39)
  have hs := hb.size
  rw [World.size_alloc] at hs
  refine ⟨below_tr (below_tr (below_alloc1 w _) hb) (below_alloc1 w1 _), ?_, by omega, WrAt.new w1 _ _⟩
  have h2 := (hb.block w.heap.size (by rw [World.size_alloc]; omega)).trans h1
  exact (Below.heap_alloc _ _ _ (by omega)).trans h2
theorem rest_two (a b : Int) : [a, b] = [a] ++ [b] := rfl
/-- a call of put, its numbers in a block of their own -/
theorem PutAt.puts {w W : World} {h : Hd} {A : Option Addr} {n c g : Nat} {bs : List Int} (hP : PutAt w W h A n c g bs) (hl : bs.length ≤ 9000) (l : List Int) (k m : Nat) (hm : l.length = m) (hm1 : m ≤ 1000) (hk : 1 ≤ k) (hk8 : k ≤ 8) (hp : (256 : Int) ^ k ≤ 256 ^ 8) (hv : ∀ x ∈ l, 0 ≤ x ∧ x < 256 ^ k) :
    Calls Try.prog 30 #[.pointer (some ⟨g, 0, none⟩), .int .i64 k, .slice (some ⟨W.heap.size, 0, none⟩) m m] (W.alloc (.cells (nums .u64 l).toArray 70)) fun e w' => e = .returned (.tuple #[]) ∧ PutAt w w' h A n c g (bs ++ bes k l) := by
  have hP1 := hP.alloc (.cells (nums .u64 l).toArray 70)
  have hlt : g < W.heap.size := by obtain ⟨x, hx, _⟩ := hP.2.2.2; exact blk_lt hx
  exact (puts_any w.heap.size g 68 W.heap.size 70 bs l k m _ hP1.2.2.2 (Nat.le_of_lt hP.2.2.1) (by decide) (by omega) hm hm1 (heap_alloc_new W _) (by decide) (by omega) hk hk8 hv hp).mono fun e w' ⟨he, hw, hr⟩ => ⟨he, hP1.wrote hr hw⟩
theorem p256_1 : (256 : Int) ^ 1 ≤ 256 ^ 8 := by decide
theorem p256_2 : (256 : Int) ^ 2 ≤ 256 ^ 8 := by decide
def okN (k : Nat) (x : Int) : Prop := 0 ≤ x ∧ x < 256 ^ k
theorem PutAt.puts1 {w W : World} {h : Hd} {A : Option Addr} {n c g : Nat} {bs : List Int} (hP : PutAt w W h A n c g bs) (hl : bs.length ≤ 9000) (k : Nat) (ki : Int) (hki : (k : Int) = ki) (hk : 1 ≤ k) (hk8 : k ≤ 8) (hp : (256 : Int) ^ k ≤ 256 ^ 8) (x : Int) (hx : okN k x) :
    Calls Try.prog 30 #[.pointer (some ⟨g, 0, none⟩), .int .i64 ki, .slice (some ⟨W.heap.size, 0, none⟩) 1 1] (W.alloc (.cells #[.int .u64 x] 70)) fun e w' => e = .returned (.tuple #[]) ∧ PutAt w w' h A n c g (bs ++ be k x) := by
  subst hki
  have h := hP.puts hl [x] k 1 rfl (by decide) hk hk8 hp (by simpa [okN] using hx)
  simpa [bes, nums] using h
theorem PutAt.puts2 {w W : World} {h : Hd} {A : Option Addr} {n c g : Nat} {bs : List Int} (hP : PutAt w W h A n c g bs) (hl : bs.length ≤ 9000) (k : Nat) (ki : Int) (hki : (k : Int) = ki) (hk : 1 ≤ k) (hk8 : k ≤ 8) (hp : (256 : Int) ^ k ≤ 256 ^ 8) (x y : Int) (hx : okN k x) (hy : okN k y) :
    Calls Try.prog 30 #[.pointer (some ⟨g, 0, none⟩), .int .i64 ki, .slice (some ⟨W.heap.size, 0, none⟩) 2 2] (W.alloc (.cells #[.int .u64 x, .int .u64 y] 70)) fun e w' => e = .returned (.tuple #[]) ∧ PutAt w w' h A n c g (bs ++ (be k x ++ be k y)) := by
  subst hki
  have h := hP.puts hl [x, y] k 2 rfl (by decide) hk hk8 hp (by intro z hz; rcases List.mem_cons.1 hz with rfl | hz; exact hx; rw [List.mem_singleton.1 hz]; exact hy)
  simpa [bes, nums] using h
theorem PutAt.puts3 {w W : World} {h : Hd} {A : Option Addr} {n c g : Nat} {bs : List Int} (hP : PutAt w W h A n c g bs) (hl : bs.length ≤ 9000) (k : Nat) (ki : Int) (hki : (k : Int) = ki) (hk : 1 ≤ k) (hk8 : k ≤ 8) (hp : (256 : Int) ^ k ≤ 256 ^ 8) (x y z : Int) (hx : okN k x) (hy : okN k y) (hz : okN k z) :
    Calls Try.prog 30 #[.pointer (some ⟨g, 0, none⟩), .int .i64 ki, .slice (some ⟨W.heap.size, 0, none⟩) 3 3] (W.alloc (.cells #[.int .u64 x, .int .u64 y, .int .u64 z] 70)) fun e w' => e = .returned (.tuple #[]) ∧ PutAt w w' h A n c g (bs ++ (be k x ++ be k y ++ be k z)) := by
  subst hki
  have h := hP.puts hl [x, y, z] k 3 rfl (by decide) hk hk8 hp (by intro v hv; rcases List.mem_cons.1 hv with rfl | hv; exact hx; rcases List.mem_cons.1 hv with rfl | hv; exact hy; rw [List.mem_singleton.1 hv]; exact hz)
  simpa [bes, nums] using h

theorem PutAt.puts3d {w W : World} {h : Hd} {A : Option Addr} {n c g : Nat} {bs : List Int} (hP : PutAt w W h A n c g bs) (hl : bs.length ≤ 9000) (k : Nat) (ki : Int) (hki : (k : Int) = ki) (hk : 1 ≤ k) (hk8 : k ≤ 8) (hp : (256 : Int) ^ k ≤ 256 ^ 8) (x y z : Int) (hx : okN k x) (hy : okN k y) (hz : okN k z) :
    Calls Try.prog 30 #[.pointer (some ⟨g, 0, none⟩), .int .i64 ki, .slice (some ⟨W.heap.size, 0, none⟩) 3 3] (W.alloc (.cells #[.int .u64 x, .int .u64 y, .int .u64 z] 70)).drew fun e w' => e = .returned (.tuple #[]) ∧ PutAt w w' h A n c g (bs ++ (be k x ++ be k y ++ be k z)) :=
  hP.drew.puts3 hl k ki hki hk hk8 hp x y z hx hy hz
/-- cells that read as a row of bytes -/
theorem C_cells {w : World} {g o : Nat} {xs : List Int} (hm : xs.length ≤ 9223372036854775807) (hc : ∀ j p, xs[j]? = some p → w.cell? ⟨g, o + j, none⟩ = some (.int .u8 p)) : Kd.C (Kd.int .u8) w (some ⟨g, o, none⟩) xs.length xs := by
  refine ⟨rfl, hm, fun _ => ⟨_, rfl, fun j p hj => ⟨[.int .u8 p], rfl, rfl, fun i u hu => ?_⟩⟩⟩
  match i, hu with
  | 0, hu =>
    have hu' : Value.int .u8 p = u := by simpa using hu
    subst hu'
    have hs : (Kd.int IntKind.u8).sz = 1 := rfl
    rw [hs, Nat.mul_one, Nat.add_zero, Addr.add_lit]
    exact hc j p hj
theorem C_new_rows3 {w : World} {A B E : Option Addr} {n1 n2 n3 c1 c2 c3 : Nat} {l m k : List Int} (h1 : Kd.C (Kd.int .u8) w A n1 l) (k1 : n1 ≤ c1) (h2 : Kd.C (Kd.int .u8) w B n2 m) (k2 : n2 ≤ c2) (h3 : Kd.C (Kd.int .u8) w E n3 k) (k3 : n3 ≤ c3) :
    Kd.C (Kd.slice 5 (Kd.int .u8)) (w.alloc (.cells #[.slice A n1 c1, .slice B n2 c2, .slice E n3 c3] 22)) (some ⟨w.heap.size, 0, none⟩) 3 [l, m, k] := by
  have hb := heap_alloc_new w (.cells #[.slice A n1 c1, .slice B n2 c2, .slice E n3 c3] 22)
  obtain rfl := h1.1
  obtain rfl := h2.1
  obtain rfl := h3.1
  have hs : (Kd.slice 5 (Kd.int IntKind.u8)).sz = 1 := rfl
  have g1 := Kd.C_alloc h1 (.cells #[.slice A l.length c1, .slice B m.length c2, .slice E k.length c3] 22)
  have g2 := Kd.C_alloc h2 (.cells #[.slice A l.length c1, .slice B m.length c2, .slice E k.length c3] 22)
  have g3 := Kd.C_alloc h3 (.cells #[.slice A l.length c1, .slice B m.length c2, .slice E k.length c3] 22)
  refine ⟨rfl, by decide, fun _ => ⟨_, rfl, fun j p hj => ?_⟩⟩
  match j, hj with
  | 0, hj =>
    obtain rfl : l = p := by simpa using hj
    refine ⟨[.slice A l.length c1], rfl, ⟨A, c1, rfl, k1, g1⟩, fun i u hu => ?_⟩
    match i, hu with
    | 0, hu =>
      have hu' : Value.slice A l.length c1 = u := by simpa using hu
      subst hu'
      rw [Nat.zero_mul, Nat.add_zero, add_plain, cell_of_row _ _ 0 _ _ _ hb]
      rfl
  | 1, hj =>
    obtain rfl : m = p := by simpa using hj
    refine ⟨[.slice B m.length c2], rfl, ⟨B, c2, rfl, k2, g2⟩, fun i u hu => ?_⟩
    match i, hu with
    | 0, hu =>
      have hu' : Value.slice B m.length c2 = u := by simpa using hu
      subst hu'
      rw [hs, Nat.mul_one, Nat.add_zero, add_plain, cell_of_row _ _ 1 _ _ _ hb]
      rfl
  | 2, hj =>
    obtain rfl : k = p := by simpa using hj
    refine ⟨[.slice E k.length c3], rfl, ⟨E, c3, rfl, k3, g3⟩, fun i u hu => ?_⟩
    match i, hu with
    | 0, hu =>
      have hu' : Value.slice E k.length c3 = u := by simpa using hu
      subst hu'
      rw [hs, Nat.mul_one, Nat.add_zero, add_plain, cell_of_row _ _ 2 _ _ _ hb]
      rfl
/-- the addresses of a header, as rows of bytes in its block -/
theorem hd_src {w : World} {g t : Nat} {h : Hd} {A : Option Addr} {n c : Nat} (hb : w.heap[g]? = some (.cells (hcs h A n c) t (0, 0))) : Kd.C (Kd.int .u8) w (some ⟨g, 8, none⟩) 4 [h.s0, h.s1, h.s2, h.s3] := by
  have hc := hd_cells hb
  refine C_cells (xs := [h.s0, h.s1, h.s2, h.s3]) (by simp) (fun j p hj => ?_)
  match j, hj with
  | 0, hj => cases hj; exact hc.2.2.2.2.2.2.2.2.1
  | 1, hj => cases hj; exact hc.2.2.2.2.2.2.2.2.2.1
  | 2, hj => cases hj; exact hc.2.2.2.2.2.2.2.2.2.2.1
  | 3, hj => cases hj; exact hc.2.2.2.2.2.2.2.2.2.2.2.1
theorem hd_dst {w : World} {g t : Nat} {h : Hd} {A : Option Addr} {n c : Nat} (hb : w.heap[g]? = some (.cells (hcs h A n c) t (0, 0))) : Kd.C (Kd.int .u8) w (some ⟨g, 12, none⟩) 4 [h.d0, h.d1, h.d2, h.d3] := by
  have hc := hd_cells hb
  refine C_cells (xs := [h.d0, h.d1, h.d2, h.d3]) (by simp) (fun j p hj => ?_)
  match j, hj with
  | 0, hj => cases hj; exact hc.2.2.2.2.2.2.2.2.2.2.2.2.1
  | 1, hj => cases hj; exact hc.2.2.2.2.2.2.2.2.2.2.2.2.2.1
  | 2, hj => cases hj; exact hc.2.2.2.2.2.2.2.2.2.2.2.2.2.2.1
  | 3, hj => cases hj; exact hc.2.2.2.2.2.2.2.2.2.2.2.2.2.2.2.1
/-- a row made by the call, its length under a name -/
def OwnB (w0 w : World) (A : Option Addr) (n c : Nat) (l : List Int) : Prop := Kd.R (Kd.int .u8) 5 w w0.heap.size (fun _ => True) (.slice A n c) l
theorem PutAt.concat {w W : World} {h : Hd} {A : Option Addr} {n c g : Nat} {bs o : List Int} (hP : PutAt w W h A n c g bs) (hC : Kd.C (Kd.int .u8) w A n o) (hn : n ≤ 100) (hc : n ≤ c) :
    Calls Try.prog 34 #[.slice (some ⟨W.heap.size, 0, none⟩) 3 3] (W.alloc (.cells #[.slice (some ⟨w.heap.size, 8, none⟩) 4 4, .slice (some ⟨w.heap.size, 12, none⟩) 4 4, .slice A n c] 22)).drew fun e w' => ∃ A2 n2 c2, e = .returned (.slice A2 n2 c2) ∧ Kd.C (Kd.int .u8) w' A2 n2 ([h.s0, h.s1, h.s2, h.s3, h.d0, h.d1, h.d2, h.d3] ++ o) ∧ n2 ≤ c2 ∧ Aside0 (n2 = 8 + n) ∧ PutAt w w' h A n c g bs := by
  have hC1 := Kd.C_drew (C_new_rows3 (hd_src hP.2.1) (Nat.le_refl 4) (hd_dst hP.2.1) (Nat.le_refl 4) (Kd.C_below hC hP.1) hc)
  have hlen := hC.1
  refine (concat_any _ _ 3 3 _ hC1 (by decide) (by simp; omega)).mono ?_
  rintro e w' ⟨v, rfl, hv, hb⟩
  obtain ⟨A2, c2, rfl⟩ := Kd.R_slice hv
  refine ⟨_, _, _, rfl, ?_, ?_, ?_, ((hP.alloc _).drew).below hb⟩
  · have h2 := (C_of_R hv).1
    simpa using h2
  · exact (C_of_R hv).2
  · exact ⟨by simp; omega⟩
theorem PutAt.raw {w W : World} {h : Hd} {A A2 : Option Addr} {n c g n2 c2 : Nat} {bs l : List Int} (hP : PutAt w W h A n c g bs) (hC : Kd.C (Kd.int .u8) W A2 n2 l) (hn : bs.length + n2 ≤ 1000000) :
    Calls Try.prog 33 #[.pointer (some ⟨g, 0, none⟩), .slice A2 n2 c2] W fun e w' => e = .returned (.int .i64 0) ∧ PutAt w w' h A n c g (bs ++ l) :=
  (raw_any w.heap.size g 68 bs l A2 n2 c2 W hP.2.2.2 hC (Nat.le_of_lt hP.2.2.1) (by decide) (by omega)).mono fun e w' ⟨he, hw, hr⟩ => ⟨he, hP.wrote hr hw⟩
theorem PutAt.getb {w W : World} {h : Hd} {A : Option Addr} {n c g : Nat} {bs : List Int} (hP : PutAt w W h A n c g bs) (hn : bs.length ≤ 1000000) :
    Calls Try.prog 37 #[.pointer (some ⟨g, 0, none⟩)] W fun e w' => ∃ A2 n2 c2, e = .returned (.slice A2 n2 c2) ∧ Kd.R (Kd.int .u8) 5 w' W.heap.size (fun _ => True) (.slice A2 n2 c2) bs ∧ n2 ≤ c2 ∧ PutAt w w' h A n c g bs := by
  refine (wbytes_any w.heap.size g 68 bs W hP.2.2.2 hn).mono ?_
  rintro e w' ⟨v, rfl, hv, hb⟩
  obtain ⟨A2, c2, rfl⟩ := Kd.R_slice hv
  exact ⟨_, _, _, rfl, hv, (C_of_R hv).2, hP.below hb⟩
theorem PutAt.sum {w W : World} {h : Hd} {A A2 : Option Addr} {n c g n2 c2 : Nat} {bs l : List Int} (hP : PutAt w W h A n c g bs) (hC : Kd.C (Kd.int .u8) W A2 n2 l) (hc : n2 ≤ c2) (hl : bytes l) (hn : l.length ≤ 1000000) :
    Calls Try.prog 36 #[.slice (some ⟨W.heap.size, 0, none⟩) 1 1] (W.alloc (.cells #[.slice A2 n2 c2] 22)) fun e w' => e = .returned (.int .u16 (ck l)) ∧ PutAt w w' h A n c g bs := by
  refine (of_at [l] _ 1 1 _ (C_new_rows1n hC hc) (by simpa using hl) (by simp; omega) (by simp)).mono ?_
  rintro e w' ⟨rfl, hb⟩
  exact ⟨by simp, (hP.alloc _).below hb⟩
theorem PutAt.set {w W : World} {h : Hd} {A : Option Addr} {n c g : Nat} {bs : List Int} (hP : PutAt w W h A n c g bs) (hn : bs.length ≤ 1000000) (h12 : 12 ≤ bs.length) (v : Int) (hv : okN 2 v) :
    Calls Try.prog 35 #[.pointer (some ⟨g, 0, none⟩), .int .i64 10, .int .u64 v, .int .i64 2] W fun e w' => e = .returned (.int .i64 0) ∧ PutAt w w' h A n c g (splice bs 10 (be 2 v)) := by
  have h3 : v < 65536 := hv.2
  refine (wset_any w.heap.size g 68 bs 10 v 2 W hP.2.2.2 (Nat.le_of_lt hP.2.2.1) (by decide) hn hv.1 (by have e : (256 : Int) ^ 8 = 18446744073709551616 := rfl; omega) (by decide) (by decide) hv.2 (by omega)).mono ?_
  rintro e w' ⟨rfl, hw, hb⟩
  exact ⟨rfl, hP.1.trans (hb.mono (Nat.le_of_lt hP.2.2.1)), (hb.block _ hP.2.2.1).trans hP.2.1, hP.2.2.1, hw⟩
theorem ip_or4 (n : Nat) (hn : n ≤ 40) : bits .or .u64 64 ((20 + (n : Int)) / 4) = 64 + (20 + (n : Int)) / 4 :=
  bits_join .u64 60 (by decide) (fun n h0 h1 => wraps_u64 n h0 (by omega)) 6 64 _ (by decide) (by decide) (by decide) (by omega) (by omega) (by omega)
theorem ip_orF (a b : Bool) (x : Int) (h0 : 0 ≤ x) (h1 : x ≤ 8191) : bits .or .u64 (bits .or .u64 (fl a 16384) (fl b 8192)) x = fl a 16384 + fl b 8192 + x := by
  have e : bits .or .u64 (fl a 16384) (fl b 8192) = fl a 16384 + fl b 8192 := by cases a <;> cases b <;> decide
  rw [e]
  exact bits_join .u64 60 (by decide) (fun n h0 h1 => wraps_u64 n h0 (by omega)) 13 _ x (by cases a <;> cases b <;> decide) (by cases a <;> cases b <;> decide) (by cases a <;> cases b <;> decide) h0 (by omega) (by omega)
theorem w64_of {x m : Int} (h : inB x m) (hm : m ≤ 65535) : IntKind.u64.wrap x = x := wraps_u64 _ h.1 (by have := h.2; omega)
theorem w64_len (n : Nat) (hn : n ≤ 40) : IntKind.u64.wrap (IntKind.i64.wrap ((20 + (n : Int)).tdiv 4)) = (20 + (n : Int)) / 4 := by
  rw [Int.tdiv_eq_ediv_of_nonneg (by omega), IntWalk.i64_in _ (by omega), wraps_u64 _ (by omega) (by omega)]
theorem okN1 {x : Int} (h : inB x 255) : okN 1 x := ⟨h.1, by have := h.2; show x < 256; omega⟩
theorem okN2 {x : Int} (h : inB x 65535) : okN 2 x := ⟨h.1, by have := h.2; show x < 65536; omega⟩
theorem okF (a b : Bool) (x : Int) (h0 : 0 ≤ x) (h1 : x ≤ 8191) : okN 2 (fl a 16384 + fl b 8192 + x) := by
  refine ⟨?_, ?_⟩
  · cases a <;> cases b <;> simp [fl] <;> omega
  · show _ < (65536 : Int)
    cases a <;> cases b <;> simp [fl] <;> omega
theorem be1_of {x : Int} (h : inB x 255) : be 1 x = [x] := by
  rw [be_one]
  have h1 := h.1
  have h2 := h.2
  congr 1
  omega
theorem bytes_two' {a b : Int} (h : inB a 255) (k : inB b 255) : bytes [a, b] := by
  intro x hx
  rcases List.mem_cons.1 hx with rfl | hx
  · exact ⟨h.1, by have := h.2; omega⟩
  · rw [List.mem_singleton.1 hx]; exact ⟨k.1, by have := k.2; omega⟩
theorem bytes_stands {h : Hd} {o : List Int} {n : Nat} (hok : h.ok) (ho : bytes o) (h1 : h.frag ≤ 8191) (h2 : n ≤ 40) (hn : o.length = n) : bytes (stands h o 0) := by
  obtain ⟨a1, a2, a3, a4, a5, a6, a7, a8, a9, a10, a11, a12, a13, a14⟩ := hok
  unfold stands
  simp only [bytes_append]
  refine ⟨⟨⟨⟨⟨⟨⟨bytes_two' ⟨by omega, by omega⟩ a1, bytes_be _ _⟩, bytes_be _ _⟩, bytes_be _ _⟩, bytes_two' a5 a6⟩, bytes_be _ _⟩, ?_⟩, ho⟩
  have e : [h.s0, h.s1, h.s2, h.s3, h.d0, h.d1, h.d2, h.d3] = [h.s0, h.s1] ++ [h.s2, h.s3] ++ [h.d0, h.d1] ++ [h.d2, h.d3] := rfl
  rw [e]
  simp only [bytes_append]
  exact ⟨⟨⟨bytes_two' a7 a8, bytes_two' a9 a10⟩, bytes_two' a11 a12⟩, bytes_two' a13 a14⟩
/-- its whole, once all regions are known -/
theorem splice_stands (h : Hd) (o : List Int) (v : Int) : splice (stands h o 0) 10 (be 2 v) = stands h o v := by
  simp [splice, stands, be_two, List.take, List.drop]
end Go.Proofs.Ytknpaihlnkcpgaa.Own
