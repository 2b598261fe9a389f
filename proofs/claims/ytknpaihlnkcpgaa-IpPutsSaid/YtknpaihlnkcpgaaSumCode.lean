/- Contracts of package sum: fold, Add, Value, Len, each, Of. -/
import Derived.Test.YtknpaihlnkcpgaaBase
import Derived.Test.YtknpaihlnkcpgaaSumPlain
set_option linter.unusedVariables false
set_option linter.unusedSimpArgs false
namespace Go.Proofs.Ytknpaihlnkcpgaa.Own
open Go.RowKit Go.Proofs.YtknpaihlnkcpgaaW.PrintWords Go.Proofs.YtknpaihlnkcpgaaW.PrintLast Go.Proofs.YtknpaihlnkcpgaaW.PrintMore

theorem wraps_u64 (n : Int) (h₀ : 0 ≤ n) (h₁ : n < 2 ^ 64) : IntKind.u64.wrap n = n := by simp [IntKind.wrap, IntKind.bits, IntKind.signed]; omega
theorem wraps_u16 (n : Int) (h₀ : 0 ≤ n) (h₁ : n < 2 ^ 16) : IntKind.u16.wrap n = n := by simp [IntKind.wrap, IntKind.bits, IntKind.signed]; omega
theorem u64_and16 (x : Int) (h0 : 0 ≤ x) (h1 : x ≤ 16777215) : bits .and .u64 x 65535 = x % 65536 := bits_mask .u64 64 (by decide) wraps_u64 16 (by decide) x h0 (by omega)
theorem ret_u16 {a b : Int} (h : a = b) : Ending.returned (.int .u16 a) = .returned (.int .u16 b) := by rw [h]
theorem ret_i64 {a b : Int} (h : a = b) : Ending.returned (.int .i64 a) = .returned (.int .i64 b) := by rw [h]

def sum_fold.f (a0 : Int) : Option Int := if 0 ≤ a0 ∧ a0 ≤ 16777215 then some (cf a0) else none
set_option maxHeartbeats 400000 in
theorem fold_any (a0 : Int) (w : World) (b0 : 0 ≤ a0) (b1 : a0 ≤ 16777215) :
    Calls Try.prog 58 #[.int .u64 a0] w fun e w' => e = .returned (.int .u16 (cf a0)) ∧ w = w' := by
  go_enter Try.func58, Try.ntmps58
  go_wp2
  go_step3
  go_wp2
  go_step3
  go_wp2
  go_loop [0] (fun v => ∃ x : Int, v = .int .u64 x ∧ 0 ≤ x ∧ x ≤ 16777215 ∧ Aside0 (cf x = cf a0)) (fun v => (intOf v).toNat)
  case atStart => exact ⟨a0, rfl, b0, b1, Aside0.mk rfl⟩
  case round =>
    obtain ⟨x, rfl, x0, x1, hx⟩ := hrel
    by_cases hlt : x ≤ 65535
    · go_wp2
      go_ret
      have e : x = cf a0 := by rw [← hx.out, cf_small x x0 hlt]
      exact ⟨ret_u16 (by rw [← e]), rfl⟩
    · have hand := u64_and16 x x0 x1
      go_wp2
      go_round
      case rel => exact ⟨x % 65536 + x / 65536, rfl, by omega, by omega, ⟨(cf_step x (by omega)).trans hx.out⟩⟩
      case measure => simp [intOf]; omega
theorem sum_fold.calls (a0 : Int) (r : Int) (w : World) (h : sum_fold.f a0 = some r) :
    Calls Try.prog 58 #[.int .u64 a0] w fun e w' => e = .returned (.int .u16 r) ∧ Drawn0 w w' := by
  unfold sum_fold.f at h
  split at h
  · rename_i hb
    obtain rfl := Option.some.inj h
    exact (fold_any a0 w hb.1 hb.2).mono fun e w' ⟨he, hw⟩ => ⟨he, hw ▸ Drawn0.refl _⟩
  · cases h

theorem add_block (a : Addr) (j : Nat) : (a.add j).block = a.block := by unfold Addr.add; split <;> rfl

/-- a Sum at block g: its folded number is that of n, m bytes have come -/
def SumAt (w : World) (g : Nat) (n m : Int) : Prop := ∃ n', w.heap[g]? = some (.cells #[.int .u64 n', .int .i64 m] 95 (0, 0)) ∧ 0 ≤ n' ∧ n' ≤ 1000000 ∧ cf n' = cf n
theorem SumAt.lt {w : World} {g : Nat} {n m : Int} (h : SumAt w g n m) : g < w.heap.size := by
  obtain ⟨n', h, _⟩ := h
  exact blk_lt h

theorem SumAt.step {w : World} {g : Nat} {n2 v m N N' m' : Int} (hb : w.heap[g]? = some (.cells #[.int .u64 n2, .int .i64 m] 95 (0, 0))) (n20 : 0 ≤ n2) (hN : 0 ≤ N) (v0 : 0 ≤ v) (v1 : v ≤ 65535) (hc : cf n2 = cf N) (hN' : N' = N + v) (hm : m' = m + 1) :
    SumAt ((w.setCell ⟨g, 0, none⟩ (.int .u64 (cf n2 + v))).setCell ⟨g, 1, none⟩ (.int .i64 (m + 1))) g N' m' := by
  subst hN' hm
  have hr := cf_range n2 n20
  refine ⟨cf n2 + v, ?_, by omega, by omega, ?_⟩
  · have h := blk_set (blk_set hb 0 (.int .u64 (cf n2 + v))) 1 (.int .i64 (m + 1))
    simpa using h
  · rw [hc, cf_cf_add N v hN v0]
theorem grown_set2 {w wr : World} {g i j : Nat} (h : w.grownBy wr (some g)) (u v : Value) : w.grownBy ((wr.setCell ⟨g, i, none⟩ u).setCell ⟨g, j, none⟩ v) (some g) :=
  ⟨h.os, h.tape, h.output, by simpa using h.size, fun k hk hne => by
    have hkg : k ≠ g := fun e => hne (by rw [e])
    rw [Below.heap_setCell _ _ _ k hkg, Below.heap_setCell _ _ _ k hkg]; exact h.block k hk hne⟩

set_option maxHeartbeats 1000000 in
theorem add_any (g : Nat) (n m : Int) (bs : List Int) (A : Option Addr) (c : Nat) (w : World) (hs : SumAt w g n m) (n0 : 0 ≤ n) (hb : bytes bs)
    (hr : Kd.C (Kd.int .u8) w A bs.length bs) (hne : ∀ ad, A = some ad → 0 < bs.length → ad.block ≠ g) (m0 : 0 ≤ m) (m1 : m + bs.length ≤ 1152921504606846975) :
    Calls Try.prog 55 #[.pointer (some ⟨g, 0, none⟩), .slice A bs.length c] w fun e w' => e = .returned (.tuple #[]) ∧ SumAt w' g (n + wt m bs) (m + bs.length) ∧ w.grownBy w' (some g) := by
  obtain ⟨n1, hblk, n10, n11, hcf⟩ := hs
  have HR := Aside0.mk hr
  have HB := Aside0.mk hb
  have HNE := Aside0.mk hne
  have HBLK := Aside0.mk hblk
  have HCF := Aside0.mk hcf
  clear hr hb hne hblk hcf
  go_enter Try.func55, Try.ntmps55
  go_wp2
  go_loopw [11] (fun vi wr => ∃ k : Nat, k ≤ bs.length ∧ vi = .int .i64 k ∧ Aside0 (SumAt wr g (n + wt m (bs.take k)) (m + k)) ∧ Aside0 (w.grownBy wr (some g))) (fun vi _ => bs.length - (intOf vi).toNat)
  case atStart => exact ⟨0, Nat.zero_le _, rfl, ⟨n1, by simpa [wt] using HBLK.out, n10, n11, by simpa [wt] using HCF.out⟩, ⟨World.grownBy.refl _ _⟩⟩
  case round =>
    clear HBLK HCF
    obtain ⟨k, hk, rfl, ⟨n2, hb2, n20, n21, hc2⟩, HG⟩ := hrel
    have HC2 := Aside0.mk hc2
    clear hc2
    by_cases hlt : k < bs.length
    · obtain ⟨ad, rfl, hx⟩ := Kd.at_int HR.out k (by omega) (by omega)
      have hxr := bytes_getD HB.out k
      have hadg := HNE.out ad rfl (by omega)
      replace hx := HG.out.cell hx (by rw [add_block]; simpa using hadg)
      have hx' : wr.cell? (ad.add k) = some (.int .u8 (bs.getD k 0)) := hx
      clear hx
      obtain ⟨x, ex⟩ : ∃ x, bs.getD k 0 = x := ⟨_, rfl⟩
      rw [ex] at hx' hxr
      have HX := Aside0.mk ex
      clear ex
      obtain ⟨x0, x1⟩ := hxr
      have c0 : wr.cell? ⟨g, 0, none⟩ = some (.int .u64 n2) := (blk_cell hb2 0).trans rfl
      have c1 : wr.cell? ⟨g, 1, none⟩ = some (.int .i64 (m + k)) := (blk_cell hb2 1).trans rfl
      have f0 := blk_frozen hb2 0
      have f1 := blk_frozen hb2 1
      have HB2 := Aside0.mk hb2
      clear hb2
      have hcr := cf_range n2 n20
      obtain ⟨cr0, cr1⟩ := hcr
      have HW0 := Aside0.mk (wt_nonneg (bs.take k) m (bytes_take HB.out k))
      by_cases hpar : (m + k) % 2 = 0
      · go_wp2_with (go_at_call 58; refine (fold_any _ _ (by omega) (by omega)).mono ?_; rintro e w' ⟨rfl, rfl⟩)
        go_roundw
        case rel => exact ⟨k + 1, by omega, by go_num, ⟨SumAt.step HB2.out n20 (by have := HW0.out; omega) (by omega) (by omega) HC2.out (by rw [wt_take_succ bs m k hlt, if_pos hpar, HX.out]; omega) (by omega)⟩, ⟨grown_set2 HG.out _ _⟩⟩
        case measure => simp [intOf]; omega
      · go_wp2_with (go_at_call 58; refine (fold_any _ _ (by omega) (by omega)).mono ?_; rintro e w' ⟨rfl, rfl⟩)
        go_roundw
        case rel => exact ⟨k + 1, by omega, by go_num, ⟨SumAt.step HB2.out n20 (by have := HW0.out; omega) (by omega) (by omega) HC2.out (by rw [wt_take_succ bs m k hlt, if_neg hpar, HX.out]; omega) (by omega)⟩, ⟨grown_set2 HG.out _ _⟩⟩
        case measure => simp [intOf]; omega
    · have e : k = bs.length := by omega
      subst e
      go_wp2
      go_end0
      exact ⟨rfl, ⟨n2, by simpa using hb2, n20, n21, by simpa using HC2.out⟩, HG.out⟩

theorem add_nil (A : Option Addr) (n c : Nat) (w : World) :
    Calls Try.prog 55 #[.pointer none, .slice A n c] w fun e w' => e = .returned (.tuple #[]) ∧ w = w' := by
  go_enter Try.func55, Try.ntmps55
  go_wp2
  exact bodyPost_ret (v := .tuple #[]) (by simp [results, Try.results55, go_sem]) rfl ⟨rfl, rfl⟩
theorem value_nil (w : World) :
    Calls Try.prog 56 #[.pointer none] w fun e w' => e = .returned (.int .u16 65535) ∧ w = w' := by
  go_enter Try.func56, Try.ntmps56
  go_wp2
  go_ret
  exact ⟨rfl, rfl⟩
theorem value_any (g : Nat) (n m : Int) (w : World) (hs : SumAt w g n m) :
    Calls Try.prog 56 #[.pointer (some ⟨g, 0, none⟩)] w fun e w' => e = .returned (.int .u16 (65535 - cf n)) ∧ w = w' := by
  obtain ⟨n1, hb, n10, n11, hc⟩ := hs
  have c0 : w.cell? ⟨g, 0, none⟩ = some (.int .u64 n1) := (blk_cell hb 0).trans rfl
  obtain ⟨r0, r1⟩ := cf_range n1 n10
  have HC := Aside0.mk hc
  clear hc hb
  go_enter Try.func56, Try.ntmps56
  go_wp2_with (go_at_call 58; refine (fold_any _ _ (by omega) (by omega)).mono ?_; rintro e w' ⟨rfl, rfl⟩)
  go_ret
  exact ⟨ret_u16 (by rw [← HC.out]), rfl⟩


/-- a row of rows of bytes, read at i -/
theorem at_rows {w : World} {A : Option Addr} {n e : Nat} {xs : List (List Int)} (h : Kd.C (Kd.slice e (Kd.int .u8)) w A n xs) (i : Nat) (h1 : i < n) : ∃ ad A0 c0, A = some ad ∧ w.cell? (ad.add i) = some (.slice A0 (xs.getD i []).length c0) ∧ (xs.getD i []).length ≤ c0 ∧ (Kd.int .u8).C w A0 (xs.getD i []).length (xs.getD i []) := by
  obtain ⟨ad, c, e, _, hK, hc0⟩ := Kd.C_get h ([] : List Int) i (by omega) (by omega)
  have hc : ∀ j u, c[j]? = some u → w.cell? (ad.add (i * 1 + j)) = some u := hc0
  obtain ⟨A0, c0, rfl, l0, g0⟩ := hK
  exact ⟨ad, A0, c0, e, by have hq := hc 0 _ rfl; rwa [Nat.mul_one, Nat.add_zero] at hq, l0, g0⟩
theorem flatten_take_succ (l : List (List Int)) (k : Nat) (h : k < l.length) : (l.take (k + 1)).flatten = (l.take k).flatten ++ l.getD k [] := by
  rw [List.take_succ_eq_append_getElem h, List.flatten_append]
  simp [List.getD_eq_getElem?_getD, List.getElem?_eq_getElem h]
theorem flatten_take_le (l : List (List Int)) (k : Nat) (h : k < l.length) : (l.take k).flatten.length + (l.getD k []).length ≤ l.flatten.length := by
  have e : l.flatten = (l.take (k + 1)).flatten ++ (l.drop (k + 1)).flatten := by rw [← List.flatten_append, List.take_append_drop]
  rw [e, flatten_take_succ l k h]
  simp only [List.length_append]
  omega
theorem bytes_rows {l : List (List Int)} (h : ∀ x ∈ l, bytes x) (k : Nat) : bytes (l.getD k []) := by
  rw [List.getD_eq_getElem?_getD]
  by_cases hk : k < l.length
  · rw [List.getElem?_eq_getElem hk]
    exact h _ (List.getElem_mem hk)
  · rw [List.getElem?_eq_none (by omega)]
    exact bytes_nil
theorem bytes_flatten {l : List (List Int)} (h : ∀ x ∈ l, bytes x) : bytes l.flatten := by
  intro x hx
  obtain ⟨y, hy, hxy⟩ := List.mem_flatten.1 hx
  exact h y hy x hxy
theorem below_of_grown {w0 w w' : World} {g : Nat} (h : Below w0.heap.size w0 w) (hg : w.grownBy w' (some g)) (hw : w0.heap.size ≤ g) : Below w0.heap.size w0 w' :=
  h.grown hg h.size (fun k e => by cases e; exact hw)

theorem grown_trans {a b c : World} {row : Option Nat} (h : a.grownBy b row) (k : b.grownBy c row) : a.grownBy c row :=
  ⟨k.os.trans h.os, k.tape.trans h.tape, k.output.trans h.output, Nat.le_trans h.size k.size, fun i hi hne => (k.block i (Nat.lt_of_lt_of_le hi h.size) hne).trans (h.block i hi hne)⟩

set_option maxHeartbeats 1000000 in
theorem each_any (w0 : World) (g : Nat) (l : List (List Int)) (A : Option Addr) (c : Nat) (w : World) (hr : Kd.C (Kd.slice 5 (Kd.int .u8)) w0 A l.length l) (hb : ∀ x ∈ l, bytes x) (hn : l.flatten.length ≤ 1152921504606846975) (hn2 : l.length ≤ 1152921504606846975)
    (hs : SumAt w g 0 0) (hB : Below w0.heap.size w0 w) (hg : w0.heap.size ≤ g) :
    Calls Try.prog 54 #[.slice A l.length c, .func (Fn.func 55) #[.pointer (some ⟨g, 0, none⟩)] #[]] w fun e w' => e = .returned (.tuple #[]) ∧ SumAt w' g (wt 0 l.flatten) l.flatten.length ∧ w.grownBy w' (some g) := by
  have HR := Aside0.mk hr
  have HB := Aside0.mk hb
  have HS := Aside0.mk hs
  have HBW := Aside0.mk hB
  clear hr hb hs hB
  go_enter Try.func54, Try.ntmps54
  go_wp2_with fail
  go_loopw [8] (fun vi wr => ∃ k : Nat, k ≤ l.length ∧ vi = .int .i64 k ∧ Aside0 (SumAt wr g (wt 0 (l.take k).flatten) (l.take k).flatten.length) ∧ Aside0 (w.grownBy wr (some g))) (fun vi _ => l.length - (intOf vi).toNat)
  case atStart => exact ⟨0, Nat.zero_le _, rfl, ⟨by simpa [wt] using HS.out⟩, ⟨World.grownBy.refl _ _⟩⟩
  case round =>
    clear HS
    obtain ⟨k, hk, rfl, HS, HG⟩ := hrel
    by_cases hlt : k < l.length
    · obtain ⟨ad, A0, c0, rfl, hx, hl0, hi⟩ := at_rows HR.out k hlt
      have hbw := below_of_grown HBW.out HG.out hg
      replace hx := (hbw.cell (World.block_lt_of_cell? w0 _ hx)).trans hx
      have hne : ∀ ad, A0 = some ad → 0 < (l.getD k []).length → ad.block ≠ g := by
        rintro ad rfl hp
        have := Kd.C_lt hi hp (by decide)
        omega
      have HI := Aside0.mk (Kd.C_below hi hbw)
      have HNE := Aside0.mk hne
      have hfl := flatten_take_le l k hlt
      have hbx := Aside0.mk (bytes_rows HB.out k)
      have hw0 := Aside0.mk (wt_nonneg _ 0 (bytes_flatten (fun x hx => HB.out x (List.mem_of_mem_take (i := k) hx))))
      clear hi hne hbw
      obtain ⟨x, ex⟩ : ∃ x, l.getD k [] = x := ⟨_, rfl⟩
      rw [ex] at hx hl0 HI HNE hfl hbx
      obtain ⟨m, em⟩ : ∃ m, (l.take k).flatten.length = m := ⟨_, rfl⟩
      rw [em] at HS hfl
      have EX := Aside0.mk ex
      have EM := Aside0.mk em
      clear ex em
      go_wp2_with (go_at_call 55; refine (add_any g _ _ x _ _ _ HS.out hw0.out hbx.out HI.out HNE.out (by omega) (by omega)).mono ?_; rintro e w1 ⟨rfl, hs1, hg1⟩)
      go_roundw
      case rel =>
        refine ⟨k + 1, by omega, by go_num, ⟨?_⟩, ⟨grown_trans HG.out hg1⟩⟩
        rw [flatten_take_succ l k hlt, EX.out, wt_append, List.length_append, EM.out, Int.zero_add]
        simpa using hs1
      case measure => simp [intOf]; omega
    · have e : k = l.length := by omega
      subst e
      go_wp2
      go_end0
      exact ⟨rfl, by simpa using HS.out, HG.out⟩

theorem of_any (l : List (List Int)) (A : Option Addr) (c : Nat) (w : World) (hr : Kd.C (Kd.slice 5 (Kd.int .u8)) w A l.length l) (hb : ∀ x ∈ l, bytes x) (hn : l.flatten.length ≤ 1152921504606846975) (hn2 : l.length ≤ 1152921504606846975) :
    Calls Try.prog 36 #[.slice A l.length c] w fun e w' => e = .returned (.int .u16 (ck l.flatten)) ∧ Below w.heap.size w w' := by
  have HR := Aside0.mk hr
  have HB := Aside0.mk hb
  clear hr hb
  go_enter Try.func36, Try.ntmps36
  go_wp2_with fail
  refine (each_any w w.heap.size l A c _ HR.out HB.out hn hn2 ⟨0, heap_alloc_new w _, by omega, by omega, rfl⟩ ((Below.refl _ _).alloc (Nat.le_refl _) _) (Nat.le_refl _)).mono ?_
  rintro e w1 ⟨rfl, hs, hg⟩
  have HG := Aside0.mk hg
  clear hg
  go_wp2_with (go_at_call 56; refine (value_any _ _ _ _ hs).mono ?_; rintro e w' ⟨rfl, rfl⟩)
  go_ret
  exact ⟨rfl, below_of_grown ((Below.refl _ _).alloc (Nat.le_refl _) _) HG.out (Nat.le_refl _)⟩
end Go.Proofs.Ytknpaihlnkcpgaa.Own
