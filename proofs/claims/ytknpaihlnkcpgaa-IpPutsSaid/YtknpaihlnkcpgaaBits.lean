/- Contracts of package bits: right, Least, fits, of, the Writer. -/
import Derived.Test.YtknpaihlnkcpgaaClone
import Derived.Test.YtknpaihlnkcpgaaBitsPlain
import Derived.RangeFuncBox
import Derived.Test.YtknpaihlnkcpgaaSumCode
set_option linter.unusedVariables false
set_option linter.unusedSimpArgs false
namespace Go.Proofs.Ytknpaihlnkcpgaa.Own
open Go.RowKit Go.Proofs.YtknpaihlnkcpgaaW.PrintWords Go.Proofs.YtknpaihlnkcpgaaW.PrintLast Go.Proofs.YtknpaihlnkcpgaaW.PrintMore

theorem lst_le8 (v : Int) (h0 : 0 ≤ v) (h1 : v < 256 ^ 8) : lst 7 v ≤ 8 := (lst_le 7 8 v h0 h1 (by omega)).2 h1
/-- what is still to be counted -/
def more (k : Nat) (x : Int) : Int := if 0 < x then lst k x else 0
theorem more_step (k : Nat) (x : Int) (hx : 0 < x) (hk : x < 256 ^ (k + 1)) : more k x = 1 + more (k - 1) (x / 256) ∧ x / 256 < 256 ^ (k - 1 + 1) := by
  cases k with
  | zero =>
    have h3 : (256 : Int) ^ (0 + 1) = 256 := rfl
    have h4 : (256 : Int) ^ (0 - 1 + 1) = 256 := rfl
    refine ⟨?_, by omega⟩
    have : ¬ 0 < x / 256 := by omega
    simp only [more, if_pos hx, if_neg this]
    rfl
  | succ k =>
    rw [Int.pow_succ] at hk
    refine ⟨?_, by rw [Nat.add_sub_cancel]; omega⟩
    simp only [more, if_pos hx, Nat.add_sub_cancel]
    conv => lhs; unfold lst
    split <;> omega

theorem right_any (n : Int) (w : World) :
    Calls Try.prog 61 #[.int .i64 n] w fun e w' => e = .returned (.bool (decide (1 ≤ n ∧ n ≤ 8))) ∧ w = w' := by
  go_enter Try.func61, Try.ntmps61
  by_cases h1 : 1 ≤ n
  · go_wp2
    go_ret
    exact ⟨by simp [h1], rfl⟩
  · have h2 : n < 1 := by omega
    go_wp2
    go_ret
    exact ⟨ret_bool (by simp; omega), rfl⟩
theorem least_any (v : Int) (w : World) (h0 : 0 ≤ v) (h1 : v < 256 ^ 8) :
    Calls Try.prog 62 #[.int .u64 v] w fun e w' => e = .returned (.int .i64 (lst 7 v)) ∧ w = w' := by
  have h3 : (256 : Int) ^ 8 = 18446744073709551616 := rfl
  have HL : Aside0 (1 + more 6 (v / 256) = lst 7 v) := ⟨by
    unfold more
    conv => rhs; unfold lst
    split <;> omega⟩
  have HL8 := Aside0.mk (lst_le8 v h0 h1)
  have hp6 : (256 : Int) ^ (6 + 1) = 72057594037927936 := rfl
  have hv6 : Aside0 (v / 256 < 256 ^ (6 + 1)) := ⟨by omega⟩
  rw [h3] at h1
  clear h3 hp6
  go_enter Try.func62, Try.ntmps62
  go_wp2
  go_loop [0, 3] (fun p q => ∃ (k : Nat) (x m : Int), p = .int .u64 x ∧ q = .int .i64 m ∧ 0 ≤ x ∧ x < 18446744073709551616 ∧ 1 ≤ m ∧ Aside0 (x < 256 ^ (k + 1)) ∧ Aside0 (m + more k x = lst 7 v)) (fun p _ => (intOf p).toNat)
  case atStart => exact ⟨6, v / 256, 1, rfl, rfl, by omega, by omega, by omega, hv6, HL⟩
  case round =>
    obtain ⟨k, x, m, rfl, rfl, x0, x1, m1, HK, HM⟩ := hrel
    by_cases hx : 0 < x
    · obtain ⟨hs1, hs2⟩ := more_step k x hx HK.out
      have hm8 : m ≤ 8 := by
        have := HM.out
        have := HL8.out
        have h : 0 ≤ more k x := by
          unfold more
          split
          · have := lst_pos k x; omega
          · omega
        omega
      have HS := Aside0.mk hs1
      have HS2 := Aside0.mk hs2
      clear hs1 hs2
      go_wp2
      go_round
      case rel => exact ⟨k - 1, x / 256, m + 1, rfl, by go_num, by omega, by omega, by omega, HS2, ⟨by have := HM.out; have := HS.out; omega⟩⟩
      case measure => simp [intOf]; omega
    · have e : x = 0 := by omega
      subst e
      go_wp2
      go_ret
      exact ⟨ret_i64 (by have h := HM.out; simp [more] at h; exact h), rfl⟩
theorem fits_any (v n : Int) (w : World) (h0 : 0 ≤ v) (h1 : v < 256 ^ 8) :
    Calls Try.prog 52 #[.int .u64 v, .int .i64 n] w fun e w' => e = .returned (.bool (decide (1 ≤ n ∧ n ≤ 8 ∧ lst 7 v ≤ n))) ∧ w = w' := by
  by_cases hn : 1 ≤ n ∧ n ≤ 8
  · have hd : decide (1 ≤ n ∧ n ≤ 8) = true := decide_eq_true hn
    have hr := right_any n w
    rw [hd] at hr
    have HN := Aside0.mk hn
    obtain ⟨m, hm⟩ : ∃ m, lst 7 v = m := ⟨_, rfl⟩
    have hl := least_any v w h0 h1
    rw [hm] at hl ⊢
    clear hd h1 hm
    go_enter Try.func52, Try.ntmps52
    go_wp2_with (first
      | (go_at_call 61; (with_reducible refine hr.mono ?_); clear hr; rintro e w' ⟨rfl, rfl⟩)
      | (go_at_call 62; (with_reducible refine hl.mono ?_); rintro e w' ⟨rfl, rfl⟩))
    go_ret
    exact ⟨ret_bool (by have := HN.out; simp [this.1, this.2]), rfl⟩
  · have hd : decide (1 ≤ n ∧ n ≤ 8) = false := decide_eq_false hn
    have hr := right_any n w
    rw [hd] at hr
    have HN := Aside0.mk hn
    clear hd h1 hn
    go_enter Try.func52, Try.ntmps52
    go_wp2_with (go_at_call 61; (with_reducible refine hr.mono ?_); rintro e w' ⟨rfl, rfl⟩)
    go_ret
    exact ⟨ret_bool (by have := HN.out; simp; intros; omega), rfl⟩

/-- block g is a writer (type t), that holds bs -/
def WrAt (w : World) (base g t : Nat) (bs : List Int) : Prop := ∃ v, w.heap[g]? = some (.cells #[v] t (0, 0)) ∧ Kd.R (Kd.int .u8) 5 w base (fun k => g < k) v bs
/-- what a writer's call leaves: all that lay below base; and what is neither the writer nor a row of bytes -/
def Wrote (base g : Nat) (w w' : World) : Prop := Below base w w' ∧ ∀ k cells t fr, w.heap[k]? = some (.cells cells t fr) → t ≠ 5 → k ≠ g → w'.heap[k]? = some (.cells cells t fr)
theorem Wrote.refl (base g : Nat) (w : World) : Wrote base g w w := ⟨Below.refl _ _, fun _ _ _ _ h _ _ => h⟩
theorem Wrote.trans {base g : Nat} {a b c : World} (h : Wrote base g a b) (k : Wrote base g b c) : Wrote base g a c := ⟨h.1.trans k.1, fun i cs t fr hi ht hg => k.2 i cs t fr (h.2 i cs t fr hi ht hg) ht hg⟩
theorem Wrote.of_below {base g : Nat} {a b : World} (h : Below a.heap.size a b) (hb : base ≤ a.heap.size) : Wrote base g a b := ⟨h.mono hb, fun i cs t fr hi _ _ => (h.block i (blk_lt hi)).trans hi⟩
theorem WrAt.below {w w' : World} {base g t : Nat} {bs : List Int} (h : WrAt w base g t bs) (hb : Below w.heap.size w w') : WrAt w' base g t bs := by
  obtain ⟨v, h1, h2⟩ := h
  exact ⟨v, (hb.block g (blk_lt h1)).trans h1, Kd.R_below h2 hb⟩
theorem WrAt.new (w : World) (base t : Nat) : WrAt (w.alloc (.cells #[.slice none 0 0] t)) base w.heap.size t [] := ⟨_, heap_alloc_new w _, Kd.R_nil _ _ _ _ _⟩

set_option maxRecDepth 100000 in
theorem raw_any (base g t : Nat) (bs l : List Int) (A : Option Addr) (n c : Nat) (w : World) (hw : WrAt w base g t bs) (hC : Kd.C (Kd.int .u8) w A n l) (hbase : base ≤ g) (ht : t ≠ 5) (hn : bs.length + n ≤ 140737488355328) :
    Calls Try.prog 33 #[.pointer (some ⟨g, 0, none⟩), .slice A n c] w fun e w' => e = .returned (.int .i64 0) ∧ WrAt w' base g t (bs ++ l) ∧ Wrote base g w w' := by
  obtain ⟨v, hg, hR⟩ := hw
  obtain ⟨A0, c0, rfl⟩ := Kd.R_slice hR
  have hc0 : w.cell? ⟨g, 0, none⟩ = some (.slice A0 bs.length c0) := (blk_cell hg 0).trans rfl
  have hlt := blk_lt hg
  have hne : some g ≠ (Value.slice A0 bs.length c0).ownBlock := fun e => Nat.lt_irrefl _ (hR.1 g e.symm)
  have HG := Aside0.mk hg
  have HR := Aside0.mk hR
  have HC := Aside0.mk hC
  have HNE := Aside0.mk hne
  clear hg hR hC hne
  go_enter Try.func33, Try.ntmps33
  go_wp2_with (at_builtin; refine Kd.R_append_rows (Kd.int .u8) (w0 := w) base rfl (.tmp 11) (.tmp 12) 22 5 (.int .u8 0) 1 rfl Try.underlying22 info_u8 rfl (by decide) (by decide) _ bs l A n c (fun k => g < k) (fun _ => False) rfl rfl HR.out HC.out (fun _ _ h => h) (fun _ h => h.elim) (fun k hk => by omega) (Below.refl _ _) (by omega) (by omega) ?_; intro v1 w1 ho1 hb1 hgr1 _; obtain ⟨A1, c1, rfl⟩ := Kd.R_slice ho1; have hg1 := (hgr1.block g hlt HNE.out).trans HG.out; have hc1 := (blk_cell hg1 0).trans rfl; have hf1 := blk_frozen hg1 0)
  go_ret
  have hbx : Boxed w1 g t (.slice A0 bs.length c0) := hg1
  have hset := hbx.set (.slice A1 (bs.length + l.length) c1)
  refine ⟨rfl, ⟨_, hset, ?_⟩, hb1.setCell (p := ⟨g, 0, none⟩) hbase _, fun k cells t' fr hk ht' hkg => ?_⟩
  · have h := Kd.R_far (p := ⟨g, 0, none⟩) ho1 (fun k hk => Nat.ne_of_gt hk) (.slice A1 (bs.length + l.length) c1)
    rw [List.length_append] at h
    exact h
  · refine (Below.heap_setCell _ _ _ k hkg).trans ((hgr1.block k (blk_lt hk) (fun e => ?_)).trans hk)
    obtain ⟨inner, ho⟩ := Kd.R_own HR.out
    obtain ⟨cs, hc⟩ := own_typed ho k e.symm
    rw [hk] at hc
    cases hc
    exact ht' rfl

theorem be_put (v : Int) (n k : Nat) (h : k < n) : (List.replicate (n - k) (0 : Int) ++ be k v).set (n - 1 - k) (v / 2 ^ (8 * k) % 256) = List.replicate (n - (k + 1)) 0 ++ be (k + 1) v := by
  have e2 : (2 : Int) ^ (8 * k) = 256 ^ k := by rw [Int.pow_mul]; rfl
  rw [e2, be_top, show n - k = (n - (k + 1)) + 1 by omega, List.replicate_succ', List.append_assoc, List.set_append_right _ _ (by simp; omega)]
  congr 1
  simp
  rw [show n - 1 - k - (n - (k + 1)) = 0 by omega]
  rfl
/-- the bytes of a number -/
theorem num_of (v : Int) (n : Nat) (w : World) (h0 : 0 ≤ v) (h1 : v < 256 ^ 8) (hn : n ≤ 8) :
    Calls Try.prog 53 #[.int .u64 v, .int .i64 n] w fun e w' => ∃ x, e = .returned x ∧ Kd.R (Kd.int .u8) 5 w' w.heap.size (fun _ => True) x (be n v) ∧ Below w.heap.size w w' := by
  have h3 : (256 : Int) ^ 8 = 18446744073709551616 := rfl
  rw [h3] at h1
  clear h3
  have hmk := print_make (P := Try.prog) 22 5 .u8 1 Try.underlying22 info_u8 (by decide) n (by omega)
  go_enter Try.func53, Try.ntmps53
  go_wp2
  clear hmk
  have HR0 : Aside0 (Kd.R (Kd.int .u8) 5 (w.alloc (.cells (madeCells #[.int .u8 0] n) 5)) w.heap.size (fun _ => True) (.slice (some ⟨w.heap.size, 0, none⟩) n n) (List.replicate (n - 0) 0 ++ be 0 v)) := ⟨by
    have h := own_made w w.heap.size 5 .u8 n (Nat.le_refl _) (by omega)
    have e : List.replicate (n - 0) (0 : Int) ++ be 0 v = List.replicate n 0 := by simp [be]
    rw [e]
    exact Kd.R_of_own (h1 := fun _ => rfl) (by simpa [nums, encs] using h) (fun _ _ => trivial)⟩
  have HB0 := Aside0.mk (below_alloc1 w (.cells (madeCells #[.int .u8 0] n) 5))
  go_loopw [6, 10] (fun p q wr => ∃ (k : Nat), k ≤ n ∧ q = .int .i64 k ∧ Aside0 (Kd.R (Kd.int .u8) 5 wr w.heap.size (fun _ => True) (.slice (some ⟨w.heap.size, 0, none⟩) n n) (List.replicate (n - k) 0 ++ be k v)) ∧ Aside0 (Below w.heap.size w wr)) (fun p q wr => n - (intOf q).toNat)
  case atStart => exact ⟨0, by omega, rfl, HR0, HB0⟩
  case round =>
    clear HR0 HB0
    obtain ⟨k, hk, rfl, HR, HB⟩ := hrel
    by_cases hkn : k < n
    · obtain ⟨hcx, hfx⟩ := Kd.R_celln (0 : Int) HR.out ((n : Int) - 1 - k) (by omega) (by omega)
      have e : ((n : Int) - 1 - k).toNat = n - 1 - k := by omega
      rw [e] at hcx hfx
      have hput := Kd.R_putn HR.out ((n : Int) - 1 - k) (v / 2 ^ (8 * k) % 256)
      rw [e, be_put v n k hkn] at hput
      have HP := Aside0.mk hput
      clear hput e
      go_wp2
      go_roundw
      case rel => exact ⟨k + 1, by omega, by go_num, HP, ⟨HB.out.setCell (p := ⟨w.heap.size, n - 1 - k, none⟩) (Nat.le_refl _) _⟩⟩
      case measure => simp [intOf]; omega
    · have e : k = n := by omega
      subst e
      go_wp2
      go_ret
      exact ⟨_, rfl, by simpa using HR.out, HB.out⟩
end Go.Proofs.Ytknpaihlnkcpgaa.Own
