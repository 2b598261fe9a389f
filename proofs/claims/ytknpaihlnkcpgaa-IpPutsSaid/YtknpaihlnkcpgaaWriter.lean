/- Contracts of bits.Writer: Put, Bytes; of ip's writer: put. -/
import Derived.Test.YtknpaihlnkcpgaaBits
set_option linter.unusedVariables false
set_option linter.unusedSimpArgs false
namespace Go.Proofs.Ytknpaihlnkcpgaa.Own
open Go.RowKit Go.Proofs.YtknpaihlnkcpgaaW.PrintWords Go.Proofs.YtknpaihlnkcpgaaW.PrintLast Go.Proofs.YtknpaihlnkcpgaaW.PrintMore

theorem fits_ok (v : Int) (n : Nat) (h0 : 0 ≤ v) (h1 : v < 256 ^ 8) (hn : 1 ≤ n) (hn8 : n ≤ 8) (hv : v < 256 ^ n) : decide (1 ≤ (n : Int) ∧ (n : Int) ≤ 8 ∧ lst 7 v ≤ n) = true :=
  decide_eq_true ⟨by omega, by omega, (lst_le 7 n v h0 h1 hn).2 hv⟩

set_option maxRecDepth 100000 in
theorem wput_any (base g t : Nat) (bs : List Int) (v : Int) (n : Nat) (w : World) (hw : WrAt w base g t bs) (hbase : base ≤ g) (ht : t ≠ 5) (hbn : bs.length ≤ 1000000)
    (h0 : 0 ≤ v) (h1 : v < 256 ^ 8) (hn : 1 ≤ n) (hn8 : n ≤ 8) (hv : v < 256 ^ n) :
    Calls Try.prog 50 #[.pointer (some ⟨g, 0, none⟩), .int .u64 v, .int .i64 n] w fun e w' => e = .returned (.int .i64 0) ∧ WrAt w' base g t (bs ++ be n v) ∧ Wrote base g w w' := by
  have hf := fits_any v n w h0 h1
  rw [fits_ok v n h0 h1 hn hn8 hv] at hf
  have ho := num_of v n w h0 h1 hn8
  have HW := Aside0.mk hw
  have hlt : base ≤ w.heap.size := by obtain ⟨x, hx, _⟩ := hw; have := blk_lt hx; omega
  have hl := be_length n v
  obtain ⟨l, el⟩ : ∃ l, be n v = l := ⟨_, rfl⟩
  rw [el] at ho hl ⊢
  have hbl : bs.length + l.length ≤ 140737488355328 := by omega
  clear hw h1 hv el hl
  go_enter Try.func50, Try.ntmps50
  go_wp2_with (first
    | (go_at_call 52; (with_reducible refine hf.mono ?_); clear hf; rintro e w' ⟨rfl, rfl⟩)
    | (go_at_call 53; (with_reducible refine ho.mono ?_); clear ho; rintro e w1 ⟨x, rfl, hx, hb1⟩; obtain ⟨A1, c1, rfl⟩ := Kd.R_slice hx)
    | (go_at_call 33; go_must (with_reducible refine (raw_any base g t bs l A1 l.length c1 w1 (HW.out.below hb1) (C_of_R hx).1 hbase ht hbl).mono ?_); rintro e w2 ⟨rfl, hw2, hk2⟩))
  go_ret
  exact ⟨rfl, hw2, (Wrote.of_below hb1 hlt).trans hk2⟩

set_option maxRecDepth 100000 in
theorem wbytes_any (base g t : Nat) (bs : List Int) (w : World) (hw : WrAt w base g t bs) (hbn : bs.length ≤ 1000000) :
    Calls Try.prog 37 #[.pointer (some ⟨g, 0, none⟩)] w fun e w' => ∃ x, e = .returned x ∧ Kd.R (Kd.int .u8) 5 w' w.heap.size (fun _ => True) x bs ∧ Below w.heap.size w w' := by
  obtain ⟨v, hg, hR⟩ := hw
  obtain ⟨A0, c0, rfl⟩ := Kd.R_slice hR
  have hc0 : w.cell? ⟨g, 0, none⟩ = some (.slice A0 bs.length c0) := (blk_cell hg 0).trans rfl
  have hcl := clone_any bs A0 bs.length c0 w (C_of_R hR).1 (by omega)
  clear hg hR
  go_enter Try.func37, Try.ntmps37
  go_wp2_with (go_at_call 40; (with_reducible refine hcl.mono ?_); rintro e w1 ⟨x, rfl, hx, hb1⟩)
  go_ret
  exact ⟨_, rfl, hx, hb1⟩

/-- numbers of a size, one behind the other -/
def bes (n : Nat) (l : List Int) : List Int := (l.map (be n)).flatten
theorem bes_snoc (n : Nat) (l : List Int) (x : Int) : bes n (l ++ [x]) = bes n l ++ be n x := by simp [bes]
theorem bes_length (n : Nat) : ∀ (l : List Int), (bes n l).length = n * l.length := by
  intro l
  induction l with
  | nil => simp [bes]
  | cons x l ih => simp only [bes, List.map_cons, List.flatten_cons, List.length_append, List.length_cons] at *; rw [ih, be_length, Nat.mul_succ]; omega

set_option maxRecDepth 100000 in
theorem puts_any (base g t b T : Nat) (bs l : List Int) (n m : Nat) (w : World) (hw : WrAt w base g t bs) (hbase : base ≤ g) (ht : t ≠ 5) (hbn : bs.length ≤ 10000) (hl : l.length = m) (hm : m ≤ 1000)
    (hb : w.heap[b]? = some (.cells (nums .u64 l).toArray T (0, 0))) (hT : T ≠ 5) (hbg : b ≠ g) (hn : 1 ≤ n) (hn8 : n ≤ 8) (hv : ∀ x ∈ l, 0 ≤ x ∧ x < 256 ^ n) (hp8 : (256 : Int) ^ n ≤ 256 ^ 8) :
    Calls Try.prog 30 #[.pointer (some ⟨g, 0, none⟩), .int .i64 n, .slice (some ⟨b, 0, none⟩) m m] w fun e w' => e = .returned (.tuple #[]) ∧ WrAt w' base g t (bs ++ bes n l) ∧ Wrote base g w w' := by
  have HV := Aside0.mk hv
  have HL := Aside0.mk hl
  have HBL := Aside0.mk hb
  have HP8 := Aside0.mk hp8
  have HW0 : Aside0 (WrAt w base g t (bs ++ bes n (l.take 0))) := ⟨by simpa [bes] using hw⟩
  clear hv hl hw hb hp8
  go_enter Try.func30, Try.ntmps30
  go_wp2
  go_loopw [7, 10] (fun _ q wr => ∃ (k : Nat), k ≤ m ∧ q = .int .i64 k ∧ Aside0 (WrAt wr base g t (bs ++ bes n (l.take k))) ∧ Aside0 (Wrote base g w wr)) (fun _ q _ => m - (intOf q).toNat)
  case atStart => exact ⟨0, by omega, rfl, HW0, ⟨Wrote.refl _ _ _⟩⟩
  case round =>
    clear HW0
    obtain ⟨k, hk, rfl, HW, HK⟩ := hrel
    by_cases hkm : k < m
    · have hb1 := HK.out.2 b _ _ _ HBL.out hT hbg
      have hkl : k < l.length := by rw [HL.out]; exact hkm
      have hcx : wr.cell? ⟨b, k, none⟩ = some (.int .u64 (l.getD k 0)) := (blk_cell hb1 k).trans (by simp [nums, List.getElem?_eq_getElem hkl, List.getD_eq_getElem?_getD])
      have hxv := HV.out (l.getD k 0) (by rw [List.getD_eq_getElem?_getD, List.getElem?_eq_getElem hkl]; exact List.getElem_mem _)
      have htk : l.take (k + 1) = l.take k ++ [l.getD k 0] := by rw [List.take_add_one, List.getD_eq_getElem?_getD, List.getElem?_eq_getElem hkl]; rfl
      have hx8 := Int.lt_of_lt_of_le hxv.2 HP8.out
      have hx0 := hxv.1
      have hln : (bs ++ bes n (l.take k)).length ≤ 1000000 := by
        rw [List.length_append, bes_length, List.length_take]
        have : n * min k l.length ≤ 8 * 1000 := Nat.mul_le_mul hn8 (by omega)
        omega
      have hp := wput_any base g t (bs ++ bes n (l.take k)) (l.getD k 0) n wr HW.out hbase ht hln hx0 hx8 hn hn8 hxv.2
      rw [List.append_assoc, ← bes_snoc, ← htk] at hp
      obtain ⟨x, ex⟩ : ∃ x, l.getD k 0 = x := ⟨_, rfl⟩
      rw [ex] at hcx hp
      clear htk hx8 hx0 hln hxv hb1 hkl ex
      go_wp2_with (go_at_call 50; go_must (with_reducible refine hp.mono ?_); rintro e w2 ⟨rfl, hw2, hk2⟩)
      go_roundw
      case rel => exact ⟨k + 1, by omega, by go_num, ⟨hw2⟩, ⟨HK.out.trans hk2⟩⟩
      case measure => simp [intOf]; omega
    · have e : k = m := by omega
      subst e
      go_wp2
      go_end0
      exact ⟨rfl, by have h := HW.out; rw [List.take_of_length_le (by rw [HL.out]; exact Nat.le_refl _)] at h; exact h, HK.out⟩
end Go.Proofs.Ytknpaihlnkcpgaa.Own
