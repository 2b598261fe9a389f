/- Contracts of the reference of layer 3: Fold, Words, Sum, Of, Whole, Change. -/
import Derived.Test.YtknpaihlnkcpgaaSumMore
set_option linter.unusedVariables false
set_option linter.unusedSimpArgs false
namespace Go.Proofs.Ytknpaihlnkcpgaa.Own
open Go.RowKit Go.Proofs.YtknpaihlnkcpgaaW.PrintWords Go.Proofs.YtknpaihlnkcpgaaW.PrintLast Go.Proofs.YtknpaihlnkcpgaaW.PrintMore

/-- a word, all words -/
def wordAt (b : List Int) (j : Nat) : Int := b.getD (2 * j) 0 * 256 + b.getD (2 * j + 1) 0
def wordsN (b : List Int) (n : Nat) : List Int := (List.range n).map (wordAt b)
def nwords (b : List Int) : Nat := (b.length + 1) / 2
theorem wordsN_succ (b : List Int) (n : Nat) : wordsN b (n + 1) = wordsN b n ++ [wordAt b n] := by simp [wordsN, List.range_succ]
theorem wordsN_length (b : List Int) (n : Nat) : (wordsN b n).length = n := by simp [wordsN]
theorem wordAt_range {b : List Int} (h : bytes b) (j : Nat) : 0 ≤ wordAt b j ∧ wordAt b j ≤ 65535 := by
  have h0 := bytes_getD h (2 * j)
  have h1 := bytes_getD h (2 * j + 1)
  unfold wordAt
  omega
theorem wordAt_cons2 (x y : Int) (l : List Int) (j : Nat) : wordAt (x :: y :: l) (j + 1) = wordAt l j := by
  unfold wordAt
  rw [show 2 * (j + 1) = 2 * j + 1 + 1 from by omega]
  simp
theorem sum_words : ∀ (n : Nat) (b : List Int), b.length ≤ n → (wordsN b (nwords b)).sum = wt 0 b
  | _, [], _ => by simp [wordsN, nwords, wt]
  | _, [x], _ => by simp [wordsN, nwords, wt, wordAt, List.range_succ]
  | 0, x :: y :: l, h => by simp at h
  | n + 1, x :: y :: l, h => by
    have ih := sum_words n l (by simp at h; omega)
    have hn : nwords (x :: y :: l) = nwords l + 1 := by simp [nwords]; omega
    have hw : wordsN (x :: y :: l) (nwords l + 1) = (x * 256 + y) :: wordsN l (nwords l) := by
      unfold wordsN
      rw [List.range_succ_eq_map, List.map_cons, List.map_map]
      have e1 : (List.range (nwords l)).map (wordAt (x :: y :: l) ∘ Nat.succ) = (List.range (nwords l)).map (wordAt l) := List.map_congr_left (fun j _ => wordAt_cons2 x y l j)
      rw [e1]
      rfl
    rw [hn, hw, List.sum_cons, ih]
    rw [wt, wt, wt_par l (0 + 1 + 1) 0 (by decide)]
    simp
    omega
theorem sum_le (l : List Int) (h : ∀ x ∈ l, 0 ≤ x ∧ x ≤ 65535) : 0 ≤ l.sum ∧ l.sum ≤ 65535 * l.length := by
  induction l with
  | nil => simp
  | cons x l ih =>
    have h1 := h x List.mem_cons_self
    have h2 := ih (fun y hy => h y (List.mem_cons_of_mem _ hy))
    simp only [List.sum_cons, List.length_cons]
    omega
theorem sum_take_succ (l : List Int) (k : Nat) (h : k < l.length) : (l.take (k + 1)).sum = (l.take k).sum + l.getD k 0 := by
  rw [List.take_succ_eq_append_getElem h, List.sum_append]
  simp [List.getD_eq_getElem?_getD, List.getElem?_eq_getElem h]
theorem wordsN_mem {b : List Int} (h : bytes b) (n : Nat) : ∀ x ∈ wordsN b n, 0 ≤ x ∧ x ≤ 65535 := by
  intro x hx
  obtain ⟨j, _, rfl⟩ := List.mem_map.1 hx
  exact wordAt_range h j
theorem wt_le (b : List Int) (h : bytes b) : wt 0 b ≤ 65535 * (b.length + 1) := by
  have := sum_le _ (wordsN_mem h (nwords b))
  rw [sum_words b.length b (Nat.le_refl _), wordsN_length] at this
  unfold nwords at this
  omega
theorem getD_mem_range (l : List Int) (k : Nat) (h : ∀ x ∈ l, 0 ≤ x ∧ x ≤ 65535) : 0 ≤ l.getD k 0 ∧ l.getD k 0 ≤ 65535 := by
  rw [List.getD_eq_getElem?_getD]
  by_cases hk : k < l.length
  · rw [List.getElem?_eq_getElem hk]
    exact h _ (List.getElem_mem hk)
  · rw [List.getElem?_eq_none (by omega)]
    simp

theorem info_u64 : (Try.prog.info? 70).map (fun i => (i.zero, i.size, i.bytes)) = some (some (.int .u64 0), 1, 8) := by kernel_rfl
theorem ret_u64 {a b : Int} (h : a = b) : Ending.returned (.int .u64 a) = .returned (.int .u64 b) := by rw [h]

set_option maxHeartbeats 400000 in
theorem rfold_any (a0 : Int) (w : World) (b0 : 0 ≤ a0) (b1 : a0 ≤ 1099511627775) :
    Calls Try.prog 59 #[.int .u64 a0] w fun e w' => e = .returned (.int .u64 (cf a0)) ∧ w = w' := by
  go_enter Try.func59, Try.ntmps59
  go_wp2
  go_loop [0] (fun v => ∃ x : Int, v = .int .u64 x ∧ 0 ≤ x ∧ x ≤ 1099511627775 ∧ Aside0 (cf x = cf a0)) (fun v => (intOf v).toNat)
  case atStart => exact ⟨a0, rfl, b0, b1, Aside0.mk rfl⟩
  case round =>
    obtain ⟨x, rfl, x0, x1, hx⟩ := hrel
    by_cases hlt : 65535 < x
    · go_wp2
      go_round
      case rel => exact ⟨x / 65536 + x % 65536, rfl, by omega, by omega, ⟨by rw [Int.add_comm]; exact (cf_step x hlt).trans hx.out⟩⟩
      case measure => simp [intOf]; omega
    · go_wp2
      go_ret
      exact ⟨ret_u64 (by rw [← hx.out, cf_small x x0 (by omega)]), rfl⟩

set_option maxHeartbeats 1000000 in
theorem rwords_any (b : List Int) (A : Option Addr) (c : Nat) (w : World) (hr : Kd.C (Kd.int .u8) w A b.length b) (hb : bytes b) (hn : b.length ≤ 1048576) :
    Calls Try.prog 60 #[.slice A b.length c] w fun e w' => ∃ v, e = .returned v ∧ Kd.R (Kd.int .u64) 70 w' w.heap.size (fun _ => True) v (wordsN b (nwords b)) ∧ Below w.heap.size w w' := by
  have HR := Aside0.mk hr
  have HBY := Aside0.mk hb
  clear hr hb
  go_enter Try.func60, Try.ntmps60
  go_wp2
  go_loopw [3, 4] (fun vo vi wr => ∃ (j : Nat) (i : Int), vi = .int .i64 i ∧ 0 ≤ i ∧ i ≤ b.length + 1 ∧ Aside0 (i = 2 * (j : Int)) ∧ Aside0 (Kd.R (Kd.int .u64) 70 wr w.heap.size (fun _ => True) vo (wordsN b j)) ∧ Aside0 (Below w.heap.size w wr)) (fun _ vi _ => b.length + 2 - (intOf vi).toNat)
  case atStart => exact ⟨0, 0, rfl, by decide, by omega, ⟨rfl⟩, ⟨Kd.R_nil _ _ _ _ _⟩, ⟨Below.refl _ _⟩⟩
  case round =>
    obtain ⟨j, i, rfl, i0, i1, HI, HO, HB⟩ := hrel
    have EL := Aside0.mk (wordsN_length b j)
    have EJ := Aside0.mk (show j ≤ 1048577 by have := HI.out; omega)
    by_cases hlt : i < b.length
    · obtain ⟨ad, rfl, hx⟩ := byte_at HR.out HB.out i i0 hlt
      have ex0 : i.toNat = 2 * j := by have := HI.out; omega
      have hx0 := bytes_getD HBY.out (2 * j)
      rw [show b.getD i.toNat 0 = b.getD (2 * j) 0 by rw [ex0]] at hx
      clear ex0
      by_cases hlt2 : i + 1 < b.length
      · obtain ⟨ad', e', hy⟩ := byte_at HR.out HB.out (i + 1) (by omega) hlt2
        cases e'
        have ey0 : (i + 1).toNat = 2 * j + 1 := by have := HI.out; omega
        have hy0 := bytes_getD HBY.out (2 * j + 1)
        rw [show b.getD (i + 1).toNat 0 = b.getD (2 * j + 1) 0 by rw [ey0]] at hy
        clear ey0
        have HW := Aside0.mk (show wordAt b j = b.getD (2 * j) 0 * 256 + b.getD (2 * j + 1) 0 from rfl)
        obtain ⟨x, ex⟩ : ∃ x, b.getD (2 * j) 0 = x := ⟨_, rfl⟩
        obtain ⟨y, ey⟩ : ∃ x, b.getD (2 * j + 1) 0 = x := ⟨_, rfl⟩
        rw [ex] at hx0 hx HW
        rw [ey] at hy0 hy HW
        clear ex ey
        obtain ⟨x0, x1⟩ := hx0
        obtain ⟨y0, y1⟩ := hy0
        go_wp2_with (at_builtin; refine Kd.R_append (Kd.int .u64) (w0 := w) w.heap.size rfl (.tmp 31) (.tmp 33) 88 70 (.int .u64 0) 8 rfl Try.underlying88 info_u64 rfl (by decide) (by decide) _ (wordsN b j) (x * 256 + y) [.int .u64 (x * 256 + y)] (fun _ => True) (fun _ => False) rfl rfl rfl (fun _ hk => hk.elim) (fun _ _ => trivial) HO.out HB.out HB.out.size (by have := EL.out; have := EJ.out; omega) ?_; intro v1 w1 ho1 hb1 _ _)
        go_roundw
        case rel => exact ⟨j + 1, i + 2, rfl, by omega, by omega, ⟨by have := HI.out; omega⟩, ⟨by rw [wordsN_succ, HW.out]; exact ho1⟩, ⟨hb1⟩⟩
        case measure => simp [intOf]; omega
      · have HW := Aside0.mk (show wordAt b j = b.getD (2 * j) 0 * 256 by
          unfold wordAt
          have hI := HI.out
          rw [show b.getD (2 * j + 1) 0 = 0 by rw [List.getD_eq_getElem?_getD, List.getElem?_eq_none (by omega)]; rfl]
          omega)
        obtain ⟨x, ex⟩ : ∃ x, b.getD (2 * j) 0 = x := ⟨_, rfl⟩
        rw [ex] at hx0 hx HW
        clear ex
        obtain ⟨x0, x1⟩ := hx0
        go_wp2_with (at_builtin; refine Kd.R_append (Kd.int .u64) (w0 := w) w.heap.size rfl (.tmp 31) (.tmp 33) 88 70 (.int .u64 0) 8 rfl Try.underlying88 info_u64 rfl (by decide) (by decide) _ (wordsN b j) (x * 256) [.int .u64 (x * 256)] (fun _ => True) (fun _ => False) rfl rfl rfl (fun _ hk => hk.elim) (fun _ _ => trivial) HO.out HB.out HB.out.size (by have := EL.out; have := EJ.out; omega) ?_; intro v1 w1 ho1 hb1 _ _)
        go_roundw
        case rel => exact ⟨j + 1, i + 2, rfl, by omega, by omega, ⟨by have := HI.out; omega⟩, ⟨by rw [wordsN_succ, HW.out]; exact ho1⟩, ⟨hb1⟩⟩
        case measure => simp [intOf]; omega
    · have e : j = nwords b := by have := HI.out; unfold nwords; omega
      subst e
      go_wp2
      go_ret
      exact ⟨_, rfl, HO.out, HB.out⟩

set_option maxHeartbeats 1000000 in
theorem rsum_any (b : List Int) (A : Option Addr) (c : Nat) (w : World) (hr : Kd.C (Kd.int .u8) w A b.length b) (hb : bytes b) (hn : b.length ≤ 1048576) :
    Calls Try.prog 49 #[.slice A b.length c] w fun e w' => e = .returned (.int .u64 (cf (wt 0 b))) ∧ Below w.heap.size w w' := by
  have HR := Aside0.mk hr
  have HBY := Aside0.mk hb
  clear hr hb
  go_enter Try.func49, Try.ntmps49
  go_wp2_with fail
  refine (rwords_any b A c w HR.out HBY.out hn).mono ?_
  rintro e w1 ⟨v, rfl, ho, hb1⟩
  obtain ⟨A1, c1, rfl, hl1, hC1⟩ := Kd.R_reads ho
  have HS := Aside0.mk (sum_words b.length b (Nat.le_refl _))
  have HM := Aside0.mk (wordsN_mem HBY.out (nwords b))
  have hwl : (wordsN b (nwords b)).length ≤ 1048576 := by rw [wordsN_length]; unfold nwords; omega
  obtain ⟨ws, ews⟩ : ∃ ws, wordsN b (nwords b) = ws := ⟨_, rfl⟩
  rw [ews] at hl1 hC1 HS HM hwl ho
  rw [ews]
  clear ews
  have HC := Aside0.mk hC1
  have HB := Aside0.mk hb1
  clear ho hC1 hb1
  go_wp2_with fail
  go_loop [3, 5] (fun vn vi => ∃ (k : Nat), k ≤ ws.length ∧ vi = .int .i64 k ∧ vn = .int .u64 (ws.take k).sum) (fun _ vi => ws.length - (intOf vi).toNat)
  case atStart => exact ⟨0, Nat.zero_le _, rfl, rfl⟩
  case round =>
    obtain ⟨k, hk, rfl, rfl⟩ := hrel
    have hsb := sum_le (ws.take k) (fun x hx => HM.out x (List.mem_of_mem_take hx))
    rw [List.length_take, Nat.min_eq_left hk] at hsb
    obtain ⟨sb0, sb1⟩ := hsb
    by_cases hlt : k < ws.length
    · obtain ⟨ad, rfl, hx⟩ := Kd.at_int HC.out (k : Int) (by omega) (by omega)
      have hx0 := getD_mem_range ws k HM.out
      have HT := Aside0.mk (sum_take_succ ws k hlt)
      have hx' : w1.cell? (ad.add k) = some (.int .u64 (ws.getD k 0)) := hx
      clear hx
      obtain ⟨x, ex⟩ : ∃ x, ws.getD k 0 = x := ⟨_, rfl⟩
      rw [ex] at hx0 hx' HT
      clear ex
      obtain ⟨x0, x1⟩ := hx0
      go_wp2
      go_round
      case rel => exact ⟨k + 1, by omega, by go_num, by rw [HT.out]⟩
      case measure => simp [intOf]; omega
    · have e : k = ws.length := by omega
      subst e
      rw [List.take_length] at sb0 sb1
      rw [List.take_length]
      have hs := HS.out
      have hb2 : ws.sum ≤ 1099511627775 := by omega
      clear hs
      go_wp2_with (go_at_call 59; refine (rfold_any _ _ (by omega) (by omega)).mono ?_; rintro e w' ⟨rfl, rfl⟩)
      go_ret
      exact ⟨ret_u64 (by rw [HS.out]), HB.out⟩
theorem rof_any (b : List Int) (A : Option Addr) (c : Nat) (w : World) (hr : Kd.C (Kd.int .u8) w A b.length b) (hb : bytes b) (hn : b.length ≤ 1048576) :
    Calls Try.prog 29 #[.slice A b.length c] w fun e w' => e = .returned (.int .u16 (ck b)) ∧ Below w.heap.size w w' := by
  obtain ⟨r0, r1⟩ := cf_range _ (wt_nonneg b 0 hb)
  have HR := Aside0.mk hr
  have HBY := Aside0.mk hb
  clear hr hb
  go_enter Try.func29, Try.ntmps29
  go_wp2_with fail
  refine (rsum_any b A c w HR.out HBY.out hn).mono ?_
  rintro e w1 ⟨rfl, hb1⟩
  have HB := Aside0.mk hb1
  clear hb1
  go_wp2
  go_ret
  exact ⟨ret_u16 (by unfold ck; omega), HB.out⟩
theorem wholeB_eq (b : List Int) (h : bytes b) : wholeB b = (cf (wt 0 b) == 65535 || cf (wt 0 b) == 0) := by
  rw [Bool.eq_iff_iff]
  simp [wholeB, ck]
  omega
theorem rwhole_any (b : List Int) (A : Option Addr) (c : Nat) (w : World) (hr : Kd.C (Kd.int .u8) w A b.length b) (hb : bytes b) (hn : b.length ≤ 1048576) :
    Calls Try.prog 44 #[.slice A b.length c] w fun e w' => e = .returned (.bool (wholeB b)) ∧ Below w.heap.size w w' := by
  have HE := Aside0.mk (wholeB_eq b hb)
  have HR := Aside0.mk hr
  have HBY := Aside0.mk hb
  clear hr hb
  obtain ⟨v, ev⟩ : ∃ v, cf (wt 0 b) = v := ⟨_, rfl⟩
  rw [ev] at HE
  have EV := Aside0.mk ev
  clear ev
  by_cases h0 : (v == 65535) = true
  · go_enter Try.func44, Try.ntmps44
    go_wp2_with fail
    refine (rsum_any b A c w HR.out HBY.out hn).mono ?_
    rintro e w1 ⟨rfl, hb1⟩
    rw [EV.out]
    have HB := Aside0.mk hb1
    clear hb1
    go_wp2
    go_ret
    exact ⟨ret_bool (by rw [HE.out, h0]; rfl), HB.out⟩
  · replace h0 : (v == 65535) = false := by simpa using h0
    by_cases h1 : (v == 0) = true
    all_goals
      try (replace h1 : (v == 0) = false := by simpa using h1)
      go_enter Try.func44, Try.ntmps44
      go_wp2_with fail
      refine (rsum_any b A c w HR.out HBY.out hn).mono ?_
      rintro e w1 ⟨rfl, hb1⟩
      rw [EV.out]
      have HB := Aside0.mk hb1
      clear hb1
      go_wp2_with fail
      refine (rsum_any b A c w1 (Kd.C_below HR.out HB.out) HBY.out hn).mono ?_
      rintro e w2 ⟨rfl, hb2⟩
      rw [EV.out]
      have HB2 := Aside0.mk hb2
      clear hb2
      go_wp2
      go_ret
      exact ⟨ret_bool (by rw [HE.out, h0, h1]; rfl), below_tr HB.out HB2.out⟩
theorem rchange_any (s f t : Int) (w : World) (s0 : 0 ≤ s) (s1 : s ≤ 65535) (f0 : 0 ≤ f) (f1 : f ≤ 65535) (t0 : 0 ≤ t) (t1 : t ≤ 65535) :
    Calls Try.prog 46 #[.int .u16 s, .int .u16 f, .int .u16 t] w fun e w' => e = .returned (.int .u16 (chg s f t)) ∧ w = w' := by
  have hr := cf_range (65535 - s + (65535 - f) + t) (by omega)
  rw [show 65535 - s + (65535 - f) + t = 65535 - s + 65535 - f + t by omega] at hr
  obtain ⟨r0, r1⟩ := hr
  go_enter Try.func46, Try.ntmps46
  go_wp2_with fail
  refine (rfold_any _ _ (by omega) (by omega)).mono ?_
  rintro e w1 ⟨rfl, rfl⟩
  go_wp2
  go_ret
  exact ⟨ret_u16 (by unfold chg; rw [show 65535 - s + (65535 - f) + t = 65535 - s + 65535 - f + t by omega]), rfl⟩
/-- the same, at any spelling of the length; the words' block, and each word in it -/
theorem rwords_at (b : List Int) (A : Option Addr) (n c : Nat) (w : World) (hr : Kd.C (Kd.int .u8) w A n b) (hb : bytes b) (hn : b.length ≤ 1048576) (hp : 0 < b.length) :
    Calls Try.prog 60 #[.slice A n c] w fun e w' => ∃ g cap : Nat, e = .returned (.slice (some ⟨g, 0, none⟩) (nwords b) cap) ∧ (∀ j : Int, 0 ≤ j → j < (nwords b : Int) → w'.cell? ⟨g, j.toNat, none⟩ = some (.int .u64 (wordAt b j.toNat))) ∧ g < w'.heap.size ∧ Below w.heap.size w w' := by
  obtain rfl := hr.1
  refine (rwords_any b A c w hr hb hn).mono ?_
  rintro e w' ⟨v, rfl, ho, hbl⟩
  have hnw : 0 < nwords b := by unfold nwords; omega
  obtain ⟨g, cap, rfl, _, hg, _⟩ := Kd.R_form ho (by rw [wordsN_length]; exact hnw)
  rw [wordsN_length] at ho
  refine ⟨g, cap, by rw [wordsN_length], fun j j0 j1 => ?_, hg, hbl⟩
  have h := (Kd.R_celln (0 : Int) ho j j0 j1).1
  rw [h]
  have e : rdOf (0 : Int) (wordsN b (nwords b)) j = wordAt b j.toNat := by
    unfold rdOf wordsN
    rw [List.getD_eq_getElem?_getD, List.getElem?_map, List.getElem?_range (by omega)]
    rfl
  rw [e]
end Go.Proofs.Ytknpaihlnkcpgaa.Own
