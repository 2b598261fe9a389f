/- The session's texts that the law leans on, merged: Row, RefSum, Ref5, Doc5, Same5, EqR5, LawPutsA, LawPuts, Get, Parse, ParseAll, Body, Hop, RGet, RParseE, Flags, RParse, RBody, RHop, Pad, LawParsesA, LawParses, BackPlain, Pick. -/
import Derived.Test.YtknpaihlnkcpgaaMA1
import Derived.StillTailTactics
import Derived.ChangeKeysEq
import Derived.Laws.ShiftsVarLaws
/- octroiref01.Put, Join; append on rows of bytes of one's own. -/
set_option linter.unusedVariables false
set_option linter.unusedSimpArgs false
namespace Go.Proofs.Ytknpaihlnkcpgaa.Own
open Go.RowKit Go.Proofs.YtknpaihlnkcpgaaW.PrintWords Go.Proofs.YtknpaihlnkcpgaaW.PrintLast Go.Proofs.YtknpaihlnkcpgaaW.PrintMore

/-- append(s, x...) on a row of bytes of the call's own -/
theorem app_bytes {ops : Array Oper} {rest : List Oper} {o : Oper} {a : Act} {W w0 : World} {Q : Exit → Act → World → Prop} (base : Nat) (hgd : o.guard = none) (s x : Operand)
    (ho : o.op = .call { callee := .builtin .append, args := #[s, x], argTypes := #[22, 22] }) (v : Value) (xs ys : List Int) (A : Option Addr) (m c : Nat) (hs : a.eval s = v) (hx : a.eval x = .slice A m c)
    (HO : Kd.R (Kd.int .u8) 5 W base (fun _ => True) v xs) (HC : Kd.C (Kd.int .u8) W A m ys) (HB : Below base w0 W) (hbase : base ≤ W.heap.size) (hl : xs.length + m ≤ 140737488355328)
    (h : ∀ A1 n1 c1 w1, Kd.R (Kd.int .u8) 5 w1 base (fun _ => True) (.slice A1 n1 c1) (xs ++ ys) → Below base w0 w1 → wpList Try.prog ops Q rest (a.put o.dst (.slice A1 n1 c1)) w1) :
    wpList Try.prog ops Q (o :: rest) a W :=
  Kd.R_append_rows (Kd.int .u8) (w0 := w0) base hgd s x 22 5 (.int .u8 0) 1 ho Try.underlying22 info_u8 rfl (by decide) (by decide) v xs ys A m c (fun _ => True) (fun _ => False) hs hx HO HC (fun _ _ h => h) (fun _ h => h.elim) (fun _ _ => trivial) HB hbase (by omega)
    (fun v1 w1 ho1 hb1 _ _ => by
      obtain ⟨A1, c1, rfl⟩ := Kd.R_slice ho1
      exact h _ _ _ _ ho1 hb1)

theorem be_succ (k : Nat) (v : Int) : be (k + 1) v = be k (v / 256) ++ [v % 256] := rfl
theorem p256_8 : (256 : Int) ^ 8 = 18446744073709551616 := rfl
set_option maxRecDepth 100000 in
theorem rput_any : ∀ (k : Nat) (v : Int) (w : World), 0 ≤ v → v < 256 ^ 8 → k ≤ 8 →
    Calls Try.prog 45 #[.int .u64 v, .int .i64 k] w fun e w' => ∃ A n c, e = .returned (.slice A n c) ∧ Kd.R (Kd.int .u8) 5 w' w.heap.size (fun _ => True) (.slice A n c) (be k v) ∧ Below w.heap.size w w' := by
  intro k
  induction k with
  | zero =>
    intro v w h0 h1 hk
    clear h1
    go_enter Try.func45, Try.ntmps45
    go_wp2_with fail
    go_ret
    exact ⟨_, _, _, rfl, Kd.R_nil _ _ _ _ _, Below.refl _ _⟩
  | succ k ih =>
    intro v w h0 h1 hk
    rw [p256_8] at h1
    have hq := ih (v / 256) w (by omega) (by rw [p256_8]; omega) (by omega)
    clear ih
    have HL := Aside0.mk (be_length k (v / 256))
    obtain ⟨L, eL⟩ : ∃ L, be k (v / 256) = L := ⟨_, rfl⟩
    rw [eL] at hq HL
    have HE : Aside0 (be (k + 1) v = L ++ [v % 256]) := ⟨by rw [be_succ, eL]⟩
    have hk1 : ¬ ((k : Int) + 1 = 0) := by omega
    clear eL
    go_enter Try.func45, Try.ntmps45
    go_wp2_with fail
    with_reducible refine hq.mono ?_
    rintro e w1 ⟨A1, n1, c1, rfl, hR1, hb1⟩
    clear hq
    have hlen : L.length + 1 ≤ 140737488355328 := by have := HL.out; omega
    have hc1 := C_new_bytes w1 [v % 256] (by simp)
    go_wp2_with (at_builtin; refine app_bytes w.heap.size rfl (.tmp 11) (.tmp 15) rfl _ L [v % 256] _ 1 1 rfl rfl (Kd.R_alloc hR1 _) hc1 (below_alloc hb1 _) (by simp; have := hb1.size; omega) hlen ?_; intro A2 n2 c2 w2 hR2 hb2)
    go_ret
    exact ⟨_, _, _, rfl, by rw [HE.out]; exact hR2, hb2⟩
theorem rput_at (k : Nat) (ki : Int) (hki : (k : Int) = ki) (v : Int) (w : World) (h0 : 0 ≤ v) (h1 : v ≤ 1099511627775) (hk : k ≤ 8) :
    Calls Try.prog 45 #[.int .u64 v, .int .i64 ki] w fun e w' => ∃ A n c, e = .returned (.slice A n c) ∧ Kd.R (Kd.int .u8) 5 w' w.heap.size (fun _ => True) (.slice A n c) (be k v) ∧ Below w.heap.size w w' := by
  subst hki
  exact rput_any k v w h0 (by rw [p256_8]; omega) hk
set_option maxRecDepth 100000 in
theorem join_any (xs ys : List Int) (A B : Option Addr) (n c m d : Nat) (w : World) (hA : Kd.C (Kd.int .u8) w A n xs) (hB : Kd.C (Kd.int .u8) w B m ys) (hl : n + m ≤ 140737488355328) :
    Calls Try.prog 18 #[.slice A n c, .slice B m d] w fun e w' => ∃ A n c, e = .returned (.slice A n c) ∧ Kd.R (Kd.int .u8) 5 w' w.heap.size (fun _ => True) (.slice A n c) (xs ++ ys) ∧ Below w.heap.size w w' := by
  have HA := Aside0.mk hA
  have HB := Aside0.mk hB
  have HL := Aside0.mk hl
  have HXL := Aside0.mk hA.1
  clear hA hB hl
  go_enter Try.func18, Try.ntmps18
  go_upto_region 3 with (at_builtin; refine app_bytes w.heap.size rfl (.tmp 6) (.tmp 7) rfl _ [] xs A n c rfl rfl (Kd.R_nil _ _ _ _ _) HA.out (Below.refl _ _) (Nat.le_refl _) (by have := HL.out; simp; omega) ?_; intro A2 n2 c2 w2 hR2 hb2)
  go_wp2_with (at_builtin; refine app_bytes w.heap.size rfl (.tmp 9) (.tmp 10) rfl _ ([] ++ xs) ys B m d rfl rfl hR2 (Kd.C_below HB.out hb2) hb2 hb2.size (by have := HL.out; have := HXL.out; simp; omega) ?_; intro A3 n3 c3 w3 hR3 hb3)
  go_ret
  exact ⟨_, _, _, rfl, hR3, hb3⟩
end Go.Proofs.Ytknpaihlnkcpgaa.Own
/- Contracts of the reference of layer 3: Fold, Words, Sum, Of, Whole, Change. -/
set_option linter.unusedVariables false
set_option linter.unusedSimpArgs false
namespace Go.Proofs.Ytknpaihlnkcpgaa.Own
open Go.RowKit Go.Proofs.YtknpaihlnkcpgaaW.PrintWords Go.Proofs.YtknpaihlnkcpgaaW.PrintLast Go.Proofs.YtknpaihlnkcpgaaW.PrintMore

/-- a word, all words -/
def wordAt (b : List Int) (j : Nat) : Int := b.getD (2 * j) 0 * 256 + b.getD (2 * j + 1) 0
def wordsN (b : List Int) (n : Nat) : List Int := (List.range n).map (wordAt b)
def nwords (b : List Int) : Nat := (b.length + 1) / 2
theorem wordsN_succ (b : List Int) (n : Nat) : wordsN b (n + 1) = wordsN b n ++ [wordAt b n] := by simp [wordsN, List.range_succ]
theorem wordsN_length (b : List Int) (n : Nat) : (wordsN b n).length = n := by simp [wordsN]
theorem wordAt_range {b : List Int} (h : bytes b) (j : Nat) : 0 ≤ wordAt b j ∧ wordAt b j ≤ 65535 := by
  have h0 := bytes_getD h (2 * j)
  have h1 := bytes_getD h (2 * j + 1)
  unfold wordAt
  omega
theorem wordAt_cons2 (x y : Int) (l : List Int) (j : Nat) : wordAt (x :: y :: l) (j + 1) = wordAt l j := by
  unfold wordAt
  rw [show 2 * (j + 1) = 2 * j + 1 + 1 from by omega]
  simp
theorem sum_words : ∀ (n : Nat) (b : List Int), b.length ≤ n → (wordsN b (nwords b)).sum = wt 0 b
  | _, [], _ => by simp [wordsN, nwords, wt]
  | _, [x], _ => by simp [wordsN, nwords, wt, wordAt, List.range_succ]
  | 0, x :: y :: l, h => by simp at h
  | n + 1, x :: y :: l, h => by
    have ih := sum_words n l (by simp at h; omega)
    have hn : nwords (x :: y :: l) = nwords l + 1 := by simp [nwords]; omega
    have hw : wordsN (x :: y :: l) (nwords l + 1) = (x * 256 + y) :: wordsN l (nwords l) := by
      unfold wordsN
      rw [List.range_succ_eq_map, List.map_cons, List.map_map]
      have e1 : (List.range (nwords l)).map (wordAt (x :: y :: l) ∘ Nat.succ) = (List.range (nwords l)).map (wordAt l) := List.map_congr_left (fun j _ => wordAt_cons2 x y l j)
      rw [e1]
      rfl
    rw [hn, hw, List.sum_cons, ih]
    rw [wt, wt, wt_par l (0 + 1 + 1) 0 (by decide)]
    simp
    omega
theorem sum_le (l : List Int) (h : ∀ x ∈ l, 0 ≤ x ∧ x ≤ 65535) : 0 ≤ l.sum ∧ l.sum ≤ 65535 * l.length := by
  induction l with
  | nil => simp
  | cons x l ih =>
    have h1 := h x List.mem_cons_self
    have h2 := ih (fun y hy => h y (List.mem_cons_of_mem _ hy))
    simp only [List.sum_cons, List.length_cons]
    omega
theorem sum_take_succ (l : List Int) (k : Nat) (h : k < l.length) : (l.take (k + 1)).sum = (l.take k).sum + l.getD k 0 := by
  rw [List.take_succ_eq_append_getElem h, List.sum_append]
  simp [List.getD_eq_getElem?_getD, List.getElem?_eq_getElem h]
theorem wordsN_mem {b : List Int} (h : bytes b) (n : Nat) : ∀ x ∈ wordsN b n, 0 ≤ x ∧ x ≤ 65535 := by
  intro x hx
  obtain ⟨j, _, rfl⟩ := List.mem_map.1 hx
  exact wordAt_range h j
theorem wt_le (b : List Int) (h : bytes b) : wt 0 b ≤ 65535 * (b.length + 1) := by
  have := sum_le _ (wordsN_mem h (nwords b))
  rw [sum_words b.length b (Nat.le_refl _), wordsN_length] at this
  unfold nwords at this
  omega
theorem getD_mem_range (l : List Int) (k : Nat) (h : ∀ x ∈ l, 0 ≤ x ∧ x ≤ 65535) : 0 ≤ l.getD k 0 ∧ l.getD k 0 ≤ 65535 := by
  rw [List.getD_eq_getElem?_getD]
  by_cases hk : k < l.length
  · rw [List.getElem?_eq_getElem hk]
    exact h _ (List.getElem_mem hk)
  · rw [List.getElem?_eq_none (by omega)]
    simp

theorem info_u64 : (Try.prog.info? 70).map (fun i => (i.zero, i.size, i.bytes)) = some (some (.int .u64 0), 1, 8) := by kernel_rfl
theorem ret_u64 {a b : Int} (h : a = b) : Ending.returned (.int .u64 a) = .returned (.int .u64 b) := by rw [h]

set_option maxHeartbeats 400000 in
theorem rfold_any (a0 : Int) (w : World) (b0 : 0 ≤ a0) (b1 : a0 ≤ 1099511627775) :
    Calls Try.prog 59 #[.int .u64 a0] w fun e w' => e = .returned (.int .u64 (cf a0)) ∧ w = w' := by
  go_enter Try.func59, Try.ntmps59
  go_wp2
  go_loop [0] (fun v => ∃ x : Int, v = .int .u64 x ∧ 0 ≤ x ∧ x ≤ 1099511627775 ∧ Aside0 (cf x = cf a0)) (fun v => (intOf v).toNat)
  case atStart => exact ⟨a0, rfl, b0, b1, Aside0.mk rfl⟩
  case round =>
    obtain ⟨x, rfl, x0, x1, hx⟩ := hrel
    by_cases hlt : 65535 < x
    · go_wp2
      go_round
      case rel => exact ⟨x / 65536 + x % 65536, rfl, by omega, by omega, ⟨by rw [Int.add_comm]; exact (cf_step x hlt).trans hx.out⟩⟩
      case measure => simp [intOf]; omega
    · go_wp2
      go_ret
      exact ⟨ret_u64 (by rw [← hx.out, cf_small x x0 (by omega)]), rfl⟩

set_option maxHeartbeats 1000000 in
theorem rwords_any (b : List Int) (A : Option Addr) (c : Nat) (w : World) (hr : Kd.C (Kd.int .u8) w A b.length b) (hb : bytes b) (hn : b.length ≤ 1048576) :
    Calls Try.prog 60 #[.slice A b.length c] w fun e w' => ∃ v, e = .returned v ∧ Kd.R (Kd.int .u64) 70 w' w.heap.size (fun _ => True) v (wordsN b (nwords b)) ∧ Below w.heap.size w w' := by
  have HR := Aside0.mk hr
  have HBY := Aside0.mk hb
  clear hr hb
  go_enter Try.func60, Try.ntmps60
  go_wp2
  go_loopw [3, 4] (fun vo vi wr => ∃ (j : Nat) (i : Int), vi = .int .i64 i ∧ 0 ≤ i ∧ i ≤ b.length + 1 ∧ Aside0 (i = 2 * (j : Int)) ∧ Aside0 (Kd.R (Kd.int .u64) 70 wr w.heap.size (fun _ => True) vo (wordsN b j)) ∧ Aside0 (Below w.heap.size w wr)) (fun _ vi _ => b.length + 2 - (intOf vi).toNat)
  case atStart => exact ⟨0, 0, rfl, by decide, by omega, ⟨rfl⟩, ⟨Kd.R_nil _ _ _ _ _⟩, ⟨Below.refl _ _⟩⟩
  case round =>
    obtain ⟨j, i, rfl, i0, i1, HI, HO, HB⟩ := hrel
    have EL := Aside0.mk (wordsN_length b j)
    have EJ := Aside0.mk (show j ≤ 1048577 by have := HI.out; omega)
    by_cases hlt : i < b.length
    · obtain ⟨ad, rfl, hx⟩ := byte_at HR.out HB.out i i0 hlt
      have ex0 : i.toNat = 2 * j := by have := HI.out; omega
      have hx0 := bytes_getD HBY.out (2 * j)
      rw [show b.getD i.toNat 0 = b.getD (2 * j) 0 by rw [ex0]] at hx
      clear ex0
      by_cases hlt2 : i + 1 < b.length
      · obtain ⟨ad', e', hy⟩ := byte_at HR.out HB.out (i + 1) (by omega) hlt2
        cases e'
        have ey0 : (i + 1).toNat = 2 * j + 1 := by have := HI.out; omega
        have hy0 := bytes_getD HBY.out (2 * j + 1)
        rw [show b.getD (i + 1).toNat 0 = b.getD (2 * j + 1) 0 by rw [ey0]] at hy
        clear ey0
        have HW := Aside0.mk (show wordAt b j = b.getD (2 * j) 0 * 256 + b.getD (2 * j + 1) 0 from rfl)
        obtain ⟨x, ex⟩ : ∃ x, b.getD (2 * j) 0 = x := ⟨_, rfl⟩
        obtain ⟨y, ey⟩ : ∃ x, b.getD (2 * j + 1) 0 = x := ⟨_, rfl⟩
        rw [ex] at hx0 hx HW
        rw [ey] at hy0 hy HW
        clear ex ey
        obtain ⟨x0, x1⟩ := hx0
        obtain ⟨y0, y1⟩ := hy0
        go_wp2_with (at_builtin; refine Kd.R_append (Kd.int .u64) (w0 := w) w.heap.size rfl (.tmp 31) (.tmp 33) 88 70 (.int .u64 0) 8 rfl Try.underlying88 info_u64 rfl (by decide) (by decide) _ (wordsN b j) (x * 256 + y) [.int .u64 (x * 256 + y)] (fun _ => True) (fun _ => False) rfl rfl rfl (fun _ hk => hk.elim) (fun _ _ => trivial) HO.out HB.out HB.out.size (by have := EL.out; have := EJ.out; omega) ?_; intro v1 w1 ho1 hb1 _ _)
        go_roundw
        case rel => exact ⟨j + 1, i + 2, rfl, by omega, by omega, ⟨by have := HI.out; omega⟩, ⟨by rw [wordsN_succ, HW.out]; exact ho1⟩, ⟨hb1⟩⟩
        case measure => simp [intOf]; omega
      · have HW := Aside0.mk (show wordAt b j = b.getD (2 * j) 0 * 256 by
          unfold wordAt
          have hI := HI.out
          rw [show b.getD (2 * j + 1) 0 = 0 by rw [List.getD_eq_getElem?_getD, List.getElem?_eq_none (by omega)]; rfl]
          omega)
        obtain ⟨x, ex⟩ : ∃ x, b.getD (2 * j) 0 = x := ⟨_, rfl⟩
        rw [ex] at hx0 hx HW
        clear ex
        obtain ⟨x0, x1⟩ := hx0
        go_wp2_with (at_builtin; refine Kd.R_append (Kd.int .u64) (w0 := w) w.heap.size rfl (.tmp 31) (.tmp 33) 88 70 (.int .u64 0) 8 rfl Try.underlying88 info_u64 rfl (by decide) (by decide) _ (wordsN b j) (x * 256) [.int .u64 (x * 256)] (fun _ => True) (fun _ => False) rfl rfl rfl (fun _ hk => hk.elim) (fun _ _ => trivial) HO.out HB.out HB.out.size (by have := EL.out; have := EJ.out; omega) ?_; intro v1 w1 ho1 hb1 _ _)
        go_roundw
        case rel => exact ⟨j + 1, i + 2, rfl, by omega, by omega, ⟨by have := HI.out; omega⟩, ⟨by rw [wordsN_succ, HW.out]; exact ho1⟩, ⟨hb1⟩⟩
        case measure => simp [intOf]; omega
    · have e : j = nwords b := by have := HI.out; unfold nwords; omega
      subst e
      go_wp2
      go_ret
      exact ⟨_, rfl, HO.out, HB.out⟩

set_option maxHeartbeats 1000000 in
theorem rsum_any (b : List Int) (A : Option Addr) (c : Nat) (w : World) (hr : Kd.C (Kd.int .u8) w A b.length b) (hb : bytes b) (hn : b.length ≤ 1048576) :
    Calls Try.prog 49 #[.slice A b.length c] w fun e w' => e = .returned (.int .u64 (cf (wt 0 b))) ∧ Below w.heap.size w w' := by
  have HR := Aside0.mk hr
  have HBY := Aside0.mk hb
  clear hr hb
  go_enter Try.func49, Try.ntmps49
  go_wp2_with fail
  refine (rwords_any b A c w HR.out HBY.out hn).mono ?_
  rintro e w1 ⟨v, rfl, ho, hb1⟩
  obtain ⟨A1, c1, rfl, hl1, hC1⟩ := Kd.R_reads ho
  have HS := Aside0.mk (sum_words b.length b (Nat.le_refl _))
  have HM := Aside0.mk (wordsN_mem HBY.out (nwords b))
  have hwl : (wordsN b (nwords b)).length ≤ 1048576 := by rw [wordsN_length]; unfold nwords; omega
  obtain ⟨ws, ews⟩ : ∃ ws, wordsN b (nwords b) = ws := ⟨_, rfl⟩
  rw [ews] at hl1 hC1 HS HM hwl ho
  rw [ews]
  clear ews
  have HC := Aside0.mk hC1
  have HB := Aside0.mk hb1
  clear ho hC1 hb1
  go_wp2_with fail
  go_loop [3, 5] (fun vn vi => ∃ (k : Nat), k ≤ ws.length ∧ vi = .int .i64 k ∧ vn = .int .u64 (ws.take k).sum) (fun _ vi => ws.length - (intOf vi).toNat)
  case atStart => exact ⟨0, Nat.zero_le _, rfl, rfl⟩
  case round =>
    obtain ⟨k, hk, rfl, rfl⟩ := hrel
    have hsb := sum_le (ws.take k) (fun x hx => HM.out x (List.mem_of_mem_take hx))
    rw [List.length_take, Nat.min_eq_left hk] at hsb
    obtain ⟨sb0, sb1⟩ := hsb
    by_cases hlt : k < ws.length
    · obtain ⟨ad, rfl, hx⟩ := Kd.at_int HC.out (k : Int) (by omega) (by omega)
      have hx0 := getD_mem_range ws k HM.out
      have HT := Aside0.mk (sum_take_succ ws k hlt)
      have hx' : w1.cell? (ad.add k) = some (.int .u64 (ws.getD k 0)) := hx
      clear hx
      obtain ⟨x, ex⟩ : ∃ x, ws.getD k 0 = x := ⟨_, rfl⟩
      rw [ex] at hx0 hx' HT
      clear ex
      obtain ⟨x0, x1⟩ := hx0
      go_wp2
      go_round
      case rel => exact ⟨k + 1, by omega, by go_num, by rw [HT.out]⟩
      case measure => simp [intOf]; omega
    · have e : k = ws.length := by omega
      subst e
      rw [List.take_length] at sb0 sb1
      rw [List.take_length]
      have hs := HS.out
      have hb2 : ws.sum ≤ 1099511627775 := by omega
      clear hs
      go_wp2_with (go_at_call 59; refine (rfold_any _ _ (by omega) (by omega)).mono ?_; rintro e w' ⟨rfl, rfl⟩)
      go_ret
      exact ⟨ret_u64 (by rw [HS.out]), HB.out⟩
theorem rof_any (b : List Int) (A : Option Addr) (c : Nat) (w : World) (hr : Kd.C (Kd.int .u8) w A b.length b) (hb : bytes b) (hn : b.length ≤ 1048576) :
    Calls Try.prog 29 #[.slice A b.length c] w fun e w' => e = .returned (.int .u16 (ck b)) ∧ Below w.heap.size w w' := by
  obtain ⟨r0, r1⟩ := cf_range _ (wt_nonneg b 0 hb)
  have HR := Aside0.mk hr
  have HBY := Aside0.mk hb
  clear hr hb
  go_enter Try.func29, Try.ntmps29
  go_wp2_with fail
  refine (rsum_any b A c w HR.out HBY.out hn).mono ?_
  rintro e w1 ⟨rfl, hb1⟩
  have HB := Aside0.mk hb1
  clear hb1
  go_wp2
  go_ret
  exact ⟨ret_u16 (by unfold ck; omega), HB.out⟩
theorem wholeB_eq (b : List Int) (h : bytes b) : wholeB b = (cf (wt 0 b) == 65535 || cf (wt 0 b) == 0) := by
  rw [Bool.eq_iff_iff]
  simp [wholeB, ck]
  omega
theorem rwhole_any (b : List Int) (A : Option Addr) (c : Nat) (w : World) (hr : Kd.C (Kd.int .u8) w A b.length b) (hb : bytes b) (hn : b.length ≤ 1048576) :
    Calls Try.prog 44 #[.slice A b.length c] w fun e w' => e = .returned (.bool (wholeB b)) ∧ Below w.heap.size w w' := by
  have HE := Aside0.mk (wholeB_eq b hb)
  have HR := Aside0.mk hr
  have HBY := Aside0.mk hb
  clear hr hb
  obtain ⟨v, ev⟩ : ∃ v, cf (wt 0 b) = v := ⟨_, rfl⟩
  rw [ev] at HE
  have EV := Aside0.mk ev
  clear ev
  by_cases h0 : (v == 65535) = true
  · go_enter Try.func44, Try.ntmps44
    go_wp2_with fail
    refine (rsum_any b A c w HR.out HBY.out hn).mono ?_
    rintro e w1 ⟨rfl, hb1⟩
    rw [EV.out]
    have HB := Aside0.mk hb1
    clear hb1
    go_wp2
    go_ret
    exact ⟨ret_bool (by rw [HE.out, h0]; rfl), HB.out⟩
  · replace h0 : (v == 65535) = false := by simpa using h0
    by_cases h1 : (v == 0) = true
    all_goals
      try (replace h1 : (v == 0) = false := by simpa using h1)
      go_enter Try.func44, Try.ntmps44
      go_wp2_with fail
      refine (rsum_any b A c w HR.out HBY.out hn).mono ?_
      rintro e w1 ⟨rfl, hb1⟩
      rw [EV.out]
      have HB := Aside0.mk hb1
      clear hb1
      go_wp2_with fail
      refine (rsum_any b A c w1 (Kd.C_below HR.out HB.out) HBY.out hn).mono ?_
      rintro e w2 ⟨rfl, hb2⟩
      rw [EV.out]
      have HB2 := Aside0.mk hb2
      clear hb2
      go_wp2
      go_ret
      exact ⟨ret_bool (by rw [HE.out, h0, h1]; rfl), below_tr HB.out HB2.out⟩
theorem rchange_any (s f t : Int) (w : World) (s0 : 0 ≤ s) (s1 : s ≤ 65535) (f0 : 0 ≤ f) (f1 : f ≤ 65535) (t0 : 0 ≤ t) (t1 : t ≤ 65535) :
    Calls Try.prog 46 #[.int .u16 s, .int .u16 f, .int .u16 t] w fun e w' => e = .returned (.int .u16 (chg s f t)) ∧ w = w' := by
  have hr := cf_range (65535 - s + (65535 - f) + t) (by omega)
  rw [show 65535 - s + (65535 - f) + t = 65535 - s + 65535 - f + t by omega] at hr
  obtain ⟨r0, r1⟩ := hr
  go_enter Try.func46, Try.ntmps46
  go_wp2_with fail
  refine (rfold_any _ _ (by omega) (by omega)).mono ?_
  rintro e w1 ⟨rfl, rfl⟩
  go_wp2
  go_ret
  exact ⟨ret_u16 (by unfold chg; rw [show 65535 - s + (65535 - f) + t = 65535 - s + 65535 - f + t by omega]), rfl⟩
/-- the same, at any spelling of the length; the words' block, and each word in it -/
theorem rwords_at (b : List Int) (A : Option Addr) (n c : Nat) (w : World) (hr : Kd.C (Kd.int .u8) w A n b) (hb : bytes b) (hn : b.length ≤ 1048576) (hp : 0 < b.length) :
    Calls Try.prog 60 #[.slice A n c] w fun e w' => ∃ g cap : Nat, e = .returned (.slice (some ⟨g, 0, none⟩) (nwords b) cap) ∧ (∀ j : Int, 0 ≤ j → j < (nwords b : Int) → w'.cell? ⟨g, j.toNat, none⟩ = some (.int .u64 (wordAt b j.toNat))) ∧ g < w'.heap.size ∧ Below w.heap.size w w' := by
  obtain rfl := hr.1
  refine (rwords_any b A c w hr hb hn).mono ?_
  rintro e w' ⟨v, rfl, ho, hbl⟩
  have hnw : 0 < nwords b := by unfold nwords; omega
  obtain ⟨g, cap, rfl, _, hg, _⟩ := Kd.R_form ho (by rw [wordsN_length]; exact hnw)
  rw [wordsN_length] at ho
  refine ⟨g, cap, by rw [wordsN_length], fun j j0 j1 => ?_, hg, hbl⟩
  have h := (Kd.R_celln (0 : Int) ho j j0 j1).1
  rw [h]
  have e : rdOf (0 : Int) (wordsN b (nwords b)) j = wordAt b j.toNat := by
    unfold rdOf wordsN
    rw [List.getD_eq_getElem?_getD, List.getElem?_map, List.getElem?_range (by omega)]
    rfl
  rw [e]
end Go.Proofs.Ytknpaihlnkcpgaa.Own
/- octroiref05.bit, Right, stands, Put. (written by wip/gen_ref5.py) -/
set_option linter.unusedVariables false
set_option linter.unusedSimpArgs false
namespace Go.Proofs.Ytknpaihlnkcpgaa.Own
open Go.RowKit Go.Proofs.YtknpaihlnkcpgaaW.PrintWords Go.Proofs.YtknpaihlnkcpgaaW.PrintLast Go.Proofs.YtknpaihlnkcpgaaW.PrintMore
attribute [local go_sem ↓] ld11 sv_rh
attribute [local go_sem] run_sv_rh gv_some isV_some pick2_true stc nfz_false oc1_int oc1_bool oc1_string oc1_slice oc1_pointer oc1_func pick1_true setCells_new setCells_past setCells_drew

/-- the reference's header: its cells -/
abbrev rcs (h : Hd) (S D O : ByteArray) : Array Value := #[.int .u8 h.tos, .int .u16 h.total, .int .u16 h.id, .bool h.df, .bool h.mf, .int .u16 h.frag, .int .u8 h.ttl, .int .u8 h.proto, .string S, .string D, .string O]
theorem rh_cells {w : World} {g t : Nat} {h : Hd} {S D O : ByteArray} (hb : w.heap[g]? = some (.cells (rcs h S D O) t (0, 0))) :
    w.cell? ⟨g, 0, none⟩ = some (.int .u8 h.tos) ∧ w.cell? ⟨g, 1, none⟩ = some (.int .u16 h.total) ∧ w.cell? ⟨g, 2, none⟩ = some (.int .u16 h.id) ∧ w.cell? ⟨g, 3, none⟩ = some (.bool h.df) ∧ w.cell? ⟨g, 4, none⟩ = some (.bool h.mf) ∧ w.cell? ⟨g, 5, none⟩ = some (.int .u16 h.frag) ∧ w.cell? ⟨g, 6, none⟩ = some (.int .u8 h.ttl) ∧ w.cell? ⟨g, 7, none⟩ = some (.int .u8 h.proto) ∧ w.cell? ⟨g, 8, none⟩ = some (.string S) ∧ w.cell? ⟨g, 9, none⟩ = some (.string D) ∧ w.cell? ⟨g, 10, none⟩ = some (.string O) := by refine ⟨?_, ?_, ?_, ?_, ?_, ?_, ?_, ?_, ?_, ?_, ?_⟩ <;> (rw [blk_cell hb]; rfl)
theorem rof_at (b : List Int) (A : Option Addr) (n c : Nat) (w : World) (hr : Kd.C (Kd.int .u8) w A n b) (hb : bytes b) (hn : b.length ≤ 1048576) :
    Calls Try.prog 29 #[.slice A n c] w fun e w' => e = .returned (.int .u16 (ck b)) ∧ Below w.heap.size w w' := by
  obtain rfl := hr.1
  exact rof_any b A c w hr hb hn
theorem rbit_any (b : Bool) (f : Int) (w : World) :
    Calls Try.prog 48 #[.bool b, .int .u64 f] w fun e w' => e = .returned (.int .u64 (fl b f)) ∧ w = w' := by
  cases b
  · go_enter Try.func48, Try.ntmps48
    go_wp2
    go_ret
    exact ⟨rfl, rfl⟩
  · go_enter Try.func48, Try.ntmps48
    go_wp2
    go_ret
    exact ⟨rfl, rfl⟩
set_option maxRecDepth 100000 in
theorem rright_any (h : Hd) (S D O : ByteArray) (w : World) (ht : inB h.total 65535) (hO : O.size ≤ 1000000) :
    Calls Try.prog 16 #[.agg (rcs h S D O)] w fun e w' => e = .returned (.bool (rightB h O.size)) ∧ Below w.heap.size w w' := by
  obtain ⟨c0, c1, c2, c3, c4, c5, c6, c7, c8, c9, c10⟩ := rh_cells (heap_alloc_new w (.cells (rcs h S D O) 41))
  obtain ⟨t0, t1⟩ := ht
  have HR : Aside0 (rightB h O.size = decide (h.frag ≤ 8191 ∧ O.size % 4 = 0 ∧ O.size ≤ 40 ∧ (20 : Int) + O.size ≤ h.total)) := ⟨rfl⟩
  by_cases h1 : h.frag < 8192
  · by_cases h2 : (O.size : Int) % 4 = 0
    · by_cases h3 : O.size ≤ 40
      · by_cases h4 : (20 : Int) + O.size ≤ h.total
        · go_enter Try.func16, Try.ntmps16
          go_wp2
          go_ret
          exact ⟨ret_bool (by rw [HR.out]; simp; omega), below_alloc1 w _⟩
        · go_enter Try.func16, Try.ntmps16
          go_wp2
          go_ret
          exact ⟨ret_bool (by rw [HR.out]; simp; omega), below_alloc1 w _⟩
      · go_enter Try.func16, Try.ntmps16
        go_wp2
        go_ret
        exact ⟨ret_bool (by rw [HR.out]; simp; omega), below_alloc1 w _⟩
    · go_enter Try.func16, Try.ntmps16
      go_wp2
      go_ret
      exact ⟨ret_bool (by rw [HR.out]; simp; omega), below_alloc1 w _⟩
  · go_enter Try.func16, Try.ntmps16
    go_wp2
    go_ret
    exact ⟨ret_bool (by rw [HR.out]; simp; omega), below_alloc1 w _⟩

/-- where stands is: the header's box lies as it did, the row L is its own -/
def RSt (w W : World) (h : Hd) (S D O : ByteArray) (A : Option Addr) (n c : Nat) (L : List Int) : Prop :=
  Below (w.heap.size + 1) (w.alloc (.cells (rcs h S D O) 41)) W ∧ Kd.R (Kd.int .u8) 5 W (w.heap.size + 1) (fun _ => True) (.slice A n c) L
section
variable {w W W1 : World} {h : Hd} {S D O : ByteArray} {A B : Option Addr} {n c m d : Nat} {L ys : List Int}
theorem RSt.blk (hs : RSt w W h S D O A n c L) : W.heap[w.heap.size]? = some (.cells (rcs h S D O) 41 (0, 0)) :=
  (hs.1.block w.heap.size (by omega)).trans (heap_alloc_new w _)
theorem RSt.size (hs : RSt w W h S D O A n c L) : w.heap.size + 1 ≤ W.heap.size := by have := hs.1.size; simpa using this
theorem RSt.below (hs : RSt w W h S D O A n c L) (hb : Below W.heap.size W W1) : RSt w W1 h S D O A n c L := ⟨below_then hs.1 hs.size hb, Kd.R_below hs.2 hb⟩
theorem RSt.drew (hs : RSt w W h S D O A n c L) : RSt w W.drew h S D O A n c L := hs.below (below_drew (Below.refl _ _))
theorem RSt.all (hs : RSt w W h S D O A n c L) : Below w.heap.size w W := (below_alloc1 w _).trans (hs.1.mono (by omega))
theorem RSt.join (hs : RSt w W h S D O A n c L) (hC : Kd.C (Kd.int .u8) W B m ys) (hl : n + m ≤ 1000000) :
    Calls Try.prog 18 #[.slice A n c, .slice B m d] W fun e w' => ∃ A n c, e = .returned (.slice A n c) ∧ RSt w w' h S D O A n c (L ++ ys) := by
  refine (join_any L ys A B n c m d W (C_of_R hs.2).1 hC (by omega)).mono ?_
  rintro e w' ⟨A', n', c', rfl, hR, hb⟩
  exact ⟨_, _, _, rfl, (hs.below hb).1, Kd.R_lower hR hs.size⟩
theorem RSt.len (hs : RSt w W h S D O A n c L) : n = L.length := (C_of_R hs.2).1.1.symm
end
/-- the bytes of a header that is told by its numbers, and by what stands behind -/
def rst (h : Hd) (n : Nat) (R : List Int) (sum : Int) : List Int :=
  [(64 : Int) + (20 + (n : Int)) / 4, h.tos] ++ be 2 h.total ++ be 2 h.id ++ be 2 (fl h.df 16384 + fl h.mf 8192 + h.frag) ++ [h.ttl, h.proto] ++ be 2 sum ++ R
theorem wrap_fl (a b : Bool) (x : Int) (h0 : 0 ≤ x) (h1 : x ≤ 65535) : IntKind.u64.wrap (IntKind.u64.wrap (fl a 16384 + fl b 8192) + IntKind.u64.wrap x) = fl a 16384 + fl b 8192 + x := by
  have r1 : 0 ≤ fl a 16384 + fl b 8192 := by cases a <;> cases b <;> decide
  have r2 : fl a 16384 + fl b 8192 ≤ 24576 := by cases a <;> cases b <;> decide
  rw [wraps_u64 x h0 (by omega), wraps_u64 _ r1 (by omega), wraps_u64 _ (by omega) (by omega)]
theorem len_le {w : World} {A : Option Addr} {m k : Nat} {v : List Int} (h : Kd.C (Kd.int .u8) w A m v) (hk : v.length = k) (h100 : k ≤ 100 := by decide) : m ≤ 100 := by have := h.1; omega
theorem le_sum {a b : Nat} (ha : a ≤ 100) (hb : b ≤ 100) : a + b ≤ 1000000 := by omega
theorem fl_range (a b : Bool) (x : Int) (h0 : 0 ≤ x) (h1 : x ≤ 65535) : 0 ≤ fl a 16384 + fl b 8192 + x ∧ fl a 16384 + fl b 8192 + x ≤ 90111 := by cases a <;> cases b <;> simp [fl] <;> omega

set_option maxRecDepth 100000 in
set_option maxHeartbeats 4000000 in
theorem rstands_any (h : Hd) (S D O : ByteArray) (sum : Int) (w : World) (hok : h.ok) (hs0 : inB sum 65535) (hS : S.size ≤ 1000) (hD : D.size ≤ 1000) (hO : O.size ≤ 40) :
    Calls Try.prog 28 #[.agg (rcs h S D O), .int .u16 sum] w fun e w' => ∃ A n c, e = .returned (.slice A n c) ∧ Kd.R (Kd.int .u8) 5 w' w.heap.size (fun _ => True) (.slice A n c) (rst h O.size (inS (S ++ D ++ O)) sum) ∧ Below w.heap.size w w' := by
  obtain ⟨c0, c1, c2, c3, c4, c5, c6, c7, c8, c9, c10⟩ := rh_cells (heap_alloc_new w (.cells (rcs h S D O) 41))
  have HB0 := Aside0.mk (below_alloc1 w (.cells (rcs h S D O) 41))
  obtain ⟨⟨b0, b1⟩, ⟨b2, b3⟩, ⟨b4, b5⟩, ⟨b6, b7⟩, ⟨b8, b9⟩, ⟨b10, b11⟩, _⟩ := hok
  obtain ⟨s0, s1⟩ := hs0
  have hp1 := fun W => rput_at 1 1 rfl (64 + (20 + (O.size : Int)) / 4) W (by omega) (by omega) (by decide)
  have e1 : be 1 (64 + (20 + (O.size : Int)) / 4) = [64 + (20 + (O.size : Int)) / 4] := be1_of ⟨by omega, by omega⟩
  rw [e1] at hp1
  clear e1
  go_enter Try.func28, Try.ntmps28
  go_upto_region 2 with (go_at_call 45; go_must (with_reducible refine (hp1 _).mono ?_); rintro e w1 ⟨A1, n1, d1, rfl, hR1, hb1⟩)
  have h1 : RSt w w1 h S D O A1 n1 d1 [64 + (20 + (O.size : Int)) / 4] := ⟨by have := hb1; simpa using this, by have := hR1; simpa using this⟩
  clear hR1 hb1 hp1 c0 c1 c2 c3 c4 c5 c6 c7 c8 c9 c10
  obtain ⟨c0, c1, c2, c3, c4, c5, c6, c7, c8, c9, c10⟩ := rh_cells h1.blk
  have hy := C_new_bytes w1 [h.tos] (by simp)
  have HS := Aside0.mk h1
  clear h1
  go_upto_region 3 with (at_builtin; refine app_bytes (w.heap.size + 1) rfl (.tmp 14) (.tmp 17) rfl _ _ [h.tos] _ 1 1 rfl rfl (Kd.R_alloc HS.out.2 _) hy (HS.out.1.alloc HS.out.size _) (by have := HS.out.size; simp; omega) (by simp) ?_; intro A2 n2 d2 w2 hR2 hb2)
  have h2 : RSt w w2 h S D O A2 n2 d2 ([64 + (20 + (O.size : Int)) / 4] ++ [h.tos]) := ⟨hb2, hR2⟩
  clear hR2 hb2 hy HS c0 c1 c2 c3 c4 c5 c6 c7 c8 c9 c10
  obtain ⟨c0, c1, c2, c3, c4, c5, c6, c7, c8, c9, c10⟩ := rh_cells h2.blk
  have hp := fun W => rput_at 2 2 rfl (h.total) W (by omega) (by omega) (by decide)
  have HS := Aside0.mk h2
  have HL := Aside0.mk (be_length 2 (h.total))
  have hn2 : n2 ≤ 100 := by have := h2.len; simp [be_length] at this; omega
  clear h2
  go_upto_region 4 with (first | (go_at_call 45; go_must (with_reducible refine (hp _).mono ?_); rintro e w0 ⟨B, m, d, rfl, hR, hb⟩; have hC := (C_of_R hR).1; have hm : m ≤ 100 := len_le hC HL.out) | (go_at_call 18; go_must (with_reducible refine ((HS.out.below hb).join hC (le_sum hn2 hm)).mono ?_); rintro e w3 ⟨A3, n3, d3, rfl, h3⟩))
  clear HS hp hR hb hC hm hn2 HL c0 c1 c2 c3 c4 c5 c6 c7 c8 c9 c10
  obtain ⟨c0, c1, c2, c3, c4, c5, c6, c7, c8, c9, c10⟩ := rh_cells h3.blk
  have hp := fun W => rput_at 2 2 rfl (h.id) W (by omega) (by omega) (by decide)
  have HS := Aside0.mk h3
  have HL := Aside0.mk (be_length 2 (h.id))
  have hn3 : n3 ≤ 100 := by have := h3.len; simp [be_length] at this; omega
  clear h3
  go_upto_region 5 with (first | (go_at_call 45; go_must (with_reducible refine (hp _).mono ?_); rintro e w0 ⟨B, m, d, rfl, hR, hb⟩; have hC := (C_of_R hR).1; have hm : m ≤ 100 := len_le hC HL.out) | (go_at_call 18; go_must (with_reducible refine ((HS.out.below hb).join hC (le_sum hn3 hm)).mono ?_); rintro e w4 ⟨A4, n4, d4, rfl, h4⟩))
  clear HS hp hR hb hC hm hn3 HL c0 c1 c2 c3 c4 c5 c6 c7 c8 c9 c10
  have HS := Aside0.mk h4
  have hn4 : n4 ≤ 100 := by have := h4.len; simp [be_length] at this; omega
  clear h4
  go_cut [5] (fun v wx => ∃ A n d, v = .slice A n d ∧ Aside0 (RSt w wx h S D O A n d ([64 + (20 + (O.size : Int)) / 4] ++ [h.tos] ++ be 2 h.total ++ be 2 h.id ++ be 2 (fl h.df 16384 + fl h.mf 8192 + h.frag))))
  case first =>
    obtain ⟨c0, c1, c2, c3, c4, c5, c6, c7, c8, c9, c10⟩ := rh_cells HS.out.blk
    obtain ⟨f0, f1⟩ := fl_range h.df h.mf h.frag b6 b7
    have hp := fun W => rput_at 2 2 rfl (fl h.df 16384 + fl h.mf 8192 + h.frag) W f0 (by omega) (by decide)
    have HL := Aside0.mk (be_length 2 (fl h.df 16384 + fl h.mf 8192 + h.frag))
    have hw1 : IntKind.u64.wrap (fl h.df 16384 + fl h.mf 8192) = fl h.df 16384 + fl h.mf 8192 := wraps_u64 _ (by cases h.df <;> cases h.mf <;> decide) (by cases h.df <;> cases h.mf <;> decide)
    have hw2 : IntKind.u64.wrap h.frag = h.frag := wraps_u64 _ b6 (by omega)
    have hw3 : IntKind.u64.wrap (fl h.df 16384 + fl h.mf 8192 + h.frag) = fl h.df 16384 + fl h.mf 8192 + h.frag := wraps_u64 _ f0 (by omega)
    go_region_held3 (fun w' => w'.cell? ⟨w.heap.size, 3, none⟩ = some (.bool h.df) ∧ w'.cell? ⟨w.heap.size, 4, none⟩ = some (.bool h.mf) ∧ w'.cell? ⟨w.heap.size, 5, none⟩ = some (.int .u16 h.frag)) (first | exact ⟨c3, c4, c5⟩ | exact ⟨pw_cell_below hb c3, pw_cell_below hb c4, pw_cell_below hb c5⟩ | exact ⟨(rh_cells h5.blk).2.2.2.1, (rh_cells h5.blk).2.2.2.2.1, (rh_cells h5.blk).2.2.2.2.2.1⟩) (first | (go_at_call 48; go_must (with_reducible refine (rbit_any _ _ _).mono ?_); rintro e w0 ⟨rfl, rfl⟩) | (go_at_call 45; go_must (with_reducible refine (hp _).mono ?_); rintro e w0 ⟨B, m, d, rfl, hR, hb⟩; have hC := (C_of_R hR).1; have hm : m ≤ 100 := len_le hC HL.out) | (go_at_call 18; go_must (with_reducible refine ((HS.out.drew.below hb).join hC (le_sum hn4 hm)).mono ?_); rintro e w5 ⟨A5, n5, d5, rfl, h5⟩))
    all_goals (
      go_wp2
      go_meet
      exact ⟨_, _, _, rfl, ⟨h5⟩⟩)
  case rest =>
    clear HS hn4
    obtain ⟨A5, n5, d5, rfl, HS⟩ := hcut
    obtain ⟨c0, c1, c2, c3, c4, c5, c6, c7, c8, c9, c10⟩ := rh_cells HS.out.blk
    have hn5 : n5 ≤ 100 := by have := HS.out.len; simp [be_length] at this; omega
    have hy := C_new_bytes wc [h.ttl, h.proto] (by simp)
    go_upto_region 7 with (at_builtin; refine app_bytes (w.heap.size + 1) rfl (.tmp 45) (.tmp 50) rfl _ _ [h.ttl, h.proto] _ 2 2 rfl rfl (Kd.R_alloc HS.out.2 _) hy (HS.out.1.alloc HS.out.size _) (by have := HS.out.size; simp; omega) (by simp [be_length]) ?_; intro A6 n6 d6 w6 hR6 hb6)
    have h6 : RSt w w6 h S D O A6 n6 d6 ([64 + (20 + (O.size : Int)) / 4] ++ [h.tos] ++ be 2 h.total ++ be 2 h.id ++ be 2 (fl h.df 16384 + fl h.mf 8192 + h.frag) ++ [h.ttl, h.proto]) := ⟨hb6, hR6⟩
    have hn6 : n6 ≤ 100 := by have := h6.len; simp [be_length] at this; omega
    clear hR6 hb6 hy HS c0 c1 c2 c3 c4 c5 c6 c7 c8 c9 c10 hn5
    have hp := fun W => rput_at 2 2 rfl sum W s0 (by omega) (by decide)
    have HS := Aside0.mk h6
    have HL := Aside0.mk (be_length 2 sum)
    clear h6
    go_upto_region 8 with (first | (go_at_call 45; go_must (with_reducible refine (hp _).mono ?_); rintro e w0 ⟨B, m, d, rfl, hR, hb⟩; have hC := (C_of_R hR).1; have hm : m ≤ 100 := len_le hC HL.out) | (go_at_call 18; go_must (with_reducible refine ((HS.out.below hb).join hC (le_sum hn6 hm)).mono ?_); rintro e w7 ⟨A7, n7, d7, rfl, h7⟩))
    have hn7 : n7 ≤ 100 := by have := h7.len; simp [be_length] at this; omega
    clear HS hp hR hb hC hm hn6 HL
    obtain ⟨c0, c1, c2, c3, c4, c5, c6, c7, c8, c9, c10⟩ := rh_cells h7.blk
    have HS := Aside0.mk h7
    clear h7
    have kb := fun W => print_bytes (P := Try.prog) 9 22 5 Try.underlying9 Try.underlying22 Try.underlying5 (S ++ D ++ O) W
    have hsz : (S ++ D ++ O).size = S.size + D.size + O.size := by simp [ByteArray.size_append]
    have HBB := Aside0.mk (bytes_below (Below.refl w7.heap.size w7) (Nat.le_refl _) 5 (S ++ D ++ O))
    have HCB : Aside0 (Kd.C (Kd.int .u8) (Lib.bytesWorld w7 5 (S ++ D ++ O)) (some ⟨w7.heap.size, 0, none⟩) (S ++ D ++ O).size (inS (S ++ D ++ O))) := ⟨Kd.C_of_reads (enc := Value.int .u8) (d := (0 : Int)) (h1 := fun _ => rfl) (bytes_reads w7 5 (S ++ D ++ O) (by omega))⟩
    have hln : n7 + (S ++ D ++ O).size ≤ 1000000 := by omega
    rw [hsz] at HCB hln
    clear hsz
    go_wp2_with (go_at_call 18; go_must (with_reducible refine ((HS.out.below HBB.out).join HCB.out hln).mono ?_); rintro e w8 ⟨A8, n8, d8, rfl, h8⟩)
    go_ret
    exact ⟨_, _, _, rfl, Kd.R_lower h8.2 (by omega), h8.all⟩

set_option maxRecDepth 100000 in
set_option maxHeartbeats 4000000 in
theorem rput5_wrong (h : Hd) (S D O : ByteArray) (w : World) (hok : h.ok) (hO : O.size ≤ 1000) (hr : rightB h O.size = false) :
    Calls Try.prog 12 #[.agg (rcs h S D O)] w fun e w' => e = .returned (.tuple #[.slice none 0 0, .int .i64 51]) ∧ Below w.heap.size w w' := by
  obtain ⟨c0, c1, c2, c3, c4, c5, c6, c7, c8, c9, c10⟩ := rh_cells (heap_alloc_new w (.cells (rcs h S D O) 41))
  have hq := rright_any h S D O (w.alloc (.cells (rcs h S D O) 41)) hok.2.1 (by omega)
  rw [hr] at hq
  clear hr hok
  go_enter Try.func12, Try.ntmps12
  go_wp2_with (go_at_call 16; go_must (with_reducible refine hq.mono ?_); rintro e w1 ⟨rfl, hb1⟩)
  refine bodyPost_ret (results_tmp2 rfl _ _ _) rfl ?_
  exact ⟨rfl, below_tr (below_alloc1 w _) hb1⟩
theorem bytes_rst {h : Hd} {n : Nat} {R : List Int} {s : Int} (hok : h.ok) (hn : n ≤ 40) (hR : bytes R) : bytes (rst h n R s) := by
  obtain ⟨a1, a2, a3, a4, a5, a6, _⟩ := hok
  unfold rst
  simp only [bytes_append]
  exact ⟨⟨⟨⟨⟨⟨bytes_two' ⟨by omega, by omega⟩ a1, bytes_be _ _⟩, bytes_be _ _⟩, bytes_be _ _⟩, bytes_two' a5 a6⟩, bytes_be _ _⟩, hR⟩
set_option maxRecDepth 100000 in
set_option maxHeartbeats 4000000 in
theorem rput5_right (h : Hd) (S D O : ByteArray) (w : World) (hok : h.ok) (hS : S.size ≤ 1000) (hD : D.size ≤ 1000) (hr : rightB h O.size = true) :
    Calls Try.prog 12 #[.agg (rcs h S D O)] w fun e w' => ∃ A n c, e = .returned (.tuple #[.slice A n c, .int .i64 0]) ∧ Kd.R (Kd.int .u8) 5 w' w.heap.size (fun _ => True) (.slice A n c) (rst h O.size (inS (S ++ D ++ O)) (ck (rst h O.size (inS (S ++ D ++ O)) 0))) ∧ Below w.heap.size w w' := by
  have hR : h.frag ≤ 8191 ∧ O.size % 4 = 0 ∧ O.size ≤ 40 ∧ (20 : Int) + O.size ≤ h.total := of_decide_eq_true hr
  have hO := hR.2.2.1
  obtain ⟨c0, c1, c2, c3, c4, c5, c6, c7, c8, c9, c10⟩ := rh_cells (heap_alloc_new w (.cells (rcs h S D O) 41))
  have hq := rright_any h S D O (w.alloc (.cells (rcs h S D O) 41)) hok.2.1 (by omega)
  rw [hr] at hq
  have hby : bytes (rst h O.size (inS (S ++ D ++ O)) 0) := bytes_rst hok hO (inS_bytes _)
  have hck := ck_range _ hby
  have hsz : (S ++ D ++ O).size = S.size + D.size + O.size := by simp [ByteArray.size_append]
  have hll : (rst h O.size (inS (S ++ D ++ O)) 0).length ≤ 1048576 := by simp [rst, be_length, inS_length]; omega
  have hst := fun (s : Int) (hs : inB s 65535) W => rstands_any h S D O s W hok hs hS hD hO
  obtain ⟨L, eL⟩ : ∃ L, rst h O.size (inS (S ++ D ++ O)) 0 = L := ⟨_, rfl⟩
  have hst0 := hst 0 ⟨by decide, by decide⟩
  rw [eL] at hst0 hby hck hll ⊢
  obtain ⟨v, ev⟩ : ∃ v, ck L = v := ⟨_, rfl⟩
  have hof := fun W A n c (hC : Kd.C (Kd.int .u8) W A n L) => rof_at L A n c W hC hby hll
  rw [ev] at hck hof ⊢
  have hstv := hst v ⟨hck.1, by omega⟩
  have HB1 : ∀ {W W1 : World}, Below W.heap.size W W1 → ∀ i u, W.cell? ⟨w.heap.size, i, none⟩ = some u → W1.cell? ⟨w.heap.size, i, none⟩ = some u := fun hb i u hc => pw_cell_below hb hc
  have HKEEP : ∀ {W W1 : World}, Below W.heap.size W W1 → (W.cell? ⟨w.heap.size, 0, none⟩ = some (.int .u8 h.tos) ∧ W.cell? ⟨w.heap.size, 1, none⟩ = some (.int .u16 h.total) ∧ W.cell? ⟨w.heap.size, 2, none⟩ = some (.int .u16 h.id) ∧ W.cell? ⟨w.heap.size, 3, none⟩ = some (.bool h.df) ∧ W.cell? ⟨w.heap.size, 4, none⟩ = some (.bool h.mf) ∧ W.cell? ⟨w.heap.size, 5, none⟩ = some (.int .u16 h.frag) ∧ W.cell? ⟨w.heap.size, 6, none⟩ = some (.int .u8 h.ttl) ∧ W.cell? ⟨w.heap.size, 7, none⟩ = some (.int .u8 h.proto) ∧ W.cell? ⟨w.heap.size, 8, none⟩ = some (.string S) ∧ W.cell? ⟨w.heap.size, 9, none⟩ = some (.string D) ∧ W.cell? ⟨w.heap.size, 10, none⟩ = some (.string O)) → (W1.cell? ⟨w.heap.size, 0, none⟩ = some (.int .u8 h.tos) ∧ W1.cell? ⟨w.heap.size, 1, none⟩ = some (.int .u16 h.total) ∧ W1.cell? ⟨w.heap.size, 2, none⟩ = some (.int .u16 h.id) ∧ W1.cell? ⟨w.heap.size, 3, none⟩ = some (.bool h.df) ∧ W1.cell? ⟨w.heap.size, 4, none⟩ = some (.bool h.mf) ∧ W1.cell? ⟨w.heap.size, 5, none⟩ = some (.int .u16 h.frag) ∧ W1.cell? ⟨w.heap.size, 6, none⟩ = some (.int .u8 h.ttl) ∧ W1.cell? ⟨w.heap.size, 7, none⟩ = some (.int .u8 h.proto) ∧ W1.cell? ⟨w.heap.size, 8, none⟩ = some (.string S) ∧ W1.cell? ⟨w.heap.size, 9, none⟩ = some (.string D) ∧ W1.cell? ⟨w.heap.size, 10, none⟩ = some (.string O)) := fun hb hc => ⟨pw_cell_below hb hc.1, pw_cell_below hb hc.2.1, pw_cell_below hb hc.2.2.1, pw_cell_below hb hc.2.2.2.1, pw_cell_below hb hc.2.2.2.2.1, pw_cell_below hb hc.2.2.2.2.2.1, pw_cell_below hb hc.2.2.2.2.2.2.1, pw_cell_below hb hc.2.2.2.2.2.2.2.1, pw_cell_below hb hc.2.2.2.2.2.2.2.2.1, pw_cell_below hb hc.2.2.2.2.2.2.2.2.2.1, pw_cell_below hb hc.2.2.2.2.2.2.2.2.2.2⟩
  have HKP := Aside0.mk @HKEEP
  clear HB1 HKEEP hst hr hR hok hsz eL ev hby hll hck
  go_enter Try.func12, Try.ntmps12
  go_upto_region 3 with (go_at_call 16; go_must (with_reducible refine hq.mono ?_); rintro e w1 ⟨rfl, hb1⟩)
  have hk1 := HKP.out hb1 ⟨c0, c1, c2, c3, c4, c5, c6, c7, c8, c9, c10⟩
  have HB := Aside0.mk (below_tr (below_alloc1 w _) hb1)
  clear hb1 hq c0 c1 c2 c3 c4 c5 c6 c7 c8 c9 c10
  go_region_held3 (fun w' => w'.cell? ⟨w.heap.size, 0, none⟩ = some (.int .u8 h.tos) ∧ w'.cell? ⟨w.heap.size, 1, none⟩ = some (.int .u16 h.total) ∧ w'.cell? ⟨w.heap.size, 2, none⟩ = some (.int .u16 h.id) ∧ w'.cell? ⟨w.heap.size, 3, none⟩ = some (.bool h.df) ∧ w'.cell? ⟨w.heap.size, 4, none⟩ = some (.bool h.mf) ∧ w'.cell? ⟨w.heap.size, 5, none⟩ = some (.int .u16 h.frag) ∧ w'.cell? ⟨w.heap.size, 6, none⟩ = some (.int .u8 h.ttl) ∧ w'.cell? ⟨w.heap.size, 7, none⟩ = some (.int .u8 h.proto) ∧ w'.cell? ⟨w.heap.size, 8, none⟩ = some (.string S) ∧ w'.cell? ⟨w.heap.size, 9, none⟩ = some (.string D) ∧ w'.cell? ⟨w.heap.size, 10, none⟩ = some (.string O)) (first | exact hk1 | exact HKP.out hb2 hk1 | exact HKP.out hb3 (HKP.out hb2 hk1) | exact HKP.out hb4 (HKP.out hb3 (HKP.out hb2 hk1))) (first | (go_at_call 29; go_must (with_reducible refine (hof _ _ _ _ (C_of_R hR2).1).mono ?_); rintro e w3 ⟨rfl, hb3⟩) | (go_at_call 28; (with_reducible refine (hst0 _).mono ?_); rintro e w2 ⟨A2, n2, c2, rfl, hR2, hb2⟩) | (go_at_call 28; go_must (with_reducible refine (hstv _).mono ?_); rintro e w4 ⟨A4, n4, c4, rfl, hR4, hb4⟩))
  go_wp2
  refine bodyPost_ret (results_tmp2 rfl _ _ _) rfl ?_
  refine ⟨_, _, _, rfl, Kd.R_lower hR4 (by have := HB.out.size; have := hb2.size; have := hb3.size; simp at *; omega), ?_⟩
  exact below_tr (below_tr (below_tr (below_drew HB.out) hb2) hb3) hb4
end Go.Proofs.Ytknpaihlnkcpgaa.Own
/- octroidocs.Ip. (written by wip/gen_doc5.py) -/
set_option linter.unusedVariables false
set_option linter.unusedSimpArgs false
namespace Go.Proofs.Ytknpaihlnkcpgaa.Own
open Go.RowKit Go.Proofs.YtknpaihlnkcpgaaW.PrintWords Go.Proofs.YtknpaihlnkcpgaaW.PrintLast Go.Proofs.YtknpaihlnkcpgaaW.PrintMore
attribute [local go_sem ↓] ld11 sv_rh
attribute [local go_sem] run_sv_rh gv_some isV_some pick2_true stc nfz_false oc1_int oc1_bool oc1_string oc1_slice oc1_pointer oc1_func pick1_true setCells_new setCells_past setCells_drew

/-- a header as the reference has it -/
abbrev docOf (h : Hd) (o : List Int) : Array Value := rcs h (strOfNums [h.s0, h.s1, h.s2, h.s3]) (strOfNums [h.d0, h.d1, h.d2, h.d3]) (strOfNums o)
set_option maxRecDepth 100000 in
set_option maxHeartbeats 4000000 in
theorem doc_any (h : Hd) (A : Option Addr) (n c : Nat) (o : List Int) (w : World) (hC : Kd.C (Kd.int .u8) w A n o) :
    Calls Try.prog 11 #[.agg (hcs h A n c)] w fun e w' => e = .returned (.agg (docOf h o)) ∧ Below w.heap.size w w' := by
  have hb := heap_alloc_new w (.cells (hcs h A n c) 39)
  have hS : ∀ o' : Obj, ((w.alloc (.cells (hcs h A n c) 39)).alloc o').drew.cell? ⟨w.heap.size, 0, none⟩ = some (.int .u8 h.tos) ∧ ((w.alloc (.cells (hcs h A n c) 39)).alloc o').drew.cell? ⟨w.heap.size, 1, none⟩ = some (.int .u16 h.total) ∧ ((w.alloc (.cells (hcs h A n c) 39)).alloc o').drew.cell? ⟨w.heap.size, 2, none⟩ = some (.int .u16 h.id) ∧ ((w.alloc (.cells (hcs h A n c) 39)).alloc o').drew.cell? ⟨w.heap.size, 3, none⟩ = some (.bool h.df) ∧ ((w.alloc (.cells (hcs h A n c) 39)).alloc o').drew.cell? ⟨w.heap.size, 4, none⟩ = some (.bool h.mf) ∧ ((w.alloc (.cells (hcs h A n c) 39)).alloc o').drew.cell? ⟨w.heap.size, 5, none⟩ = some (.int .u16 h.frag) ∧ ((w.alloc (.cells (hcs h A n c) 39)).alloc o').drew.cell? ⟨w.heap.size, 6, none⟩ = some (.int .u8 h.ttl) ∧ ((w.alloc (.cells (hcs h A n c) 39)).alloc o').drew.cell? ⟨w.heap.size, 7, none⟩ = some (.int .u8 h.proto) ∧ ((w.alloc (.cells (hcs h A n c) 39)).alloc o').drew.cell? ⟨w.heap.size, 16, none⟩ = some (.slice A n c) ∧ (convert 22 9 (.slice (some ⟨w.heap.size, 8, none⟩) 4 4)).run Try.prog ((w.alloc (.cells (hcs h A n c) 39)).alloc o').drew = .ok (.string (strOfNums [h.s0, h.s1, h.s2, h.s3])) ((w.alloc (.cells (hcs h A n c) 39)).alloc o').drew ∧ (convert 22 9 (.slice (some ⟨w.heap.size, 12, none⟩) 4 4)).run Try.prog ((w.alloc (.cells (hcs h A n c) 39)).alloc o').drew = .ok (.string (strOfNums [h.d0, h.d1, h.d2, h.d3])) ((w.alloc (.cells (hcs h A n c) 39)).alloc o').drew ∧ (convert 22 9 (.slice A n c)).run Try.prog ((w.alloc (.cells (hcs h A n c) 39)).alloc o').drew = .ok (.string (strOfNums o)) ((w.alloc (.cells (hcs h A n c) 39)).alloc o').drew := fun o' => by
    have h1 := fun i u (hc : (w.alloc (.cells (hcs h A n c) 39)).cell? ⟨w.heap.size, i, none⟩ = some u) => pw_cell_below (below_drew (below_alloc1 (w.alloc (.cells (hcs h A n c) 39)) o')) hc
    have hcc := hd_cells hb
    refine ⟨h1 _ _ hcc.1, h1 _ _ hcc.2.1, h1 _ _ hcc.2.2.1, h1 _ _ hcc.2.2.2.1, h1 _ _ hcc.2.2.2.2.1, h1 _ _ hcc.2.2.2.2.2.1, h1 _ _ hcc.2.2.2.2.2.2.1, h1 _ _ hcc.2.2.2.2.2.2.2.1, h1 _ _ hcc.2.2.2.2.2.2.2.2.2.2.2.2.2.2.2.2, ?_, ?_, ?_⟩
    · exact Kd.C_string (c := 4) Try.underlying22 Try.underlying5 Try.underlying9 (Kd.C_drew (Kd.C_alloc (hd_src hb) o'))
    · exact Kd.C_string (c := 4) Try.underlying22 Try.underlying5 Try.underlying9 (Kd.C_drew (Kd.C_alloc (hd_dst hb) o'))
    · exact Kd.C_string (c := c) Try.underlying22 Try.underlying5 Try.underlying9 (Kd.C_drew (Kd.C_alloc (Kd.C_alloc hC (.cells (hcs h A n c) 39)) o'))
  clear hb hC
  obtain ⟨tos, total, id, df, mf, frag, ttl, proto, s0, s1, s2, s3, d0, d1, d2, d3⟩ := h
  dsimp only [hcs] at hS
  have HS := Aside0.mk hS
  clear hS
  go_enter Try.func11, Try.ntmps11
  go_upto_region 1 with fail
  go_region_held3 (fun w' => w'.cell? ⟨w.heap.size, 0, none⟩ = some (.int .u8 tos) ∧ w'.cell? ⟨w.heap.size, 1, none⟩ = some (.int .u16 total) ∧ w'.cell? ⟨w.heap.size, 2, none⟩ = some (.int .u16 id) ∧ w'.cell? ⟨w.heap.size, 3, none⟩ = some (.bool df) ∧ w'.cell? ⟨w.heap.size, 4, none⟩ = some (.bool mf) ∧ w'.cell? ⟨w.heap.size, 5, none⟩ = some (.int .u16 frag) ∧ w'.cell? ⟨w.heap.size, 6, none⟩ = some (.int .u8 ttl) ∧ w'.cell? ⟨w.heap.size, 7, none⟩ = some (.int .u8 proto) ∧ w'.cell? ⟨w.heap.size, 16, none⟩ = some (.slice A n c) ∧ (convert 22 9 (.slice (some ⟨w.heap.size, 8, none⟩) 4 4)).run Try.prog w' = .ok (.string (strOfNums [s0, s1, s2, s3])) w' ∧ (convert 22 9 (.slice (some ⟨w.heap.size, 12, none⟩) 4 4)).run Try.prog w' = .ok (.string (strOfNums [d0, d1, d2, d3])) w' ∧ (convert 22 9 (.slice A n c)).run Try.prog w' = .ok (.string (strOfNums o)) w') (first | exact HS.out _) (fail)
  go_wp2
  refine bodyPost_ret (v := .agg #[.int .u8 tos, .int .u16 total, .int .u16 id, .bool df, .bool mf, .int .u16 frag, .int .u8 ttl, .int .u8 proto, .string (strOfNums [s0, s1, s2, s3]), .string (strOfNums [d0, d1, d2, d3]), .string (strOfNums o)]) (by simp [results, Try.results11, go_sem]) rfl ⟨rfl, ?_⟩
  exact below_drew (below_alloc2 w _ _)
end Go.Proofs.Ytknpaihlnkcpgaa.Own
/- bytes.Equal, ip.Same; '==' of arrays of four bytes, of the reference's headers. (written by wip/gen_same5.py) -/
set_option linter.unusedVariables false
set_option linter.unusedSimpArgs false
namespace Go.Proofs.Ytknpaihlnkcpgaa.Own
open Go.RowKit Go.Proofs.YtknpaihlnkcpgaaW.PrintWords Go.Proofs.YtknpaihlnkcpgaaW.PrintLast Go.Proofs.YtknpaihlnkcpgaaW.PrintMore
attribute [local go_sem ↓] ld17 ld4 sv_hd
attribute [local go_sem] run_sv_hd gv_some isV_some pick2_true stc nfz_false oc1_int oc1_bool oc1_string oc1_slice oc1_pointer oc1_func pick1_true setCells_new setCells_past setCells_drew

theorem bytesEqual_any (xs ys : List Int) (A B : Option Addr) (n c m d : Nat) (w : World) (hr : Kd.C (Kd.int .u8) w A n xs) (hs : Kd.C (Kd.int .u8) w B m ys) (hx : bytes xs) (hy : bytes ys) :
    Calls Try.prog 38 #[.slice A n c, .slice B m d] w fun e w' => e = .returned (.bool (decide (xs = ys))) ∧ w = w' := by
  have h1 := Kd.C_string (c := c) Try.underlying22 Try.underlying5 Try.underlying9 hr
  have h2 := Kd.C_string (c := d) Try.underlying22 Try.underlying5 Try.underlying9 hs
  go_enter Try.func38, Try.ntmps38
  go_wp2
  go_ret
  refine ⟨ret_bool ?_, rfl⟩
  rw [Lib.strOfNums_toList, Lib.strOfNums_toList, Bool.eq_iff_iff, beq_iff_eq, decide_eq_true_iff]
  exact ⟨map_u8_inj xs ys hx hy, fun h => by rw [h]⟩

theorem eqItems_nums (P : Program) (w : World) (d e : Nat) (k : IntKind) (he : P.underlying e = some (.int k)) (hcell : P.cellsOf e = 1) (xs ys : List Int) : ∀ (is : List Nat), (∀ i ∈ is, i < xs.length ∧ i < ys.length) →
    (Op.eqItems (d + 1) e (P.cellsOf e) (nums k xs).toArray (nums k ys).toArray is).run P w = .ok (is.all fun i => xs.getD i 0 == ys.getD i 0) w
  | [], _ => rfl
  | i :: is, h => by
    have ih := eqItems_nums P w d e k he hcell xs ys is (fun j hj => h j (List.mem_cons_of_mem _ hj))
    obtain ⟨h1, h2⟩ := h i (List.mem_cons_self ..)
    have hagg : (isAgg e).run P w = .ok false w := by
      unfold isAgg
      rw [Sem.run_bind, run_underlying he w]
      rfl
    have hp : ∀ (zs : List Int) (hz : i < zs.length), (part e (nums k zs).toArray (i * P.cellsOf e)).run P w = .ok (.int k (zs.getD i 0)) w := fun zs hz => by
      unfold part
      simp only [Sem.run_bind, hagg, Result.andThen_ok, hcell, Nat.mul_one, Bool.false_eq_true, if_false]
      simp [nums, hz, List.getD_eq_getElem?_getD, List.getElem?_eq_getElem hz]
    simp only [Op.eqItems, Sem.run_bind, hp xs h1, hp ys h2, Result.andThen_ok, run_equalIn_int (P := P) w d e k k _ _ he, List.all_cons]
    cases hb : (xs.getD i 0 == ys.getD i 0) with
    | false => simp
    | true => simpa using ih
theorem all_range_eq (xs ys : List Int) (n : Nat) (hx : xs.length = n) (hy : ys.length = n) : ((List.range n).all fun i => xs.getD i 0 == ys.getD i 0) = decide (xs = ys) := by
  rw [Bool.eq_iff_iff, List.all_eq_true, decide_eq_true_iff]
  constructor
  · intro h
    apply List.ext_getElem (by omega)
    intro i h1 h2
    have := h i (List.mem_range.2 (by omega))
    rw [beq_iff_eq, List.getD_eq_getElem?_getD, List.getD_eq_getElem?_getD, List.getElem?_eq_getElem h1, List.getElem?_eq_getElem h2] at this
    exact this
  · rintro rfl i _
    simp
/-- '==' of arrays of bytes -/
theorem eqArr (P : Program) (w : World) (d t e n : Nat) (he : P.underlying e = some (.int .u8)) (i0 : TypeInfo) (hi : P.info? e = some i0) (hcell : P.cellsOf e = 1) (ht : P.underlying t = some (.array n e)) (xs ys : List Int) (hx : xs.length = n) (hy : ys.length = n) :
    (Op.equalIn (d + 2) t (.agg (nums .u8 xs).toArray) (.agg (nums .u8 ys).toArray)).run P w = .ok (decide (xs = ys)) w := by
  rw [show d + 2 = (d + 1) + 1 from rfl, run_equalIn_array w (d + 1) _ _ ht hi, eqItems_nums P w d e .u8 he hcell xs ys _ (fun i hi => by have := List.mem_range.1 hi; omega), all_range_eq xs ys n hx hy]
theorem cell_u8 : Try.prog.cellsOf 5 = 1 := by kernel_rfl
/-- '==' of two arrays of four bytes, as the walk meets it -/
theorem eq4 (w : World) (a b c d a' b' c' d' : Int) : (binOp .eql 37 (.agg #[.int .u8 a, .int .u8 b, .int .u8 c, .int .u8 d]) (.agg #[.int .u8 a', .int .u8 b', .int .u8 c', .int .u8 d'])).run Try.prog w = .ok (.bool (decide ([a, b, c, d] = [a', b', c', d']))) w := by
  obtain ⟨i0, hi, _⟩ := Option.map_eq_some_iff.1 info_u8
  rw [run_eql_struct]
  have h := eqArr Try.prog w 9998 37 5 4 Try.underlying5 i0 hi cell_u8 Try.underlying37 [a, b, c, d] [a', b', c', d'] rfl rfl
  simp only [nums, List.map_cons, List.map_nil] at h
  rw [h]
  rfl
/-- are two headers, with their options, the same? -/
def sameB (h k : Hd) (o p : List Int) : Bool :=
  decide (h.tos = k.tos ∧ h.total = k.total ∧ h.id = k.id ∧ h.df = k.df ∧ h.mf = k.mf ∧ h.frag = k.frag ∧ h.ttl = k.ttl ∧ h.proto = k.proto ∧ [h.s0, h.s1, h.s2, h.s3] = [k.s0, k.s1, k.s2, k.s3] ∧ [h.d0, h.d1, h.d2, h.d3] = [k.d0, k.d1, k.d2, k.d3] ∧ o = p)
theorem eq4in (w : World) (a b c d a' b' c' d' : Int) : (Op.equalIn 10000 37 (.agg #[.int .u8 a, .int .u8 b, .int .u8 c, .int .u8 d]) (.agg #[.int .u8 a', .int .u8 b', .int .u8 c', .int .u8 d'])).run Try.prog w = .ok (decide ([a, b, c, d] = [a', b', c', d'])) w := by
  obtain ⟨i0, hi, _⟩ := Option.map_eq_some_iff.1 info_u8
  have h := eqArr Try.prog w 9998 37 5 4 Try.underlying5 i0 hi cell_u8 Try.underlying37 [a, b, c, d] [a', b', c', d'] rfl rfl
  simp only [nums, List.map_cons, List.map_nil] at h
  exact h
attribute [local go_sem] eq4in
set_option maxRecDepth 100000 in
set_option maxHeartbeats 8000000 in
theorem same_hd (h k : Hd) (A B : Option Addr) (n c m d : Nat) (o p : List Int) (w : World) (hC : Kd.C (Kd.int .u8) w A n o) (hD : Kd.C (Kd.int .u8) w B m p) (ho : bytes o) (hp : bytes p) :
    Calls Try.prog 17 #[.agg (hcs h A n c), .agg (hcs k B m d)] w fun e w' => e = .returned (.bool (sameB h k o p)) ∧ Below w.heap.size w w' := by
  have hb0 := heap_alloc_new w (.cells (hcs h A n c) 39)
  have hb1 := heap_alloc_new (w.alloc (.cells (hcs h A n c) 39)) (.cells (hcs k B m d) 39)
  have hb0' := (Below.heap_alloc (w.alloc (.cells (hcs h A n c) 39)) (.cells (hcs k B m d) 39) _ (blk_lt hb0)).trans hb0
  rw [World.size_alloc] at hb1
  obtain ⟨c0, c1, c2, c3, c4, c5, c6, c7, c8, c9, c10, c11, c12, c13, c14, c15, c16⟩ := hd_cells hb0'
  obtain ⟨e0, e1, e2, e3, e4, e5, e6, e7, e8, e9, e10, e11, e12, e13, e14, e15, e16⟩ := hd_cells hb1
  have heq := bytesEqual_any o p A B n c m d _ (Kd.C_alloc (Kd.C_alloc hC (.cells (hcs h A n c) 39)) (.cells (hcs k B m d) 39)) (Kd.C_alloc (Kd.C_alloc hD (.cells (hcs h A n c) 39)) (.cells (hcs k B m d) 39)) ho hp
  have HE := Aside0.mk heq
  have HS := Aside0.mk (show sameB h k o p = decide (h.tos = k.tos ∧ h.total = k.total ∧ h.id = k.id ∧ h.df = k.df ∧ h.mf = k.mf ∧ h.frag = k.frag ∧ h.ttl = k.ttl ∧ h.proto = k.proto ∧ [h.s0, h.s1, h.s2, h.s3] = [k.s0, k.s1, k.s2, k.s3] ∧ [h.d0, h.d1, h.d2, h.d3] = [k.d0, k.d1, k.d2, k.d3] ∧ o = p) from rfl)
  clear hb0 hb1 hb0' hC hD ho hp heq
  go_enter Try.func17, Try.ntmps17
  go_wp2_with (go_at_call 38; (with_reducible refine HE.out.mono ?_); rintro e w' ⟨rfl, rfl⟩)
  all_goals (
    go_ret
    exact ⟨ret_bool (by rw [HS.out]; clear HS HE; simp_all), below_alloc2 w _ _⟩)
end Go.Proofs.Ytknpaihlnkcpgaa.Own
/- '==' of the reference's headers. (written by wip/gen_lawputs.py) -/
set_option linter.unusedVariables false
set_option linter.unusedSimpArgs false
namespace Go.Proofs.Ytknpaihlnkcpgaa.Own
open Go.RowKit Go.Proofs.YtknpaihlnkcpgaaW.PrintWords Go.Proofs.YtknpaihlnkcpgaaW.PrintLast Go.Proofs.YtknpaihlnkcpgaaW.PrintMore

theorem eqRH (d : Nat) (w : World) (x0 y0 : Int) (x1 y1 : Int) (x2 y2 : Int) (x3 y3 : Bool) (x4 y4 : Bool) (x5 y5 : Int) (x6 y6 : Int) (x7 y7 : Int) (x8 y8 : ByteArray) (x9 y9 : ByteArray) (x10 y10 : ByteArray) :
    (Op.equalIn (d + 2) 41 (.agg #[.int .u8 x0, .int .u16 x1, .int .u16 x2, .bool x3, .bool x4, .int .u16 x5, .int .u8 x6, .int .u8 x7, .string x8, .string x9, .string x10]) (.agg #[.int .u8 y0, .int .u16 y1, .int .u16 y2, .bool y3, .bool y4, .int .u16 y5, .int .u8 y6, .int .u8 y7, .string y8, .string y9, .string y10])).run Try.prog w = .ok (x0 == y0 && (x1 == y1 && (x2 == y2 && (x3 == y3 && (x4 == y4 && (x5 == y5 && (x6 == y6 && (x7 == y7 && (x8.toList == y8.toList && (x9.toList == y9.toList && (x10.toList == y10.toList))))))))))) w := by
  refine eqA_of Try.underlying41 (by kernel_rfl) ?_
  refine eqf_cons (by rfl) (by go_simp; rfl) (by go_simp; rfl) (by go_simp) ?_
  refine eqf_cons (by rfl) (by go_simp; rfl) (by go_simp; rfl) (by go_simp) ?_
  refine eqf_cons (by rfl) (by go_simp; rfl) (by go_simp; rfl) (by go_simp) ?_
  refine eqf_cons (by rfl) (by go_simp; rfl) (by go_simp; rfl) (by go_simp) ?_
  refine eqf_cons (by rfl) (by go_simp; rfl) (by go_simp; rfl) (by go_simp) ?_
  refine eqf_cons (by rfl) (by go_simp; rfl) (by go_simp; rfl) (by go_simp) ?_
  refine eqf_cons (by rfl) (by go_simp; rfl) (by go_simp; rfl) (by go_simp) ?_
  refine eqf_cons (by rfl) (by go_simp; rfl) (by go_simp; rfl) (by go_simp) ?_
  refine eqf_cons (by rfl) (by go_simp; rfl) (by go_simp; rfl) (by go_simp) ?_
  refine eqf_cons (by rfl) (by go_simp; rfl) (by go_simp; rfl) (by go_simp) ?_
  exact eqf_last (by rfl) (by go_simp; rfl) (by go_simp; rfl) (by go_simp)
theorem streq {xs ys : List Int} (hx : bytes xs) (hy : bytes ys) : ((strOfNums xs).toList == (strOfNums ys).toList) = decide (xs = ys) := by
  rw [Lib.strOfNums_toList, Lib.strOfNums_toList, Bool.eq_iff_iff, beq_iff_eq, decide_eq_true_iff]
  exact ⟨map_u8_inj xs ys hx hy, fun h => by rw [h]⟩
theorem bytes_src {h : Hd} (hok : h.ok) : bytes [h.s0, h.s1, h.s2, h.s3] := by
  obtain ⟨_, _, _, _, _, _, a7, a8, a9, a10, _⟩ := hok
  rw [show [h.s0, h.s1, h.s2, h.s3] = [h.s0, h.s1] ++ [h.s2, h.s3] from rfl, bytes_append]
  exact ⟨bytes_two' a7 a8, bytes_two' a9 a10⟩
theorem bytes_dst {h : Hd} (hok : h.ok) : bytes [h.d0, h.d1, h.d2, h.d3] := by
  obtain ⟨_, _, _, _, _, _, _, _, _, _, a11, a12, a13, a14⟩ := hok
  rw [show [h.d0, h.d1, h.d2, h.d3] = [h.d0, h.d1] ++ [h.d2, h.d3] from rfl, bytes_append]
  exact ⟨bytes_two' a11 a12, bytes_two' a13 a14⟩
set_option maxRecDepth 100000 in
theorem docEq (h k : Hd) (o p : List Int) (hok : h.ok) (kok : k.ok) (ho : bytes o) (hp : bytes p) (w : World) :
    (Op.equalIn 10000 41 (.agg #[.int .u8 h.tos, .int .u16 h.total, .int .u16 h.id, .bool h.df, .bool h.mf, .int .u16 h.frag, .int .u8 h.ttl, .int .u8 h.proto, .string (strOfNums [h.s0, h.s1, h.s2, h.s3]), .string (strOfNums [h.d0, h.d1, h.d2, h.d3]), .string (strOfNums o)]) (.agg #[.int .u8 k.tos, .int .u16 k.total, .int .u16 k.id, .bool k.df, .bool k.mf, .int .u16 k.frag, .int .u8 k.ttl, .int .u8 k.proto, .string (strOfNums [k.s0, k.s1, k.s2, k.s3]), .string (strOfNums [k.d0, k.d1, k.d2, k.d3]), .string (strOfNums p)])).run Try.prog w = .ok (sameB h k o p) w := by
  have e := eqRH 9998 w h.tos k.tos h.total k.total h.id k.id h.df k.df h.mf k.mf h.frag k.frag h.ttl k.ttl h.proto k.proto (strOfNums [h.s0, h.s1, h.s2, h.s3]) (strOfNums [k.s0, k.s1, k.s2, k.s3]) (strOfNums [h.d0, h.d1, h.d2, h.d3]) (strOfNums [k.d0, k.d1, k.d2, k.d3]) (strOfNums o) (strOfNums p)
  rw [streq (bytes_src hok) (bytes_src kok), streq (bytes_dst hok) (bytes_dst kok), streq ho hp] at e
  rw [show (9998 + 2 : Nat) = 10000 from rfl] at e
  rw [e]
  congr 1
  rw [Bool.eq_iff_iff]
  simp only [sameB, Bool.and_eq_true, beq_iff_eq, decide_eq_true_iff]
theorem sameB_self (h : Hd) (o : List Int) : sameB h h o o = true := by simp [sameB]
/-- a load of a header as a whole, kept whole by the walk -/
noncomputable def ldV (ty : TypeId) (a : Addr) : Sem Value := loadVar ty a
theorem lv_hd (a : Addr) : loadVar 39 a = ldV 39 a := rfl
theorem lv_rh (a : Addr) : loadVar 41 a = ldV 41 a := rfl
theorem size_hd : (Try.prog.info? 39).map (·.size) = some 17 := by kernel_rfl
theorem size_rh : (Try.prog.info? 41).map (·.size) = some 11 := by kernel_rfl
theorem ld_hd {w : World} {g t : Nat} {h : Hd} {A : Option Addr} {n c : Nat} (hb : w.heap[g]? = some (.cells (hcs h A n c) t (0, 0))) : (ldV 39 ⟨g, 0, none⟩).run Try.prog w = .ok (.agg (hcs h A n c)) w :=
  run_loadVar_row w g t _ _ _ _ hb Try.underlying39 rfl size_hd
theorem ld_rh {w : World} {g t : Nat} {h : Hd} {S D O : ByteArray} (hb : w.heap[g]? = some (.cells (rcs h S D O) t (0, 0))) : (ldV 41 ⟨g, 0, none⟩).run Try.prog w = .ok (.agg (rcs h S D O)) w :=
  run_loadVar_row w g t _ _ _ _ hb Try.underlying41 rfl size_rh
end Go.Proofs.Ytknpaihlnkcpgaa.Own
/- The walk of the law IpPuts. (written by wip/gen_lawputs.py) -/
set_option linter.unusedVariables false
set_option linter.unusedSimpArgs false
namespace Go.Proofs.Ytknpaihlnkcpgaa.Own
open Go.RowKit Go.Proofs.YtknpaihlnkcpgaaW.PrintWords Go.Proofs.YtknpaihlnkcpgaaW.PrintLast Go.Proofs.YtknpaihlnkcpgaaW.PrintMore
attribute [local go_sem ↓] lv_hd lv_rh sv_rh
attribute [local go_sem] run_sv_rh gv_some isV_some pick2_true stc nfz_false oc1_int oc1_bool oc1_string oc1_slice oc1_pointer oc1_func pick1_true setCells_new setCells_past setCells_drew

theorem inS_append (a b : ByteArray) : inS (a ++ b) = inS a ++ inS b := by simp [inS]
theorem rst_stands {h : Hd} {o : List Int} (hok : h.ok) (ho : bytes o) {n : Nat} (hn : o.length = n) (s : Int) :
    rst h n (inS (strOfNums [h.s0, h.s1, h.s2, h.s3] ++ strOfNums [h.d0, h.d1, h.d2, h.d3] ++ strOfNums o)) s = stands h o s := by
  subst hn
  rw [inS_append, inS_append, inS_str (bytes_src hok), inS_str (bytes_dst hok), inS_str ho]
  simp [rst, stands]
theorem str_size {o : List Int} (ho : bytes o) : (strOfNums o).size = o.length := by rw [← inS_length, inS_str ho]
/-- the document's row of a header that is right, and the code's: the same -/
theorem rput5_doc (h : Hd) (o : List Int) (n : Nat) (w : World) (hok : h.ok) (ho : bytes o) (hn : o.length = n) (hr : rightB h n = true) :
    Calls Try.prog 12 #[.agg (docOf h o)] w fun e w' => ∃ A n c, e = .returned (.tuple #[.slice A n c, .int .i64 0]) ∧ Kd.R (Kd.int .u8) 5 w' w.heap.size (fun _ => True) (.slice A n c) (stands h o (ck (stands h o 0))) ∧ Below w.heap.size w w' := by
  subst hn
  have hq := rput5_right h (strOfNums [h.s0, h.s1, h.s2, h.s3]) (strOfNums [h.d0, h.d1, h.d2, h.d3]) (strOfNums o) w hok (by rw [str_size (bytes_src hok)]; simp) (by rw [str_size (bytes_dst hok)]; simp) (by rw [str_size ho]; exact hr)
  rw [str_size ho, rst_stands hok ho rfl, rst_stands hok ho rfl] at hq
  exact hq
theorem rput5_docW (h : Hd) (o : List Int) (n : Nat) (w : World) (hok : h.ok) (ho : bytes o) (hn : o.length = n) (hn1 : n ≤ 1000) (hr : rightB h n = false) :
    Calls Try.prog 12 #[.agg (docOf h o)] w fun e w' => e = .returned (.tuple #[.slice none 0 0, .int .i64 51]) ∧ Below w.heap.size w w' := by
  subst hn
  exact rput5_wrong h _ _ _ w hok (by rw [str_size ho]; exact hn1) (by rw [str_size ho]; exact hr)
theorem rright_doc (h : Hd) (o : List Int) (n : Nat) (w : World) (hok : h.ok) (ho : bytes o) (hn : o.length = n) (hn1 : n ≤ 1000) :
    Calls Try.prog 16 #[.agg (docOf h o)] w fun e w' => e = .returned (.bool (rightB h n)) ∧ Below w.heap.size w w' := by
  subst hn
  have hq := rright_any h (strOfNums [h.s0, h.s1, h.s2, h.s3]) (strOfNums [h.d0, h.d1, h.d2, h.d3]) (strOfNums o) w hok.2.1 (by rw [str_size ho]; omega)
  rw [str_size ho] at hq
  exact hq
/-- what Put answers: its number, and its row -/
def putF (h : Hd) (n : Nat) : Int := if rightB h n then 0 else 51
def putL (h : Hd) (n : Nat) (o : List Int) : List Int := if rightB h n then stands h o (ck (stands h o 0)) else []
theorem put_all (h : Hd) (A : Option Addr) (n c : Nat) (o : List Int) (w : World) (hok : h.ok) (hn : n ≤ 1000000) (hC : Kd.C (Kd.int .u8) w A n o) (hc : n ≤ c) (ho : bytes o) :
    Calls Try.prog 13 #[.agg (hcs h A n c)] w fun e w' => ∃ A1 n1 c1, e = .returned (.tuple #[.slice A1 n1 c1, .int .i64 (putF h n)]) ∧ Kd.R (Kd.int .u8) 5 w' w.heap.size (fun _ => True) (.slice A1 n1 c1) (putL h n o) ∧ Below w.heap.size w w' := by
  unfold putF putL
  cases hr : rightB h n with
  | false =>
    refine (put_wrong h A n c w hok.2.1 hn hr).mono ?_
    rintro e w' ⟨rfl, hb⟩
    exact ⟨_, _, _, rfl, Kd.R_nil _ _ _ _ _, hb⟩
  | true =>
    refine (put_right h A n c o w hok hn hr hC hc ho).mono ?_
    rintro e w' ⟨x, rfl, hx, hb⟩
    obtain ⟨A1, c1, rfl⟩ := Kd.R_slice hx
    exact ⟨_, _, _, rfl, hx, hb⟩
theorem rput5_all (h : Hd) (o : List Int) (n : Nat) (w : World) (hok : h.ok) (ho : bytes o) (hn : o.length = n) (hn1 : n ≤ 1000) :
    Calls Try.prog 12 #[.agg (docOf h o)] w fun e w' => ∃ A1 n1 c1, e = .returned (.tuple #[.slice A1 n1 c1, .int .i64 (putF h n)]) ∧ Kd.R (Kd.int .u8) 5 w' w.heap.size (fun _ => True) (.slice A1 n1 c1) (putL h n o) ∧ Below w.heap.size w w' := by
  unfold putF putL
  cases hr : rightB h n with
  | false =>
    refine (rput5_docW h o n w hok ho hn hn1 hr).mono ?_
    rintro e w' ⟨rfl, hb⟩
    exact ⟨_, _, _, rfl, Kd.R_nil _ _ _ _ _, hb⟩
  | true =>
    refine (rput5_doc h o n w hok ho hn hr).mono ?_
    rintro e w' ⟨A1, n1, c1, rfl, hx, hb⟩
    exact ⟨_, _, _, rfl, hx, hb⟩
theorem bytes_putL {h : Hd} {n : Nat} {o : List Int} (hok : h.ok) (ho : bytes o) (hn : o.length = n) : bytes (putL h n o) := by
  unfold putL
  cases hr : rightB h n with
  | false => exact bytes_nil
  | true =>
    have hR : h.frag ≤ 8191 ∧ n % 4 = 0 ∧ n ≤ 40 ∧ (20 : Int) + n ≤ h.total := of_decide_eq_true hr
    rw [if_pos rfl, ← rst_stands hok ho hn]
    exact bytes_rst hok hR.2.2.1 (inS_bytes _)
/-- what stays behind the reference's Put: three boxes -/
def LawPuts (w W : World) (h k : Hd) (A B : Option Addr) (n c m d g : Nat) (o : List Int) : Prop :=
  Below w.heap.size w W ∧ W.heap[w.heap.size]? = some (.cells (hcs h A n c) 39 (0, 0)) ∧ W.heap[w.heap.size + 1]? = some (.cells (hcs k B m d) 39 (0, 0)) ∧ W.heap[g]? = some (.cells (docOf h o) 41 (0, 0))
theorem LawPuts.below {w W W' : World} {h k : Hd} {A B : Option Addr} {n c m d g : Nat} {o : List Int} (hL : LawPuts w W h k A B n c m d g o) (hb : Below W.heap.size W W') : LawPuts w W' h k A B n c m d g o :=
  ⟨below_then hL.1 hL.1.size hb, (hb.block _ (blk_lt hL.2.1)).trans hL.2.1, (hb.block _ (blk_lt hL.2.2.1)).trans hL.2.2.1, (hb.block _ (blk_lt hL.2.2.2)).trans hL.2.2.2⟩
end Go.Proofs.Ytknpaihlnkcpgaa.Own
/- The walk of the law IpPuts. (written by wip/gen_lawputs.py) -/
set_option linter.unusedVariables false
set_option linter.unusedSimpArgs false
namespace Go.Proofs.Ytknpaihlnkcpgaa.Own
open Go.RowKit Go.Proofs.YtknpaihlnkcpgaaW.PrintWords Go.Proofs.YtknpaihlnkcpgaaW.PrintLast Go.Proofs.YtknpaihlnkcpgaaW.PrintMore
attribute [local go_sem ↓] lv_hd lv_rh sv_rh
attribute [local go_sem] run_sv_rh gv_some isV_some pick2_true stc nfz_false oc1_int oc1_bool oc1_string oc1_slice oc1_pointer oc1_func pick1_true setCells_new setCells_past setCells_drew


set_option maxRecDepth 100000 in
set_option maxHeartbeats 8000000 in
theorem ipPuts_any (h k : Hd) (A B : Option Addr) (n c m d : Nat) (o p : List Int) (w : World) (hC : Kd.C (Kd.int .u8) w A n o) (hD : Kd.C (Kd.int .u8) w B m p) (hc : n ≤ c) (hd : m ≤ d) (ho : bytes o) (hp : bytes p) (hok : h.ok) (kok : k.ok) (hn9 : n ≤ 9223372036854775807) (hm9 : m ≤ 9223372036854775807) :
    Calls Try.prog 4 #[.agg (hcs h A n c), .agg (hcs k B m d)] w fun e w' => e = .returned (.bool true) ∧ Below w.heap.size w w' := by
  have hb0 := heap_alloc_new w (.cells (hcs h A n c) 39)
  have hb1 := heap_alloc_new (w.alloc (.cells (hcs h A n c) 39)) (.cells (hcs k B m d) 39)
  have hb0' := (Below.heap_alloc (w.alloc (.cells (hcs h A n c) 39)) (.cells (hcs k B m d) 39) _ (blk_lt hb0)).trans hb0
  rw [World.size_alloc] at hb1
  have hc16 := (hd_cells hb0').2.2.2.2.2.2.2.2.2.2.2.2.2.2.2.2
  have he16 := (hd_cells hb1).2.2.2.2.2.2.2.2.2.2.2.2.2.2.2.2
  have HB0 := Aside0.mk (below_alloc2 w (.cells (hcs h A n c) 39) (.cells (hcs k B m d) 39))
  by_cases h100 : 100 < n
  · clear hb0 hb1 hb0' hC hD ho hp hok kok
    go_enter Try.func4, Try.ntmps4
    go_wp2_with (go_at_call 8; (with_reducible refine (works5 _).mono ?_); rintro e w1 ⟨rfl, hw1⟩)
    go_ret
    exact ⟨rfl, below_tr HB0.out hw1⟩
  · by_cases k100 : 100 < m
    · clear hb0 hb1 hb0' hC hD ho hp hok kok
      go_enter Try.func4, Try.ntmps4
      go_wp2_with (go_at_call 8; (with_reducible refine (works5 _).mono ?_); rintro e w1 ⟨rfl, hw1⟩)
      go_ret
      exact ⟨rfl, below_tr HB0.out hw1⟩
    · have hn1 : n ≤ 100 := by omega
      have hm1 : m ≤ 100 := by omega
      have HBK := Aside0.mk (And.intro hb0' hb1)
      have HC := Aside0.mk hC
      have HD := Aside0.mk hD
      have HO := Aside0.mk (And.intro ho hp)
      have HK := Aside0.mk (And.intro hok kok)
      have HCD := Aside0.mk (And.intro hc hd)
      clear hb0 hb1 hb0' hC hD ho hp hok kok h100 k100 hc hd
      go_enter Try.func4, Try.ntmps4
      go_upto_region 3 with fail
      clear hc16 he16
      have hz0 : ((w.alloc (.cells (hcs h A n c) 39)).alloc (.cells (hcs k B m d) 39)).heap.size = w.heap.size + 1 + 1 := by simp
      generalize (w.alloc (.cells (hcs h A n c) 39)).alloc (.cells (hcs k B m d) 39) = W0 at HB0 HBK hz0 ⊢
      have hl0 := ld_hd HBK.out.1
      have hdoc := doc_any h A n c o W0 (Kd.C_below HC.out HB0.out)
      dsimp only [docOf, rcs, hcs] at hdoc hl0
      go_upto_region 4 with (go_at_call 11; go_must (with_reducible refine hdoc.mono ?_); rintro e w1 ⟨rfl, hb1⟩)
      clear hdoc hl0
      have HL : Aside0 (LawPuts w (w1.alloc (.cells (docOf h o) 41)) h k A B n c m d w1.heap.size o) := ⟨below_then (below_then HB0.out HB0.out.size hb1) (Nat.le_trans HB0.out.size hb1.size) (below_alloc1 w1 _), (Below.heap_alloc _ _ _ (Nat.lt_of_lt_of_le (blk_lt HBK.out.1) hb1.size)).trans ((hb1.block _ (blk_lt HBK.out.1)).trans HBK.out.1), (Below.heap_alloc _ _ _ (Nat.lt_of_lt_of_le (blk_lt HBK.out.2) hb1.size)).trans ((hb1.block _ (blk_lt HBK.out.2)).trans HBK.out.2), heap_alloc_new w1 _⟩
      generalize w1.heap.size = g at HL ⊢
      dsimp only [docOf, rcs] at HL
      generalize w1.alloc (.cells #[.int .u8 h.tos, .int .u16 h.total, .int .u16 h.id, .bool h.df, .bool h.mf, .int .u16 h.frag, .int .u8 h.ttl, .int .u8 h.proto, .string (strOfNums [h.s0, h.s1, h.s2, h.s3]), .string (strOfNums [h.d0, h.d1, h.d2, h.d3]), .string (strOfNums o)] 41) = W2 at HL ⊢
      clear hb1 HBK hz0 HB0
      have hlr := ld_rh HL.out.2.2.2
      have hp5 := rput5_all h o n W2 HK.out.1 HO.out.1 HC.out.1 (by omega)
      dsimp only [docOf, rcs] at hp5 hlr
      obtain ⟨L, eL⟩ : ∃ L, putL h n o = L := ⟨_, rfl⟩
      obtain ⟨f, ef⟩ : ∃ f, putF h n = f := ⟨_, rfl⟩
      have HBL := Aside0.mk (bytes_putL HK.out.1 HO.out.1 HC.out.1)
      have HPUT := Aside0.mk (fun (W : World) (hW : Below w.heap.size w W) => put_all h A n c o W HK.out.1 (by omega) (Kd.C_below HC.out hW) HCD.out.1 HO.out.1)
      rw [eL] at hp5 HBL
      rw [ef] at hp5
      have EL := Aside0.mk eL
      have EF := Aside0.mk ef
      clear eL ef
      go_upto_block 0 with (go_at_call 12; go_must (with_reducible refine hp5.mono ?_); rintro e w3 ⟨Aw, nw, cw, rfl, hRw, hb3⟩)
      have HW0 := Aside0.mk (C_of_R hRw).1
      have HL3 := Aside0.mk (HL.out.below hb3)
      clear hp5 hlr hRw hb3 HL
      go_cut [8] (fun _ wx => Aside0 (LawPuts w wx h k A B n c m d g o))
      case first =>
        go_wp2_with fail
        go_loopw [8] (fun q wr => ∃ (t : Nat), t ≤ 2 ∧ q = .int .i64 t ∧ Aside0 (LawPuts w wr h k A B n c m d g o) ∧ Aside0 (Kd.C (Kd.int .u8) wr Aw nw L)) (fun q _ => 2 - (intOf q).toNat)
        case atStart => exact ⟨0, by omega, rfl, HL3, HW0⟩
        case round =>
          clear HW0 HL3
          obtain ⟨t, ht, rfl, HL3, HW⟩ := hrel
          obtain ⟨wo, rfl⟩ : ∃ wo : World, wo = wr := ⟨_, rfl⟩
          by_cases ht2 : t < 2
          · have hpt := HPUT.out wo HL3.out.1
            rw [EL.out, EF.out] at hpt
            have hl0 := ld_hd HL3.out.2.1
            dsimp only [hcs] at hpt hl0
            go_wp2_with fail
            with_reducible refine hpt.mono ?_
            rintro e w4 ⟨A4, n4, c4, rfl, hR4, hb4⟩
            clear hpt hl0
            have hsm := same_any L L A4 Aw n4 c4 nw cw w4 (C_of_R hR4).1 (Kd.C_below HW.out hb4) HBL.out HBL.out
            rw [show decide (L = L) = true from decide_eq_true rfl] at hsm
            have HR4 : Aside0 (∃ l, Kd.R (Kd.int .u8) 5 w4 wo.heap.size (fun _ => True) (.slice A4 n4 c4) l) := ⟨L, hR4⟩
            have HB4 := Aside0.mk hb4
            have hn63 : n4 ≤ 9223372036854775807 := (C_of_R hR4).1.2.1
            clear hR4 hb4
            go_wp2_with (go_at_call 14; go_must (with_reducible refine hsm.mono ?_); clear hsm; rintro e w5 ⟨rfl, rfl⟩)
            go_loopw [11] (fun q wj => ∃ (i : Nat), i ≤ n4 ∧ q = .int .i64 i ∧ Aside0 (∃ l, Kd.R (Kd.int .u8) 5 wj wo.heap.size (fun _ => True) (.slice A4 n4 c4) l) ∧ Aside0 (Below wo.heap.size wo wj)) (fun q _ => n4 - (intOf q).toNat)
            case atStart => exact ⟨0, by omega, rfl, HR4, HB4⟩
            case round =>
              clear HR4 HB4
              obtain ⟨i, hi, rfl, HR4, HB4⟩ := hrel
              obtain ⟨wj, rfl⟩ : ∃ wj : World, wj = wr := ⟨_, rfl⟩
              by_cases hin : i < n4
              · obtain ⟨l, hRl⟩ := HR4.out
                obtain ⟨ga, capa, e4, hga, _, _⟩ := Kd.R_form hRl (by have := (C_of_R hRl).1.1; omega)
                obtain rfl : A4 = some ⟨ga, 0, none⟩ := by injection e4
                obtain ⟨hcx, hfx⟩ := Kd.R_celln (0 : Int) hRl i (by omega) (by omega)
                rw [Int.toNat_natCast] at hcx hfx
                have HPN := fun y => Kd.R_putn hRl (i : Int) y
                simp only [Int.toNat_natCast] at HPN
                have HPN := Aside0.mk HPN
                clear hRl e4 HR4
                go_wp2
                go_roundw
                case rel => exact ⟨i + 1, by omega, by go_num, ⟨_, HPN.out _⟩, ⟨HB4.out.setCell (p := ⟨ga, i, none⟩) hga _⟩⟩
                case measure => simp [intOf]; omega
              · clear HR4
                go_wp2
                go_roundw
                case rel => exact ⟨t + 1, by omega, by go_num, ⟨HL3.out.below HB4.out⟩, ⟨Kd.C_below HW.out HB4.out⟩⟩
                case measure => simp [intOf]; omega
          · go_wp2
            go_meet
            exact HL3
      case rest =>
        clear HL3 HW0
        have HL := hcut
        clear hcut
        go_upto_region 15 with fail
        have hmk : ∀ W', Below wc.heap.size wc W' → Below wc.heap.size wc W' ∧ (ldV 39 ⟨w.heap.size, 0, none⟩).run Try.prog W' = .ok (.agg #[.int .u8 h.tos, .int .u16 h.total, .int .u16 h.id, .bool h.df, .bool h.mf, .int .u16 h.frag, .int .u8 h.ttl, .int .u8 h.proto, .int .u8 h.s0, .int .u8 h.s1, .int .u8 h.s2, .int .u8 h.s3, .int .u8 h.d0, .int .u8 h.d1, .int .u8 h.d2, .int .u8 h.d3, .slice A n c]) W' ∧ (ldV 39 ⟨w.heap.size + 1, 0, none⟩).run Try.prog W' = .ok (.agg #[.int .u8 k.tos, .int .u16 k.total, .int .u16 k.id, .bool k.df, .bool k.mf, .int .u16 k.frag, .int .u8 k.ttl, .int .u8 k.proto, .int .u8 k.s0, .int .u8 k.s1, .int .u8 k.s2, .int .u8 k.s3, .int .u8 k.d0, .int .u8 k.d1, .int .u8 k.d2, .int .u8 k.d3, .slice B m d]) W' ∧ (ldV 41 ⟨g, 0, none⟩).run Try.prog W' = .ok (.agg #[.int .u8 h.tos, .int .u16 h.total, .int .u16 h.id, .bool h.df, .bool h.mf, .int .u16 h.frag, .int .u8 h.ttl, .int .u8 h.proto, .string (strOfNums [h.s0, h.s1, h.s2, h.s3]), .string (strOfNums [h.d0, h.d1, h.d2, h.d3]), .string (strOfNums o)]) W' := fun W' hb => by
          have h1 := HL.out.below hb
          have e1 := ld_hd h1.2.1
          have e2 := ld_hd h1.2.2.1
          have e3 := ld_rh h1.2.2.2
          exact ⟨hb, e1, e2, e3⟩
        have HMK := Aside0.mk hmk
        have HNX : Aside0 (∀ W W', (Below wc.heap.size wc W ∧ (ldV 39 ⟨w.heap.size, 0, none⟩).run Try.prog W = .ok (.agg #[.int .u8 h.tos, .int .u16 h.total, .int .u16 h.id, .bool h.df, .bool h.mf, .int .u16 h.frag, .int .u8 h.ttl, .int .u8 h.proto, .int .u8 h.s0, .int .u8 h.s1, .int .u8 h.s2, .int .u8 h.s3, .int .u8 h.d0, .int .u8 h.d1, .int .u8 h.d2, .int .u8 h.d3, .slice A n c]) W ∧ (ldV 39 ⟨w.heap.size + 1, 0, none⟩).run Try.prog W = .ok (.agg #[.int .u8 k.tos, .int .u16 k.total, .int .u16 k.id, .bool k.df, .bool k.mf, .int .u16 k.frag, .int .u8 k.ttl, .int .u8 k.proto, .int .u8 k.s0, .int .u8 k.s1, .int .u8 k.s2, .int .u8 k.s3, .int .u8 k.d0, .int .u8 k.d1, .int .u8 k.d2, .int .u8 k.d3, .slice B m d]) W ∧ (ldV 41 ⟨g, 0, none⟩).run Try.prog W = .ok (.agg #[.int .u8 h.tos, .int .u16 h.total, .int .u16 h.id, .bool h.df, .bool h.mf, .int .u16 h.frag, .int .u8 h.ttl, .int .u8 h.proto, .string (strOfNums [h.s0, h.s1, h.s2, h.s3]), .string (strOfNums [h.d0, h.d1, h.d2, h.d3]), .string (strOfNums o)]) W) → Below W.heap.size W W' → Below wc.heap.size wc W' ∧ (ldV 39 ⟨w.heap.size, 0, none⟩).run Try.prog W' = .ok (.agg #[.int .u8 h.tos, .int .u16 h.total, .int .u16 h.id, .bool h.df, .bool h.mf, .int .u16 h.frag, .int .u8 h.ttl, .int .u8 h.proto, .int .u8 h.s0, .int .u8 h.s1, .int .u8 h.s2, .int .u8 h.s3, .int .u8 h.d0, .int .u8 h.d1, .int .u8 h.d2, .int .u8 h.d3, .slice A n c]) W' ∧ (ldV 39 ⟨w.heap.size + 1, 0, none⟩).run Try.prog W' = .ok (.agg #[.int .u8 k.tos, .int .u16 k.total, .int .u16 k.id, .bool k.df, .bool k.mf, .int .u16 k.frag, .int .u8 k.ttl, .int .u8 k.proto, .int .u8 k.s0, .int .u8 k.s1, .int .u8 k.s2, .int .u8 k.s3, .int .u8 k.d0, .int .u8 k.d1, .int .u8 k.d2, .int .u8 k.d3, .slice B m d]) W' ∧ (ldV 41 ⟨g, 0, none⟩).run Try.prog W' = .ok (.agg #[.int .u8 h.tos, .int .u16 h.total, .int .u16 h.id, .bool h.df, .bool h.mf, .int .u16 h.frag, .int .u8 h.ttl, .int .u8 h.proto, .string (strOfNums [h.s0, h.s1, h.s2, h.s3]), .string (strOfNums [h.d0, h.d1, h.d2, h.d3]), .string (strOfNums o)]) W') := ⟨fun W W' hs hb => HMK.out W' (below_then hs.1 hs.1.size hb)⟩
        obtain ⟨rb, erb⟩ : ∃ b, rightB h n = b := ⟨_, rfl⟩
        obtain ⟨sb, esb⟩ : ∃ b, sameB h k o p = b := ⟨_, rfl⟩
        have hq1 := fun W => right_hd h A n c W (by omega) HK.out.1.2.1
        have hq2 := fun W => rright_doc h o n W HK.out.1 HO.out.1 HC.out.1 (by omega)
        have hq3 := fun W (hs : Below wc.heap.size wc W ∧ (ldV 39 ⟨w.heap.size, 0, none⟩).run Try.prog W = .ok (.agg #[.int .u8 h.tos, .int .u16 h.total, .int .u16 h.id, .bool h.df, .bool h.mf, .int .u16 h.frag, .int .u8 h.ttl, .int .u8 h.proto, .int .u8 h.s0, .int .u8 h.s1, .int .u8 h.s2, .int .u8 h.s3, .int .u8 h.d0, .int .u8 h.d1, .int .u8 h.d2, .int .u8 h.d3, .slice A n c]) W ∧ (ldV 39 ⟨w.heap.size + 1, 0, none⟩).run Try.prog W = .ok (.agg #[.int .u8 k.tos, .int .u16 k.total, .int .u16 k.id, .bool k.df, .bool k.mf, .int .u16 k.frag, .int .u8 k.ttl, .int .u8 k.proto, .int .u8 k.s0, .int .u8 k.s1, .int .u8 k.s2, .int .u8 k.s3, .int .u8 k.d0, .int .u8 k.d1, .int .u8 k.d2, .int .u8 k.d3, .slice B m d]) W ∧ (ldV 41 ⟨g, 0, none⟩).run Try.prog W = .ok (.agg #[.int .u8 h.tos, .int .u16 h.total, .int .u16 h.id, .bool h.df, .bool h.mf, .int .u16 h.frag, .int .u8 h.ttl, .int .u8 h.proto, .string (strOfNums [h.s0, h.s1, h.s2, h.s3]), .string (strOfNums [h.d0, h.d1, h.d2, h.d3]), .string (strOfNums o)]) W) => have hb := hs.1; same_hd h k A B n c m d o p W (Kd.C_below HC.out (below_then HL.out.1 HL.out.1.size hb)) (Kd.C_below HD.out (below_then HL.out.1 HL.out.1.size hb)) HO.out.1 HO.out.2
        have hq4 := fun W (hs : Below wc.heap.size wc W ∧ (ldV 39 ⟨w.heap.size, 0, none⟩).run Try.prog W = .ok (.agg #[.int .u8 h.tos, .int .u16 h.total, .int .u16 h.id, .bool h.df, .bool h.mf, .int .u16 h.frag, .int .u8 h.ttl, .int .u8 h.proto, .int .u8 h.s0, .int .u8 h.s1, .int .u8 h.s2, .int .u8 h.s3, .int .u8 h.d0, .int .u8 h.d1, .int .u8 h.d2, .int .u8 h.d3, .slice A n c]) W ∧ (ldV 39 ⟨w.heap.size + 1, 0, none⟩).run Try.prog W = .ok (.agg #[.int .u8 k.tos, .int .u16 k.total, .int .u16 k.id, .bool k.df, .bool k.mf, .int .u16 k.frag, .int .u8 k.ttl, .int .u8 k.proto, .int .u8 k.s0, .int .u8 k.s1, .int .u8 k.s2, .int .u8 k.s3, .int .u8 k.d0, .int .u8 k.d1, .int .u8 k.d2, .int .u8 k.d3, .slice B m d]) W ∧ (ldV 41 ⟨g, 0, none⟩).run Try.prog W = .ok (.agg #[.int .u8 h.tos, .int .u16 h.total, .int .u16 h.id, .bool h.df, .bool h.mf, .int .u16 h.frag, .int .u8 h.ttl, .int .u8 h.proto, .string (strOfNums [h.s0, h.s1, h.s2, h.s3]), .string (strOfNums [h.d0, h.d1, h.d2, h.d3]), .string (strOfNums o)]) W) => have hb := hs.1; same_hd h h A A n c n c o o W (Kd.C_below HC.out (below_then HL.out.1 HL.out.1.size hb)) (Kd.C_below HC.out (below_then HL.out.1 HL.out.1.size hb)) HO.out.1 HO.out.1
        have hq5 := fun W (hs : Below wc.heap.size wc W ∧ (ldV 39 ⟨w.heap.size, 0, none⟩).run Try.prog W = .ok (.agg #[.int .u8 h.tos, .int .u16 h.total, .int .u16 h.id, .bool h.df, .bool h.mf, .int .u16 h.frag, .int .u8 h.ttl, .int .u8 h.proto, .int .u8 h.s0, .int .u8 h.s1, .int .u8 h.s2, .int .u8 h.s3, .int .u8 h.d0, .int .u8 h.d1, .int .u8 h.d2, .int .u8 h.d3, .slice A n c]) W ∧ (ldV 39 ⟨w.heap.size + 1, 0, none⟩).run Try.prog W = .ok (.agg #[.int .u8 k.tos, .int .u16 k.total, .int .u16 k.id, .bool k.df, .bool k.mf, .int .u16 k.frag, .int .u8 k.ttl, .int .u8 k.proto, .int .u8 k.s0, .int .u8 k.s1, .int .u8 k.s2, .int .u8 k.s3, .int .u8 k.d0, .int .u8 k.d1, .int .u8 k.d2, .int .u8 k.d3, .slice B m d]) W ∧ (ldV 41 ⟨g, 0, none⟩).run Try.prog W = .ok (.agg #[.int .u8 h.tos, .int .u16 h.total, .int .u16 h.id, .bool h.df, .bool h.mf, .int .u16 h.frag, .int .u8 h.ttl, .int .u8 h.proto, .string (strOfNums [h.s0, h.s1, h.s2, h.s3]), .string (strOfNums [h.d0, h.d1, h.d2, h.d3]), .string (strOfNums o)]) W) => have hb := hs.1; doc_any k B m d p W (Kd.C_below HD.out (below_then HL.out.1 HL.out.1.size hb))
        have hq6 := fun W (hs : Below wc.heap.size wc W ∧ (ldV 39 ⟨w.heap.size, 0, none⟩).run Try.prog W = .ok (.agg #[.int .u8 h.tos, .int .u16 h.total, .int .u16 h.id, .bool h.df, .bool h.mf, .int .u16 h.frag, .int .u8 h.ttl, .int .u8 h.proto, .int .u8 h.s0, .int .u8 h.s1, .int .u8 h.s2, .int .u8 h.s3, .int .u8 h.d0, .int .u8 h.d1, .int .u8 h.d2, .int .u8 h.d3, .slice A n c]) W ∧ (ldV 39 ⟨w.heap.size + 1, 0, none⟩).run Try.prog W = .ok (.agg #[.int .u8 k.tos, .int .u16 k.total, .int .u16 k.id, .bool k.df, .bool k.mf, .int .u16 k.frag, .int .u8 k.ttl, .int .u8 k.proto, .int .u8 k.s0, .int .u8 k.s1, .int .u8 k.s2, .int .u8 k.s3, .int .u8 k.d0, .int .u8 k.d1, .int .u8 k.d2, .int .u8 k.d3, .slice B m d]) W ∧ (ldV 41 ⟨g, 0, none⟩).run Try.prog W = .ok (.agg #[.int .u8 h.tos, .int .u16 h.total, .int .u16 h.id, .bool h.df, .bool h.mf, .int .u16 h.frag, .int .u8 h.ttl, .int .u8 h.proto, .string (strOfNums [h.s0, h.s1, h.s2, h.s3]), .string (strOfNums [h.d0, h.d1, h.d2, h.d3]), .string (strOfNums o)]) W) => have hb := hs.1; doc_any h A n c o W (Kd.C_below HC.out (below_then HL.out.1 HL.out.1.size hb))
        have hde1 := fun W => docEq h k o p HK.out.1 HK.out.2 HO.out.1 HO.out.2 W
        have hde2 := fun W => docEq h h o o HK.out.1 HK.out.1 HO.out.1 HO.out.1 W
        rw [erb] at hq1 hq2
        rw [esb] at hq3 hde1
        rw [sameB_self] at hq4 hde2
        dsimp only [docOf, rcs, hcs] at hq1 hq2 hq3 hq4 hq5 hq6
        have HQ1 := Aside0.mk hq1
        have HQ2 := Aside0.mk hq2
        have HQ3 := Aside0.mk hq3
        have HQ4 := Aside0.mk hq4
        have HQ5 := Aside0.mk hq5
        have HQ6 := Aside0.mk hq6
        clear hq1 hq2 hq3 hq4 hq5 hq6 hmk erb esb
        go_region_held3 (fun W' => Below wc.heap.size wc W' ∧ (ldV 39 ⟨w.heap.size, 0, none⟩).run Try.prog W' = .ok (.agg #[.int .u8 h.tos, .int .u16 h.total, .int .u16 h.id, .bool h.df, .bool h.mf, .int .u16 h.frag, .int .u8 h.ttl, .int .u8 h.proto, .int .u8 h.s0, .int .u8 h.s1, .int .u8 h.s2, .int .u8 h.s3, .int .u8 h.d0, .int .u8 h.d1, .int .u8 h.d2, .int .u8 h.d3, .slice A n c]) W' ∧ (ldV 39 ⟨w.heap.size + 1, 0, none⟩).run Try.prog W' = .ok (.agg #[.int .u8 k.tos, .int .u16 k.total, .int .u16 k.id, .bool k.df, .bool k.mf, .int .u16 k.frag, .int .u8 k.ttl, .int .u8 k.proto, .int .u8 k.s0, .int .u8 k.s1, .int .u8 k.s2, .int .u8 k.s3, .int .u8 k.d0, .int .u8 k.d1, .int .u8 k.d2, .int .u8 k.d3, .slice B m d]) W' ∧ (ldV 41 ⟨g, 0, none⟩).run Try.prog W' = .ok (.agg #[.int .u8 h.tos, .int .u16 h.total, .int .u16 h.id, .bool h.df, .bool h.mf, .int .u16 h.frag, .int .u8 h.ttl, .int .u8 h.proto, .string (strOfNums [h.s0, h.s1, h.s2, h.s3]), .string (strOfNums [h.d0, h.d1, h.d2, h.d3]), .string (strOfNums o)]) W') (first | exact HMK.out _ (below_drew (Below.refl _ _)) | (refine HNX.out _ _ ?_ hb; assumption)) (first
          | (go_at_call 15; go_must (with_reducible refine (HQ1.out _).mono ?_); rintro e w1 ⟨rfl, hb⟩)
          | (go_at_call 16; go_must (with_reducible refine (HQ2.out _).mono ?_); rintro e w1 ⟨rfl, hb⟩)
          | (go_at_call 17; (with_reducible refine (HQ3.out _ (by assumption)).mono ?_); rintro e w1 ⟨rfl, hb⟩)
          | (go_at_call 17; (with_reducible refine (HQ4.out _ (by assumption)).mono ?_); rintro e w1 ⟨rfl, hb⟩)
          | (go_at_call 11; (with_reducible refine (HQ5.out _ (by assumption)).mono ?_); rintro e w1 ⟨rfl, hb⟩)
          | (go_at_call 11; (with_reducible refine (HQ6.out _ (by assumption)).mono ?_); rintro e w1 ⟨rfl, hb⟩)
          | (go_at_call 8; go_must (with_reducible refine (works5 _).mono ?_); rintro e w1 ⟨rfl, hb⟩))
        go_wp2
        go_ret
        have hfin : Below wc.heap.size wc w1 ∧ (ldV 39 ⟨w.heap.size, 0, none⟩).run Try.prog w1 = .ok (.agg #[.int .u8 h.tos, .int .u16 h.total, .int .u16 h.id, .bool h.df, .bool h.mf, .int .u16 h.frag, .int .u8 h.ttl, .int .u8 h.proto, .int .u8 h.s0, .int .u8 h.s1, .int .u8 h.s2, .int .u8 h.s3, .int .u8 h.d0, .int .u8 h.d1, .int .u8 h.d2, .int .u8 h.d3, .slice A n c]) w1 ∧ (ldV 39 ⟨w.heap.size + 1, 0, none⟩).run Try.prog w1 = .ok (.agg #[.int .u8 k.tos, .int .u16 k.total, .int .u16 k.id, .bool k.df, .bool k.mf, .int .u16 k.frag, .int .u8 k.ttl, .int .u8 k.proto, .int .u8 k.s0, .int .u8 k.s1, .int .u8 k.s2, .int .u8 k.s3, .int .u8 k.d0, .int .u8 k.d1, .int .u8 k.d2, .int .u8 k.d3, .slice B m d]) w1 ∧ (ldV 41 ⟨g, 0, none⟩).run Try.prog w1 = .ok (.agg #[.int .u8 h.tos, .int .u16 h.total, .int .u16 h.id, .bool h.df, .bool h.mf, .int .u16 h.frag, .int .u8 h.ttl, .int .u8 h.proto, .string (strOfNums [h.s0, h.s1, h.s2, h.s3]), .string (strOfNums [h.d0, h.d1, h.d2, h.d3]), .string (strOfNums o)]) w1 := by assumption
        exact ⟨rfl, below_then HL.out.1 HL.out.1.size hfin.1⟩
end Go.Proofs.Ytknpaihlnkcpgaa.Own
/- bits.value, bits.Get, ip.word. -/
set_option linter.unusedVariables false
set_option linter.unusedSimpArgs false
namespace Go.Proofs.Ytknpaihlnkcpgaa.Own
open Go.RowKit Go.Proofs.YtknpaihlnkcpgaaW.PrintWords Go.Proofs.YtknpaihlnkcpgaaW.PrintLast Go.Proofs.YtknpaihlnkcpgaaW.PrintMore

/-- the number of bytes -/
def vl (l : List Int) : Int := l.foldl (fun v x => v * 256 + x) 0
theorem vl_snoc (l : List Int) (x : Int) : vl (l ++ [x]) = vl l * 256 + x := by simp [vl]
theorem vl_range : ∀ (n : Nat) (l : List Int), l.length = n → bytes l → 0 ≤ vl l ∧ vl l < 256 ^ n := by
  intro n
  induction n with
  | zero => intro l h _; have : l = [] := List.eq_nil_of_length_eq_zero h; subst this; simp [vl]
  | succ n ih =>
    intro l h hb
    obtain ⟨x, hx⟩ : ∃ x, l = l.take n ++ [x] := ⟨l.getD n 0, by
      rw [List.getD_eq_getElem?_getD, List.getElem?_eq_getElem (by omega)]
      simp only [Option.getD_some, List.take_append_getElem]
      rw [List.take_of_length_le (by omega)]⟩
    have hl : (l.take n).length = n := by rw [List.length_take]; omega
    have hbt : bytes (l.take n) := bytes_take hb n
    have hx2 := hb x (by rw [hx]; simp)
    have := ih _ hl hbt
    rw [hx, vl_snoc, Int.pow_succ]
    omega
theorem vl_two (x y : Int) : vl [x, y] = x * 256 + y := by simp [vl]
theorem vl_take (l : List Int) (k : Nat) (h : k < l.length) : vl (l.take (k + 1)) = vl (l.take k) * 256 + l.getD k 0 := by
  rw [List.take_add_one, List.getD_eq_getElem?_getD, List.getElem?_eq_getElem h]
  exact vl_snoc _ _
theorem u64_or8 (v x : Int) (h0 : 0 ≤ v) (h1 : v < 72057594037927936) (x0 : 0 ≤ x) (x1 : x < 256) : bits .or .u64 (v * 256) x = v * 256 + x :=
  bits_join .u64 64 (by decide) (fun n h0 h1 => wraps_u64 n h0 (by omega)) 8 _ x (by omega) (by omega) (by omega) x0 (by omega) (by omega)
theorem pow_le7 : ∀ k : Nat, k < 8 → (256 : Int) ^ k ≤ 256 ^ 7 := by decide
theorem p256_7 : (256 : Int) ^ 7 = 72057594037927936 := rfl
theorem ret_u64b {a b : Int} (h : a = b) : Ending.returned (.int .u64 a) = .returned (.int .u64 b) := by rw [h]
theorem bvalue_any (b : List Int) (A : Option Addr) (n c : Nat) (w : World) (hC : Kd.C (Kd.int .u8) w A n b) (hb : bytes b) (hn : n ≤ 8) :
    Calls Try.prog 63 #[.slice A n c] w fun e w' => e = .returned (.int .u64 (vl b)) ∧ w = w' := by
  have HC := Aside0.mk hC
  have HB := Aside0.mk hb
  have HLEN := Aside0.mk hC.1
  clear hC hb
  go_enter Try.func63, Try.ntmps63
  go_wp2
  go_loop [2, 7] (fun p q => ∃ (k : Nat), k ≤ n ∧ q = .int .i64 k ∧ p = .int .u64 (vl (b.take k))) (fun _ q => n - (intOf q).toNat)
  case atStart => exact ⟨0, by omega, rfl, rfl⟩
  case round =>
    obtain ⟨k, hk, rfl, rfl⟩ := hrel
    by_cases hkn : k < n
    · obtain ⟨ad, rfl, hx⟩ := Kd.at_int HC.out k (by omega) (by omega)
      have hx' : w.cell? (ad.add k) = some (.int .u8 (b.getD k 0)) := hx
      have hxr := bytes_getD HB.out k
      have hvr := vl_range k (b.take k) (by rw [List.length_take]; have := HLEN.out; omega) (bytes_take HB.out k)
      have hp : (256 : Int) ^ k ≤ 256 ^ 7 := pow_le7 k (by omega)
      rw [p256_7] at hp
      have hst := vl_take b k (by rw [HLEN.out]; exact hkn)
      obtain ⟨x, ex⟩ : ∃ x, b.getD k 0 = x := ⟨_, rfl⟩
      obtain ⟨v, ev⟩ : ∃ v, vl (b.take k) = v := ⟨_, rfl⟩
      rw [ex] at hx' hxr hst
      rw [ev] at hvr hst
      rw [ev]
      obtain ⟨v0, v1⟩ := hvr
      have hv2 : v < 72057594037927936 := by omega
      obtain ⟨x0, x1⟩ := hxr
      have hor := u64_or8 v x v0 hv2 x0 x1
      have HST := Aside0.mk hst
      clear hx hst ex ev hp v1
      go_wp2
      go_round
      case rel => exact ⟨k + 1, by omega, by go_num, by rw [HST.out]⟩
      case measure => simp [intOf]; omega
    · have e : k = n := by omega
      subst e
      go_wp2
      go_ret
      exact ⟨ret_u64b (by rw [List.take_of_length_le (by rw [HLEN.out]; exact Nat.le_refl _)]), rfl⟩
set_option maxRecDepth 100000 in
theorem get_any (b : List Int) (A : Option Addr) (n c at_ size : Nat) (ai si : Int) (ha : (at_ : Int) = ai) (hs : (size : Int) = si) (w : World) (hC : Kd.C (Kd.int .u8) w A n b) (hc : n ≤ c) (hb : bytes b) (hs1 : 1 ≤ size) (hs8 : size ≤ 8) (hn : at_ + size ≤ n) :
    Calls Try.prog 57 #[.slice A n c, .int .i64 ai, .int .i64 si] w fun e w' => e = .returned (.tuple #[.int .u64 (vl ((b.take (at_ + size)).drop at_)), .int .i64 0]) ∧ w = w' := by
  subst ha hs
  have hn63 := hC.2.1
  obtain ⟨T, A', m, c', hcut, hrd, hmc, hT, hm⟩ := cut_mid A n c b at_ (at_ + size) hC.1 (by omega) (by omega) (by omega) hc
  have hr := right_any size w
  rw [show decide (1 ≤ (size : Int) ∧ (size : Int) ≤ 8) = true from decide_eq_true ⟨by omega, by omega⟩] at hr
  have hTe : T = (b.take (at_ + size)).drop at_ := by rw [hT]; congr 1
  have hbT : bytes T := by rw [hTe]; exact bytes_drop (bytes_take hb _) _
  have hv := bvalue_any T A' m c' w (hrd w hC) hbT (by omega)
  obtain ⟨v, ev⟩ : ∃ v, vl T = v := ⟨_, rfl⟩
  have HV : Aside0 (vl ((b.take (at_ + size)).drop at_) = v) := ⟨by rw [← hTe]; exact ev⟩
  rw [ev] at hv
  have d1 : ¬ (at_ : Int) < 0 := by omega
  have d2 : ¬ (n : Int) < at_ := by omega
  have d3 : ¬ (n : Int) - at_ < size := by omega
  have hw1 : (at_ : Int) + size ≤ 9223372036854775807 := by omega
  clear hT hTe hbT ev hrd hC hb hm
  go_enter Try.func57, Try.ntmps57
  go_wp2_with (first
    | (go_at_call 61; (with_reducible refine hr.mono ?_); clear hr; rintro e w' ⟨rfl, rfl⟩)
    | (go_at_call 63; go_must (with_reducible refine hv.mono ?_); rintro e w' ⟨rfl, rfl⟩))
  refine bodyPost_ret (results_tmp2 rfl _ _ _) rfl ?_
  exact ⟨by rw [HV.out]; rfl, rfl⟩
theorem word_any (b : List Int) (A : Option Addr) (n c at_ : Nat) (ai : Int) (ha : (at_ : Int) = ai) (w : World) (hC : Kd.C (Kd.int .u8) w A n b) (hc : n ≤ c) (hb : bytes b) (hn : at_ + 2 ≤ n) :
    Calls Try.prog 39 #[.slice A n c, .int .i64 ai] w fun e w' => e = .returned (.int .u16 (b.getD at_ 0 * 256 + b.getD (at_ + 1) 0)) ∧ w = w' := by
  have hg := get_any b A n c at_ 2 ai 2 ha rfl w hC hc hb (by decide) (by decide) hn
  have hlen := hC.1
  have e : vl ((b.take (at_ + 2)).drop at_) = b.getD at_ 0 * 256 + b.getD (at_ + 1) 0 := by
    have h1 : (b.take (at_ + 2)).drop at_ = [b.getD at_ 0, b.getD (at_ + 1) 0] := by
      apply List.ext_getElem?
      intro j
      rw [List.getElem?_drop, List.getElem?_take]
      match j with
      | 0 => simp [List.getD_eq_getElem?_getD, List.getElem?_eq_getElem (show at_ < b.length by omega)]
      | 1 => simp [List.getD_eq_getElem?_getD, List.getElem?_eq_getElem (show at_ + 1 < b.length by omega)]
      | j + 2 => rw [if_neg (by omega)]; simp
    rw [h1, vl_two]
  rw [e] at hg
  have h0 := bytes_getD hb at_
  have h1 := bytes_getD hb (at_ + 1)
  obtain ⟨v, ev⟩ : ∃ v, b.getD at_ 0 * 256 + b.getD (at_ + 1) 0 = v := ⟨_, rfl⟩
  rw [ev] at hg ⊢
  have v0 : 0 ≤ v := by omega
  have v1 : v ≤ 65535 := by omega
  clear hC hb e h0 h1 ev hn
  go_enter Try.func39, Try.ntmps39
  go_wp2_with (go_at_call 57; go_must (with_reducible refine hg.mono ?_); rintro e w' ⟨rfl, rfl⟩)
  go_ret
  exact ⟨rfl, rfl⟩
end Go.Proofs.Ytknpaihlnkcpgaa.Own
/- ip.Parse. (written by wip/gen_parse.py) -/
set_option linter.unusedVariables false
set_option linter.unusedSimpArgs false
namespace Go.Proofs.Ytknpaihlnkcpgaa.Own
open Go.RowKit Go.Proofs.YtknpaihlnkcpgaaW.PrintWords Go.Proofs.YtknpaihlnkcpgaaW.PrintLast Go.Proofs.YtknpaihlnkcpgaaW.PrintMore

/-- a load of an array of four bytes, kept whole by the walk -/
noncomputable def ldA (ty : TypeId) (a : Addr) : Sem Value := loadVar ty a
theorem lv_a4 (a : Addr) : loadVar 37 a = ldA 37 a := rfl
attribute [local go_sem ↓] lv_a4 sv_hd ld17
attribute [local go_sem] run_sv_hd gv_some isV_some pick2_true stc nfz_false oc1_int oc1_bool oc1_string oc1_slice oc1_pointer oc1_func pick1_true setCells_new setCells_past setCells_drew

theorem size_a4 : (Try.prog.info? 37).map (·.size) = some 4 := by kernel_rfl
theorem ld_a4 {w : World} {ad : Addr} {m : Nat} {T : List Int} (hC : Kd.C (Kd.int .u8) w (some ad) m T) (hm : 4 ≤ m) : (ldA 37 ad).run Try.prog w = .ok (.agg #[.int .u8 (T.getD 0 0), .int .u8 (T.getD 1 0), .int .u8 (T.getD 2 0), .int .u8 (T.getD 3 0)]) w := by
  have hx : ∀ i : Nat, i < 4 → w.cell? (ad.add i) = some (.int .u8 (T.getD i 0)) := fun i hi => by
    obtain ⟨ad', e, hx⟩ := Kd.at_int hC i (by omega) (by omega)
    cases e
    exact hx
  have hl := run_loadCells_list (P := Try.prog) w ad [.int .u8 (T.getD 0 0), .int .u8 (T.getD 1 0), .int .u8 (T.getD 2 0), .int .u8 (T.getD 3 0)] (fun j v hj => by
    match j, hj with
    | 0, hj => cases hj; exact hx 0 (by decide)
    | 1, hj => cases hj; exact hx 1 (by decide)
    | 2, hj => cases hj; exact hx 2 (by decide)
    | 3, hj => cases hj; exact hx 3 (by decide))
  obtain ⟨i, hi, hs⟩ := Option.map_eq_some_iff.1 size_a4
  have hagg : (isAgg 37).run Try.prog w = .ok true w := by
    unfold isAgg
    rw [Sem.run_bind, run_underlying Try.underlying37 w]
    rfl
  unfold ldA
  simp only [List.length_cons, List.length_nil] at hl
  simp [loadVar, Sem.run_bind, hagg, sizeOf, typeInfo, hi, hs, hl]
theorem run_arrayAt4 (ad : Addr) (m c : Nat) (hm : 4 ≤ m) (w : World) : (Instr.arrayAt 37 (.slice (some ad) m c)).run Try.prog w = .ok (.pointer (some ad)) w := by
  have : ¬ m < 4 := by omega
  simp [Instr.arrayAt, Sem.run_bind, run_underlying Try.underlying37 w, this]
theorem R_set {w : World} {g base e : Nat} {ok : Nat → Prop} {v : Value} {xs : List Int} {vs : List Value} (h : Kd.R (Kd.int .u8) e w base ok v xs) (hg : g < base) : Kd.R (Kd.int .u8) e (w.setCells g 0 vs) base ok v xs := by
  have hb := Kd.R_base h
  have ho := h.1
  refine Kd.R_mono (Kd.R_step (Kd.R_tight rfl h) fun k hk _ => heap_setCells_other ?_) (fun k hk => ho k hk.symm)
  have := hb k hk.symm
  omega
def w16 (b : List Int) (i : Nat) : Int := b.getD i 0 * 256 + b.getD (i + 1) 0
/-- the header that stands there -/
def hdOf (b : List Int) : Hd := ⟨b.getD 1 0, w16 b 2, w16 b 4, decide (0 < bits .and .u16 (w16 b 6) 16384), decide (0 < bits .and .u16 (w16 b 6) 8192), bits .and .u16 (w16 b 6) 8191, b.getD 8 0, b.getD 9 0, b.getD 12 0, b.getD 13 0, b.getD 14 0, b.getD 15 0, b.getD 16 0, b.getD 17 0, b.getD 18 0, b.getD 19 0⟩
theorem w16_range {b : List Int} (hb : bytes b) (i : Nat) : 0 ≤ w16 b i ∧ w16 b i ≤ 65535 := by
  have h0 := bytes_getD hb i
  have h1 := bytes_getD hb (i + 1)
  unfold w16
  omega
/-- the cells as a list -/
abbrev hls (h : Hd) (A : Option Addr) (n c : Nat) : List Value := [.int .u8 h.tos, .int .u16 h.total, .int .u16 h.id, .bool h.df, .bool h.mf, .int .u16 h.frag, .int .u8 h.ttl, .int .u8 h.proto, .int .u8 h.s0, .int .u8 h.s1, .int .u8 h.s2, .int .u8 h.s3, .int .u8 h.d0, .int .u8 h.d1, .int .u8 h.d2, .int .u8 h.d3, .slice A n c]
theorem hd_put {w : World} {b t : Nat} {h0 : Hd} {A0 : Option Addr} {n0 c0 : Nat} {h : Hd} {A : Option Addr} {n c : Nat} (hb : w.heap[b]? = some (.cells (hcs h0 A0 n0 c0) t (0, 0))) : (w.setCells b 0 (hls h A n c)).heap[b]? = some (.cells (hcs h A n c) t (0, 0)) := blk_setCells hb rfl
theorem fz_new {w : World} {g t : Nat} {cs : Array Value} (h : w.heap[g]? = some (.cells cs t (0, 0))) (i : Nat) : w.frozen? ⟨g, i, none⟩ = false := by
  simp [World.frozen?, h]
abbrev zHd : Hd := ⟨0, 0, 0, false, false, 0, 0, 0, 0, 0, 0, 0, 0, 0, 0, 0⟩
/-- what ip.Parse answers -/
def ParseR (w : World) (H : Hd) (N C : Int) (O : List Int) (e : Ending) (w' : World) : Prop :=
  ∃ A1 n1 c1, e = .returned (.tuple #[.agg (hcs H A1 n1 c1), .int .i64 N, .int .i64 C]) ∧ Kd.R (Kd.int .u8) 5 w' w.heap.size (fun _ => True) (.slice A1 n1 c1) O ∧ Below w.heap.size w w'
/-- the error of rows that pass the first checks, with a header of N bytes -/
def mainC (b : List Int) (N : Nat) : Int := if 0 < bits .and .u16 (w16 b 6) 32768 ∨ w16 b 2 < N then 51 else if wholeB (b.take N) then 0 else 52
def ParseQ (b : List Int) (w : World) (N : Nat) : Ending → World → Prop := if mainC b N = 0 then ParseR w (hdOf b) N 0 ((b.take N).drop 20) else ParseR w zHd 0 (mainC b N) []
/-- the header is parsed, in a box of its own; the result's box is as it was -/
def PSt (w W : World) (b T : List Int) (q : Value) : Prop :=
  ∃ g A n c, q = .pointer (some ⟨g, 0, none⟩) ∧ w.heap.size < g ∧ W.heap[g]? = some (.cells (hcs (hdOf b) A n c) 39 (0, 0)) ∧ Kd.R (Kd.int .u8) 5 W (w.heap.size + 1) (fun _ => True) (.slice A n c) T ∧
    W.heap[w.heap.size]? = some (.cells (hcs ⟨0, 0, 0, false, false, 0, 0, 0, 0, 0, 0, 0, 0, 0, 0, 0⟩ none 0 0) 39 (0, 0)) ∧ Below w.heap.size w W
set_option maxRecDepth 100000 in
set_option maxHeartbeats 8000000 in
theorem parse_main (b : List Int) (A : Option Addr) (n c N : Nat) (w : World) (hC : Kd.C (Kd.int .u8) w A n b) (hc : n ≤ c) (hb : bytes b) (hn : n ≤ 1000000) (h0 : b.getD 0 0 / 16 = 4) (hN : (N : Int) = b.getD 0 0 % 16 * 4) (hN20 : 20 ≤ N) (hNn : N ≤ n) :
    Calls Try.prog 19 #[.slice A n c] w (ParseQ b w N) := by
  obtain ⟨PO, ePO⟩ : ∃ PO : Ending → World → Prop, PO = ParseQ b w N := ⟨_, rfl⟩
  have hp51 : ∀ e w', (0 < bits .and .u16 (w16 b 6) 32768 ∨ w16 b 2 < N) → ParseR w zHd 0 51 [] e w' → PO e w' := fun e w' h1 h2 => by
    rw [ePO]
    have hm : mainC b N = 51 := by unfold mainC; rw [if_pos h1]
    unfold ParseQ
    rw [hm]
    exact h2
  have hp52 : ∀ e w', ¬ (0 < bits .and .u16 (w16 b 6) 32768 ∨ w16 b 2 < N) → wholeB (b.take N) = false → ParseR w zHd 0 52 [] e w' → PO e w' := fun e w' h1 h3 h2 => by
    rw [ePO]
    have hm : mainC b N = 52 := by unfold mainC; rw [if_neg h1, h3]; rfl
    unfold ParseQ
    rw [hm]
    exact h2
  have hp0 : ∀ e w', ¬ (0 < bits .and .u16 (w16 b 6) 32768 ∨ w16 b 2 < N) → wholeB (b.take N) = true → ParseR w (hdOf b) N 0 ((b.take N).drop 20) e w' → PO e w' := fun e w' h1 h3 h2 => by
    rw [ePO]
    have hm : mainC b N = 0 := by unfold mainC; rw [if_neg h1, h3]; rfl
    unfold ParseQ
    rw [hm]
    exact h2
  rw [← ePO]
  clear ePO
  have hlen := hC.1
  obtain ⟨ad, rfl, hx0⟩ := Kd.at_int hC 0 (by omega) (by omega)
  have e0 : ad.add (0 : Int).toNat = ad := Addr.add_zero' ad
  rw [e0] at hx0
  have hx0' : w.cell? ad = some (.int .u8 (b.getD 0 0)) := hx0
  have hb0 := bytes_getD hb 0
  obtain ⟨x, ex⟩ : ∃ x, b.getD 0 0 = x := ⟨_, rfl⟩
  rw [ex] at hx0' hb0 h0 hN
  obtain ⟨xa, xb⟩ := hb0
  have hx1 := (below_alloc1 w (.cells (hcs ⟨0, 0, 0, false, false, 0, 0, 0, 0, 0, 0, 0, 0, 0, 0, 0⟩ none 0 0) 39)).cell (p := ad) (World.block_lt_of_cell? w _ hx0')
  rw [hx0'] at hx1
  simp only [hcs] at hx1
  have hand := u8_and15 x xa xb
  have hneq : (x / 16 != 4) = false := by rw [h0]; rfl
  have hxN : x % 16 * 4 = (N : Int) := by omega
  have hN1 : ¬ (N : Int) < 20 := by omega
  have hN2 : ¬ (n : Int) < N := by omega
  obtain ⟨fr, efr⟩ : ∃ v, w16 b 6 = v := ⟨_, rfl⟩
  obtain ⟨tt, ett⟩ : ∃ v, w16 b 2 = v := ⟨_, rfl⟩
  obtain ⟨idd, eid⟩ : ∃ v, w16 b 4 = v := ⟨_, rfl⟩
  have hw0 : ∀ W, Below w.heap.size w W → Calls Try.prog 39 #[.slice (some ad) n c, .int .i64 6] W fun e w' => e = .returned (.int .u16 fr) ∧ W = w' := fun W hW => by
    rw [← efr]; exact word_any b (some ad) n c 6 6 rfl W (Kd.C_below hC hW) hc hb (by omega)
  have hw2 : ∀ W, Below w.heap.size w W → Calls Try.prog 39 #[.slice (some ad) n c, .int .i64 2] W fun e w' => e = .returned (.int .u16 tt) ∧ W = w' := fun W hW => by
    rw [← ett]; exact word_any b (some ad) n c 2 2 rfl W (Kd.C_below hC hW) hc hb (by omega)
  have hw4 : ∀ W, Below w.heap.size w W → Calls Try.prog 39 #[.slice (some ad) n c, .int .i64 4] W fun e w' => e = .returned (.int .u16 idd) ∧ W = w' := fun W hW => by
    rw [← eid]; exact word_any b (some ad) n c 4 4 rfl W (Kd.C_below hC hW) hc hb (by omega)
  obtain ⟨T1, A1, m1, c1, hcut1, hrd1, hmc1, hT1, hm1⟩ := cut_drop (some ad) n c b 12 hlen (by omega) (by omega) hc
  obtain ⟨T2, A2, m2, c2, hcut2, hrd2, hmc2, hT2, hm2⟩ := cut_drop (some ad) n c b 16 hlen (by omega) (by omega) hc
  obtain ⟨T3, A3, m3, c3, hcut3, hrd3, hmc3, hT3, hm3⟩ := cut_mid (some ad) n c b 20 N hlen (by omega) (by omega) (by omega) hc
  obtain ⟨T4, m4, hcut4, hrd4, hmc4, hT4, hm4⟩ := cut_take (some ad) n c b N hlen (by omega) (by omega) hc
  have hT4' : T4 = b.take N := by rw [hT4]; rfl
  have hwh : ∀ W, Below w.heap.size w W → Calls Try.prog 41 #[.slice (some ⟨W.heap.size, 0, none⟩) 1 1] (W.alloc (.cells #[.slice (some ad) m4 c] 22)) fun e w' => e = .returned (.bool (wholeB T4)) ∧ Below (W.alloc (.cells #[.slice (some ad) m4 c] 22)).heap.size (W.alloc (.cells #[.slice (some ad) m4 c] 22)) w' := fun W hW => by
    have h4 := Kd.C_below (hrd4 w hC) hW
    have hl4 := h4.1
    refine (whole_at [T4] _ 1 1 _ (C_new_rows1n h4 hmc4) (by intro x hx; simp at hx; subst hx; rw [hT4]; exact bytes_take hb _) (by simp; omega) (by simp)).mono ?_
    rintro e w' ⟨rfl, hb'⟩
    exact ⟨by simp, hb'⟩
  rw [← hT4'] at hp52 hp0
  obtain ⟨ad1, rfl, _⟩ := Kd.at_int (hrd1 w hC) 0 (by omega) (by omega)
  obtain ⟨ad2, rfl, _⟩ := Kd.at_int (hrd2 w hC) 0 (by omega) (by omega)
  have harr1 := run_arrayAt4 ad1 m1 c1 (by omega)
  have harr2 := run_arrayAt4 ad2 m2 c2 (by omega)
  have hg1 : ∀ i, T1.getD i 0 = b.getD (12 + i) 0 := fun i => by rw [hT1]; simp [List.getD_eq_getElem?_getD, List.getElem?_drop]
  have hg2 : ∀ i, T2.getD i 0 = b.getD (16 + i) 0 := fun i => by rw [hT2]; simp [List.getD_eq_getElem?_getD, List.getElem?_drop]
  have hcell : ∀ i : Nat, i < n → w.cell? (ad.add i) = some (.int .u8 (b.getD i 0)) := fun i hi => by
    obtain ⟨ad', e', hx⟩ := Kd.at_int hC i (by omega) (by omega)
    cases e'
    exact hx
  have hmk : ∀ W', Below w.heap.size w W' → Below w.heap.size w W' ∧ W'.cell? { block := ad.block, off := ad.off + 1 } = some (.int .u8 (b.getD 1 0)) ∧ W'.cell? { block := ad.block, off := ad.off + 8 } = some (.int .u8 (b.getD 8 0)) ∧ W'.cell? { block := ad.block, off := ad.off + 9 } = some (.int .u8 (b.getD 9 0)) ∧ (ldA 37 ad1).run Try.prog W' = .ok (.agg #[.int .u8 (b.getD (12 + 0) 0), .int .u8 (b.getD (12 + 1) 0), .int .u8 (b.getD (12 + 2) 0), .int .u8 (b.getD (12 + 3) 0)]) W' ∧ (ldA 37 ad2).run Try.prog W' = .ok (.agg #[.int .u8 (b.getD (16 + 0) 0), .int .u8 (b.getD (16 + 1) 0), .int .u8 (b.getD (16 + 2) 0), .int .u8 (b.getD (16 + 3) 0)]) W' := fun W' hW => by
    have l1 := ld_a4 (Kd.C_below (hrd1 w hC) hW) (by omega)
    have l2 := ld_a4 (Kd.C_below (hrd2 w hC) hW) (by omega)
    rw [hg1, hg1, hg1, hg1] at l1
    rw [hg2, hg2, hg2, hg2] at l2
    exact ⟨hW, pw_cell_below hW (hcell 1 (by omega)), pw_cell_below hW (hcell 8 (by omega)), pw_cell_below hW (hcell 9 (by omega)), l1, l2⟩
  have HD : Aside0 (hdOf b = ⟨b.getD 1 0, tt, idd, decide (0 < bits .and .u16 fr 16384), decide (0 < bits .and .u16 fr 8192), bits .and .u16 fr 8191, b.getD 8 0, b.getD 9 0, b.getD 12 0, b.getD 13 0, b.getD 14 0, b.getD 15 0, b.getD 16 0, b.getD 17 0, b.getD 18 0, b.getD 19 0⟩) := ⟨by unfold hdOf; rw [efr, ett, eid]⟩
  simp only [Nat.add_zero, Nat.reduceAdd] at hmk
  obtain ⟨b1, eb1⟩ : ∃ v, b.getD 1 0 = v := ⟨_, rfl⟩
  obtain ⟨b8, eb8⟩ : ∃ v, b.getD 8 0 = v := ⟨_, rfl⟩
  obtain ⟨b9, eb9⟩ : ∃ v, b.getD 9 0 = v := ⟨_, rfl⟩
  obtain ⟨s0, eb12⟩ : ∃ v, b.getD 12 0 = v := ⟨_, rfl⟩
  obtain ⟨s1, eb13⟩ : ∃ v, b.getD 13 0 = v := ⟨_, rfl⟩
  obtain ⟨s2, eb14⟩ : ∃ v, b.getD 14 0 = v := ⟨_, rfl⟩
  obtain ⟨s3, eb15⟩ : ∃ v, b.getD 15 0 = v := ⟨_, rfl⟩
  obtain ⟨d0, eb16⟩ : ∃ v, b.getD 16 0 = v := ⟨_, rfl⟩
  obtain ⟨d1, eb17⟩ : ∃ v, b.getD 17 0 = v := ⟨_, rfl⟩
  obtain ⟨d2, eb18⟩ : ∃ v, b.getD 18 0 = v := ⟨_, rfl⟩
  obtain ⟨d3, eb19⟩ : ∃ v, b.getD 19 0 = v := ⟨_, rfl⟩
  rw [eb1, eb8, eb9, eb12, eb13, eb14, eb15, eb16, eb17, eb18, eb19] at hmk HD
  have HMK := Aside0.mk hmk
  have HC3 := Aside0.mk (fun W (hW : Below w.heap.size w W) => clone_any T3 A3 m3 c3 W (Kd.C_below (hrd3 w hC) hW) (by omega))
  have HT3 := Aside0.mk hT3
  have HC := Aside0.mk hC
  have HB := Aside0.mk hb
  have hrt := w16_range hb 2
  rw [ett] at hrt
  have HRT := Aside0.mk hrt
  clear hrt
  have HNE := Aside0.mk hN
  have HWH := Aside0.mk hwh
  rw [efr, ett] at hp51 hp52 hp0
  have HP51 := Aside0.mk hp51
  have HP52 := Aside0.mk hp52
  have HP0 := Aside0.mk hp0
  have HT4 := Aside0.mk hT4'
  have EX := Aside0.mk ex
  have HW2 := Aside0.mk hw2
  have HW4 := Aside0.mk hw4
  have HBZ := Aside0.mk (below_alloc1 w (.cells (hcs ⟨0, 0, 0, false, false, 0, 0, 0, 0, 0, 0, 0, 0, 0, 0, 0⟩ none 0 0) 39))
  have HZ := Aside0.mk (heap_alloc_new w (.cells (hcs ⟨0, 0, 0, false, false, 0, 0, 0, 0, 0, 0, 0, 0, 0, 0, 0⟩ none 0 0) 39))
  have HSZ : Aside0 ((w.alloc (.cells (hcs ⟨0, 0, 0, false, false, 0, 0, 0, 0, 0, 0, 0, 0, 0, 0, 0⟩ none 0 0) 39)).heap.size = w.heap.size + 1) := ⟨by simp⟩
  dsimp only [hcs] at HBZ HZ HSZ
  clear hC hb e0 hx0 hx0' ex hlen hg1 hg2 hT1 hT2 hT3 hm1 hm2 hm3 hrd1 hrd2 hrd3 hcell hmk efr ett eid hw2 hw4 hN hwh hp51 hp52 hp0 hT4 hT4' hrd4 hm4 eb1 eb8 eb9 eb12 eb13 eb14 eb15 eb16 eb17 eb18 eb19
  go_enter Try.func19, Try.ntmps19
  go_upto_region 11 with (go_at_call 39; go_must (with_reducible refine (hw0 _ (below_alloc1 w _)).mono ?_); rintro e w1 ⟨rfl, rfl⟩)
  clear hw0 hx1 hand hneq hxN
  generalize w.alloc (.cells #[.int .u8 0, .int .u16 0, .int .u16 0, .bool false, .bool false, .int .u16 0, .int .u8 0, .int .u8 0, .int .u8 0, .int .u8 0, .int .u8 0, .int .u8 0, .int .u8 0, .int .u8 0, .int .u8 0, .int .u8 0, .slice none 0 0] 39) = w0 at HBZ HZ HSZ ⊢
  have HSL : Aside0 (w.heap.size ≤ w0.heap.size) := ⟨by have := HSZ.out; omega⟩
  have HSM : Aside0 (w.heap.size < w0.heap.size) := ⟨by have := HSZ.out; omega⟩
  have hi1 : (1 : Int) < (n : Int) := by omega
  have hi8 : (8 : Int) < (n : Int) := by omega
  have hi9 : (9 : Int) < (n : Int) := by omega
  go_cut [7] (fun q wx => Aside0 (PSt w wx b T3 q))
  case first =>
    refine wp_region_noPanic ?_
    refine wp_region_plan (fun W' => Below w.heap.size w W' ∧ W'.cell? { block := ad.block, off := ad.off + 1 } = some (.int .u8 (b1)) ∧ W'.cell? { block := ad.block, off := ad.off + 8 } = some (.int .u8 (b8)) ∧ W'.cell? { block := ad.block, off := ad.off + 9 } = some (.int .u8 (b9)) ∧ (ldA 37 ad1).run Try.prog W' = .ok (.agg #[.int .u8 (s0), .int .u8 (s1), .int .u8 (s2), .int .u8 (s3)]) W' ∧ (ldA 37 ad2).run Try.prog W' = .ok (.agg #[.int .u8 (d0), .int .u8 (d1), .int .u8 (d2), .int .u8 (d3)]) W') ((.q 0 (.q 1 (.q 2 (.q 3 (.q 4 (.q 5 (.q 6 (.q 7 (.q 8 (.q 9 (.q 10 (.q 11 (.q 12 (.q 13 (.q 14 (.q 15 (.q 16 (.q 17 (.q 18 (.q 19 (.q 20 (.q 21 (.q 22 (.q 23 (.q 24 (.q 25 (.q 26 (.q 27 (.q 28 (.q 29 (.q 30 (.q 31 (.e2 32 (.q 33 (.e 34 (.e 35 .done))) 34 (.e 32 (.q 33 (.e 35 .done))))))))))))))))))))))))))))))))))))) (by kernel_rfl) (by kernel_rfl) (fun _ _ _ _ _ h => h) (by kernel_rfl) (by kernel_rfl) (HMK.out _ (below_drew HBZ.out)) ?_
    refine plan_val (o := ?_) (v := ?_) ?_ ?_ (fun w' hSw => ?_) ?_
    rotate_left 2
    focus ((simp only [List.getElem?_toArray, List.getElem?_cons_succ, List.getElem?_cons_zero]); try with_reducible rfl)
    focus rfl
    focus ((try dsimp only at hSw); go_simp; try with_reducible rfl)
    try simp only [Act.put, List.setIfInBounds_toArray, List.set_cons_zero, List.set_cons_succ]
    refine plan_val (o := ?_) (v := ?_) ?_ ?_ (fun w' hSw => ?_) ?_
    rotate_left 2
    focus ((simp only [List.getElem?_toArray, List.getElem?_cons_succ, List.getElem?_cons_zero]); try with_reducible rfl)
    focus rfl
    focus ((try dsimp only at hSw); go_simp; try with_reducible rfl)
    try simp only [Act.put, List.setIfInBounds_toArray, List.set_cons_zero, List.set_cons_succ]
    refine plan_val (o := ?_) (v := ?_) ?_ ?_ (fun w' hSw => ?_) ?_
    rotate_left 2
    focus ((simp only [List.getElem?_toArray, List.getElem?_cons_succ, List.getElem?_cons_zero]); try with_reducible rfl)
    focus rfl
    focus ((try dsimp only at hSw); go_simp; try with_reducible rfl)
    try simp only [Act.put, List.setIfInBounds_toArray, List.set_cons_zero, List.set_cons_succ]
    refine plan_val (o := ?_) (v := ?_) ?_ ?_ (fun w' hSw => ?_) ?_
    rotate_left 2
    focus ((simp only [List.getElem?_toArray, List.getElem?_cons_succ, List.getElem?_cons_zero]); try with_reducible rfl)
    focus rfl
    focus ((try dsimp only at hSw); go_simp; try with_reducible rfl)
    try simp only [Act.put, List.setIfInBounds_toArray, List.set_cons_zero, List.set_cons_succ]
    refine plan_call (o := ?o4) (v := ?v4) (f := ?f4) (args := ?args4) ?hk4 ?hw4 (fun w' => ?he4) (fun w' hSw => ?hv4) ?h4
    case hk4 => ((simp only [List.getElem?_toArray, List.getElem?_cons_succ, List.getElem?_cons_zero]); try with_reducible rfl)
    case hw4 => rfl
    case he4 => (go_simp; first | (refine And.intro ?_ ?_ <;> with_reducible rfl) | with_reducible rfl)
    case hv4 => (exact HW2.out _ hSw.1)
    try simp only [Act.put, List.setIfInBounds_toArray, List.set_cons_zero, List.set_cons_succ]
    refine plan_val (o := ?_) (v := ?_) ?_ ?_ (fun w' hSw => ?_) ?_
    rotate_left 2
    focus ((simp only [List.getElem?_toArray, List.getElem?_cons_succ, List.getElem?_cons_zero]); try with_reducible rfl)
    focus rfl
    focus ((try dsimp only at hSw); go_simp; try with_reducible rfl)
    try simp only [Act.put, List.setIfInBounds_toArray, List.set_cons_zero, List.set_cons_succ]
    refine plan_call (o := ?o6) (v := ?v6) (f := ?f6) (args := ?args6) ?hk6 ?hw6 (fun w' => ?he6) (fun w' hSw => ?hv6) ?h6
    case hk6 => ((simp only [List.getElem?_toArray, List.getElem?_cons_succ, List.getElem?_cons_zero]); try with_reducible rfl)
    case hw6 => rfl
    case he6 => (go_simp; first | (refine And.intro ?_ ?_ <;> with_reducible rfl) | with_reducible rfl)
    case hv6 => (exact HW4.out _ hSw.1)
    try simp only [Act.put, List.setIfInBounds_toArray, List.set_cons_zero, List.set_cons_succ]
    refine plan_val (o := ?_) (v := ?_) ?_ ?_ (fun w' hSw => ?_) ?_
    rotate_left 2
    focus ((simp only [List.getElem?_toArray, List.getElem?_cons_succ, List.getElem?_cons_zero]); try with_reducible rfl)
    focus rfl
    focus ((try dsimp only at hSw); go_simp; try with_reducible rfl)
    try simp only [Act.put, List.setIfInBounds_toArray, List.set_cons_zero, List.set_cons_succ]
    refine plan_val (o := ?_) (v := ?_) ?_ ?_ (fun w' hSw => ?_) ?_
    rotate_left 2
    focus ((simp only [List.getElem?_toArray, List.getElem?_cons_succ, List.getElem?_cons_zero]); try with_reducible rfl)
    focus rfl
    focus ((try dsimp only at hSw); go_simp; try with_reducible rfl)
    try simp only [Act.put, List.setIfInBounds_toArray, List.set_cons_zero, List.set_cons_succ]
    refine plan_val (o := ?_) (v := ?_) ?_ ?_ (fun w' hSw => ?_) ?_
    rotate_left 2
    focus ((simp only [List.getElem?_toArray, List.getElem?_cons_succ, List.getElem?_cons_zero]); try with_reducible rfl)
    focus rfl
    focus ((try dsimp only at hSw); go_simp; try with_reducible rfl)
    try simp only [Act.put, List.setIfInBounds_toArray, List.set_cons_zero, List.set_cons_succ]
    refine plan_val (o := ?_) (v := ?_) ?_ ?_ (fun w' hSw => ?_) ?_
    rotate_left 2
    focus ((simp only [List.getElem?_toArray, List.getElem?_cons_succ, List.getElem?_cons_zero]); try with_reducible rfl)
    focus rfl
    focus ((try dsimp only at hSw); go_simp; try with_reducible rfl)
    try simp only [Act.put, List.setIfInBounds_toArray, List.set_cons_zero, List.set_cons_succ]
    refine plan_val (o := ?_) (v := ?_) ?_ ?_ (fun w' hSw => ?_) ?_
    rotate_left 2
    focus ((simp only [List.getElem?_toArray, List.getElem?_cons_succ, List.getElem?_cons_zero]); try with_reducible rfl)
    focus rfl
    focus ((try dsimp only at hSw); go_simp; try with_reducible rfl)
    try simp only [Act.put, List.setIfInBounds_toArray, List.set_cons_zero, List.set_cons_succ]
    refine plan_val (o := ?_) (v := ?_) ?_ ?_ (fun w' hSw => ?_) ?_
    rotate_left 2
    focus ((simp only [List.getElem?_toArray, List.getElem?_cons_succ, List.getElem?_cons_zero]); try with_reducible rfl)
    focus rfl
    focus ((try dsimp only at hSw); go_simp; try with_reducible rfl)
    try simp only [Act.put, List.setIfInBounds_toArray, List.set_cons_zero, List.set_cons_succ]
    refine plan_val (o := ?_) (v := ?_) ?_ ?_ (fun w' hSw => ?_) ?_
    rotate_left 2
    focus ((simp only [List.getElem?_toArray, List.getElem?_cons_succ, List.getElem?_cons_zero]); try with_reducible rfl)
    focus rfl
    focus ((try dsimp only at hSw); go_simp; try with_reducible rfl)
    try simp only [Act.put, List.setIfInBounds_toArray, List.set_cons_zero, List.set_cons_succ]
    refine plan_val (o := ?_) (v := ?_) ?_ ?_ (fun w' hSw => ?_) ?_
    rotate_left 2
    focus ((simp only [List.getElem?_toArray, List.getElem?_cons_succ, List.getElem?_cons_zero]); try with_reducible rfl)
    focus rfl
    focus ((try dsimp only at hSw); go_simp; try with_reducible rfl)
    try simp only [Act.put, List.setIfInBounds_toArray, List.set_cons_zero, List.set_cons_succ]
    refine plan_val (o := ?_) (v := ?_) ?_ ?_ (fun w' hSw => ?_) ?_
    rotate_left 2
    focus ((simp only [List.getElem?_toArray, List.getElem?_cons_succ, List.getElem?_cons_zero]); try with_reducible rfl)
    focus rfl
    focus ((try dsimp only at hSw); go_simp; try with_reducible rfl)
    try simp only [Act.put, List.setIfInBounds_toArray, List.set_cons_zero, List.set_cons_succ]
    refine plan_val (o := ?_) (v := ?_) ?_ ?_ (fun w' hSw => ?_) ?_
    rotate_left 2
    focus ((simp only [List.getElem?_toArray, List.getElem?_cons_succ, List.getElem?_cons_zero]); try with_reducible rfl)
    focus rfl
    focus ((try dsimp only at hSw); go_simp; try with_reducible rfl)
    try simp only [Act.put, List.setIfInBounds_toArray, List.set_cons_zero, List.set_cons_succ]
    refine plan_val (o := ?_) (v := ?_) ?_ ?_ (fun w' hSw => ?_) ?_
    rotate_left 2
    focus ((simp only [List.getElem?_toArray, List.getElem?_cons_succ, List.getElem?_cons_zero]); try with_reducible rfl)
    focus rfl
    focus ((try dsimp only at hSw); go_simp; try with_reducible rfl)
    try simp only [Act.put, List.setIfInBounds_toArray, List.set_cons_zero, List.set_cons_succ]
    refine plan_val (o := ?_) (v := ?_) ?_ ?_ (fun w' hSw => ?_) ?_
    rotate_left 2
    focus ((simp only [List.getElem?_toArray, List.getElem?_cons_succ, List.getElem?_cons_zero]); try with_reducible rfl)
    focus rfl
    focus ((try dsimp only at hSw); go_simp; try with_reducible rfl)
    try simp only [Act.put, List.setIfInBounds_toArray, List.set_cons_zero, List.set_cons_succ]
    refine plan_val (o := ?_) (v := ?_) ?_ ?_ (fun w' hSw => ?_) ?_
    rotate_left 2
    focus ((simp only [List.getElem?_toArray, List.getElem?_cons_succ, List.getElem?_cons_zero]); try with_reducible rfl)
    focus rfl
    focus ((try dsimp only at hSw); go_simp; try with_reducible rfl)
    try simp only [Act.put, List.setIfInBounds_toArray, List.set_cons_zero, List.set_cons_succ]
    refine plan_val (o := ?_) (v := ?_) ?_ ?_ (fun w' hSw => ?_) ?_
    rotate_left 2
    focus ((simp only [List.getElem?_toArray, List.getElem?_cons_succ, List.getElem?_cons_zero]); try with_reducible rfl)
    focus rfl
    focus ((try dsimp only at hSw); go_simp; try with_reducible rfl)
    try simp only [Act.put, List.setIfInBounds_toArray, List.set_cons_zero, List.set_cons_succ]
    refine plan_val (o := ?_) (v := ?_) ?_ ?_ (fun w' hSw => ?_) ?_
    rotate_left 2
    focus ((simp only [List.getElem?_toArray, List.getElem?_cons_succ, List.getElem?_cons_zero]); try with_reducible rfl)
    focus rfl
    focus ((try dsimp only at hSw); go_simp; try with_reducible rfl)
    try simp only [Act.put, List.setIfInBounds_toArray, List.set_cons_zero, List.set_cons_succ]
    refine plan_val (o := ?_) (v := ?_) ?_ ?_ (fun w' hSw => ?_) ?_
    rotate_left 2
    focus ((simp only [List.getElem?_toArray, List.getElem?_cons_succ, List.getElem?_cons_zero]); try with_reducible rfl)
    focus rfl
    focus ((try dsimp only at hSw); go_simp; try with_reducible rfl)
    try simp only [Act.put, List.setIfInBounds_toArray, List.set_cons_zero, List.set_cons_succ]
    refine plan_val (o := ?_) (v := ?_) ?_ ?_ (fun w' hSw => ?_) ?_
    rotate_left 2
    focus ((simp only [List.getElem?_toArray, List.getElem?_cons_succ, List.getElem?_cons_zero]); try with_reducible rfl)
    focus rfl
    focus ((try dsimp only at hSw); go_simp; try with_reducible rfl)
    try simp only [Act.put, List.setIfInBounds_toArray, List.set_cons_zero, List.set_cons_succ]
    refine plan_val (o := ?_) (v := ?_) ?_ ?_ (fun w' hSw => ?_) ?_
    rotate_left 2
    focus ((simp only [List.getElem?_toArray, List.getElem?_cons_succ, List.getElem?_cons_zero]); try with_reducible rfl)
    focus rfl
    focus ((try dsimp only at hSw); go_simp; try with_reducible rfl)
    try simp only [Act.put, List.setIfInBounds_toArray, List.set_cons_zero, List.set_cons_succ]
    refine plan_val (o := ?_) (v := ?_) ?_ ?_ (fun w' hSw => ?_) ?_
    rotate_left 2
    focus ((simp only [List.getElem?_toArray, List.getElem?_cons_succ, List.getElem?_cons_zero]); try with_reducible rfl)
    focus rfl
    focus ((try dsimp only at hSw); go_simp; try with_reducible rfl)
    try simp only [Act.put, List.setIfInBounds_toArray, List.set_cons_zero, List.set_cons_succ]
    refine plan_val (o := ?_) (v := ?_) ?_ ?_ (fun w' hSw => ?_) ?_
    rotate_left 2
    focus ((simp only [List.getElem?_toArray, List.getElem?_cons_succ, List.getElem?_cons_zero]); try with_reducible rfl)
    focus rfl
    focus ((try dsimp only at hSw); go_simp; try with_reducible rfl)
    try simp only [Act.put, List.setIfInBounds_toArray, List.set_cons_zero, List.set_cons_succ]
    refine plan_val (o := ?_) (v := ?_) ?_ ?_ (fun w' hSw => ?_) ?_
    rotate_left 2
    focus ((simp only [List.getElem?_toArray, List.getElem?_cons_succ, List.getElem?_cons_zero]); try with_reducible rfl)
    focus rfl
    focus ((try dsimp only at hSw); go_simp; try with_reducible rfl)
    try simp only [Act.put, List.setIfInBounds_toArray, List.set_cons_zero, List.set_cons_succ]
    refine plan_val (o := ?_) (v := ?_) ?_ ?_ (fun w' hSw => ?_) ?_
    rotate_left 2
    focus ((simp only [List.getElem?_toArray, List.getElem?_cons_succ, List.getElem?_cons_zero]); try with_reducible rfl)
    focus rfl
    focus ((try dsimp only at hSw); go_simp; try with_reducible rfl)
    try simp only [Act.put, List.setIfInBounds_toArray, List.set_cons_zero, List.set_cons_succ]
    refine plan_val (o := ?_) (v := ?_) ?_ ?_ (fun w' hSw => ?_) ?_
    rotate_left 2
    focus ((simp only [List.getElem?_toArray, List.getElem?_cons_succ, List.getElem?_cons_zero]); try with_reducible rfl)
    focus rfl
    focus ((try dsimp only at hSw); go_simp; try with_reducible rfl)
    try simp only [Act.put, List.setIfInBounds_toArray, List.set_cons_zero, List.set_cons_succ]
    refine plan_val (o := ?_) (v := ?_) ?_ ?_ (fun w' hSw => ?_) ?_
    rotate_left 2
    focus ((simp only [List.getElem?_toArray, List.getElem?_cons_succ, List.getElem?_cons_zero]); try with_reducible rfl)
    focus rfl
    focus ((try dsimp only at hSw); go_simp; try with_reducible rfl)
    try simp only [Act.put, List.setIfInBounds_toArray, List.set_cons_zero, List.set_cons_succ]
    refine plan_val (o := ?_) (v := ?_) ?_ ?_ (fun w' hSw => ?_) ?_
    rotate_left 2
    focus ((simp only [List.getElem?_toArray, List.getElem?_cons_succ, List.getElem?_cons_zero]); try with_reducible rfl)
    focus rfl
    focus ((try dsimp only at hSw); go_simp; try with_reducible rfl)
    try simp only [Act.put, List.setIfInBounds_toArray, List.set_cons_zero, List.set_cons_succ]
    refine plan_e2 (o := ?oE) (u := ?uE) ?hE1 ?hE2 ?hE3 ?hE4 (fun K hK => ?hE5) (fun K hK => ?hE6)
    case hE1 => ((simp only [List.getElem?_toArray, List.getElem?_cons_succ, List.getElem?_cons_zero]); try with_reducible rfl)
    case hE2 => ((simp only [List.getElem?_toArray, List.getElem?_cons_succ, List.getElem?_cons_zero]); try with_reducible rfl)
    case hE3 => rfl
    case hE4 => rfl
    case hE5 =>
      unfold Oper.wp
      go_simp
      refine (HC3.out _ (below_drew HBZ.out)).mono ?_
      rintro e w2 ⟨v, rfl, hR, hb2⟩
      obtain ⟨A', c', rfl⟩ := Kd.R_slice hR
      have HB2 := Aside0.mk (below_then (below_drew HBZ.out) HSL.out hb2)
      have HR2 := Aside0.mk hR
      have HZ2 := Aside0.mk ((hb2.block w.heap.size HSM.out).trans HZ.out)
      have HS2 := Aside0.mk (show w.heap.size < w2.heap.size from Nat.lt_of_lt_of_le HSM.out hb2.size)
      clear hR hb2
      refine hK _ _ (HMK.out _ HB2.out) ?_
      try simp only [Act.put, List.setIfInBounds_toArray, List.set_cons_zero, List.set_cons_succ]
      refine plan_val (o := ?_) (v := ?_) ?_ ?_ (fun w' hSw => ?_) ?_
      rotate_left 2
      focus ((simp only [List.getElem?_toArray, List.getElem?_cons_succ, List.getElem?_cons_zero]); try with_reducible rfl)
      focus rfl
      focus ((try dsimp only at hSw); go_simp; try with_reducible rfl)
      try simp only [Act.put, List.setIfInBounds_toArray, List.set_cons_zero, List.set_cons_succ]
      refine plan_e (o := ?oF) ?hF1 ?hF2 (fun K2 hK2 => ?hF3)
      case hF1 => ((simp only [List.getElem?_toArray, List.getElem?_cons_succ, List.getElem?_cons_zero]); try with_reducible rfl)
      case hF2 => rfl
      case hF3 =>
        unfold Oper.wp
        go_simp
        refine hK2 _ _ (HMK.out _ (HB2.out.alloc (Nat.le_of_lt HS2.out) _)) ?_
        try simp only [Act.put, List.setIfInBounds_toArray, List.set_cons_zero, List.set_cons_succ]
        refine plan_e (o := ?oG) ?hG1 ?hG2 (fun K3 hK3 => ?hG3)
        case hG1 => ((simp only [List.getElem?_toArray, List.getElem?_cons_succ, List.getElem?_cons_zero]); try with_reducible rfl)
        case hG2 => rfl
        case hG3 =>
          unfold Oper.wp
          go_simp
          refine hK3 _ _ (HMK.out _ (HB2.out.alloc (Nat.le_of_lt HS2.out) _)) (plan_done ?_)
          refine NoPanic.normal ?_
          dsimp only [Exit.then]
          go_step
          go_meet
          case rel =>
            refine ⟨w2.heap.size, A', _, c', rfl, HS2.out, ?_, Kd.R_alloc (Kd.R_lower HR2.out HSM.out) _, ((below_alloc1 w2 _).block _ HS2.out).trans HZ2.out, HB2.out.alloc (Nat.le_of_lt HS2.out) _⟩
            rw [HD.out]
            exact heap_alloc_new w2 _
    case hE6 =>
      unfold Oper.wp
      go_simp
      have HBA := Aside0.mk (below_drew (HBZ.out.alloc HSL.out (.cells (hcs ⟨0, 0, 0, false, false, 0, 0, 0, 0, 0, 0, 0, 0, 0, 0, 0⟩ none 0 0) 39)))
      have HXA := Aside0.mk (show (w0.alloc (.cells (hcs ⟨0, 0, 0, false, false, 0, 0, 0, 0, 0, 0, 0, 0, 0, 0, 0⟩ none 0 0) 39)).drew.heap[w0.heap.size]? = _ from heap_alloc_new w0 (.cells (hcs ⟨0, 0, 0, false, false, 0, 0, 0, 0, 0, 0, 0, 0, 0, 0, 0⟩ none 0 0) 39))
      have HZA := Aside0.mk (show (w0.alloc (.cells (hcs ⟨0, 0, 0, false, false, 0, 0, 0, 0, 0, 0, 0, 0, 0, 0, 0⟩ none 0 0) 39)).drew.heap[w.heap.size]? = _ from ((below_alloc1 w0 (.cells (hcs ⟨0, 0, 0, false, false, 0, 0, 0, 0, 0, 0, 0, 0, 0, 0, 0⟩ none 0 0) 39)).block w.heap.size HSM.out).trans HZ.out)
      have hsz2 : (w0.alloc (.cells (hcs ⟨0, 0, 0, false, false, 0, 0, 0, 0, 0, 0, 0, 0, 0, 0, 0⟩ none 0 0) 39)).drew.heap.size = w0.heap.size + 1 := by simp [World.drew]
      have HSL2 : Aside0 (w.heap.size ≤ (w0.alloc (.cells (hcs ⟨0, 0, 0, false, false, 0, 0, 0, 0, 0, 0, 0, 0, 0, 0, 0⟩ none 0 0) 39)).drew.heap.size) := ⟨by have := HSM.out; omega⟩
      have HSM2 : Aside0 (w.heap.size < (w0.alloc (.cells (hcs ⟨0, 0, 0, false, false, 0, 0, 0, 0, 0, 0, 0, 0, 0, 0, 0⟩ none 0 0) 39)).drew.heap.size) := ⟨by have := HSM.out; omega⟩
      have HSN2 : Aside0 (w0.heap.size < (w0.alloc (.cells (hcs ⟨0, 0, 0, false, false, 0, 0, 0, 0, 0, 0, 0, 0, 0, 0, 0⟩ none 0 0) 39)).drew.heap.size) := ⟨by omega⟩
      clear hsz2
      refine hK _ _ (HMK.out _ HBA.out) ?_
      try simp only [Act.put, List.setIfInBounds_toArray, List.set_cons_zero, List.set_cons_succ]
      refine plan_e (o := ?oH) ?hH1 ?hH2 (fun K2 hK2 => ?hH3)
      case hH1 => ((simp only [List.getElem?_toArray, List.getElem?_cons_succ, List.getElem?_cons_zero]); try with_reducible rfl)
      case hH2 => rfl
      case hH3 =>
        unfold Oper.wp
        go_simp
        refine (HC3.out _ HBA.out).mono ?_
        rintro e w2 ⟨v, rfl, hR, hb2⟩
        obtain ⟨A', c', rfl⟩ := Kd.R_slice hR
        dsimp only
        have HB2 := Aside0.mk (below_then HBA.out HSL2.out hb2)
        have HR2 := Aside0.mk hR
        have HZ2 := Aside0.mk ((hb2.block w.heap.size HSM2.out).trans HZA.out)
        have hx2 := (hb2.block w0.heap.size HSN2.out).trans HXA.out
        have hfz := fz_new hx2
        obtain ⟨c0, c1, c2, c3, c4, c5, c6, c7, c8, c9, c10, c11, c12, c13, c14, c15, c16⟩ := hd_cells hx2
        dsimp only at c0 c1 c2 c3 c4 c5 c6 c7 c8 c9 c10 c11 c12 c13 c14 c15 c16
        have HX2 := Aside0.mk hx2
        clear hR hb2 hx2
        refine hK2 _ _ (HMK.out _ HB2.out) ?_
        try simp only [Act.put, List.setIfInBounds_toArray, List.set_cons_zero, List.set_cons_succ]
        refine plan_val (o := ?_) (v := ?_) ?_ ?_ (fun w' hSw => ?_) ?_
        rotate_left 2
        focus ((simp only [List.getElem?_toArray, List.getElem?_cons_succ, List.getElem?_cons_zero]); try with_reducible rfl)
        focus rfl
        focus ((try dsimp only at hSw); go_simp; try with_reducible rfl)
        try simp only [Act.put, List.setIfInBounds_toArray, List.set_cons_zero, List.set_cons_succ]
        refine plan_e (o := ?oI) ?hI1 ?hI2 (fun K3 hK3 => ?hI3)
        case hI1 => ((simp only [List.getElem?_toArray, List.getElem?_cons_succ, List.getElem?_cons_zero]); try with_reducible rfl)
        case hI2 => rfl
        case hI3 =>
          unfold Oper.wp
          go_simp
          have hB3 : Below w.heap.size w (w2.setCells w0.heap.size 0 (hls ⟨b1, tt, idd, decide (0 < bits .and .u16 fr 16384), decide (0 < bits .and .u16 fr 8192), bits .and .u16 fr 8191, b8, b9, s0, s1, s2, s3, d0, d1, d2, d3⟩ A' T3.length c')) := below_setCells HB2.out HSL.out
          dsimp only [hls] at hB3
          refine hK3 _ _ (HMK.out _ hB3) (plan_done ?_)
          refine NoPanic.normal ?_
          dsimp only [Exit.then]
          go_step
          go_meet
          case rel =>
            have hr := R_set (vs := hls ⟨b1, tt, idd, decide (0 < bits .and .u16 fr 16384), decide (0 < bits .and .u16 fr 8192), bits .and .u16 fr 8191, b8, b9, s0, s1, s2, s3, d0, d1, d2, d3⟩ A' T3.length c') HR2.out HSN2.out
            dsimp only [hls] at hr
            refine ⟨w0.heap.size, A', _, c', rfl, HSM.out, ?_, Kd.R_lower hr (Nat.le_trans HSM.out (Nat.le_of_lt HSN2.out)), (heap_setCells_other (Nat.ne_of_lt HSM.out)).trans HZ2.out, hB3⟩
            rw [HD.out]
            have hx := hd_put (h := ⟨b1, tt, idd, decide (0 < bits .and .u16 fr 16384), decide (0 < bits .and .u16 fr 8192), bits .and .u16 fr 8191, b8, b9, s0, s1, s2, s3, d0, d1, d2, d3⟩) (A := A') (n := T3.length) (c := c') HX2.out
            dsimp only [hls] at hx
            exact hx
  case rest =>
    obtain ⟨g, A', n', c', rfl, hg, hH, hR, hZ, hB⟩ := hcut.out
    obtain ⟨wi, rfl⟩ : ∃ wi : World, wi = wc := ⟨_, rfl⟩
    clear HMK HC3 HW2 HW4 HBZ HZ HSZ HSL HSM hcut hcut1 hcut2 hcut3 harr1 harr2
    have hfz := fz_new hZ
    have htot := (hd_cells hH).2.1
    rw [HD.out] at htot
    dsimp only at htot
    obtain ⟨c0, c1, c2, c3, c4, c5, c6, c7, c8, c9, c10, c11, c12, c13, c14, c15, c16⟩ := hd_cells hZ
    dsimp only at c0 c1 c2 c3 c4 c5 c6 c7 c8 c9 c10 c11 c12 c13 c14 c15 c16
    have HH := Aside0.mk hH
    have HR := Aside0.mk hR
    have HZ := Aside0.mk hZ
    have HB := Aside0.mk hB
    clear hH hR hZ hB
    obtain ⟨ht0, ht1⟩ := HRT.out
    by_cases hbad : 0 < bits .and .u16 fr 32768
    · have HU := Aside0.mk hbad
      go_upto_region 13 with fail
      iterate 6 (first | go_values | go_skip | go_guarded | go_step | go_upon | go_back)
      have hx6 := hd_put (h := ⟨0, 0, 0, false, false, 0, 0, 0, 0, 0, 0, 0, 0, 0, 0, 0⟩) (A := none) (n := 0) (c := 0) HZ.out
      have hb6 := below_setCells (vs := hls ⟨0, 0, 0, false, false, 0, 0, 0, 0, 0, 0, 0, 0, 0, 0, 0⟩ none 0 0) (i := 0) HB.out (Nat.le_refl _)
      dsimp only [hls] at hx6 hb6
      clear c0 c1 c2 c3 c4 c5 c6 c7 c8 c9 c10 c11 c12 c13 c14 c15 c16 hfz htot
      generalize World.setCells _ _ _ _ = w6 at hx6 hb6 ⊢
      have hc6 := hd_cells hx6
      dsimp only at hc6
      go_wp2
      refine bodyPost_ret (v := .tuple #[noHd, .int .i64 0, .int .i64 51]) ?_ rfl (HP51.out _ _ (Or.inl HU.out) ⟨none, 0, 0, rfl, Kd.R_nil _ _ _ _ _, hb6⟩)
      simp [results, Try.results19, go_sem, hc6]
    · by_cases htn : tt < N
      · have HU := Aside0.mk htn
        go_upto_region 13 with fail
        iterate 6 (first | go_values | go_skip | go_guarded | go_step | go_upon | go_back)
        have hx6 := hd_put (h := ⟨0, 0, 0, false, false, 0, 0, 0, 0, 0, 0, 0, 0, 0, 0, 0⟩) (A := none) (n := 0) (c := 0) HZ.out
        have hb6 := below_setCells (vs := hls ⟨0, 0, 0, false, false, 0, 0, 0, 0, 0, 0, 0, 0, 0, 0, 0⟩ none 0 0) (i := 0) HB.out (Nat.le_refl _)
        dsimp only [hls] at hx6 hb6
        clear c0 c1 c2 c3 c4 c5 c6 c7 c8 c9 c10 c11 c12 c13 c14 c15 c16 hfz htot
        generalize World.setCells _ _ _ _ = w6 at hx6 hb6 ⊢
        have hc6 := hd_cells hx6
        dsimp only at hc6
        go_wp2
        refine bodyPost_ret (v := .tuple #[noHd, .int .i64 0, .int .i64 51]) ?_ rfl (HP51.out _ _ (Or.inr HU.out) ⟨none, 0, 0, rfl, Kd.R_nil _ _ _ _ _, hb6⟩)
        simp [results, Try.results19, go_sem, hc6]
      · have HU := Aside0.mk (not_or.2 ⟨hbad, htn⟩)
        go_wp2_with fail
        refine (HWH.out _ HB.out).mono ?_
        rintro e w5 ⟨rfl, hb5⟩
        dsimp only
        have hgi := blk_lt HH.out
        have hwi : w.heap.size < wi.heap.size := by omega
        have hsz : ∀ o : Obj, (wi.alloc o).heap.size = wi.heap.size + 1 := fun o => by simp
        have hZ5 := (hb5.block w.heap.size (by rw [hsz]; omega)).trans (((below_alloc1 wi _).block w.heap.size hwi).trans HZ.out)
        have hH5 := (hb5.block g (by rw [hsz]; omega)).trans (((below_alloc1 wi _).block g hgi).trans HH.out)
        have hR5 := Kd.R_below (Kd.R_alloc HR.out _) hb5
        have HB5 := Aside0.mk (below_then (HB.out.alloc (Nat.le_of_lt hwi) _) (by rw [hsz]; omega) hb5)
        rw [HD.out] at hH5
        have HR5 := Aside0.mk hR5
        have HZ5 := Aside0.mk hZ5
        clear c0 c1 c2 c3 c4 c5 c6 c7 c8 c9 c10 c11 c12 c13 c14 c15 c16 hfz htot hb5 hR5 hsz
        have hfz := fz_new hZ5
        obtain ⟨c0, c1, c2, c3, c4, c5, c6, c7, c8, c9, c10, c11, c12, c13, c14, c15, c16⟩ := hd_cells hZ5
        dsimp only at c0 c1 c2 c3 c4 c5 c6 c7 c8 c9 c10 c11 c12 c13 c14 c15 c16
        obtain ⟨k0, k1, k2, k3, k4, k5, k6, k7, k8, k9, k10, k11, k12, k13, k14, k15, k16⟩ := hd_cells hH5
        dsimp only at k0 k1 k2 k3 k4 k5 k6 k7 k8 k9 k10 k11 k12 k13 k14 k15 k16
        clear hZ5 hH5
        cases hwb : wholeB T4 with
        | false =>
          go_upto_region 15 with fail
          iterate 6 (first | go_values | go_skip | go_guarded | go_step | go_upon | go_back)
          have hx6 := hd_put (h := ⟨0, 0, 0, false, false, 0, 0, 0, 0, 0, 0, 0, 0, 0, 0, 0⟩) (A := none) (n := 0) (c := 0) HZ5.out
          have hb6 := below_setCells (vs := hls ⟨0, 0, 0, false, false, 0, 0, 0, 0, 0, 0, 0, 0, 0, 0, 0⟩ none 0 0) (i := 0) HB5.out (Nat.le_refl _)
          dsimp only [hls] at hx6 hb6
          clear c0 c1 c2 c3 c4 c5 c6 c7 c8 c9 c10 c11 c12 c13 c14 c15 c16 k0 k1 k2 k3 k4 k5 k6 k7 k8 k9 k10 k11 k12 k13 k14 k15 k16 hfz
          generalize World.setCells _ _ _ _ = w6 at hx6 hb6 ⊢
          have hc6 := hd_cells hx6
          dsimp only at hc6
          go_wp2
          refine bodyPost_ret (v := .tuple #[noHd, .int .i64 0, .int .i64 52]) ?_ rfl (HP52.out _ _ HU.out hwb ⟨none, 0, 0, rfl, Kd.R_nil _ _ _ _ _, hb6⟩)
          simp [results, Try.results19, go_sem, hc6]
        | true =>
          go_upto_region 16 with fail
          iterate 9 (first | go_values | go_skip | go_guarded | go_step | go_upon | go_back)
          have hx6 := hd_put (h := ⟨b1, tt, idd, decide (0 < bits .and .u16 fr 16384), decide (0 < bits .and .u16 fr 8192), bits .and .u16 fr 8191, b8, b9, s0, s1, s2, s3, d0, d1, d2, d3⟩) (A := A') (n := n') (c := c') HZ5.out
          have hb6 := below_setCells (vs := hls ⟨b1, tt, idd, decide (0 < bits .and .u16 fr 16384), decide (0 < bits .and .u16 fr 8192), bits .and .u16 fr 8191, b8, b9, s0, s1, s2, s3, d0, d1, d2, d3⟩ A' n' c') (i := 0) HB5.out (Nat.le_refl _)
          have hR6 := R_set (vs := hls ⟨b1, tt, idd, decide (0 < bits .and .u16 fr 16384), decide (0 < bits .and .u16 fr 8192), bits .and .u16 fr 8191, b8, b9, s0, s1, s2, s3, d0, d1, d2, d3⟩ A' n' c') HR5.out (Nat.lt_succ_self _)
          have hT34 : T3 = List.drop 20 T4 := by rw [HT3.out, HT4.out]; rfl
          rw [hT34] at hR6
          dsimp only [hls] at hx6 hb6 hR6
          clear c0 c1 c2 c3 c4 c5 c6 c7 c8 c9 c10 c11 c12 c13 c14 c15 c16 k0 k1 k2 k3 k4 k5 k6 k7 k8 k9 k10 k11 k12 k13 k14 k15 k16 hfz hT34
          generalize World.setCells _ _ _ _ = w6 at hx6 hb6 hR6 ⊢
          have hc6 := hd_cells hx6
          dsimp only at hc6
          go_wp2
          refine bodyPost_ret (v := .tuple #[.agg (hcs ⟨b1, tt, idd, decide (0 < bits .and .u16 fr 16384), decide (0 < bits .and .u16 fr 8192), bits .and .u16 fr 8191, b8, b9, s0, s1, s2, s3, d0, d1, d2, d3⟩ A' n' c'), .int .i64 N, .int .i64 0]) ?_ rfl (HP0.out _ _ HU.out hwb ⟨A', n', c', by rw [HD.out], Kd.R_lower hR6 (Nat.le_succ _), hb6⟩)
          simp [results, Try.results19, go_sem, hc6]
end Go.Proofs.Ytknpaihlnkcpgaa.Own
/- ip.Parse of any row. -/
set_option linter.unusedVariables false
set_option linter.unusedSimpArgs false
namespace Go.Proofs.Ytknpaihlnkcpgaa.Own
open Go.RowKit Go.Proofs.YtknpaihlnkcpgaaW.PrintWords Go.Proofs.YtknpaihlnkcpgaaW.PrintLast Go.Proofs.YtknpaihlnkcpgaaW.PrintMore
attribute [local go_sem ↓] ld17 ld4 sv_hd
attribute [local go_sem] run_sv_hd gv_some isV_some pick2_true stc nfz_false oc1_int oc1_bool oc1_string oc1_slice oc1_pointer oc1_func pick1_true setCells_new setCells_past setCells_drew

set_option maxRecDepth 100000 in
theorem parse_early (b : List Int) (A : Option Addr) (n c : Nat) (w : World) (k : Int) (hC : Kd.C (Kd.int .u8) w A n b) (hb : bytes b) (hn : 20 ≤ n)
    (h : (k = 50 ∧ b.getD 0 0 / 16 ≠ 4) ∨ (k = 51 ∧ b.getD 0 0 / 16 = 4 ∧ b.getD 0 0 % 16 * 4 < 20) ∨ (k = 10 ∧ b.getD 0 0 / 16 = 4 ∧ ¬ b.getD 0 0 % 16 * 4 < 20 ∧ (n : Int) < b.getD 0 0 % 16 * 4)) :
    Calls Try.prog 19 #[.slice A n c] w fun e w' => e = .returned (.tuple #[noHd, .int .i64 0, .int .i64 k]) ∧ Below w.heap.size w w' := by
  obtain ⟨ad, rfl, hx⟩ := Kd.at_int hC 0 (by omega) (by omega)
  have e0 : ad.add (0 : Int).toNat = ad := Addr.add_zero' ad
  have hx2 : w.cell? ad = some (.int .u8 (b.getD 0 0)) := by rw [e0] at hx; exact hx
  have hb0 := bytes_getD hb 0
  obtain ⟨x, ex⟩ : ∃ x, b.getD 0 0 = x := ⟨_, rfl⟩
  rw [ex] at hx2 hb0 h
  obtain ⟨xa, xb⟩ := hb0
  have hx3 := (below_alloc1 w (.cells (hcs ⟨0, 0, 0, false, false, 0, 0, 0, 0, 0, 0, 0, 0, 0, 0, 0⟩ none 0 0) 39)).cell (p := ad) (World.block_lt_of_cell? w _ hx2)
  rw [hx2] at hx3
  simp only [hcs] at hx3
  have hand := u8_and15 x xa xb
  have hc := hd_cells (heap_alloc_new w (.cells (hcs ⟨0, 0, 0, false, false, 0, 0, 0, 0, 0, 0, 0, 0, 0, 0, 0⟩ none 0 0) 39))
  simp only [hcs] at hc
  have HC := Aside0.mk hc
  clear hC hx e0 ex hb hc
  rcases h with ⟨rfl, h⟩ | ⟨rfl, h, h2⟩ | ⟨rfl, h, h2, h3⟩
  · have hneq : (x / 16 != 4) = true := by simpa using h
    clear h
    go_enter Try.func19, Try.ntmps19
    go_wp2
    refine bodyPost_ret (v := .tuple #[noHd, .int .i64 0, .int .i64 50]) ?_ rfl ⟨rfl, below_alloc1 w _⟩
    simp [results, Try.results19, go_sem, HC.out]
  · have hneq : (x / 16 != 4) = false := by rw [h]; rfl
    clear h
    go_enter Try.func19, Try.ntmps19
    go_wp2
    refine bodyPost_ret (v := .tuple #[noHd, .int .i64 0, .int .i64 51]) ?_ rfl ⟨rfl, below_alloc1 w _⟩
    simp [results, Try.results19, go_sem, HC.out]
  · have hneq : (x / 16 != 4) = false := by rw [h]; rfl
    clear h
    go_enter Try.func19, Try.ntmps19
    go_wp2
    refine bodyPost_ret (v := .tuple #[noHd, .int .i64 0, .int .i64 10]) ?_ rfl ⟨rfl, below_alloc1 w _⟩
    simp [results, Try.results19, go_sem, HC.out]
/-- the header's length, as its first byte says it -/
def hlen (b : List Int) : Nat := (b.getD 0 0 % 16 * 4).toNat
/-- the error of any row -/
def parseC (b : List Int) : Int :=
  if b.length < 20 then 10 else if b.getD 0 0 / 16 ≠ 4 then 50 else if hlen b < 20 then 51 else if b.length < hlen b then 10 else mainC b (hlen b)
def parseH (b : List Int) : Hd := if parseC b = 0 then hdOf b else zHd
def parseN (b : List Int) : Nat := if parseC b = 0 then hlen b else 0
def parseO (b : List Int) : List Int := if parseC b = 0 then (b.take (hlen b)).drop 20 else []
theorem parse_all (b : List Int) (A : Option Addr) (n c : Nat) (w : World) (hC : Kd.C (Kd.int .u8) w A n b) (hc : n ≤ c) (hb : bytes b) (hn : n ≤ 1000000) :
    Calls Try.prog 19 #[.slice A n c] w (ParseR w (parseH b) (parseN b) (parseC b) (parseO b)) := by
  have hl := hC.1
  have hh : (hlen b : Int) = b.getD 0 0 % 16 * 4 := by
    have := bytes_getD hb 0
    unfold hlen
    omega
  have bad : ∀ k : Int, k ≠ 0 → parseC b = k → ∀ e w', (e = .returned (.tuple #[noHd, .int .i64 0, .int .i64 k]) ∧ Below w.heap.size w w') → ParseR w (parseH b) (parseN b) (parseC b) (parseO b) e w' := fun k hk0 hk e w' h => by
    have h1 : parseH b = zHd := by unfold parseH; rw [hk, if_neg hk0]
    have h2 : parseN b = 0 := by unfold parseN; rw [hk, if_neg hk0]
    have h3 : parseO b = [] := by unfold parseO; rw [hk, if_neg hk0]
    rw [h1, h2, h3, hk]
    exact ⟨none, 0, 0, h.1, Kd.R_nil _ _ _ _ _, h.2⟩
  by_cases h1 : b.length < 20
  · exact (parse_short A n c w (by omega)).mono (bad 10 (by decide) (by unfold parseC; rw [if_pos h1]))
  by_cases h2 : b.getD 0 0 / 16 ≠ 4
  · exact (parse_early b A n c w 50 hC hb (by omega) (.inl ⟨rfl, h2⟩)).mono (bad 50 (by decide) (by unfold parseC; rw [if_neg h1, if_pos h2]))
  by_cases h3 : hlen b < 20
  · exact (parse_early b A n c w 51 hC hb (by omega) (.inr (.inl ⟨rfl, Classical.not_not.1 h2, by omega⟩))).mono (bad 51 (by decide) (by unfold parseC; rw [if_neg h1, if_neg h2, if_pos h3]))
  by_cases h4 : b.length < hlen b
  · exact (parse_early b A n c w 10 hC hb (by omega) (.inr (.inr ⟨rfl, Classical.not_not.1 h2, by omega, by omega⟩))).mono (bad 10 (by decide) (by unfold parseC; rw [if_neg h1, if_neg h2, if_neg h3, if_pos h4]))
  have hC0 : parseC b = mainC b (hlen b) := by unfold parseC; rw [if_neg h1, if_neg h2, if_neg h3, if_neg h4]
  refine (parse_main b A n c (hlen b) w hC hc hb hn (Classical.not_not.1 h2) hh (by omega) (by omega)).mono fun e w' h => ?_
  unfold ParseQ at h
  rw [← hC0] at h
  unfold parseH parseN parseO
  by_cases h0 : parseC b = 0
  · rw [if_pos h0] at h
    rw [if_pos h0, if_pos h0, if_pos h0, h0]
    exact h
  · rw [if_neg h0] at h
    rw [if_neg h0, if_neg h0, if_neg h0]
    exact h
end Go.Proofs.Ytknpaihlnkcpgaa.Own
/- ip.Body. -/
set_option linter.unusedVariables false
set_option linter.unusedSimpArgs false
namespace Go.Proofs.Ytknpaihlnkcpgaa.Own
open Go.RowKit Go.Proofs.YtknpaihlnkcpgaaW.PrintWords Go.Proofs.YtknpaihlnkcpgaaW.PrintLast Go.Proofs.YtknpaihlnkcpgaaW.PrintMore
attribute [local go_sem ↓] ld17 ld4 sv_hd
attribute [local go_sem] run_sv_hd gv_some isV_some pick2_true stc nfz_false oc1_int oc1_bool oc1_string oc1_slice oc1_pointer oc1_func pick1_true setCells_new setCells_past setCells_drew

theorem parse_ok {b : List Int} (h : parseC b = 0) : 20 ≤ hlen b ∧ hlen b ≤ b.length ∧ parseH b = hdOf b ∧ parseN b = hlen b ∧ (hlen b : Int) ≤ w16 b 2 ∧ wholeB (b.take (hlen b)) = true ∧ b.getD 0 0 / 16 = 4 ∧ ¬ 0 < bits .and .u16 (w16 b 6) 32768 := by
  have hH : parseH b = hdOf b := by unfold parseH; rw [if_pos h]
  have hN : parseN b = hlen b := by unfold parseN; rw [if_pos h]
  unfold parseC at h
  by_cases h1 : b.length < 20
  · rw [if_pos h1] at h; exact absurd h (by decide)
  rw [if_neg h1] at h
  by_cases h2 : b.getD 0 0 / 16 ≠ 4
  · rw [if_pos h2] at h; exact absurd h (by decide)
  rw [if_neg h2] at h
  by_cases h3 : hlen b < 20
  · rw [if_pos h3] at h; exact absurd h (by decide)
  rw [if_neg h3] at h
  by_cases h4 : b.length < hlen b
  · rw [if_pos h4] at h; exact absurd h (by decide)
  rw [if_neg h4] at h
  unfold mainC at h
  by_cases h5 : 0 < bits .and .u16 (w16 b 6) 32768 ∨ w16 b 2 < hlen b
  · rw [if_pos h5] at h; exact absurd h (by decide)
  rw [if_neg h5] at h
  obtain ⟨h6, h7⟩ := not_or.1 h5
  cases h8 : wholeB (b.take (hlen b)) with
  | false => rw [h8] at h; exact absurd h (by decide)
  | true => exact ⟨by omega, by omega, hH, hN, by omega, rfl, Classical.not_not.1 h2, h6⟩

/-- b[a:j], where j is of kind u16 -/
theorem cut_mid16 (A : Option Addr) (n c : Nat) (xs : List Int) (a b : Int) (hn : xs.length = n) (h0 : 0 ≤ a) (h1 : a ≤ b) (hm : b ≤ n) (hc : n ≤ c) :
    ∃ (T : List Int) (A' : Option Addr) (m c' : Nat), (∀ W : World, (Instr.slice 22 (.slice A n c) (some (.int .i64 a)) (some (.int .u16 b)) none).run Try.prog W = .ok (.slice A' m c') W) ∧
      (∀ w : World, Kd.C (Kd.int .u8) w A n xs → Kd.C (Kd.int .u8) w A' m T) ∧ m ≤ c' ∧ T = (xs.take b.toNat).drop a.toNat ∧ (m : Int) = b - a := by
  subst hn
  obtain ⟨i, hi, hz⟩ := Option.map_eq_some_iff.1 info_u8
  simp only [Prod.mk.injEq] at hz
  obtain ⟨A', h1', h2, h3⟩ := print_mid_of (P := Try.prog) (Value.int .u8) (0 : Int) 22 5 .i64 .u16 Try.underlying22 hi hz.2.1 A c xs a b h0 h1 hm hc
  exact ⟨_, _, _, _, h1', fun w h => Kd.C_of_reads (d := (0 : Int)) (h1 := fun _ => rfl) (h2 w (Kd.reads_of_C (enc := Value.int .u8) (d := (0 : Int)) (h1 := fun _ => rfl) h)), h3, rfl, by rw [List.length_drop, List.length_take]; omega⟩
/-- the error, and the row, that ip.Body answers -/
def bodyC (b : List Int) : Int := if parseC b ≠ 0 then parseC b else if (b.length : Int) < w16 b 2 then 10 else 0
def bodyL (b : List Int) : List Int := if bodyC b = 0 then (b.take (w16 b 2).toNat).drop (hlen b) else []
set_option maxRecDepth 100000 in
set_option maxHeartbeats 4000000 in
theorem body_any (b : List Int) (A : Option Addr) (n c : Nat) (w : World) (hC : Kd.C (Kd.int .u8) w A n b) (hc : n ≤ c) (hb : bytes b) (hn : n ≤ 1000000) :
    Calls Try.prog 25 #[.slice A n c] w fun e w' => ∃ A1 n1 c1, e = .returned (.tuple #[.slice A1 n1 c1, .int .i64 (bodyC b)]) ∧ Kd.R (Kd.int .u8) 5 w' w.heap.size (fun _ => True) (.slice A1 n1 c1) (bodyL b) ∧ Below w.heap.size w w' := by
  have hln := hC.1
  by_cases h0 : parseC b = 0
  · obtain ⟨f1, f2, f3, f4, f5, f6, f7, f8⟩ := parse_ok h0
    have hp := parse_all b A n c w hC hc hb hn
    obtain ⟨tr0, tr1⟩ := w16_range hb 2
    obtain ⟨H, eH⟩ : ∃ H, parseH b = H := ⟨_, rfl⟩
    have htt : H.total = w16 b 2 := by rw [← eH, f3]; rfl
    rw [h0, f4, eH] at hp
    obtain ⟨N, eN⟩ : ∃ N, hlen b = N := ⟨_, rfl⟩
    rw [eN] at hp f1 f2 f5
    obtain ⟨tt, ett⟩ : ∃ v, w16 b 2 = v := ⟨_, rfl⟩
    rw [ett] at htt f5 tr0 tr1
    obtain ⟨tos, total, id, df, mf, frag, ttl, proto, s0, s1, s2, s3, d0, d1, d2, d3⟩ := H
    dsimp only at htt
    subst htt
    by_cases hs : (n : Int) < total
    · have e1 : bodyC b = 10 := by unfold bodyC; rw [if_neg (Classical.not_not.2 h0), if_pos (by rw [ett]; omega)]
      have e2 : bodyL b = [] := by unfold bodyL; rw [e1]; rfl
      rw [e1, e2]
      have HP := Aside0.mk hp
      clear hC hp e1 e2 eH f3 f4 f6 f7 f8 h0 hln eN ett
      go_enter Try.func25, Try.ntmps25
      go_wp2_with fail
      refine HP.out.mono ?_
      rintro e w1 ⟨A1, n1, c1, rfl, hR, hb1⟩
      dsimp only
      have HB1 := Aside0.mk hb1
      clear hR hb1
      go_wp2_with fail
      refine bodyPost_ret (results_tmp2 rfl _ _ _) rfl ?_
      exact ⟨none, 0, 0, rfl, Kd.R_nil _ _ _ _ _, HB1.out.alloc HB1.out.size _⟩
    · have e1 : bodyC b = 0 := by unfold bodyC; rw [if_neg (Classical.not_not.2 h0), if_neg (by rw [ett]; omega)]
      have e2 : bodyL b = (b.take total.toNat).drop N := by unfold bodyL; rw [if_pos e1, ett, eN]
      rw [e1, e2]
      obtain ⟨T3, A3, m3, c3, hcut3, hrd3, hmc3, hT3, hm3⟩ := cut_mid16 A n c b N total hln (by omega) (by omega) (by omega) hc
      have hT3' : T3 = (b.take total.toNat).drop N := by rw [hT3]; rfl
      rw [← hT3']
      have HC3 := Aside0.mk (fun W (hW : Below w.heap.size w W) => clone_any T3 A3 m3 c3 W (Kd.C_below (hrd3 w hC) hW) (by omega))
      have HP := Aside0.mk hp
      clear hC hp e1 e2 eH f3 f4 f6 f7 f8 h0 hln eN ett hT3 hT3' hrd3 hm3
      go_enter Try.func25, Try.ntmps25
      go_wp2_with fail
      refine HP.out.mono ?_
      rintro e w1 ⟨A1, n1, c1, rfl, hR, hb1⟩
      dsimp only
      have HB1 := Aside0.mk hb1
      clear hR hb1
      go_wp2_with fail
      refine (HC3.out _ (HB1.out.alloc HB1.out.size _)).mono ?_
      rintro e w2 ⟨v, rfl, hR2, hb2⟩
      obtain ⟨A', c', rfl⟩ := Kd.R_slice hR2
      dsimp only
      have hs1 := HB1.out.size
      have HB2 := Aside0.mk (below_then (HB1.out.alloc HB1.out.size _) (by simp; omega) hb2)
      have HR2 := Aside0.mk (Kd.R_lower hR2 (show w.heap.size ≤ _ by simp; omega))
      clear hR2 hb2 hs1
      go_wp2_with fail
      refine bodyPost_ret (results_tmp2 rfl _ _ _) rfl ?_
      exact ⟨_, _, _, rfl, HR2.out, HB2.out⟩
  · have e1 : bodyC b = parseC b := by unfold bodyC; rw [if_pos h0]
    have e2 : bodyL b = [] := by unfold bodyL; rw [e1, if_neg h0]
    have hp := parse_all b A n c w hC hc hb hn
    obtain ⟨H, eH⟩ : ∃ H, parseH b = H := ⟨_, rfl⟩
    obtain ⟨k, ek⟩ : ∃ k, parseC b = k := ⟨_, rfl⟩
    rw [e1, e2]
    rw [eH] at hp
    rw [ek] at hp h0 ⊢
    obtain ⟨tos, total, id, df, mf, frag, ttl, proto, s0, s1, s2, s3, d0, d1, d2, d3⟩ := H
    have HP := Aside0.mk hp
    clear hC hp e1 e2 eH hln ek
    go_enter Try.func25, Try.ntmps25
    go_wp2_with fail
    refine HP.out.mono ?_
    rintro e w1 ⟨A1, n1, c1, rfl, hR, hb1⟩
    dsimp only
    have HB1 := Aside0.mk hb1
    clear hR hb1
    go_wp2_with fail
    refine bodyPost_ret (results_tmp2 rfl _ _ _) rfl ?_
    exact ⟨none, 0, 0, rfl, Kd.R_nil _ _ _ _ _, HB1.out.alloc HB1.out.size _⟩
end Go.Proofs.Ytknpaihlnkcpgaa.Own
/- ip.Hop. -/
set_option linter.unusedVariables false
set_option linter.unusedSimpArgs false
namespace Go.Proofs.Ytknpaihlnkcpgaa.Own
open Go.RowKit Go.Proofs.YtknpaihlnkcpgaaW.PrintWords Go.Proofs.YtknpaihlnkcpgaaW.PrintLast Go.Proofs.YtknpaihlnkcpgaaW.PrintMore
attribute [local go_sem ↓] ld17 ld4 sv_hd
attribute [local go_sem] run_sv_hd gv_some isV_some pick2_true stc nfz_false oc1_int oc1_bool oc1_string oc1_slice oc1_pointer oc1_func pick1_true setCells_new setCells_past setCells_drew

/-- the error, and the row, that ip.Hop answers -/
def hopC (b : List Int) : Int := if parseC b ≠ 0 then parseC b else if b.getD 8 0 = 0 then 51 else 0
def hopS (b : List Int) : Int := chg (w16 b 10) (w16 b 8) (w16 (b.set 8 (b.getD 8 0 - 1)) 8)
def hopL (b : List Int) : List Int := if hopC b = 0 then ((b.set 8 (b.getD 8 0 - 1)).set 10 (hopS b / 256)).set 11 (hopS b % 256) else []
theorem chg_range (s f t : Int) (s0 : 0 ≤ s) (s1 : s ≤ 65535) (f0 : 0 ≤ f) (f1 : f ≤ 65535) (t0 : 0 ≤ t) (t1 : t ≤ 65535) : 0 ≤ chg s f t ∧ chg s f t ≤ 65535 := by
  obtain ⟨r0, r1⟩ := cf_range (65535 - s + (65535 - f) + t) (by omega)
  unfold chg
  omega
set_option maxRecDepth 100000 in
set_option maxHeartbeats 4000000 in
theorem hop_any (b : List Int) (A : Option Addr) (n c : Nat) (w : World) (hC : Kd.C (Kd.int .u8) w A n b) (hc : n ≤ c) (hb : bytes b) (hn : n ≤ 1000000) :
    Calls Try.prog 21 #[.slice A n c] w fun e w' => ∃ A1 n1 c1, e = .returned (.tuple #[.slice A1 n1 c1, .int .i64 (hopC b)]) ∧ Kd.R (Kd.int .u8) 5 w' w.heap.size (fun _ => True) (.slice A1 n1 c1) (hopL b) ∧ Below w.heap.size w w' := by
  have hln := hC.1
  by_cases h0 : parseC b = 0
  · obtain ⟨f1, f2, f3, f4, f5, f6, f7, f8⟩ := parse_ok h0
    have hp := parse_all b A n c w hC hc hb hn
    obtain ⟨q0, q1⟩ := bytes_getD hb 8
    obtain ⟨H, eH⟩ : ∃ H, parseH b = H := ⟨_, rfl⟩
    have htt : H.ttl = b.getD 8 0 := by rw [← eH, f3]; rfl
    rw [h0, eH] at hp
    obtain ⟨tos, total, id, df, mf, frag, ttl, proto, s0, s1, s2, s3, d0, d1, d2, d3⟩ := H
    dsimp only at htt
    obtain ⟨t8, et8⟩ : ∃ v, b.getD 8 0 = v := ⟨_, rfl⟩
    rw [et8] at htt q0 q1
    subst htt
    by_cases hz : ttl = 0
    · have e1 : hopC b = 51 := by unfold hopC; rw [if_neg (Classical.not_not.2 h0), if_pos (by rw [et8]; exact hz)]
      have e2 : hopL b = [] := by unfold hopL; rw [e1]; rfl
      rw [e1, e2]
      have HP := Aside0.mk hp
      clear hC hp e1 e2 eH f1 f2 f3 f4 f5 f6 f7 f8 h0 hln et8
      go_enter Try.func21, Try.ntmps21
      go_wp2_with fail
      refine HP.out.mono ?_
      rintro e w1 ⟨A1, n1, c1, rfl, hR, hb1⟩
      dsimp only
      have HB1 := Aside0.mk hb1
      clear hR hb1
      go_wp2_with fail
      refine bodyPost_ret (results_tmp2 rfl _ _ _) rfl ?_
      exact ⟨none, 0, 0, rfl, Kd.R_nil _ _ _ _ _, HB1.out.alloc HB1.out.size _⟩
    · have e1 : hopC b = 0 := by unfold hopC; rw [if_neg (Classical.not_not.2 h0), if_neg (by rw [et8]; exact hz)]
      obtain ⟨nn, enn⟩ : ∃ v, hopS b = v := ⟨_, rfl⟩
      have e2 : hopL b = ((b.set 8 (ttl - 1)).set 10 (nn / 256)).set 11 (nn % 256) := by unfold hopL; rw [if_pos e1, et8, enn]
      rw [e1, e2]
      have hbs : bytes (b.set 8 (ttl - 1)) := bytes_set hb 8 (ttl - 1) (by omega) (by omega)
      have hn20 : 20 ≤ n := by omega
      have r10 := w16_range hb 10
      have r8 := w16_range hb 8
      have rb := w16_range hbs 8
      unfold hopS at enn
      rw [et8] at enn
      have HW10 := Aside0.mk (fun W (hW : Below w.heap.size w W) => word_any b A n c 10 10 rfl W (Kd.C_below hC hW) hc hb (by omega))
      have HW8 := Aside0.mk (fun W (hW : Below w.heap.size w W) => word_any b A n c 8 8 rfl W (Kd.C_below hC hW) hc hb (by omega))
      have HWX := Aside0.mk (fun A' c' W (hW : Kd.C (Kd.int .u8) W A' n (b.set 8 (ttl - 1))) (hcc : n ≤ c') => word_any (b.set 8 (ttl - 1)) A' n c' 8 8 rfl W hW hcc hbs (by omega))
      have HCH := Aside0.mk (fun W => change_any (w16 b 10) (w16 b 8) (w16 (b.set 8 (ttl - 1)) 8) W r10.1 r10.2 r8.1 r8.2 rb.1 rb.2)
      have hnr : 0 ≤ nn ∧ nn ≤ 65535 := by rw [← enn]; exact chg_range _ _ _ r10.1 r10.2 r8.1 r8.2 rb.1 rb.2
      rw [enn] at HCH
      obtain ⟨a10, ea10⟩ : ∃ v, w16 b 10 = v := ⟨_, rfl⟩
      obtain ⟨a8, ea8⟩ : ∃ v, w16 b 8 = v := ⟨_, rfl⟩
      obtain ⟨ax, eax⟩ : ∃ v, w16 (b.set 8 (ttl - 1)) 8 = v := ⟨_, rfl⟩
      rw [ea10, ea8, eax] at HCH
      change Aside0 (∀ W, Below w.heap.size w W → Calls Try.prog 39 #[.slice A n c, .int .i64 10] W fun e w' => e = .returned (.int .u16 (w16 b 10)) ∧ W = w') at HW10
      change Aside0 (∀ W, Below w.heap.size w W → Calls Try.prog 39 #[.slice A n c, .int .i64 8] W fun e w' => e = .returned (.int .u16 (w16 b 8)) ∧ W = w') at HW8
      change Aside0 (∀ A' c' W, _ → _ → Calls Try.prog 39 #[.slice A' n c', .int .i64 8] W fun e w' => e = .returned (.int .u16 (w16 (b.set 8 (ttl - 1)) 8)) ∧ W = w') at HWX
      rw [ea10] at HW10
      rw [ea8] at HW8
      rw [eax] at HWX
      obtain ⟨n0, n1'⟩ := hnr
      have HCL := Aside0.mk (fun W (hW : Below w.heap.size w W) => clone_any b A n c W (Kd.C_below hC hW) (by omega))
      have HP := Aside0.mk hp
      have HL := Aside0.mk hln
      have hw1 : IntKind.u8.wrap (ttl - 1) = ttl - 1 := IntWalk.u8_in _ (by omega)
      have E8 := Aside0.mk et8
      clear hC hp e1 e2 eH f1 f2 f3 f4 f5 f6 f7 f8 h0 hln et8 enn ea10 ea8 eax r10 r8 rb hb hbs
      go_enter Try.func21, Try.ntmps21
      go_wp2_with fail
      refine HP.out.mono ?_
      rintro e w1 ⟨A1, n1, c1, rfl, hR, hb1⟩
      dsimp only
      have HB1 := Aside0.mk hb1
      clear hR hb1
      go_wp2_with fail
      refine (HCL.out _ (HB1.out.alloc HB1.out.size _)).mono ?_
      rintro e w2 ⟨v, rfl, hR2, hb2⟩
      obtain ⟨A', c', rfl⟩ := Kd.R_slice hR2
      dsimp only
      rw [HL.out] at hR2 ⊢
      have hs1 := HB1.out.size
      have hb2' := below_then (HB1.out.alloc HB1.out.size _) (by simp; omega) hb2
      have hR2 := Kd.R_lower hR2 (show w.heap.size ≤ _ by simp; omega)
      obtain ⟨ga, capa, e4, hga, _, _⟩ := Kd.R_form hR2 (by have := HL.out; omega)
      obtain rfl : A' = some ⟨ga, 0, none⟩ := by injection e4
      obtain ⟨hcx, hfx⟩ := Kd.R_celln (0 : Int) hR2 8 (by omega) (by omega)
      have ex : (8 : Int).toNat = 8 := rfl
      rw [ex] at hcx hfx
      have e8 : rdOf 0 b 8 = ttl := E8.out
      rw [e8] at hcx
      have HPN := Aside0.mk (fun y => Kd.R_putn hR2 (8 : Int) y)
      have HB2 := Aside0.mk hb2'
      have HGA := Aside0.mk hga
      clear hR2 hb2 hb2' hs1 hga e4 e8 ex
      go_upto_region 8 with fail
      have hR3 := HPN.out (ttl - 1)
      have hB3 := HB2.out.setCell (p := ⟨ga, 8, none⟩) HGA.out (.int .u8 (ttl - 1))
      have ex : (8 : Int).toNat = 8 := rfl
      rw [ex] at hR3
      clear HPN hcx hfx
      generalize w2.setCell ⟨ga, 8, none⟩ (.int .u8 (ttl - 1)) = w3 at hR3 hB3 ⊢
      have hC3 := (C_of_R hR3).1
      have hcc := (C_of_R hR3).2
      have hx10 := Kd.R_celln (0 : Int) hR3 10 (by omega) (by omega)
      have hx11 := Kd.R_celln (0 : Int) hR3 11 (by omega) (by omega)
      have ex1 : (10 : Int).toNat = 10 := rfl
      have ex2 : (11 : Int).toNat = 11 := rfl
      rw [ex1] at hx10
      rw [ex2] at hx11
      obtain ⟨hcx10, hfx10⟩ := hx10
      obtain ⟨hcx11, hfx11⟩ := hx11
      have HR3 := Aside0.mk hR3
      have HC3 := Aside0.mk hC3
      have HCC := Aside0.mk hcc
      have HB3 := Aside0.mk hB3
      have hs8 : IntKind.u8.wrap (nn / 256) = nn / 256 := IntWalk.u8_in _ (by omega)
      have hs9 : IntKind.u8.wrap nn = nn % 256 := by
        rw [IntKind.wrap_u8]
      clear hR3 hC3 hcc hB3 ex ex1 ex2
      go_upto_region 9 with (first | (with_reducible refine (HW10.out _ HB3.out).mono ?_; rintro e w4 ⟨rfl, rfl⟩) | (with_reducible refine (HW8.out _ HB3.out).mono ?_; rintro e w4 ⟨rfl, rfl⟩) | (with_reducible refine (HWX.out _ _ _ HC3.out HCC.out).mono ?_; rintro e w4 ⟨rfl, rfl⟩) | (with_reducible refine (HCH.out _).mono ?_; rintro e w4 ⟨rfl, rfl⟩))
      go_wp2_with fail
      refine bodyPost_ret (results_tmp2 rfl _ _ _) rfl ?_
      exact ⟨_, _, _, rfl, Kd.R_putn (Kd.R_putn HR3.out 10 _) 11 _, (HB3.out.setCell (p := ⟨ga, 10, none⟩) HGA.out _).setCell (p := ⟨ga, 11, none⟩) HGA.out _⟩
  · have e1 : hopC b = parseC b := by unfold hopC; rw [if_pos h0]
    have e2 : hopL b = [] := by unfold hopL; rw [e1, if_neg h0]
    have hp := parse_all b A n c w hC hc hb hn
    obtain ⟨H, eH⟩ : ∃ H, parseH b = H := ⟨_, rfl⟩
    obtain ⟨k, ek⟩ : ∃ k, parseC b = k := ⟨_, rfl⟩
    rw [e1, e2]
    rw [eH] at hp
    rw [ek] at hp h0 ⊢
    obtain ⟨tos, total, id, df, mf, frag, ttl, proto, s0, s1, s2, s3, d0, d1, d2, d3⟩ := H
    have HP := Aside0.mk hp
    clear hC hp e1 e2 eH hln ek
    go_enter Try.func21, Try.ntmps21
    go_wp2_with fail
    refine HP.out.mono ?_
    rintro e w1 ⟨A1, n1, c1, rfl, hR, hb1⟩
    dsimp only
    have HB1 := Aside0.mk hb1
    clear hR hb1
    go_wp2_with fail
    refine bodyPost_ret (results_tmp2 rfl _ _ _) rfl ?_
    exact ⟨none, 0, 0, rfl, Kd.R_nil _ _ _ _ _, HB1.out.alloc HB1.out.size _⟩
end Go.Proofs.Ytknpaihlnkcpgaa.Own
/- octroiref01.Get of two bytes. -/
set_option linter.unusedVariables false
set_option linter.unusedSimpArgs false
namespace Go.Proofs.Ytknpaihlnkcpgaa.Own
open Go.RowKit Go.Proofs.YtknpaihlnkcpgaaW.PrintWords Go.Proofs.YtknpaihlnkcpgaaW.PrintLast Go.Proofs.YtknpaihlnkcpgaaW.PrintMore

/-- what is read of two bytes -/
def part2 (b : List Int) (i k : Nat) : Int := if k = 0 then 0 else if k = 1 then b.getD i 0 else w16 b i
set_option maxRecDepth 100000 in
theorem rget2_any (b : List Int) (A : Option Addr) (n c i : Nat) (w : World) (hC : Kd.C (Kd.int .u8) w A n b) (hb : bytes b) (hn : i + 2 ≤ n) (hn2 : n ≤ 1000000) :
    Calls Try.prog 43 #[.slice A n c, .int .i64 i, .int .i64 2] w fun e w' => e = .returned (.tuple #[.int .u64 (w16 b i), .int .i64 0]) ∧ w = w' := by
  obtain ⟨x0a, x0b⟩ := bytes_getD hb i
  obtain ⟨x1a, x1b⟩ := bytes_getD hb (i + 1)
  have hg0 := Kd.at_int hC i (by omega) (by omega)
  have hg1 := Kd.at_int hC (i + 1) (by omega) (by omega)
  obtain ⟨ad, rfl, hx0⟩ := hg0
  obtain ⟨ad', e', hx1⟩ := hg1
  cases e'
  have e0 : part2 b i 0 = 0 := rfl
  have e1 : part2 b i 1 = b.getD i 0 := rfl
  have e2 : part2 b i 2 = w16 b i := rfl
  have ew : w16 b i = b.getD i 0 * 256 + b.getD (i + 1) 0 := rfl
  have hx0 : w.cell? (ad.add i) = some (.int .u8 (b.getD i 0)) := hx0
  have hx1 : w.cell? ⟨ad.block, ad.off + (i + 1), none⟩ = some (.int .u8 (b.getD (i + 1) 0)) := by
    have e : ad.add ((i : Int) + 1).toNat = ⟨ad.block, ad.off + (i + 1), none⟩ := by
      have : ((i : Int) + 1).toNat = i + 1 := by omega
      rw [this]; unfold Addr.add; rw [if_neg (by omega)]
    rw [e] at hx1
    exact hx1
  obtain ⟨y0, ey0⟩ : ∃ v, b.getD i 0 = v := ⟨_, rfl⟩
  obtain ⟨y1, ey1⟩ : ∃ v, b.getD (i + 1) 0 = v := ⟨_, rfl⟩
  obtain ⟨ws, ews⟩ : ∃ v, w16 b i = v := ⟨_, rfl⟩
  rw [ey0, ey1, ews] at ew
  rw [ey0] at e1 hx0 x0a x0b
  rw [ey1] at hx1 x1a x1b
  rw [ews] at e2 ⊢
  clear ey0 ey1 ews
  have HX0 := Aside0.mk hx0
  have HX1 := Aside0.mk hx1
  clear hC hb hx0 hx1
  go_enter Try.func43, Try.ntmps43
  go_wp2_with fail
  go_loopw [8, 9] (fun q r wr => wr = w ∧ ∃ k : Nat, k ≤ 2 ∧ r = .int .i64 k ∧ q = .int .u64 (part2 b i k)) (fun _ r _ => 2 - (intOf r).toNat)
  case atStart => exact ⟨rfl, 0, by omega, rfl, rfl⟩
  case round =>
    obtain ⟨rfl, k, hk, rfl, rfl⟩ := hrel
    have hx0 := HX0.out
    have hx1 := HX1.out
    rcases (by omega : k = 0 ∨ k = 1 ∨ k = 2) with rfl | rfl | rfl
    · rw [e0]
      have hlt : ¬ (n : Int) ≤ i := by omega
      have hlt2 : ¬ (n : Int) < i := by omega
      have hi : (i : Int) < n := by omega
      go_wp2
      go_roundw
      case rel => exact ⟨trivial, 1, by omega, by go_num, by rw [e1]⟩
      case measure => simp [intOf]
    · rw [e1]
      have hlt2 : ¬ (n : Int) < i := by omega
      have hi : (i : Int) + 1 < n := by omega
      go_wp2
      go_roundw
      case rel => exact ⟨trivial, 2, by omega, by go_num, by rw [e2, ew]⟩
      case measure => simp [intOf]
    · rw [e2]
      go_wp2
      refine bodyPost_ret (results_tmp2 rfl _ _ _) rfl ?_
      exact ⟨rfl, rfl⟩
end Go.Proofs.Ytknpaihlnkcpgaa.Own
/- octroiref05.Parse on rows that it refuses at once. -/
set_option linter.unusedVariables false
set_option linter.unusedSimpArgs false
namespace Go.Proofs.Ytknpaihlnkcpgaa.Own
open Go.RowKit Go.Proofs.YtknpaihlnkcpgaaW.PrintWords Go.Proofs.YtknpaihlnkcpgaaW.PrintLast Go.Proofs.YtknpaihlnkcpgaaW.PrintMore
attribute [local go_sem ↓] ld11 sv_rh
attribute [local go_sem] run_sv_rh gv_some isV_some pick2_true stc nfz_false oc1_int oc1_bool oc1_string oc1_slice oc1_pointer oc1_func pick1_true setCells_new setCells_past setCells_drew

/-- the reference's header that is nothing -/
abbrev noRh : Value := .agg (rcs zHd ⟨#[]⟩ ⟨#[]⟩ ⟨#[]⟩)
theorem no_cells (w : World) : ((w.alloc (.cells #[.int .u8 0, .int .u16 0, .int .u16 0, .bool false, .bool false, .int .u16 0, .int .u8 0, .int .u8 0, .string ⟨#[]⟩, .string ⟨#[]⟩, .string ⟨#[]⟩] 41)).alloc (.cells #[.int .u8 0, .int .u16 0, .int .u16 0, .bool false, .bool false, .int .u16 0, .int .u8 0, .int .u8 0, .string ⟨#[]⟩, .string ⟨#[]⟩, .string ⟨#[]⟩] 41)).cell? ⟨w.heap.size, 0, none⟩ = some (.int .u8 0) ∧ ((w.alloc (.cells #[.int .u8 0, .int .u16 0, .int .u16 0, .bool false, .bool false, .int .u16 0, .int .u8 0, .int .u8 0, .string ⟨#[]⟩, .string ⟨#[]⟩, .string ⟨#[]⟩] 41)).alloc (.cells #[.int .u8 0, .int .u16 0, .int .u16 0, .bool false, .bool false, .int .u16 0, .int .u8 0, .int .u8 0, .string ⟨#[]⟩, .string ⟨#[]⟩, .string ⟨#[]⟩] 41)).cell? ⟨w.heap.size, 1, none⟩ = some (.int .u16 0) ∧ ((w.alloc (.cells #[.int .u8 0, .int .u16 0, .int .u16 0, .bool false, .bool false, .int .u16 0, .int .u8 0, .int .u8 0, .string ⟨#[]⟩, .string ⟨#[]⟩, .string ⟨#[]⟩] 41)).alloc (.cells #[.int .u8 0, .int .u16 0, .int .u16 0, .bool false, .bool false, .int .u16 0, .int .u8 0, .int .u8 0, .string ⟨#[]⟩, .string ⟨#[]⟩, .string ⟨#[]⟩] 41)).cell? ⟨w.heap.size, 2, none⟩ = some (.int .u16 0) ∧ ((w.alloc (.cells #[.int .u8 0, .int .u16 0, .int .u16 0, .bool false, .bool false, .int .u16 0, .int .u8 0, .int .u8 0, .string ⟨#[]⟩, .string ⟨#[]⟩, .string ⟨#[]⟩] 41)).alloc (.cells #[.int .u8 0, .int .u16 0, .int .u16 0, .bool false, .bool false, .int .u16 0, .int .u8 0, .int .u8 0, .string ⟨#[]⟩, .string ⟨#[]⟩, .string ⟨#[]⟩] 41)).cell? ⟨w.heap.size, 3, none⟩ = some (.bool false) ∧ ((w.alloc (.cells #[.int .u8 0, .int .u16 0, .int .u16 0, .bool false, .bool false, .int .u16 0, .int .u8 0, .int .u8 0, .string ⟨#[]⟩, .string ⟨#[]⟩, .string ⟨#[]⟩] 41)).alloc (.cells #[.int .u8 0, .int .u16 0, .int .u16 0, .bool false, .bool false, .int .u16 0, .int .u8 0, .int .u8 0, .string ⟨#[]⟩, .string ⟨#[]⟩, .string ⟨#[]⟩] 41)).cell? ⟨w.heap.size, 4, none⟩ = some (.bool false) ∧ ((w.alloc (.cells #[.int .u8 0, .int .u16 0, .int .u16 0, .bool false, .bool false, .int .u16 0, .int .u8 0, .int .u8 0, .string ⟨#[]⟩, .string ⟨#[]⟩, .string ⟨#[]⟩] 41)).alloc (.cells #[.int .u8 0, .int .u16 0, .int .u16 0, .bool false, .bool false, .int .u16 0, .int .u8 0, .int .u8 0, .string ⟨#[]⟩, .string ⟨#[]⟩, .string ⟨#[]⟩] 41)).cell? ⟨w.heap.size, 5, none⟩ = some (.int .u16 0) ∧ ((w.alloc (.cells #[.int .u8 0, .int .u16 0, .int .u16 0, .bool false, .bool false, .int .u16 0, .int .u8 0, .int .u8 0, .string ⟨#[]⟩, .string ⟨#[]⟩, .string ⟨#[]⟩] 41)).alloc (.cells #[.int .u8 0, .int .u16 0, .int .u16 0, .bool false, .bool false, .int .u16 0, .int .u8 0, .int .u8 0, .string ⟨#[]⟩, .string ⟨#[]⟩, .string ⟨#[]⟩] 41)).cell? ⟨w.heap.size, 6, none⟩ = some (.int .u8 0) ∧ ((w.alloc (.cells #[.int .u8 0, .int .u16 0, .int .u16 0, .bool false, .bool false, .int .u16 0, .int .u8 0, .int .u8 0, .string ⟨#[]⟩, .string ⟨#[]⟩, .string ⟨#[]⟩] 41)).alloc (.cells #[.int .u8 0, .int .u16 0, .int .u16 0, .bool false, .bool false, .int .u16 0, .int .u8 0, .int .u8 0, .string ⟨#[]⟩, .string ⟨#[]⟩, .string ⟨#[]⟩] 41)).cell? ⟨w.heap.size, 7, none⟩ = some (.int .u8 0) ∧ ((w.alloc (.cells #[.int .u8 0, .int .u16 0, .int .u16 0, .bool false, .bool false, .int .u16 0, .int .u8 0, .int .u8 0, .string ⟨#[]⟩, .string ⟨#[]⟩, .string ⟨#[]⟩] 41)).alloc (.cells #[.int .u8 0, .int .u16 0, .int .u16 0, .bool false, .bool false, .int .u16 0, .int .u8 0, .int .u8 0, .string ⟨#[]⟩, .string ⟨#[]⟩, .string ⟨#[]⟩] 41)).cell? ⟨w.heap.size, 8, none⟩ = some (.string ⟨#[]⟩) ∧ ((w.alloc (.cells #[.int .u8 0, .int .u16 0, .int .u16 0, .bool false, .bool false, .int .u16 0, .int .u8 0, .int .u8 0, .string ⟨#[]⟩, .string ⟨#[]⟩, .string ⟨#[]⟩] 41)).alloc (.cells #[.int .u8 0, .int .u16 0, .int .u16 0, .bool false, .bool false, .int .u16 0, .int .u8 0, .int .u8 0, .string ⟨#[]⟩, .string ⟨#[]⟩, .string ⟨#[]⟩] 41)).cell? ⟨w.heap.size, 9, none⟩ = some (.string ⟨#[]⟩) ∧ ((w.alloc (.cells #[.int .u8 0, .int .u16 0, .int .u16 0, .bool false, .bool false, .int .u16 0, .int .u8 0, .int .u8 0, .string ⟨#[]⟩, .string ⟨#[]⟩, .string ⟨#[]⟩] 41)).alloc (.cells #[.int .u8 0, .int .u16 0, .int .u16 0, .bool false, .bool false, .int .u16 0, .int .u8 0, .int .u8 0, .string ⟨#[]⟩, .string ⟨#[]⟩, .string ⟨#[]⟩] 41)).cell? ⟨w.heap.size, 10, none⟩ = some (.string ⟨#[]⟩) := by
  have hbx := ((below_alloc1 (w.alloc (.cells (rcs zHd ⟨#[]⟩ ⟨#[]⟩ ⟨#[]⟩) 41)) (.cells (rcs zHd ⟨#[]⟩ ⟨#[]⟩ ⟨#[]⟩) 41)).block w.heap.size (by simp)).trans (heap_alloc_new w (.cells (rcs zHd ⟨#[]⟩ ⟨#[]⟩ ⟨#[]⟩) 41))
  have hc := rh_cells hbx
  simp only [rcs] at hc
  exact hc
set_option maxRecDepth 100000 in
theorem rparse_short (A : Option Addr) (n c : Nat) (w : World) (hn : n < 20) :
    Calls Try.prog 22 #[.slice A n c] w fun e w' => e = .returned (.tuple #[noRh, .int .i64 0, .int .i64 10]) ∧ Below w.heap.size w w' := by
  have HC := Aside0.mk (no_cells w)
  go_enter Try.func22, Try.ntmps22
  go_wp2
  refine bodyPost_ret (v := .tuple #[noRh, .int .i64 0, .int .i64 10]) ?_ rfl ⟨rfl, below_alloc2 w _ _⟩
  simp [results, Try.results22, go_sem, HC.out]
set_option maxRecDepth 100000 in
theorem rparse_early (b : List Int) (A : Option Addr) (n c : Nat) (w : World) (k : Int) (hC : Kd.C (Kd.int .u8) w A n b) (hb : bytes b) (hn : 20 ≤ n)
    (h : (k = 50 ∧ b.getD 0 0 / 16 ≠ 4) ∨ (k = 51 ∧ b.getD 0 0 / 16 = 4 ∧ b.getD 0 0 % 16 * 4 < 20) ∨ (k = 10 ∧ b.getD 0 0 / 16 = 4 ∧ ¬ b.getD 0 0 % 16 * 4 < 20 ∧ (n : Int) < b.getD 0 0 % 16 * 4)) :
    Calls Try.prog 22 #[.slice A n c] w fun e w' => e = .returned (.tuple #[noRh, .int .i64 0, .int .i64 k]) ∧ Below w.heap.size w w' := by
  obtain ⟨ad, rfl, hx⟩ := Kd.at_int hC 0 (by omega) (by omega)
  have e0 : ad.add (0 : Int).toNat = ad := Addr.add_zero' ad
  have hx2 : w.cell? ad = some (.int .u8 (b.getD 0 0)) := by rw [e0] at hx; exact hx
  have hb0 := bytes_getD hb 0
  obtain ⟨x, ex⟩ : ∃ x, b.getD 0 0 = x := ⟨_, rfl⟩
  rw [ex] at hx2 hb0 h
  obtain ⟨xa, xb⟩ := hb0
  have hx3 := pw_cell_below (below_alloc2 w (.cells (rcs zHd ⟨#[]⟩ ⟨#[]⟩ ⟨#[]⟩) 41) (.cells (rcs zHd ⟨#[]⟩ ⟨#[]⟩ ⟨#[]⟩) 41)) hx2
  simp only [rcs] at hx3
  have HC := Aside0.mk (no_cells w)
  clear hC hx e0 ex hb
  rcases h with ⟨rfl, h⟩ | ⟨rfl, h, h2⟩ | ⟨rfl, h, h2, h3⟩
  · have hneq : (x / 16 != 4) = true := by simpa using h
    clear h
    go_enter Try.func22, Try.ntmps22
    go_wp2
    refine bodyPost_ret (v := .tuple #[noRh, .int .i64 0, .int .i64 50]) ?_ rfl ⟨rfl, below_alloc2 w _ _⟩
    simp [results, Try.results22, go_sem, HC.out]
  · have hneq : (x / 16 != 4) = false := by rw [h]; rfl
    clear h
    go_enter Try.func22, Try.ntmps22
    go_wp2
    refine bodyPost_ret (v := .tuple #[noRh, .int .i64 0, .int .i64 51]) ?_ rfl ⟨rfl, below_alloc2 w _ _⟩
    simp [results, Try.results22, go_sem, HC.out]
  · have hneq : (x / 16 != 4) = false := by rw [h]; rfl
    clear h
    go_enter Try.func22, Try.ntmps22
    go_wp2
    refine bodyPost_ret (v := .tuple #[noRh, .int .i64 0, .int .i64 10]) ?_ rfl ⟨rfl, below_alloc2 w _ _⟩
    simp [results, Try.results22, go_sem, HC.out]
end Go.Proofs.Ytknpaihlnkcpgaa.Own
/- Single bits of a word: told by a mask, or by a quotient. -/
set_option linter.unusedVariables false
set_option linter.unusedSimpArgs false
namespace Go.Proofs.Ytknpaihlnkcpgaa.Own
open Go.RowKit Go.Proofs.YtknpaihlnkcpgaaW.PrintWords Go.Proofs.YtknpaihlnkcpgaaW.PrintLast Go.Proofs.YtknpaihlnkcpgaaW.PrintMore

theorem u16_bit (x : Int) (i : Nat) (hi : i < 16) (h0 : 0 ≤ x) (h1 : x ≤ 65535) : (0 < bits .and .u16 x ((2 ^ i : Nat) : Int)) ↔ x / ((2 ^ i : Nat) : Int) % 2 = 1 := by
  obtain ⟨a, rfl⟩ := Int.eq_ofNat_of_zero_le h0
  have ha : a < 2 ^ 16 := by omega
  have hp : 2 ^ i < 2 ^ 16 := Nat.pow_lt_pow_right (by decide) hi
  rw [(bits_nat .u16 16 (by decide) wraps_u16 a (2 ^ i) ha hp).1]
  have h3 := and_two_pow_eq_zero (a : Int) i (Int.natCast_nonneg _)
  rw [Int.toNat_natCast, toNat_two_pow] at h3
  have h4 : ((2 ^ i : Nat) : Int) = (2 : Int) ^ i := by simp
  rw [h4]
  constructor
  · intro h
    apply Classical.byContradiction
    intro hn
    have := h3.2 hn
    omega
  · intro h
    have : a &&& 2 ^ i ≠ 0 := fun h5 => (h3.1 h5) h
    omega
theorem u16_bit15 (x : Int) (h0 : 0 ≤ x) (h1 : x ≤ 65535) : (0 < bits .and .u16 x 32768) ↔ 32768 ≤ x := by
  refine (u16_bit x 15 (by decide) h0 h1).trans ?_
  show x / 32768 % 2 = 1 ↔ _
  omega
theorem u16_bit14 (x : Int) (h0 : 0 ≤ x) (h1 : x ≤ 65535) : (0 < bits .and .u16 x 16384) ↔ x / 16384 % 2 = 1 := u16_bit x 14 (by decide) h0 h1
theorem u16_bit13 (x : Int) (h0 : 0 ≤ x) (h1 : x ≤ 65535) : (0 < bits .and .u16 x 8192) ↔ x / 8192 % 2 = 1 := u16_bit x 13 (by decide) h0 h1
theorem u16_low13 (x : Int) (h0 : 0 ≤ x) (h1 : x ≤ 65535) : bits .and .u16 x 8191 = x % 8192 := bits_mask .u16 16 (by decide) wraps_u16 13 (by decide) x h0 (by omega)
end Go.Proofs.Ytknpaihlnkcpgaa.Own
/- octroiref05.Parse on rows that pass the first checks (UNDER WAY: does not build yet). -/
set_option linter.unusedVariables false
set_option linter.unusedSimpArgs false
namespace Go.Proofs.Ytknpaihlnkcpgaa.Own
open Go.RowKit Go.Proofs.YtknpaihlnkcpgaaW.PrintWords Go.Proofs.YtknpaihlnkcpgaaW.PrintLast Go.Proofs.YtknpaihlnkcpgaaW.PrintMore
attribute [local go_sem ↓] ld11 sv_rh
attribute [local go_sem] run_sv_rh gv_some isV_some pick2_true stc nfz_false oc1_int oc1_bool oc1_string oc1_slice oc1_pointer oc1_func pick1_true setCells_new setCells_past setCells_drew

theorem rwhole_at (b : List Int) (A : Option Addr) (n c : Nat) (w : World) (hr : Kd.C (Kd.int .u8) w A n b) (hb : bytes b) (hn : b.length ≤ 1048576) :
    Calls Try.prog 44 #[.slice A n c] w fun e w' => e = .returned (.bool (wholeB b)) ∧ Below w.heap.size w w' := by
  obtain rfl := hr.1
  exact rwhole_any b A c w hr hb hn
/-- the cells as a list -/
abbrev rls (h : Hd) (S D O : ByteArray) : List Value := [.int .u8 h.tos, .int .u16 h.total, .int .u16 h.id, .bool h.df, .bool h.mf, .int .u16 h.frag, .int .u8 h.ttl, .int .u8 h.proto, .string S, .string D, .string O]
theorem rh_put {w : World} {b t : Nat} {h0 : Hd} {S0 D0 O0 : ByteArray} {h : Hd} {S D O : ByteArray} (hb : w.heap[b]? = some (.cells (rcs h0 S0 D0 O0) t (0, 0))) : (w.setCells b 0 (rls h S D O)).heap[b]? = some (.cells (rcs h S D O) t (0, 0)) := blk_setCells hb rfl
/-- the reference's header that stands there -/
abbrev rdocOf (b : List Int) (N : Nat) : Array Value := rcs (hdOf b) (strOfNums ((b.take 16).drop 12)) (strOfNums ((b.take 20).drop 16)) (strOfNums ((b.take N).drop 20))
set_option maxRecDepth 100000 in
set_option maxHeartbeats 4000000 in
theorem rparse_main (b : List Int) (A : Option Addr) (n c N : Nat) (w : World) (hC : Kd.C (Kd.int .u8) w A n b) (hc : n ≤ c) (hb : bytes b) (hn : n ≤ 1000000) (h0 : b.getD 0 0 / 16 = 4) (hN : (N : Int) = b.getD 0 0 % 16 * 4) (hN20 : 20 ≤ N) (hNn : N ≤ n) :
    Calls Try.prog 22 #[.slice A n c] w fun e w' => (mainC b N = 0 → e = .returned (.tuple #[.agg (rdocOf b N), .int .i64 N, .int .i64 0])) ∧ (mainC b N ≠ 0 → e = .returned (.tuple #[noRh, .int .i64 0, .int .i64 (mainC b N)])) ∧ Below w.heap.size w w' := by
  have hln := hC.1
  obtain ⟨PO, ePO⟩ : ∃ PO : Ending → World → Prop, PO = fun e w' => (mainC b N = 0 → e = .returned (.tuple #[.agg (rdocOf b N), .int .i64 N, .int .i64 0])) ∧ (mainC b N ≠ 0 → e = .returned (.tuple #[noRh, .int .i64 0, .int .i64 (mainC b N)])) ∧ Below w.heap.size w w' := ⟨_, rfl⟩
  rw [← ePO]
  have HPO := Aside0.mk ePO
  have HW2 : Aside0 (∀ W, Below w.heap.size w W → Calls Try.prog 43 #[.slice A n c, .int .i64 2, .int .i64 2] W fun e w' => e = .returned (.tuple #[.int .u64 (w16 b 2), .int .i64 0]) ∧ W = w') := ⟨fun W hW => rget2_any b A n c 2 W (Kd.C_below hC hW) hb (by omega) hn⟩
  have HW4 : Aside0 (∀ W, Below w.heap.size w W → Calls Try.prog 43 #[.slice A n c, .int .i64 4, .int .i64 2] W fun e w' => e = .returned (.tuple #[.int .u64 (w16 b 4), .int .i64 0]) ∧ W = w') := ⟨fun W hW => rget2_any b A n c 4 W (Kd.C_below hC hW) hb (by omega) hn⟩
  have HW6 : Aside0 (∀ W, Below w.heap.size w W → Calls Try.prog 43 #[.slice A n c, .int .i64 6, .int .i64 2] W fun e w' => e = .returned (.tuple #[.int .u64 (w16 b 6), .int .i64 0]) ∧ W = w') := ⟨fun W hW => rget2_any b A n c 6 W (Kd.C_below hC hW) hb (by omega) hn⟩
  obtain ⟨T4, m4, hcut4, hrd4, hmc4, hT4, hm4⟩ := cut_take A n c b N hln (by omega) (by omega) hc
  have HWH := Aside0.mk (fun W (hW : Below w.heap.size w W) => rwhole_at T4 A m4 c W (Kd.C_below (hrd4 w hC) hW) (by rw [hT4]; exact bytes_take hb _) (by rw [hT4, List.length_take]; omega))
  obtain ⟨ad, rfl, hx⟩ := Kd.at_int hC 0 (by omega) (by omega)
  have e0 : ad.add (0 : Int).toNat = ad := Addr.add_zero' ad
  have hx2 : w.cell? ad = some (.int .u8 (b.getD 0 0)) := by rw [e0] at hx; exact hx
  have hb0 := bytes_getD hb 0
  obtain ⟨x, ex⟩ : ∃ x, b.getD 0 0 = x := ⟨_, rfl⟩
  rw [ex] at hx2 hb0 h0 hN
  obtain ⟨xa, xb⟩ := hb0
  have hx3 := pw_cell_below (below_alloc2 w (.cells (rcs zHd ⟨#[]⟩ ⟨#[]⟩ ⟨#[]⟩) 41) (.cells (rcs zHd ⟨#[]⟩ ⟨#[]⟩ ⟨#[]⟩) 41)) hx2
  simp only [rcs] at hx3
  have HC := Aside0.mk (no_cells w)
  have hneq : (x / 16 != 4) = false := by rw [h0]; rfl
  have hxN : x % 16 * 4 = (N : Int) := by omega
  have hN1 : ¬ (N : Int) < 20 := by omega
  have hN2 : ¬ (n : Int) < N := by omega
  obtain ⟨T5, A5, m5, q5, hcut5, hrd5, hmc5, hT5, hm5⟩ := cut_mid (some ad) n c b 12 16 hln (by omega) (by omega) (by omega) hc
  obtain ⟨T6, A6, m6, q6, hcut6, hrd6, hmc6, hT6, hm6⟩ := cut_mid (some ad) n c b 16 20 hln (by omega) (by omega) (by omega) hc
  obtain ⟨T7, A7, m7, q7, hcut7, hrd7, hmc7, hT7, hm7⟩ := cut_mid (some ad) n c b 20 N hln (by omega) (by omega) (by omega) hc
  obtain ⟨S5, eS5⟩ : ∃ v, strOfNums T5 = v := ⟨_, rfl⟩
  obtain ⟨S6, eS6⟩ : ∃ v, strOfNums T6 = v := ⟨_, rfl⟩
  obtain ⟨S7, eS7⟩ : ∃ v, strOfNums T7 = v := ⟨_, rfl⟩
  have hcell : ∀ i : Nat, i < n → w.cell? (ad.add i) = some (.int .u8 (b.getD i 0)) := fun i hi => by
    obtain ⟨ad', e', hx⟩ := Kd.at_int hC i (by omega) (by omega)
    cases e'
    exact hx
  have hmk : ∀ W', Below w.heap.size w W' → Below w.heap.size w W' ∧ W'.cell? { block := ad.block, off := ad.off + 1 } = some (.int .u8 (b.getD 1 0)) ∧ W'.cell? { block := ad.block, off := ad.off + 8 } = some (.int .u8 (b.getD 8 0)) ∧ W'.cell? { block := ad.block, off := ad.off + 9 } = some (.int .u8 (b.getD 9 0)) ∧ (convert 22 9 (.slice A5 m5 q5)).run Try.prog W' = .ok (.string S5) W' ∧ (convert 22 9 (.slice A6 m6 q6)).run Try.prog W' = .ok (.string S6) W' ∧ (convert 22 9 (.slice A7 m7 q7)).run Try.prog W' = .ok (.string S7) W' := fun W' hW => by
    rw [← eS5, ← eS6, ← eS7]
    exact ⟨hW, pw_cell_below hW (hcell 1 (by omega)), pw_cell_below hW (hcell 8 (by omega)), pw_cell_below hW (hcell 9 (by omega)),
      Kd.C_string (c := q5) Try.underlying22 Try.underlying5 Try.underlying9 (Kd.C_below (hrd5 w hC) hW),
      Kd.C_string (c := q6) Try.underlying22 Try.underlying5 Try.underlying9 (Kd.C_below (hrd6 w hC) hW),
      Kd.C_string (c := q7) Try.underlying22 Try.underlying5 Try.underlying9 (Kd.C_below (hrd7 w hC) hW)⟩
  obtain ⟨b1, eb1⟩ : ∃ v, b.getD 1 0 = v := ⟨_, rfl⟩
  obtain ⟨b8, eb8⟩ : ∃ v, b.getD 8 0 = v := ⟨_, rfl⟩
  obtain ⟨b9, eb9⟩ : ∃ v, b.getD 9 0 = v := ⟨_, rfl⟩
  rw [eb1, eb8, eb9] at hmk
  have HMK := Aside0.mk hmk
  have HE := Aside0.mk (And.intro eb1 (And.intro eb8 eb9))
  have HS := Aside0.mk (And.intro eS5 (And.intro eS6 eS7))
  have HT := Aside0.mk (And.intro hT5 (And.intro hT6 hT7))
  clear hmk hcell eb1 eb8 eb9 eS5 eS6 eS7 hT5 hT6 hT7 hrd5 hrd6 hrd7 hm5 hm6 hm7
  have HCC := Aside0.mk hC
  have r6 := w16_range hb 6
  have r2 := w16_range hb 2
  have r4 := w16_range hb 4
  obtain ⟨fr, efr⟩ : ∃ v, w16 b 6 = v := ⟨_, rfl⟩
  obtain ⟨tt, ett⟩ : ∃ v, w16 b 2 = v := ⟨_, rfl⟩
  obtain ⟨idd, eid⟩ : ∃ v, w16 b 4 = v := ⟨_, rfl⟩
  rw [efr] at HW6 r6
  rw [ett] at HW2 r2
  rw [eid] at HW4 r4
  have hbd : (0 < bits .and .u16 (w16 b 6) 32768 ∨ w16 b 2 < N) ↔ (32768 ≤ fr ∨ tt < N) := by rw [efr, ett, u16_bit15 fr r6.1 r6.2]
  have hp51 : (32768 ≤ fr ∨ tt < N) → ∀ w', Below w.heap.size w w' → PO (.returned (.tuple #[noRh, .int .i64 0, .int .i64 51])) w' := fun h w' hw => by
    have hm : mainC b N = 51 := by unfold mainC; rw [if_pos (hbd.2 h)]
    rw [ePO, hm]
    exact ⟨fun h => absurd h (by decide), fun _ => rfl, hw⟩
  have hp52 : ¬ (32768 ≤ fr ∨ tt < N) → wholeB T4 = false → ∀ w', Below w.heap.size w w' → PO (.returned (.tuple #[noRh, .int .i64 0, .int .i64 52])) w' := fun h h2 w' hw => by
    have hm : mainC b N = 52 := by
      unfold mainC
      rw [if_neg (fun h3 => h (hbd.1 h3)), show b.take N = T4 by rw [hT4]; rfl, h2]
      rfl
    rw [ePO, hm]
    exact ⟨fun h => absurd h (by decide), fun _ => rfl, hw⟩
  have HP52 := Aside0.mk hp52
  clear hp52
  have HP51 := Aside0.mk hp51
  clear hp51
  have HBD := Aside0.mk hbd
  clear hbd
  have EF := Aside0.mk efr
  have ET := Aside0.mk ett
  have EI := Aside0.mk eid
  obtain ⟨r6a, r6b⟩ := r6
  obtain ⟨r2a, r2b⟩ := r2
  obtain ⟨r4a, r4b⟩ := r4
  clear efr ett eid
  have HP0 : Aside0 (¬ (32768 ≤ fr ∨ tt < N) → wholeB T4 = true → ∀ w', Below w.heap.size w w' → PO (.returned (.tuple #[.agg (rcs ⟨b1, IntKind.u16.wrap tt, IntKind.u16.wrap idd, ((IntKind.u64.wrap (fr.tdiv 16384)).tmod 2 == 1), ((IntKind.u64.wrap (fr.tdiv 8192)).tmod 2 == 1), IntKind.u16.wrap (fr.tmod 8192), b8, b9, 0, 0, 0, 0, 0, 0, 0, 0⟩ S5 S6 S7), .int .i64 N, .int .i64 0])) w') := ⟨fun h h2 w' hw => by
    have hm : mainC b N = 0 := by
      unfold mainC
      rw [if_neg (fun h3 => h (HBD.out.1 h3)), show b.take N = T4 by rw [hT4]; rfl, h2]
      rfl
    have q1 : IntKind.u16.wrap tt = tt := IntWalk.u16_in _ (by omega)
    have q2 : IntKind.u16.wrap idd = idd := IntWalk.u16_in _ (by omega)
    have q3 : ((IntKind.u64.wrap (fr.tdiv 16384)).tmod 2 == 1) = decide (0 < bits .and .u16 fr 16384) := by
      rw [Bool.eq_iff_iff, beq_iff_eq, decide_eq_true_iff, u16_bit14 fr r6a r6b, Int.tdiv_eq_ediv_of_nonneg r6a, IntWalk.u64_in _ (by omega), Int.tmod_eq_emod_of_nonneg (by omega)]
    have q4 : ((IntKind.u64.wrap (fr.tdiv 8192)).tmod 2 == 1) = decide (0 < bits .and .u16 fr 8192) := by
      rw [Bool.eq_iff_iff, beq_iff_eq, decide_eq_true_iff, u16_bit13 fr r6a r6b, Int.tdiv_eq_ediv_of_nonneg r6a, IntWalk.u64_in _ (by omega), Int.tmod_eq_emod_of_nonneg (by omega)]
    have q5 : IntKind.u16.wrap (fr.tmod 8192) = bits .and .u16 fr 8191 := by
      rw [u16_low13 fr r6a r6b, Int.tmod_eq_emod_of_nonneg r6a, IntWalk.u16_in _ (by omega)]
    have z5 : strOfNums ((b.take 16).drop 12) = S5 := by rw [← HS.out.1, HT.out.1]; rfl
    have z6 : strOfNums ((b.take 20).drop 16) = S6 := by rw [← HS.out.2.1, HT.out.2.1]; rfl
    have z7 : strOfNums ((b.take N).drop 20) = S7 := by rw [← HS.out.2.2, HT.out.2.2]; rfl
    have hd : rdocOf b N = rcs ⟨b1, IntKind.u16.wrap tt, IntKind.u16.wrap idd, ((IntKind.u64.wrap (fr.tdiv 16384)).tmod 2 == 1), ((IntKind.u64.wrap (fr.tdiv 8192)).tmod 2 == 1), IntKind.u16.wrap (fr.tmod 8192), b8, b9, 0, 0, 0, 0, 0, 0, 0, 0⟩ S5 S6 S7 := by
      simp only [rdocOf, rcs, hdOf, HE.out.1, HE.out.2.1, HE.out.2.2, EF.out, ET.out, EI.out, q1, q2, q3, q4, q5, z5, z6, z7]
    rw [ePO, hm, hd]
    exact ⟨fun _ => rfl, fun h3 => absurd rfl h3, hw⟩⟩
  clear hC hx hx2 e0 ex hb hln h0 hN hT4 hm4 hrd4 ePO
  go_enter Try.func22, Try.ntmps22
  by_cases hbad : 32768 ≤ fr
  · go_wp2_with (first | (with_reducible refine (HW2.out _ (below_alloc2 w _ _)).mono ?_; rintro e w4 ⟨rfl, rfl⟩) | (with_reducible refine (HW4.out _ (below_alloc2 w _ _)).mono ?_; rintro e w4 ⟨rfl, rfl⟩) | (with_reducible refine (HW6.out _ (below_alloc2 w _ _)).mono ?_; rintro e w4 ⟨rfl, rfl⟩))
    refine bodyPost_ret (v := .tuple #[noRh, .int .i64 0, .int .i64 51]) ?_ rfl (HP51.out (Or.inl (by assumption)) _ (below_alloc2 w _ _))
    simp [results, Try.results22, go_sem, HC.out]
  · by_cases htn : tt < N
    · go_wp2_with (first | (with_reducible refine (HW2.out _ (below_alloc2 w _ _)).mono ?_; rintro e w4 ⟨rfl, rfl⟩) | (with_reducible refine (HW4.out _ (below_alloc2 w _ _)).mono ?_; rintro e w4 ⟨rfl, rfl⟩) | (with_reducible refine (HW6.out _ (below_alloc2 w _ _)).mono ?_; rintro e w4 ⟨rfl, rfl⟩))
      refine bodyPost_ret (v := .tuple #[noRh, .int .i64 0, .int .i64 51]) ?_ rfl (HP51.out (Or.inr (by assumption)) _ (below_alloc2 w _ _))
      simp [results, Try.results22, go_sem, HC.out]
    · go_wp2_with (first | (with_reducible refine (HW2.out _ (below_alloc2 w _ _)).mono ?_; rintro e w4 ⟨rfl, rfl⟩) | (with_reducible refine (HW4.out _ (below_alloc2 w _ _)).mono ?_; rintro e w4 ⟨rfl, rfl⟩) | (with_reducible refine (HW6.out _ (below_alloc2 w _ _)).mono ?_; rintro e w4 ⟨rfl, rfl⟩))
      refine (HWH.out _ (below_alloc2 w _ _)).mono ?_
      rintro e w5 ⟨rfl, hb5⟩
      dsimp only
      have hs1 : (w.alloc (.cells (rcs zHd ⟨#[]⟩ ⟨#[]⟩ ⟨#[]⟩) 41)).heap.size = w.heap.size + 1 := by simp
      have hs2 : ((w.alloc (.cells (rcs zHd ⟨#[]⟩ ⟨#[]⟩ ⟨#[]⟩) 41)).alloc (.cells (rcs zHd ⟨#[]⟩ ⟨#[]⟩ ⟨#[]⟩) 41)).heap.size = w.heap.size + 2 := by simp
      have hz2 := (hb5.block w.heap.size (show _ < ((w.alloc (.cells (rcs zHd ⟨#[]⟩ ⟨#[]⟩ ⟨#[]⟩) 41)).alloc (.cells (rcs zHd ⟨#[]⟩ ⟨#[]⟩ ⟨#[]⟩) 41)).heap.size by omega)).trans (((below_alloc1 (w.alloc (.cells (rcs zHd ⟨#[]⟩ ⟨#[]⟩ ⟨#[]⟩) 41)) (.cells (rcs zHd ⟨#[]⟩ ⟨#[]⟩ ⟨#[]⟩) 41)).block w.heap.size (by omega)).trans (heap_alloc_new w (.cells (rcs zHd ⟨#[]⟩ ⟨#[]⟩ ⟨#[]⟩) 41)))
      have hz5 : w5.heap[w.heap.size + 1]? = some (.cells (rcs zHd ⟨#[]⟩ ⟨#[]⟩ ⟨#[]⟩) 41) := (hb5.block (w.heap.size + 1) (show _ < ((w.alloc (.cells (rcs zHd ⟨#[]⟩ ⟨#[]⟩ ⟨#[]⟩) 41)).alloc (.cells (rcs zHd ⟨#[]⟩ ⟨#[]⟩ ⟨#[]⟩) 41)).heap.size by omega)).trans (by rw [← hs1]; exact heap_alloc_new (w.alloc (.cells (rcs zHd ⟨#[]⟩ ⟨#[]⟩ ⟨#[]⟩) 41)) (.cells (rcs zHd ⟨#[]⟩ ⟨#[]⟩ ⟨#[]⟩) 41))
      have HB5 := Aside0.mk (below_then (below_alloc2 w (.cells (rcs zHd ⟨#[]⟩ ⟨#[]⟩ ⟨#[]⟩) 41) (.cells (rcs zHd ⟨#[]⟩ ⟨#[]⟩ ⟨#[]⟩) 41)) (show _ ≤ ((w.alloc (.cells (rcs zHd ⟨#[]⟩ ⟨#[]⟩ ⟨#[]⟩) 41)).alloc (.cells (rcs zHd ⟨#[]⟩ ⟨#[]⟩ ⟨#[]⟩) 41)).heap.size by omega) hb5)
      clear hb5 hs1 hs2
      have HZ2 := Aside0.mk hz2
      have hfz := fz_new hz2
      obtain ⟨c0, c1, c2, c3, c4, c5, c6, c7, c8, c9, c10⟩ := rh_cells hz2
      obtain ⟨k0, k1, k2, k3, k4, k5, k6, k7, k8, k9, k10⟩ := rh_cells hz5
      dsimp only at c0 c1 c2 c3 c4 c5 c6 c7 c8 c9 c10 k0 k1 k2 k3 k4 k5 k6 k7 k8 k9 k10
      clear hz2 hz5
      cases hwb : wholeB T4 with
      | false =>
        go_upto_region 17 with fail
        iterate 6 (first | go_values | go_skip | go_guarded | go_step | go_upon | go_back)
        have hx6 := rh_put (h := zHd) (S := ⟨#[]⟩) (D := ⟨#[]⟩) (O := ⟨#[]⟩) HZ2.out
        have hb6 := below_setCells (vs := rls zHd ⟨#[]⟩ ⟨#[]⟩ ⟨#[]⟩) (i := 0) HB5.out (Nat.le_refl _)
        dsimp only [rls] at hx6 hb6
        clear c0 c1 c2 c3 c4 c5 c6 c7 c8 c9 c10 k0 k1 k2 k3 k4 k5 k6 k7 k8 k9 k10 hfz
        generalize World.setCells _ _ _ _ = w6 at hx6 hb6 ⊢
        have hc6 := rh_cells hx6
        dsimp only at hc6
        go_wp2
        refine bodyPost_ret (v := .tuple #[noRh, .int .i64 0, .int .i64 52]) ?_ rfl (HP52.out (not_or.2 ⟨by omega, by omega⟩) hwb _ hb6)
        simp [results, Try.results22, go_sem, hc6]
      | true =>
        have hi1 : (1 : Int) < (n : Int) := by omega
        have hi8 : (8 : Int) < (n : Int) := by omega
        have hi9 : (9 : Int) < (n : Int) := by omega
        go_upto_region 18 with fail
        refine wp_region_noPanic ?_
        refine wp_region_plan (fun W' => Below w.heap.size w W' ∧ W'.cell? { block := ad.block, off := ad.off + 1 } = some (.int .u8 b1) ∧ W'.cell? { block := ad.block, off := ad.off + 8 } = some (.int .u8 b8) ∧ W'.cell? { block := ad.block, off := ad.off + 9 } = some (.int .u8 b9) ∧ (convert 22 9 (.slice A5 m5 q5)).run Try.prog W' = .ok (.string S5) W' ∧ (convert 22 9 (.slice A6 m6 q6)).run Try.prog W' = .ok (.string S6) W' ∧ (convert 22 9 (.slice A7 m7 q7)).run Try.prog W' = .ok (.string S7) W') (.q 0 (.q 1 (.q 2 (.q 3 (.q 4 (.q 5 (.q 6 (.q 7 (.q 8 (.q 9 (.q 10 (.q 11 (.q 12 (.q 13 (.q 14 (.q 15 (.q 16 (.q 17 (.q 18 (.q 19 (.q 20 (.q 21 (.q 22 (.q 23 (.q 24 (.q 25 (.q 26 (.q 27 (.q 28 (.q 29 (.q 30 (.q 31 (.q 32 (.q 33 (.q 34 (.q 35 (.e 36 (.q 37 (.q 38 .done))))))))))))))))))))))))))))))))))))))) (by kernel_rfl) (by kernel_rfl) (fun _ _ _ _ _ h => h) (by kernel_rfl) (by kernel_rfl) (HMK.out _ (below_drew HB5.out)) ?_
        refine plan_val (o := ?_) (v := ?_) ?_ ?_ (fun w' hSw => ?_) ?_
        rotate_left 2
        focus ((simp only [List.getElem?_toArray, List.getElem?_cons_succ, List.getElem?_cons_zero]); try with_reducible rfl)
        focus rfl
        focus ((try dsimp only at hSw); go_simp; try with_reducible rfl)
        try simp only [Act.put, List.setIfInBounds_toArray, List.set_cons_zero, List.set_cons_succ]
        refine plan_val (o := ?_) (v := ?_) ?_ ?_ (fun w' hSw => ?_) ?_
        rotate_left 2
        focus ((simp only [List.getElem?_toArray, List.getElem?_cons_succ, List.getElem?_cons_zero]); try with_reducible rfl)
        focus rfl
        focus ((try dsimp only at hSw); go_simp; try with_reducible rfl)
        try simp only [Act.put, List.setIfInBounds_toArray, List.set_cons_zero, List.set_cons_succ]
        refine plan_val (o := ?_) (v := ?_) ?_ ?_ (fun w' hSw => ?_) ?_
        rotate_left 2
        focus ((simp only [List.getElem?_toArray, List.getElem?_cons_succ, List.getElem?_cons_zero]); try with_reducible rfl)
        focus rfl
        focus ((try dsimp only at hSw); go_simp; try with_reducible rfl)
        try simp only [Act.put, List.setIfInBounds_toArray, List.set_cons_zero, List.set_cons_succ]
        refine plan_val (o := ?_) (v := ?_) ?_ ?_ (fun w' hSw => ?_) ?_
        rotate_left 2
        focus ((simp only [List.getElem?_toArray, List.getElem?_cons_succ, List.getElem?_cons_zero]); try with_reducible rfl)
        focus rfl
        focus ((try dsimp only at hSw); go_simp; try with_reducible rfl)
        try simp only [Act.put, List.setIfInBounds_toArray, List.set_cons_zero, List.set_cons_succ]
        refine plan_val (o := ?_) (v := ?_) ?_ ?_ (fun w' hSw => ?_) ?_
        rotate_left 2
        focus ((simp only [List.getElem?_toArray, List.getElem?_cons_succ, List.getElem?_cons_zero]); try with_reducible rfl)
        focus rfl
        focus ((try dsimp only at hSw); go_simp; try with_reducible rfl)
        try simp only [Act.put, List.setIfInBounds_toArray, List.set_cons_zero, List.set_cons_succ]
        refine plan_val (o := ?_) (v := ?_) ?_ ?_ (fun w' hSw => ?_) ?_
        rotate_left 2
        focus ((simp only [List.getElem?_toArray, List.getElem?_cons_succ, List.getElem?_cons_zero]); try with_reducible rfl)
        focus rfl
        focus ((try dsimp only at hSw); go_simp; try with_reducible rfl)
        try simp only [Act.put, List.setIfInBounds_toArray, List.set_cons_zero, List.set_cons_succ]
        refine plan_val (o := ?_) (v := ?_) ?_ ?_ (fun w' hSw => ?_) ?_
        rotate_left 2
        focus ((simp only [List.getElem?_toArray, List.getElem?_cons_succ, List.getElem?_cons_zero]); try with_reducible rfl)
        focus rfl
        focus ((try dsimp only at hSw); go_simp; try with_reducible rfl)
        try simp only [Act.put, List.setIfInBounds_toArray, List.set_cons_zero, List.set_cons_succ]
        refine plan_val (o := ?_) (v := ?_) ?_ ?_ (fun w' hSw => ?_) ?_
        rotate_left 2
        focus ((simp only [List.getElem?_toArray, List.getElem?_cons_succ, List.getElem?_cons_zero]); try with_reducible rfl)
        focus rfl
        focus ((try dsimp only at hSw); go_simp; try with_reducible rfl)
        try simp only [Act.put, List.setIfInBounds_toArray, List.set_cons_zero, List.set_cons_succ]
        refine plan_val (o := ?_) (v := ?_) ?_ ?_ (fun w' hSw => ?_) ?_
        rotate_left 2
        focus ((simp only [List.getElem?_toArray, List.getElem?_cons_succ, List.getElem?_cons_zero]); try with_reducible rfl)
        focus rfl
        focus ((try dsimp only at hSw); go_simp; try with_reducible rfl)
        try simp only [Act.put, List.setIfInBounds_toArray, List.set_cons_zero, List.set_cons_succ]
        refine plan_val (o := ?_) (v := ?_) ?_ ?_ (fun w' hSw => ?_) ?_
        rotate_left 2
        focus ((simp only [List.getElem?_toArray, List.getElem?_cons_succ, List.getElem?_cons_zero]); try with_reducible rfl)
        focus rfl
        focus ((try dsimp only at hSw); go_simp; try with_reducible rfl)
        try simp only [Act.put, List.setIfInBounds_toArray, List.set_cons_zero, List.set_cons_succ]
        refine plan_val (o := ?_) (v := ?_) ?_ ?_ (fun w' hSw => ?_) ?_
        rotate_left 2
        focus ((simp only [List.getElem?_toArray, List.getElem?_cons_succ, List.getElem?_cons_zero]); try with_reducible rfl)
        focus rfl
        focus ((try dsimp only at hSw); go_simp; try with_reducible rfl)
        try simp only [Act.put, List.setIfInBounds_toArray, List.set_cons_zero, List.set_cons_succ]
        refine plan_val (o := ?_) (v := ?_) ?_ ?_ (fun w' hSw => ?_) ?_
        rotate_left 2
        focus ((simp only [List.getElem?_toArray, List.getElem?_cons_succ, List.getElem?_cons_zero]); try with_reducible rfl)
        focus rfl
        focus ((try dsimp only at hSw); go_simp; try with_reducible rfl)
        try simp only [Act.put, List.setIfInBounds_toArray, List.set_cons_zero, List.set_cons_succ]
        refine plan_val (o := ?_) (v := ?_) ?_ ?_ (fun w' hSw => ?_) ?_
        rotate_left 2
        focus ((simp only [List.getElem?_toArray, List.getElem?_cons_succ, List.getElem?_cons_zero]); try with_reducible rfl)
        focus rfl
        focus ((try dsimp only at hSw); go_simp; try with_reducible rfl)
        try simp only [Act.put, List.setIfInBounds_toArray, List.set_cons_zero, List.set_cons_succ]
        refine plan_val (o := ?_) (v := ?_) ?_ ?_ (fun w' hSw => ?_) ?_
        rotate_left 2
        focus ((simp only [List.getElem?_toArray, List.getElem?_cons_succ, List.getElem?_cons_zero]); try with_reducible rfl)
        focus rfl
        focus ((try dsimp only at hSw); go_simp; try with_reducible rfl)
        try simp only [Act.put, List.setIfInBounds_toArray, List.set_cons_zero, List.set_cons_succ]
        refine plan_val (o := ?_) (v := ?_) ?_ ?_ (fun w' hSw => ?_) ?_
        rotate_left 2
        focus ((simp only [List.getElem?_toArray, List.getElem?_cons_succ, List.getElem?_cons_zero]); try with_reducible rfl)
        focus rfl
        focus ((try dsimp only at hSw); go_simp; try with_reducible rfl)
        try simp only [Act.put, List.setIfInBounds_toArray, List.set_cons_zero, List.set_cons_succ]
        refine plan_val (o := ?_) (v := ?_) ?_ ?_ (fun w' hSw => ?_) ?_
        rotate_left 2
        focus ((simp only [List.getElem?_toArray, List.getElem?_cons_succ, List.getElem?_cons_zero]); try with_reducible rfl)
        focus rfl
        focus ((try dsimp only at hSw); go_simp; try with_reducible rfl)
        try simp only [Act.put, List.setIfInBounds_toArray, List.set_cons_zero, List.set_cons_succ]
        refine plan_val (o := ?_) (v := ?_) ?_ ?_ (fun w' hSw => ?_) ?_
        rotate_left 2
        focus ((simp only [List.getElem?_toArray, List.getElem?_cons_succ, List.getElem?_cons_zero]); try with_reducible rfl)
        focus rfl
        focus ((try dsimp only at hSw); go_simp; try with_reducible rfl)
        try simp only [Act.put, List.setIfInBounds_toArray, List.set_cons_zero, List.set_cons_succ]
        refine plan_val (o := ?_) (v := ?_) ?_ ?_ (fun w' hSw => ?_) ?_
        rotate_left 2
        focus ((simp only [List.getElem?_toArray, List.getElem?_cons_succ, List.getElem?_cons_zero]); try with_reducible rfl)
        focus rfl
        focus ((try dsimp only at hSw); go_simp; try with_reducible rfl)
        try simp only [Act.put, List.setIfInBounds_toArray, List.set_cons_zero, List.set_cons_succ]
        refine plan_val (o := ?_) (v := ?_) ?_ ?_ (fun w' hSw => ?_) ?_
        rotate_left 2
        focus ((simp only [List.getElem?_toArray, List.getElem?_cons_succ, List.getElem?_cons_zero]); try with_reducible rfl)
        focus rfl
        focus ((try dsimp only at hSw); go_simp; try with_reducible rfl)
        try simp only [Act.put, List.setIfInBounds_toArray, List.set_cons_zero, List.set_cons_succ]
        refine plan_val (o := ?_) (v := ?_) ?_ ?_ (fun w' hSw => ?_) ?_
        rotate_left 2
        focus ((simp only [List.getElem?_toArray, List.getElem?_cons_succ, List.getElem?_cons_zero]); try with_reducible rfl)
        focus rfl
        focus ((try dsimp only at hSw); go_simp; try with_reducible rfl)
        try simp only [Act.put, List.setIfInBounds_toArray, List.set_cons_zero, List.set_cons_succ]
        refine plan_val (o := ?_) (v := ?_) ?_ ?_ (fun w' hSw => ?_) ?_
        rotate_left 2
        focus ((simp only [List.getElem?_toArray, List.getElem?_cons_succ, List.getElem?_cons_zero]); try with_reducible rfl)
        focus rfl
        focus ((try dsimp only at hSw); go_simp; try with_reducible rfl)
        try simp only [Act.put, List.setIfInBounds_toArray, List.set_cons_zero, List.set_cons_succ]
        refine plan_val (o := ?_) (v := ?_) ?_ ?_ (fun w' hSw => ?_) ?_
        rotate_left 2
        focus ((simp only [List.getElem?_toArray, List.getElem?_cons_succ, List.getElem?_cons_zero]); try with_reducible rfl)
        focus rfl
        focus ((try dsimp only at hSw); go_simp; try with_reducible rfl)
        try simp only [Act.put, List.setIfInBounds_toArray, List.set_cons_zero, List.set_cons_succ]
        refine plan_val (o := ?_) (v := ?_) ?_ ?_ (fun w' hSw => ?_) ?_
        rotate_left 2
        focus ((simp only [List.getElem?_toArray, List.getElem?_cons_succ, List.getElem?_cons_zero]); try with_reducible rfl)
        focus rfl
        focus ((try dsimp only at hSw); go_simp; try with_reducible rfl)
        try simp only [Act.put, List.setIfInBounds_toArray, List.set_cons_zero, List.set_cons_succ]
        refine plan_val (o := ?_) (v := ?_) ?_ ?_ (fun w' hSw => ?_) ?_
        rotate_left 2
        focus ((simp only [List.getElem?_toArray, List.getElem?_cons_succ, List.getElem?_cons_zero]); try with_reducible rfl)
        focus rfl
        focus ((try dsimp only at hSw); go_simp; try with_reducible rfl)
        try simp only [Act.put, List.setIfInBounds_toArray, List.set_cons_zero, List.set_cons_succ]
        refine plan_val (o := ?_) (v := ?_) ?_ ?_ (fun w' hSw => ?_) ?_
        rotate_left 2
        focus ((simp only [List.getElem?_toArray, List.getElem?_cons_succ, List.getElem?_cons_zero]); try with_reducible rfl)
        focus rfl
        focus ((try dsimp only at hSw); go_simp; try with_reducible rfl)
        try simp only [Act.put, List.setIfInBounds_toArray, List.set_cons_zero, List.set_cons_succ]
        refine plan_val (o := ?_) (v := ?_) ?_ ?_ (fun w' hSw => ?_) ?_
        rotate_left 2
        focus ((simp only [List.getElem?_toArray, List.getElem?_cons_succ, List.getElem?_cons_zero]); try with_reducible rfl)
        focus rfl
        focus ((try dsimp only at hSw); go_simp; try with_reducible rfl)
        try simp only [Act.put, List.setIfInBounds_toArray, List.set_cons_zero, List.set_cons_succ]
        refine plan_val (o := ?_) (v := ?_) ?_ ?_ (fun w' hSw => ?_) ?_
        rotate_left 2
        focus ((simp only [List.getElem?_toArray, List.getElem?_cons_succ, List.getElem?_cons_zero]); try with_reducible rfl)
        focus rfl
        focus ((try dsimp only at hSw); go_simp; try with_reducible rfl)
        try simp only [Act.put, List.setIfInBounds_toArray, List.set_cons_zero, List.set_cons_succ]
        refine plan_val (o := ?_) (v := ?_) ?_ ?_ (fun w' hSw => ?_) ?_
        rotate_left 2
        focus ((simp only [List.getElem?_toArray, List.getElem?_cons_succ, List.getElem?_cons_zero]); try with_reducible rfl)
        focus rfl
        focus ((try dsimp only at hSw); go_simp; try with_reducible rfl)
        try simp only [Act.put, List.setIfInBounds_toArray, List.set_cons_zero, List.set_cons_succ]
        refine plan_val (o := ?_) (v := ?_) ?_ ?_ (fun w' hSw => ?_) ?_
        rotate_left 2
        focus ((simp only [List.getElem?_toArray, List.getElem?_cons_succ, List.getElem?_cons_zero]); try with_reducible rfl)
        focus rfl
        focus ((try dsimp only at hSw); go_simp; try with_reducible rfl)
        try simp only [Act.put, List.setIfInBounds_toArray, List.set_cons_zero, List.set_cons_succ]
        refine plan_val (o := ?_) (v := ?_) ?_ ?_ (fun w' hSw => ?_) ?_
        rotate_left 2
        focus ((simp only [List.getElem?_toArray, List.getElem?_cons_succ, List.getElem?_cons_zero]); try with_reducible rfl)
        focus rfl
        focus ((try dsimp only at hSw); go_simp; try with_reducible rfl)
        try simp only [Act.put, List.setIfInBounds_toArray, List.set_cons_zero, List.set_cons_succ]
        refine plan_val (o := ?_) (v := ?_) ?_ ?_ (fun w' hSw => ?_) ?_
        rotate_left 2
        focus ((simp only [List.getElem?_toArray, List.getElem?_cons_succ, List.getElem?_cons_zero]); try with_reducible rfl)
        focus rfl
        focus ((try dsimp only at hSw); go_simp; try with_reducible rfl)
        try simp only [Act.put, List.setIfInBounds_toArray, List.set_cons_zero, List.set_cons_succ]
        refine plan_val (o := ?_) (v := ?_) ?_ ?_ (fun w' hSw => ?_) ?_
        rotate_left 2
        focus ((simp only [List.getElem?_toArray, List.getElem?_cons_succ, List.getElem?_cons_zero]); try with_reducible rfl)
        focus rfl
        focus ((try dsimp only at hSw); go_simp; try with_reducible rfl)
        try simp only [Act.put, List.setIfInBounds_toArray, List.set_cons_zero, List.set_cons_succ]
        refine plan_val (o := ?_) (v := ?_) ?_ ?_ (fun w' hSw => ?_) ?_
        rotate_left 2
        focus ((simp only [List.getElem?_toArray, List.getElem?_cons_succ, List.getElem?_cons_zero]); try with_reducible rfl)
        focus rfl
        focus ((try dsimp only at hSw); go_simp; try with_reducible rfl)
        try simp only [Act.put, List.setIfInBounds_toArray, List.set_cons_zero, List.set_cons_succ]
        refine plan_val (o := ?_) (v := ?_) ?_ ?_ (fun w' hSw => ?_) ?_
        rotate_left 2
        focus ((simp only [List.getElem?_toArray, List.getElem?_cons_succ, List.getElem?_cons_zero]); try with_reducible rfl)
        focus rfl
        focus ((try dsimp only at hSw); go_simp; try with_reducible rfl)
        try simp only [Act.put, List.setIfInBounds_toArray, List.set_cons_zero, List.set_cons_succ]
        refine plan_val (o := ?_) (v := ?_) ?_ ?_ (fun w' hSw => ?_) ?_
        rotate_left 2
        focus ((simp only [List.getElem?_toArray, List.getElem?_cons_succ, List.getElem?_cons_zero]); try with_reducible rfl)
        focus rfl
        focus ((try dsimp only at hSw); go_simp; try with_reducible rfl)
        try simp only [Act.put, List.setIfInBounds_toArray, List.set_cons_zero, List.set_cons_succ]
        refine plan_val (o := ?_) (v := ?_) ?_ ?_ (fun w' hSw => ?_) ?_
        rotate_left 2
        focus ((simp only [List.getElem?_toArray, List.getElem?_cons_succ, List.getElem?_cons_zero]); try with_reducible rfl)
        focus rfl
        focus ((try dsimp only at hSw); go_simp; try with_reducible rfl)
        try simp only [Act.put, List.setIfInBounds_toArray, List.set_cons_zero, List.set_cons_succ]
        refine plan_e (o := ?oG) ?hG1 ?hG2 (fun K3 hK3 => ?hG3)
        case hG1 => ((simp only [List.getElem?_toArray, List.getElem?_cons_succ, List.getElem?_cons_zero]); try with_reducible rfl)
        case hG2 => rfl
        case hG3 =>
          unfold Oper.wp
          go_simp
          have hx6 := rh_put (h := ⟨b1, IntKind.u16.wrap tt, IntKind.u16.wrap idd, ((IntKind.u64.wrap (fr.tdiv 16384)).tmod 2 == 1), ((IntKind.u64.wrap (fr.tdiv 8192)).tmod 2 == 1), IntKind.u16.wrap (fr.tmod 8192), b8, b9, 0, 0, 0, 0, 0, 0, 0, 0⟩) (S := S5) (D := S6) (O := S7) HZ2.out
          have hb6 := below_setCells (vs := rls ⟨b1, IntKind.u16.wrap tt, IntKind.u16.wrap idd, ((IntKind.u64.wrap (fr.tdiv 16384)).tmod 2 == 1), ((IntKind.u64.wrap (fr.tdiv 8192)).tmod 2 == 1), IntKind.u16.wrap (fr.tmod 8192), b8, b9, 0, 0, 0, 0, 0, 0, 0, 0⟩ S5 S6 S7) (i := 0) HB5.out (Nat.le_refl _)
          dsimp only [rls] at hx6 hb6
          clear c0 c1 c2 c3 c4 c5 c6 c7 c8 c9 c10 k0 k1 k2 k3 k4 k5 k6 k7 k8 k9 k10 hfz
          skip
          generalize World.setCells _ _ _ _ = w6 at hx6 hb6 ⊢
          refine hK3 _ _ (HMK.out _ (below_drew hb6)) ?_
          try simp only [Act.put, List.setIfInBounds_toArray, List.set_cons_zero, List.set_cons_succ]
          refine plan_val (o := ?_) (v := ?_) ?_ ?_ (fun w' hSw => ?_) ?_
          rotate_left 2
          focus ((simp only [List.getElem?_toArray, List.getElem?_cons_succ, List.getElem?_cons_zero]); try with_reducible rfl)
          focus rfl
          focus ((try dsimp only at hSw); go_simp; try with_reducible rfl)
          try simp only [Act.put, List.setIfInBounds_toArray, List.set_cons_zero, List.set_cons_succ]
          refine plan_val (o := ?_) (v := ?_) ?_ ?_ (fun w' hSw => ?_) ?_
          rotate_left 2
          focus ((simp only [List.getElem?_toArray, List.getElem?_cons_succ, List.getElem?_cons_zero]); try with_reducible rfl)
          focus rfl
          focus ((try dsimp only at hSw); go_simp; try with_reducible rfl)
          try simp only [Act.put, List.setIfInBounds_toArray, List.set_cons_zero, List.set_cons_succ]
          refine plan_done ?_
          refine NoPanic.normal ?_
          dsimp only [Exit.then]
          have hc6 := rh_cells hx6
          dsimp only at hc6
          go_step
          go_wp2
          refine bodyPost_ret (v := .tuple #[.agg (rcs ⟨b1, IntKind.u16.wrap tt, IntKind.u16.wrap idd, ((IntKind.u64.wrap (fr.tdiv 16384)).tmod 2 == 1), ((IntKind.u64.wrap (fr.tdiv 8192)).tmod 2 == 1), IntKind.u16.wrap (fr.tmod 8192), b8, b9, 0, 0, 0, 0, 0, 0, 0, 0⟩ S5 S6 S7), .int .i64 N, .int .i64 0]) ?_ rfl (HP0.out (not_or.2 ⟨by omega, by omega⟩) hwb _ (below_drew hb6))
          simp [results, Try.results22, go_sem, hc6]
end Go.Proofs.Ytknpaihlnkcpgaa.Own
/- octroiref05.Parse and Body, of any row. -/
set_option linter.unusedVariables false
set_option linter.unusedSimpArgs false
namespace Go.Proofs.Ytknpaihlnkcpgaa.Own
open Go.RowKit Go.Proofs.YtknpaihlnkcpgaaW.PrintWords Go.Proofs.YtknpaihlnkcpgaaW.PrintLast Go.Proofs.YtknpaihlnkcpgaaW.PrintMore
attribute [local go_sem ↓] ld11 sv_rh
attribute [local go_sem] run_sv_rh gv_some isV_some pick2_true stc nfz_false oc1_int oc1_bool oc1_string oc1_slice oc1_pointer oc1_func pick1_true setCells_new setCells_past setCells_drew

/-- the reference's header of any row: its numbers, and its three strings -/
def rparseS (b : List Int) : ByteArray := if parseC b = 0 then strOfNums ((b.take 16).drop 12) else ⟨#[]⟩
def rparseD (b : List Int) : ByteArray := if parseC b = 0 then strOfNums ((b.take 20).drop 16) else ⟨#[]⟩
def rparseO (b : List Int) : ByteArray := if parseC b = 0 then strOfNums ((b.take (hlen b)).drop 20) else ⟨#[]⟩
theorem rparse_all (b : List Int) (A : Option Addr) (n c : Nat) (w : World) (hC : Kd.C (Kd.int .u8) w A n b) (hc : n ≤ c) (hb : bytes b) (hn : n ≤ 1000000) :
    Calls Try.prog 22 #[.slice A n c] w fun e w' => e = .returned (.tuple #[.agg (rcs (parseH b) (rparseS b) (rparseD b) (rparseO b)), .int .i64 (parseN b), .int .i64 (parseC b)]) ∧ Below w.heap.size w w' := by
  have hl := hC.1
  have hh : (hlen b : Int) = b.getD 0 0 % 16 * 4 := by
    have := bytes_getD hb 0
    unfold hlen
    omega
  have bad : ∀ k : Int, k ≠ 0 → parseC b = k → ∀ (e : Ending) (w' : World), (e = .returned (.tuple #[noRh, .int .i64 0, .int .i64 k]) ∧ Below w.heap.size w w') → e = .returned (.tuple #[.agg (rcs (parseH b) (rparseS b) (rparseD b) (rparseO b)), .int .i64 (parseN b), .int .i64 (parseC b)]) ∧ Below w.heap.size w w' := fun k hk0 hk e w' h => by
    have h1 : parseH b = zHd := by unfold parseH; rw [hk, if_neg hk0]
    have h2 : parseN b = 0 := by unfold parseN; rw [hk, if_neg hk0]
    have h3 : rparseS b = ⟨#[]⟩ := by unfold rparseS; rw [hk, if_neg hk0]
    have h4 : rparseD b = ⟨#[]⟩ := by unfold rparseD; rw [hk, if_neg hk0]
    have h5 : rparseO b = ⟨#[]⟩ := by unfold rparseO; rw [hk, if_neg hk0]
    rw [h1, h2, h3, h4, h5, hk]
    exact h
  by_cases h1 : b.length < 20
  · exact (rparse_short A n c w (by omega)).mono (bad 10 (by decide) (by unfold parseC; rw [if_pos h1]))
  by_cases h2 : b.getD 0 0 / 16 ≠ 4
  · exact (rparse_early b A n c w 50 hC hb (by omega) (.inl ⟨rfl, h2⟩)).mono (bad 50 (by decide) (by unfold parseC; rw [if_neg h1, if_pos h2]))
  by_cases h3 : hlen b < 20
  · exact (rparse_early b A n c w 51 hC hb (by omega) (.inr (.inl ⟨rfl, Classical.not_not.1 h2, by omega⟩))).mono (bad 51 (by decide) (by unfold parseC; rw [if_neg h1, if_neg h2, if_pos h3]))
  by_cases h4 : b.length < hlen b
  · exact (rparse_early b A n c w 10 hC hb (by omega) (.inr (.inr ⟨rfl, Classical.not_not.1 h2, by omega, by omega⟩))).mono (bad 10 (by decide) (by unfold parseC; rw [if_neg h1, if_neg h2, if_neg h3, if_pos h4]))
  have hC0 : parseC b = mainC b (hlen b) := by unfold parseC; rw [if_neg h1, if_neg h2, if_neg h3, if_neg h4]
  refine (rparse_main b A n c (hlen b) w hC hc hb hn (Classical.not_not.1 h2) hh (by omega) (by omega)).mono fun e w' h => ?_
  rw [← hC0] at h
  by_cases h0 : parseC b = 0
  · unfold parseH parseN rparseS rparseD rparseO
    rw [if_pos h0, if_pos h0, if_pos h0, if_pos h0, if_pos h0, h0]
    exact ⟨h.1 h0, h.2.2⟩
  · exact bad _ h0 rfl _ _ ⟨h.2.1 h0, h.2.2⟩
set_option maxRecDepth 100000 in
set_option maxHeartbeats 4000000 in
theorem rbody_any (b : List Int) (A : Option Addr) (n c : Nat) (w : World) (hC : Kd.C (Kd.int .u8) w A n b) (hc : n ≤ c) (hb : bytes b) (hn : n ≤ 1000000) :
    Calls Try.prog 23 #[.slice A n c] w fun e w' => ∃ A1 n1 c1, e = .returned (.tuple #[.slice A1 n1 c1, .int .i64 (bodyC b)]) ∧ (∀ W : World, Kd.C (Kd.int .u8) W A n b → Kd.C (Kd.int .u8) W A1 n1 (bodyL b)) ∧ Below w.heap.size w w' := by
  have hln := hC.1
  by_cases h0 : parseC b = 0
  · obtain ⟨f1, f2, f3, f4, f5, f6, f7, f8⟩ := parse_ok h0
    have hp := rparse_all b A n c w hC hc hb hn
    obtain ⟨tr0, tr1⟩ := w16_range hb 2
    obtain ⟨H, eH⟩ : ∃ H, parseH b = H := ⟨_, rfl⟩
    have htt : H.total = w16 b 2 := by rw [← eH, f3]; rfl
    obtain ⟨S, eS⟩ : ∃ S, rparseS b = S := ⟨_, rfl⟩
    obtain ⟨D, eD⟩ : ∃ S, rparseD b = S := ⟨_, rfl⟩
    obtain ⟨O, eO⟩ : ∃ S, rparseO b = S := ⟨_, rfl⟩
    rw [h0, f4, eH, eS, eD, eO] at hp
    obtain ⟨N, eN⟩ : ∃ N, hlen b = N := ⟨_, rfl⟩
    rw [eN] at hp f1 f2 f5
    obtain ⟨tt, ett⟩ : ∃ v, w16 b 2 = v := ⟨_, rfl⟩
    rw [ett] at htt f5 tr0 tr1
    obtain ⟨tos, total, id, df, mf, frag, ttl, proto, s0, s1, s2, s3, d0, d1, d2, d3⟩ := H
    dsimp only at htt
    subst htt
    by_cases hs : (n : Int) < total
    · have e1 : bodyC b = 10 := by unfold bodyC; rw [if_neg (Classical.not_not.2 h0), if_pos (by rw [ett]; omega)]
      have e2 : bodyL b = [] := by unfold bodyL; rw [e1]; rfl
      rw [e1, e2]
      have HP := Aside0.mk hp
      clear hC hp e1 e2 eH eS eD eO f3 f4 f6 f7 f8 h0 hln eN ett
      go_enter Try.func23, Try.ntmps23
      go_wp2_with fail
      refine HP.out.mono ?_
      rintro e w1 ⟨rfl, hb1⟩
      dsimp only
      have HB1 := Aside0.mk hb1
      clear hb1
      go_wp2_with fail
      refine bodyPost_ret (results_tmp2 rfl _ _ _) rfl ?_
      exact ⟨none, 0, 0, rfl, fun W _ => (C_of_R (Kd.R_nil (Kd.int .u8) 5 W W.heap.size (fun _ => True))).1, HB1.out.alloc HB1.out.size _⟩
    · have e1 : bodyC b = 0 := by unfold bodyC; rw [if_neg (Classical.not_not.2 h0), if_neg (by rw [ett]; omega)]
      have e2 : bodyL b = (b.take total.toNat).drop N := by unfold bodyL; rw [if_pos e1, ett, eN]
      rw [e1, e2]
      obtain ⟨T3, A3, m3, c3, hcut3, hrd3, hmc3, hT3, hm3⟩ := cut_mid16 A n c b N total hln (by omega) (by omega) (by omega) hc
      have hT3' : T3 = (b.take total.toNat).drop N := by rw [hT3]; rfl
      rw [← hT3']
      have HP := Aside0.mk hp
      have HR3 := Aside0.mk hrd3
      clear hC hp e1 e2 eH eS eD eO f3 f4 f6 f7 f8 h0 hln eN ett hT3 hT3' hrd3 hm3
      go_enter Try.func23, Try.ntmps23
      go_wp2_with fail
      refine HP.out.mono ?_
      rintro e w1 ⟨rfl, hb1⟩
      dsimp only
      have HB1 := Aside0.mk hb1
      clear hb1
      go_wp2_with fail
      refine bodyPost_ret (results_tmp2 rfl _ _ _) rfl ?_
      exact ⟨_, _, _, rfl, HR3.out, HB1.out.alloc HB1.out.size _⟩
  · have e1 : bodyC b = parseC b := by unfold bodyC; rw [if_pos h0]
    have e2 : bodyL b = [] := by unfold bodyL; rw [e1, if_neg h0]
    have hp := rparse_all b A n c w hC hc hb hn
    obtain ⟨H, eH⟩ : ∃ H, parseH b = H := ⟨_, rfl⟩
    obtain ⟨S, eS⟩ : ∃ S, rparseS b = S := ⟨_, rfl⟩
    obtain ⟨D, eD⟩ : ∃ S, rparseD b = S := ⟨_, rfl⟩
    obtain ⟨O, eO⟩ : ∃ S, rparseO b = S := ⟨_, rfl⟩
    obtain ⟨k, ek⟩ : ∃ k, parseC b = k := ⟨_, rfl⟩
    rw [e1, e2]
    rw [eH, eS, eD, eO] at hp
    rw [ek] at hp h0 ⊢
    obtain ⟨tos, total, id, df, mf, frag, ttl, proto, s0, s1, s2, s3, d0, d1, d2, d3⟩ := H
    have HP := Aside0.mk hp
    clear hC hp e1 e2 eH eS eD eO hln ek
    go_enter Try.func23, Try.ntmps23
    go_wp2_with fail
    refine HP.out.mono ?_
    rintro e w1 ⟨rfl, hb1⟩
    dsimp only
    have HB1 := Aside0.mk hb1
    clear hb1
    go_wp2_with fail
    refine bodyPost_ret (results_tmp2 rfl _ _ _) rfl ?_
    exact ⟨none, 0, 0, rfl, fun W _ => (C_of_R (Kd.R_nil (Kd.int .u8) 5 W W.heap.size (fun _ => True))).1, HB1.out.alloc HB1.out.size _⟩
end Go.Proofs.Ytknpaihlnkcpgaa.Own
/- octroiref05.Hop, of any row. -/
set_option linter.unusedVariables false
set_option linter.unusedSimpArgs false
namespace Go.Proofs.Ytknpaihlnkcpgaa.Own
open Go.RowKit Go.Proofs.YtknpaihlnkcpgaaW.PrintWords Go.Proofs.YtknpaihlnkcpgaaW.PrintLast Go.Proofs.YtknpaihlnkcpgaaW.PrintMore
attribute [local go_sem ↓] ld11 sv_rh
attribute [local go_sem] run_sv_rh gv_some isV_some pick2_true stc nfz_false oc1_int oc1_bool oc1_string oc1_slice oc1_pointer oc1_func pick1_true setCells_new setCells_past setCells_drew

theorem C_nil (w : World) : Kd.C (Kd.int .u8) w none 0 [] := (C_of_R (Kd.R_nil (Kd.int .u8) 5 w w.heap.size (fun _ => True))).1
theorem be2 (v : Int) (h0 : 0 ≤ v) (h1 : v ≤ 65535) : be 2 v = [v / 256, v % 256] := by
  show [] ++ [v / 256 % 256] ++ [v % 256] = _
  rw [show v / 256 % 256 = v / 256 by omega]
  rfl
/-- out[i] = y on a row of one's own -/
theorem row_put {base : Nat} {W : World} {A : Option Addr} {n c : Nat} {l : List Int} (i : Nat) (hR : Kd.R (Kd.int .u8) 5 W base (fun _ => True) (.slice A n c) l) (hi : i < n) :
    ∃ g, A = some ⟨g, 0, none⟩ ∧ base ≤ g ∧ g < W.heap.size ∧ W.cell? ⟨g, i, none⟩ = some (.int .u8 (l.getD i 0)) ∧ W.frozen? ⟨g, i, none⟩ = false ∧ ∀ y, Kd.R (Kd.int .u8) 5 (W.setCell ⟨g, i, none⟩ (.int .u8 y)) base (fun _ => True) (.slice A n c) (l.set i y) := by
  have hl := (C_of_R hR).1.1
  obtain ⟨g, cap, e, hg, _, _⟩ := Kd.R_form hR (by omega)
  obtain rfl : A = some ⟨g, 0, none⟩ := by injection e
  have hx := Kd.R_celln (0 : Int) hR i (by omega) (by omega)
  rw [Int.toNat_natCast] at hx
  refine ⟨g, rfl, hg, World.block_lt_of_cell? W _ hx.1, hx.1, hx.2, fun y => ?_⟩
  have := Kd.R_putn hR (i : Int) y
  rw [Int.toNat_natCast] at this
  exact this
set_option maxRecDepth 100000 in
set_option maxHeartbeats 4000000 in
theorem rhop_any (b : List Int) (A : Option Addr) (n c : Nat) (w : World) (hC : Kd.C (Kd.int .u8) w A n b) (hc : n ≤ c) (hb : bytes b) (hn : n ≤ 1000000) :
    Calls Try.prog 24 #[.slice A n c] w fun e w' => ∃ A1 n1 c1, e = .returned (.tuple #[.slice A1 n1 c1, .int .i64 (hopC b)]) ∧ Kd.R (Kd.int .u8) 5 w' w.heap.size (fun _ => True) (.slice A1 n1 c1) (hopL b) ∧ Below w.heap.size w w' := by
  have hln := hC.1
  obtain ⟨S, eS⟩ : ∃ S, rparseS b = S := ⟨_, rfl⟩
  obtain ⟨D, eD⟩ : ∃ S, rparseD b = S := ⟨_, rfl⟩
  obtain ⟨O, eO⟩ : ∃ S, rparseO b = S := ⟨_, rfl⟩
  have hp := rparse_all b A n c w hC hc hb hn
  rw [eS, eD, eO] at hp
  clear eS eD eO
  by_cases h0 : parseC b = 0
  · obtain ⟨f1, f2, f3, f4, f5, f6, f7, f8⟩ := parse_ok h0
    obtain ⟨q0, q1⟩ := bytes_getD hb 8
    obtain ⟨H, eH⟩ : ∃ H, parseH b = H := ⟨_, rfl⟩
    have htt : H.ttl = b.getD 8 0 := by rw [← eH, f3]; rfl
    rw [h0, eH] at hp
    obtain ⟨tos, total, id, df, mf, frag, ttl, proto, s0, s1, s2, s3, d0, d1, d2, d3⟩ := H
    dsimp only at htt
    obtain ⟨t8, et8⟩ : ∃ v, b.getD 8 0 = v := ⟨_, rfl⟩
    rw [et8] at htt q0 q1
    subst htt
    by_cases hz : ttl = 0
    · have e1 : hopC b = 51 := by unfold hopC; rw [if_neg (Classical.not_not.2 h0), if_pos (by rw [et8]; exact hz)]
      have e2 : hopL b = [] := by unfold hopL; rw [e1]; rfl
      rw [e1, e2]
      have HP := Aside0.mk hp
      clear hC hp e1 e2 eH f1 f2 f3 f4 f5 f6 f7 f8 h0 hln et8
      go_enter Try.func24, Try.ntmps24
      go_wp2_with fail
      refine HP.out.mono ?_
      rintro e w1 ⟨rfl, hb1⟩
      dsimp only
      have HB1 := Aside0.mk hb1
      clear hb1
      go_wp2_with fail
      refine bodyPost_ret (results_tmp2 rfl _ _ _) rfl ?_
      exact ⟨none, 0, 0, rfl, Kd.R_nil _ _ _ _ _, HB1.out.alloc HB1.out.size _⟩
    · have e1 : hopC b = 0 := by unfold hopC; rw [if_neg (Classical.not_not.2 h0), if_neg (by rw [et8]; exact hz)]
      obtain ⟨nn, enn⟩ : ∃ v, hopS b = v := ⟨_, rfl⟩
      have e2 : hopL b = ((b.set 8 (ttl - 1)).set 10 (nn / 256)).set 11 (nn % 256) := by unfold hopL; rw [if_pos e1, et8, enn]
      rw [e1, e2]
      have hbs : bytes (b.set 8 (ttl - 1)) := bytes_set hb 8 (ttl - 1) (by omega) (by omega)
      have hn20 : 20 ≤ n := by omega
      have r10 := w16_range hb 10
      have r8 := w16_range hb 8
      have rb := w16_range hbs 8
      unfold hopS at enn
      rw [et8] at enn
      have hw10 := fun W (hW : Below w.heap.size w W) => rget2_any b A n c 10 W (Kd.C_below hC hW) hb (by omega) hn
      have hw8 := fun W (hW : Below w.heap.size w W) => rget2_any b A n c 8 W (Kd.C_below hC hW) hb (by omega) hn
      have hwx := fun A' c' W (hW : Kd.C (Kd.int .u8) W A' n (b.set 8 (ttl - 1))) => rget2_any (b.set 8 (ttl - 1)) A' n c' 8 W hW hbs (by omega) hn
      have hch := fun W => rchange_any (w16 b 10) (w16 b 8) (w16 (b.set 8 (ttl - 1)) 8) W r10.1 r10.2 r8.1 r8.2 rb.1 rb.2
      have hnr : 0 ≤ nn ∧ nn ≤ 65535 := by rw [← enn]; exact chg_range _ _ _ r10.1 r10.2 r8.1 r8.2 rb.1 rb.2
      rw [enn] at hch
      have hpu : ∀ W : World, Calls Try.prog 45 #[.int .u64 nn, .int .i64 2] W fun e w' => ∃ A2 c2, e = .returned (.slice A2 2 c2) ∧ Kd.R (Kd.int .u8) 5 w' W.heap.size (fun _ => True) (.slice A2 2 c2) [nn / 256, nn % 256] ∧ Below W.heap.size W w' := fun W => by
        refine (rput_at 2 2 rfl nn W hnr.1 (by omega) (by omega)).mono ?_
        rintro e w' ⟨A2, n2, c2, rfl, hR, hB⟩
        rw [be2 nn hnr.1 hnr.2] at hR
        obtain rfl : n2 = 2 := (C_of_R hR).1.1.symm
        exact ⟨_, _, rfl, hR, hB⟩
      obtain ⟨a10, ea10⟩ : ∃ v, w16 b 10 = v := ⟨_, rfl⟩
      obtain ⟨a8, ea8⟩ : ∃ v, w16 b 8 = v := ⟨_, rfl⟩
      obtain ⟨ax, eax⟩ : ∃ v, w16 (b.set 8 (ttl - 1)) 8 = v := ⟨_, rfl⟩
      simp only [ea10, ea8, eax] at hch r10 r8 rb
      change ∀ W, Below w.heap.size w W → Calls Try.prog 43 #[.slice A n c, .int .i64 10, .int .i64 2] W fun e w' => e = .returned (.tuple #[.int .u64 (w16 b 10), .int .i64 0]) ∧ W = w' at hw10
      change ∀ W, Below w.heap.size w W → Calls Try.prog 43 #[.slice A n c, .int .i64 8, .int .i64 2] W fun e w' => e = .returned (.tuple #[.int .u64 (w16 b 8), .int .i64 0]) ∧ W = w' at hw8
      change ∀ A' c' W, _ → Calls Try.prog 43 #[.slice A' n c', .int .i64 8, .int .i64 2] W fun e w' => e = .returned (.tuple #[.int .u64 (w16 (b.set 8 (ttl - 1)) 8), .int .i64 0]) ∧ W = w' at hwx
      simp only [ea10] at hw10
      simp only [ea8] at hw8
      simp only [eax] at hwx
      have HW10 := Aside0.mk hw10
      have HW8 := Aside0.mk hw8
      have HWX := Aside0.mk hwx
      have HCH := Aside0.mk hch
      have HPU := Aside0.mk hpu
      obtain ⟨n0, n1'⟩ := hnr
      have HJ := Aside0.mk (fun W (hW : Below w.heap.size w W) => join_any [] b none A 0 0 n c W (C_nil W) (Kd.C_below hC hW) (by omega))
      have HP := Aside0.mk hp
      have HL := Aside0.mk hln
      have hw1 : IntKind.u8.wrap (ttl - 1) = ttl - 1 := IntWalk.u8_in _ (by omega)
      obtain ⟨ad, rfl, hx⟩ := Kd.at_int hC 8 (by omega) (by omega)
      have HX8 : Aside0 (∀ W, Below w.heap.size w W → W.cell? { block := ad.block, off := ad.off + 8 } = some (.int .u8 ttl)) := ⟨fun W hW => by rw [← et8]; exact pw_cell_below hW hx⟩
      have HG : Aside0 (b.getD 8 0 = ttl) := ⟨et8⟩
      obtain ⟨r100, r101⟩ := r10
      obtain ⟨r80, r81⟩ := r8
      obtain ⟨rb0, rb1⟩ := rb
      have hi8 : (8 : Int) < (n : Int) := by omega
      have hi10 : (10 : Int) < (n : Int) := by omega
      have hi11 : (11 : Int) < (n : Int) := by omega
      clear hC hp e1 e2 eH f1 f2 f3 f4 f5 f6 f7 f8 h0 hln et8 enn ea10 ea8 eax hb hbs hw10 hw8 hwx hch hpu hx
      go_enter Try.func24, Try.ntmps24
      go_wp2_with fail
      refine HP.out.mono ?_
      rintro e w1 ⟨rfl, hb1⟩
      dsimp only
      have HB1 := Aside0.mk hb1
      clear hb1
      go_wp2_with fail
      refine (HJ.out _ (HB1.out.alloc HB1.out.size _)).mono ?_
      rintro e w2 ⟨A', n', c', rfl, hR2, hb2⟩
      dsimp only
      rw [List.nil_append] at hR2
      obtain rfl : n = n' := by rw [← (C_of_R hR2).1.1]; exact HL.out.symm
      have hs1 := HB1.out.size
      have hb2' := below_then (HB1.out.alloc HB1.out.size _) (by simp; omega) hb2
      have hR2 := Kd.R_lower hR2 (show w.heap.size ≤ _ by simp; omega)
      obtain ⟨ga, rfl, hga, hgs, hcx, hfx, hpn⟩ := row_put 8 hR2 (by omega)
      have hx8 := HX8.out _ hb2'
      rw [HG.out] at hcx
      have HPN := Aside0.mk hpn
      have HB2 := Aside0.mk hb2'
      have HGA := Aside0.mk hga
      clear hR2 hb2 hb2' hs1 hga hpn hgs
      go_upto_region 8 with fail
      have hR3 := HPN.out (ttl - 1)
      have hB3 := HB2.out.setCell (p := ⟨ga, 8, none⟩) HGA.out (.int .u8 (ttl - 1))
      clear HPN hcx hfx hx8
      generalize w2.setCell ⟨ga, 8, none⟩ (.int .u8 (ttl - 1)) = w3 at hR3 hB3 ⊢
      have HR3 := Aside0.mk hR3
      have HC3 := Aside0.mk (C_of_R hR3).1
      have HB3 := Aside0.mk hB3
      clear hR3 hB3
      go_upto_region 12 with (first | (with_reducible refine (HW10.out _ HB3.out).mono ?_; rintro e w4 ⟨rfl, rfl⟩) | (with_reducible refine (HW8.out _ HB3.out).mono ?_; rintro e w4 ⟨rfl, rfl⟩) | (with_reducible refine (HWX.out _ _ _ HC3.out).mono ?_; rintro e w4 ⟨rfl, rfl⟩) | (with_reducible refine (HCH.out _).mono ?_; rintro e w4 ⟨rfl, rfl⟩) | (with_reducible refine (HPU.out _).mono ?_; rintro e w5 ⟨A5, c5, rfl, hR5, hb5⟩))
      obtain ⟨gb, rfl, hgb, hgbs, hy0, _, _⟩ := row_put 0 hR5 (by omega)
      obtain ⟨_, e', _, _, hy1, _, _⟩ := row_put 1 hR5 (by omega)
      cases e'
      have hR6 := Kd.R_below HR3.out hb5
      have hs3 := HB3.out.size
      have hb6 := below_then HB3.out hs3 hb5
      obtain ⟨_, e', _, hgs, hc10, hf10, hp10⟩ := row_put 10 hR6 (by omega)
      cases e'
      have hg3 : ga < w3.heap.size := by
        obtain ⟨_, e', _, hgs, _⟩ := row_put 8 HR3.out (by omega)
        cases e'
        exact hgs
      have hne : ga ≠ gb := by omega
      change w5.cell? ⟨gb, 0, none⟩ = some (.int .u8 (nn / 256)) at hy0
      change w5.cell? ⟨gb, 1, none⟩ = some (.int .u8 (nn % 256)) at hy1
      have HP10 := Aside0.mk hp10
      have HB6 := Aside0.mk hb6
      have hy1' : (w5.setCell ⟨ga, 10, none⟩ (.int .u8 (nn / 256))).cell? ⟨gb, 1, none⟩ = some (.int .u8 (nn % 256)) := by
        rw [World.cell?_setCell_other _ _ _ _ (fun h => hne (by injection h))]
        exact hy1
      clear hR5 hb5 hgb hgbs hR6 hs3 hb6 hgs hp10 hg3 hne hy1
      go_upto_region 13 with fail
      have hR7 := HP10.out (nn / 256)
      have hB7 := HB6.out.setCell (p := ⟨ga, 10, none⟩) HGA.out (.int .u8 (nn / 256))
      clear HP10 hc10 hf10 hy0
      generalize w5.setCell ⟨ga, 10, none⟩ (.int .u8 (nn / 256)) = w7 at hR7 hB7 hy1' ⊢
      obtain ⟨_, e', _, _, hc11, hf11, hp11⟩ := row_put 11 hR7 (by omega)
      cases e'
      have HP11 := Aside0.mk hp11
      have HB7 := Aside0.mk hB7
      clear hR7 hB7 hp11
      go_wp2_with fail
      refine bodyPost_ret (results_tmp2 rfl _ _ _) rfl ?_
      exact ⟨_, _, _, rfl, HP11.out _, HB7.out.setCell (p := ⟨ga, 11, none⟩) HGA.out _⟩
  · have e1 : hopC b = parseC b := by unfold hopC; rw [if_pos h0]
    have e2 : hopL b = [] := by unfold hopL; rw [e1, if_neg h0]
    obtain ⟨H, eH⟩ : ∃ H, parseH b = H := ⟨_, rfl⟩
    obtain ⟨k, ek⟩ : ∃ k, parseC b = k := ⟨_, rfl⟩
    rw [e1, e2]
    rw [eH] at hp
    rw [ek] at hp h0 ⊢
    obtain ⟨tos, total, id, df, mf, frag, ttl, proto, s0, s1, s2, s3, d0, d1, d2, d3⟩ := H
    have HP := Aside0.mk hp
    clear hC hp e1 e2 eH hln ek
    go_enter Try.func24, Try.ntmps24
    go_wp2_with fail
    refine HP.out.mono ?_
    rintro e w1 ⟨rfl, hb1⟩
    dsimp only
    have HB1 := Aside0.mk hb1
    clear hb1
    go_wp2_with fail
    refine bodyPost_ret (results_tmp2 rfl _ _ _) rfl ?_
    exact ⟨none, 0, 0, rfl, Kd.R_nil _ _ _ _ _, HB1.out.alloc HB1.out.size _⟩
end Go.Proofs.Ytknpaihlnkcpgaa.Own
/- octroilaw05.pad. -/
set_option linter.unusedVariables false
set_option linter.unusedSimpArgs false
namespace Go.Proofs.Ytknpaihlnkcpgaa.Own
open Go.RowKit Go.Proofs.YtknpaihlnkcpgaaW.PrintWords Go.Proofs.YtknpaihlnkcpgaaW.PrintLast Go.Proofs.YtknpaihlnkcpgaaW.PrintMore
attribute [local go_sem ↓] ld11 sv_rh
attribute [local go_sem] run_sv_rh gv_some isV_some pick2_true stc nfz_false oc1_int oc1_bool oc1_string oc1_slice oc1_pointer oc1_func pick1_true setCells_new setCells_past setCells_drew

set_option maxRecDepth 100000 in
theorem pad_keep (h : Hd) (S D O : ByteArray) (w : World) (hS : S.toList.isEmpty = false) :
    Calls Try.prog 26 #[.agg (rcs h S D O)] w fun e w' => e = .returned (.agg (rcs h S D O)) ∧ Below w.heap.size w w' := by
  have hbx := ((below_alloc1 (w.alloc (.cells (rcs h S D O) 41)) (.cells (rcs zHd ⟨#[]⟩ ⟨#[]⟩ ⟨#[]⟩) 41)).block w.heap.size (by simp)).trans (heap_alloc_new w (.cells (rcs h S D O) 41))
  have hc := rh_cells hbx
  dsimp only [rcs] at hc
  clear hbx
  go_enter Try.func26, Try.ntmps26
  go_wp2
  refine bodyPost_ret (v := .agg (rcs h S D O)) ?_ rfl ⟨rfl, below_alloc2 w _ _⟩
  simp [results, Try.results26, go_sem]
set_option maxRecDepth 100000 in
theorem pad_none (h : Hd) (D O : ByteArray) (w : World) :
    Calls Try.prog 26 #[.agg (rcs h ⟨#[]⟩ D O)] w fun e w' => e = .returned (.agg (rcs h ⟨#[0, 0, 0, 0]⟩ ⟨#[0, 0, 0, 0]⟩ O)) ∧ Below w.heap.size w w' := by
  go_enter Try.func26, Try.ntmps26
  go_wp2
  refine bodyPost_ret (v := .agg (rcs h ⟨#[0, 0, 0, 0]⟩ ⟨#[0, 0, 0, 0]⟩ O)) ?_ rfl ⟨rfl, below_alloc2 w _ _⟩
  simp [results, Try.results26, go_sem]
theorem take4 (b : List Int) (i : Nat) (h : i + 4 ≤ b.length) : (b.take (i + 4)).drop i = [b.getD i 0, b.getD (i + 1) 0, b.getD (i + 2) 0, b.getD (i + 3) 0] := by
  apply List.ext_getElem
  · simp only [List.length_drop, List.length_take, List.length_cons, List.length_nil]; omega
  · intro j h1 h2
    have hj : j < 4 := h2
    have he : ((b.take (i + 4)).drop i)[j] = b.getD (i + j) 0 := by
      rw [List.getElem_drop, List.getElem_take, List.getD_eq_getElem?_getD, List.getElem?_eq_getElem (by omega)]
      rfl
    rw [he]
    match j, hj with
    | 0, _ => rfl
    | 1, _ => rfl
    | 2, _ => rfl
    | 3, _ => rfl
theorem hdOf_ok {b : List Int} (hb : bytes b) : (hdOf b).ok := by
  have q := fun i => bytes_getD hb i
  have r := fun i => w16_range hb i
  have q' : ∀ i, inB (b.getD i 0) 255 := fun i => ⟨(q i).1, by have := (q i).2; omega⟩
  refine ⟨q' 1, r 2, r 4, ?_, q' 8, q' 9, q' 12, q' 13, q' 14, q' 15, q' 16, q' 17, q' 18, q' 19⟩
  show inB (bits .and .u16 (w16 b 6) 8191) 65535
  obtain ⟨r0, r1⟩ := r 6
  rw [u16_low13 _ r0 r1]
  exact ⟨by omega, by omega⟩
theorem zHd_ok : zHd.ok := by refine ⟨?_, ?_, ?_, ?_, ?_, ?_, ?_, ?_, ?_, ?_, ?_, ?_, ?_, ?_⟩ <;> exact ⟨by decide, by decide⟩
theorem parseH_ok {b : List Int} (hb : bytes b) : (parseH b).ok := by
  unfold parseH
  split
  · exact hdOf_ok hb
  · exact zHd_ok
theorem bytes_parseO {b : List Int} (hb : bytes b) : bytes (parseO b) := by
  unfold parseO
  split
  · exact bytes_drop (bytes_take hb _) _
  · exact bytes_nil
theorem bytes_bodyL {b : List Int} (hb : bytes b) : bytes (bodyL b) := by
  unfold bodyL
  split
  · exact bytes_drop (bytes_take hb _) _
  · exact bytes_nil
theorem bytes_hopL {b : List Int} (hb : bytes b) : bytes (hopL b) := by
  unfold hopL
  split
  · rename_i h
    have h8 : b.getD 8 0 ≠ 0 := fun h8 => by
      unfold hopC at h
      by_cases hp : parseC b ≠ 0
      · rw [if_pos hp] at h; exact hp h
      · rw [if_neg hp, if_pos h8] at h; exact absurd h (by decide)
    obtain ⟨q0, q1⟩ := bytes_getD hb 8
    have hbs : bytes (b.set 8 (b.getD 8 0 - 1)) := bytes_set hb 8 _ (by omega) (by omega)
    have r10 := w16_range hb 10
    have r8 := w16_range hb 8
    have rb := w16_range hbs 8
    have hr : 0 ≤ hopS b ∧ hopS b ≤ 65535 := chg_range _ _ _ r10.1 r10.2 r8.1 r8.2 rb.1 rb.2
    exact bytes_set (bytes_set hbs 10 _ (by omega) (by omega)) 11 _ (by omega) (by omega)
  · exact bytes_nil
/-- the reference's header, padded, is the code's as the document has it -/
theorem pad_doc (b : List Int) (w : World) :
    Calls Try.prog 26 #[.agg (rcs (parseH b) (rparseS b) (rparseD b) (rparseO b))] w fun e w' => e = .returned (.agg (docOf (parseH b) (parseO b))) ∧ Below w.heap.size w w' := by
  by_cases h0 : parseC b = 0
  · obtain ⟨f1, f2, f3, _⟩ := parse_ok h0
    have e5 : rparseS b = strOfNums [(parseH b).s0, (parseH b).s1, (parseH b).s2, (parseH b).s3] := by
      unfold rparseS
      rw [if_pos h0, f3]
      exact congrArg strOfNums (take4 b 12 (by omega))
    have e6 : rparseD b = strOfNums [(parseH b).d0, (parseH b).d1, (parseH b).d2, (parseH b).d3] := by
      unfold rparseD
      rw [if_pos h0, f3]
      exact congrArg strOfNums (take4 b 16 (by omega))
    have e7 : rparseO b = strOfNums (parseO b) := by
      unfold rparseO parseO
      rw [if_pos h0, if_pos h0]
    rw [e5, e6, e7]
    exact pad_keep _ _ _ _ w (by rw [Lib.strOfNums_toList]; rfl)
  · have e4 : parseH b = zHd := by unfold parseH; rw [if_neg h0]
    have e5 : rparseS b = ⟨#[]⟩ := by unfold rparseS; rw [if_neg h0]
    have e7 : rparseO b = strOfNums (parseO b) := by
      unfold rparseO parseO
      rw [if_neg h0, if_neg h0]
      rfl
    rw [e4, e5, e7]
    exact pad_none _ _ _ w
end Go.Proofs.Ytknpaihlnkcpgaa.Own
/- What the walk of IpParses holds. -/
set_option linter.unusedVariables false
set_option linter.unusedSimpArgs false
namespace Go.Proofs.Ytknpaihlnkcpgaa.Own
open Go.RowKit Go.Proofs.YtknpaihlnkcpgaaW.PrintWords Go.Proofs.YtknpaihlnkcpgaaW.PrintLast Go.Proofs.YtknpaihlnkcpgaaW.PrintMore

/-- a store of a whole value into a box that has just been made -/
theorem st_new {P : Program} (ty : TypeId) (V Z : Array Value) (hz : Z.size = V.size) (hone : V.all (·.oneCell') = true) (hnf : ∀ w : World, ∀ j, (w.alloc (.cells Z ty)).frozen? ⟨w.heap.size, 0 + j, none⟩ = false) (hi : (P.info? ty).map (·.size) = some V.size) (w : World) :
    (stV ty ⟨w.heap.size, 0, none⟩ (.agg V)).run P (w.alloc (.cells Z ty)) = .ok () (w.alloc (.cells V ty)) := by
  have h := run_storeVar_mid (P := P) (w.alloc (.cells Z ty)) w.heap.size 0 ty V (fun j hj => ⟨by
    rw [blk_cell (heap_alloc_new w _)]
    simp only [Nat.zero_add]
    rw [Array.getElem?_eq_getElem (by omega)]
    rfl, hnf w j⟩) hi hone
  refine h.trans ?_
  rw [setCells_new rfl (by simpa using hz)]
theorem ocv_int (k : IntKind) (n : Int) : (Value.int k n).oneCell' = true := rfl
theorem ocv_bool (b : Bool) : (Value.bool b).oneCell' = true := rfl
theorem ocv_string (s : ByteArray) : (Value.string s).oneCell' = true := rfl
theorem ocv_slice (A : Option Addr) (n c : Nat) : (Value.slice A n c).oneCell' = true := rfl
theorem nf_new (w : World) (Z : Array Value) (t j : Nat) : (w.alloc (.cells Z t)).frozen? ⟨w.heap.size, j, none⟩ = false := fz_new (heap_alloc_new w _) j
theorem R_setcell {w : World} {g base e i : Nat} {ok : Nat → Prop} {v : Value} {xs : List Int} {u : Value} (h : Kd.R (Kd.int .u8) e w base ok v xs) (hg : g < base) : Kd.R (Kd.int .u8) e (w.setCell ⟨g, i, none⟩ u) base ok v xs := by
  have := R_set (vs := [u]) h hg
  have hb := Kd.R_base h
  have ho := h.1
  refine Kd.R_mono (Kd.R_step (Kd.R_tight rfl h) fun k hk _ => Below.heap_setCell _ _ _ k ?_) (fun k hk => ho k hk.symm)
  have := hb k hk.symm
  show k ≠ g
  omega
/-- where the writing over is: three rows of one's own, each made behind the one before; the header's box -/
def PL (wo wj : World) (A1 : Option Addr) (n1 c1 : Nat) (A2 : Option Addr) (n2 c2 : Nat) (A3 : Option Addr) (n3 c3 g B1 B2 : Nat) : Prop :=
  Below wo.heap.size wo wj ∧ wj.cell? ⟨g, 16, none⟩ = some (.slice A1 n1 c1) ∧ (∃ l, Kd.R (Kd.int .u8) 5 wj wo.heap.size (fun _ => True) (.slice A1 n1 c1) l) ∧
    (∃ l, Kd.R (Kd.int .u8) 5 wj B1 (fun _ => True) (.slice A2 n2 c2) l) ∧ (∃ l, Kd.R (Kd.int .u8) 5 wj B2 (fun _ => True) (.slice A3 n3 c3) l) ∧
    (0 < n1 → ∀ a, A1 = some a → a.block < g) ∧ (0 < n2 → ∀ a, A2 = some a → a.block < B2) ∧ wo.heap.size ≤ g ∧ g < B1 ∧ B1 ≤ B2
section
variable {wo wj : World} {A1 A2 A3 : Option Addr} {n1 c1 n2 c2 n3 c3 g B1 B2 : Nat}
theorem PL.put1 (h : PL wo wj A1 n1 c1 A2 n2 c2 A3 n3 c3 g B1 B2) (i : Nat) (hi : i < n1) :
    ∃ ga x, A1 = some ⟨ga, 0, none⟩ ∧ wj.cell? ⟨ga, i, none⟩ = some (.int .u8 x) ∧ wj.frozen? ⟨ga, i, none⟩ = false ∧ ∀ y, PL wo (wj.setCell ⟨ga, i, none⟩ (.int .u8 y)) A1 n1 c1 A2 n2 c2 A3 n3 c3 g B1 B2 := by
  obtain ⟨h1, h2, ⟨l, h3⟩, ⟨l2, h4⟩, ⟨l3, h5⟩, h6, h7, h8, h9, h10⟩ := h
  obtain ⟨ga, rfl, hb, hs, hx, hf, hp⟩ := row_put i h3 hi
  have hg := h6 (by omega) _ rfl
  dsimp only at hg
  refine ⟨ga, _, rfl, hx, hf, fun y => ⟨h1.setCell (p := ⟨ga, i, none⟩) hb _, ?_, ⟨_, hp y⟩, ⟨_, R_setcell h4 (by omega)⟩, ⟨_, R_setcell h5 (by omega)⟩, h6, h7, h8, h9, h10⟩⟩
  rw [World.cell?_setCell_other _ _ _ _ (fun e => by injection e with e; omega)]
  exact h2
end
theorem R_lt {base : Nat} {W : World} {A : Option Addr} {n c : Nat} {l : List Int} (hR : Kd.R (Kd.int .u8) 5 W base (fun _ => True) (.slice A n c) l) : 0 < n → ∀ a, A = some a → a.block < W.heap.size := fun h a e => by
  obtain ⟨g, e', _, hs, _⟩ := row_put 0 hR h
  rw [e] at e'
  injection e' with e'
  rw [e']
  exact hs
def PL2 (wo wj : World) (A2 : Option Addr) (n2 c2 : Nat) (A3 : Option Addr) (n3 c3 B1 B2 : Nat) : Prop :=
  Below wo.heap.size wo wj ∧ (∃ l, Kd.R (Kd.int .u8) 5 wj B1 (fun _ => True) (.slice A2 n2 c2) l) ∧ (∃ l, Kd.R (Kd.int .u8) 5 wj B2 (fun _ => True) (.slice A3 n3 c3) l) ∧
    (0 < n2 → ∀ a, A2 = some a → a.block < B2) ∧ wo.heap.size ≤ B1 ∧ B1 ≤ B2
def PL3 (wo wj : World) (A3 : Option Addr) (n3 c3 B2 : Nat) : Prop :=
  Below wo.heap.size wo wj ∧ (∃ l, Kd.R (Kd.int .u8) 5 wj B2 (fun _ => True) (.slice A3 n3 c3) l) ∧ wo.heap.size ≤ B2
theorem PL.two {wo wj : World} {A1 A2 A3 : Option Addr} {n1 c1 n2 c2 n3 c3 g B1 B2 : Nat} (h : PL wo wj A1 n1 c1 A2 n2 c2 A3 n3 c3 g B1 B2) : PL2 wo wj A2 n2 c2 A3 n3 c3 B1 B2 :=
  ⟨h.1, h.2.2.2.1, h.2.2.2.2.1, h.2.2.2.2.2.2.1, by have := h.2.2.2.2.2.2.2.1; have := h.2.2.2.2.2.2.2.2.1; omega, h.2.2.2.2.2.2.2.2.2⟩
theorem PL2.three {wo wj : World} {A2 A3 : Option Addr} {n2 c2 n3 c3 B1 B2 : Nat} (h : PL2 wo wj A2 n2 c2 A3 n3 c3 B1 B2) : PL3 wo wj A3 n3 c3 B2 :=
  ⟨h.1, h.2.2.1, Nat.le_trans h.2.2.2.2.1 h.2.2.2.2.2⟩
theorem PL2.put {wo wj : World} {A2 A3 : Option Addr} {n2 c2 n3 c3 B1 B2 : Nat} (h : PL2 wo wj A2 n2 c2 A3 n3 c3 B1 B2) (i : Nat) (hi : i < n2) :
    ∃ ga x, A2 = some ⟨ga, 0, none⟩ ∧ wj.cell? ⟨ga, i, none⟩ = some (.int .u8 x) ∧ wj.frozen? ⟨ga, i, none⟩ = false ∧ ∀ y, PL2 wo (wj.setCell ⟨ga, i, none⟩ (.int .u8 y)) A2 n2 c2 A3 n3 c3 B1 B2 := by
  obtain ⟨h1, ⟨l2, h4⟩, ⟨l3, h5⟩, h7, h8, h9⟩ := h
  obtain ⟨ga, rfl, hb, hs, hx, hf, hp⟩ := row_put i h4 hi
  have hg := h7 (by omega) _ rfl
  dsimp only at hg
  exact ⟨ga, _, rfl, hx, hf, fun y => ⟨h1.setCell (p := ⟨ga, i, none⟩) (Nat.le_trans h8 hb) _, ⟨_, hp y⟩, ⟨_, R_setcell h5 hg⟩, h7, h8, h9⟩⟩
theorem PL3.put {wo wj : World} {A3 : Option Addr} {n3 c3 B2 : Nat} (h : PL3 wo wj A3 n3 c3 B2) (i : Nat) (hi : i < n3) :
    ∃ ga x, A3 = some ⟨ga, 0, none⟩ ∧ wj.cell? ⟨ga, i, none⟩ = some (.int .u8 x) ∧ wj.frozen? ⟨ga, i, none⟩ = false ∧ ∀ y, PL3 wo (wj.setCell ⟨ga, i, none⟩ (.int .u8 y)) A3 n3 c3 B2 := by
  obtain ⟨h1, ⟨l3, h5⟩, h8⟩ := h
  obtain ⟨ga, rfl, hb, hs, hx, hf, hp⟩ := row_put i h5 hi
  exact ⟨ga, _, rfl, hx, hf, fun y => ⟨h1.setCell (p := ⟨ga, i, none⟩) (Nat.le_trans h8 hb) _, ⟨_, hp y⟩, h8⟩⟩
end Go.Proofs.Ytknpaihlnkcpgaa.Own
/- The walk of the law IpParses. -/
set_option linter.unusedVariables false
set_option linter.unusedSimpArgs false
namespace Go.Proofs.Ytknpaihlnkcpgaa.Own
open Go.RowKit Go.Proofs.YtknpaihlnkcpgaaW.PrintWords Go.Proofs.YtknpaihlnkcpgaaW.PrintLast Go.Proofs.YtknpaihlnkcpgaaW.PrintMore
attribute [local go_sem ↓] lv_hd lv_rh sv_rh sv_hd
attribute [local go_sem] gv_some isV_some pick2_true stc nfz_false oc1_int oc1_bool oc1_string oc1_slice oc1_pointer oc1_func pick1_true setCells_new setCells_past setCells_drew

/-- what stays behind the reference's calls -/
def LPs (w W : World) (b : List Int) (VR : Array Value) (Aw : Option Addr) (nw : Nat) (Ah : Option Addr) (nh g : Nat) : Prop :=
  Below w.heap.size w W ∧ W.heap[g]? = some (.cells VR 41 (0, 0)) ∧ Kd.C (Kd.int .u8) W Aw nw b ∧ Kd.C (Kd.int .u8) W Ah nh (hopL b)
theorem LPs.below {w W W' : World} {b : List Int} {VR : Array Value} {Aw Ah : Option Addr} {nw nh g : Nat} (h : LPs w W b VR Aw nw Ah nh g) (hb : Below W.heap.size W W') : LPs w W' b VR Aw nw Ah nh g :=
  ⟨below_then h.1 h.1.size hb, (hb.block _ (blk_lt h.2.1)).trans h.2.1, Kd.C_below h.2.2.1 hb, Kd.C_below h.2.2.2 hb⟩
set_option maxRecDepth 100000 in
set_option maxHeartbeats 1000000 in
theorem ipParses_any (b : List Int) (A : Option Addr) (n c : Nat) (w : World) (hC : Kd.C (Kd.int .u8) w A n b) (hc : n ≤ c) (hb : bytes b) (hn9 : n ≤ 9223372036854775807) :
    Calls Try.prog 6 #[.slice A n c] w fun e w' => e = .returned (.bool true) ∧ Below w.heap.size w w' := by
  by_cases h300 : 300 < n
  · clear hC hb
    go_enter Try.func6, Try.ntmps6
    go_wp2_with (go_at_call 8; (with_reducible refine (works5 _).mono ?_); rintro e w1 ⟨rfl, hw1⟩)
    go_ret
    exact ⟨rfl, hw1⟩
  have hn : n ≤ 1000000 := by omega
  have HJ := Aside0.mk (join_any [] b none A 0 0 n c w (C_nil w) hC (by omega))
  have HRP := Aside0.mk (fun W (hW : Below w.heap.size w W) => rparse_all b A n c W (Kd.C_below hC hW) hc hb hn)
  have HRB := Aside0.mk (fun W (hW : Below w.heap.size w W) => rbody_any b A n c W (Kd.C_below hC hW) hc hb hn)
  have HRH := Aside0.mk (fun W (hW : Below w.heap.size w W) => rhop_any b A n c W (Kd.C_below hC hW) hc hb hn)
  have HP := Aside0.mk (fun W (hW : Below w.heap.size w W) => parse_all b A n c W (Kd.C_below hC hW) hc hb hn)
  have HPB := Aside0.mk (fun W (hW : Below w.heap.size w W) => body_any b A n c W (Kd.C_below hC hW) hc hb hn)
  have HPH := Aside0.mk (fun W (hW : Below w.heap.size w W) => hop_any b A n c W (Kd.C_below hC hW) hc hb hn)
  have HPAD := Aside0.mk (fun W => pad_doc b W)
  have HDOC := Aside0.mk (fun A1 n1 c1 W (hW : Kd.C (Kd.int .u8) W A1 n1 (parseO b)) => doc_any (parseH b) A1 n1 c1 (parseO b) W hW)
  have HEQ := Aside0.mk (fun W => docEq (parseH b) (parseH b) (parseO b) (parseO b) (parseH_ok hb) (parseH_ok hb) (bytes_parseO hb) (bytes_parseO hb) W)
  rw [sameB_self] at HEQ
  have HVR : Aside0 (∃ V : Array Value, V = rcs (parseH b) (rparseS b) (rparseD b) (rparseO b)) := ⟨⟨_, rfl⟩⟩
  obtain ⟨VR, eVR⟩ := HVR.out
  have HSR : Aside0 (∀ W : World, (stV 41 ⟨W.heap.size, 0, none⟩ (.agg VR)).run Try.prog (W.alloc (.cells (rcs zHd ⟨#[]⟩ ⟨#[]⟩ ⟨#[]⟩) 41)) = .ok () (W.alloc (.cells VR 41))) := ⟨fun W => by
    rw [eVR]; exact st_new _ (rcs (parseH b) (rparseS b) (rparseD b) (rparseO b)) (rcs zHd ⟨#[]⟩ ⟨#[]⟩ ⟨#[]⟩) rfl (by simp [rcs, ocv_int, ocv_bool, ocv_string, ocv_slice]) (fun w j => nf_new w _ _ _) (by kernel_rfl) W⟩
  have HLR : Aside0 (∀ (W : World) (g t : Nat), W.heap[g]? = some (.cells VR t (0, 0)) → (ldV 41 ⟨g, 0, none⟩).run Try.prog W = .ok (.agg VR) W) := ⟨fun W g t h => by rw [eVR] at h ⊢; exact ld_rh h⟩
  rw [← eVR] at HRP HPAD
  have HVD : Aside0 (∃ V : Array Value, V = docOf (parseH b) (parseO b)) := ⟨⟨_, rfl⟩⟩
  obtain ⟨VD, eVD⟩ := HVD.out
  change Aside0 (∀ W, (Op.equalIn 10000 41 (.agg (docOf (parseH b) (parseO b))) (.agg (docOf (parseH b) (parseO b)))).run Try.prog W = .ok true W) at HEQ
  rw [← eVD] at HPAD HDOC HEQ
  have HLEN := Aside0.mk hC.1
  have HC0 := Aside0.mk hC
  have HBY := Aside0.mk (And.intro hb (And.intro (bytes_bodyL hb) (bytes_hopL hb)))
  obtain ⟨f, ef⟩ : ∃ f, parseC b = f := ⟨_, rfl⟩
  obtain ⟨N, eN⟩ : ∃ N, parseN b = N := ⟨_, rfl⟩
  obtain ⟨fb, efb⟩ : ∃ f, bodyC b = f := ⟨_, rfl⟩
  obtain ⟨fh, efh⟩ : ∃ f, hopC b = f := ⟨_, rfl⟩
  unfold ParseR at HP
  rw [ef, eN] at HRP HP
  rw [efb] at HRB HPB
  rw [efh] at HRH HPH
  clear hC hb ef eN efb efh eVR eVD HVR HVD
  go_enter Try.func6, Try.ntmps6
  go_upto_region 4 with (go_at_call 18; go_must (with_reducible refine HJ.out.mono ?_); rintro e w1 ⟨Aw, nw, cw, rfl, hR1, hb1⟩)
  rw [List.nil_append] at hR1
  have HB1 := Aside0.mk hb1
  have HW1 := Aside0.mk (C_of_R hR1).1
  clear hR1 hb1 HJ
  have hsr := HSR.out
  dsimp only [rcs] at hsr
  go_upto_region 5 with (go_at_call 22; go_must (with_reducible refine (HRP.out _ HB1.out).mono ?_); rintro e w2 ⟨rfl, hb2⟩)
  clear hsr
  have HB2 : Aside0 (Below w.heap.size w (w2.alloc (.cells VR 41))) := ⟨(below_then HB1.out HB1.out.size hb2).alloc (Nat.le_trans HB1.out.size hb2.size) _⟩
  have HX2 := Aside0.mk (heap_alloc_new w2 (.cells VR 41))
  have HW2 : Aside0 (Kd.C (Kd.int .u8) (w2.alloc (.cells VR 41)) Aw nw b) := ⟨Kd.C_alloc (Kd.C_below HW1.out hb2) _⟩
  clear hb2 HB1 HW1
  generalize w2.alloc (.cells VR 41) = w3 at HB2 HX2 HW2 ⊢
  generalize w2.heap.size = g at HX2 ⊢
  go_upto_region 6 with (go_at_call 23; go_must (with_reducible refine (HRB.out _ HB2.out).mono ?_); rintro e w4 ⟨Ab, nb, cb, rfl, hRb, hb4⟩)
  have HB4 := Aside0.mk (below_then HB2.out HB2.out.size hb4)
  have HRb := Aside0.mk hRb
  have HX4 := Aside0.mk ((hb4.block _ (blk_lt HX2.out)).trans HX2.out)
  have HW4 := Aside0.mk (Kd.C_below HW2.out hb4)
  clear hRb hb4 HB2 HX2 HW2
  go_upto_block 0 with (go_at_call 24; go_must (with_reducible refine (HRH.out _ HB4.out).mono ?_); rintro e w5 ⟨Ah, nh, ch, rfl, hRh, hb5⟩)
  have HL : Aside0 (LPs w w5 b VR Aw nw Ah nh g) := ⟨below_then HB4.out HB4.out.size hb5, (hb5.block _ (blk_lt HX4.out)).trans HX4.out, Kd.C_below HW4.out hb5, (C_of_R hRh).1⟩
  clear hRh hb5 HB4 HX4 HW4 HRP HRB HRH HSR
  go_cut [11] (fun _ wx => Aside0 (LPs w wx b VR Aw nw Ah nh g))
  case first =>
    go_wp2_with fail
    go_loopw [11] (fun q wr => ∃ (t : Nat), t ≤ 2 ∧ q = .int .i64 t ∧ Aside0 (LPs w wr b VR Aw nw Ah nh g)) (fun q _ => 2 - (intOf q).toNat)
    case atStart => exact ⟨0, by omega, rfl, HL⟩
    case round =>
      clear HL
      obtain ⟨t, ht, rfl, HL⟩ := hrel
      obtain ⟨wo, rfl⟩ : ∃ wo : World, wo = wr := ⟨_, rfl⟩
      have HLB : Aside0 (Below w.heap.size w wo) := ⟨HL.out.1⟩
      by_cases ht2 : t < 2
      · go_wp2_with fail
        with_reducible refine (HP.out wo HLB.out).mono ?_
        rintro e w6 ⟨A1, n1, c1, rfl, hR6, hb6⟩
        obtain ⟨VH, eVH⟩ : ∃ V, hcs (parseH b) A1 n1 c1 = V := ⟨_, rfl⟩
        rw [eVH]
        have hsh : ∀ W : World, (stV 39 ⟨W.heap.size, 0, none⟩ (.agg VH)).run Try.prog (W.alloc (.cells (hcs zHd none 0 0) 39)) = .ok () (W.alloc (.cells VH 39)) := fun W => by
          rw [← eVH]; exact st_new _ (hcs (parseH b) A1 n1 c1) (hcs zHd none 0 0) rfl (by simp [hcs, ocv_int, ocv_bool, ocv_string, ocv_slice]) (fun w j => nf_new w _ _ _) (by kernel_rfl) W
        dsimp only [hcs] at hsh
        have HVH := Aside0.mk eVH
        have HR6 := Aside0.mk hR6
        have HB6 := Aside0.mk hb6
        clear eVH hR6 hb6
        go_upto_region 11 with fail
        clear hsh
        have HB7 : Aside0 (Below wo.heap.size wo (w6.alloc (.cells VH 39))) := ⟨HB6.out.alloc HB6.out.size _⟩
        have HX7 := Aside0.mk (heap_alloc_new w6 (.cells VH 39))
        have HR7 := Aside0.mk (Kd.R_alloc HR6.out (.cells VH 39))
        have HA1 := Aside0.mk (R_lt HR6.out)
        have HG0 := Aside0.mk HB6.out.size
        have HG1 : Aside0 (w6.heap.size < (w6.alloc (.cells VH 39)).heap.size) := ⟨by simp⟩
        clear HB6 HR6
        generalize w6.alloc (.cells VH 39) = w7 at HB7 HX7 HR7 HG1 ⊢
        generalize w6.heap.size = g2 at HX7 HA1 HG0 HG1 ⊢
        have HW7 : Aside0 (Below w.heap.size w w7) := ⟨below_then HLB.out HLB.out.size HB7.out⟩
        go_upto_region 12 with (go_at_call 25; go_must (with_reducible refine (HPB.out _ HW7.out).mono ?_); rintro e w8 ⟨A2, n2, c2, rfl, hR8, hb8⟩)
        have HR8 := Aside0.mk hR8
        have HB8 := Aside0.mk hb8
        clear hR8 hb8
        have HW8 : Aside0 (Below w.heap.size w w8) := ⟨below_then HW7.out HW7.out.size HB8.out⟩
        go_upto_region 13 with (go_at_call 21; go_must (with_reducible refine (HPH.out _ HW8.out).mono ?_); rintro e w9 ⟨A3, n3, c3, rfl, hR9, hb9⟩)
        have HR9 := Aside0.mk hR9
        have HB9 := Aside0.mk hb9
        clear hR9 hb9
        have hb79 : Below w7.heap.size w7 w9 := below_then HB8.out HB8.out.size HB9.out
        have hb09 : Below wo.heap.size wo w9 := below_then HB7.out HB7.out.size hb79
        have hx9 := (hb79.block _ (blk_lt HX7.out)).trans HX7.out
        have hl9 := HL.out.below hb09
        have HS9 := Aside0.mk (fun (W : World) (hW : Below w9.heap.size w9 W) => (below_then hb09 hb09.size hW : Below wo.heap.size wo W))
        have HK9 : Aside0 (∀ W, Below w9.heap.size w9 W → (∃ l, Kd.R (Kd.int .u8) 5 W wo.heap.size (fun _ => True) (.slice A1 n1 c1) l) ∧ (∃ l, Kd.R (Kd.int .u8) 5 W w7.heap.size (fun _ => True) (.slice A2 n2 c2) l) ∧ (∃ l, Kd.R (Kd.int .u8) 5 W w8.heap.size (fun _ => True) (.slice A3 n3 c3) l) ∧ W.cell? ⟨g2, 16, none⟩ = some (.slice A1 n1 c1)) := ⟨fun W hW => ⟨⟨_, Kd.R_below (Kd.R_below HR7.out hb79) hW⟩, ⟨_, Kd.R_below (Kd.R_below HR8.out HB9.out) hW⟩, ⟨_, Kd.R_below HR9.out hW⟩, by
          have hxw := (hW.block _ (blk_lt hx9)).trans hx9
          rw [← HVH.out] at hxw
          exact (hd_cells hxw).2.2.2.2.2.2.2.2.2.2.2.2.2.2.2.2⟩⟩
        have hmk : ∀ W', Below w9.heap.size w9 W' → Below w9.heap.size w9 W' ∧ (ldV 39 ⟨g2, 0, none⟩).run Try.prog W' = .ok (.agg VH) W' ∧ (ldV 41 ⟨g, 0, none⟩).run Try.prog W' = .ok (.agg VR) W' := fun W' hW => by
          have hxw := (hW.block _ (blk_lt hx9)).trans hx9
          refine ⟨hW, ?_, HLR.out W' g _ (hl9.below hW).2.1⟩
          rw [← HVH.out] at hxw ⊢
          exact ld_hd hxw
        have HMK := Aside0.mk hmk
        have HQ1 : Aside0 (∀ W, Below w9.heap.size w9 W → Calls Try.prog 11 #[.agg VH] W fun e w' => e = .returned (.agg VD) ∧ Below W.heap.size W w') := ⟨fun W hW => by
          rw [← HVH.out]
          exact HDOC.out A1 n1 c1 W (Kd.C_below (Kd.C_below (C_of_R HR7.out).1 hb79) hW)⟩
        have HQ2 : Aside0 (∀ W, Below w9.heap.size w9 W → Calls Try.prog 14 #[.slice A2 n2 c2, .slice Ab nb cb] W fun e w' => e = .returned (.bool true) ∧ W = w') := ⟨fun W hW => by
          have h := same_any (bodyL b) (bodyL b) A2 Ab n2 c2 nb cb W (Kd.C_below (Kd.C_below (C_of_R HR8.out).1 HB9.out) hW) (Kd.C_below (HRb.out _ (Kd.C_below HC0.out hl9.1)) hW) HBY.out.2.1 HBY.out.2.1
          rw [show decide (bodyL b = bodyL b) = true from decide_eq_true rfl] at h
          exact h⟩
        have HQ3 : Aside0 (∀ W, Below w9.heap.size w9 W → Calls Try.prog 14 #[.slice A3 n3 c3, .slice Ah nh ch] W fun e w' => e = .returned (.bool true) ∧ W = w') := ⟨fun W hW => by
          have h := same_any (hopL b) (hopL b) A3 Ah n3 c3 nh ch W (Kd.C_below (C_of_R HR9.out).1 hW) (Kd.C_below hl9.2.2.2 hW) HBY.out.2.2 HBY.out.2.2
          rw [show decide (hopL b = hopL b) = true from decide_eq_true rfl] at h
          exact h⟩
        have HNX : Aside0 (∀ W W', (Below w9.heap.size w9 W ∧ (ldV 39 ⟨g2, 0, none⟩).run Try.prog W = .ok (.agg VH) W ∧ (ldV 41 ⟨g, 0, none⟩).run Try.prog W = .ok (.agg VR) W) → Below W.heap.size W W' → (Below w9.heap.size w9 W' ∧ (ldV 39 ⟨g2, 0, none⟩).run Try.prog W' = .ok (.agg VH) W' ∧ (ldV 41 ⟨g, 0, none⟩).run Try.prog W' = .ok (.agg VR) W')) := ⟨fun W W' hs hb => HMK.out W' (below_then hs.1 hs.1.size hb)⟩
        have heq := HEQ.out
        have HPL : Aside0 (∀ W, Below w9.heap.size w9 W → PL wo W A1 n1 c1 A2 n2 c2 A3 n3 c3 g2 w7.heap.size w8.heap.size) := ⟨fun W hW => ⟨HS9.out W hW, (HK9.out W hW).2.2.2, (HK9.out W hW).1, (HK9.out W hW).2.1, (HK9.out W hW).2.2.1, HA1.out, R_lt HR8.out, HG0.out, HG1.out, HB8.out.size⟩⟩
        clear hb79 hb09 hx9 hl9 hmk HS9 HK9 HR7 HR8 HR9 HB7 HB8 HB9 HX7 HA1 HG0 HG1
        go_region_held3 (fun W' => Below w9.heap.size w9 W' ∧ (ldV 39 ⟨g2, 0, none⟩).run Try.prog W' = .ok (.agg VH) W' ∧ (ldV 41 ⟨g, 0, none⟩).run Try.prog W' = .ok (.agg VR) W') (first | exact HMK.out _ (below_drew (Below.refl _ _)) | (refine HNX.out _ _ ?_ hb; assumption) | assumption) (first
          | (go_at_call 11; go_must (with_reducible refine (HQ1.out _ (And.left (by assumption))).mono ?_); rintro e w1 ⟨rfl, hb⟩)
          | (go_at_call 26; go_must (with_reducible refine (HPAD.out _).mono ?_); rintro e w1 ⟨rfl, hb⟩)
          | (go_at_call 14; (with_reducible refine (HQ2.out _ (And.left (by assumption))).mono ?_); rintro e w1 ⟨rfl, rfl⟩)
          | (go_at_call 14; (with_reducible refine (HQ3.out _ (And.left (by assumption))).mono ?_); rintro e w1 ⟨rfl, rfl⟩))
        have HPQ : Aside0 (PL wo w1 A1 n1 c1 A2 n2 c2 A3 n3 c3 g2 w7.heap.size w8.heap.size) := ⟨HPL.out _ (And.left (by assumption))⟩
        have hn63 : n1 ≤ 9223372036854775807 := by obtain ⟨l, hl⟩ := HPQ.out.2.2.1; exact (C_of_R hl).1.2.1
        have hn64 : n2 ≤ 9223372036854775807 := by obtain ⟨l, hl⟩ := HPQ.out.2.2.2.1; exact (C_of_R hl).1.2.1
        have hn65 : n3 ≤ 9223372036854775807 := by obtain ⟨l, hl⟩ := HPQ.out.2.2.2.2.1; exact (C_of_R hl).1.2.1
        clear HPL HMK HNX HQ1 HQ2 HQ3 heq
        have hsl := HPQ.out.2.1
        go_wp2_with fail
        go_loopw [19] (fun q wj => ∃ (i : Nat), i ≤ n1 ∧ q = .int .i64 i ∧ Aside0 (PL wo wj A1 n1 c1 A2 n2 c2 A3 n3 c3 g2 w7.heap.size w8.heap.size)) (fun q _ => n1 - (intOf q).toNat)
        case atStart => exact ⟨0, by omega, rfl, HPQ⟩
        case round =>
          clear HPQ
          obtain ⟨i, hi, rfl, HPQ⟩ := hrel
          obtain ⟨wj, rfl⟩ : ∃ wj : World, wj = wr := ⟨_, rfl⟩
          have hsl := HPQ.out.2.1
          by_cases hin : i < n1
          · obtain ⟨ga, x, rfl, hcx, hfx, hpn⟩ := HPQ.out.put1 i hin
            have HPN := Aside0.mk hpn
            clear hpn HPQ
            go_wp2
            go_roundw
            case rel => exact ⟨i + 1, by omega, by go_num, ⟨HPN.out _⟩⟩
            case measure => simp [intOf]; omega
          · replace HPQ := Aside0.mk HPQ.out.two
            go_wp2_with fail
            go_loopw [20] (fun q wj => ∃ (i : Nat), i ≤ n2 ∧ q = .int .i64 i ∧ Aside0 (PL2 wo wj A2 n2 c2 A3 n3 c3 w7.heap.size w8.heap.size)) (fun q _ => n2 - (intOf q).toNat)
            case atStart => exact ⟨0, by omega, rfl, HPQ⟩
            case round =>
              clear HPQ
              obtain ⟨i, hi, rfl, HPQ⟩ := hrel
              obtain ⟨wj, rfl⟩ : ∃ wj : World, wj = wr := ⟨_, rfl⟩
              by_cases hin : i < n2
              · obtain ⟨ga, x, rfl, hcx, hfx, hpn⟩ := HPQ.out.put i hin
                have HPN := Aside0.mk hpn
                clear hpn HPQ
                go_wp2
                go_roundw
                case rel => exact ⟨i + 1, by omega, by go_num, ⟨HPN.out _⟩⟩
                case measure => simp [intOf]; omega
              · replace HPQ := Aside0.mk HPQ.out.three
                go_wp2_with fail
                go_loopw [21] (fun q wj => ∃ (i : Nat), i ≤ n3 ∧ q = .int .i64 i ∧ Aside0 (PL3 wo wj A3 n3 c3 w8.heap.size)) (fun q _ => n3 - (intOf q).toNat)
                case atStart => exact ⟨0, by omega, rfl, HPQ⟩
                case round =>
                  clear HPQ
                  obtain ⟨i, hi, rfl, HPQ⟩ := hrel
                  obtain ⟨wj, rfl⟩ : ∃ wj : World, wj = wr := ⟨_, rfl⟩
                  by_cases hin : i < n3
                  · obtain ⟨ga, x, rfl, hcx, hfx, hpn⟩ := HPQ.out.put i hin
                    have HPN := Aside0.mk hpn
                    clear hpn HPQ
                    go_wp2
                    go_roundw
                    case rel => exact ⟨i + 1, by omega, by go_num, ⟨HPN.out _⟩⟩
                    case measure => simp [intOf]; omega
                  · have HPZ : Aside0 (LPs w wj b VR Aw nw Ah nh g) := ⟨HL.out.below HPQ.out.1⟩
                    clear HPQ
                    go_wp2
                    go_roundw
                    case rel => exact ⟨t + 1, by omega, by go_num, HPZ⟩
                    case measure => simp [intOf]; omega
      · go_wp2
        go_meet
        exact HL
  case rest =>
    clear HL
    have HL := hcut
    clear hcut
    have hsm : ∀ W, Below wc.heap.size wc W → Calls Try.prog 14 #[.slice A n c, .slice Aw nw cw] W fun e w' => e = .returned (.bool true) ∧ W = w' := fun W hW => by
      have h := same_any b b A Aw n c nw cw W (Kd.C_below HC0.out (below_then HL.out.1 HL.out.1.size hW)) (Kd.C_below HL.out.2.2.1 hW) HBY.out.1 HBY.out.1
      rw [show decide (b = b) = true from decide_eq_true rfl] at h
      exact h
    have hsm := hsm wc (Below.refl _ _)
    have HLB : Aside0 (Below w.heap.size w wc) := ⟨HL.out.1⟩
    have HSM := Aside0.mk hsm
    clear hsm HL
    go_wp2_with (first | (go_at_call 14; go_must (with_reducible refine HSM.out.mono ?_); rintro e w1 ⟨rfl, rfl⟩) | (go_at_call 8; (with_reducible refine (works5 _).mono ?_); rintro e w1 ⟨rfl, hw1⟩))
    go_ret
    exact ⟨rfl, below_then HLB.out HLB.out.size hw1⟩
end Go.Proofs.Ytknpaihlnkcpgaa.Own
/- Plain words on a header's bytes: what stands is parsed as it was; a byte that is another one breaks its checksum; a hop keeps it whole. -/
set_option linter.unusedVariables false
set_option linter.unusedSimpArgs false
namespace Go.Proofs.Ytknpaihlnkcpgaa.Own

/-- the first twenty bytes -/
def head20 (h : Hd) (N s : Int) : List Int := [64 + (20 + N) / 4, h.tos, h.total / 256 % 256, h.total % 256, h.id / 256 % 256, h.id % 256, (fl h.df 16384 + fl h.mf 8192 + h.frag) / 256 % 256, (fl h.df 16384 + fl h.mf 8192 + h.frag) % 256, h.ttl, h.proto, s / 256 % 256, s % 256, h.s0, h.s1, h.s2, h.s3, h.d0, h.d1, h.d2, h.d3]
theorem stands_head (h : Hd) (o : List Int) (s : Int) : stands h o s = head20 h o.length s ++ o := by
  simp [stands, head20, be]
theorem flF (a b : Bool) (x : Int) (h0 : 0 ≤ x) (h1 : x ≤ 8191) : 0 ≤ fl a 16384 + fl b 8192 + x ∧ fl a 16384 + fl b 8192 + x ≤ 32767 := by
  cases a <;> cases b <;> simp [fl] <;> omega
theorem w16_two (l : List Int) (i : Nat) (v : Int) (h0 : 0 ≤ v) (h1 : v ≤ 65535) (e1 : l.getD i 0 = v / 256 % 256) (e2 : l.getD (i + 1) 0 = v % 256) : w16 l i = v := by
  unfold w16
  rw [e1, e2]
  omega
section
variable {h : Hd} {n : Nat} {s : Int} {y : List Int}
theorem hdOf_head (hok : h.ok) (hf : h.frag ≤ 8191) : hdOf (head20 h n s ++ y) = h := by
  obtain ⟨a1, a2, a3, a4, a5, a6, a7, a8, a9, a10, a11, a12, a13, a14⟩ := hok
  obtain ⟨F0, F1⟩ := flF h.df h.mf h.frag a4.1 hf
  have e2 : w16 (head20 h n s ++ y) 2 = h.total := w16_two _ 2 _ a2.1 a2.2 rfl rfl
  have e4 : w16 (head20 h n s ++ y) 4 = h.id := w16_two _ 4 _ a3.1 a3.2 rfl rfl
  have e6 : w16 (head20 h n s ++ y) 6 = fl h.df 16384 + fl h.mf 8192 + h.frag := w16_two _ 6 _ F0 (by omega) rfl rfl
  have q1 : decide (0 < bits .and .u16 (fl h.df 16384 + fl h.mf 8192 + h.frag) 16384) = h.df := by
    rw [Bool.eq_iff_iff, decide_eq_true_iff, u16_bit14 _ F0 (by omega)]
    have := a4.1
    cases h.df <;> cases h.mf <;> simp [fl] <;> omega
  have q2 : decide (0 < bits .and .u16 (fl h.df 16384 + fl h.mf 8192 + h.frag) 8192) = h.mf := by
    rw [Bool.eq_iff_iff, decide_eq_true_iff, u16_bit13 _ F0 (by omega)]
    have := a4.1
    cases h.df <;> cases h.mf <;> simp [fl] <;> omega
  have q3 : bits .and .u16 (fl h.df 16384 + fl h.mf 8192 + h.frag) 8191 = h.frag := by
    rw [u16_low13 _ F0 (by omega)]
    have := a4.1
    cases h.df <;> cases h.mf <;> simp [fl] <;> omega
  unfold hdOf
  rw [e2, e4, e6, q1, q2, q3]
  rfl
theorem hlen_head (hn : n % 4 = 0) (hn4 : n ≤ 40) : hlen (head20 h n s ++ y) = 20 + n := by
  show ((64 + (20 + (n : Int)) / 4) % 16 * 4).toNat = 20 + n
  omega
theorem head_len : (head20 h n s).length = 20 := rfl
theorem wt_head (v : Int) (h0 : 0 ≤ v) (h1 : v ≤ 65535) : wt 0 (head20 h n v ++ y) = wt 0 (head20 h n 0 ++ y) + v := by
  rw [wt_append, wt_append, head_len, head_len]
  have e : wt 0 (head20 h n v) = wt 0 (head20 h n 0) + v := by
    simp [head20, wt]
    omega
  omega
theorem bytes_head (hok : h.ok) (hf : h.frag ≤ 8191) (hn4 : n ≤ 40) : bytes (head20 h n s) := by
  obtain ⟨a1, a2, a3, a4, a5, a6, a7, a8, a9, a10, a11, a12, a13, a14⟩ := hok
  unfold inB at *
  unfold head20
  simp only [bytes_cons]
  refine ⟨by omega, by omega, by omega, by omega, by omega, by omega, by omega, by omega, by omega, by omega, by omega, by omega, by omega, by omega, by omega, by omega, by omega, by omega, by omega, by omega, bytes_nil⟩
end
/-- the packet that stands: its header, whole -/
def stL (h : Hd) (o : List Int) : List Int := stands h o (ck (stands h o 0))
section
variable {h : Hd} {o x : List Int} {n : Nat}
theorem stL_eq : stL h o = head20 h o.length (ck (stands h o 0)) ++ o := stands_head h o _
theorem stL_len : (stL h o).length = 20 + o.length := by rw [stL_eq, List.length_append, head_len]
theorem bytes_stL (hok : h.ok) (ho : bytes o) (hf : h.frag ≤ 8191) (hn4 : o.length ≤ 40) : bytes (stL h o) := by
  rw [stL_eq, bytes_append]
  exact ⟨bytes_head hok hf hn4, ho⟩
theorem stL_whole (hok : h.ok) (ho : bytes o) (hf : h.frag ≤ 8191) (hn4 : o.length ≤ 40) : wt 0 (stL h o) % 65535 = 0 := by
  have hb0 : bytes (stands h o 0) := by
    rw [stands_head, bytes_append]
    exact ⟨bytes_head hok hf hn4, ho⟩
  have hr := ck_range _ hb0
  have hm := ck_mod _ hb0
  rw [stL_eq, wt_head _ hr.1 hr.2, ← stands_head]
  exact hm
/-- a row that begins so is parsed as that -/
theorem parse_of {b : List Int} (h20 : 20 + o.length ≤ b.length) (hv : b.getD 0 0 / 16 = 4) (hl : hlen b = 20 + o.length) (hh : hdOf b = h) (ht : (20 : Int) + o.length ≤ h.total) (h15 : ¬ 0 < bits .and .u16 (w16 b 6) 32768) (hw : wholeB (b.take (20 + o.length)) = true) (hd : (b.take (20 + o.length)).drop 20 = o) :
    parseC b = 0 ∧ parseN b = 20 + o.length ∧ parseH b = h ∧ parseO b = o := by
  have ht2 : w16 b 2 = h.total := by rw [← hh]; rfl
  have hC : parseC b = 0 := by
    unfold parseC
    rw [if_neg (by omega), if_neg (fun h => h hv), if_neg (by omega), if_neg (by omega)]
    unfold mainC
    rw [if_neg (not_or.2 ⟨h15, by omega⟩), hl, hw]
    rfl
  refine ⟨hC, ?_, ?_, ?_⟩
  · unfold parseN; rw [if_pos hC, hl]
  · unfold parseH; rw [if_pos hC, hh]
  · unfold parseO; rw [if_pos hC, hl, hd]
theorem no_bit15 {b : List Int} (hok : h.ok) (hf : h.frag ≤ 8191) (s : Int) (y : List Int) : ¬ 0 < bits .and .u16 (w16 (head20 h n s ++ y) 6) 32768 := by
  obtain ⟨F0, F1⟩ := flF h.df h.mf h.frag hok.2.2.2.1.1 hf
  have e6 : w16 (head20 h n s ++ y) 6 = fl h.df 16384 + fl h.mf 8192 + h.frag := w16_two _ 6 _ F0 (by omega) rfl rfl
  rw [e6, u16_bit15 _ F0 (by omega)]
  omega
theorem back1 (hok : h.ok) (ho : bytes o) (hr : rightB h o.length = true) (x : List Int) : parseC (stL h o ++ x) = 0 ∧ parseN (stL h o ++ x) = 20 + o.length ∧ parseH (stL h o ++ x) = h ∧ parseO (stL h o ++ x) = o := by
  obtain ⟨hf, hn, hn4, ht⟩ := of_decide_eq_true hr
  have e : stL h o ++ x = head20 h o.length (ck (stands h o 0)) ++ (o ++ x) := by rw [stL_eq, List.append_assoc]
  have htk : (stL h o ++ x).take (20 + o.length) = stL h o := by rw [← stL_len (h := h), List.take_left]
  refine parse_of (by rw [List.length_append, stL_len]; omega) ?_ ?_ ?_ ht ?_ ?_ ?_
  · rw [e]; show (64 + (20 + (o.length : Int)) / 4) / 16 = 4; omega
  · rw [e]; exact hlen_head hn hn4
  · rw [e]; exact hdOf_head hok hf
  · rw [e]; exact no_bit15 (b := []) hok hf _ _
  · rw [htk, whole_iff _ (bytes_stL hok ho hf hn4)]; exact stL_whole hok ho hf hn4
  · rw [htk, stL_eq]; rfl
/-- a byte that is another one: no such header stands there -/
theorem back2 (hok : h.ok) (ho : bytes o) (hr : rightB h o.length = true) (j : Nat) (v : Int) (hj : j < 20 + o.length) (v0 : 0 ≤ v) (v1 : v < 256) (hv : v ≠ (stL h o).getD j 0) (hC : parseC ((stL h o).set j v) = 0) :
    sameB (parseH ((stL h o).set j v)) h (parseO ((stL h o).set j v)) o = false := by
  obtain ⟨hf, hn, hn4, ht⟩ := of_decide_eq_true hr
  obtain ⟨f1, f2, f3, f4, f5, f6, f7, f8⟩ := parse_ok hC
  have hb := bytes_stL hok ho hf hn4
  cases hs : sameB (parseH ((stL h o).set j v)) h (parseO ((stL h o).set j v)) o with
  | false => rfl
  | true =>
    exfalso
    have hO : parseO ((stL h o).set j v) = o := by
      unfold sameB at hs
      exact (of_decide_eq_true hs).2.2.2.2.2.2.2.2.2.2
    unfold parseO at hO
    rw [if_pos hC] at hO
    have hlo := congrArg List.length hO
    rw [List.length_drop, List.length_take, List.length_set] at hlo
    rw [List.length_set, stL_len] at f2
    have hl : hlen ((stL h o).set j v) = 20 + o.length := by rw [stL_len] at hlo; omega
    rw [hl, List.take_of_length_le (by rw [List.length_set, stL_len]; exact Nat.le_refl _), whole_iff _ (bytes_set hb j v v0 v1), wt_set _ _ _ _ (by rw [stL_len]; exact hj)] at f6
    have hw := stL_whole hok ho hf hn4
    obtain ⟨u0, u1⟩ := bytes_getD hb j
    split at f6 <;> omega
/-- a hop -/
theorem back3 (hok : h.ok) (ho : bytes o) (hr : rightB h o.length = true) (x : List Int) (hx : bytes x) (ht0 : h.ttl ≠ 0) :
    hopC (stL h o ++ x) = 0 ∧ (hopL (stL h o ++ x)).length = (stL h o ++ x).length ∧ parseC (hopL (stL h o ++ x)) = 0 ∧ parseN (hopL (stL h o ++ x)) = 20 + o.length ∧ parseH (hopL (stL h o ++ x)) = { h with ttl := h.ttl - 1 } ∧ parseO (hopL (stL h o ++ x)) = o ∧ (hopL (stL h o ++ x)).drop (20 + o.length) = x := by
  obtain ⟨hf, hn, hn4, ht⟩ := of_decide_eq_true hr
  obtain ⟨c1, c2, c3, c4⟩ := back1 hok ho hr x
  have hb := bytes_stL hok ho hf hn4
  have hw := stL_whole hok ho hf hn4
  have hbx : bytes (stL h o ++ x) := (bytes_append _ _).2 ⟨hb, hx⟩
  have e : stL h o ++ x = head20 h o.length (ck (stands h o 0)) ++ (o ++ x) := by rw [stL_eq, List.append_assoc]
  have g8 : (stL h o ++ x).getD 8 0 = h.ttl := by rw [e]; rfl
  have hC : hopC (stL h o ++ x) = 0 := by
    unfold hopC
    rw [if_neg (fun h => h c1), if_neg (by rw [g8]; exact ht0)]
  obtain ⟨S, eS⟩ : ∃ S, hopS (stL h o ++ x) = S := ⟨_, rfl⟩
  have t5 := hok.2.2.2.2.1
  unfold inB at t5
  have hbs : bytes ((stL h o ++ x).set 8 (h.ttl - 1)) := bytes_set hbx 8 _ (by omega) (by omega)
  have r10 := w16_range hbx 10
  have r8 := w16_range hbx 8
  have rb := w16_range hbs 8
  have hcr := chg_range _ _ _ r10.1 r10.2 r8.1 r8.2 rb.1 rb.2
  have hS : chg (w16 (stL h o ++ x) 10) (w16 (stL h o ++ x) 8) (w16 ((stL h o ++ x).set 8 (h.ttl - 1)) 8) = S := by rw [← eS]; unfold hopS; rw [g8]
  rw [hS] at hcr
  have eL : hopL (stL h o ++ x) = (((stL h o).set 8 (h.ttl - 1)).set 10 (S / 256)).set 11 (S % 256) ++ x := by
    unfold hopL
    rw [if_pos hC, eS, g8, List.set_append_left _ _ (by rw [stL_len]; omega), List.set_append_left _ _ (by rw [List.length_set, stL_len]; omega), List.set_append_left _ _ (by rw [List.length_set, List.length_set, stL_len]; omega)]
  -- the header behind the hop, as a head
  have eH : (((stL h o).set 8 (h.ttl - 1)).set 10 (S / 256)).set 11 (S % 256) = head20 { h with ttl := h.ttl - 1 } o.length S ++ o := by
    have q : S / 256 % 256 = S / 256 := by omega
    rw [stL_eq]
    unfold head20
    rw [q]
    rfl
  have hok' : ({ h with ttl := h.ttl - 1 } : Hd).ok := by
    obtain ⟨a1, a2, a3, a4, a5, a6, a7⟩ := hok
    exact ⟨a1, a2, a3, a4, ⟨show 0 ≤ h.ttl - 1 by omega, show h.ttl - 1 ≤ 255 by omega⟩, a6, a7⟩
  have hck := ck_range (stands h o 0) (by rw [stands_head, bytes_append]; exact ⟨bytes_head hok hf hn4, ho⟩)
  have hwt : wt 0 (head20 { h with ttl := h.ttl - 1 } o.length S ++ o) % 65535 = 0 := by
    have e1 := wt_head (h := { h with ttl := h.ttl - 1 }) (n := o.length) (y := o) S hcr.1 hcr.2
    have e2 := wt_head (h := h) (n := o.length) (y := o) (ck (stands h o 0)) hck.1 hck.2
    rw [← stL_eq] at e2
    have e3 : wt 0 (head20 { h with ttl := h.ttl - 1 } o.length 0 ++ o) = wt 0 (head20 h o.length 0 ++ o) - 256 := by
      rw [wt_append, wt_append, head_len, head_len]
      have e4 : wt 0 (head20 { h with ttl := h.ttl - 1 } o.length 0) = wt 0 (head20 h o.length 0) - 256 := by
        simp [head20, wt]
        omega
      omega
    have k10 : w16 (stL h o ++ x) 10 = ck (stands h o 0) := by rw [e]; exact w16_two _ 10 _ hck.1 hck.2 rfl rfl
    have k8 : w16 (stL h o ++ x) 8 = h.ttl * 256 + h.proto := by rw [e]; rfl
    have kb : w16 ((stL h o ++ x).set 8 (h.ttl - 1)) 8 = (h.ttl - 1) * 256 + h.proto := by rw [e]; rfl
    have hpr := hok.2.2.2.2.2.1
    unfold inB at hpr
    rw [k10, k8, kb] at hS
    unfold chg at hS
    have hm := cf_mod (65535 - ck (stands h o 0) + (65535 - (h.ttl * 256 + h.proto)) + ((h.ttl - 1) * 256 + h.proto)) (by omega)
    omega
  have hn' : (20 : Int) + o.length ≤ ({ h with ttl := h.ttl - 1 } : Hd).total := ht
  have eX : hopL (stL h o ++ x) = head20 { h with ttl := h.ttl - 1 } o.length S ++ (o ++ x) := by rw [eL, eH, List.append_assoc]
  have hlen20 : (head20 { h with ttl := h.ttl - 1 } o.length S ++ o).length = 20 + o.length := by rw [List.length_append, head_len]
  have htk : (hopL (stL h o ++ x)).take (20 + o.length) = head20 { h with ttl := h.ttl - 1 } o.length S ++ o := by rw [eL, eH, ← hlen20, List.take_left]
  have hbH : bytes (head20 { h with ttl := h.ttl - 1 } o.length S ++ o) := (bytes_append _ _).2 ⟨bytes_head hok' hf hn4, ho⟩
  have hlX : (hopL (stL h o ++ x)).length = (stL h o ++ x).length := by rw [eL, List.length_append, List.length_set, List.length_set, List.length_set, ← List.length_append]
  obtain ⟨d1, d2, d3, d4⟩ := parse_of (h := { h with ttl := h.ttl - 1 }) (o := o) (b := hopL (stL h o ++ x)) (by rw [hlX, List.length_append, stL_len]; omega)
    (by rw [eX]; show (64 + (20 + (o.length : Int)) / 4) / 16 = 4; omega) (by rw [eX]; exact hlen_head hn hn4) (by rw [eX]; exact hdOf_head hok' hf) hn'
    (by rw [eX]; exact no_bit15 (b := []) hok' hf _ _) (by rw [htk, whole_iff _ hbH]; exact hwt) (by rw [htk]; rfl)
  exact ⟨hC, hlX, d1, d2, d3, d4, by rw [eL, eH, ← hlen20, List.drop_left]⟩
end
end Go.Proofs.Ytknpaihlnkcpgaa.Own
/- octroikit.Pick. -/
set_option linter.unusedVariables false
set_option linter.unusedSimpArgs false
namespace Go.Proofs.Ytknpaihlnkcpgaa.Own
open Go.RowKit Go.Proofs.YtknpaihlnkcpgaaW.PrintWords Go.Proofs.YtknpaihlnkcpgaaW.PrintLast Go.Proofs.YtknpaihlnkcpgaaW.PrintMore

theorem pick_any (i n : Int) (w : World) (n0 : 1 ≤ n) (n1 : n ≤ 1099511627775) (i0 : -9223372036854775808 ≤ i) (i1 : i ≤ 9223372036854775807) :
    Calls Try.prog 20 #[.int .i64 i, .int .i64 n] w fun e w' => ∃ r : Int, e = .returned (.int .i64 r) ∧ 0 ≤ r ∧ r < n ∧ w = w' := by
  have t0 : i.tmod n < n := Int.tmod_lt_of_pos i (by omega)
  have t1 : -n < i.tmod n := by
    have := Int.tmod_lt_of_pos (-i) (b := n) (by omega)
    rw [Int.neg_tmod] at this
    omega
  go_enter Try.func20, Try.ntmps20
  go_wp2
  go_ret
  exact ⟨_, rfl, by have := Int.emod_nonneg (i.tmod n + n) (show n ≠ 0 by omega); omega, Int.emod_lt_of_pos _ (by omega), rfl⟩
end Go.Proofs.Ytknpaihlnkcpgaa.Own
