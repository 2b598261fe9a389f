/- octroiref01.Put, Join; append on rows of bytes of one's own. -/
import Derived.Test.YtknpaihlnkcpgaaBits
import Derived.Test.YtknpaihlnkcpgaaHelp
set_option linter.unusedVariables false
set_option linter.unusedSimpArgs false
namespace Go.Proofs.Ytknpaihlnkcpgaa.Own
open Go.RowKit Go.Proofs.YtknpaihlnkcpgaaW.PrintWords Go.Proofs.YtknpaihlnkcpgaaW.PrintLast Go.Proofs.YtknpaihlnkcpgaaW.PrintMore

/-- append(s, x...) on a row of bytes of the call's own -/
theorem app_bytes {ops : Array Oper} {rest : List Oper} {o : Oper} {a : Act} {W w0 : World} {Q : Exit → Act → World → Prop} (base : Nat) (hgd : o.guard = none) (s x : Operand)
    (ho : o.op = .call { callee := .builtin .append, args := #[s, x], argTypes := #[22, 22] }) (v : Value) (xs ys : List Int) (A : Option Addr) (m c : Nat) (hs : a.eval s = v) (hx : a.eval x = .slice A m c)
    (HO : Kd.R (Kd.int .u8) 5 W base (fun _ => True) v xs) (HC : Kd.C (Kd.int .u8) W A m ys) (HB : Below base w0 W) (hbase : base ≤ W.heap.size) (hl : xs.length + m ≤ 140737488355328)
    (h : ∀ A1 n1 c1 w1, Kd.R (Kd.int .u8) 5 w1 base (fun _ => True) (.slice A1 n1 c1) (xs ++ ys) → Below base w0 w1 → wpList Try.prog ops Q rest (a.put o.dst (.slice A1 n1 c1)) w1) :
    wpList Try.prog ops Q (o :: rest) a W :=
  Kd.R_append_rows (Kd.int .u8) (w0 := w0) base hgd s x 22 5 (.int .u8 0) 1 ho Try.underlying22 info_u8 rfl (by decide) (by decide) v xs ys A m c (fun _ => True) (fun _ => False) hs hx HO HC (fun _ _ h => h) (fun _ h => h.elim) (fun _ _ => trivial) HB hbase (by omega)
    (fun v1 w1 ho1 hb1 _ _ => by
      obtain ⟨A1, c1, rfl⟩ := Kd.R_slice ho1
      exact h _ _ _ _ ho1 hb1)

theorem be_succ (k : Nat) (v : Int) : be (k + 1) v = be k (v / 256) ++ [v % 256] := rfl
theorem p256_8 : (256 : Int) ^ 8 = 18446744073709551616 := rfl
set_option maxRecDepth 100000 in
theorem rput_any : ∀ (k : Nat) (v : Int) (w : World), 0 ≤ v → v < 256 ^ 8 → k ≤ 8 →
    Calls Try.prog 45 #[.int .u64 v, .int .i64 k] w fun e w' => ∃ A n c, e = .returned (.slice A n c) ∧ Kd.R (Kd.int .u8) 5 w' w.heap.size (fun _ => True) (.slice A n c) (be k v) ∧ Below w.heap.size w w' := by
  intro k
  induction k with
  | zero =>
    intro v w h0 h1 hk
    clear h1
    go_enter Try.func45, Try.ntmps45
    go_wp2_with fail
    go_ret
    exact ⟨_, _, _, rfl, Kd.R_nil _ _ _ _ _, Below.refl _ _⟩
  | succ k ih =>
    intro v w h0 h1 hk
    rw [p256_8] at h1
    have hq := ih (v / 256) w (by omega) (by rw [p256_8]; omega) (by omega)
    clear ih
    have HL := Aside0.mk (be_length k (v / 256))
    obtain ⟨L, eL⟩ : ∃ L, be k (v / 256) = L := ⟨_, rfl⟩
    rw [eL] at hq HL
    have HE : Aside0 (be (k + 1) v = L ++ [v % 256]) := ⟨by rw [be_succ, eL]⟩
    have hk1 : ¬ ((k : Int) + 1 = 0) := by omega
    clear eL
    go_enter Try.func45, Try.ntmps45
    go_wp2_with fail
    with_reducible refine hq.mono ?_
    rintro e w1 ⟨A1, n1, c1, rfl, hR1, hb1⟩
    clear hq
    have hlen : L.length + 1 ≤ 140737488355328 := by have := HL.out; omega
    have hc1 := C_new_bytes w1 [v % 256] (by simp)
    go_wp2_with (at_builtin; refine app_bytes w.heap.size rfl (.tmp 11) (.tmp 15) rfl _ L [v % 256] _ 1 1 rfl rfl (Kd.R_alloc hR1 _) hc1 (below_alloc hb1 _) (by simp; have := hb1.size; omega) hlen ?_; intro A2 n2 c2 w2 hR2 hb2)
    go_ret
    exact ⟨_, _, _, rfl, by rw [HE.out]; exact hR2, hb2⟩
theorem rput_at (k : Nat) (ki : Int) (hki : (k : Int) = ki) (v : Int) (w : World) (h0 : 0 ≤ v) (h1 : v ≤ 1099511627775) (hk : k ≤ 8) :
    Calls Try.prog 45 #[.int .u64 v, .int .i64 ki] w fun e w' => ∃ A n c, e = .returned (.slice A n c) ∧ Kd.R (Kd.int .u8) 5 w' w.heap.size (fun _ => True) (.slice A n c) (be k v) ∧ Below w.heap.size w w' := by
  subst hki
  exact rput_any k v w h0 (by rw [p256_8]; omega) hk
set_option maxRecDepth 100000 in
theorem join_any (xs ys : List Int) (A B : Option Addr) (n c m d : Nat) (w : World) (hA : Kd.C (Kd.int .u8) w A n xs) (hB : Kd.C (Kd.int .u8) w B m ys) (hl : n + m ≤ 140737488355328) :
    Calls Try.prog 18 #[.slice A n c, .slice B m d] w fun e w' => ∃ A n c, e = .returned (.slice A n c) ∧ Kd.R (Kd.int .u8) 5 w' w.heap.size (fun _ => True) (.slice A n c) (xs ++ ys) ∧ Below w.heap.size w w' := by
  have HA := Aside0.mk hA
  have HB := Aside0.mk hB
  have HL := Aside0.mk hl
  have HXL := Aside0.mk hA.1
  clear hA hB hl
  go_enter Try.func18, Try.ntmps18
  go_upto_region 3 with (at_builtin; refine app_bytes w.heap.size rfl (.tmp 6) (.tmp 7) rfl _ [] xs A n c rfl rfl (Kd.R_nil _ _ _ _ _) HA.out (Below.refl _ _) (Nat.le_refl _) (by have := HL.out; simp; omega) ?_; intro A2 n2 c2 w2 hR2 hb2)
  go_wp2_with (at_builtin; refine app_bytes w.heap.size rfl (.tmp 9) (.tmp 10) rfl _ ([] ++ xs) ys B m d rfl rfl hR2 (Kd.C_below HB.out hb2) hb2 hb2.size (by have := HL.out; have := HXL.out; simp; omega) ?_; intro A3 n3 c3 w3 hR3 hb3)
  go_ret
  exact ⟨_, _, _, rfl, hR3, hb3⟩
end Go.Proofs.Ytknpaihlnkcpgaa.Own
