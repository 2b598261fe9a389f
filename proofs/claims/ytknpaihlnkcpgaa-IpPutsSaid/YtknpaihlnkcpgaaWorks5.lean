/- The works of chapter 05: true. -/
import Derived.Test.YtknpaihlnkcpgaaPutR
import Derived.Test.YtknpaihlnkcpgaaParseShort
import Derived.Test.YtknpaihlnkcpgaaOptions
import Derived.Test.YtknpaihlnkcpgaaSame
set_option linter.unusedVariables false
set_option linter.unusedSimpArgs false
namespace Go.Proofs.Ytknpaihlnkcpgaa.Own
open Go.RowKit Go.Proofs.YtknpaihlnkcpgaaW.PrintWords Go.Proofs.YtknpaihlnkcpgaaW.PrintLast Go.Proofs.YtknpaihlnkcpgaaW.PrintMore
attribute [local go_sem ↓] ld17 ld4 sv_hd
attribute [local go_sem] run_sv_hd gv_some isV_some pick2_true stc nfz_false oc1_int oc1_bool oc1_string oc1_slice oc1_pointer oc1_func pick1_true setCells_new setCells_past setCells_drew

/-- the header of the example, and its bytes -/
def hdW : Hd := ⟨0, 20, 0, false, false, 0, 1, 6, 0, 0, 0, 0, 0, 0, 0, 0⟩
def rowW : List Int := stands hdW [] (ck (stands hdW [] 0))
theorem rowW_len : rowW.length = 20 := by decide
theorem put_w5 (w : World) :
    Calls Try.prog 13 #[.agg #[.int .u8 0, .int .u16 20, .int .u16 0, .bool false, .bool false, .int .u16 0, .int .u8 1, .int .u8 6, .int .u8 0, .int .u8 0, .int .u8 0, .int .u8 0, .int .u8 0, .int .u8 0, .int .u8 0, .int .u8 0, .slice none 0 0]] w fun e w' => ∃ A c, e = .returned (.tuple #[.slice A 20 c, .int .i64 0]) ∧ Kd.C (Kd.int .u8) w' A 20 rowW ∧ 20 ≤ c ∧ Below w.heap.size w w' := by
  have hok : hdW.ok := by
    unfold Hd.ok inB hdW
    simp
  refine (put_right hdW none 0 0 [] w hok (by decide) (by decide) (Kd.C_nil _ _) (Nat.le_refl _) bytes_nil).mono ?_
  rintro e w' ⟨x, rfl, hx, hb⟩
  obtain ⟨A, c, rfl⟩ := Kd.R_slice hx
  have h := C_of_R hx
  have hl : (stands hdW [] (ck (stands hdW [] 0))).length = 20 := rowW_len
  rw [hl] at h ⊢
  exact ⟨A, c, rfl, h.1, h.2, hb⟩
theorem flat2 {α : Type} (f g : α → Value) : ∀ (D : List α) (i : Nat), (D.flatMap fun d => [f d, g d])[2 * i]? = D[i]?.map f ∧ (D.flatMap fun d => [f d, g d])[2 * i + 1]? = D[i]?.map g
  | [], i => by simp
  | d :: D, 0 => by simp
  | d :: D, i + 1 => by
    have h := flat2 f g D i
    rw [show 2 * (i + 1) = 2 * i + 1 + 1 by omega]
    simpa using h
/-- an option of a list: its cells, and its row -/
theorem OptRows.at_ {W : World} {base : Nat} {lv : Value} {D : List OptV} (h : OptRows W base lv D) (i : Nat) (d : OptV) (hd : D[i]? = some d) :
    ∃ g cap A c, lv = .slice (some ⟨g, 0, none⟩) D.length cap ∧ D.length ≤ cap ∧ base ≤ g ∧ g < W.heap.size ∧ W.cell? ⟨g, 2 * i, none⟩ = some (.int .u8 d.1) ∧ W.cell? ⟨g, 2 * i + 1, none⟩ = some (.slice A d.2.2.length c) ∧ d.2.1 = .slice A d.2.2.length c ∧
      Kd.R (Kd.int .u8) 5 W base (fun _ => True) (.slice A d.2.2.length c) d.2.2 := by
  obtain ⟨h1, h2, _⟩ := h
  have hm := List.mem_of_getElem? hd
  have hpos : 0 < D.length := List.length_pos_of_mem hm
  obtain ⟨g, cap, rfl, hg0, hlt⟩ := h1.form hpos
  have hcap := h1.2
  have hcells := h1.cells (g := g) rfl
  have hR : Kd.R (Kd.int .u8) 5 W base (fun _ => True) d.2.1 d.2.2 := Kd.R_of_own (h1 := fun _ => rfl) (h2 d hm) (fun _ _ => trivial)
  obtain ⟨A, c, e⟩ := Kd.R_slice hR
  obtain ⟨f1, f2⟩ := flat2 (fun d : OptV => Value.int .u8 d.1) (fun d => d.2.1) D i
  rw [hd] at f1 f2
  have c1 := hcells _ _ f1
  have c2 := hcells _ _ f2
  rw [Addr.add_lit, Nat.zero_add] at c1 c2
  refine ⟨g, cap, A, c, rfl, ?_, hg0, hlt, c1, by rw [← e]; exact c2, e, by rw [← e]; exact hR⟩
  rcases hcap with ⟨e1, _⟩ | ⟨g', cap', cur, e1, _, _, hle, _⟩
  · cases e1
  · cases e1; exact hle
theorem opt_w5 (w : World) :
    Calls Try.prog 10 #[.slice (some ⟨w.heap.size, 0, none⟩) 6 6] (w.alloc (.cells #[.int .u8 1, .int .u8 7, .int .u8 3, .int .u8 9, .int .u8 0, .int .u8 5] 5)) fun e w' => ∃ g cap A c, e = .returned (.tuple #[.slice (some ⟨g, 0, none⟩) 1 cap, .int .i64 0]) ∧ 1 ≤ cap ∧
      w'.cell? ⟨g, 0, none⟩ = some (.int .u8 7) ∧ w'.cell? ⟨g, 1, none⟩ = some (.slice A 1 c) ∧ Kd.C (Kd.int .u8) w' A 1 [9] ∧ Below w.heap.size w w' := by
  have hC := C_new_bytes w [1, 7, 3, 9, 0, 5] (by decide)
  refine (options_any [1, 7, 3, 9, 0, 5] _ 6 6 _ hC (Nat.le_refl _) (by decide) (by decide)).mono ?_
  rintro e w' ⟨lv, n, rfl, hb, h⟩
  have ho : opts [1, 7, 3, 9, 0, 5] = some [(7, [9])] := by decide
  rcases h with ⟨D, hD, rfl, hr⟩ | ⟨h, _⟩
  · rw [ho] at hD
    have hD := (Option.some.inj hD).symm
    match D, hD with
    | [(k, v, d)], hD =>
      simp only [optsOf, List.map_cons, List.map_nil, List.cons.injEq, Prod.mk.injEq, and_true] at hD
      obtain ⟨rfl, rfl⟩ := hD
      obtain ⟨g, cap, A, c, rfl, hcap, hg0, hlt, c1, c2, _, hR⟩ := hr.at_ 0 (7, v, [9]) rfl
      exact ⟨g, cap, A, c, rfl, hcap, c1, c2, (C_of_R hR).1, below_tr (below_alloc1 w _) hb⟩
  · rw [ho] at h; cases h

/-- make([]byte, n) -/
theorem make_bytes (w : World) (n : Nat) (ni : Int) (hi : (n : Int) = ni) (hn : n ≤ 1000000) :
    (Instr.makeSlice 22 (.int .i64 ni) (.int .i64 ni)).run Try.prog w = .ok (.slice (some ⟨w.heap.size, 0, none⟩) n n) (w.alloc (.cells (madeCells #[.int .u8 0] n) 5)) := by
  subst hi
  exact print_make (P := Try.prog) 22 5 .u8 1 Try.underlying22 info_u8 (by decide) n (by omega) w
theorem made_C (w : World) (n : Nat) (hn : n ≤ 1000000) : Kd.C (Kd.int .u8) (w.alloc (.cells (madeCells #[.int .u8 0] n) 5)) (some ⟨w.heap.size, 0, none⟩) n (List.replicate n 0) := by
  have h := own_made w w.heap.size 5 .u8 n (Nat.le_refl _) (by omega)
  have hR : Kd.R (Kd.int .u8) 5 (w.alloc (.cells (madeCells #[.int .u8 0] n) 5)) w.heap.size (fun _ => True) (.slice (some ⟨w.heap.size, 0, none⟩) n n) (List.replicate n 0) := Kd.R_of_own (h1 := fun _ => rfl) (by simpa [nums, encs] using h) (fun _ _ => trivial)
  exact (C_of_R hR).1
theorem made_Cg {w : World} {g : Nat} (n : Nat) (hg : w.heap.size = g) (hn : n ≤ 1000000) : Kd.C (Kd.int .u8) (w.alloc (.cells (madeCells #[.int .u8 0] n) 5)) (some ⟨g, 0, none⟩) n (List.replicate n 0) := by
  subst hg
  exact made_C w n hn
theorem opt_w5g {w : World} {g : Nat} (hg : w.heap.size = g) :
    Calls Try.prog 10 #[.slice (some ⟨g, 0, none⟩) 6 6] (w.alloc (.cells #[.int .u8 1, .int .u8 7, .int .u8 3, .int .u8 9, .int .u8 0, .int .u8 5] 5)) fun e w' => ∃ g cap A c, e = .returned (.tuple #[.slice (some ⟨g, 0, none⟩) 1 cap, .int .i64 0]) ∧ 1 ≤ cap ∧
      w'.cell? ⟨g, 0, none⟩ = some (.int .u8 7) ∧ w'.cell? ⟨g, 1, none⟩ = some (.slice A 1 c) ∧ Kd.C (Kd.int .u8) w' A 1 [9] ∧ Below w.heap.size w w' := by
  subst hg
  exact opt_w5 w
set_option maxRecDepth 100000 in
set_option maxHeartbeats 4000000 in
theorem works5 (w : World) :
    Calls Try.prog 8 #[] w fun e w' => e = .returned (.bool true) ∧ Below w.heap.size w w' := by
  have hm19 := fun W => make_bytes W 19 19 rfl (by decide)
  have hm20 := fun W => make_bytes W 20 20 rfl (by decide)
  go_enter Try.func8, Try.ntmps8
  go_wp2_with fail
  refine (put_w5 _).mono ?_
  rintro e w1 ⟨A, c, rfl, hC1, hc1, hb1⟩
  go_wp2_with fail
  with_reducible refine (parse_short _ 19 19 _ (by decide)).mono ?_
  rintro e w2 ⟨rfl, hb2⟩
  go_wp2_with fail
  have hs1 : ∀ (W : World) (o : Obj), (W.alloc o).heap.size = W.heap.size + 1 := fun W o => by simp
  with_reducible refine (parse_version (List.replicate 20 0) _ 20 20 _ (made_Cg 20 (hs1 w2 _) (by decide)) (by decide) (by decide)).mono ?_
  rintro e w3 ⟨rfl, hb3⟩
  clear hm19 hm20
  go_wp2_with fail
  with_reducible refine (opt_w5g (hs1 w3 _)).mono ?_
  rintro e w4 ⟨g4, cap4, A4, c4, rfl, hcap4, hx0, hx1, hC4, hb4⟩
  have HB : Aside0 (Below w.heap.size w w4) := ⟨below_tr hb1 (below_tr (below_alloc1 w1 _) (below_tr hb2 (below_tr (below_alloc2 w2 _ _) (below_tr hb3 (below_tr (below_alloc1 w3 _) hb4)))))⟩
  have HC1 : Aside0 (Kd.C (Kd.int .u8) w4 A 20 rowW) := ⟨Kd.C_below hC1 (below_tr (below_alloc1 w1 _) (below_tr hb2 (below_tr (below_alloc2 w2 _ _) (below_tr hb3 (below_tr (below_alloc1 w3 _) hb4)))))⟩
  have HC4 := Aside0.mk hC4
  clear hs1 hC1 hC4 hb1 hb2 hb3 hb4
  have hlit := fun (W : World) => C_new_bytes W [69, 0, 0, 20, 0, 0, 0, 0, 1, 6] (by decide)
  have hlit9 := fun (W : World) => C_new_bytes W [9] (by decide)
  have hcut := (take_bytes A c rowW 10 (by decide) (by decide) (by rw [rowW_len]; exact hc1)).1
  rw [rowW_len, show (rowW.take (10 : Int).toNat).length = 10 by decide] at hcut
  have htk : Kd.C (Kd.int .u8) w4 A 10 (rowW.take 10) := by
    have h := (take_bytes A c rowW 10 (by decide) (by decide) (by rw [rowW_len]; exact hc1)).2.1 w4 (by rw [rowW_len]; exact HC1.out)
    exact h
  have hsm : ∀ W : World, Below w4.heap.size w4 W → ∀ B, Kd.C (Kd.int .u8) W B 10 [69, 0, 0, 20, 0, 0, 0, 0, 1, 6] → Calls Try.prog 14 #[.slice A 10 c, .slice B 10 10] W fun e w' => e = .returned (.bool true) ∧ W = w' := fun W hb B hB => by
    have h := same_any (rowW.take 10) [69, 0, 0, 20, 0, 0, 0, 0, 1, 6] A B 10 c 10 10 W (Kd.C_below htk hb) hB (by decide) (by decide)
    rwa [show decide (rowW.take 10 = [69, 0, 0, 20, 0, 0, 0, 0, 1, 6]) = true by decide] at h
  have hsm9 : ∀ W : World, Below w4.heap.size w4 W → ∀ B, Kd.C (Kd.int .u8) W B 1 [9] → Calls Try.prog 14 #[.slice A4 1 c4, .slice B 1 1] W fun e w' => e = .returned (.bool true) ∧ W = w' := fun W hb B hB => by
    have h := same_any [9] [9] A4 B 1 c4 1 1 W (Kd.C_below HC4.out hb) hB (by decide) (by decide)
    rwa [show decide (([9] : List Int) = [9]) = true by decide] at h
  have HSM := Aside0.mk hsm
  have HSM9 := Aside0.mk hsm9
  have HL := Aside0.mk hlit
  have HL9 := Aside0.mk hlit9
  clear hsm hsm9 hlit hlit9 htk
  go_wp2_with fail
  with_reducible refine (HSM.out _ (below_alloc1 w4 _) _ (HL.out w4)).mono ?_
  rintro e w5 ⟨rfl, rfl⟩
  have hb5 := below_alloc1 w4 (.cells #[.int .u8 69, .int .u8 0, .int .u8 0, .int .u8 20, .int .u8 0, .int .u8 0, .int .u8 0, .int .u8 0, .int .u8 1, .int .u8 6] 5)
  revert hb5
  generalize w4.alloc (.cells #[.int .u8 69, .int .u8 0, .int .u8 0, .int .u8 20, .int .u8 0, .int .u8 0, .int .u8 0, .int .u8 0, .int .u8 1, .int .u8 6] 5) = w5
  intro hb5
  have hy0 := pw_cell_below hb5 hx0
  have hy1 := pw_cell_below hb5 hx1
  have HB5 := Aside0.mk hb5
  clear hx0 hx1 hb5 HSM HL hcut
  go_wp2_with fail
  with_reducible refine (HSM9.out _ (below_tr HB5.out (below_alloc1 _ _)) _ (HL9.out _)).mono ?_
  rintro e w5 ⟨rfl, rfl⟩
  go_wp2
  go_ret
  exact ⟨rfl, below_tr HB.out (below_tr HB5.out (below_alloc1 _ _))⟩
end Go.Proofs.Ytknpaihlnkcpgaa.Own
