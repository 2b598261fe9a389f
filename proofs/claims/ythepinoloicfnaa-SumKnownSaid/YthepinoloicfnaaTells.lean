/- The walk of the law SumTells. -/
import Derived.Test.YthepinoloicfnaaKeeps
import Derived.Test.YthepinoloicfnaaSame
import Derived.Test.YthepinoloicfnaaRowsOpen
set_option linter.unusedVariables false
set_option linter.unusedSimpArgs false
namespace Go.Proofs.Ythepinoloicfnaa.Own
open Go.RowKit Go.Proofs.YthepinoloicfnaaW.PrintWords Go.Proofs.YthepinoloicfnaaW.PrintLast Go.Proofs.YthepinoloicfnaaW.PrintMore

/-- few rows, none of them long -/
def fewRows (l : List (List Int)) : Prop := l.length ≤ 20 ∧ ∀ x ∈ l, x.length ≤ 300
theorem fewRows_len {l : List (List Int)} (h : ∀ x ∈ l, x.length ≤ 300) : l.flatten.length ≤ 300 * l.length := by
  induction l with
  | nil => simp
  | cons x l ih =>
    have h1 := h x List.mem_cons_self
    have h2 := ih (fun y hy => h y (List.mem_cons_of_mem _ hy))
    simp only [List.flatten_cons, List.length_append, List.length_cons]
    omega
theorem getD_mem_rows {l : List (List Int)} {k : Nat} (h : k < l.length) : l.getD k [] ∈ l := by
  rw [List.getD_eq_getElem?_getD, List.getElem?_eq_getElem h]
  exact List.getElem_mem h

set_option maxRecDepth 100000 in
set_option maxHeartbeats 1000000 in
theorem joined_any (l : List (List Int)) (A : Option Addr) (c : Nat) (w : World) (hr : Kd.C (Kd.slice 5 (Kd.int .u8)) w A l.length l) (hl9 : l.length ≤ 9223372036854775807) :
    Calls Try.prog 14 #[.slice A l.length c] w fun e w' => ∃ (v : Value) (ok : Bool), e = .returned (.tuple #[v, .bool ok]) ∧ (ok = true → fewRows l ∧ Kd.R (Kd.int .u8) 5 w' w.heap.size (fun _ => True) v l.flatten) ∧ (ok = false → ¬ fewRows l) ∧ Below w.heap.size w w' := by
  have HR := Aside0.mk hr
  clear hr
  go_enter Try.func14, Try.ntmps14
  go_wp2
  go_loopw [4, 5] (fun vo vi wr => ∃ k : Nat, k ≤ l.length ∧ k ≤ 20 ∧ vi = .int .i64 k ∧ Aside0 (∀ x ∈ l.take k, x.length ≤ 300) ∧ Aside0 (Kd.R (Kd.int .u8) 5 wr w.heap.size (fun _ => True) vo (l.take k).flatten) ∧ Aside0 (Below w.heap.size w wr)) (fun _ vi _ => l.length - (intOf vi).toNat)
  case atStart => exact ⟨0, Nat.zero_le _, by omega, rfl, ⟨by simp⟩, ⟨by simpa using Kd.R_nil _ _ _ _ _⟩, ⟨Below.refl _ _⟩⟩
  case round =>
    obtain ⟨k, hk, hk20, rfl, HL, HO, HB⟩ := hrel
    by_cases hlt : k < l.length
    · by_cases h20 : k = 20
      · have e20 : ((k : Int) == 20) = true := by simp; omega
        have HN := Aside0.mk (show ¬ fewRows l by rintro ⟨h, _⟩; omega)
        clear h20
        go_wp2
        go_ret2
        exact ⟨_, false, rfl, (by intro h; cases h), (fun _ => HN.out), HB.out⟩
      · have e20 : ((k : Int) == 20) = false := by simp; omega
        have hk19 : k ≤ 19 := by omega
        clear h20
        obtain ⟨ad, A0, c0, rfl, hx, hl0, hi⟩ := at_rows HR.out k hlt
        replace hx := (HB.out.cell (World.block_lt_of_cell? w _ hx)).trans hx
        have HI := Aside0.mk (Kd.C_below hi HB.out)
        have HM := Aside0.mk (getD_mem_rows hlt)
        have HF := Aside0.mk (flatten_take_succ l k hlt)
        have HT := Aside0.mk (show ∀ x ∈ l.take (k + 1), x ∈ l.take k ∨ x = l.getD k [] by
          intro x hx
          rw [List.take_succ_eq_append_getElem hlt] at hx
          rcases List.mem_append.1 hx with h | h
          · exact .inl h
          · refine .inr ?_
            rw [List.mem_singleton.1 h, List.getD_eq_getElem?_getD, List.getElem?_eq_getElem hlt]
            rfl)
        clear hi
        obtain ⟨x, ex⟩ : ∃ x, l.getD k [] = x := ⟨_, rfl⟩
        rw [ex] at hx hl0 HI HM HF HT
        clear ex
        by_cases h3 : 300 < x.length
        · have e3 : decide ((300 : Int) < (x.length : Int)) = true := by simp; omega
          have HN := Aside0.mk (show ¬ fewRows l by rintro ⟨_, h⟩; have := h x HM.out; omega)
          go_wp2
          go_ret2
          exact ⟨_, false, rfl, (by intro h; cases h), (fun _ => HN.out), HB.out⟩
        · have e3 : decide ((300 : Int) < (x.length : Int)) = false := by simp; omega
          have h3' : x.length ≤ 300 := by omega
          have HFL := Aside0.mk (show (l.take k).flatten.length ≤ 6000 by
            have h := fewRows_len HL.out
            rw [List.length_take] at h
            omega)
          clear h3
          go_wp2_with (at_builtin; refine Kd.R_append_rows (Kd.int .u8) (w0 := w) w.heap.size rfl (.tmp 22) (.tmp 26) 22 5 (.int .u8 0) 1 rfl Try.underlying22 info_u8 rfl (by decide) (by decide) _ (l.take k).flatten x A0 x.length c0 (fun _ => True) (fun _ => False) rfl rfl HO.out HI.out (fun _ _ h => h) (fun _ h => h.elim) (fun _ _ => trivial) HB.out HB.out.size (by have := HFL.out; omega) ?_; intro v1 w3 ho1 hb3 _ _)
          go_roundw
          case rel => exact ⟨k + 1, by omega, by omega, by go_num, ⟨fun y hy => by rcases HT.out y hy with h | rfl; exact HL.out y h; exact h3'⟩, ⟨by rw [HF.out]; exact ho1⟩, ⟨hb3⟩⟩
          case measure => simp [intOf]; omega
    · have e : k = l.length := by omega
      subst e
      go_wp2
      go_ret2
      exact ⟨_, true, rfl, (fun _ => ⟨⟨hk20, by simpa using HL.out⟩, by simpa using HO.out⟩), (by intro h; cases h), HB.out⟩

theorem SumAt.below {w w' : World} {g : Nat} {n m : Int} (h : SumAt w g n m) (hb : Below w.heap.size w w') : SumAt w' g n m := by
  obtain ⟨n', h, r⟩ := h
  exact ⟨n', blk_below h hb, r⟩

set_option maxRecDepth 100000 in
set_option maxHeartbeats 4000000 in
theorem tells_any (l : List (List Int)) (A : Option Addr) (c : Nat) (a b d : Int) (w : World) (hr : Kd.C (Kd.slice 5 (Kd.int .u8)) w A l.length l) (hc : l.length ≤ c) (hb : ∀ x ∈ l, bytes x) (hl9 : l.length ≤ 9223372036854775807)
    (a0 : 0 ≤ a) (a1 : a ≤ 65535) (b0 : 0 ≤ b) (b1 : b ≤ 65535) (d0 : 0 ≤ d) (d1 : d ≤ 65535) :
    Calls Try.prog 5 #[.slice A l.length c, .int .u16 a, .int .u16 b, .int .u16 d] w fun e w' => e = .returned (.bool true) ∧ Below w.heap.size w w' := by
  have HR := Aside0.mk hr
  have HBY := Aside0.mk hb
  clear hr hb
  go_enter Try.func5, Try.ntmps5
  go_wp2_with fail
  refine (joined_any l A c w HR.out hl9).mono ?_
  rintro e w1 ⟨v1, ok1, rfl, hy1, hn1, hb1⟩
  have HB1 := Aside0.mk hb1
  clear hb1
  cases ok1 with
  | false =>
    clear hy1 hn1
    go_wp2_with (go_at_call 7; refine (works_any _).mono ?_; rintro e w2 ⟨rfl, hb2⟩)
    go_ret
    exact ⟨rfl, below_tr HB1.out hb2⟩
  | true =>
    obtain ⟨hfew, ho1⟩ := hy1 rfl
    clear hy1 hn1
    have HFL := Aside0.mk (fewRows_len hfew.2)
    have HFB := Aside0.mk (bytes_flatten HBY.out)
    obtain ⟨F, eF⟩ : ∃ F, l.flatten = F := ⟨_, rfl⟩
    rw [eF] at ho1 HFL HFB
    have HF := Aside0.mk eF
    clear eF
    obtain ⟨A1, c1, rfl, hl1, hC1⟩ := Kd.R_reads ho1
    have HC1 := Aside0.mk hC1
    have HFEW := Aside0.mk hfew
    have hl20 : l.length ≤ 20 := hfew.1
    clear ho1 hC1 hfew
    go_wp2_with fail
    go_loopw [13] (fun vi wr => ∃ k : Nat, k ≤ l.length ∧ vi = .int .i64 k ∧ Aside0 (SumAt wr w1.heap.size (wt 0 (l.take k).flatten) (l.take k).flatten.length) ∧ Aside0 ((w1.alloc (.cells #[.int .u64 0, .int .i64 0] 39)).grownBy wr (some w1.heap.size))) (fun vi _ => l.length - (intOf vi).toNat)
    case atStart => exact ⟨0, Nat.zero_le _, rfl, ⟨⟨0, by simpa using heap_alloc_new w1 _, by omega, by omega, by simp [wt]⟩⟩, ⟨World.grownBy.refl _ _⟩⟩
    case round =>
      obtain ⟨k, hk, rfl, HS, HG⟩ := hrel
      have HBW := Aside0.mk (below_of_grown (below_tr HB1.out (below_alloc1 w1 (.cells #[.int .u64 0, .int .i64 0] 39))) HG.out HB1.out.size)
      by_cases hlt : k < l.length
      · obtain ⟨ad, A0, c0, rfl, hx, hl0, hi⟩ := at_rows HR.out k hlt
        have hx1 := (HBW.out.cell (World.block_lt_of_cell? w _ hx)).trans hx
        have hne : ∀ ad, A0 = some ad → 0 < (l.getD k []).length → ad.block ≠ w1.heap.size := by
          rintro ad rfl hp
          have := Kd.C_lt hi hp (by decide)
          have := HB1.out.size
          omega
        have hblt := World.block_lt_of_cell? w _ hx
        have hs1 := HB1.out.size
        have HXN := Aside0.mk (show some (ad.add k).block ≠ some w1.heap.size by intro e; injection e with e; omega)
        have HI := Aside0.mk (Kd.C_below hi HBW.out)
        have HNE := Aside0.mk hne
        have hfl := flatten_take_le l k hlt
        rw [HF.out] at hfl
        have hflt := HFL.out
        have hbx := Aside0.mk (bytes_rows HBY.out k)
        have hw0 := Aside0.mk (wt_nonneg _ 0 (bytes_flatten (fun x hx => HBY.out x (List.mem_of_mem_take (i := k) hx))))
        clear hi hne hx hblt hs1
        obtain ⟨x, ex⟩ : ∃ x, l.getD k [] = x := ⟨_, rfl⟩
        rw [ex] at hx1 hl0 HI HNE hfl hbx
        obtain ⟨m, em⟩ : ∃ m, (l.take k).flatten.length = m := ⟨_, rfl⟩
        rw [em] at HS hfl
        have EX := Aside0.mk ex
        have EM := Aside0.mk em
        clear ex em
        go_wp2_with fail
        refine (add_any w1.heap.size _ _ x _ _ _ HS.out hw0.out hbx.out HI.out HNE.out (by omega) (by omega)).mono ?_
        rintro e w2 ⟨rfl, hs2, hg2⟩
        have HS2 := Aside0.mk hs2
        have HG2 := Aside0.mk hg2
        replace hx1 := hg2.cell hx1 HXN.out
        clear hs2 hg2
        go_wp2_with fail
        refine (add_nil _ _ _ _).mono ?_
        rintro e w3 ⟨rfl, rfl⟩
        go_wp2
        go_roundw
        case rel =>
          refine ⟨k + 1, by omega, by go_num, ⟨?_⟩, ⟨grown_trans HG.out HG2.out⟩⟩
          rw [flatten_take_succ l k hlt, EX.out, wt_append, List.length_append, EM.out, Int.zero_add]
          simpa using HS2.out
        case measure => simp [intOf]; omega
      · have e : k = l.length := by omega
        subst e
        have HS3 := Aside0.mk (show SumAt wr w1.heap.size (wt 0 F) F.length by have h := HS.out; rw [List.take_length, HF.out] at h; exact h)
        have HBR := Aside0.mk (below_of_grown (below_alloc1 w1 _) HG.out (Nat.le_refl _))
        clear HS HG
        go_wp2_with fail
        refine (joined_any l A c wr (Kd.C_below HR.out HBW.out) hl9).mono ?_
        rintro e w4 ⟨v4, ok4, rfl, hy4, hn4, hb4⟩
        cases ok4 with
        | false => exact absurd HFEW.out (hn4 rfl)
        | true =>
          obtain ⟨_, ho4⟩ := hy4 rfl
          clear hy4 hn4
          rw [HF.out] at ho4
          obtain ⟨A4, c4, rfl, hl4, hC4⟩ := Kd.R_reads ho4
          have HC4 := Aside0.mk hC4
          have HB4 := Aside0.mk (below_tr HBW.out hb4)
          have HB4r := Aside0.mk hb4
          have HCF := Aside0.mk (Kd.C_below (Kd.C_below HC1.out HBR.out) hb4)
          have HS4 := Aside0.mk (SumAt.below HS3.out hb4)
          clear ho4 hC4 hb4 HS3
          have hflt : F.length ≤ 6000 := by have := HFL.out; omega
          have hcr := ck_range F HFB.out
          have HVE := Aside0.mk (show 65535 - cf (wt 0 F) = ck F from rfl)
          obtain ⟨cv, ecv⟩ : ∃ x, ck F = x := ⟨_, rfl⟩
          rw [ecv] at HVE hcr
          have ECV := Aside0.mk ecv
          obtain ⟨wv, ewv⟩ : ∃ x, wholeB F = x := ⟨_, rfl⟩
          have EWV := Aside0.mk ewv
          clear ecv ewv
          obtain ⟨cr0, cr1⟩ := hcr
          go_wp2_with fail
          refine (of_any l A c _ (Kd.C_below HR.out HB4.out) HBY.out (by rw [HF.out]; omega) (by omega)).mono ?_
          rintro e w5 ⟨rfl, hb5⟩
          rw [HF.out, ECV.out]
          have HB5 := Aside0.mk hb5
          clear hb5
          go_wp2_with fail
          refine (rof_any F A1 c1 _ (Kd.C_below HCF.out HB5.out) HFB.out (by omega)).mono ?_
          rintro e w6 ⟨rfl, hb6⟩
          rw [ECV.out]
          have HB6 := Aside0.mk (below_tr HB5.out hb6)
          clear hb6 HB5
          go_wp2_with fail
          refine (whole_any l A c _ (Kd.C_below HR.out (below_tr HB4.out HB6.out)) HBY.out (by rw [HF.out]; omega) (by omega)).mono ?_
          rintro e w7 ⟨rfl, hb7⟩
          rw [HF.out, EWV.out]
          have HB7 := Aside0.mk (below_tr HB6.out hb7)
          clear hb7 HB6
          go_wp2_with fail
          refine (rwhole_any F A1 c1 _ (Kd.C_below HCF.out HB7.out) HFB.out (by omega)).mono ?_
          rintro e w8 ⟨rfl, hb8⟩
          rw [EWV.out]
          have HB8 := Aside0.mk (below_tr HB7.out hb8)
          clear hb8 HB7
          go_wp2_with fail
          refine (value_any _ _ _ _ (SumAt.below HS4.out HB8.out)).mono ?_
          rintro e w9 ⟨rfl, rfl⟩
          rw [HVE.out]
          go_wp2_with fail
          refine (rof_any F A1 c1 _ (Kd.C_below HCF.out HB8.out) HFB.out (by omega)).mono ?_
          rintro e w9 ⟨rfl, hb9⟩
          rw [ECV.out]
          have HB9 := Aside0.mk (below_tr HB8.out hb9)
          clear hb9 HB8
          go_wp2_with fail
          refine (value_any _ _ _ _ (SumAt.below HS4.out HB9.out)).mono ?_
          rintro e w10 ⟨rfl, rfl⟩
          rw [HVE.out]
          go_wp2_with fail
          refine (value_any _ _ _ _ (SumAt.below HS4.out HB9.out)).mono ?_
          rintro e w10 ⟨rfl, rfl⟩
          rw [HVE.out]
          go_wp2_with fail
          refine (len_any _ _ _ _ (SumAt.below HS4.out HB9.out)).mono ?_
          rintro e w10 ⟨rfl, rfl⟩
          go_wp2_with fail
          refine (change_any a b d _ a0 a1 b0 b1 d0 d1).mono ?_
          rintro e w10 ⟨rfl, rfl⟩
          go_wp2_with fail
          refine (rchange_any a b d _ a0 a1 b0 b1 d0 d1).mono ?_
          rintro e w10 ⟨rfl, rfl⟩
          obtain ⟨ch, ech⟩ : ∃ x, chg a b d = x := ⟨_, rfl⟩
          rw [ech]
          go_wp2_with fail
          refine (value_nil _).mono ?_
          rintro e w10 ⟨rfl, rfl⟩
          go_wp2_with fail
          refine (len_nil _).mono ?_
          rintro e w10 ⟨rfl, rfl⟩
          go_wp2_with fail
          refine (same_any F F A4 A1 _ c4 _ c1 _ (Kd.C_below HC4.out HB9.out) (Kd.C_below HCF.out HB9.out) HFB.out HFB.out).mono ?_
          rintro e w10 ⟨rfl, rfl⟩
          rw [show decide (F = F) = true by simp]
          go_wp2_with (go_at_call 7; refine (works_any _).mono ?_; rintro e w11 ⟨rfl, hb11⟩)
          go_ret
          exact ⟨rfl, below_tr HB4.out (below_tr HB9.out hb11)⟩
end Go.Proofs.Ythepinoloicfnaa.Own
