/- ip.options' closure: an iterator that keeps its state in a captured box. -/
import Derived.RangeFuncNested
import Derived.RangeFuncBound
import Derived.RangeFuncCalls
import Derived.RangeFuncLeaves
import Derived.RangeFuncBox
import Derived.Shelf.RegionOpen
import Derived.OwnWalkIn
import Derived.TacticsInMore
import Derived.LoopNIn
import Derived.LoopIn
import Derived.Test.YtknpaihlnkcpgaaClone
import Derived.Test.YtknpaihlnkcpgaaOptPlain
set_option linter.unusedVariables false
set_option linter.unusedSimpArgs false
namespace Go.Proofs.Ytknpaihlnkcpgaa.Own
open Go.RowKit Go.Proofs.YtknpaihlnkcpgaaW.PrintWords Go.Proofs.YtknpaihlnkcpgaaW.PrintLast Go.Proofs.YtknpaihlnkcpgaaW.PrintMore

/-- an option as the iterator hands it over: its kind, its data's slice, its data -/
abbrev OptV := Int × Value × List Int
def optsOf (D : List OptV) : List (Int × List Int) := D.map fun x => (x.1, x.2.2)
/-- how many bytes the box's slice has -/
def boxLen (Bn : Nat) (W : World) : Nat := match W.cell? ⟨Bn, 0, none⟩ with
  | some (.slice _ n _) => n
  | _ => 0
theorem boxLen_eq {Bn t n c : Nat} {A : Option Addr} {W : World} (h : Boxed W Bn t (.slice A n c)) : boxLen Bn W = n := by
  unfold boxLen; rw [h.cell]

attribute [local go_sem] Oper.semAt_some

set_option maxRecDepth 100000 in
set_option maxHeartbeats 2000000 in
theorem iter_in (Bn l N : Nat) (w0 : World) (J : List OptV → World → Prop) (Jx : World → Prop)
    (hBn : w0.heap.size ≤ Bn)
    (hJb : ∀ s A A', J s A → Below A.heap.size A A' → J s A')
    (hJs : ∀ s A v, J s A → J s (A.setCell ⟨Bn, 0, none⟩ v))
    (hJw : ∀ s A, J s A → Below w0.heap.size w0 A)
    (hY : ∀ pre k v d W0 W1, J pre W0 → Below W0.heap.size W0 W1 → 0 ≤ k → k ≤ 255 → bytes d → d.length ≤ 255 → pre.length < N → Kd.R (Kd.int .u8) 5 W1 W0.heap.size (fun _ => True) v d →
      YieldAt Fence.wide 0 Try.prog l #[.agg #[.int .u8 k, v], .bool true] W1 fun e W' => e = .returned (.bool true) ∧ J (pre ++ [(k, v, d)]) W' ∧ W'.heap[Bn]? = W1.heap[Bn]?)
    (hNo : ∀ pre W1, J pre W1 → YieldAt Fence.wide 0 Try.prog l #[.agg #[.int .u8 0, .slice none 0 0], .bool false] W1 fun e W' => e = .returned (.bool false) ∧ Jx W')
    (b : List Int) (hb : bytes b) (hbn : b.length ≤ N) (A : Option Addr) (c : Nat) (hr : Kd.C (Kd.int .u8) w0 A b.length b) (hc : b.length ≤ c) (W : World) (hB : Boxed W Bn 22 (.slice A b.length c)) (h0 : J [] W) :
    CallsIn Fence.wide 0 Try.prog 47 #[.func (.yield l) #[] #[], .pointer (some ⟨Bn, 0, none⟩)] W fun e W' => (∃ v, e = .returned v) ∧
      ((∃ D, opts b = some (optsOf D) ∧ J D W') ∨ (opts b = none ∧ Jx W')) := by
  refine callsIn_of_wp Try.func47 rfl trivial ?_ rfl
  simp only [Try.ntmps47, List.size_toArray, List.length_cons, List.length_nil, Nat.reduceAdd, Nat.reduceSub, Array.replicate_succ, Array.replicate_zero, List.push_toArray, List.append_toArray, List.nil_append, List.cons_append]
  gi_wp2
  have hinfo := info_u8
  gi_loopw [3] (fun p wr => ∃ (pre : List OptV) (r : List Int) (A' : Option Addr) (n' c' : Nat), r.length = n' ∧ n' ≤ c' ∧ n' + pre.length ≤ N ∧ Aside0 (bytes r) ∧ Aside0 (Boxed wr Bn 22 (.slice A' n' c')) ∧ Aside0 (Kd.C (Kd.int .u8) w0 A' n' r) ∧ Aside0 (opts b = (opts r).map (optsOf pre ++ ·)) ∧ Aside0 (J pre wr))
    (fun p wr => boxLen Bn wr)
  case atStart =>
    exact ⟨[], b, A, b.length, c, rfl, hc, by simpa using hbn, ⟨hb⟩, ⟨hB⟩, ⟨hr⟩, ⟨by simp [optsOf]⟩, ⟨h0⟩⟩
  case round =>
    clear hB h0 hr hb hc
    obtain ⟨pre, r, A', n', c', hrl, hnc, hpN, HBY, HBX, HR, HO, HJ⟩ := hrel
    have hcell := HBX.out.cell
    have hfrz := HBX.out.frozen
    have HW := Aside0.mk (hJw _ _ HJ.out)
    rcases Nat.eq_zero_or_pos n' with hn0 | hn0
    · gi_wp2
      go_end0
      exact ⟨⟨_, rfl⟩, .inl ⟨pre, by rw [HO.out, opts_nil (.inl (by omega))]; simp, HJ.out⟩⟩
    · obtain ⟨ad, rfl, hx⟩ := Kd.at_int HR.out 0 (by omega) (by omega)
      have hw := HW.out
      have hx0 : wr.cell? ad = some (.int .u8 (rd r 0)) := by
        have h := (hw.cell (World.block_lt_of_cell? w0 _ hx)).trans hx
        have e0 : ad.add (0 : Int).toNat = ad := Addr.add_zero' ad
        rw [e0] at h; exact h
      have hxr := bytes_getD HBY.out 0
      have hxe : rd r 0 = r.getD 0 0 := rfl
      rw [hxe] at hx0
      obtain ⟨x, ex⟩ : ∃ x, r.getD 0 0 = x := ⟨_, rfl⟩
      rw [ex] at hx0 hxr
      obtain ⟨x0, x1⟩ := hxr
      clear hx hxe hw
      have HX := Aside0.mk ex
      clear ex
      by_cases hz : x = 0
      · subst hz
        gi_wp2
        go_end0
        exact ⟨⟨_, rfl⟩, .inl ⟨pre, by rw [HO.out, opts_nil (.inr HX.out)]; simp, HJ.out⟩⟩
      · by_cases h1 : x = 1
        · subst h1
          obtain ⟨T, A2, m2, c2, hrun, hC2, hmc, hT, hm⟩ := cut_drop (some ad) n' c' r 1 hrl (by omega) (by omega) hnc
          have HC2 := Aside0.mk (hC2 w0 HR.out)
          have HT := Aside0.mk hT
          clear hC2 hT
          gi_wp2
          go_roundw
          case rel =>
            refine ⟨pre, T, A2, m2, c2, HC2.out.1, hmc, by omega, ⟨by rw [HT.out]; exact bytes_drop HBY.out _⟩, ⟨HBX.out.set _⟩, ⟨HC2.out⟩, ⟨?_⟩, ⟨hJs _ _ _ HJ.out⟩⟩
            rw [HO.out, opts_one (by omega) HX.out, HT.out]; rfl
          case measure => rw [boxLen_eq HBX.out, boxLen_eq (HBX.out.set _)]; omega
        · rcases Nat.lt_or_ge n' 2 with hn2 | hn2
          · have hn1 : n' = 1 := by omega
            subst hn1
            gi_wp2
            refine wpIn_wide.2 ?_
            go_quiet (fail)
            have HJd := Aside0.mk (hJb _ _ _ HJ.out (pw_below_drewN (Below.refl wr.heap.size wr) nq))
            obtain ⟨f, tm, asg, bd, hy, hRd⟩ := hNo pre _ HJd.out
            gi_wp2
            refine ⟨rfl, hRd.mono ?_⟩
            rintro e W3 ⟨rfl, hJx3⟩
            gi_wp2
            refine bodyPost_ret (results_none rfl _ _ _) rfl ?_
            exact ⟨⟨_, rfl⟩, .inr ⟨by rw [HO.out, opts_bad (by omega) (by rw [HX.out]; exact hz) (by rw [HX.out]; exact h1) (.inl (by omega))]; rfl, hJx3⟩⟩
          · obtain ⟨ad', e', hy1⟩ := Kd.at_int HR.out 1 (by omega) (by omega)
            cases e'
            have hw := HW.out
            have hy0 : wr.cell? { block := ad.block, off := ad.off + 1 } = some (.int .u8 (r.getD 1 0)) := (hw.cell (World.block_lt_of_cell? w0 _ hy1)).trans hy1
            have hyr := bytes_getD HBY.out 1
            obtain ⟨y, ey⟩ : ∃ y, r.getD 1 0 = y := ⟨_, rfl⟩
            rw [ey] at hy0 hyr
            obtain ⟨y0, y1⟩ := hyr
            clear hy1 hw
            have HYY := Aside0.mk ey
            clear ey
            have h12 : 1 < n' := by omega
            by_cases hb2 : y < 2
            · gi_wp2
              refine wpIn_wide.2 ?_
              have hd2 : ¬ ((n' : Int) < 2) := by omega
              go_quiet (fail)
              have HJd := Aside0.mk (hJb _ _ _ HJ.out (pw_below_drewN (Below.refl wr.heap.size wr) nq))
              obtain ⟨f, tm, asg, bd, hy, hRd⟩ := hNo pre _ HJd.out
              gi_wp2
              refine ⟨rfl, hRd.mono ?_⟩
              rintro e W3 ⟨rfl, hJx3⟩
              gi_wp2
              refine bodyPost_ret (results_none rfl _ _ _) rfl ?_
              exact ⟨⟨_, rfl⟩, .inr ⟨by rw [HO.out, opts_bad (by omega) (by rw [HX.out]; exact hz) (by rw [HX.out]; exact h1) (.inr (.inl (by rw [HYY.out]; exact hb2)))]; rfl, hJx3⟩⟩
            · by_cases hb3 : (n' : Int) < y
              · gi_wp2
                refine wpIn_wide.2 ?_
                have hd2 : ¬ ((n' : Int) < 2) := by omega
                have hd4 : ¬ (y < 2) := by omega
                go_quiet (fail)
                have HJd := Aside0.mk (hJb _ _ _ HJ.out (pw_below_drewN (Below.refl wr.heap.size wr) nq))
                obtain ⟨f, tm, asg, bd, hy, hRd⟩ := hNo pre _ HJd.out
                gi_wp2
                refine ⟨rfl, hRd.mono ?_⟩
                rintro e W3 ⟨rfl, hJx3⟩
                gi_wp2
                refine bodyPost_ret (results_none rfl _ _ _) rfl ?_
                exact ⟨⟨_, rfl⟩, .inr ⟨by rw [HO.out, opts_bad (by omega) (by rw [HX.out]; exact hz) (by rw [HX.out]; exact h1) (.inr (.inr (by rw [HYY.out, hrl]; exact hb3)))]; rfl, hJx3⟩⟩
              · gi_wp2
                refine wpIn_wide.2 ?_
                have hd2 : ¬ ((n' : Int) < 2) := by omega
                have hd4 : ¬ (y < 2) := by omega
                have hd5 : ¬ ((n' : Int) < y) := by omega
                go_quiet (fail)
                have hm3 : y.toNat ≤ n' := by omega
                obtain ⟨T, A2, m2, c2, hrun, hC2, hmc, hT, hm⟩ := cut_mid (some ad) n' c' r 2 y hrl (by omega) (by omega) (by omega) hnc
                have HC2 := Aside0.mk (hC2 w0 HR.out)
                have HT := Aside0.mk hT
                obtain ⟨T2, A3, m3, c3, hrun2, hC3, hmc3, hT2, hm3'⟩ := cut_drop (some ad) n' c' r y hrl (by omega) (by omega) hnc
                have HC3 := Aside0.mk (hC3 w0 HR.out)
                have HT2 := Aside0.mk hT2
                have hmx : Try.prog.follows .mixedOrders = true := by kernel_rfl
                have HB7 := Aside0.mk (below_tr HW.out (below_drew (pw_below_drewN (Below.refl wr.heap.size wr) nq)))
                have HJ7 := Aside0.mk (hJb _ _ _ HJ.out (below_drew (pw_below_drewN (Below.refl wr.heap.size wr) nq)))
                have HBX7 : Aside0 (Boxed (wr.drewN nq).drew Bn 22 (.slice (some ad) n' c')) := ⟨HBX.out⟩
                have hpl : pre.length < N := by omega
                have hT3 : bytes T := by rw [HT.out]; exact bytes_drop (bytes_take HBY.out _) _
                have hT4 : T.length ≤ 255 := by rw [HC2.out.1]; omega
                have hm140 : m2 ≤ 140737488355328 := by omega
                have HBY2 : Aside0 (bytes T2) := ⟨by rw [HT2.out]; exact bytes_drop HBY.out _⟩
                have HEQ : Aside0 (∀ v : Value, opts b = (opts T2).map (optsOf (pre ++ [(x, v, T)]) ++ ·)) := ⟨fun v => by
                  rw [HO.out, opts_cons (by rw [HX.out]; exact hz) (by rw [HX.out]; exact h1) (by rw [HYY.out, hrl]; omega), HX.out, HYY.out, ← HT2.out, show (r.take y.toNat).drop 2 = T from HT.out.symm, Option.map_map]
                  congr 1
                  funext D
                  simp [optsOf]⟩
                clear hC2 hT hC3 hT2
                gi_wp2
                have hcell6 : (wr.drewN nq).cell? ⟨Bn, 0, none⟩ = some (.slice (some ad) n' c') := hcell
                have hx06 : (wr.drewN nq).cell? ad = some (.int .u8 x) := hx0
                have hx07 : (wr.drewN nq).drew.cell? ad = some (.int .u8 x) := hx0
                clear hcell hx0 hfrz hy0
                revert HB7 HJ7 HBX7 hcell6 hx06 hx07
                obtain ⟨w6, ew6⟩ : ∃ w6, wr.drewN nq = w6 := ⟨_, rfl⟩
                rw [ew6]
                intro HB7 HJ7 HBX7 hcell6 hx06 hx07
                have hbl := World.block_lt_of_cell? _ _ hx07
                have hx255 : x ≤ 255 := by omega
                gi_region_with_o (first
                  | (refine ⟨trivial, rfl, ?_⟩; (with_reducible refine ((callsIn_wide.2 (clone_any T A2 m2 c2 _ (Kd.C_below HC2.out HB7.out) hm140)).mono ?_)); rintro e w7 ⟨v, rfl, hv7, hb7⟩; obtain ⟨A4, c4, rfl⟩ := Kd.R_slice hv7; have hbx7 := HBX7.out.kept (grown_of_below hb7 none) (fun h => nomatch h); have hcell7 := hbx7.cell; have hfrz7 := hbx7.frozen; have hx08 := (hb7.cell hbl).trans hx07; obtain ⟨f, tm, asg, bd, hy, hRd⟩ := hY pre x _ T _ w7 HJ7.out hb7 x0 hx255 hT3 hT4 hpl hv7)
                  | (refine ⟨rfl, ?_⟩; (with_reducible refine (hRd.mono ?_)); rintro e W3 ⟨rfl, hJ3, hk3⟩))
                all_goals (
                  have hbx3 : Boxed W3 Bn 22 (.slice (some ad) n' c') := hk3.trans hbx7
                  have hcell3 := hbx3.cell
                  have hfrz3 := hbx3.frozen
                  have HB3 := Aside0.mk hbx3
                  have HJ3 := Aside0.mk hJ3
                  clear hcell6 hx06 hx07 hcell7 hfrz7 hx08 hRd hy hbx3 hJ3 hbx7 hb7 hv7 hk3
                  gi_wp2
                  go_roundw
                  case rel => exact ⟨pre ++ [(x, .slice A4 T.length c4, T)], T2, A3, m3, c3, HC3.out.1, hmc3, by rw [List.length_append, List.length_singleton]; omega, HBY2, ⟨HB3.out.set _⟩, ⟨HC3.out⟩, ⟨HEQ.out (.slice A4 T.length c4)⟩, ⟨hJs _ _ _ HJ3.out⟩⟩
                  case measure => rw [boxLen_eq HBX.out, boxLen_eq (HB3.out.set _)]; omega)
end Go.Proofs.Ytknpaihlnkcpgaa.Own
