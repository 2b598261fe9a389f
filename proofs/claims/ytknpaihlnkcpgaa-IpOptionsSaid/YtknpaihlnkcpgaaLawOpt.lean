/- The walk of the law IpOptions. -/
import Derived.Test.YtknpaihlnkcpgaaWorks5
import Derived.Test.YtknpaihlnkcpgaaRefOptions
set_option linter.unusedVariables false
set_option linter.unusedSimpArgs false
namespace Go.Proofs.Ytknpaihlnkcpgaa.Own
open Go.RowKit Go.Proofs.YtknpaihlnkcpgaaW.PrintWords Go.Proofs.YtknpaihlnkcpgaaW.PrintLast Go.Proofs.YtknpaihlnkcpgaaW.PrintMore

theorem grown_set1 (w : World) (g i : Nat) (u : Value) : w.grownBy (w.setCell ⟨g, i, none⟩ u) (some g) :=
  ⟨(World.grownBy.refl w (some g)).os, (World.grownBy.refl w (some g)).tape, (World.grownBy.refl w (some g)).output, by simp, fun k hk hne => Below.heap_setCell _ _ _ k (fun e => hne (by rw [e]))⟩
theorem want_at {W : World} {e base : Nat} {ok : Nat → Prop} {A : Option Addr} {n c : Nat} {xs : List (Int × ByteArray)} (h : optK.R e W base ok (.slice A n c) xs) (i : Nat) (x : Int) (s : ByteArray) (hx : xs[i]? = some (x, s)) :
    ∃ g, A = some ⟨g, 0, none⟩ ∧ W.cell? ⟨g, i * 2, none⟩ = some (.int .u8 x) ∧ W.cell? ⟨g, i * 2 + 1, none⟩ = some (.string s) := by
  have hpos : 0 < xs.length := List.length_pos_of_mem (List.mem_of_getElem? hx)
  obtain ⟨g, cap, e1, _⟩ := Kd.R_form h hpos
  cases e1
  obtain ⟨_, _, hC⟩ := Kd.R_reads' h
  obtain ⟨ad, e2, hcell⟩ := hC.2.2 hpos
  cases e2
  obtain ⟨cs, _, ⟨c0, c1, rfl, h0, h1⟩, hc⟩ := hcell i _ hx
  have h0' : c0 = [.int .u8 x] := h0
  have h1' : c1 = [.string s] := h1
  subst h0' h1'
  have k0 := hc 0 _ rfl
  have k1 := hc 1 _ rfl
  have hs : optK.sz = 2 := rfl
  rw [hs, Addr.add_lit, Nat.zero_add] at k0 k1
  exact ⟨g, rfl, k0, k1⟩
theorem flat_set {α : Type} (f : α → List Value) (D : List α) (i : Nat) (d d' : α) (hd : D[i]? = some d) (he : f d' = f d) : (D.set i d').flatMap f = D.flatMap f := by
  simp only [List.flatMap]
  congr 1
  rw [List.map_set, he]
  apply List.ext_getElem?
  intro j
  rw [List.getElem?_set]
  split
  · rename_i hij
    subst hij
    split
    · simp [hd]
    · rename_i h; simp at h; simp [List.getElem?_eq_none h]
  · rfl
theorem OptRows.below {W W' : World} {base : Nat} {lv : Value} {D : List OptV} (h : OptRows W base lv D) (hb : Below W.heap.size W W') : OptRows W' base lv D :=
  h.kept (grown_of_below hb none) (fun k e => by cases e)
/-- a byte of an option's data is written -/
theorem OptRows.store {W : World} {base : Nat} {lv : Value} {D : List OptV} (h : OptRows W base lv D) (i : Nat) (d : OptV) (hd : D[i]? = some d) (g len c : Nat) (hA : d.2.1 = .slice (some ⟨g, 0, none⟩) len c) (k : Int) (x : Int) :
    OptRows (W.setCell ⟨g, k.toNat, none⟩ (.int .u8 x)) base lv (D.set i (d.1, d.2.1, d.2.2.set k.toNat x)) := by
  obtain ⟨h1, h2, h3⟩ := h
  have hm := List.mem_of_getElem? hd
  have hob : d.2.1.ownBlock = some g := by rw [hA]; rfl
  obtain ⟨cs, hcs⟩ := own_typed (h2 d hm) g hob
  have hg := grown_set1 W g k.toNat (.int .u8 x)
  have hi : i < D.length := by
    rcases Nat.lt_or_ge i D.length with h' | h'
    · exact h'
    · rw [List.getElem?_eq_none h'] at hd; cases hd
  refine ⟨?_, ?_, ?_⟩
  · have e0 := flat_set (fun d : OptV => [Value.int .u8 d.1, d.2.1]) D i d (d.1, d.2.1, d.2.2.set k.toNat x) hd rfl
    rw [List.length_set, e0]
    refine h1.kept hg ?_
    rcases hlv : lv.ownBlock with _ | q
    · exact .inl rfl
    · refine .inr fun e => ?_
      cases e
      obtain ⟨cs', hcs'⟩ := own_typed h1 g hlv
      rw [hcs] at hcs'
      cases hcs'
  · intro d2 hd2
    obtain ⟨j, hj, rfl⟩ := List.mem_iff_getElem.1 hd2
    rw [List.getElem_set]
    split
    · have hR : Kd.R (Kd.int .u8) 5 W base (fun _ => True) (.slice (some ⟨g, 0, none⟩) len c) d.2.2 := by rw [← hA]; exact Kd.R_of_own (h1 := fun _ => rfl) (h2 d hm) (fun _ _ => trivial)
      have hp := Kd.own_of_R (Kd.R_putn hR k x)
      simp only
      rw [hA]
      exact hp
    · rename_i hij
      rw [List.length_set] at hj
      have hmj : D[j] ∈ D := List.getElem_mem hj
      refine (h2 _ hmj).kept hg ?_
      rcases Nat.lt_or_ge i j with hlt | hge
      · have hp := List.pairwise_iff_getElem.1 h3 i j hi hj hlt
        have e : D[i] = d := by rw [List.getElem?_eq_getElem hi] at hd; exact Option.some.inj hd
        rw [e, hob] at hp
        rcases hp with hp | hp
        · cases hp
        · exact .inr fun e => hp e.symm
      · have hp := List.pairwise_iff_getElem.1 h3 j i hj hi (by omega)
        have e : D[i] = d := by rw [List.getElem?_eq_getElem hi] at hd; exact Option.some.inj hd
        rw [e, hob] at hp
        rcases hp with hp | hp
        · exact .inl hp
        · exact .inr hp
  · have hmap : (D.set i (d.1, d.2.1, d.2.2.set k.toNat x)).map (fun d => d.2.1) = D.map (fun d => d.2.1) := by
      rw [List.map_set]
      apply List.ext_getElem?
      intro j
      rw [List.getElem?_set]
      split
      · rename_i hij
        subst hij
        simp [hi, hd]
        have e : D[i] = d := by rw [List.getElem?_eq_getElem hi] at hd; exact Option.some.inj hd
        rw [e]
      · rfl
    have h3' : (D.map (fun d => d.2.1)).Pairwise (fun a b => a.ownBlock = none ∨ a.ownBlock ≠ b.ownBlock) := List.pairwise_map.2 h3
    rw [← hmap] at h3'
    exact List.pairwise_map.1 h3'
theorem optsF_len : ∀ (m : Nat) (l : List Int) (D : List (Int × List Int)), optsF m l = some D → D.length ≤ m := by
  intro m
  induction m with
  | zero => intro l D h; simp [optsF] at h; subst h; simp
  | succ m ih =>
    intro l D h
    unfold optsF at h
    split at h
    · cases h; simp
    · split at h
      · have := ih _ _ h; omega
      · split at h
        · cases h
        · obtain ⟨E, hE, rfl⟩ := Option.map_eq_some_iff.1 h
          have := ih _ _ hE
          simp
          omega
theorem opts_len (l : List Int) (D : List (Int × List Int)) (h : opts l = some D) : D.length ≤ l.length := optsF_len _ _ _ h
theorem set_at {α : Type} {E : List α} {i : Nat} {d : α} (h : E[i]? = some d) (d' : α) : (E.set i d')[i]? = some d' := by
  have : i < E.length := by
    rcases Nat.lt_or_ge i E.length with h' | h'
    · exact h'
    · rw [List.getElem?_eq_none h'] at h; cases h
  rw [List.getElem?_set_self this]
/-- the same options, but for their data's bytes; from i on they are all the same -/
def SameFrom (i : Nat) (D E : List OptV) : Prop := D.length = E.length ∧ ∀ j, i ≤ j → E[j]? = D[j]?
theorem SameFrom.refl (i : Nat) (D : List OptV) : SameFrom i D D := ⟨rfl, fun _ _ => rfl⟩
theorem SameFrom.next {i : Nat} {D E : List OptV} (h : SameFrom i D E) : SameFrom (i + 1) D E := ⟨h.1, fun j hj => h.2 j (by omega)⟩
theorem SameFrom.set {i : Nat} {D E : List OptV} (h : SameFrom (i + 1) D E) (d : OptV) : SameFrom (i + 1) D (E.set i d) := ⟨by rw [List.length_set]; exact h.1, fun j hj => by rw [List.getElem?_set_ne (by omega)]; exact h.2 j hj⟩

set_option maxRecDepth 100000 in
set_option maxHeartbeats 8000000 in
theorem ipOptions_any (b : List Int) (A : Option Addr) (n c : Nat) (w : World) (hC : Kd.C (Kd.int .u8) w A n b) (hc : n ≤ c) (hb : bytes b) (hn9 : n ≤ 9223372036854775807) :
    Calls Try.prog 3 #[.slice A n c] w fun e w' => e = .returned (.bool true) ∧ Below w.heap.size w w' := by
  have HC := Aside0.mk hC
  have HB := Aside0.mk hb
  by_cases h100 : 100 < n
  · clear hC hb
    go_enter Try.func3, Try.ntmps3
    go_wp2_with (go_at_call 8; (with_reducible refine (works5 _).mono ?_); rintro e w1 ⟨rfl, hb1⟩)
    go_ret
    exact ⟨rfl, hb1⟩
  · have h100' : n ≤ 100 := by omega
    have hstr := Kd.C_string (c := c) Try.underlying22 Try.underlying5 Try.underlying9 hC
    have hlen := hC.1
    have hsz : (strOfNums b).size = n := by rw [← hlen, ← inS_length, inS_str hb]
    have hq := refoptions_any 100 (strOfNums b) w (by omega) (by omega)
    unfold refOK at hq
    rw [inS_str hb] at hq
    have HLEN := Aside0.mk hlen
    clear h100 hC hb hsz hlen
    go_enter Try.func3, Try.ntmps3
    go_wp2_with (go_at_call 9; go_must (with_reducible refine hq.mono ?_); rintro e w1 ⟨v, f, rfl, hb1, hres⟩)
    have HB1 := Aside0.mk hb1
    have HO := Aside0.mk (fun (W : World) (hW : Below w.heap.size w W) => options_any b A n c W (Kd.C_below HC.out hW) hc HB.out (by omega))
    clear hstr hq hb1
    rcases hres with ⟨D, hD, rfl, hR⟩ | ⟨hD, rfl, rfl⟩
    · obtain ⟨Aw, cw, rfl⟩ := Kd.R_slice hR
      obtain ⟨N, hN⟩ : ∃ N, (refOpts D).length = N := ⟨_, rfl⟩
      rw [hN] at hR ⊢
      have HN := Aside0.mk hN
      have HD := Aside0.mk hD
      have HW0 : Aside0 (optK.R 34 w1 w.heap.size (fun _ => True) (.slice Aw N cw) (refOpts D)) := ⟨hR⟩
      have HB0 := HB1
      have hN9 : N ≤ 100 := by rw [← hN, refOpts, List.length_map]; have := opts_len b D hD; have := HLEN.out; omega
      clear hR hD HB1
      go_loopw [5] (fun p wr => ∃ (k : Nat), k ≤ 2 ∧ p = .int .i64 k ∧ Aside0 (Below w.heap.size w wr) ∧ Aside0 (optK.R 34 wr w.heap.size (fun _ => True) (.slice Aw N cw) (refOpts D))) (fun p wr => 2 - (intOf p).toNat)
      case atStart => exact ⟨0, by omega, rfl, HB0, HW0⟩
      case round =>
        clear HB0 HW0 hN
        obtain ⟨k, hk, rfl, HB1, HW⟩ := hrel
        by_cases hk2 : k < 2
        · have hop := HO.out wr HB1.out
          rw [HD.out] at hop
          obtain ⟨wo, rfl⟩ : ∃ wo : World, wo = wr := ⟨_, rfl⟩
          go_wp2_with fail
          with_reducible refine hop.mono ?_
          rintro e w2 ⟨lv, m, rfl, hb2, hor⟩
          rcases hor with ⟨E, hE, rfl, hrow⟩ | ⟨hE, _⟩
          · have hE' : D = optsOf E := Option.some.inj hE
            have HE := Aside0.mk hE'
            obtain ⟨A5, c5, rfl⟩ := own_slice hrow.1
            have hEl : E.length = N := by rw [← HN.out, hE']; simp [refOpts, optsOf]
            rw [hEl] at hrow ⊢
            have HEL := Aside0.mk hEl
            have HR0 := Aside0.mk hrow
            have HB2 := Aside0.mk hb2
            clear hb2 hop hE hE' hrow hEl
            go_wp2
            have HS0 : Aside0 (∃ E', OptRows w2 wo.heap.size (.slice A5 N c5) E' ∧ SameFrom 0 E E') := ⟨E, HR0.out, SameFrom.refl 0 E⟩
            go_loopw [8] (fun p wi => ∃ (i : Nat), i ≤ N ∧ p = .int .i64 i ∧ Aside0 (∃ E', OptRows wi wo.heap.size (.slice A5 N c5) E' ∧ SameFrom i E E') ∧ Aside0 (Below wo.heap.size wo wi)) (fun p _ => N - (intOf p).toNat)
            case atStart => exact ⟨0, by omega, rfl, HS0, HB2⟩
            case round =>
              clear HS0 HB2 HR0
              obtain ⟨i, hi, rfl, HS, HB2⟩ := hrel
              obtain ⟨wi, rfl⟩ : ∃ wi : World, wi = wr := ⟨_, rfl⟩
              by_cases hiN : i < N
              · have hiE : i < E.length := by rw [HEL.out]; exact hiN
                obtain ⟨E', hrow, hsame⟩ := HS.out
                have hEi : E[i]? = some E[i] := List.getElem?_eq_getElem hiE
                have hE'i : E'[i]? = some E[i] := by rw [hsame.2 i (Nat.le_refl _), hEi]
                have hwi : (refOpts D)[i]? = some (E[i].1, strOfNums E[i].2.2) := by rw [HE.out]; simp [refOpts, optsOf, hEi]
                obtain ⟨g, cap, Ad, cd, e1, _, hg0, hg1, hx0, hx1, hdv, hRd⟩ := hrow.at_ i _ hE'i
                obtain rfl : A5 = some ⟨g, 0, none⟩ := by injection e1
                clear e1
                obtain ⟨gw, ew, hy0, hy1⟩ := want_at (Kd.R_below HW.out HB2.out) i _ _ hwi
                cases ew
                have HRD := Aside0.mk hRd
                have HROW := Aside0.mk hrow
                have HSAME := Aside0.mk hsame
                have HE'I := Aside0.mk hE'i
                have HDV := Aside0.mk hdv
                obtain ⟨q, hq⟩ : ∃ q, E[i] = q := ⟨_, rfl⟩
                rw [hq] at hx0 hx1 hy0 hy1 HRD HE'I HDV
                rw [Nat.mul_comm] at hx0 hx1
                obtain ⟨kd, vd, d⟩ := q
                dsimp only at hx0 hx1 hy0 hy1 HRD HDV
                have hstr := fun (nq : Nat) => Kd.C_string (w := wi.drewN nq) (c := cd) Try.underlying22 Try.underlying5 Try.underlying9 (Kd.C_drewN (C_of_R HRD.out).1 nq)
                clear hRd hrow hsame hE'i hdv hEi hwi hq hiE hg1
                have hiN' : (i : Int) < N := by omega
                have HIN := Aside0.mk hiN
                go_upto_region 13 with fail
                go_quiet (fail)
                go_wp2
                have hbn := pw_below_drewN (Below.refl wi.heap.size wi) nq
                have HS1 : Aside0 (∃ E'', OptRows (wi.drewN nq) wo.heap.size (.slice (some ⟨g, 0, none⟩) N c5) E'' ∧ SameFrom (i + 1) E E'' ∧ ∃ r, E''[i]? = some (kd, vd, r) ∧ r.length = d.length) := ⟨E', HROW.out.below hbn, HSAME.out.next, d, HE'I.out, rfl⟩
                have HB3 : Aside0 (Below wo.heap.size wo (wi.drewN nq)) := ⟨below_then HB2.out HB2.out.size hbn⟩
                obtain ⟨len, hlen⟩ : ∃ len, d.length = len := ⟨_, rfl⟩
                rw [hlen] at HS1 HDV hx1 ⊢
                clear hbn hx0 hx1 hy0 hy1 hstr HROW HSAME HE'I HRD HS HB2 hlen
                generalize wi.drewN nq = wn at HS1 HB3 ⊢
                go_loopw [9] (fun p wj => ∃ (k : Nat), k ≤ len ∧ p = .int .i64 k ∧ Aside0 (∃ E'', OptRows wj wo.heap.size (.slice (some ⟨g, 0, none⟩) N c5) E'' ∧ SameFrom (i + 1) E E'' ∧ ∃ r, E''[i]? = some (kd, vd, r) ∧ r.length = len) ∧ Aside0 (Below wo.heap.size wo wj)) (fun p _ => len - (intOf p).toNat)
                case atStart => exact ⟨0, by omega, rfl, HS1, HB3⟩
                case round =>
                  clear HS1 HB3
                  obtain ⟨k2, hk22, rfl, HS1, HB3⟩ := hrel
                  obtain ⟨wj, rfl⟩ : ∃ wj : World, wj = wr := ⟨_, rfl⟩
                  obtain ⟨E2, hrow2, hsame2, r, hEr, hrl⟩ := HS1.out
                  obtain ⟨g', cap', Ad', cd', e1, _, hg0', hg1', hx0, hx1, hdv', hRd⟩ := hrow2.at_ i _ hEr
                  obtain rfl : g = g' := by injection e1 with e2; injection e2 with e3; injection e3
                  clear e1
                  dsimp only at hx0 hx1 hdv' hRd
                  rw [HDV.out] at hdv'
                  obtain rfl : Ad = Ad' := by injection hdv'
                  obtain rfl : cd = cd' := by injection hdv'
                  rw [hrl] at hx1 hRd
                  rw [Nat.mul_comm] at hx0 hx1
                  have hl63 : len ≤ 9223372036854775807 := (C_of_R hRd).1.2.1
                  by_cases hk2l : k2 < len
                  · obtain ⟨gd, capd, e4, hgd0, _, _⟩ := Kd.R_form hRd (by rw [hrl]; omega)
                    obtain rfl : Ad = some ⟨gd, 0, none⟩ := by injection e4
                    obtain ⟨hcx, hfx⟩ := Kd.R_celln (0 : Int) hRd k2 (by omega) (by omega)
                    rw [Int.toNat_natCast] at hcx hfx
                    obtain ⟨x, ex⟩ : ∃ x, rdOf 0 r (k2 : Int) = x := ⟨_, rfl⟩
                    rw [ex] at hcx
                    have HST := fun y => hrow2.store i _ hEr gd len cd (by dsimp only; exact HDV.out) (k2 : Int) y
                    simp only [Int.toNat_natCast] at HST
                    have HST := Aside0.mk HST
                    have HSM := Aside0.mk hsame2
                    have HRL := Aside0.mk hrl
                    have HEI := Aside0.mk hEr
                    clear hrow2 hsame2 hEr hrl hRd ex hdv' e4 HS1
                    go_wp2
                    go_roundw
                    case rel => exact ⟨k2 + 1, by omega, by go_num, ⟨_, HST.out _, HSM.out.set _, _, set_at HEI.out _, by rw [List.length_set]; exact HRL.out⟩, ⟨HB3.out.setCell (p := ⟨gd, k2, none⟩) hgd0 _⟩⟩
                    case measure => simp [intOf]; omega
                  · have HR2 := Aside0.mk hrow2
                    have HSM := Aside0.mk hsame2
                    clear hrow2 hsame2 hEr hRd hdv' HS1
                    go_wp2
                    go_roundw
                    case rel => exact ⟨i + 1, by have := HIN.out; omega, by go_num, ⟨_, HR2.out, HSM.out⟩, HB3⟩
                    case measure => have := HIN.out; simp [intOf]; omega
              · clear HS
                go_wp2
                go_roundw
                case rel => exact ⟨k + 1, by omega, by go_num, ⟨below_then HB1.out HB1.out.size HB2.out⟩, ⟨Kd.R_below HW.out HB2.out⟩⟩
                case measure => simp [intOf]; omega
          · cases hE
        · go_wp2_with (go_at_call 8; (with_reducible refine (works5 _).mono ?_); rintro e w2 ⟨rfl, hb2⟩)
          go_ret
          exact ⟨rfl, below_then HB1.out HB1.out.size hb2⟩
    · have HD := Aside0.mk hD
      clear hD
      have HB0 : Aside0 (Below w.heap.size w w1) := HB1
      go_loopw [5] (fun p wr => ∃ (k : Nat), k ≤ 2 ∧ p = .int .i64 k ∧ Aside0 (Below w.heap.size w wr)) (fun p wr => 2 - (intOf p).toNat)
      case atStart => exact ⟨0, by omega, rfl, HB0⟩
      case round =>
        clear HB0 HB1
        obtain ⟨k, hk, rfl, HB1⟩ := hrel
        by_cases hk2 : k < 2
        · have hop := HO.out wr HB1.out
          rw [HD.out] at hop
          go_wp2_with fail
          with_reducible refine hop.mono ?_
          rintro e w2 ⟨lv, m, rfl, hb2, hor⟩
          rcases hor with ⟨E, hE, _⟩ | ⟨_, rfl, rfl⟩
          · cases hE
          · have HB2 := Aside0.mk (below_then HB1.out HB1.out.size hb2)
            clear hb2 hop
            obtain ⟨wo, rfl⟩ : ∃ wo : World, wo = wr := ⟨_, rfl⟩
            go_wp2
            go_loopw [8] (fun p wi => p = .int .i64 0 ∧ Aside0 (Below w.heap.size w wi)) (fun _ _ => 0)
            case atStart => exact ⟨rfl, HB2⟩
            case round =>
              obtain ⟨rfl, HB3⟩ := hrel
              go_wp2
              go_roundw
              case rel => exact ⟨k + 1, by omega, by go_num, HB3⟩
              case measure => simp [intOf]; omega
        · go_wp2_with (go_at_call 8; (with_reducible refine (works5 _).mono ?_); rintro e w2 ⟨rfl, hb2⟩)
          go_ret
          exact ⟨rfl, below_then HB1.out HB1.out.size hb2⟩
end Go.Proofs.Ytknpaihlnkcpgaa.Own
