/- octroiref05.Options. -/
import Derived.Test.YtknpaihlnkcpgaaHelp
import Derived.Test.YtknpaihlnkcpgaaOptPlain
import Derived.Test.YtknpaihlnkcpgaaSame
import Derived.Lib.Bytes
set_option linter.unusedVariables false
set_option linter.unusedSimpArgs false
namespace Go.Proofs.Ytknpaihlnkcpgaa.Own
open Go.RowKit Go.Proofs.YtknpaihlnkcpgaaW.PrintWords Go.Proofs.YtknpaihlnkcpgaaW.PrintLast Go.Proofs.YtknpaihlnkcpgaaW.PrintMore

/-- a string's bytes -/
def inS (s : ByteArray) : List Int := s.data.toList.map fun x => (x.toNat : Int)
theorem inS_length (s : ByteArray) : (inS s).length = s.size := by simp [inS]
theorem inS_bytes (s : ByteArray) : bytes (inS s) := by
  intro x hx
  obtain ⟨y, _, rfl⟩ := List.mem_map.1 hx
  have := y.toNat_lt
  omega
theorem inS_get (s : ByteArray) (i : Nat) (h : i < s.size) : ((s[i]'h).toNat : Int) = (inS s).getD i 0 := by
  have h2 : i < s.data.size := h
  simp [inS, List.getD_eq_getElem?_getD]
  rw [Array.getElem?_eq_getElem h2]
  rfl
theorem inS_cut (s : ByteArray) (i j : Nat) : inS (s.extract i j) = ((inS s).take j).drop i := by
  simp [inS, List.map_drop, List.map_take, List.drop_take]
theorem str_inS (s : ByteArray) : strOfNums (inS s) = s := by
  apply ByteArray.ext
  apply Array.toList_inj.1
  rw [strOfNums_data, inS, List.map_map]
  conv => rhs; rw [← List.map_id s.data.toList]
  apply List.map_congr_left
  intro x _
  simp
theorem inS_empty (s : ByteArray) : s.toList.isEmpty = decide (s.size = 0) := by
  rw [← inS_length]
  conv => lhs; rw [← str_inS s, Lib.strOfNums_toList]
  cases inS s <;> rfl
theorem inS_str {b : List Int} (h : bytes b) : inS (strOfNums b) = b := by
  rw [inS, strOfNums_data, List.map_map]
  conv => rhs; rw [← List.map_id b]
  apply List.map_congr_left
  intro x hx
  have := h x hx
  simp
  omega
abbrev optK : Kd (Int × ByteArray) := Kd.pair (Kd.int .u8) Kd.string
def refOpts (D : List (Int × List Int)) : List (Int × ByteArray) := D.map fun d => (d.1, strOfNums d.2)
theorem optR_one (w : World) (base : Nat) (x : Int) (s : ByteArray) (hb : base ≤ w.heap.size) : optK.R 34 (w.alloc (.cells #[.int .u8 x, .string s] 34)) base (fun _ => True) (.slice (some ⟨w.heap.size, 0, none⟩) 1 1) [(x, s)] := by
  refine ⟨fun _ _ => trivial, [.int .u8 x, .string s], ⟨rfl, .inr ⟨w.heap.size, 1, #[.int .u8 x, .string s], rfl, hb, heap_alloc_new w _, Nat.le_refl _, by decide, rfl, rfl⟩⟩, rfl, fun j p hj => ?_⟩
  cases j with
  | zero => cases hj; exact ⟨[.int .u8 x], [.string s], rfl, rfl, rfl⟩
  | succ j => cases hj
theorem info_ropt : (Try.prog.info? 34).map (fun i => (i.zero, i.size, i.bytes)) = some (some (.agg #[.int .u8 0, .string ⟨#[]⟩]), 2, 24) := by kernel_rfl
/-- what Options answers for a string -/
def refOK (s : ByteArray) (w w' : World) (e : Ending) : Prop := ∃ v n, e = .returned (.tuple #[v, .int .i64 n]) ∧ Below w.heap.size w w' ∧
      ((∃ D, opts (inS s) = some D ∧ n = 0 ∧ optK.R 34 w' w.heap.size (fun _ => True) v (refOpts D)) ∨ (opts (inS s) = none ∧ n = 51 ∧ v = .slice none 0 0))

set_option maxRecDepth 100000 in
set_option maxHeartbeats 8000000 in
theorem refoptions_any : ∀ (m : Nat) (s : ByteArray) (w : World), s.size ≤ m → m ≤ 100000 →
    Calls Try.prog 9 #[.string s] w fun e w' => refOK s w w' e := by
  intro m
  induction m with
  | zero =>
    intro s w hbm hm
    have hs0 : s.size = 0 := by omega
    have hE : s.toList.isEmpty = true := by rw [inS_empty]; exact decide_eq_true hs0
    go_enter Try.func9, Try.ntmps9
    go_wp2
    refine bodyPost_ret (results_tmp2 rfl _ _ _) rfl ?_
    exact ⟨_, _, rfl, Below.refl _ _, .inl ⟨[], opts_nil (.inl (by rw [inS_length]; exact hs0)), rfl, Kd.R_nil _ _ _ _ _⟩⟩
  | succ m ih =>
    intro s w hbm hm
    have hsz := inS_length s
    have HS := Aside0.mk hsz
    by_cases hb0 : s.size = 0
    · have hE : s.toList.isEmpty = true := by rw [inS_empty]; exact decide_eq_true hb0
      go_enter Try.func9, Try.ntmps9
      go_wp2
      refine bodyPost_ret (results_tmp2 rfl _ _ _) rfl ?_
      exact ⟨_, _, rfl, Below.refl _ _, .inl ⟨[], opts_nil (.inl (by rw [inS_length]; exact hb0)), rfl, Kd.R_nil _ _ _ _ _⟩⟩
    · have hs0 : 0 < s.size := by omega
      have hE : s.toList.isEmpty = false := by rw [inS_empty]; exact decide_eq_false hb0
      have hx : ∀ h : 0 < s.size, ((s[0]'h).toNat : Int) = (inS s).getD 0 0 := fun h => inS_get s 0 h
      have hxr := bytes_getD (inS_bytes s) 0
      obtain ⟨x, ex⟩ : ∃ x, (inS s).getD 0 0 = x := ⟨_, rfl⟩
      rw [ex] at hx hxr
      obtain ⟨x0, x1⟩ := hxr
      have HX := Aside0.mk ex
      clear ex hsz
      go_enter Try.func9, Try.ntmps9
      by_cases h0 : x = 0
      · subst h0
        go_wp2
        refine bodyPost_ret (results_tmp2 rfl _ _ _) rfl ?_
        exact ⟨_, _, rfl, Below.refl _ _, .inl ⟨[], opts_nil (.inr HX.out), rfl, Kd.R_nil _ _ _ _ _⟩⟩
      · by_cases h1 : x = 1
        · subst h1
          have hc := inS_cut s 1 s.size
          have hd : inS (s.extract 1 s.size) = (inS s).drop 1 := by rw [hc, List.take_of_length_le (by rw [inS_length]; exact Nat.le_refl _)]
          have hq := ih (s.extract 1 s.size) w (by rw [← inS_length, hd, List.length_drop, inS_length]; omega) (by omega)
          have HD := Aside0.mk hd
          clear ih hc hd
          go_wp2_with (go_at_call 9; go_must (with_reducible refine hq.mono ?_); rintro e w1 ⟨v, n, rfl, hb1, hr1⟩)
          refine bodyPost_ret (results_tmp2 rfl _ _ _) rfl ?_
          refine ⟨_, _, rfl, hb1, ?_⟩
          rw [HD.out, ← opts_one (by rw [inS_length]; omega) HX.out] at hr1
          exact hr1
        · have bad : ∀ {w' : World} (hbad : s.size < 2 ∨ (inS s).getD 1 0 < 2 ∨ (s.size : Int) < (inS s).getD 1 0), refOK s w w (.returned (.tuple #[.slice none 0 0, .int .i64 51])) := fun hbad =>
            ⟨_, _, rfl, Below.refl _ _, .inr ⟨opts_bad (by rw [inS_length]; omega) (by rw [HX.out]; exact h0) (by rw [HX.out]; exact h1) (by rw [inS_length]; exact hbad), rfl, rfl⟩⟩
          have HBAD := Aside0.mk (@bad w)
          clear bad
          by_cases h2 : s.size < 2
          · go_wp2
            refine bodyPost_ret (results_tmp2 rfl _ _ _) rfl ?_
            exact HBAD.out (.inl (by omega))
          · have hy : ∀ h : 1 < s.size, ((s[1]'h).toNat : Int) = (inS s).getD 1 0 := fun h => inS_get s 1 h
            have hyr := bytes_getD (inS_bytes s) 1
            obtain ⟨y, ey⟩ : ∃ y, (inS s).getD 1 0 = y := ⟨_, rfl⟩
            rw [ey] at hy hyr HBAD
            obtain ⟨y0, y1⟩ := hyr
            have HY := Aside0.mk ey
            clear ey
            have hs1 : 1 < s.size := by omega
            by_cases h3 : y < 2
            · go_wp2
              refine bodyPost_ret (results_tmp2 rfl _ _ _) rfl ?_
              exact HBAD.out (.inr (.inl h3))
            · by_cases h4 : (s.size : Int) < y
              · go_wp2
                refine bodyPost_ret (results_tmp2 rfl _ _ _) rfl ?_
                exact HBAD.out (.inr (.inr h4))
              · have hyn : y ≤ s.size := by omega
                have hlen := inS_length s
                have hd : inS (s.extract y.toNat s.size) = (inS s).drop y.toNat := by rw [inS_cut, List.take_of_length_le (by rw [inS_length]; exact Nat.le_refl _)]
                have hq := ih (s.extract y.toNat s.size) w (by rw [← inS_length, hd, List.length_drop, inS_length]; omega) (by omega)
                have hc2 : inS (s.extract 2 y.toNat) = ((inS s).take y.toNat).drop 2 := inS_cut s 2 y.toNat
                have HEQ : Aside0 (opts (inS s) = (opts (inS (s.extract y.toNat s.size))).map (fun D => (x, inS (s.extract 2 y.toNat)) :: D)) := ⟨by
                  rw [hd, hc2]
                  have h := opts_cons (l := inS s) (by rw [HX.out]; exact h0) (by rw [HX.out]; exact h1) (by rw [HY.out, inS_length]; omega)
                  rw [HX.out, HY.out] at h
                  exact h⟩
                clear ih hd hc2 hlen HBAD
                go_wp2_with (go_at_call 9; go_must (with_reducible refine hq.mono ?_); rintro e w1 ⟨v, n, rfl, hb1, (⟨D, hD, rfl, hR⟩ | ⟨hN, rfl, rfl⟩)⟩)
                · obtain ⟨A5, c5, rfl, hc5, hC5⟩ := Kd.R_reads hR
                  have hln := opts_length hD
                  have hln2 : (refOpts D).length ≤ 100000 := by
                    rw [inS_length] at hln
                    have h : (s.extract y.toNat s.size).size ≤ s.size := by rw [← inS_length, inS_cut, List.length_drop, List.length_take, inS_length]; omega
                    simp only [refOpts, List.length_map]
                    omega
                  have HEQ2 : Aside0 (opts (inS s) = some ((x, inS (s.extract 2 y.toNat)) :: D)) := ⟨by rw [HEQ.out, hD]; rfl⟩
                  have hcons : (x, s.extract 2 y.toNat) :: refOpts D = refOpts ((x, inS (s.extract 2 y.toNat)) :: D) := by simp [refOpts, str_inS]
                  obtain ⟨s2, es2⟩ : ∃ s2, s.extract 2 y.toNat = s2 := ⟨_, rfl⟩
                  generalize eL : refOpts D = L at hC5 hln2 hcons ⊢
                  have hLn : L.length = L.length := rfl
                  generalize en5 : L.length = n5 at hC5 hln2 ⊢
                  have HCONS := Aside0.mk hcons
                  have HC5 := Aside0.mk hC5
                  have HB1 := Aside0.mk hb1
                  have HLN := Aside0.mk hln2
                  have HN5 := Aside0.mk en5
                  clear hR hb1 hD hq hC5 hln hcons eL en5 hLn
                  go_region_held3 (fun _ => True) (trivial) (fail)
                  all_goals (
                    have HO := Aside0.mk (Kd.R_below (optR_one w1 w.heap.size x s2 HB1.out.size) (below_drew (Below.refl _ _)))
                    have hbb := Aside0.mk (below_tr HB1.out (below_drew (below_alloc1 w1 (.cells #[.int .u8 x, .string s2] 34))))
                    have hCC := Aside0.mk (Kd.C_below HC5.out (below_drew (below_alloc1 w1 (.cells #[.int .u8 x, .string s2] 34))))
                    have hsz9 := hbb.out.size
                    generalize (w1.alloc (.cells #[.int .u8 x, .string s2] 34)).drew = w2 at HO hbb hCC hsz9 ⊢
                    go_wp2_with (at_builtin; refine Kd.R_append_rows optK (w0 := w) w.heap.size rfl (.tmp 57) (.tmp 58) 24 34 (.agg #[.int .u8 0, .string ⟨#[]⟩]) 24 rfl Try.underlying24 info_ropt rfl (by decide) (by decide) _ [(x, s2)] L A5 n5 c5 (fun _ => True) (fun _ => False) rfl rfl HO.out hCC.out (fun _ _ h => h) (fun _ h => h.elim) (fun _ _ => trivial) hbb.out hbb.out.size (by simp; omega) ?_; intro v1 w3 ho1 hb3 _ _)
                    refine bodyPost_ret (results_tmp2 rfl _ _ _) rfl ?_
                    exact ⟨v1, 0, rfl, hb3, .inl ⟨_, HEQ2.out, rfl, by have h := ho1; rw [← es2] at h; rw [← HCONS.out]; exact h⟩⟩)
                · refine bodyPost_ret (results_tmp2 rfl _ _ _) rfl ?_
                  exact ⟨_, _, rfl, hb1, .inr ⟨by rw [HEQ.out, hN]; rfl, rfl, rfl⟩⟩
end Go.Proofs.Ytknpaihlnkcpgaa.Own
