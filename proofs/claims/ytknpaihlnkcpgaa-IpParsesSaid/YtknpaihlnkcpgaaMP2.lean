/- The session's texts that the law leans on, merged: RefOptions, Ref5, Doc5, RParseE, Flags, RParse, RBody, RHop, Pad, Same5, EqR5, PutR, OptIter, RangeBox, Options, Works5, LawPutsA, LawParsesA, LawParses. -/
import Derived.Test.YtknpaihlnkcpgaaMP1
import Derived.Lib.Bytes
import Derived.StillTailTactics
import Derived.Laws.ShiftsVarLaws
import Derived.ChangeKeysEq
import Derived.RangeFuncNested
import Derived.RangeFuncBound
import Derived.RangeFuncCalls
import Derived.RangeFuncLeaves
import Derived.RangeFuncBox
import Derived.Shelf.RegionOpen
import Derived.OwnWalkIn
import Derived.TacticsInMore
import Derived.LoopNIn
import Derived.LoopIn
/- octroiref05.Options. -/
set_option linter.unusedVariables false
set_option linter.unusedSimpArgs false
namespace Go.Proofs.Ytknpaihlnkcpgaa.Own
open Go.RowKit Go.Proofs.YtknpaihlnkcpgaaW.PrintWords Go.Proofs.YtknpaihlnkcpgaaW.PrintLast Go.Proofs.YtknpaihlnkcpgaaW.PrintMore

/-- a string's bytes -/
def inS (s : ByteArray) : List Int := s.data.toList.map fun x => (x.toNat : Int)
theorem inS_length (s : ByteArray) : (inS s).length = s.size := by simp [inS]
theorem inS_bytes (s : ByteArray) : bytes (inS s) := by
  intro x hx
  obtain ⟨y, _, rfl⟩ := List.mem_map.1 hx
  have := y.toNat_lt
  omega
theorem inS_get (s : ByteArray) (i : Nat) (h : i < s.size) : ((s[i]'h).toNat : Int) = (inS s).getD i 0 := by
  have h2 : i < s.data.size := h
  simp [inS, List.getD_eq_getElem?_getD]
  rw [Array.getElem?_eq_getElem h2]
  rfl
theorem inS_cut (s : ByteArray) (i j : Nat) : inS (s.extract i j) = ((inS s).take j).drop i := by
  simp [inS, List.map_drop, List.map_take, List.drop_take]
theorem str_inS (s : ByteArray) : strOfNums (inS s) = s := by
  apply ByteArray.ext
  apply Array.toList_inj.1
  rw [strOfNums_data, inS, List.map_map]
  conv => rhs; rw [← List.map_id s.data.toList]
  apply List.map_congr_left
  intro x _
  simp
theorem inS_empty (s : ByteArray) : s.toList.isEmpty = decide (s.size = 0) := by
  rw [← inS_length]
  conv => lhs; rw [← str_inS s, Lib.strOfNums_toList]
  cases inS s <;> rfl
theorem inS_str {b : List Int} (h : bytes b) : inS (strOfNums b) = b := by
  rw [inS, strOfNums_data, List.map_map]
  conv => rhs; rw [← List.map_id b]
  apply List.map_congr_left
  intro x hx
  have := h x hx
  simp
  omega
abbrev optK : Kd (Int × ByteArray) := Kd.pair (Kd.int .u8) Kd.string
def refOpts (D : List (Int × List Int)) : List (Int × ByteArray) := D.map fun d => (d.1, strOfNums d.2)
theorem optR_one (w : World) (base : Nat) (x : Int) (s : ByteArray) (hb : base ≤ w.heap.size) : optK.R 34 (w.alloc (.cells #[.int .u8 x, .string s] 34)) base (fun _ => True) (.slice (some ⟨w.heap.size, 0, none⟩) 1 1) [(x, s)] := by
  refine ⟨fun _ _ => trivial, [.int .u8 x, .string s], ⟨rfl, .inr ⟨w.heap.size, 1, #[.int .u8 x, .string s], rfl, hb, heap_alloc_new w _, Nat.le_refl _, by decide, rfl, rfl⟩⟩, rfl, fun j p hj => ?_⟩
  cases j with
  | zero => cases hj; exact ⟨[.int .u8 x], [.string s], rfl, rfl, rfl⟩
  | succ j => cases hj
theorem info_ropt : (Try.prog.info? 34).map (fun i => (i.zero, i.size, i.bytes)) = some (some (.agg #[.int .u8 0, .string ⟨#[]⟩]), 2, 24) := by kernel_rfl
/-- what Options answers for a string -/
def refOK (s : ByteArray) (w w' : World) (e : Ending) : Prop := ∃ v n, e = .returned (.tuple #[v, .int .i64 n]) ∧ Below w.heap.size w w' ∧
      ((∃ D, opts (inS s) = some D ∧ n = 0 ∧ optK.R 34 w' w.heap.size (fun _ => True) v (refOpts D)) ∨ (opts (inS s) = none ∧ n = 51 ∧ v = .slice none 0 0))

set_option maxRecDepth 100000 in
set_option maxHeartbeats 8000000 in
theorem refoptions_any : ∀ (m : Nat) (s : ByteArray) (w : World), s.size ≤ m → m ≤ 100000 →
    Calls Try.prog 9 #[.string s] w fun e w' => refOK s w w' e := by
  intro m
  induction m with
  | zero =>
    intro s w hbm hm
    have hs0 : s.size = 0 := by omega
    have hE : s.toList.isEmpty = true := by rw [inS_empty]; exact decide_eq_true hs0
    go_enter Try.func9, Try.ntmps9
    go_wp2
    refine bodyPost_ret (results_tmp2 rfl _ _ _) rfl ?_
    exact ⟨_, _, rfl, Below.refl _ _, .inl ⟨[], opts_nil (.inl (by rw [inS_length]; exact hs0)), rfl, Kd.R_nil _ _ _ _ _⟩⟩
  | succ m ih =>
    intro s w hbm hm
    have hsz := inS_length s
    have HS := Aside0.mk hsz
    by_cases hb0 : s.size = 0
    · have hE : s.toList.isEmpty = true := by rw [inS_empty]; exact decide_eq_true hb0
      go_enter Try.func9, Try.ntmps9
      go_wp2
      refine bodyPost_ret (results_tmp2 rfl _ _ _) rfl ?_
      exact ⟨_, _, rfl, Below.refl _ _, .inl ⟨[], opts_nil (.inl (by rw [inS_length]; exact hb0)), rfl, Kd.R_nil _ _ _ _ _⟩⟩
    · have hs0 : 0 < s.size := by omega
      have hE : s.toList.isEmpty = false := by rw [inS_empty]; exact decide_eq_false hb0
      have hx : ∀ h : 0 < s.size, ((s[0]'h).toNat : Int) = (inS s).getD 0 0 := fun h => inS_get s 0 h
      have hxr := bytes_getD (inS_bytes s) 0
      obtain ⟨x, ex⟩ : ∃ x, (inS s).getD 0 0 = x := ⟨_, rfl⟩
      rw [ex] at hx hxr
      obtain ⟨x0, x1⟩ := hxr
      have HX := Aside0.mk ex
      clear ex hsz
      go_enter Try.func9, Try.ntmps9
      by_cases h0 : x = 0
      · subst h0
        go_wp2
        refine bodyPost_ret (results_tmp2 rfl _ _ _) rfl ?_
        exact ⟨_, _, rfl, Below.refl _ _, .inl ⟨[], opts_nil (.inr HX.out), rfl, Kd.R_nil _ _ _ _ _⟩⟩
      · by_cases h1 : x = 1
        · subst h1
          have hc := inS_cut s 1 s.size
          have hd : inS (s.extract 1 s.size) = (inS s).drop 1 := by rw [hc, List.take_of_length_le (by rw [inS_length]; exact Nat.le_refl _)]
          have hq := ih (s.extract 1 s.size) w (by rw [← inS_length, hd, List.length_drop, inS_length]; omega) (by omega)
          have HD := Aside0.mk hd
          clear ih hc hd
          go_wp2_with (go_at_call 9; go_must (with_reducible refine hq.mono ?_); rintro e w1 ⟨v, n, rfl, hb1, hr1⟩)
          refine bodyPost_ret (results_tmp2 rfl _ _ _) rfl ?_
          refine ⟨_, _, rfl, hb1, ?_⟩
          rw [HD.out, ← opts_one (by rw [inS_length]; omega) HX.out] at hr1
          exact hr1
        · have bad : ∀ {w' : World} (hbad : s.size < 2 ∨ (inS s).getD 1 0 < 2 ∨ (s.size : Int) < (inS s).getD 1 0), refOK s w w (.returned (.tuple #[.slice none 0 0, .int .i64 51])) := fun hbad =>
            ⟨_, _, rfl, Below.refl _ _, .inr ⟨opts_bad (by rw [inS_length]; omega) (by rw [HX.out]; exact h0) (by rw [HX.out]; exact h1) (by rw [inS_length]; exact hbad), rfl, rfl⟩⟩
          have HBAD := Aside0.mk (@bad w)
          clear bad
          by_cases h2 : s.size < 2
          · go_wp2
            refine bodyPost_ret (results_tmp2 rfl _ _ _) rfl ?_
            exact HBAD.out (.inl (by omega))
          · have hy : ∀ h : 1 < s.size, ((s[1]'h).toNat : Int) = (inS s).getD 1 0 := fun h => inS_get s 1 h
            have hyr := bytes_getD (inS_bytes s) 1
            obtain ⟨y, ey⟩ : ∃ y, (inS s).getD 1 0 = y := ⟨_, rfl⟩
            rw [ey] at hy hyr HBAD
            obtain ⟨y0, y1⟩ := hyr
            have HY := Aside0.mk ey
            clear ey
            have hs1 : 1 < s.size := by omega
            by_cases h3 : y < 2
            · go_wp2
              refine bodyPost_ret (results_tmp2 rfl _ _ _) rfl ?_
              exact HBAD.out (.inr (.inl h3))
            · by_cases h4 : (s.size : Int) < y
              · go_wp2
                refine bodyPost_ret (results_tmp2 rfl _ _ _) rfl ?_
                exact HBAD.out (.inr (.inr h4))
              · have hyn : y ≤ s.size := by omega
                have hlen := inS_length s
                have hd : inS (s.extract y.toNat s.size) = (inS s).drop y.toNat := by rw [inS_cut, List.take_of_length_le (by rw [inS_length]; exact Nat.le_refl _)]
                have hq := ih (s.extract y.toNat s.size) w (by rw [← inS_length, hd, List.length_drop, inS_length]; omega) (by omega)
                have hc2 : inS (s.extract 2 y.toNat) = ((inS s).take y.toNat).drop 2 := inS_cut s 2 y.toNat
                have HEQ : Aside0 (opts (inS s) = (opts (inS (s.extract y.toNat s.size))).map (fun D => (x, inS (s.extract 2 y.toNat)) :: D)) := ⟨by
                  rw [hd, hc2]
                  have h := opts_cons (l := inS s) (by rw [HX.out]; exact h0) (by rw [HX.out]; exact h1) (by rw [HY.out, inS_length]; omega)
                  rw [HX.out, HY.out] at h
                  exact h⟩
                clear ih hd hc2 hlen HBAD
                go_wp2_with (go_at_call 9; go_must (with_reducible refine hq.mono ?_); rintro e w1 ⟨v, n, rfl, hb1, (⟨D, hD, rfl, hR⟩ | ⟨hN, rfl, rfl⟩)⟩)
                · obtain ⟨A5, c5, rfl, hc5, hC5⟩ := Kd.R_reads hR
                  have hln := opts_length hD
                  have hln2 : (refOpts D).length ≤ 100000 := by
                    rw [inS_length] at hln
                    have h : (s.extract y.toNat s.size).size ≤ s.size := by rw [← inS_length, inS_cut, List.length_drop, List.length_take, inS_length]; omega
                    simp only [refOpts, List.length_map]
                    omega
                  have HEQ2 : Aside0 (opts (inS s) = some ((x, inS (s.extract 2 y.toNat)) :: D)) := ⟨by rw [HEQ.out, hD]; rfl⟩
                  have hcons : (x, s.extract 2 y.toNat) :: refOpts D = refOpts ((x, inS (s.extract 2 y.toNat)) :: D) := by simp [refOpts, str_inS]
                  obtain ⟨s2, es2⟩ : ∃ s2, s.extract 2 y.toNat = s2 := ⟨_, rfl⟩
                  generalize eL : refOpts D = L at hC5 hln2 hcons ⊢
                  have hLn : L.length = L.length := rfl
                  generalize en5 : L.length = n5 at hC5 hln2 ⊢
                  have HCONS := Aside0.mk hcons
                  have HC5 := Aside0.mk hC5
                  have HB1 := Aside0.mk hb1
                  have HLN := Aside0.mk hln2
                  have HN5 := Aside0.mk en5
                  clear hR hb1 hD hq hC5 hln hcons eL en5 hLn
                  go_region_held3 (fun _ => True) (trivial) (fail)
                  all_goals (
                    have HO := Aside0.mk (Kd.R_below (optR_one w1 w.heap.size x s2 HB1.out.size) (below_drew (Below.refl _ _)))
                    have hbb := Aside0.mk (below_tr HB1.out (below_drew (below_alloc1 w1 (.cells #[.int .u8 x, .string s2] 34))))
                    have hCC := Aside0.mk (Kd.C_below HC5.out (below_drew (below_alloc1 w1 (.cells #[.int .u8 x, .string s2] 34))))
                    have hsz9 := hbb.out.size
                    generalize (w1.alloc (.cells #[.int .u8 x, .string s2] 34)).drew = w2 at HO hbb hCC hsz9 ⊢
                    go_wp2_with (at_builtin; refine Kd.R_append_rows optK (w0 := w) w.heap.size rfl (.tmp 57) (.tmp 58) 24 34 (.agg #[.int .u8 0, .string ⟨#[]⟩]) 24 rfl Try.underlying24 info_ropt rfl (by decide) (by decide) _ [(x, s2)] L A5 n5 c5 (fun _ => True) (fun _ => False) rfl rfl HO.out hCC.out (fun _ _ h => h) (fun _ h => h.elim) (fun _ _ => trivial) hbb.out hbb.out.size (by simp; omega) ?_; intro v1 w3 ho1 hb3 _ _)
                    refine bodyPost_ret (results_tmp2 rfl _ _ _) rfl ?_
                    exact ⟨v1, 0, rfl, hb3, .inl ⟨_, HEQ2.out, rfl, by have h := ho1; rw [← es2] at h; rw [← HCONS.out]; exact h⟩⟩)
                · refine bodyPost_ret (results_tmp2 rfl _ _ _) rfl ?_
                  exact ⟨_, _, rfl, hb1, .inr ⟨by rw [HEQ.out, hN]; rfl, rfl, rfl⟩⟩
end Go.Proofs.Ytknpaihlnkcpgaa.Own
/- octroiref05.bit, Right, stands, Put. (written by wip/gen_ref5.py) -/
set_option linter.unusedVariables false
set_option linter.unusedSimpArgs false
namespace Go.Proofs.Ytknpaihlnkcpgaa.Own
open Go.RowKit Go.Proofs.YtknpaihlnkcpgaaW.PrintWords Go.Proofs.YtknpaihlnkcpgaaW.PrintLast Go.Proofs.YtknpaihlnkcpgaaW.PrintMore
attribute [local go_sem ↓] ld11 sv_rh
attribute [local go_sem] run_sv_rh gv_some isV_some pick2_true stc nfz_false oc1_int oc1_bool oc1_string oc1_slice oc1_pointer oc1_func pick1_true setCells_new setCells_past setCells_drew

/-- the reference's header: its cells -/
abbrev rcs (h : Hd) (S D O : ByteArray) : Array Value := #[.int .u8 h.tos, .int .u16 h.total, .int .u16 h.id, .bool h.df, .bool h.mf, .int .u16 h.frag, .int .u8 h.ttl, .int .u8 h.proto, .string S, .string D, .string O]
theorem rh_cells {w : World} {g t : Nat} {h : Hd} {S D O : ByteArray} (hb : w.heap[g]? = some (.cells (rcs h S D O) t (0, 0))) :
    w.cell? ⟨g, 0, none⟩ = some (.int .u8 h.tos) ∧ w.cell? ⟨g, 1, none⟩ = some (.int .u16 h.total) ∧ w.cell? ⟨g, 2, none⟩ = some (.int .u16 h.id) ∧ w.cell? ⟨g, 3, none⟩ = some (.bool h.df) ∧ w.cell? ⟨g, 4, none⟩ = some (.bool h.mf) ∧ w.cell? ⟨g, 5, none⟩ = some (.int .u16 h.frag) ∧ w.cell? ⟨g, 6, none⟩ = some (.int .u8 h.ttl) ∧ w.cell? ⟨g, 7, none⟩ = some (.int .u8 h.proto) ∧ w.cell? ⟨g, 8, none⟩ = some (.string S) ∧ w.cell? ⟨g, 9, none⟩ = some (.string D) ∧ w.cell? ⟨g, 10, none⟩ = some (.string O) := by refine ⟨?_, ?_, ?_, ?_, ?_, ?_, ?_, ?_, ?_, ?_, ?_⟩ <;> (rw [blk_cell hb]; rfl)
theorem rof_at (b : List Int) (A : Option Addr) (n c : Nat) (w : World) (hr : Kd.C (Kd.int .u8) w A n b) (hb : bytes b) (hn : b.length ≤ 1048576) :
    Calls Try.prog 29 #[.slice A n c] w fun e w' => e = .returned (.int .u16 (ck b)) ∧ Below w.heap.size w w' := by
  obtain rfl := hr.1
  exact rof_any b A c w hr hb hn
theorem rbit_any (b : Bool) (f : Int) (w : World) :
    Calls Try.prog 48 #[.bool b, .int .u64 f] w fun e w' => e = .returned (.int .u64 (fl b f)) ∧ w = w' := by
  cases b
  · go_enter Try.func48, Try.ntmps48
    go_wp2
    go_ret
    exact ⟨rfl, rfl⟩
  · go_enter Try.func48, Try.ntmps48
    go_wp2
    go_ret
    exact ⟨rfl, rfl⟩
set_option maxRecDepth 100000 in
theorem rright_any (h : Hd) (S D O : ByteArray) (w : World) (ht : inB h.total 65535) (hO : O.size ≤ 1000000) :
    Calls Try.prog 16 #[.agg (rcs h S D O)] w fun e w' => e = .returned (.bool (rightB h O.size)) ∧ Below w.heap.size w w' := by
  obtain ⟨c0, c1, c2, c3, c4, c5, c6, c7, c8, c9, c10⟩ := rh_cells (heap_alloc_new w (.cells (rcs h S D O) 41))
  obtain ⟨t0, t1⟩ := ht
  have HR : Aside0 (rightB h O.size = decide (h.frag ≤ 8191 ∧ O.size % 4 = 0 ∧ O.size ≤ 40 ∧ (20 : Int) + O.size ≤ h.total)) := ⟨rfl⟩
  by_cases h1 : h.frag < 8192
  · by_cases h2 : (O.size : Int) % 4 = 0
    · by_cases h3 : O.size ≤ 40
      · by_cases h4 : (20 : Int) + O.size ≤ h.total
        · go_enter Try.func16, Try.ntmps16
          go_wp2
          go_ret
          exact ⟨ret_bool (by rw [HR.out]; simp; omega), below_alloc1 w _⟩
        · go_enter Try.func16, Try.ntmps16
          go_wp2
          go_ret
          exact ⟨ret_bool (by rw [HR.out]; simp; omega), below_alloc1 w _⟩
      · go_enter Try.func16, Try.ntmps16
        go_wp2
        go_ret
        exact ⟨ret_bool (by rw [HR.out]; simp; omega), below_alloc1 w _⟩
    · go_enter Try.func16, Try.ntmps16
      go_wp2
      go_ret
      exact ⟨ret_bool (by rw [HR.out]; simp; omega), below_alloc1 w _⟩
  · go_enter Try.func16, Try.ntmps16
    go_wp2
    go_ret
    exact ⟨ret_bool (by rw [HR.out]; simp; omega), below_alloc1 w _⟩

/-- where stands is: the header's box lies as it did, the row L is its own -/
def RSt (w W : World) (h : Hd) (S D O : ByteArray) (A : Option Addr) (n c : Nat) (L : List Int) : Prop :=
  Below (w.heap.size + 1) (w.alloc (.cells (rcs h S D O) 41)) W ∧ Kd.R (Kd.int .u8) 5 W (w.heap.size + 1) (fun _ => True) (.slice A n c) L
section
variable {w W W1 : World} {h : Hd} {S D O : ByteArray} {A B : Option Addr} {n c m d : Nat} {L ys : List Int}
theorem RSt.blk (hs : RSt w W h S D O A n c L) : W.heap[w.heap.size]? = some (.cells (rcs h S D O) 41 (0, 0)) :=
  (hs.1.block w.heap.size (by omega)).trans (heap_alloc_new w _)
theorem RSt.size (hs : RSt w W h S D O A n c L) : w.heap.size + 1 ≤ W.heap.size := by have := hs.1.size; simpa using this
theorem RSt.below (hs : RSt w W h S D O A n c L) (hb : Below W.heap.size W W1) : RSt w W1 h S D O A n c L := ⟨below_then hs.1 hs.size hb, Kd.R_below hs.2 hb⟩
theorem RSt.drew (hs : RSt w W h S D O A n c L) : RSt w W.drew h S D O A n c L := hs.below (below_drew (Below.refl _ _))
theorem RSt.all (hs : RSt w W h S D O A n c L) : Below w.heap.size w W := (below_alloc1 w _).trans (hs.1.mono (by omega))
theorem RSt.join (hs : RSt w W h S D O A n c L) (hC : Kd.C (Kd.int .u8) W B m ys) (hl : n + m ≤ 1000000) :
    Calls Try.prog 18 #[.slice A n c, .slice B m d] W fun e w' => ∃ A n c, e = .returned (.slice A n c) ∧ RSt w w' h S D O A n c (L ++ ys) := by
  refine (join_any L ys A B n c m d W (C_of_R hs.2).1 hC (by omega)).mono ?_
  rintro e w' ⟨A', n', c', rfl, hR, hb⟩
  exact ⟨_, _, _, rfl, (hs.below hb).1, Kd.R_lower hR hs.size⟩
theorem RSt.len (hs : RSt w W h S D O A n c L) : n = L.length := (C_of_R hs.2).1.1.symm
end
/-- the bytes of a header that is told by its numbers, and by what stands behind -/
def rst (h : Hd) (n : Nat) (R : List Int) (sum : Int) : List Int :=
  [(64 : Int) + (20 + (n : Int)) / 4, h.tos] ++ be 2 h.total ++ be 2 h.id ++ be 2 (fl h.df 16384 + fl h.mf 8192 + h.frag) ++ [h.ttl, h.proto] ++ be 2 sum ++ R
theorem wrap_fl (a b : Bool) (x : Int) (h0 : 0 ≤ x) (h1 : x ≤ 65535) : IntKind.u64.wrap (IntKind.u64.wrap (fl a 16384 + fl b 8192) + IntKind.u64.wrap x) = fl a 16384 + fl b 8192 + x := by
  have r1 : 0 ≤ fl a 16384 + fl b 8192 := by cases a <;> cases b <;> decide
  have r2 : fl a 16384 + fl b 8192 ≤ 24576 := by cases a <;> cases b <;> decide
  rw [wraps_u64 x h0 (by omega), wraps_u64 _ r1 (by omega), wraps_u64 _ (by omega) (by omega)]
theorem len_le {w : World} {A : Option Addr} {m k : Nat} {v : List Int} (h : Kd.C (Kd.int .u8) w A m v) (hk : v.length = k) (h100 : k ≤ 100 := by decide) : m ≤ 100 := by have := h.1; omega
theorem le_sum {a b : Nat} (ha : a ≤ 100) (hb : b ≤ 100) : a + b ≤ 1000000 := by omega
theorem fl_range (a b : Bool) (x : Int) (h0 : 0 ≤ x) (h1 : x ≤ 65535) : 0 ≤ fl a 16384 + fl b 8192 + x ∧ fl a 16384 + fl b 8192 + x ≤ 90111 := by cases a <;> cases b <;> simp [fl] <;> omega

set_option maxRecDepth 100000 in
set_option maxHeartbeats 4000000 in
theorem rstands_any (h : Hd) (S D O : ByteArray) (sum : Int) (w : World) (hok : h.ok) (hs0 : inB sum 65535) (hS : S.size ≤ 1000) (hD : D.size ≤ 1000) (hO : O.size ≤ 40) :
    Calls Try.prog 28 #[.agg (rcs h S D O), .int .u16 sum] w fun e w' => ∃ A n c, e = .returned (.slice A n c) ∧ Kd.R (Kd.int .u8) 5 w' w.heap.size (fun _ => True) (.slice A n c) (rst h O.size (inS (S ++ D ++ O)) sum) ∧ Below w.heap.size w w' := by
  obtain ⟨c0, c1, c2, c3, c4, c5, c6, c7, c8, c9, c10⟩ := rh_cells (heap_alloc_new w (.cells (rcs h S D O) 41))
  have HB0 := Aside0.mk (below_alloc1 w (.cells (rcs h S D O) 41))
  obtain ⟨⟨b0, b1⟩, ⟨b2, b3⟩, ⟨b4, b5⟩, ⟨b6, b7⟩, ⟨b8, b9⟩, ⟨b10, b11⟩, _⟩ := hok
  obtain ⟨s0, s1⟩ := hs0
  have hp1 := fun W => rput_at 1 1 rfl (64 + (20 + (O.size : Int)) / 4) W (by omega) (by omega) (by decide)
  have e1 : be 1 (64 + (20 + (O.size : Int)) / 4) = [64 + (20 + (O.size : Int)) / 4] := be1_of ⟨by omega, by omega⟩
  rw [e1] at hp1
  clear e1
  go_enter Try.func28, Try.ntmps28
  go_upto_region 2 with (go_at_call 45; go_must (with_reducible refine (hp1 _).mono ?_); rintro e w1 ⟨A1, n1, d1, rfl, hR1, hb1⟩)
  have h1 : RSt w w1 h S D O A1 n1 d1 [64 + (20 + (O.size : Int)) / 4] := ⟨by have := hb1; simpa using this, by have := hR1; simpa using this⟩
  clear hR1 hb1 hp1 c0 c1 c2 c3 c4 c5 c6 c7 c8 c9 c10
  obtain ⟨c0, c1, c2, c3, c4, c5, c6, c7, c8, c9, c10⟩ := rh_cells h1.blk
  have hy := C_new_bytes w1 [h.tos] (by simp)
  have HS := Aside0.mk h1
  clear h1
  go_upto_region 3 with (at_builtin; refine app_bytes (w.heap.size + 1) rfl (.tmp 14) (.tmp 17) rfl _ _ [h.tos] _ 1 1 rfl rfl (Kd.R_alloc HS.out.2 _) hy (HS.out.1.alloc HS.out.size _) (by have := HS.out.size; simp; omega) (by simp) ?_; intro A2 n2 d2 w2 hR2 hb2)
  have h2 : RSt w w2 h S D O A2 n2 d2 ([64 + (20 + (O.size : Int)) / 4] ++ [h.tos]) := ⟨hb2, hR2⟩
  clear hR2 hb2 hy HS c0 c1 c2 c3 c4 c5 c6 c7 c8 c9 c10
  obtain ⟨c0, c1, c2, c3, c4, c5, c6, c7, c8, c9, c10⟩ := rh_cells h2.blk
  have hp := fun W => rput_at 2 2 rfl (h.total) W (by omega) (by omega) (by decide)
  have HS := Aside0.mk h2
  have HL := Aside0.mk (be_length 2 (h.total))
  have hn2 : n2 ≤ 100 := by have := h2.len; simp [be_length] at this; omega
  clear h2
  go_upto_region 4 with (first | (go_at_call 45; go_must (with_reducible refine (hp _).mono ?_); rintro e w0 ⟨B, m, d, rfl, hR, hb⟩; have hC := (C_of_R hR).1; have hm : m ≤ 100 := len_le hC HL.out) | (go_at_call 18; go_must (with_reducible refine ((HS.out.below hb).join hC (le_sum hn2 hm)).mono ?_); rintro e w3 ⟨A3, n3, d3, rfl, h3⟩))
  clear HS hp hR hb hC hm hn2 HL c0 c1 c2 c3 c4 c5 c6 c7 c8 c9 c10
  obtain ⟨c0, c1, c2, c3, c4, c5, c6, c7, c8, c9, c10⟩ := rh_cells h3.blk
  have hp := fun W => rput_at 2 2 rfl (h.id) W (by omega) (by omega) (by decide)
  have HS := Aside0.mk h3
  have HL := Aside0.mk (be_length 2 (h.id))
  have hn3 : n3 ≤ 100 := by have := h3.len; simp [be_length] at this; omega
  clear h3
  go_upto_region 5 with (first | (go_at_call 45; go_must (with_reducible refine (hp _).mono ?_); rintro e w0 ⟨B, m, d, rfl, hR, hb⟩; have hC := (C_of_R hR).1; have hm : m ≤ 100 := len_le hC HL.out) | (go_at_call 18; go_must (with_reducible refine ((HS.out.below hb).join hC (le_sum hn3 hm)).mono ?_); rintro e w4 ⟨A4, n4, d4, rfl, h4⟩))
  clear HS hp hR hb hC hm hn3 HL c0 c1 c2 c3 c4 c5 c6 c7 c8 c9 c10
  have HS := Aside0.mk h4
  have hn4 : n4 ≤ 100 := by have := h4.len; simp [be_length] at this; omega
  clear h4
  go_cut [5] (fun v wx => ∃ A n d, v = .slice A n d ∧ Aside0 (RSt w wx h S D O A n d ([64 + (20 + (O.size : Int)) / 4] ++ [h.tos] ++ be 2 h.total ++ be 2 h.id ++ be 2 (fl h.df 16384 + fl h.mf 8192 + h.frag))))
  case first =>
    obtain ⟨c0, c1, c2, c3, c4, c5, c6, c7, c8, c9, c10⟩ := rh_cells HS.out.blk
    obtain ⟨f0, f1⟩ := fl_range h.df h.mf h.frag b6 b7
    have hp := fun W => rput_at 2 2 rfl (fl h.df 16384 + fl h.mf 8192 + h.frag) W f0 (by omega) (by decide)
    have HL := Aside0.mk (be_length 2 (fl h.df 16384 + fl h.mf 8192 + h.frag))
    have hw1 : IntKind.u64.wrap (fl h.df 16384 + fl h.mf 8192) = fl h.df 16384 + fl h.mf 8192 := wraps_u64 _ (by cases h.df <;> cases h.mf <;> decide) (by cases h.df <;> cases h.mf <;> decide)
    have hw2 : IntKind.u64.wrap h.frag = h.frag := wraps_u64 _ b6 (by omega)
    have hw3 : IntKind.u64.wrap (fl h.df 16384 + fl h.mf 8192 + h.frag) = fl h.df 16384 + fl h.mf 8192 + h.frag := wraps_u64 _ f0 (by omega)
    go_region_held3 (fun w' => w'.cell? ⟨w.heap.size, 3, none⟩ = some (.bool h.df) ∧ w'.cell? ⟨w.heap.size, 4, none⟩ = some (.bool h.mf) ∧ w'.cell? ⟨w.heap.size, 5, none⟩ = some (.int .u16 h.frag)) (first | exact ⟨c3, c4, c5⟩ | exact ⟨pw_cell_below hb c3, pw_cell_below hb c4, pw_cell_below hb c5⟩ | exact ⟨(rh_cells h5.blk).2.2.2.1, (rh_cells h5.blk).2.2.2.2.1, (rh_cells h5.blk).2.2.2.2.2.1⟩) (first | (go_at_call 48; go_must (with_reducible refine (rbit_any _ _ _).mono ?_); rintro e w0 ⟨rfl, rfl⟩) | (go_at_call 45; go_must (with_reducible refine (hp _).mono ?_); rintro e w0 ⟨B, m, d, rfl, hR, hb⟩; have hC := (C_of_R hR).1; have hm : m ≤ 100 := len_le hC HL.out) | (go_at_call 18; go_must (with_reducible refine ((HS.out.drew.below hb).join hC (le_sum hn4 hm)).mono ?_); rintro e w5 ⟨A5, n5, d5, rfl, h5⟩))
    all_goals (
      go_wp2
      go_meet
      exact ⟨_, _, _, rfl, ⟨h5⟩⟩)
  case rest =>
    clear HS hn4
    obtain ⟨A5, n5, d5, rfl, HS⟩ := hcut
    obtain ⟨c0, c1, c2, c3, c4, c5, c6, c7, c8, c9, c10⟩ := rh_cells HS.out.blk
    have hn5 : n5 ≤ 100 := by have := HS.out.len; simp [be_length] at this; omega
    have hy := C_new_bytes wc [h.ttl, h.proto] (by simp)
    go_upto_region 7 with (at_builtin; refine app_bytes (w.heap.size + 1) rfl (.tmp 45) (.tmp 50) rfl _ _ [h.ttl, h.proto] _ 2 2 rfl rfl (Kd.R_alloc HS.out.2 _) hy (HS.out.1.alloc HS.out.size _) (by have := HS.out.size; simp; omega) (by simp [be_length]) ?_; intro A6 n6 d6 w6 hR6 hb6)
    have h6 : RSt w w6 h S D O A6 n6 d6 ([64 + (20 + (O.size : Int)) / 4] ++ [h.tos] ++ be 2 h.total ++ be 2 h.id ++ be 2 (fl h.df 16384 + fl h.mf 8192 + h.frag) ++ [h.ttl, h.proto]) := ⟨hb6, hR6⟩
    have hn6 : n6 ≤ 100 := by have := h6.len; simp [be_length] at this; omega
    clear hR6 hb6 hy HS c0 c1 c2 c3 c4 c5 c6 c7 c8 c9 c10 hn5
    have hp := fun W => rput_at 2 2 rfl sum W s0 (by omega) (by decide)
    have HS := Aside0.mk h6
    have HL := Aside0.mk (be_length 2 sum)
    clear h6
    go_upto_region 8 with (first | (go_at_call 45; go_must (with_reducible refine (hp _).mono ?_); rintro e w0 ⟨B, m, d, rfl, hR, hb⟩; have hC := (C_of_R hR).1; have hm : m ≤ 100 := len_le hC HL.out) | (go_at_call 18; go_must (with_reducible refine ((HS.out.below hb).join hC (le_sum hn6 hm)).mono ?_); rintro e w7 ⟨A7, n7, d7, rfl, h7⟩))
    have hn7 : n7 ≤ 100 := by have := h7.len; simp [be_length] at this; omega
    clear HS hp hR hb hC hm hn6 HL
    obtain ⟨c0, c1, c2, c3, c4, c5, c6, c7, c8, c9, c10⟩ := rh_cells h7.blk
    have HS := Aside0.mk h7
    clear h7
    have kb := fun W => print_bytes (P := Try.prog) 9 22 5 Try.underlying9 Try.underlying22 Try.underlying5 (S ++ D ++ O) W
    have hsz : (S ++ D ++ O).size = S.size + D.size + O.size := by simp [ByteArray.size_append]
    have HBB := Aside0.mk (bytes_below (Below.refl w7.heap.size w7) (Nat.le_refl _) 5 (S ++ D ++ O))
    have HCB : Aside0 (Kd.C (Kd.int .u8) (Lib.bytesWorld w7 5 (S ++ D ++ O)) (some ⟨w7.heap.size, 0, none⟩) (S ++ D ++ O).size (inS (S ++ D ++ O))) := ⟨Kd.C_of_reads (enc := Value.int .u8) (d := (0 : Int)) (h1 := fun _ => rfl) (bytes_reads w7 5 (S ++ D ++ O) (by omega))⟩
    have hln : n7 + (S ++ D ++ O).size ≤ 1000000 := by omega
    rw [hsz] at HCB hln
    clear hsz
    go_wp2_with (go_at_call 18; go_must (with_reducible refine ((HS.out.below HBB.out).join HCB.out hln).mono ?_); rintro e w8 ⟨A8, n8, d8, rfl, h8⟩)
    go_ret
    exact ⟨_, _, _, rfl, Kd.R_lower h8.2 (by omega), h8.all⟩

set_option maxRecDepth 100000 in
set_option maxHeartbeats 4000000 in
theorem rput5_wrong (h : Hd) (S D O : ByteArray) (w : World) (hok : h.ok) (hO : O.size ≤ 1000) (hr : rightB h O.size = false) :
    Calls Try.prog 12 #[.agg (rcs h S D O)] w fun e w' => e = .returned (.tuple #[.slice none 0 0, .int .i64 51]) ∧ Below w.heap.size w w' := by
  obtain ⟨c0, c1, c2, c3, c4, c5, c6, c7, c8, c9, c10⟩ := rh_cells (heap_alloc_new w (.cells (rcs h S D O) 41))
  have hq := rright_any h S D O (w.alloc (.cells (rcs h S D O) 41)) hok.2.1 (by omega)
  rw [hr] at hq
  clear hr hok
  go_enter Try.func12, Try.ntmps12
  go_wp2_with (go_at_call 16; go_must (with_reducible refine hq.mono ?_); rintro e w1 ⟨rfl, hb1⟩)
  refine bodyPost_ret (results_tmp2 rfl _ _ _) rfl ?_
  exact ⟨rfl, below_tr (below_alloc1 w _) hb1⟩
theorem bytes_rst {h : Hd} {n : Nat} {R : List Int} {s : Int} (hok : h.ok) (hn : n ≤ 40) (hR : bytes R) : bytes (rst h n R s) := by
  obtain ⟨a1, a2, a3, a4, a5, a6, _⟩ := hok
  unfold rst
  simp only [bytes_append]
  exact ⟨⟨⟨⟨⟨⟨bytes_two' ⟨by omega, by omega⟩ a1, bytes_be _ _⟩, bytes_be _ _⟩, bytes_be _ _⟩, bytes_two' a5 a6⟩, bytes_be _ _⟩, hR⟩
set_option maxRecDepth 100000 in
set_option maxHeartbeats 4000000 in
theorem rput5_right (h : Hd) (S D O : ByteArray) (w : World) (hok : h.ok) (hS : S.size ≤ 1000) (hD : D.size ≤ 1000) (hr : rightB h O.size = true) :
    Calls Try.prog 12 #[.agg (rcs h S D O)] w fun e w' => ∃ A n c, e = .returned (.tuple #[.slice A n c, .int .i64 0]) ∧ Kd.R (Kd.int .u8) 5 w' w.heap.size (fun _ => True) (.slice A n c) (rst h O.size (inS (S ++ D ++ O)) (ck (rst h O.size (inS (S ++ D ++ O)) 0))) ∧ Below w.heap.size w w' := by
  have hR : h.frag ≤ 8191 ∧ O.size % 4 = 0 ∧ O.size ≤ 40 ∧ (20 : Int) + O.size ≤ h.total := of_decide_eq_true hr
  have hO := hR.2.2.1
  obtain ⟨c0, c1, c2, c3, c4, c5, c6, c7, c8, c9, c10⟩ := rh_cells (heap_alloc_new w (.cells (rcs h S D O) 41))
  have hq := rright_any h S D O (w.alloc (.cells (rcs h S D O) 41)) hok.2.1 (by omega)
  rw [hr] at hq
  have hby : bytes (rst h O.size (inS (S ++ D ++ O)) 0) := bytes_rst hok hO (inS_bytes _)
  have hck := ck_range _ hby
  have hsz : (S ++ D ++ O).size = S.size + D.size + O.size := by simp [ByteArray.size_append]
  have hll : (rst h O.size (inS (S ++ D ++ O)) 0).length ≤ 1048576 := by simp [rst, be_length, inS_length]; omega
  have hst := fun (s : Int) (hs : inB s 65535) W => rstands_any h S D O s W hok hs hS hD hO
  obtain ⟨L, eL⟩ : ∃ L, rst h O.size (inS (S ++ D ++ O)) 0 = L := ⟨_, rfl⟩
  have hst0 := hst 0 ⟨by decide, by decide⟩
  rw [eL] at hst0 hby hck hll ⊢
  obtain ⟨v, ev⟩ : ∃ v, ck L = v := ⟨_, rfl⟩
  have hof := fun W A n c (hC : Kd.C (Kd.int .u8) W A n L) => rof_at L A n c W hC hby hll
  rw [ev] at hck hof ⊢
  have hstv := hst v ⟨hck.1, by omega⟩
  have HB1 : ∀ {W W1 : World}, Below W.heap.size W W1 → ∀ i u, W.cell? ⟨w.heap.size, i, none⟩ = some u → W1.cell? ⟨w.heap.size, i, none⟩ = some u := fun hb i u hc => pw_cell_below hb hc
  have HKEEP : ∀ {W W1 : World}, Below W.heap.size W W1 → (W.cell? ⟨w.heap.size, 0, none⟩ = some (.int .u8 h.tos) ∧ W.cell? ⟨w.heap.size, 1, none⟩ = some (.int .u16 h.total) ∧ W.cell? ⟨w.heap.size, 2, none⟩ = some (.int .u16 h.id) ∧ W.cell? ⟨w.heap.size, 3, none⟩ = some (.bool h.df) ∧ W.cell? ⟨w.heap.size, 4, none⟩ = some (.bool h.mf) ∧ W.cell? ⟨w.heap.size, 5, none⟩ = some (.int .u16 h.frag) ∧ W.cell? ⟨w.heap.size, 6, none⟩ = some (.int .u8 h.ttl) ∧ W.cell? ⟨w.heap.size, 7, none⟩ = some (.int .u8 h.proto) ∧ W.cell? ⟨w.heap.size, 8, none⟩ = some (.string S) ∧ W.cell? ⟨w.heap.size, 9, none⟩ = some (.string D) ∧ W.cell? ⟨w.heap.size, 10, none⟩ = some (.string O)) → (W1.cell? ⟨w.heap.size, 0, none⟩ = some (.int .u8 h.tos) ∧ W1.cell? ⟨w.heap.size, 1, none⟩ = some (.int .u16 h.total) ∧ W1.cell? ⟨w.heap.size, 2, none⟩ = some (.int .u16 h.id) ∧ W1.cell? ⟨w.heap.size, 3, none⟩ = some (.bool h.df) ∧ W1.cell? ⟨w.heap.size, 4, none⟩ = some (.bool h.mf) ∧ W1.cell? ⟨w.heap.size, 5, none⟩ = some (.int .u16 h.frag) ∧ W1.cell? ⟨w.heap.size, 6, none⟩ = some (.int .u8 h.ttl) ∧ W1.cell? ⟨w.heap.size, 7, none⟩ = some (.int .u8 h.proto) ∧ W1.cell? ⟨w.heap.size, 8, none⟩ = some (.string S) ∧ W1.cell? ⟨w.heap.size, 9, none⟩ = some (.string D) ∧ W1.cell? ⟨w.heap.size, 10, none⟩ = some (.string O)) := fun hb hc => ⟨pw_cell_below hb hc.1, pw_cell_below hb hc.2.1, pw_cell_below hb hc.2.2.1, pw_cell_below hb hc.2.2.2.1, pw_cell_below hb hc.2.2.2.2.1, pw_cell_below hb hc.2.2.2.2.2.1, pw_cell_below hb hc.2.2.2.2.2.2.1, pw_cell_below hb hc.2.2.2.2.2.2.2.1, pw_cell_below hb hc.2.2.2.2.2.2.2.2.1, pw_cell_below hb hc.2.2.2.2.2.2.2.2.2.1, pw_cell_below hb hc.2.2.2.2.2.2.2.2.2.2⟩
  have HKP := Aside0.mk @HKEEP
  clear HB1 HKEEP hst hr hR hok hsz eL ev hby hll hck
  go_enter Try.func12, Try.ntmps12
  go_upto_region 3 with (go_at_call 16; go_must (with_reducible refine hq.mono ?_); rintro e w1 ⟨rfl, hb1⟩)
  have hk1 := HKP.out hb1 ⟨c0, c1, c2, c3, c4, c5, c6, c7, c8, c9, c10⟩
  have HB := Aside0.mk (below_tr (below_alloc1 w _) hb1)
  clear hb1 hq c0 c1 c2 c3 c4 c5 c6 c7 c8 c9 c10
  go_region_held3 (fun w' => w'.cell? ⟨w.heap.size, 0, none⟩ = some (.int .u8 h.tos) ∧ w'.cell? ⟨w.heap.size, 1, none⟩ = some (.int .u16 h.total) ∧ w'.cell? ⟨w.heap.size, 2, none⟩ = some (.int .u16 h.id) ∧ w'.cell? ⟨w.heap.size, 3, none⟩ = some (.bool h.df) ∧ w'.cell? ⟨w.heap.size, 4, none⟩ = some (.bool h.mf) ∧ w'.cell? ⟨w.heap.size, 5, none⟩ = some (.int .u16 h.frag) ∧ w'.cell? ⟨w.heap.size, 6, none⟩ = some (.int .u8 h.ttl) ∧ w'.cell? ⟨w.heap.size, 7, none⟩ = some (.int .u8 h.proto) ∧ w'.cell? ⟨w.heap.size, 8, none⟩ = some (.string S) ∧ w'.cell? ⟨w.heap.size, 9, none⟩ = some (.string D) ∧ w'.cell? ⟨w.heap.size, 10, none⟩ = some (.string O)) (first | exact hk1 | exact HKP.out hb2 hk1 | exact HKP.out hb3 (HKP.out hb2 hk1) | exact HKP.out hb4 (HKP.out hb3 (HKP.out hb2 hk1))) (first | (go_at_call 29; go_must (with_reducible refine (hof _ _ _ _ (C_of_R hR2).1).mono ?_); rintro e w3 ⟨rfl, hb3⟩) | (go_at_call 28; (with_reducible refine (hst0 _).mono ?_); rintro e w2 ⟨A2, n2, c2, rfl, hR2, hb2⟩) | (go_at_call 28; go_must (with_reducible refine (hstv _).mono ?_); rintro e w4 ⟨A4, n4, c4, rfl, hR4, hb4⟩))
  go_wp2
  refine bodyPost_ret (results_tmp2 rfl _ _ _) rfl ?_
  refine ⟨_, _, _, rfl, Kd.R_lower hR4 (by have := HB.out.size; have := hb2.size; have := hb3.size; simp at *; omega), ?_⟩
  exact below_tr (below_tr (below_tr (below_drew HB.out) hb2) hb3) hb4
end Go.Proofs.Ytknpaihlnkcpgaa.Own
/- octroidocs.Ip. (written by wip/gen_doc5.py) -/
set_option linter.unusedVariables false
set_option linter.unusedSimpArgs false
namespace Go.Proofs.Ytknpaihlnkcpgaa.Own
open Go.RowKit Go.Proofs.YtknpaihlnkcpgaaW.PrintWords Go.Proofs.YtknpaihlnkcpgaaW.PrintLast Go.Proofs.YtknpaihlnkcpgaaW.PrintMore
attribute [local go_sem ↓] ld11 sv_rh
attribute [local go_sem] run_sv_rh gv_some isV_some pick2_true stc nfz_false oc1_int oc1_bool oc1_string oc1_slice oc1_pointer oc1_func pick1_true setCells_new setCells_past setCells_drew

/-- a header as the reference has it -/
abbrev docOf (h : Hd) (o : List Int) : Array Value := rcs h (strOfNums [h.s0, h.s1, h.s2, h.s3]) (strOfNums [h.d0, h.d1, h.d2, h.d3]) (strOfNums o)
set_option maxRecDepth 100000 in
set_option maxHeartbeats 4000000 in
theorem doc_any (h : Hd) (A : Option Addr) (n c : Nat) (o : List Int) (w : World) (hC : Kd.C (Kd.int .u8) w A n o) :
    Calls Try.prog 11 #[.agg (hcs h A n c)] w fun e w' => e = .returned (.agg (docOf h o)) ∧ Below w.heap.size w w' := by
  have hb := heap_alloc_new w (.cells (hcs h A n c) 39)
  have hS : ∀ o' : Obj, ((w.alloc (.cells (hcs h A n c) 39)).alloc o').drew.cell? ⟨w.heap.size, 0, none⟩ = some (.int .u8 h.tos) ∧ ((w.alloc (.cells (hcs h A n c) 39)).alloc o').drew.cell? ⟨w.heap.size, 1, none⟩ = some (.int .u16 h.total) ∧ ((w.alloc (.cells (hcs h A n c) 39)).alloc o').drew.cell? ⟨w.heap.size, 2, none⟩ = some (.int .u16 h.id) ∧ ((w.alloc (.cells (hcs h A n c) 39)).alloc o').drew.cell? ⟨w.heap.size, 3, none⟩ = some (.bool h.df) ∧ ((w.alloc (.cells (hcs h A n c) 39)).alloc o').drew.cell? ⟨w.heap.size, 4, none⟩ = some (.bool h.mf) ∧ ((w.alloc (.cells (hcs h A n c) 39)).alloc o').drew.cell? ⟨w.heap.size, 5, none⟩ = some (.int .u16 h.frag) ∧ ((w.alloc (.cells (hcs h A n c) 39)).alloc o').drew.cell? ⟨w.heap.size, 6, none⟩ = some (.int .u8 h.ttl) ∧ ((w.alloc (.cells (hcs h A n c) 39)).alloc o').drew.cell? ⟨w.heap.size, 7, none⟩ = some (.int .u8 h.proto) ∧ ((w.alloc (.cells (hcs h A n c) 39)).alloc o').drew.cell? ⟨w.heap.size, 16, none⟩ = some (.slice A n c) ∧ (convert 22 9 (.slice (some ⟨w.heap.size, 8, none⟩) 4 4)).run Try.prog ((w.alloc (.cells (hcs h A n c) 39)).alloc o').drew = .ok (.string (strOfNums [h.s0, h.s1, h.s2, h.s3])) ((w.alloc (.cells (hcs h A n c) 39)).alloc o').drew ∧ (convert 22 9 (.slice (some ⟨w.heap.size, 12, none⟩) 4 4)).run Try.prog ((w.alloc (.cells (hcs h A n c) 39)).alloc o').drew = .ok (.string (strOfNums [h.d0, h.d1, h.d2, h.d3])) ((w.alloc (.cells (hcs h A n c) 39)).alloc o').drew ∧ (convert 22 9 (.slice A n c)).run Try.prog ((w.alloc (.cells (hcs h A n c) 39)).alloc o').drew = .ok (.string (strOfNums o)) ((w.alloc (.cells (hcs h A n c) 39)).alloc o').drew := fun o' => by
    have h1 := fun i u (hc : (w.alloc (.cells (hcs h A n c) 39)).cell? ⟨w.heap.size, i, none⟩ = some u) => pw_cell_below (below_drew (below_alloc1 (w.alloc (.cells (hcs h A n c) 39)) o')) hc
    have hcc := hd_cells hb
    refine ⟨h1 _ _ hcc.1, h1 _ _ hcc.2.1, h1 _ _ hcc.2.2.1, h1 _ _ hcc.2.2.2.1, h1 _ _ hcc.2.2.2.2.1, h1 _ _ hcc.2.2.2.2.2.1, h1 _ _ hcc.2.2.2.2.2.2.1, h1 _ _ hcc.2.2.2.2.2.2.2.1, h1 _ _ hcc.2.2.2.2.2.2.2.2.2.2.2.2.2.2.2.2, ?_, ?_, ?_⟩
    · exact Kd.C_string (c := 4) Try.underlying22 Try.underlying5 Try.underlying9 (Kd.C_drew (Kd.C_alloc (hd_src hb) o'))
    · exact Kd.C_string (c := 4) Try.underlying22 Try.underlying5 Try.underlying9 (Kd.C_drew (Kd.C_alloc (hd_dst hb) o'))
    · exact Kd.C_string (c := c) Try.underlying22 Try.underlying5 Try.underlying9 (Kd.C_drew (Kd.C_alloc (Kd.C_alloc hC (.cells (hcs h A n c) 39)) o'))
  clear hb hC
  obtain ⟨tos, total, id, df, mf, frag, ttl, proto, s0, s1, s2, s3, d0, d1, d2, d3⟩ := h
  dsimp only [hcs] at hS
  have HS := Aside0.mk hS
  clear hS
  go_enter Try.func11, Try.ntmps11
  go_upto_region 1 with fail
  go_region_held3 (fun w' => w'.cell? ⟨w.heap.size, 0, none⟩ = some (.int .u8 tos) ∧ w'.cell? ⟨w.heap.size, 1, none⟩ = some (.int .u16 total) ∧ w'.cell? ⟨w.heap.size, 2, none⟩ = some (.int .u16 id) ∧ w'.cell? ⟨w.heap.size, 3, none⟩ = some (.bool df) ∧ w'.cell? ⟨w.heap.size, 4, none⟩ = some (.bool mf) ∧ w'.cell? ⟨w.heap.size, 5, none⟩ = some (.int .u16 frag) ∧ w'.cell? ⟨w.heap.size, 6, none⟩ = some (.int .u8 ttl) ∧ w'.cell? ⟨w.heap.size, 7, none⟩ = some (.int .u8 proto) ∧ w'.cell? ⟨w.heap.size, 16, none⟩ = some (.slice A n c) ∧ (convert 22 9 (.slice (some ⟨w.heap.size, 8, none⟩) 4 4)).run Try.prog w' = .ok (.string (strOfNums [s0, s1, s2, s3])) w' ∧ (convert 22 9 (.slice (some ⟨w.heap.size, 12, none⟩) 4 4)).run Try.prog w' = .ok (.string (strOfNums [d0, d1, d2, d3])) w' ∧ (convert 22 9 (.slice A n c)).run Try.prog w' = .ok (.string (strOfNums o)) w') (first | exact HS.out _) (fail)
  go_wp2
  refine bodyPost_ret (v := .agg #[.int .u8 tos, .int .u16 total, .int .u16 id, .bool df, .bool mf, .int .u16 frag, .int .u8 ttl, .int .u8 proto, .string (strOfNums [s0, s1, s2, s3]), .string (strOfNums [d0, d1, d2, d3]), .string (strOfNums o)]) (by simp [results, Try.results11, go_sem]) rfl ⟨rfl, ?_⟩
  exact below_drew (below_alloc2 w _ _)
end Go.Proofs.Ytknpaihlnkcpgaa.Own
/- octroiref05.Parse on rows that it refuses at once. -/
set_option linter.unusedVariables false
set_option linter.unusedSimpArgs false
namespace Go.Proofs.Ytknpaihlnkcpgaa.Own
open Go.RowKit Go.Proofs.YtknpaihlnkcpgaaW.PrintWords Go.Proofs.YtknpaihlnkcpgaaW.PrintLast Go.Proofs.YtknpaihlnkcpgaaW.PrintMore
attribute [local go_sem ↓] ld11 sv_rh
attribute [local go_sem] run_sv_rh gv_some isV_some pick2_true stc nfz_false oc1_int oc1_bool oc1_string oc1_slice oc1_pointer oc1_func pick1_true setCells_new setCells_past setCells_drew

/-- the reference's header that is nothing -/
abbrev noRh : Value := .agg (rcs zHd ⟨#[]⟩ ⟨#[]⟩ ⟨#[]⟩)
theorem no_cells (w : World) : ((w.alloc (.cells #[.int .u8 0, .int .u16 0, .int .u16 0, .bool false, .bool false, .int .u16 0, .int .u8 0, .int .u8 0, .string ⟨#[]⟩, .string ⟨#[]⟩, .string ⟨#[]⟩] 41)).alloc (.cells #[.int .u8 0, .int .u16 0, .int .u16 0, .bool false, .bool false, .int .u16 0, .int .u8 0, .int .u8 0, .string ⟨#[]⟩, .string ⟨#[]⟩, .string ⟨#[]⟩] 41)).cell? ⟨w.heap.size, 0, none⟩ = some (.int .u8 0) ∧ ((w.alloc (.cells #[.int .u8 0, .int .u16 0, .int .u16 0, .bool false, .bool false, .int .u16 0, .int .u8 0, .int .u8 0, .string ⟨#[]⟩, .string ⟨#[]⟩, .string ⟨#[]⟩] 41)).alloc (.cells #[.int .u8 0, .int .u16 0, .int .u16 0, .bool false, .bool false, .int .u16 0, .int .u8 0, .int .u8 0, .string ⟨#[]⟩, .string ⟨#[]⟩, .string ⟨#[]⟩] 41)).cell? ⟨w.heap.size, 1, none⟩ = some (.int .u16 0) ∧ ((w.alloc (.cells #[.int .u8 0, .int .u16 0, .int .u16 0, .bool false, .bool false, .int .u16 0, .int .u8 0, .int .u8 0, .string ⟨#[]⟩, .string ⟨#[]⟩, .string ⟨#[]⟩] 41)).alloc (.cells #[.int .u8 0, .int .u16 0, .int .u16 0, .bool false, .bool false, .int .u16 0, .int .u8 0, .int .u8 0, .string ⟨#[]⟩, .string ⟨#[]⟩, .string ⟨#[]⟩] 41)).cell? ⟨w.heap.size, 2, none⟩ = some (.int .u16 0) ∧ ((w.alloc (.cells #[.int .u8 0, .int .u16 0, .int .u16 0, .bool false, .bool false, .int .u16 0, .int .u8 0, .int .u8 0, .string ⟨#[]⟩, .string ⟨#[]⟩, .string ⟨#[]⟩] 41)).alloc (.cells #[.int .u8 0, .int .u16 0, .int .u16 0, .bool false, .bool false, .int .u16 0, .int .u8 0, .int .u8 0, .string ⟨#[]⟩, .string ⟨#[]⟩, .string ⟨#[]⟩] 41)).cell? ⟨w.heap.size, 3, none⟩ = some (.bool false) ∧ ((w.alloc (.cells #[.int .u8 0, .int .u16 0, .int .u16 0, .bool false, .bool false, .int .u16 0, .int .u8 0, .int .u8 0, .string ⟨#[]⟩, .string ⟨#[]⟩, .string ⟨#[]⟩] 41)).alloc (.cells #[.int .u8 0, .int .u16 0, .int .u16 0, .bool false, .bool false, .int .u16 0, .int .u8 0, .int .u8 0, .string ⟨#[]⟩, .string ⟨#[]⟩, .string ⟨#[]⟩] 41)).cell? ⟨w.heap.size, 4, none⟩ = some (.bool false) ∧ ((w.alloc (.cells #[.int .u8 0, .int .u16 0, .int .u16 0, .bool false, .bool false, .int .u16 0, .int .u8 0, .int .u8 0, .string ⟨#[]⟩, .string ⟨#[]⟩, .string ⟨#[]⟩] 41)).alloc (.cells #[.int .u8 0, .int .u16 0, .int .u16 0, .bool false, .bool false, .int .u16 0, .int .u8 0, .int .u8 0, .string ⟨#[]⟩, .string ⟨#[]⟩, .string ⟨#[]⟩] 41)).cell? ⟨w.heap.size, 5, none⟩ = some (.int .u16 0) ∧ ((w.alloc (.cells #[.int .u8 0, .int .u16 0, .int .u16 0, .bool false, .bool false, .int .u16 0, .int .u8 0, .int .u8 0, .string ⟨#[]⟩, .string ⟨#[]⟩, .string ⟨#[]⟩] 41)).alloc (.cells #[.int .u8 0, .int .u16 0, .int .u16 0, .bool false, .bool false, .int .u16 0, .int .u8 0, .int .u8 0, .string ⟨#[]⟩, .string ⟨#[]⟩, .string ⟨#[]⟩] 41)).cell? ⟨w.heap.size, 6, none⟩ = some (.int .u8 0) ∧ ((w.alloc (.cells #[.int .u8 0, .int .u16 0, .int .u16 0, .bool false, .bool false, .int .u16 0, .int .u8 0, .int .u8 0, .string ⟨#[]⟩, .string ⟨#[]⟩, .string ⟨#[]⟩] 41)).alloc (.cells #[.int .u8 0, .int .u16 0, .int .u16 0, .bool false, .bool false, .int .u16 0, .int .u8 0, .int .u8 0, .string ⟨#[]⟩, .string ⟨#[]⟩, .string ⟨#[]⟩] 41)).cell? ⟨w.heap.size, 7, none⟩ = some (.int .u8 0) ∧ ((w.alloc (.cells #[.int .u8 0, .int .u16 0, .int .u16 0, .bool false, .bool false, .int .u16 0, .int .u8 0, .int .u8 0, .string ⟨#[]⟩, .string ⟨#[]⟩, .string ⟨#[]⟩] 41)).alloc (.cells #[.int .u8 0, .int .u16 0, .int .u16 0, .bool false, .bool false, .int .u16 0, .int .u8 0, .int .u8 0, .string ⟨#[]⟩, .string ⟨#[]⟩, .string ⟨#[]⟩] 41)).cell? ⟨w.heap.size, 8, none⟩ = some (.string ⟨#[]⟩) ∧ ((w.alloc (.cells #[.int .u8 0, .int .u16 0, .int .u16 0, .bool false, .bool false, .int .u16 0, .int .u8 0, .int .u8 0, .string ⟨#[]⟩, .string ⟨#[]⟩, .string ⟨#[]⟩] 41)).alloc (.cells #[.int .u8 0, .int .u16 0, .int .u16 0, .bool false, .bool false, .int .u16 0, .int .u8 0, .int .u8 0, .string ⟨#[]⟩, .string ⟨#[]⟩, .string ⟨#[]⟩] 41)).cell? ⟨w.heap.size, 9, none⟩ = some (.string ⟨#[]⟩) ∧ ((w.alloc (.cells #[.int .u8 0, .int .u16 0, .int .u16 0, .bool false, .bool false, .int .u16 0, .int .u8 0, .int .u8 0, .string ⟨#[]⟩, .string ⟨#[]⟩, .string ⟨#[]⟩] 41)).alloc (.cells #[.int .u8 0, .int .u16 0, .int .u16 0, .bool false, .bool false, .int .u16 0, .int .u8 0, .int .u8 0, .string ⟨#[]⟩, .string ⟨#[]⟩, .string ⟨#[]⟩] 41)).cell? ⟨w.heap.size, 10, none⟩ = some (.string ⟨#[]⟩) := by
  have hbx := ((below_alloc1 (w.alloc (.cells (rcs zHd ⟨#[]⟩ ⟨#[]⟩ ⟨#[]⟩) 41)) (.cells (rcs zHd ⟨#[]⟩ ⟨#[]⟩ ⟨#[]⟩) 41)).block w.heap.size (by simp)).trans (heap_alloc_new w (.cells (rcs zHd ⟨#[]⟩ ⟨#[]⟩ ⟨#[]⟩) 41))
  have hc := rh_cells hbx
  simp only [rcs] at hc
  exact hc
set_option maxRecDepth 100000 in
theorem rparse_short (A : Option Addr) (n c : Nat) (w : World) (hn : n < 20) :
    Calls Try.prog 22 #[.slice A n c] w fun e w' => e = .returned (.tuple #[noRh, .int .i64 0, .int .i64 10]) ∧ Below w.heap.size w w' := by
  have HC := Aside0.mk (no_cells w)
  go_enter Try.func22, Try.ntmps22
  go_wp2
  refine bodyPost_ret (v := .tuple #[noRh, .int .i64 0, .int .i64 10]) ?_ rfl ⟨rfl, below_alloc2 w _ _⟩
  simp [results, Try.results22, go_sem, HC.out]
set_option maxRecDepth 100000 in
theorem rparse_early (b : List Int) (A : Option Addr) (n c : Nat) (w : World) (k : Int) (hC : Kd.C (Kd.int .u8) w A n b) (hb : bytes b) (hn : 20 ≤ n)
    (h : (k = 50 ∧ b.getD 0 0 / 16 ≠ 4) ∨ (k = 51 ∧ b.getD 0 0 / 16 = 4 ∧ b.getD 0 0 % 16 * 4 < 20) ∨ (k = 10 ∧ b.getD 0 0 / 16 = 4 ∧ ¬ b.getD 0 0 % 16 * 4 < 20 ∧ (n : Int) < b.getD 0 0 % 16 * 4)) :
    Calls Try.prog 22 #[.slice A n c] w fun e w' => e = .returned (.tuple #[noRh, .int .i64 0, .int .i64 k]) ∧ Below w.heap.size w w' := by
  obtain ⟨ad, rfl, hx⟩ := Kd.at_int hC 0 (by omega) (by omega)
  have e0 : ad.add (0 : Int).toNat = ad := Addr.add_zero' ad
  have hx2 : w.cell? ad = some (.int .u8 (b.getD 0 0)) := by rw [e0] at hx; exact hx
  have hb0 := bytes_getD hb 0
  obtain ⟨x, ex⟩ : ∃ x, b.getD 0 0 = x := ⟨_, rfl⟩
  rw [ex] at hx2 hb0 h
  obtain ⟨xa, xb⟩ := hb0
  have hx3 := pw_cell_below (below_alloc2 w (.cells (rcs zHd ⟨#[]⟩ ⟨#[]⟩ ⟨#[]⟩) 41) (.cells (rcs zHd ⟨#[]⟩ ⟨#[]⟩ ⟨#[]⟩) 41)) hx2
  simp only [rcs] at hx3
  have HC := Aside0.mk (no_cells w)
  clear hC hx e0 ex hb
  rcases h with ⟨rfl, h⟩ | ⟨rfl, h, h2⟩ | ⟨rfl, h, h2, h3⟩
  · have hneq : (x / 16 != 4) = true := by simpa using h
    clear h
    go_enter Try.func22, Try.ntmps22
    go_wp2
    refine bodyPost_ret (v := .tuple #[noRh, .int .i64 0, .int .i64 50]) ?_ rfl ⟨rfl, below_alloc2 w _ _⟩
    simp [results, Try.results22, go_sem, HC.out]
  · have hneq : (x / 16 != 4) = false := by rw [h]; rfl
    clear h
    go_enter Try.func22, Try.ntmps22
    go_wp2
    refine bodyPost_ret (v := .tuple #[noRh, .int .i64 0, .int .i64 51]) ?_ rfl ⟨rfl, below_alloc2 w _ _⟩
    simp [results, Try.results22, go_sem, HC.out]
  · have hneq : (x / 16 != 4) = false := by rw [h]; rfl
    clear h
    go_enter Try.func22, Try.ntmps22
    go_wp2
    refine bodyPost_ret (v := .tuple #[noRh, .int .i64 0, .int .i64 10]) ?_ rfl ⟨rfl, below_alloc2 w _ _⟩
    simp [results, Try.results22, go_sem, HC.out]
end Go.Proofs.Ytknpaihlnkcpgaa.Own
/- Single bits of a word: told by a mask, or by a quotient. -/
set_option linter.unusedVariables false
set_option linter.unusedSimpArgs false
namespace Go.Proofs.Ytknpaihlnkcpgaa.Own
open Go.RowKit Go.Proofs.YtknpaihlnkcpgaaW.PrintWords Go.Proofs.YtknpaihlnkcpgaaW.PrintLast Go.Proofs.YtknpaihlnkcpgaaW.PrintMore

theorem u16_bit (x : Int) (i : Nat) (hi : i < 16) (h0 : 0 ≤ x) (h1 : x ≤ 65535) : (0 < bits .and .u16 x ((2 ^ i : Nat) : Int)) ↔ x / ((2 ^ i : Nat) : Int) % 2 = 1 := by
  obtain ⟨a, rfl⟩ := Int.eq_ofNat_of_zero_le h0
  have ha : a < 2 ^ 16 := by omega
  have hp : 2 ^ i < 2 ^ 16 := Nat.pow_lt_pow_right (by decide) hi
  rw [(bits_nat .u16 16 (by decide) wraps_u16 a (2 ^ i) ha hp).1]
  have h3 := and_two_pow_eq_zero (a : Int) i (Int.natCast_nonneg _)
  rw [Int.toNat_natCast, toNat_two_pow] at h3
  have h4 : ((2 ^ i : Nat) : Int) = (2 : Int) ^ i := by simp
  rw [h4]
  constructor
  · intro h
    apply Classical.byContradiction
    intro hn
    have := h3.2 hn
    omega
  · intro h
    have : a &&& 2 ^ i ≠ 0 := fun h5 => (h3.1 h5) h
    omega
theorem u16_bit15 (x : Int) (h0 : 0 ≤ x) (h1 : x ≤ 65535) : (0 < bits .and .u16 x 32768) ↔ 32768 ≤ x := by
  refine (u16_bit x 15 (by decide) h0 h1).trans ?_
  show x / 32768 % 2 = 1 ↔ _
  omega
theorem u16_bit14 (x : Int) (h0 : 0 ≤ x) (h1 : x ≤ 65535) : (0 < bits .and .u16 x 16384) ↔ x / 16384 % 2 = 1 := u16_bit x 14 (by decide) h0 h1
theorem u16_bit13 (x : Int) (h0 : 0 ≤ x) (h1 : x ≤ 65535) : (0 < bits .and .u16 x 8192) ↔ x / 8192 % 2 = 1 := u16_bit x 13 (by decide) h0 h1
theorem u16_low13 (x : Int) (h0 : 0 ≤ x) (h1 : x ≤ 65535) : bits .and .u16 x 8191 = x % 8192 := bits_mask .u16 16 (by decide) wraps_u16 13 (by decide) x h0 (by omega)
end Go.Proofs.Ytknpaihlnkcpgaa.Own
/- octroiref05.Parse on rows that pass the first checks (UNDER WAY: does not build yet). -/
set_option linter.unusedVariables false
set_option linter.unusedSimpArgs false
namespace Go.Proofs.Ytknpaihlnkcpgaa.Own
open Go.RowKit Go.Proofs.YtknpaihlnkcpgaaW.PrintWords Go.Proofs.YtknpaihlnkcpgaaW.PrintLast Go.Proofs.YtknpaihlnkcpgaaW.PrintMore
attribute [local go_sem ↓] ld11 sv_rh
attribute [local go_sem] run_sv_rh gv_some isV_some pick2_true stc nfz_false oc1_int oc1_bool oc1_string oc1_slice oc1_pointer oc1_func pick1_true setCells_new setCells_past setCells_drew

theorem rwhole_at (b : List Int) (A : Option Addr) (n c : Nat) (w : World) (hr : Kd.C (Kd.int .u8) w A n b) (hb : bytes b) (hn : b.length ≤ 1048576) :
    Calls Try.prog 44 #[.slice A n c] w fun e w' => e = .returned (.bool (wholeB b)) ∧ Below w.heap.size w w' := by
  obtain rfl := hr.1
  exact rwhole_any b A c w hr hb hn
/-- the cells as a list -/
abbrev rls (h : Hd) (S D O : ByteArray) : List Value := [.int .u8 h.tos, .int .u16 h.total, .int .u16 h.id, .bool h.df, .bool h.mf, .int .u16 h.frag, .int .u8 h.ttl, .int .u8 h.proto, .string S, .string D, .string O]
theorem rh_put {w : World} {b t : Nat} {h0 : Hd} {S0 D0 O0 : ByteArray} {h : Hd} {S D O : ByteArray} (hb : w.heap[b]? = some (.cells (rcs h0 S0 D0 O0) t (0, 0))) : (w.setCells b 0 (rls h S D O)).heap[b]? = some (.cells (rcs h S D O) t (0, 0)) := blk_setCells hb rfl
/-- the reference's header that stands there -/
abbrev rdocOf (b : List Int) (N : Nat) : Array Value := rcs (hdOf b) (strOfNums ((b.take 16).drop 12)) (strOfNums ((b.take 20).drop 16)) (strOfNums ((b.take N).drop 20))
set_option maxRecDepth 100000 in
set_option maxHeartbeats 4000000 in
theorem rparse_main (b : List Int) (A : Option Addr) (n c N : Nat) (w : World) (hC : Kd.C (Kd.int .u8) w A n b) (hc : n ≤ c) (hb : bytes b) (hn : n ≤ 1000000) (h0 : b.getD 0 0 / 16 = 4) (hN : (N : Int) = b.getD 0 0 % 16 * 4) (hN20 : 20 ≤ N) (hNn : N ≤ n) :
    Calls Try.prog 22 #[.slice A n c] w fun e w' => (mainC b N = 0 → e = .returned (.tuple #[.agg (rdocOf b N), .int .i64 N, .int .i64 0])) ∧ (mainC b N ≠ 0 → e = .returned (.tuple #[noRh, .int .i64 0, .int .i64 (mainC b N)])) ∧ Below w.heap.size w w' := by
  have hln := hC.1
  obtain ⟨PO, ePO⟩ : ∃ PO : Ending → World → Prop, PO = fun e w' => (mainC b N = 0 → e = .returned (.tuple #[.agg (rdocOf b N), .int .i64 N, .int .i64 0])) ∧ (mainC b N ≠ 0 → e = .returned (.tuple #[noRh, .int .i64 0, .int .i64 (mainC b N)])) ∧ Below w.heap.size w w' := ⟨_, rfl⟩
  rw [← ePO]
  have HPO := Aside0.mk ePO
  have HW2 : Aside0 (∀ W, Below w.heap.size w W → Calls Try.prog 43 #[.slice A n c, .int .i64 2, .int .i64 2] W fun e w' => e = .returned (.tuple #[.int .u64 (w16 b 2), .int .i64 0]) ∧ W = w') := ⟨fun W hW => rget2_any b A n c 2 W (Kd.C_below hC hW) hb (by omega) hn⟩
  have HW4 : Aside0 (∀ W, Below w.heap.size w W → Calls Try.prog 43 #[.slice A n c, .int .i64 4, .int .i64 2] W fun e w' => e = .returned (.tuple #[.int .u64 (w16 b 4), .int .i64 0]) ∧ W = w') := ⟨fun W hW => rget2_any b A n c 4 W (Kd.C_below hC hW) hb (by omega) hn⟩
  have HW6 : Aside0 (∀ W, Below w.heap.size w W → Calls Try.prog 43 #[.slice A n c, .int .i64 6, .int .i64 2] W fun e w' => e = .returned (.tuple #[.int .u64 (w16 b 6), .int .i64 0]) ∧ W = w') := ⟨fun W hW => rget2_any b A n c 6 W (Kd.C_below hC hW) hb (by omega) hn⟩
  obtain ⟨T4, m4, hcut4, hrd4, hmc4, hT4, hm4⟩ := cut_take A n c b N hln (by omega) (by omega) hc
  have HWH := Aside0.mk (fun W (hW : Below w.heap.size w W) => rwhole_at T4 A m4 c W (Kd.C_below (hrd4 w hC) hW) (by rw [hT4]; exact bytes_take hb _) (by rw [hT4, List.length_take]; omega))
  obtain ⟨ad, rfl, hx⟩ := Kd.at_int hC 0 (by omega) (by omega)
  have e0 : ad.add (0 : Int).toNat = ad := Addr.add_zero' ad
  have hx2 : w.cell? ad = some (.int .u8 (b.getD 0 0)) := by rw [e0] at hx; exact hx
  have hb0 := bytes_getD hb 0
  obtain ⟨x, ex⟩ : ∃ x, b.getD 0 0 = x := ⟨_, rfl⟩
  rw [ex] at hx2 hb0 h0 hN
  obtain ⟨xa, xb⟩ := hb0
  have hx3 := pw_cell_below (below_alloc2 w (.cells (rcs zHd ⟨#[]⟩ ⟨#[]⟩ ⟨#[]⟩) 41) (.cells (rcs zHd ⟨#[]⟩ ⟨#[]⟩ ⟨#[]⟩) 41)) hx2
  simp only [rcs] at hx3
  have HC := Aside0.mk (no_cells w)
  have hneq : (x / 16 != 4) = false := by rw [h0]; rfl
  have hxN : x % 16 * 4 = (N : Int) := by omega
  have hN1 : ¬ (N : Int) < 20 := by omega
  have hN2 : ¬ (n : Int) < N := by omega
  obtain ⟨T5, A5, m5, q5, hcut5, hrd5, hmc5, hT5, hm5⟩ := cut_mid (some ad) n c b 12 16 hln (by omega) (by omega) (by omega) hc
  obtain ⟨T6, A6, m6, q6, hcut6, hrd6, hmc6, hT6, hm6⟩ := cut_mid (some ad) n c b 16 20 hln (by omega) (by omega) (by omega) hc
  obtain ⟨T7, A7, m7, q7, hcut7, hrd7, hmc7, hT7, hm7⟩ := cut_mid (some ad) n c b 20 N hln (by omega) (by omega) (by omega) hc
  obtain ⟨S5, eS5⟩ : ∃ v, strOfNums T5 = v := ⟨_, rfl⟩
  obtain ⟨S6, eS6⟩ : ∃ v, strOfNums T6 = v := ⟨_, rfl⟩
  obtain ⟨S7, eS7⟩ : ∃ v, strOfNums T7 = v := ⟨_, rfl⟩
  have hcell : ∀ i : Nat, i < n → w.cell? (ad.add i) = some (.int .u8 (b.getD i 0)) := fun i hi => by
    obtain ⟨ad', e', hx⟩ := Kd.at_int hC i (by omega) (by omega)
    cases e'
    exact hx
  have hmk : ∀ W', Below w.heap.size w W' → Below w.heap.size w W' ∧ W'.cell? { block := ad.block, off := ad.off + 1 } = some (.int .u8 (b.getD 1 0)) ∧ W'.cell? { block := ad.block, off := ad.off + 8 } = some (.int .u8 (b.getD 8 0)) ∧ W'.cell? { block := ad.block, off := ad.off + 9 } = some (.int .u8 (b.getD 9 0)) ∧ (convert 22 9 (.slice A5 m5 q5)).run Try.prog W' = .ok (.string S5) W' ∧ (convert 22 9 (.slice A6 m6 q6)).run Try.prog W' = .ok (.string S6) W' ∧ (convert 22 9 (.slice A7 m7 q7)).run Try.prog W' = .ok (.string S7) W' := fun W' hW => by
    rw [← eS5, ← eS6, ← eS7]
    exact ⟨hW, pw_cell_below hW (hcell 1 (by omega)), pw_cell_below hW (hcell 8 (by omega)), pw_cell_below hW (hcell 9 (by omega)),
      Kd.C_string (c := q5) Try.underlying22 Try.underlying5 Try.underlying9 (Kd.C_below (hrd5 w hC) hW),
      Kd.C_string (c := q6) Try.underlying22 Try.underlying5 Try.underlying9 (Kd.C_below (hrd6 w hC) hW),
      Kd.C_string (c := q7) Try.underlying22 Try.underlying5 Try.underlying9 (Kd.C_below (hrd7 w hC) hW)⟩
  obtain ⟨b1, eb1⟩ : ∃ v, b.getD 1 0 = v := ⟨_, rfl⟩
  obtain ⟨b8, eb8⟩ : ∃ v, b.getD 8 0 = v := ⟨_, rfl⟩
  obtain ⟨b9, eb9⟩ : ∃ v, b.getD 9 0 = v := ⟨_, rfl⟩
  rw [eb1, eb8, eb9] at hmk
  have HMK := Aside0.mk hmk
  have HE := Aside0.mk (And.intro eb1 (And.intro eb8 eb9))
  have HS := Aside0.mk (And.intro eS5 (And.intro eS6 eS7))
  have HT := Aside0.mk (And.intro hT5 (And.intro hT6 hT7))
  clear hmk hcell eb1 eb8 eb9 eS5 eS6 eS7 hT5 hT6 hT7 hrd5 hrd6 hrd7 hm5 hm6 hm7
  have HCC := Aside0.mk hC
  have r6 := w16_range hb 6
  have r2 := w16_range hb 2
  have r4 := w16_range hb 4
  obtain ⟨fr, efr⟩ : ∃ v, w16 b 6 = v := ⟨_, rfl⟩
  obtain ⟨tt, ett⟩ : ∃ v, w16 b 2 = v := ⟨_, rfl⟩
  obtain ⟨idd, eid⟩ : ∃ v, w16 b 4 = v := ⟨_, rfl⟩
  rw [efr] at HW6 r6
  rw [ett] at HW2 r2
  rw [eid] at HW4 r4
  have hbd : (0 < bits .and .u16 (w16 b 6) 32768 ∨ w16 b 2 < N) ↔ (32768 ≤ fr ∨ tt < N) := by rw [efr, ett, u16_bit15 fr r6.1 r6.2]
  have hp51 : (32768 ≤ fr ∨ tt < N) → ∀ w', Below w.heap.size w w' → PO (.returned (.tuple #[noRh, .int .i64 0, .int .i64 51])) w' := fun h w' hw => by
    have hm : mainC b N = 51 := by unfold mainC; rw [if_pos (hbd.2 h)]
    rw [ePO, hm]
    exact ⟨fun h => absurd h (by decide), fun _ => rfl, hw⟩
  have hp52 : ¬ (32768 ≤ fr ∨ tt < N) → wholeB T4 = false → ∀ w', Below w.heap.size w w' → PO (.returned (.tuple #[noRh, .int .i64 0, .int .i64 52])) w' := fun h h2 w' hw => by
    have hm : mainC b N = 52 := by
      unfold mainC
      rw [if_neg (fun h3 => h (hbd.1 h3)), show b.take N = T4 by rw [hT4]; rfl, h2]
      rfl
    rw [ePO, hm]
    exact ⟨fun h => absurd h (by decide), fun _ => rfl, hw⟩
  have HP52 := Aside0.mk hp52
  clear hp52
  have HP51 := Aside0.mk hp51
  clear hp51
  have HBD := Aside0.mk hbd
  clear hbd
  have EF := Aside0.mk efr
  have ET := Aside0.mk ett
  have EI := Aside0.mk eid
  obtain ⟨r6a, r6b⟩ := r6
  obtain ⟨r2a, r2b⟩ := r2
  obtain ⟨r4a, r4b⟩ := r4
  clear efr ett eid
  have HP0 : Aside0 (¬ (32768 ≤ fr ∨ tt < N) → wholeB T4 = true → ∀ w', Below w.heap.size w w' → PO (.returned (.tuple #[.agg (rcs ⟨b1, IntKind.u16.wrap tt, IntKind.u16.wrap idd, ((IntKind.u64.wrap (fr.tdiv 16384)).tmod 2 == 1), ((IntKind.u64.wrap (fr.tdiv 8192)).tmod 2 == 1), IntKind.u16.wrap (fr.tmod 8192), b8, b9, 0, 0, 0, 0, 0, 0, 0, 0⟩ S5 S6 S7), .int .i64 N, .int .i64 0])) w') := ⟨fun h h2 w' hw => by
    have hm : mainC b N = 0 := by
      unfold mainC
      rw [if_neg (fun h3 => h (HBD.out.1 h3)), show b.take N = T4 by rw [hT4]; rfl, h2]
      rfl
    have q1 : IntKind.u16.wrap tt = tt := IntWalk.u16_in _ (by omega)
    have q2 : IntKind.u16.wrap idd = idd := IntWalk.u16_in _ (by omega)
    have q3 : ((IntKind.u64.wrap (fr.tdiv 16384)).tmod 2 == 1) = decide (0 < bits .and .u16 fr 16384) := by
      rw [Bool.eq_iff_iff, beq_iff_eq, decide_eq_true_iff, u16_bit14 fr r6a r6b, Int.tdiv_eq_ediv_of_nonneg r6a, IntWalk.u64_in _ (by omega), Int.tmod_eq_emod_of_nonneg (by omega)]
    have q4 : ((IntKind.u64.wrap (fr.tdiv 8192)).tmod 2 == 1) = decide (0 < bits .and .u16 fr 8192) := by
      rw [Bool.eq_iff_iff, beq_iff_eq, decide_eq_true_iff, u16_bit13 fr r6a r6b, Int.tdiv_eq_ediv_of_nonneg r6a, IntWalk.u64_in _ (by omega), Int.tmod_eq_emod_of_nonneg (by omega)]
    have q5 : IntKind.u16.wrap (fr.tmod 8192) = bits .and .u16 fr 8191 := by
      rw [u16_low13 fr r6a r6b, Int.tmod_eq_emod_of_nonneg r6a, IntWalk.u16_in _ (by omega)]
    have z5 : strOfNums ((b.take 16).drop 12) = S5 := by rw [← HS.out.1, HT.out.1]; rfl
    have z6 : strOfNums ((b.take 20).drop 16) = S6 := by rw [← HS.out.2.1, HT.out.2.1]; rfl
    have z7 : strOfNums ((b.take N).drop 20) = S7 := by rw [← HS.out.2.2, HT.out.2.2]; rfl
    have hd : rdocOf b N = rcs ⟨b1, IntKind.u16.wrap tt, IntKind.u16.wrap idd, ((IntKind.u64.wrap (fr.tdiv 16384)).tmod 2 == 1), ((IntKind.u64.wrap (fr.tdiv 8192)).tmod 2 == 1), IntKind.u16.wrap (fr.tmod 8192), b8, b9, 0, 0, 0, 0, 0, 0, 0, 0⟩ S5 S6 S7 := by
      simp only [rdocOf, rcs, hdOf, HE.out.1, HE.out.2.1, HE.out.2.2, EF.out, ET.out, EI.out, q1, q2, q3, q4, q5, z5, z6, z7]
    rw [ePO, hm, hd]
    exact ⟨fun _ => rfl, fun h3 => absurd rfl h3, hw⟩⟩
  clear hC hx hx2 e0 ex hb hln h0 hN hT4 hm4 hrd4 ePO
  go_enter Try.func22, Try.ntmps22
  by_cases hbad : 32768 ≤ fr
  · go_wp2_with (first | (with_reducible refine (HW2.out _ (below_alloc2 w _ _)).mono ?_; rintro e w4 ⟨rfl, rfl⟩) | (with_reducible refine (HW4.out _ (below_alloc2 w _ _)).mono ?_; rintro e w4 ⟨rfl, rfl⟩) | (with_reducible refine (HW6.out _ (below_alloc2 w _ _)).mono ?_; rintro e w4 ⟨rfl, rfl⟩))
    refine bodyPost_ret (v := .tuple #[noRh, .int .i64 0, .int .i64 51]) ?_ rfl (HP51.out (Or.inl (by assumption)) _ (below_alloc2 w _ _))
    simp [results, Try.results22, go_sem, HC.out]
  · by_cases htn : tt < N
    · go_wp2_with (first | (with_reducible refine (HW2.out _ (below_alloc2 w _ _)).mono ?_; rintro e w4 ⟨rfl, rfl⟩) | (with_reducible refine (HW4.out _ (below_alloc2 w _ _)).mono ?_; rintro e w4 ⟨rfl, rfl⟩) | (with_reducible refine (HW6.out _ (below_alloc2 w _ _)).mono ?_; rintro e w4 ⟨rfl, rfl⟩))
      refine bodyPost_ret (v := .tuple #[noRh, .int .i64 0, .int .i64 51]) ?_ rfl (HP51.out (Or.inr (by assumption)) _ (below_alloc2 w _ _))
      simp [results, Try.results22, go_sem, HC.out]
    · go_wp2_with (first | (with_reducible refine (HW2.out _ (below_alloc2 w _ _)).mono ?_; rintro e w4 ⟨rfl, rfl⟩) | (with_reducible refine (HW4.out _ (below_alloc2 w _ _)).mono ?_; rintro e w4 ⟨rfl, rfl⟩) | (with_reducible refine (HW6.out _ (below_alloc2 w _ _)).mono ?_; rintro e w4 ⟨rfl, rfl⟩))
      refine (HWH.out _ (below_alloc2 w _ _)).mono ?_
      rintro e w5 ⟨rfl, hb5⟩
      dsimp only
      have hs1 : (w.alloc (.cells (rcs zHd ⟨#[]⟩ ⟨#[]⟩ ⟨#[]⟩) 41)).heap.size = w.heap.size + 1 := by simp
      have hs2 : ((w.alloc (.cells (rcs zHd ⟨#[]⟩ ⟨#[]⟩ ⟨#[]⟩) 41)).alloc (.cells (rcs zHd ⟨#[]⟩ ⟨#[]⟩ ⟨#[]⟩) 41)).heap.size = w.heap.size + 2 := by simp
      have hz2 := (hb5.block w.heap.size (show _ < ((w.alloc (.cells (rcs zHd ⟨#[]⟩ ⟨#[]⟩ ⟨#[]⟩) 41)).alloc (.cells (rcs zHd ⟨#[]⟩ ⟨#[]⟩ ⟨#[]⟩) 41)).heap.size by omega)).trans (((below_alloc1 (w.alloc (.cells (rcs zHd ⟨#[]⟩ ⟨#[]⟩ ⟨#[]⟩) 41)) (.cells (rcs zHd ⟨#[]⟩ ⟨#[]⟩ ⟨#[]⟩) 41)).block w.heap.size (by omega)).trans (heap_alloc_new w (.cells (rcs zHd ⟨#[]⟩ ⟨#[]⟩ ⟨#[]⟩) 41)))
      have hz5 : w5.heap[w.heap.size + 1]? = some (.cells (rcs zHd ⟨#[]⟩ ⟨#[]⟩ ⟨#[]⟩) 41) := (hb5.block (w.heap.size + 1) (show _ < ((w.alloc (.cells (rcs zHd ⟨#[]⟩ ⟨#[]⟩ ⟨#[]⟩) 41)).alloc (.cells (rcs zHd ⟨#[]⟩ ⟨#[]⟩ ⟨#[]⟩) 41)).heap.size by omega)).trans (by rw [← hs1]; exact heap_alloc_new (w.alloc (.cells (rcs zHd ⟨#[]⟩ ⟨#[]⟩ ⟨#[]⟩) 41)) (.cells (rcs zHd ⟨#[]⟩ ⟨#[]⟩ ⟨#[]⟩) 41))
      have HB5 := Aside0.mk (below_then (below_alloc2 w (.cells (rcs zHd ⟨#[]⟩ ⟨#[]⟩ ⟨#[]⟩) 41) (.cells (rcs zHd ⟨#[]⟩ ⟨#[]⟩ ⟨#[]⟩) 41)) (show _ ≤ ((w.alloc (.cells (rcs zHd ⟨#[]⟩ ⟨#[]⟩ ⟨#[]⟩) 41)).alloc (.cells (rcs zHd ⟨#[]⟩ ⟨#[]⟩ ⟨#[]⟩) 41)).heap.size by omega) hb5)
      clear hb5 hs1 hs2
      have HZ2 := Aside0.mk hz2
      have hfz := fz_new hz2
      obtain ⟨c0, c1, c2, c3, c4, c5, c6, c7, c8, c9, c10⟩ := rh_cells hz2
      obtain ⟨k0, k1, k2, k3, k4, k5, k6, k7, k8, k9, k10⟩ := rh_cells hz5
      dsimp only at c0 c1 c2 c3 c4 c5 c6 c7 c8 c9 c10 k0 k1 k2 k3 k4 k5 k6 k7 k8 k9 k10
      clear hz2 hz5
      cases hwb : wholeB T4 with
      | false =>
        go_upto_region 17 with fail
        iterate 6 (first | go_values | go_skip | go_guarded | go_step | go_upon | go_back)
        have hx6 := rh_put (h := zHd) (S := ⟨#[]⟩) (D := ⟨#[]⟩) (O := ⟨#[]⟩) HZ2.out
        have hb6 := below_setCells (vs := rls zHd ⟨#[]⟩ ⟨#[]⟩ ⟨#[]⟩) (i := 0) HB5.out (Nat.le_refl _)
        dsimp only [rls] at hx6 hb6
        clear c0 c1 c2 c3 c4 c5 c6 c7 c8 c9 c10 k0 k1 k2 k3 k4 k5 k6 k7 k8 k9 k10 hfz
        generalize World.setCells _ _ _ _ = w6 at hx6 hb6 ⊢
        have hc6 := rh_cells hx6
        dsimp only at hc6
        go_wp2
        refine bodyPost_ret (v := .tuple #[noRh, .int .i64 0, .int .i64 52]) ?_ rfl (HP52.out (not_or.2 ⟨by omega, by omega⟩) hwb _ hb6)
        simp [results, Try.results22, go_sem, hc6]
      | true =>
        have hi1 : (1 : Int) < (n : Int) := by omega
        have hi8 : (8 : Int) < (n : Int) := by omega
        have hi9 : (9 : Int) < (n : Int) := by omega
        go_upto_region 18 with fail
        refine wp_region_noPanic ?_
        refine wp_region_plan (fun W' => Below w.heap.size w W' ∧ W'.cell? { block := ad.block, off := ad.off + 1 } = some (.int .u8 b1) ∧ W'.cell? { block := ad.block, off := ad.off + 8 } = some (.int .u8 b8) ∧ W'.cell? { block := ad.block, off := ad.off + 9 } = some (.int .u8 b9) ∧ (convert 22 9 (.slice A5 m5 q5)).run Try.prog W' = .ok (.string S5) W' ∧ (convert 22 9 (.slice A6 m6 q6)).run Try.prog W' = .ok (.string S6) W' ∧ (convert 22 9 (.slice A7 m7 q7)).run Try.prog W' = .ok (.string S7) W') (.q 0 (.q 1 (.q 2 (.q 3 (.q 4 (.q 5 (.q 6 (.q 7 (.q 8 (.q 9 (.q 10 (.q 11 (.q 12 (.q 13 (.q 14 (.q 15 (.q 16 (.q 17 (.q 18 (.q 19 (.q 20 (.q 21 (.q 22 (.q 23 (.q 24 (.q 25 (.q 26 (.q 27 (.q 28 (.q 29 (.q 30 (.q 31 (.q 32 (.q 33 (.q 34 (.q 35 (.e 36 (.q 37 (.q 38 .done))))))))))))))))))))))))))))))))))))))) (by kernel_rfl) (by kernel_rfl) (fun _ _ _ _ _ h => h) (by kernel_rfl) (by kernel_rfl) (HMK.out _ (below_drew HB5.out)) ?_
        refine plan_val (o := ?_) (v := ?_) ?_ ?_ (fun w' hSw => ?_) ?_
        rotate_left 2
        focus ((simp only [List.getElem?_toArray, List.getElem?_cons_succ, List.getElem?_cons_zero]); try with_reducible rfl)
        focus rfl
        focus ((try dsimp only at hSw); go_simp; try with_reducible rfl)
        try simp only [Act.put, List.setIfInBounds_toArray, List.set_cons_zero, List.set_cons_succ]
        refine plan_val (o := ?_) (v := ?_) ?_ ?_ (fun w' hSw => ?_) ?_
        rotate_left 2
        focus ((simp only [List.getElem?_toArray, List.getElem?_cons_succ, List.getElem?_cons_zero]); try with_reducible rfl)
        focus rfl
        focus ((try dsimp only at hSw); go_simp; try with_reducible rfl)
        try simp only [Act.put, List.setIfInBounds_toArray, List.set_cons_zero, List.set_cons_succ]
        refine plan_val (o := ?_) (v := ?_) ?_ ?_ (fun w' hSw => ?_) ?_
        rotate_left 2
        focus ((simp only [List.getElem?_toArray, List.getElem?_cons_succ, List.getElem?_cons_zero]); try with_reducible rfl)
        focus rfl
        focus ((try dsimp only at hSw); go_simp; try with_reducible rfl)
        try simp only [Act.put, List.setIfInBounds_toArray, List.set_cons_zero, List.set_cons_succ]
        refine plan_val (o := ?_) (v := ?_) ?_ ?_ (fun w' hSw => ?_) ?_
        rotate_left 2
        focus ((simp only [List.getElem?_toArray, List.getElem?_cons_succ, List.getElem?_cons_zero]); try with_reducible rfl)
        focus rfl
        focus ((try dsimp only at hSw); go_simp; try with_reducible rfl)
        try simp only [Act.put, List.setIfInBounds_toArray, List.set_cons_zero, List.set_cons_succ]
        refine plan_val (o := ?_) (v := ?_) ?_ ?_ (fun w' hSw => ?_) ?_
        rotate_left 2
        focus ((simp only [List.getElem?_toArray, List.getElem?_cons_succ, List.getElem?_cons_zero]); try with_reducible rfl)
        focus rfl
        focus ((try dsimp only at hSw); go_simp; try with_reducible rfl)
        try simp only [Act.put, List.setIfInBounds_toArray, List.set_cons_zero, List.set_cons_succ]
        refine plan_val (o := ?_) (v := ?_) ?_ ?_ (fun w' hSw => ?_) ?_
        rotate_left 2
        focus ((simp only [List.getElem?_toArray, List.getElem?_cons_succ, List.getElem?_cons_zero]); try with_reducible rfl)
        focus rfl
        focus ((try dsimp only at hSw); go_simp; try with_reducible rfl)
        try simp only [Act.put, List.setIfInBounds_toArray, List.set_cons_zero, List.set_cons_succ]
        refine plan_val (o := ?_) (v := ?_) ?_ ?_ (fun w' hSw => ?_) ?_
        rotate_left 2
        focus ((simp only [List.getElem?_toArray, List.getElem?_cons_succ, List.getElem?_cons_zero]); try with_reducible rfl)
        focus rfl
        focus ((try dsimp only at hSw); go_simp; try with_reducible rfl)
        try simp only [Act.put, List.setIfInBounds_toArray, List.set_cons_zero, List.set_cons_succ]
        refine plan_val (o := ?_) (v := ?_) ?_ ?_ (fun w' hSw => ?_) ?_
        rotate_left 2
        focus ((simp only [List.getElem?_toArray, List.getElem?_cons_succ, List.getElem?_cons_zero]); try with_reducible rfl)
        focus rfl
        focus ((try dsimp only at hSw); go_simp; try with_reducible rfl)
        try simp only [Act.put, List.setIfInBounds_toArray, List.set_cons_zero, List.set_cons_succ]
        refine plan_val (o := ?_) (v := ?_) ?_ ?_ (fun w' hSw => ?_) ?_
        rotate_left 2
        focus ((simp only [List.getElem?_toArray, List.getElem?_cons_succ, List.getElem?_cons_zero]); try with_reducible rfl)
        focus rfl
        focus ((try dsimp only at hSw); go_simp; try with_reducible rfl)
        try simp only [Act.put, List.setIfInBounds_toArray, List.set_cons_zero, List.set_cons_succ]
        refine plan_val (o := ?_) (v := ?_) ?_ ?_ (fun w' hSw => ?_) ?_
        rotate_left 2
        focus ((simp only [List.getElem?_toArray, List.getElem?_cons_succ, List.getElem?_cons_zero]); try with_reducible rfl)
        focus rfl
        focus ((try dsimp only at hSw); go_simp; try with_reducible rfl)
        try simp only [Act.put, List.setIfInBounds_toArray, List.set_cons_zero, List.set_cons_succ]
        refine plan_val (o := ?_) (v := ?_) ?_ ?_ (fun w' hSw => ?_) ?_
        rotate_left 2
        focus ((simp only [List.getElem?_toArray, List.getElem?_cons_succ, List.getElem?_cons_zero]); try with_reducible rfl)
        focus rfl
        focus ((try dsimp only at hSw); go_simp; try with_reducible rfl)
        try simp only [Act.put, List.setIfInBounds_toArray, List.set_cons_zero, List.set_cons_succ]
        refine plan_val (o := ?_) (v := ?_) ?_ ?_ (fun w' hSw => ?_) ?_
        rotate_left 2
        focus ((simp only [List.getElem?_toArray, List.getElem?_cons_succ, List.getElem?_cons_zero]); try with_reducible rfl)
        focus rfl
        focus ((try dsimp only at hSw); go_simp; try with_reducible rfl)
        try simp only [Act.put, List.setIfInBounds_toArray, List.set_cons_zero, List.set_cons_succ]
        refine plan_val (o := ?_) (v := ?_) ?_ ?_ (fun w' hSw => ?_) ?_
        rotate_left 2
        focus ((simp only [List.getElem?_toArray, List.getElem?_cons_succ, List.getElem?_cons_zero]); try with_reducible rfl)
        focus rfl
        focus ((try dsimp only at hSw); go_simp; try with_reducible rfl)
        try simp only [Act.put, List.setIfInBounds_toArray, List.set_cons_zero, List.set_cons_succ]
        refine plan_val (o := ?_) (v := ?_) ?_ ?_ (fun w' hSw => ?_) ?_
        rotate_left 2
        focus ((simp only [List.getElem?_toArray, List.getElem?_cons_succ, List.getElem?_cons_zero]); try with_reducible rfl)
        focus rfl
        focus ((try dsimp only at hSw); go_simp; try with_reducible rfl)
        try simp only [Act.put, List.setIfInBounds_toArray, List.set_cons_zero, List.set_cons_succ]
        refine plan_val (o := ?_) (v := ?_) ?_ ?_ (fun w' hSw => ?_) ?_
        rotate_left 2
        focus ((simp only [List.getElem?_toArray, List.getElem?_cons_succ, List.getElem?_cons_zero]); try with_reducible rfl)
        focus rfl
        focus ((try dsimp only at hSw); go_simp; try with_reducible rfl)
        try simp only [Act.put, List.setIfInBounds_toArray, List.set_cons_zero, List.set_cons_succ]
        refine plan_val (o := ?_) (v := ?_) ?_ ?_ (fun w' hSw => ?_) ?_
        rotate_left 2
        focus ((simp only [List.getElem?_toArray, List.getElem?_cons_succ, List.getElem?_cons_zero]); try with_reducible rfl)
        focus rfl
        focus ((try dsimp only at hSw); go_simp; try with_reducible rfl)
        try simp only [Act.put, List.setIfInBounds_toArray, List.set_cons_zero, List.set_cons_succ]
        refine plan_val (o := ?_) (v := ?_) ?_ ?_ (fun w' hSw => ?_) ?_
        rotate_left 2
        focus ((simp only [List.getElem?_toArray, List.getElem?_cons_succ, List.getElem?_cons_zero]); try with_reducible rfl)
        focus rfl
        focus ((try dsimp only at hSw); go_simp; try with_reducible rfl)
        try simp only [Act.put, List.setIfInBounds_toArray, List.set_cons_zero, List.set_cons_succ]
        refine plan_val (o := ?_) (v := ?_) ?_ ?_ (fun w' hSw => ?_) ?_
        rotate_left 2
        focus ((simp only [List.getElem?_toArray, List.getElem?_cons_succ, List.getElem?_cons_zero]); try with_reducible rfl)
        focus rfl
        focus ((try dsimp only at hSw); go_simp; try with_reducible rfl)
        try simp only [Act.put, List.setIfInBounds_toArray, List.set_cons_zero, List.set_cons_succ]
        refine plan_val (o := ?_) (v := ?_) ?_ ?_ (fun w' hSw => ?_) ?_
        rotate_left 2
        focus ((simp only [List.getElem?_toArray, List.getElem?_cons_succ, List.getElem?_cons_zero]); try with_reducible rfl)
        focus rfl
        focus ((try dsimp only at hSw); go_simp; try with_reducible rfl)
        try simp only [Act.put, List.setIfInBounds_toArray, List.set_cons_zero, List.set_cons_succ]
        refine plan_val (o := ?_) (v := ?_) ?_ ?_ (fun w' hSw => ?_) ?_
        rotate_left 2
        focus ((simp only [List.getElem?_toArray, List.getElem?_cons_succ, List.getElem?_cons_zero]); try with_reducible rfl)
        focus rfl
        focus ((try dsimp only at hSw); go_simp; try with_reducible rfl)
        try simp only [Act.put, List.setIfInBounds_toArray, List.set_cons_zero, List.set_cons_succ]
        refine plan_val (o := ?_) (v := ?_) ?_ ?_ (fun w' hSw => ?_) ?_
        rotate_left 2
        focus ((simp only [List.getElem?_toArray, List.getElem?_cons_succ, List.getElem?_cons_zero]); try with_reducible rfl)
        focus rfl
        focus ((try dsimp only at hSw); go_simp; try with_reducible rfl)
        try simp only [Act.put, List.setIfInBounds_toArray, List.set_cons_zero, List.set_cons_succ]
        refine plan_val (o := ?_) (v := ?_) ?_ ?_ (fun w' hSw => ?_) ?_
        rotate_left 2
        focus ((simp only [List.getElem?_toArray, List.getElem?_cons_succ, List.getElem?_cons_zero]); try with_reducible rfl)
        focus rfl
        focus ((try dsimp only at hSw); go_simp; try with_reducible rfl)
        try simp only [Act.put, List.setIfInBounds_toArray, List.set_cons_zero, List.set_cons_succ]
        refine plan_val (o := ?_) (v := ?_) ?_ ?_ (fun w' hSw => ?_) ?_
        rotate_left 2
        focus ((simp only [List.getElem?_toArray, List.getElem?_cons_succ, List.getElem?_cons_zero]); try with_reducible rfl)
        focus rfl
        focus ((try dsimp only at hSw); go_simp; try with_reducible rfl)
        try simp only [Act.put, List.setIfInBounds_toArray, List.set_cons_zero, List.set_cons_succ]
        refine plan_val (o := ?_) (v := ?_) ?_ ?_ (fun w' hSw => ?_) ?_
        rotate_left 2
        focus ((simp only [List.getElem?_toArray, List.getElem?_cons_succ, List.getElem?_cons_zero]); try with_reducible rfl)
        focus rfl
        focus ((try dsimp only at hSw); go_simp; try with_reducible rfl)
        try simp only [Act.put, List.setIfInBounds_toArray, List.set_cons_zero, List.set_cons_succ]
        refine plan_val (o := ?_) (v := ?_) ?_ ?_ (fun w' hSw => ?_) ?_
        rotate_left 2
        focus ((simp only [List.getElem?_toArray, List.getElem?_cons_succ, List.getElem?_cons_zero]); try with_reducible rfl)
        focus rfl
        focus ((try dsimp only at hSw); go_simp; try with_reducible rfl)
        try simp only [Act.put, List.setIfInBounds_toArray, List.set_cons_zero, List.set_cons_succ]
        refine plan_val (o := ?_) (v := ?_) ?_ ?_ (fun w' hSw => ?_) ?_
        rotate_left 2
        focus ((simp only [List.getElem?_toArray, List.getElem?_cons_succ, List.getElem?_cons_zero]); try with_reducible rfl)
        focus rfl
        focus ((try dsimp only at hSw); go_simp; try with_reducible rfl)
        try simp only [Act.put, List.setIfInBounds_toArray, List.set_cons_zero, List.set_cons_succ]
        refine plan_val (o := ?_) (v := ?_) ?_ ?_ (fun w' hSw => ?_) ?_
        rotate_left 2
        focus ((simp only [List.getElem?_toArray, List.getElem?_cons_succ, List.getElem?_cons_zero]); try with_reducible rfl)
        focus rfl
        focus ((try dsimp only at hSw); go_simp; try with_reducible rfl)
        try simp only [Act.put, List.setIfInBounds_toArray, List.set_cons_zero, List.set_cons_succ]
        refine plan_val (o := ?_) (v := ?_) ?_ ?_ (fun w' hSw => ?_) ?_
        rotate_left 2
        focus ((simp only [List.getElem?_toArray, List.getElem?_cons_succ, List.getElem?_cons_zero]); try with_reducible rfl)
        focus rfl
        focus ((try dsimp only at hSw); go_simp; try with_reducible rfl)
        try simp only [Act.put, List.setIfInBounds_toArray, List.set_cons_zero, List.set_cons_succ]
        refine plan_val (o := ?_) (v := ?_) ?_ ?_ (fun w' hSw => ?_) ?_
        rotate_left 2
        focus ((simp only [List.getElem?_toArray, List.getElem?_cons_succ, List.getElem?_cons_zero]); try with_reducible rfl)
        focus rfl
        focus ((try dsimp only at hSw); go_simp; try with_reducible rfl)
        try simp only [Act.put, List.setIfInBounds_toArray, List.set_cons_zero, List.set_cons_succ]
        refine plan_val (o := ?_) (v := ?_) ?_ ?_ (fun w' hSw => ?_) ?_
        rotate_left 2
        focus ((simp only [List.getElem?_toArray, List.getElem?_cons_succ, List.getElem?_cons_zero]); try with_reducible rfl)
        focus rfl
        focus ((try dsimp only at hSw); go_simp; try with_reducible rfl)
        try simp only [Act.put, List.setIfInBounds_toArray, List.set_cons_zero, List.set_cons_succ]
        refine plan_val (o := ?_) (v := ?_) ?_ ?_ (fun w' hSw => ?_) ?_
        rotate_left 2
        focus ((simp only [List.getElem?_toArray, List.getElem?_cons_succ, List.getElem?_cons_zero]); try with_reducible rfl)
        focus rfl
        focus ((try dsimp only at hSw); go_simp; try with_reducible rfl)
        try simp only [Act.put, List.setIfInBounds_toArray, List.set_cons_zero, List.set_cons_succ]
        refine plan_val (o := ?_) (v := ?_) ?_ ?_ (fun w' hSw => ?_) ?_
        rotate_left 2
        focus ((simp only [List.getElem?_toArray, List.getElem?_cons_succ, List.getElem?_cons_zero]); try with_reducible rfl)
        focus rfl
        focus ((try dsimp only at hSw); go_simp; try with_reducible rfl)
        try simp only [Act.put, List.setIfInBounds_toArray, List.set_cons_zero, List.set_cons_succ]
        refine plan_val (o := ?_) (v := ?_) ?_ ?_ (fun w' hSw => ?_) ?_
        rotate_left 2
        focus ((simp only [List.getElem?_toArray, List.getElem?_cons_succ, List.getElem?_cons_zero]); try with_reducible rfl)
        focus rfl
        focus ((try dsimp only at hSw); go_simp; try with_reducible rfl)
        try simp only [Act.put, List.setIfInBounds_toArray, List.set_cons_zero, List.set_cons_succ]
        refine plan_val (o := ?_) (v := ?_) ?_ ?_ (fun w' hSw => ?_) ?_
        rotate_left 2
        focus ((simp only [List.getElem?_toArray, List.getElem?_cons_succ, List.getElem?_cons_zero]); try with_reducible rfl)
        focus rfl
        focus ((try dsimp only at hSw); go_simp; try with_reducible rfl)
        try simp only [Act.put, List.setIfInBounds_toArray, List.set_cons_zero, List.set_cons_succ]
        refine plan_val (o := ?_) (v := ?_) ?_ ?_ (fun w' hSw => ?_) ?_
        rotate_left 2
        focus ((simp only [List.getElem?_toArray, List.getElem?_cons_succ, List.getElem?_cons_zero]); try with_reducible rfl)
        focus rfl
        focus ((try dsimp only at hSw); go_simp; try with_reducible rfl)
        try simp only [Act.put, List.setIfInBounds_toArray, List.set_cons_zero, List.set_cons_succ]
        refine plan_val (o := ?_) (v := ?_) ?_ ?_ (fun w' hSw => ?_) ?_
        rotate_left 2
        focus ((simp only [List.getElem?_toArray, List.getElem?_cons_succ, List.getElem?_cons_zero]); try with_reducible rfl)
        focus rfl
        focus ((try dsimp only at hSw); go_simp; try with_reducible rfl)
        try simp only [Act.put, List.setIfInBounds_toArray, List.set_cons_zero, List.set_cons_succ]
        refine plan_e (o := ?oG) ?hG1 ?hG2 (fun K3 hK3 => ?hG3)
        case hG1 => ((simp only [List.getElem?_toArray, List.getElem?_cons_succ, List.getElem?_cons_zero]); try with_reducible rfl)
        case hG2 => rfl
        case hG3 =>
          unfold Oper.wp
          go_simp
          have hx6 := rh_put (h := ⟨b1, IntKind.u16.wrap tt, IntKind.u16.wrap idd, ((IntKind.u64.wrap (fr.tdiv 16384)).tmod 2 == 1), ((IntKind.u64.wrap (fr.tdiv 8192)).tmod 2 == 1), IntKind.u16.wrap (fr.tmod 8192), b8, b9, 0, 0, 0, 0, 0, 0, 0, 0⟩) (S := S5) (D := S6) (O := S7) HZ2.out
          have hb6 := below_setCells (vs := rls ⟨b1, IntKind.u16.wrap tt, IntKind.u16.wrap idd, ((IntKind.u64.wrap (fr.tdiv 16384)).tmod 2 == 1), ((IntKind.u64.wrap (fr.tdiv 8192)).tmod 2 == 1), IntKind.u16.wrap (fr.tmod 8192), b8, b9, 0, 0, 0, 0, 0, 0, 0, 0⟩ S5 S6 S7) (i := 0) HB5.out (Nat.le_refl _)
          dsimp only [rls] at hx6 hb6
          clear c0 c1 c2 c3 c4 c5 c6 c7 c8 c9 c10 k0 k1 k2 k3 k4 k5 k6 k7 k8 k9 k10 hfz
          skip
          generalize World.setCells _ _ _ _ = w6 at hx6 hb6 ⊢
          refine hK3 _ _ (HMK.out _ (below_drew hb6)) ?_
          try simp only [Act.put, List.setIfInBounds_toArray, List.set_cons_zero, List.set_cons_succ]
          refine plan_val (o := ?_) (v := ?_) ?_ ?_ (fun w' hSw => ?_) ?_
          rotate_left 2
          focus ((simp only [List.getElem?_toArray, List.getElem?_cons_succ, List.getElem?_cons_zero]); try with_reducible rfl)
          focus rfl
          focus ((try dsimp only at hSw); go_simp; try with_reducible rfl)
          try simp only [Act.put, List.setIfInBounds_toArray, List.set_cons_zero, List.set_cons_succ]
          refine plan_val (o := ?_) (v := ?_) ?_ ?_ (fun w' hSw => ?_) ?_
          rotate_left 2
          focus ((simp only [List.getElem?_toArray, List.getElem?_cons_succ, List.getElem?_cons_zero]); try with_reducible rfl)
          focus rfl
          focus ((try dsimp only at hSw); go_simp; try with_reducible rfl)
          try simp only [Act.put, List.setIfInBounds_toArray, List.set_cons_zero, List.set_cons_succ]
          refine plan_done ?_
          refine NoPanic.normal ?_
          dsimp only [Exit.then]
          have hc6 := rh_cells hx6
          dsimp only at hc6
          go_step
          go_wp2
          refine bodyPost_ret (v := .tuple #[.agg (rcs ⟨b1, IntKind.u16.wrap tt, IntKind.u16.wrap idd, ((IntKind.u64.wrap (fr.tdiv 16384)).tmod 2 == 1), ((IntKind.u64.wrap (fr.tdiv 8192)).tmod 2 == 1), IntKind.u16.wrap (fr.tmod 8192), b8, b9, 0, 0, 0, 0, 0, 0, 0, 0⟩ S5 S6 S7), .int .i64 N, .int .i64 0]) ?_ rfl (HP0.out (not_or.2 ⟨by omega, by omega⟩) hwb _ (below_drew hb6))
          simp [results, Try.results22, go_sem, hc6]
end Go.Proofs.Ytknpaihlnkcpgaa.Own
/- octroiref05.Parse and Body, of any row. -/
set_option linter.unusedVariables false
set_option linter.unusedSimpArgs false
namespace Go.Proofs.Ytknpaihlnkcpgaa.Own
open Go.RowKit Go.Proofs.YtknpaihlnkcpgaaW.PrintWords Go.Proofs.YtknpaihlnkcpgaaW.PrintLast Go.Proofs.YtknpaihlnkcpgaaW.PrintMore
attribute [local go_sem ↓] ld11 sv_rh
attribute [local go_sem] run_sv_rh gv_some isV_some pick2_true stc nfz_false oc1_int oc1_bool oc1_string oc1_slice oc1_pointer oc1_func pick1_true setCells_new setCells_past setCells_drew

/-- the reference's header of any row: its numbers, and its three strings -/
def rparseS (b : List Int) : ByteArray := if parseC b = 0 then strOfNums ((b.take 16).drop 12) else ⟨#[]⟩
def rparseD (b : List Int) : ByteArray := if parseC b = 0 then strOfNums ((b.take 20).drop 16) else ⟨#[]⟩
def rparseO (b : List Int) : ByteArray := if parseC b = 0 then strOfNums ((b.take (hlen b)).drop 20) else ⟨#[]⟩
theorem rparse_all (b : List Int) (A : Option Addr) (n c : Nat) (w : World) (hC : Kd.C (Kd.int .u8) w A n b) (hc : n ≤ c) (hb : bytes b) (hn : n ≤ 1000000) :
    Calls Try.prog 22 #[.slice A n c] w fun e w' => e = .returned (.tuple #[.agg (rcs (parseH b) (rparseS b) (rparseD b) (rparseO b)), .int .i64 (parseN b), .int .i64 (parseC b)]) ∧ Below w.heap.size w w' := by
  have hl := hC.1
  have hh : (hlen b : Int) = b.getD 0 0 % 16 * 4 := by
    have := bytes_getD hb 0
    unfold hlen
    omega
  have bad : ∀ k : Int, k ≠ 0 → parseC b = k → ∀ (e : Ending) (w' : World), (e = .returned (.tuple #[noRh, .int .i64 0, .int .i64 k]) ∧ Below w.heap.size w w') → e = .returned (.tuple #[.agg (rcs (parseH b) (rparseS b) (rparseD b) (rparseO b)), .int .i64 (parseN b), .int .i64 (parseC b)]) ∧ Below w.heap.size w w' := fun k hk0 hk e w' h => by
    have h1 : parseH b = zHd := by unfold parseH; rw [hk, if_neg hk0]
    have h2 : parseN b = 0 := by unfold parseN; rw [hk, if_neg hk0]
    have h3 : rparseS b = ⟨#[]⟩ := by unfold rparseS; rw [hk, if_neg hk0]
    have h4 : rparseD b = ⟨#[]⟩ := by unfold rparseD; rw [hk, if_neg hk0]
    have h5 : rparseO b = ⟨#[]⟩ := by unfold rparseO; rw [hk, if_neg hk0]
    rw [h1, h2, h3, h4, h5, hk]
    exact h
  by_cases h1 : b.length < 20
  · exact (rparse_short A n c w (by omega)).mono (bad 10 (by decide) (by unfold parseC; rw [if_pos h1]))
  by_cases h2 : b.getD 0 0 / 16 ≠ 4
  · exact (rparse_early b A n c w 50 hC hb (by omega) (.inl ⟨rfl, h2⟩)).mono (bad 50 (by decide) (by unfold parseC; rw [if_neg h1, if_pos h2]))
  by_cases h3 : hlen b < 20
  · exact (rparse_early b A n c w 51 hC hb (by omega) (.inr (.inl ⟨rfl, Classical.not_not.1 h2, by omega⟩))).mono (bad 51 (by decide) (by unfold parseC; rw [if_neg h1, if_neg h2, if_pos h3]))
  by_cases h4 : b.length < hlen b
  · exact (rparse_early b A n c w 10 hC hb (by omega) (.inr (.inr ⟨rfl, Classical.not_not.1 h2, by omega, by omega⟩))).mono (bad 10 (by decide) (by unfold parseC; rw [if_neg h1, if_neg h2, if_neg h3, if_pos h4]))
  have hC0 : parseC b = mainC b (hlen b) := by unfold parseC; rw [if_neg h1, if_neg h2, if_neg h3, if_neg h4]
  refine (rparse_main b A n c (hlen b) w hC hc hb hn (Classical.not_not.1 h2) hh (by omega) (by omega)).mono fun e w' h => ?_
  rw [← hC0] at h
  by_cases h0 : parseC b = 0
  · unfold parseH parseN rparseS rparseD rparseO
    rw [if_pos h0, if_pos h0, if_pos h0, if_pos h0, if_pos h0, h0]
    exact ⟨h.1 h0, h.2.2⟩
  · exact bad _ h0 rfl _ _ ⟨h.2.1 h0, h.2.2⟩
set_option maxRecDepth 100000 in
set_option maxHeartbeats 4000000 in
theorem rbody_any (b : List Int) (A : Option Addr) (n c : Nat) (w : World) (hC : Kd.C (Kd.int .u8) w A n b) (hc : n ≤ c) (hb : bytes b) (hn : n ≤ 1000000) :
    Calls Try.prog 23 #[.slice A n c] w fun e w' => ∃ A1 n1 c1, e = .returned (.tuple #[.slice A1 n1 c1, .int .i64 (bodyC b)]) ∧ (∀ W : World, Kd.C (Kd.int .u8) W A n b → Kd.C (Kd.int .u8) W A1 n1 (bodyL b)) ∧ Below w.heap.size w w' := by
  have hln := hC.1
  by_cases h0 : parseC b = 0
  · obtain ⟨f1, f2, f3, f4, f5, f6, f7, f8⟩ := parse_ok h0
    have hp := rparse_all b A n c w hC hc hb hn
    obtain ⟨tr0, tr1⟩ := w16_range hb 2
    obtain ⟨H, eH⟩ : ∃ H, parseH b = H := ⟨_, rfl⟩
    have htt : H.total = w16 b 2 := by rw [← eH, f3]; rfl
    obtain ⟨S, eS⟩ : ∃ S, rparseS b = S := ⟨_, rfl⟩
    obtain ⟨D, eD⟩ : ∃ S, rparseD b = S := ⟨_, rfl⟩
    obtain ⟨O, eO⟩ : ∃ S, rparseO b = S := ⟨_, rfl⟩
    rw [h0, f4, eH, eS, eD, eO] at hp
    obtain ⟨N, eN⟩ : ∃ N, hlen b = N := ⟨_, rfl⟩
    rw [eN] at hp f1 f2 f5
    obtain ⟨tt, ett⟩ : ∃ v, w16 b 2 = v := ⟨_, rfl⟩
    rw [ett] at htt f5 tr0 tr1
    obtain ⟨tos, total, id, df, mf, frag, ttl, proto, s0, s1, s2, s3, d0, d1, d2, d3⟩ := H
    dsimp only at htt
    subst htt
    by_cases hs : (n : Int) < total
    · have e1 : bodyC b = 10 := by unfold bodyC; rw [if_neg (Classical.not_not.2 h0), if_pos (by rw [ett]; omega)]
      have e2 : bodyL b = [] := by unfold bodyL; rw [e1]; rfl
      rw [e1, e2]
      have HP := Aside0.mk hp
      clear hC hp e1 e2 eH eS eD eO f3 f4 f6 f7 f8 h0 hln eN ett
      go_enter Try.func23, Try.ntmps23
      go_wp2_with fail
      refine HP.out.mono ?_
      rintro e w1 ⟨rfl, hb1⟩
      dsimp only
      have HB1 := Aside0.mk hb1
      clear hb1
      go_wp2_with fail
      refine bodyPost_ret (results_tmp2 rfl _ _ _) rfl ?_
      exact ⟨none, 0, 0, rfl, fun W _ => (C_of_R (Kd.R_nil (Kd.int .u8) 5 W W.heap.size (fun _ => True))).1, HB1.out.alloc HB1.out.size _⟩
    · have e1 : bodyC b = 0 := by unfold bodyC; rw [if_neg (Classical.not_not.2 h0), if_neg (by rw [ett]; omega)]
      have e2 : bodyL b = (b.take total.toNat).drop N := by unfold bodyL; rw [if_pos e1, ett, eN]
      rw [e1, e2]
      obtain ⟨T3, A3, m3, c3, hcut3, hrd3, hmc3, hT3, hm3⟩ := cut_mid16 A n c b N total hln (by omega) (by omega) (by omega) hc
      have hT3' : T3 = (b.take total.toNat).drop N := by rw [hT3]; rfl
      rw [← hT3']
      have HP := Aside0.mk hp
      have HR3 := Aside0.mk hrd3
      clear hC hp e1 e2 eH eS eD eO f3 f4 f6 f7 f8 h0 hln eN ett hT3 hT3' hrd3 hm3
      go_enter Try.func23, Try.ntmps23
      go_wp2_with fail
      refine HP.out.mono ?_
      rintro e w1 ⟨rfl, hb1⟩
      dsimp only
      have HB1 := Aside0.mk hb1
      clear hb1
      go_wp2_with fail
      refine bodyPost_ret (results_tmp2 rfl _ _ _) rfl ?_
      exact ⟨_, _, _, rfl, HR3.out, HB1.out.alloc HB1.out.size _⟩
  · have e1 : bodyC b = parseC b := by unfold bodyC; rw [if_pos h0]
    have e2 : bodyL b = [] := by unfold bodyL; rw [e1, if_neg h0]
    have hp := rparse_all b A n c w hC hc hb hn
    obtain ⟨H, eH⟩ : ∃ H, parseH b = H := ⟨_, rfl⟩
    obtain ⟨S, eS⟩ : ∃ S, rparseS b = S := ⟨_, rfl⟩
    obtain ⟨D, eD⟩ : ∃ S, rparseD b = S := ⟨_, rfl⟩
    obtain ⟨O, eO⟩ : ∃ S, rparseO b = S := ⟨_, rfl⟩
    obtain ⟨k, ek⟩ : ∃ k, parseC b = k := ⟨_, rfl⟩
    rw [e1, e2]
    rw [eH, eS, eD, eO] at hp
    rw [ek] at hp h0 ⊢
    obtain ⟨tos, total, id, df, mf, frag, ttl, proto, s0, s1, s2, s3, d0, d1, d2, d3⟩ := H
    have HP := Aside0.mk hp
    clear hC hp e1 e2 eH eS eD eO hln ek
    go_enter Try.func23, Try.ntmps23
    go_wp2_with fail
    refine HP.out.mono ?_
    rintro e w1 ⟨rfl, hb1⟩
    dsimp only
    have HB1 := Aside0.mk hb1
    clear hb1
    go_wp2_with fail
    refine bodyPost_ret (results_tmp2 rfl _ _ _) rfl ?_
    exact ⟨none, 0, 0, rfl, fun W _ => (C_of_R (Kd.R_nil (Kd.int .u8) 5 W W.heap.size (fun _ => True))).1, HB1.out.alloc HB1.out.size _⟩
end Go.Proofs.Ytknpaihlnkcpgaa.Own
/- octroiref05.Hop, of any row. -/
set_option linter.unusedVariables false
set_option linter.unusedSimpArgs false
namespace Go.Proofs.Ytknpaihlnkcpgaa.Own
open Go.RowKit Go.Proofs.YtknpaihlnkcpgaaW.PrintWords Go.Proofs.YtknpaihlnkcpgaaW.PrintLast Go.Proofs.YtknpaihlnkcpgaaW.PrintMore
attribute [local go_sem ↓] ld11 sv_rh
attribute [local go_sem] run_sv_rh gv_some isV_some pick2_true stc nfz_false oc1_int oc1_bool oc1_string oc1_slice oc1_pointer oc1_func pick1_true setCells_new setCells_past setCells_drew

theorem C_nil (w : World) : Kd.C (Kd.int .u8) w none 0 [] := (C_of_R (Kd.R_nil (Kd.int .u8) 5 w w.heap.size (fun _ => True))).1
theorem be2 (v : Int) (h0 : 0 ≤ v) (h1 : v ≤ 65535) : be 2 v = [v / 256, v % 256] := by
  show [] ++ [v / 256 % 256] ++ [v % 256] = _
  rw [show v / 256 % 256 = v / 256 by omega]
  rfl
/-- out[i] = y on a row of one's own -/
theorem row_put {base : Nat} {W : World} {A : Option Addr} {n c : Nat} {l : List Int} (i : Nat) (hR : Kd.R (Kd.int .u8) 5 W base (fun _ => True) (.slice A n c) l) (hi : i < n) :
    ∃ g, A = some ⟨g, 0, none⟩ ∧ base ≤ g ∧ g < W.heap.size ∧ W.cell? ⟨g, i, none⟩ = some (.int .u8 (l.getD i 0)) ∧ W.frozen? ⟨g, i, none⟩ = false ∧ ∀ y, Kd.R (Kd.int .u8) 5 (W.setCell ⟨g, i, none⟩ (.int .u8 y)) base (fun _ => True) (.slice A n c) (l.set i y) := by
  have hl := (C_of_R hR).1.1
  obtain ⟨g, cap, e, hg, _, _⟩ := Kd.R_form hR (by omega)
  obtain rfl : A = some ⟨g, 0, none⟩ := by injection e
  have hx := Kd.R_celln (0 : Int) hR i (by omega) (by omega)
  rw [Int.toNat_natCast] at hx
  refine ⟨g, rfl, hg, World.block_lt_of_cell? W _ hx.1, hx.1, hx.2, fun y => ?_⟩
  have := Kd.R_putn hR (i : Int) y
  rw [Int.toNat_natCast] at this
  exact this
set_option maxRecDepth 100000 in
set_option maxHeartbeats 4000000 in
theorem rhop_any (b : List Int) (A : Option Addr) (n c : Nat) (w : World) (hC : Kd.C (Kd.int .u8) w A n b) (hc : n ≤ c) (hb : bytes b) (hn : n ≤ 1000000) :
    Calls Try.prog 24 #[.slice A n c] w fun e w' => ∃ A1 n1 c1, e = .returned (.tuple #[.slice A1 n1 c1, .int .i64 (hopC b)]) ∧ Kd.R (Kd.int .u8) 5 w' w.heap.size (fun _ => True) (.slice A1 n1 c1) (hopL b) ∧ Below w.heap.size w w' := by
  have hln := hC.1
  obtain ⟨S, eS⟩ : ∃ S, rparseS b = S := ⟨_, rfl⟩
  obtain ⟨D, eD⟩ : ∃ S, rparseD b = S := ⟨_, rfl⟩
  obtain ⟨O, eO⟩ : ∃ S, rparseO b = S := ⟨_, rfl⟩
  have hp := rparse_all b A n c w hC hc hb hn
  rw [eS, eD, eO] at hp
  clear eS eD eO
  by_cases h0 : parseC b = 0
  · obtain ⟨f1, f2, f3, f4, f5, f6, f7, f8⟩ := parse_ok h0
    obtain ⟨q0, q1⟩ := bytes_getD hb 8
    obtain ⟨H, eH⟩ : ∃ H, parseH b = H := ⟨_, rfl⟩
    have htt : H.ttl = b.getD 8 0 := by rw [← eH, f3]; rfl
    rw [h0, eH] at hp
    obtain ⟨tos, total, id, df, mf, frag, ttl, proto, s0, s1, s2, s3, d0, d1, d2, d3⟩ := H
    dsimp only at htt
    obtain ⟨t8, et8⟩ : ∃ v, b.getD 8 0 = v := ⟨_, rfl⟩
    rw [et8] at htt q0 q1
    subst htt
    by_cases hz : ttl = 0
    · have e1 : hopC b = 51 := by unfold hopC; rw [if_neg (Classical.not_not.2 h0), if_pos (by rw [et8]; exact hz)]
      have e2 : hopL b = [] := by unfold hopL; rw [e1]; rfl
      rw [e1, e2]
      have HP := Aside0.mk hp
      clear hC hp e1 e2 eH f1 f2 f3 f4 f5 f6 f7 f8 h0 hln et8
      go_enter Try.func24, Try.ntmps24
      go_wp2_with fail
      refine HP.out.mono ?_
      rintro e w1 ⟨rfl, hb1⟩
      dsimp only
      have HB1 := Aside0.mk hb1
      clear hb1
      go_wp2_with fail
      refine bodyPost_ret (results_tmp2 rfl _ _ _) rfl ?_
      exact ⟨none, 0, 0, rfl, Kd.R_nil _ _ _ _ _, HB1.out.alloc HB1.out.size _⟩
    · have e1 : hopC b = 0 := by unfold hopC; rw [if_neg (Classical.not_not.2 h0), if_neg (by rw [et8]; exact hz)]
      obtain ⟨nn, enn⟩ : ∃ v, hopS b = v := ⟨_, rfl⟩
      have e2 : hopL b = ((b.set 8 (ttl - 1)).set 10 (nn / 256)).set 11 (nn % 256) := by unfold hopL; rw [if_pos e1, et8, enn]
      rw [e1, e2]
      have hbs : bytes (b.set 8 (ttl - 1)) := bytes_set hb 8 (ttl - 1) (by omega) (by omega)
      have hn20 : 20 ≤ n := by omega
      have r10 := w16_range hb 10
      have r8 := w16_range hb 8
      have rb := w16_range hbs 8
      unfold hopS at enn
      rw [et8] at enn
      have hw10 := fun W (hW : Below w.heap.size w W) => rget2_any b A n c 10 W (Kd.C_below hC hW) hb (by omega) hn
      have hw8 := fun W (hW : Below w.heap.size w W) => rget2_any b A n c 8 W (Kd.C_below hC hW) hb (by omega) hn
      have hwx := fun A' c' W (hW : Kd.C (Kd.int .u8) W A' n (b.set 8 (ttl - 1))) => rget2_any (b.set 8 (ttl - 1)) A' n c' 8 W hW hbs (by omega) hn
      have hch := fun W => rchange_any (w16 b 10) (w16 b 8) (w16 (b.set 8 (ttl - 1)) 8) W r10.1 r10.2 r8.1 r8.2 rb.1 rb.2
      have hnr : 0 ≤ nn ∧ nn ≤ 65535 := by rw [← enn]; exact chg_range _ _ _ r10.1 r10.2 r8.1 r8.2 rb.1 rb.2
      rw [enn] at hch
      have hpu : ∀ W : World, Calls Try.prog 45 #[.int .u64 nn, .int .i64 2] W fun e w' => ∃ A2 c2, e = .returned (.slice A2 2 c2) ∧ Kd.R (Kd.int .u8) 5 w' W.heap.size (fun _ => True) (.slice A2 2 c2) [nn / 256, nn % 256] ∧ Below W.heap.size W w' := fun W => by
        refine (rput_at 2 2 rfl nn W hnr.1 (by omega) (by omega)).mono ?_
        rintro e w' ⟨A2, n2, c2, rfl, hR, hB⟩
        rw [be2 nn hnr.1 hnr.2] at hR
        obtain rfl : n2 = 2 := (C_of_R hR).1.1.symm
        exact ⟨_, _, rfl, hR, hB⟩
      obtain ⟨a10, ea10⟩ : ∃ v, w16 b 10 = v := ⟨_, rfl⟩
      obtain ⟨a8, ea8⟩ : ∃ v, w16 b 8 = v := ⟨_, rfl⟩
      obtain ⟨ax, eax⟩ : ∃ v, w16 (b.set 8 (ttl - 1)) 8 = v := ⟨_, rfl⟩
      simp only [ea10, ea8, eax] at hch r10 r8 rb
      change ∀ W, Below w.heap.size w W → Calls Try.prog 43 #[.slice A n c, .int .i64 10, .int .i64 2] W fun e w' => e = .returned (.tuple #[.int .u64 (w16 b 10), .int .i64 0]) ∧ W = w' at hw10
      change ∀ W, Below w.heap.size w W → Calls Try.prog 43 #[.slice A n c, .int .i64 8, .int .i64 2] W fun e w' => e = .returned (.tuple #[.int .u64 (w16 b 8), .int .i64 0]) ∧ W = w' at hw8
      change ∀ A' c' W, _ → Calls Try.prog 43 #[.slice A' n c', .int .i64 8, .int .i64 2] W fun e w' => e = .returned (.tuple #[.int .u64 (w16 (b.set 8 (ttl - 1)) 8), .int .i64 0]) ∧ W = w' at hwx
      simp only [ea10] at hw10
      simp only [ea8] at hw8
      simp only [eax] at hwx
      have HW10 := Aside0.mk hw10
      have HW8 := Aside0.mk hw8
      have HWX := Aside0.mk hwx
      have HCH := Aside0.mk hch
      have HPU := Aside0.mk hpu
      obtain ⟨n0, n1'⟩ := hnr
      have HJ := Aside0.mk (fun W (hW : Below w.heap.size w W) => join_any [] b none A 0 0 n c W (C_nil W) (Kd.C_below hC hW) (by omega))
      have HP := Aside0.mk hp
      have HL := Aside0.mk hln
      have hw1 : IntKind.u8.wrap (ttl - 1) = ttl - 1 := IntWalk.u8_in _ (by omega)
      obtain ⟨ad, rfl, hx⟩ := Kd.at_int hC 8 (by omega) (by omega)
      have HX8 : Aside0 (∀ W, Below w.heap.size w W → W.cell? { block := ad.block, off := ad.off + 8 } = some (.int .u8 ttl)) := ⟨fun W hW => by rw [← et8]; exact pw_cell_below hW hx⟩
      have HG : Aside0 (b.getD 8 0 = ttl) := ⟨et8⟩
      obtain ⟨r100, r101⟩ := r10
      obtain ⟨r80, r81⟩ := r8
      obtain ⟨rb0, rb1⟩ := rb
      have hi8 : (8 : Int) < (n : Int) := by omega
      have hi10 : (10 : Int) < (n : Int) := by omega
      have hi11 : (11 : Int) < (n : Int) := by omega
      clear hC hp e1 e2 eH f1 f2 f3 f4 f5 f6 f7 f8 h0 hln et8 enn ea10 ea8 eax hb hbs hw10 hw8 hwx hch hpu hx
      go_enter Try.func24, Try.ntmps24
      go_wp2_with fail
      refine HP.out.mono ?_
      rintro e w1 ⟨rfl, hb1⟩
      dsimp only
      have HB1 := Aside0.mk hb1
      clear hb1
      go_wp2_with fail
      refine (HJ.out _ (HB1.out.alloc HB1.out.size _)).mono ?_
      rintro e w2 ⟨A', n', c', rfl, hR2, hb2⟩
      dsimp only
      rw [List.nil_append] at hR2
      obtain rfl : n = n' := by rw [← (C_of_R hR2).1.1]; exact HL.out.symm
      have hs1 := HB1.out.size
      have hb2' := below_then (HB1.out.alloc HB1.out.size _) (by simp; omega) hb2
      have hR2 := Kd.R_lower hR2 (show w.heap.size ≤ _ by simp; omega)
      obtain ⟨ga, rfl, hga, hgs, hcx, hfx, hpn⟩ := row_put 8 hR2 (by omega)
      have hx8 := HX8.out _ hb2'
      rw [HG.out] at hcx
      have HPN := Aside0.mk hpn
      have HB2 := Aside0.mk hb2'
      have HGA := Aside0.mk hga
      clear hR2 hb2 hb2' hs1 hga hpn hgs
      go_upto_region 8 with fail
      have hR3 := HPN.out (ttl - 1)
      have hB3 := HB2.out.setCell (p := ⟨ga, 8, none⟩) HGA.out (.int .u8 (ttl - 1))
      clear HPN hcx hfx hx8
      generalize w2.setCell ⟨ga, 8, none⟩ (.int .u8 (ttl - 1)) = w3 at hR3 hB3 ⊢
      have HR3 := Aside0.mk hR3
      have HC3 := Aside0.mk (C_of_R hR3).1
      have HB3 := Aside0.mk hB3
      clear hR3 hB3
      go_upto_region 12 with (first | (with_reducible refine (HW10.out _ HB3.out).mono ?_; rintro e w4 ⟨rfl, rfl⟩) | (with_reducible refine (HW8.out _ HB3.out).mono ?_; rintro e w4 ⟨rfl, rfl⟩) | (with_reducible refine (HWX.out _ _ _ HC3.out).mono ?_; rintro e w4 ⟨rfl, rfl⟩) | (with_reducible refine (HCH.out _).mono ?_; rintro e w4 ⟨rfl, rfl⟩) | (with_reducible refine (HPU.out _).mono ?_; rintro e w5 ⟨A5, c5, rfl, hR5, hb5⟩))
      obtain ⟨gb, rfl, hgb, hgbs, hy0, _, _⟩ := row_put 0 hR5 (by omega)
      obtain ⟨_, e', _, _, hy1, _, _⟩ := row_put 1 hR5 (by omega)
      cases e'
      have hR6 := Kd.R_below HR3.out hb5
      have hs3 := HB3.out.size
      have hb6 := below_then HB3.out hs3 hb5
      obtain ⟨_, e', _, hgs, hc10, hf10, hp10⟩ := row_put 10 hR6 (by omega)
      cases e'
      have hg3 : ga < w3.heap.size := by
        obtain ⟨_, e', _, hgs, _⟩ := row_put 8 HR3.out (by omega)
        cases e'
        exact hgs
      have hne : ga ≠ gb := by omega
      change w5.cell? ⟨gb, 0, none⟩ = some (.int .u8 (nn / 256)) at hy0
      change w5.cell? ⟨gb, 1, none⟩ = some (.int .u8 (nn % 256)) at hy1
      have HP10 := Aside0.mk hp10
      have HB6 := Aside0.mk hb6
      have hy1' : (w5.setCell ⟨ga, 10, none⟩ (.int .u8 (nn / 256))).cell? ⟨gb, 1, none⟩ = some (.int .u8 (nn % 256)) := by
        rw [World.cell?_setCell_other _ _ _ _ (fun h => hne (by injection h))]
        exact hy1
      clear hR5 hb5 hgb hgbs hR6 hs3 hb6 hgs hp10 hg3 hne hy1
      go_upto_region 13 with fail
      have hR7 := HP10.out (nn / 256)
      have hB7 := HB6.out.setCell (p := ⟨ga, 10, none⟩) HGA.out (.int .u8 (nn / 256))
      clear HP10 hc10 hf10 hy0
      generalize w5.setCell ⟨ga, 10, none⟩ (.int .u8 (nn / 256)) = w7 at hR7 hB7 hy1' ⊢
      obtain ⟨_, e', _, _, hc11, hf11, hp11⟩ := row_put 11 hR7 (by omega)
      cases e'
      have HP11 := Aside0.mk hp11
      have HB7 := Aside0.mk hB7
      clear hR7 hB7 hp11
      go_wp2_with fail
      refine bodyPost_ret (results_tmp2 rfl _ _ _) rfl ?_
      exact ⟨_, _, _, rfl, HP11.out _, HB7.out.setCell (p := ⟨ga, 11, none⟩) HGA.out _⟩
  · have e1 : hopC b = parseC b := by unfold hopC; rw [if_pos h0]
    have e2 : hopL b = [] := by unfold hopL; rw [e1, if_neg h0]
    obtain ⟨H, eH⟩ : ∃ H, parseH b = H := ⟨_, rfl⟩
    obtain ⟨k, ek⟩ : ∃ k, parseC b = k := ⟨_, rfl⟩
    rw [e1, e2]
    rw [eH] at hp
    rw [ek] at hp h0 ⊢
    obtain ⟨tos, total, id, df, mf, frag, ttl, proto, s0, s1, s2, s3, d0, d1, d2, d3⟩ := H
    have HP := Aside0.mk hp
    clear hC hp e1 e2 eH hln ek
    go_enter Try.func24, Try.ntmps24
    go_wp2_with fail
    refine HP.out.mono ?_
    rintro e w1 ⟨rfl, hb1⟩
    dsimp only
    have HB1 := Aside0.mk hb1
    clear hb1
    go_wp2_with fail
    refine bodyPost_ret (results_tmp2 rfl _ _ _) rfl ?_
    exact ⟨none, 0, 0, rfl, Kd.R_nil _ _ _ _ _, HB1.out.alloc HB1.out.size _⟩
end Go.Proofs.Ytknpaihlnkcpgaa.Own
/- octroilaw05.pad. -/
set_option linter.unusedVariables false
set_option linter.unusedSimpArgs false
namespace Go.Proofs.Ytknpaihlnkcpgaa.Own
open Go.RowKit Go.Proofs.YtknpaihlnkcpgaaW.PrintWords Go.Proofs.YtknpaihlnkcpgaaW.PrintLast Go.Proofs.YtknpaihlnkcpgaaW.PrintMore
attribute [local go_sem ↓] ld11 sv_rh
attribute [local go_sem] run_sv_rh gv_some isV_some pick2_true stc nfz_false oc1_int oc1_bool oc1_string oc1_slice oc1_pointer oc1_func pick1_true setCells_new setCells_past setCells_drew

set_option maxRecDepth 100000 in
theorem pad_keep (h : Hd) (S D O : ByteArray) (w : World) (hS : S.toList.isEmpty = false) :
    Calls Try.prog 26 #[.agg (rcs h S D O)] w fun e w' => e = .returned (.agg (rcs h S D O)) ∧ Below w.heap.size w w' := by
  have hbx := ((below_alloc1 (w.alloc (.cells (rcs h S D O) 41)) (.cells (rcs zHd ⟨#[]⟩ ⟨#[]⟩ ⟨#[]⟩) 41)).block w.heap.size (by simp)).trans (heap_alloc_new w (.cells (rcs h S D O) 41))
  have hc := rh_cells hbx
  dsimp only [rcs] at hc
  clear hbx
  go_enter Try.func26, Try.ntmps26
  go_wp2
  refine bodyPost_ret (v := .agg (rcs h S D O)) ?_ rfl ⟨rfl, below_alloc2 w _ _⟩
  simp [results, Try.results26, go_sem]
set_option maxRecDepth 100000 in
theorem pad_none (h : Hd) (D O : ByteArray) (w : World) :
    Calls Try.prog 26 #[.agg (rcs h ⟨#[]⟩ D O)] w fun e w' => e = .returned (.agg (rcs h ⟨#[0, 0, 0, 0]⟩ ⟨#[0, 0, 0, 0]⟩ O)) ∧ Below w.heap.size w w' := by
  go_enter Try.func26, Try.ntmps26
  go_wp2
  refine bodyPost_ret (v := .agg (rcs h ⟨#[0, 0, 0, 0]⟩ ⟨#[0, 0, 0, 0]⟩ O)) ?_ rfl ⟨rfl, below_alloc2 w _ _⟩
  simp [results, Try.results26, go_sem]
theorem take4 (b : List Int) (i : Nat) (h : i + 4 ≤ b.length) : (b.take (i + 4)).drop i = [b.getD i 0, b.getD (i + 1) 0, b.getD (i + 2) 0, b.getD (i + 3) 0] := by
  apply List.ext_getElem
  · simp only [List.length_drop, List.length_take, List.length_cons, List.length_nil]; omega
  · intro j h1 h2
    have hj : j < 4 := h2
    have he : ((b.take (i + 4)).drop i)[j] = b.getD (i + j) 0 := by
      rw [List.getElem_drop, List.getElem_take, List.getD_eq_getElem?_getD, List.getElem?_eq_getElem (by omega)]
      rfl
    rw [he]
    match j, hj with
    | 0, _ => rfl
    | 1, _ => rfl
    | 2, _ => rfl
    | 3, _ => rfl
theorem hdOf_ok {b : List Int} (hb : bytes b) : (hdOf b).ok := by
  have q := fun i => bytes_getD hb i
  have r := fun i => w16_range hb i
  have q' : ∀ i, inB (b.getD i 0) 255 := fun i => ⟨(q i).1, by have := (q i).2; omega⟩
  refine ⟨q' 1, r 2, r 4, ?_, q' 8, q' 9, q' 12, q' 13, q' 14, q' 15, q' 16, q' 17, q' 18, q' 19⟩
  show inB (bits .and .u16 (w16 b 6) 8191) 65535
  obtain ⟨r0, r1⟩ := r 6
  rw [u16_low13 _ r0 r1]
  exact ⟨by omega, by omega⟩
theorem zHd_ok : zHd.ok := by refine ⟨?_, ?_, ?_, ?_, ?_, ?_, ?_, ?_, ?_, ?_, ?_, ?_, ?_, ?_⟩ <;> exact ⟨by decide, by decide⟩
theorem parseH_ok {b : List Int} (hb : bytes b) : (parseH b).ok := by
  unfold parseH
  split
  · exact hdOf_ok hb
  · exact zHd_ok
theorem bytes_parseO {b : List Int} (hb : bytes b) : bytes (parseO b) := by
  unfold parseO
  split
  · exact bytes_drop (bytes_take hb _) _
  · exact bytes_nil
theorem bytes_bodyL {b : List Int} (hb : bytes b) : bytes (bodyL b) := by
  unfold bodyL
  split
  · exact bytes_drop (bytes_take hb _) _
  · exact bytes_nil
theorem bytes_hopL {b : List Int} (hb : bytes b) : bytes (hopL b) := by
  unfold hopL
  split
  · rename_i h
    have h8 : b.getD 8 0 ≠ 0 := fun h8 => by
      unfold hopC at h
      by_cases hp : parseC b ≠ 0
      · rw [if_pos hp] at h; exact hp h
      · rw [if_neg hp, if_pos h8] at h; exact absurd h (by decide)
    obtain ⟨q0, q1⟩ := bytes_getD hb 8
    have hbs : bytes (b.set 8 (b.getD 8 0 - 1)) := bytes_set hb 8 _ (by omega) (by omega)
    have r10 := w16_range hb 10
    have r8 := w16_range hb 8
    have rb := w16_range hbs 8
    have hr : 0 ≤ hopS b ∧ hopS b ≤ 65535 := chg_range _ _ _ r10.1 r10.2 r8.1 r8.2 rb.1 rb.2
    exact bytes_set (bytes_set hbs 10 _ (by omega) (by omega)) 11 _ (by omega) (by omega)
  · exact bytes_nil
/-- the reference's header, padded, is the code's as the document has it -/
theorem pad_doc (b : List Int) (w : World) :
    Calls Try.prog 26 #[.agg (rcs (parseH b) (rparseS b) (rparseD b) (rparseO b))] w fun e w' => e = .returned (.agg (docOf (parseH b) (parseO b))) ∧ Below w.heap.size w w' := by
  by_cases h0 : parseC b = 0
  · obtain ⟨f1, f2, f3, _⟩ := parse_ok h0
    have e5 : rparseS b = strOfNums [(parseH b).s0, (parseH b).s1, (parseH b).s2, (parseH b).s3] := by
      unfold rparseS
      rw [if_pos h0, f3]
      exact congrArg strOfNums (take4 b 12 (by omega))
    have e6 : rparseD b = strOfNums [(parseH b).d0, (parseH b).d1, (parseH b).d2, (parseH b).d3] := by
      unfold rparseD
      rw [if_pos h0, f3]
      exact congrArg strOfNums (take4 b 16 (by omega))
    have e7 : rparseO b = strOfNums (parseO b) := by
      unfold rparseO parseO
      rw [if_pos h0, if_pos h0]
    rw [e5, e6, e7]
    exact pad_keep _ _ _ _ w (by rw [Lib.strOfNums_toList]; rfl)
  · have e4 : parseH b = zHd := by unfold parseH; rw [if_neg h0]
    have e5 : rparseS b = ⟨#[]⟩ := by unfold rparseS; rw [if_neg h0]
    have e7 : rparseO b = strOfNums (parseO b) := by
      unfold rparseO parseO
      rw [if_neg h0, if_neg h0]
      rfl
    rw [e4, e5, e7]
    exact pad_none _ _ _ w
end Go.Proofs.Ytknpaihlnkcpgaa.Own
/- bytes.Equal, ip.Same; '==' of arrays of four bytes, of the reference's headers. (written by wip/gen_same5.py) -/
set_option linter.unusedVariables false
set_option linter.unusedSimpArgs false
namespace Go.Proofs.Ytknpaihlnkcpgaa.Own
open Go.RowKit Go.Proofs.YtknpaihlnkcpgaaW.PrintWords Go.Proofs.YtknpaihlnkcpgaaW.PrintLast Go.Proofs.YtknpaihlnkcpgaaW.PrintMore
attribute [local go_sem ↓] ld17 ld4 sv_hd
attribute [local go_sem] run_sv_hd gv_some isV_some pick2_true stc nfz_false oc1_int oc1_bool oc1_string oc1_slice oc1_pointer oc1_func pick1_true setCells_new setCells_past setCells_drew

theorem bytesEqual_any (xs ys : List Int) (A B : Option Addr) (n c m d : Nat) (w : World) (hr : Kd.C (Kd.int .u8) w A n xs) (hs : Kd.C (Kd.int .u8) w B m ys) (hx : bytes xs) (hy : bytes ys) :
    Calls Try.prog 38 #[.slice A n c, .slice B m d] w fun e w' => e = .returned (.bool (decide (xs = ys))) ∧ w = w' := by
  have h1 := Kd.C_string (c := c) Try.underlying22 Try.underlying5 Try.underlying9 hr
  have h2 := Kd.C_string (c := d) Try.underlying22 Try.underlying5 Try.underlying9 hs
  go_enter Try.func38, Try.ntmps38
  go_wp2
  go_ret
  refine ⟨ret_bool ?_, rfl⟩
  rw [Lib.strOfNums_toList, Lib.strOfNums_toList, Bool.eq_iff_iff, beq_iff_eq, decide_eq_true_iff]
  exact ⟨map_u8_inj xs ys hx hy, fun h => by rw [h]⟩

theorem eqItems_nums (P : Program) (w : World) (d e : Nat) (k : IntKind) (he : P.underlying e = some (.int k)) (hcell : P.cellsOf e = 1) (xs ys : List Int) : ∀ (is : List Nat), (∀ i ∈ is, i < xs.length ∧ i < ys.length) →
    (Op.eqItems (d + 1) e (P.cellsOf e) (nums k xs).toArray (nums k ys).toArray is).run P w = .ok (is.all fun i => xs.getD i 0 == ys.getD i 0) w
  | [], _ => rfl
  | i :: is, h => by
    have ih := eqItems_nums P w d e k he hcell xs ys is (fun j hj => h j (List.mem_cons_of_mem _ hj))
    obtain ⟨h1, h2⟩ := h i (List.mem_cons_self ..)
    have hagg : (isAgg e).run P w = .ok false w := by
      unfold isAgg
      rw [Sem.run_bind, run_underlying he w]
      rfl
    have hp : ∀ (zs : List Int) (hz : i < zs.length), (part e (nums k zs).toArray (i * P.cellsOf e)).run P w = .ok (.int k (zs.getD i 0)) w := fun zs hz => by
      unfold part
      simp only [Sem.run_bind, hagg, Result.andThen_ok, hcell, Nat.mul_one, Bool.false_eq_true, if_false]
      simp [nums, hz, List.getD_eq_getElem?_getD, List.getElem?_eq_getElem hz]
    simp only [Op.eqItems, Sem.run_bind, hp xs h1, hp ys h2, Result.andThen_ok, run_equalIn_int (P := P) w d e k k _ _ he, List.all_cons]
    cases hb : (xs.getD i 0 == ys.getD i 0) with
    | false => simp
    | true => simpa using ih
theorem all_range_eq (xs ys : List Int) (n : Nat) (hx : xs.length = n) (hy : ys.length = n) : ((List.range n).all fun i => xs.getD i 0 == ys.getD i 0) = decide (xs = ys) := by
  rw [Bool.eq_iff_iff, List.all_eq_true, decide_eq_true_iff]
  constructor
  · intro h
    apply List.ext_getElem (by omega)
    intro i h1 h2
    have := h i (List.mem_range.2 (by omega))
    rw [beq_iff_eq, List.getD_eq_getElem?_getD, List.getD_eq_getElem?_getD, List.getElem?_eq_getElem h1, List.getElem?_eq_getElem h2] at this
    exact this
  · rintro rfl i _
    simp
/-- '==' of arrays of bytes -/
theorem eqArr (P : Program) (w : World) (d t e n : Nat) (he : P.underlying e = some (.int .u8)) (i0 : TypeInfo) (hi : P.info? e = some i0) (hcell : P.cellsOf e = 1) (ht : P.underlying t = some (.array n e)) (xs ys : List Int) (hx : xs.length = n) (hy : ys.length = n) :
    (Op.equalIn (d + 2) t (.agg (nums .u8 xs).toArray) (.agg (nums .u8 ys).toArray)).run P w = .ok (decide (xs = ys)) w := by
  rw [show d + 2 = (d + 1) + 1 from rfl, run_equalIn_array w (d + 1) _ _ ht hi, eqItems_nums P w d e .u8 he hcell xs ys _ (fun i hi => by have := List.mem_range.1 hi; omega), all_range_eq xs ys n hx hy]
theorem cell_u8 : Try.prog.cellsOf 5 = 1 := by kernel_rfl
/-- '==' of two arrays of four bytes, as the walk meets it -/
theorem eq4 (w : World) (a b c d a' b' c' d' : Int) : (binOp .eql 37 (.agg #[.int .u8 a, .int .u8 b, .int .u8 c, .int .u8 d]) (.agg #[.int .u8 a', .int .u8 b', .int .u8 c', .int .u8 d'])).run Try.prog w = .ok (.bool (decide ([a, b, c, d] = [a', b', c', d']))) w := by
  obtain ⟨i0, hi, _⟩ := Option.map_eq_some_iff.1 info_u8
  rw [run_eql_struct]
  have h := eqArr Try.prog w 9998 37 5 4 Try.underlying5 i0 hi cell_u8 Try.underlying37 [a, b, c, d] [a', b', c', d'] rfl rfl
  simp only [nums, List.map_cons, List.map_nil] at h
  rw [h]
  rfl
/-- are two headers, with their options, the same? -/
def sameB (h k : Hd) (o p : List Int) : Bool :=
  decide (h.tos = k.tos ∧ h.total = k.total ∧ h.id = k.id ∧ h.df = k.df ∧ h.mf = k.mf ∧ h.frag = k.frag ∧ h.ttl = k.ttl ∧ h.proto = k.proto ∧ [h.s0, h.s1, h.s2, h.s3] = [k.s0, k.s1, k.s2, k.s3] ∧ [h.d0, h.d1, h.d2, h.d3] = [k.d0, k.d1, k.d2, k.d3] ∧ o = p)
theorem eq4in (w : World) (a b c d a' b' c' d' : Int) : (Op.equalIn 10000 37 (.agg #[.int .u8 a, .int .u8 b, .int .u8 c, .int .u8 d]) (.agg #[.int .u8 a', .int .u8 b', .int .u8 c', .int .u8 d'])).run Try.prog w = .ok (decide ([a, b, c, d] = [a', b', c', d'])) w := by
  obtain ⟨i0, hi, _⟩ := Option.map_eq_some_iff.1 info_u8
  have h := eqArr Try.prog w 9998 37 5 4 Try.underlying5 i0 hi cell_u8 Try.underlying37 [a, b, c, d] [a', b', c', d'] rfl rfl
  simp only [nums, List.map_cons, List.map_nil] at h
  exact h
attribute [local go_sem] eq4in
set_option maxRecDepth 100000 in
set_option maxHeartbeats 8000000 in
theorem same_hd (h k : Hd) (A B : Option Addr) (n c m d : Nat) (o p : List Int) (w : World) (hC : Kd.C (Kd.int .u8) w A n o) (hD : Kd.C (Kd.int .u8) w B m p) (ho : bytes o) (hp : bytes p) :
    Calls Try.prog 17 #[.agg (hcs h A n c), .agg (hcs k B m d)] w fun e w' => e = .returned (.bool (sameB h k o p)) ∧ Below w.heap.size w w' := by
  have hb0 := heap_alloc_new w (.cells (hcs h A n c) 39)
  have hb1 := heap_alloc_new (w.alloc (.cells (hcs h A n c) 39)) (.cells (hcs k B m d) 39)
  have hb0' := (Below.heap_alloc (w.alloc (.cells (hcs h A n c) 39)) (.cells (hcs k B m d) 39) _ (blk_lt hb0)).trans hb0
  rw [World.size_alloc] at hb1
  obtain ⟨c0, c1, c2, c3, c4, c5, c6, c7, c8, c9, c10, c11, c12, c13, c14, c15, c16⟩ := hd_cells hb0'
  obtain ⟨e0, e1, e2, e3, e4, e5, e6, e7, e8, e9, e10, e11, e12, e13, e14, e15, e16⟩ := hd_cells hb1
  have heq := bytesEqual_any o p A B n c m d _ (Kd.C_alloc (Kd.C_alloc hC (.cells (hcs h A n c) 39)) (.cells (hcs k B m d) 39)) (Kd.C_alloc (Kd.C_alloc hD (.cells (hcs h A n c) 39)) (.cells (hcs k B m d) 39)) ho hp
  have HE := Aside0.mk heq
  have HS := Aside0.mk (show sameB h k o p = decide (h.tos = k.tos ∧ h.total = k.total ∧ h.id = k.id ∧ h.df = k.df ∧ h.mf = k.mf ∧ h.frag = k.frag ∧ h.ttl = k.ttl ∧ h.proto = k.proto ∧ [h.s0, h.s1, h.s2, h.s3] = [k.s0, k.s1, k.s2, k.s3] ∧ [h.d0, h.d1, h.d2, h.d3] = [k.d0, k.d1, k.d2, k.d3] ∧ o = p) from rfl)
  clear hb0 hb1 hb0' hC hD ho hp heq
  go_enter Try.func17, Try.ntmps17
  go_wp2_with (go_at_call 38; (with_reducible refine HE.out.mono ?_); rintro e w' ⟨rfl, rfl⟩)
  all_goals (
    go_ret
    exact ⟨ret_bool (by rw [HS.out]; clear HS HE; simp_all), below_alloc2 w _ _⟩)
end Go.Proofs.Ytknpaihlnkcpgaa.Own
/- '==' of the reference's headers. (written by wip/gen_lawputs.py) -/
set_option linter.unusedVariables false
set_option linter.unusedSimpArgs false
namespace Go.Proofs.Ytknpaihlnkcpgaa.Own
open Go.RowKit Go.Proofs.YtknpaihlnkcpgaaW.PrintWords Go.Proofs.YtknpaihlnkcpgaaW.PrintLast Go.Proofs.YtknpaihlnkcpgaaW.PrintMore

theorem eqRH (d : Nat) (w : World) (x0 y0 : Int) (x1 y1 : Int) (x2 y2 : Int) (x3 y3 : Bool) (x4 y4 : Bool) (x5 y5 : Int) (x6 y6 : Int) (x7 y7 : Int) (x8 y8 : ByteArray) (x9 y9 : ByteArray) (x10 y10 : ByteArray) :
    (Op.equalIn (d + 2) 41 (.agg #[.int .u8 x0, .int .u16 x1, .int .u16 x2, .bool x3, .bool x4, .int .u16 x5, .int .u8 x6, .int .u8 x7, .string x8, .string x9, .string x10]) (.agg #[.int .u8 y0, .int .u16 y1, .int .u16 y2, .bool y3, .bool y4, .int .u16 y5, .int .u8 y6, .int .u8 y7, .string y8, .string y9, .string y10])).run Try.prog w = .ok (x0 == y0 && (x1 == y1 && (x2 == y2 && (x3 == y3 && (x4 == y4 && (x5 == y5 && (x6 == y6 && (x7 == y7 && (x8.toList == y8.toList && (x9.toList == y9.toList && (x10.toList == y10.toList))))))))))) w := by
  refine eqA_of Try.underlying41 (by kernel_rfl) ?_
  refine eqf_cons (by rfl) (by go_simp; rfl) (by go_simp; rfl) (by go_simp) ?_
  refine eqf_cons (by rfl) (by go_simp; rfl) (by go_simp; rfl) (by go_simp) ?_
  refine eqf_cons (by rfl) (by go_simp; rfl) (by go_simp; rfl) (by go_simp) ?_
  refine eqf_cons (by rfl) (by go_simp; rfl) (by go_simp; rfl) (by go_simp) ?_
  refine eqf_cons (by rfl) (by go_simp; rfl) (by go_simp; rfl) (by go_simp) ?_
  refine eqf_cons (by rfl) (by go_simp; rfl) (by go_simp; rfl) (by go_simp) ?_
  refine eqf_cons (by rfl) (by go_simp; rfl) (by go_simp; rfl) (by go_simp) ?_
  refine eqf_cons (by rfl) (by go_simp; rfl) (by go_simp; rfl) (by go_simp) ?_
  refine eqf_cons (by rfl) (by go_simp; rfl) (by go_simp; rfl) (by go_simp) ?_
  refine eqf_cons (by rfl) (by go_simp; rfl) (by go_simp; rfl) (by go_simp) ?_
  exact eqf_last (by rfl) (by go_simp; rfl) (by go_simp; rfl) (by go_simp)
theorem streq {xs ys : List Int} (hx : bytes xs) (hy : bytes ys) : ((strOfNums xs).toList == (strOfNums ys).toList) = decide (xs = ys) := by
  rw [Lib.strOfNums_toList, Lib.strOfNums_toList, Bool.eq_iff_iff, beq_iff_eq, decide_eq_true_iff]
  exact ⟨map_u8_inj xs ys hx hy, fun h => by rw [h]⟩
theorem bytes_src {h : Hd} (hok : h.ok) : bytes [h.s0, h.s1, h.s2, h.s3] := by
  obtain ⟨_, _, _, _, _, _, a7, a8, a9, a10, _⟩ := hok
  rw [show [h.s0, h.s1, h.s2, h.s3] = [h.s0, h.s1] ++ [h.s2, h.s3] from rfl, bytes_append]
  exact ⟨bytes_two' a7 a8, bytes_two' a9 a10⟩
theorem bytes_dst {h : Hd} (hok : h.ok) : bytes [h.d0, h.d1, h.d2, h.d3] := by
  obtain ⟨_, _, _, _, _, _, _, _, _, _, a11, a12, a13, a14⟩ := hok
  rw [show [h.d0, h.d1, h.d2, h.d3] = [h.d0, h.d1] ++ [h.d2, h.d3] from rfl, bytes_append]
  exact ⟨bytes_two' a11 a12, bytes_two' a13 a14⟩
set_option maxRecDepth 100000 in
theorem docEq (h k : Hd) (o p : List Int) (hok : h.ok) (kok : k.ok) (ho : bytes o) (hp : bytes p) (w : World) :
    (Op.equalIn 10000 41 (.agg #[.int .u8 h.tos, .int .u16 h.total, .int .u16 h.id, .bool h.df, .bool h.mf, .int .u16 h.frag, .int .u8 h.ttl, .int .u8 h.proto, .string (strOfNums [h.s0, h.s1, h.s2, h.s3]), .string (strOfNums [h.d0, h.d1, h.d2, h.d3]), .string (strOfNums o)]) (.agg #[.int .u8 k.tos, .int .u16 k.total, .int .u16 k.id, .bool k.df, .bool k.mf, .int .u16 k.frag, .int .u8 k.ttl, .int .u8 k.proto, .string (strOfNums [k.s0, k.s1, k.s2, k.s3]), .string (strOfNums [k.d0, k.d1, k.d2, k.d3]), .string (strOfNums p)])).run Try.prog w = .ok (sameB h k o p) w := by
  have e := eqRH 9998 w h.tos k.tos h.total k.total h.id k.id h.df k.df h.mf k.mf h.frag k.frag h.ttl k.ttl h.proto k.proto (strOfNums [h.s0, h.s1, h.s2, h.s3]) (strOfNums [k.s0, k.s1, k.s2, k.s3]) (strOfNums [h.d0, h.d1, h.d2, h.d3]) (strOfNums [k.d0, k.d1, k.d2, k.d3]) (strOfNums o) (strOfNums p)
  rw [streq (bytes_src hok) (bytes_src kok), streq (bytes_dst hok) (bytes_dst kok), streq ho hp] at e
  rw [show (9998 + 2 : Nat) = 10000 from rfl] at e
  rw [e]
  congr 1
  rw [Bool.eq_iff_iff]
  simp only [sameB, Bool.and_eq_true, beq_iff_eq, decide_eq_true_iff]
theorem sameB_self (h : Hd) (o : List Int) : sameB h h o o = true := by simp [sameB]
/-- a load of a header as a whole, kept whole by the walk -/
noncomputable def ldV (ty : TypeId) (a : Addr) : Sem Value := loadVar ty a
theorem lv_hd (a : Addr) : loadVar 39 a = ldV 39 a := rfl
theorem lv_rh (a : Addr) : loadVar 41 a = ldV 41 a := rfl
theorem size_hd : (Try.prog.info? 39).map (·.size) = some 17 := by kernel_rfl
theorem size_rh : (Try.prog.info? 41).map (·.size) = some 11 := by kernel_rfl
theorem ld_hd {w : World} {g t : Nat} {h : Hd} {A : Option Addr} {n c : Nat} (hb : w.heap[g]? = some (.cells (hcs h A n c) t (0, 0))) : (ldV 39 ⟨g, 0, none⟩).run Try.prog w = .ok (.agg (hcs h A n c)) w :=
  run_loadVar_row w g t _ _ _ _ hb Try.underlying39 rfl size_hd
theorem ld_rh {w : World} {g t : Nat} {h : Hd} {S D O : ByteArray} (hb : w.heap[g]? = some (.cells (rcs h S D O) t (0, 0))) : (ldV 41 ⟨g, 0, none⟩).run Try.prog w = .ok (.agg (rcs h S D O)) w :=
  run_loadVar_row w g t _ _ _ _ hb Try.underlying41 rfl size_rh
end Go.Proofs.Ytknpaihlnkcpgaa.Own
/- ip.Put of a header that is right. (written by wip/gen_put.py) -/
set_option linter.unusedVariables false
set_option linter.unusedSimpArgs false
namespace Go.Proofs.Ytknpaihlnkcpgaa.Own
open Go.RowKit Go.Proofs.YtknpaihlnkcpgaaW.PrintWords Go.Proofs.YtknpaihlnkcpgaaW.PrintLast Go.Proofs.YtknpaihlnkcpgaaW.PrintMore
attribute [local go_sem ↓] ld17 ld4 sv_hd
attribute [local go_sem] run_sv_hd gv_some isV_some pick2_true stc nfz_false oc1_int oc1_bool oc1_string oc1_slice oc1_pointer oc1_func pick1_true setCells_new setCells_past setCells_drew

set_option maxRecDepth 100000 in
set_option maxHeartbeats 8000000 in
theorem put_right (h : Hd) (A : Option Addr) (n c : Nat) (o : List Int) (w : World) (hok : h.ok) (hn : n ≤ 1000000) (hr : rightB h n = true) (hC : Kd.C (Kd.int .u8) w A n o) (hc : n ≤ c) (ho : bytes o) :
    Calls Try.prog 13 #[.agg (hcs h A n c)] w fun e w' => ∃ x, e = .returned (.tuple #[x, .int .i64 0]) ∧ Kd.R (Kd.int .u8) 5 w' w.heap.size (fun _ => True) x (stands h o (ck (stands h o 0))) ∧ Below w.heap.size w w' := by
  have hq := right_hd h A n c (w.alloc (.cells (hcs h A n c) 39)) hn hok.2.1
  rw [hr] at hq
  have hcc := hd_cells (heap_alloc_new w (.cells (hcs h A n c) 39))
  have hl := fun W => len_hd h A n c W hn
  have hR : h.frag ≤ 8191 ∧ n % 4 = 0 ∧ n ≤ 40 ∧ (20 : Int) + n ≤ h.total := of_decide_eq_true hr
  obtain ⟨hR1, hR2, hR3, hR4⟩ := hR
  have HOK := Aside0.mk hok
  have HC := Aside0.mk hC
  have HC1 := Aside0.mk hc
  have HO := Aside0.mk ho
  have HBY := Aside0.mk (bytes_stands hok ho hR1 hR3 hC.1)
  have hor4 := ip_or4 n hR3
  have horF := ip_orF h.df h.mf h.frag hok.2.2.2.1.1 hR1
  obtain ⟨⟨b0, b1⟩, ⟨b2, b3⟩, ⟨b4, b5⟩, ⟨b6, b7⟩, ⟨b8, b9⟩, ⟨b10, b11⟩, _⟩ := hok
  clear hr hC hc ho hR2 hR4
  obtain ⟨tos, total, id, df, mf, frag, ttl, proto, s0, s1, s2, s3, d0, d1, d2, d3⟩ := h
  dsimp only at b0 b1 b2 b3 b4 b5 b6 b7 b8 b9 b10 b11 hR1 horF
  dsimp only [hcs] at hcc hq hl
  go_enter Try.func13, Try.ntmps13
  go_upto_region 4 with (go_at_call 15; go_must (with_reducible refine hq.mono ?_); rintro e w1 ⟨rfl, hb1⟩)
  have hP := putAt_new (h := ⟨tos, total, id, df, mf, frag, ttl, proto, s0, s1, s2, s3, d0, d1, d2, d3⟩) hb1
  clear hcc hq hb1
  obtain ⟨g, hg⟩ : ∃ g, w1.heap.size = g := ⟨_, rfl⟩
  rw [hg] at hP ⊢
  generalize w1.alloc (.cells #[.slice none 0 0] 68) = W at hP ⊢
  clear hg
  have HP := Aside0.mk hP
  clear hP
  go_cut [20] (fun _ wx => Aside0 (PutAt w wx ⟨tos, total, id, df, mf, frag, ttl, proto, s0, s1, s2, s3, d0, d1, d2, d3⟩ A n c g ([64 + (20 + (n : Int)) / 4, tos])))
  case first =>
    have hcc := hd_cells HP.out.2.1
    dsimp only [hcs] at hcc
    obtain ⟨c0, c1, c2, c3, c4, c5, c6, c7, c8, c9, c10, c11, c12, c13, c14, c15, c16⟩ := hcc
    have hp2 := fun (W2 : World) (hP2 : PutAt w W2 ⟨tos, total, id, df, mf, frag, ttl, proto, s0, s1, s2, s3, d0, d1, d2, d3⟩ A n c g []) => hP2.puts2 (by simp) 1 1 rfl (by decide) (by decide) p256_1 (64 + (20 + (n : Int)) / 4) tos ⟨by omega, by show _ < (256 : Int); omega⟩ ⟨b0, by show _ < (256 : Int); omega⟩
    have e1 : be 1 (64 + (20 + (n : Int)) / 4) = [64 + (20 + (n : Int)) / 4] := be1_of ⟨by omega, by omega⟩
    have e2 : be 1 tos = [tos] := be1_of ⟨b0, b1⟩
    rw [e1, e2] at hp2
    clear e1 e2
    have hw1 := w64_len n hR3
    have hw2 : IntKind.u64.wrap tos = tos := w64_of HOK.out.1 (by decide)
    go_region_held3 (fun w' => w'.cell? ⟨w.heap.size, 0, none⟩ = some (.int .u8 tos) ∧ w'.cell? ⟨w.heap.size, 1, none⟩ = some (.int .u16 total) ∧ w'.cell? ⟨w.heap.size, 2, none⟩ = some (.int .u16 id) ∧ w'.cell? ⟨w.heap.size, 3, none⟩ = some (.bool df) ∧ w'.cell? ⟨w.heap.size, 4, none⟩ = some (.bool mf) ∧ w'.cell? ⟨w.heap.size, 5, none⟩ = some (.int .u16 frag) ∧ w'.cell? ⟨w.heap.size, 6, none⟩ = some (.int .u8 ttl) ∧ w'.cell? ⟨w.heap.size, 7, none⟩ = some (.int .u8 proto) ∧ w'.cell? ⟨w.heap.size, 8, none⟩ = some (.int .u8 s0) ∧ w'.cell? ⟨w.heap.size, 9, none⟩ = some (.int .u8 s1) ∧ w'.cell? ⟨w.heap.size, 10, none⟩ = some (.int .u8 s2) ∧ w'.cell? ⟨w.heap.size, 11, none⟩ = some (.int .u8 s3) ∧ w'.cell? ⟨w.heap.size, 12, none⟩ = some (.int .u8 d0) ∧ w'.cell? ⟨w.heap.size, 13, none⟩ = some (.int .u8 d1) ∧ w'.cell? ⟨w.heap.size, 14, none⟩ = some (.int .u8 d2) ∧ w'.cell? ⟨w.heap.size, 15, none⟩ = some (.int .u8 d3) ∧ w'.cell? ⟨w.heap.size, 16, none⟩ = some (.slice A n c)) (first | exact ⟨c0, c1, c2, c3, c4, c5, c6, c7, c8, c9, c10, c11, c12, c13, c14, c15, c16⟩ | exact held17 hb2 ⟨c0, c1, c2, c3, c4, c5, c6, c7, c8, c9, c10, c11, c12, c13, c14, c15, c16⟩ | exact held17 (below_alloc1 w2 _) (held17 hb2 ⟨c0, c1, c2, c3, c4, c5, c6, c7, c8, c9, c10, c11, c12, c13, c14, c15, c16⟩) | exact hd_cells hP3.2.1) (first | (go_at_call 31; go_must (with_reducible refine (hl _).mono ?_); rintro e w2 ⟨rfl, hb2⟩) | (go_at_call 30; go_must (with_reducible refine (hp2 _ (HP.out.drew.below hb2)).mono ?_); rintro e w3 ⟨rfl, hP3⟩))
    go_wp2
    go_meet
    exact ⟨hP3⟩
  case rest =>
    clear HP hl hor4
    have HP := hcut
    clear hcut
    go_upto_region 5 with fail
    go_cut [40] (fun _ wx => Aside0 (PutAt w wx ⟨tos, total, id, df, mf, frag, ttl, proto, s0, s1, s2, s3, d0, d1, d2, d3⟩ A n c g ([64 + (20 + (n : Int)) / 4, tos] ++ (be 2 total ++ be 2 id ++ be 2 (fl df 16384 + fl mf 8192 + frag)))))
    case first =>
      have hcc := hd_cells HP.out.2.1
      dsimp only [hcs] at hcc
      obtain ⟨c0, c1, c2, c3, c4, c5, c6, c7, c8, c9, c10, c11, c12, c13, c14, c15, c16⟩ := hcc
      have hp3 := fun (W2 : World) (hP2 : PutAt w W2 ⟨tos, total, id, df, mf, frag, ttl, proto, s0, s1, s2, s3, d0, d1, d2, d3⟩ A n c g [64 + (20 + (n : Int)) / 4, tos]) => hP2.puts3d (by simp) 2 2 rfl (by decide) (by decide) p256_2 total id (fl df 16384 + fl mf 8192 + frag) (okN2 ⟨b2, b3⟩) (okN2 ⟨b4, b5⟩) (okF df mf frag b6 hR1)
      have hw1 : IntKind.u64.wrap total = total := w64_of HOK.out.2.1 (by decide)
      have hw2 : IntKind.u64.wrap id = id := w64_of HOK.out.2.2.1 (by decide)
      have hw3 : IntKind.u64.wrap frag = frag := w64_of HOK.out.2.2.2.1 (by decide)
      go_region_held3 (fun w' => w'.cell? ⟨w.heap.size, 0, none⟩ = some (.int .u8 tos) ∧ w'.cell? ⟨w.heap.size, 1, none⟩ = some (.int .u16 total) ∧ w'.cell? ⟨w.heap.size, 2, none⟩ = some (.int .u16 id) ∧ w'.cell? ⟨w.heap.size, 3, none⟩ = some (.bool df) ∧ w'.cell? ⟨w.heap.size, 4, none⟩ = some (.bool mf) ∧ w'.cell? ⟨w.heap.size, 5, none⟩ = some (.int .u16 frag) ∧ w'.cell? ⟨w.heap.size, 6, none⟩ = some (.int .u8 ttl) ∧ w'.cell? ⟨w.heap.size, 7, none⟩ = some (.int .u8 proto) ∧ w'.cell? ⟨w.heap.size, 8, none⟩ = some (.int .u8 s0) ∧ w'.cell? ⟨w.heap.size, 9, none⟩ = some (.int .u8 s1) ∧ w'.cell? ⟨w.heap.size, 10, none⟩ = some (.int .u8 s2) ∧ w'.cell? ⟨w.heap.size, 11, none⟩ = some (.int .u8 s3) ∧ w'.cell? ⟨w.heap.size, 12, none⟩ = some (.int .u8 d0) ∧ w'.cell? ⟨w.heap.size, 13, none⟩ = some (.int .u8 d1) ∧ w'.cell? ⟨w.heap.size, 14, none⟩ = some (.int .u8 d2) ∧ w'.cell? ⟨w.heap.size, 15, none⟩ = some (.int .u8 d3) ∧ w'.cell? ⟨w.heap.size, 16, none⟩ = some (.slice A n c)) (first | exact ⟨c0, c1, c2, c3, c4, c5, c6, c7, c8, c9, c10, c11, c12, c13, c14, c15, c16⟩ | exact held17 (below_drew (below_alloc1 _ _)) ⟨c0, c1, c2, c3, c4, c5, c6, c7, c8, c9, c10, c11, c12, c13, c14, c15, c16⟩ | exact hd_cells hP3.2.1) (first | (go_at_call 32; go_must (with_reducible refine (flag_any _ _ _).mono ?_); rintro e w2 ⟨rfl, rfl⟩) | (go_at_call 30; go_must (with_reducible refine (hp3 _ HP.out).mono ?_); rintro e w3 ⟨rfl, hP3⟩))
      all_goals (
        go_wp2
        go_meet
        exact ⟨hP3⟩)
    case rest =>
      clear HP horF
      have HP := hcut
      clear hcut
      obtain ⟨c0, c1, c2, c3, c4, c5, c6, c7, c8, c9, c10, c11, c12, c13, c14, c15, c16⟩ := hd_cells HP.out.2.1
      have hp4 := fun (W2 : World) (h2 : PutAt w W2 ⟨tos, total, id, df, mf, frag, ttl, proto, s0, s1, s2, s3, d0, d1, d2, d3⟩ A n c g ([64 + (20 + (n : Int)) / 4, tos] ++ (be 2 total ++ be 2 id ++ be 2 (fl df 16384 + fl mf 8192 + frag)))) => h2.puts2 (by simp [be_length]) 1 1 rfl (by decide) (by decide) p256_1 ttl proto (okN1 ⟨b8, b9⟩) (okN1 ⟨b10, b11⟩)
      have e1 : be 1 ttl = [ttl] := be1_of ⟨b8, b9⟩
      have e2 : be 1 proto = [proto] := be1_of ⟨b10, b11⟩
      rw [e1, e2] at hp4
      clear e1 e2
      go_upto_region 7 with (go_at_call 30; go_must (with_reducible refine (hp4 _ HP.out).mono ?_); rintro e w4 ⟨rfl, hP4⟩)
      clear hp4 HP c0 c1 c2 c3 c4 c5 c6 c7 c8 c9 c10 c11 c12 c13 c14 c15 c16
      have hp5 := hP4.puts1 (by simp [be_length]) 2 2 rfl (by decide) (by decide) p256_2 0 ⟨by decide, by decide⟩
      go_upto_region 8 with (go_at_call 30; go_must (with_reducible refine hp5.mono ?_); rintro e w5 ⟨rfl, hP5⟩)
      clear hp5 hP4
      have HP := Aside0.mk hP5
      clear hP5
      go_cut [70] (fun _ wx => Aside0 (PutAt w wx ⟨tos, total, id, df, mf, frag, ttl, proto, s0, s1, s2, s3, d0, d1, d2, d3⟩ A n c g (stands ⟨tos, total, id, df, mf, frag, ttl, proto, s0, s1, s2, s3, d0, d1, d2, d3⟩ o 0)))
      case first =>
        have hc16 := (hd_cells HP.out.2.1).2.2.2.2.2.2.2.2.2.2.2.2.2.2.2.2
        have hlen : ∀ n2, Aside0 (n2 = 8 + n) → ([64 + (20 + (n : Int)) / 4, tos] ++ (be 2 total ++ be 2 id ++ be 2 (fl df 16384 + fl mf 8192 + frag)) ++ ([ttl] ++ [proto]) ++ be 2 0).length + n2 ≤ 1000000 := fun n2 h => by have := h.out; simp [be_length]; omega
        have hcc := HP.out.concat HC.out (by omega) HC1.out
        go_region_held3 (fun w' => w'.cell? ⟨w.heap.size, 16, none⟩ = some (.slice A n c)) (first | exact hc16 | exact pw_cell_below (below_drew (below_alloc1 _ _)) hc16 | exact (hd_cells hP6.2.1).2.2.2.2.2.2.2.2.2.2.2.2.2.2.2.2 | exact (hd_cells hP7.2.1).2.2.2.2.2.2.2.2.2.2.2.2.2.2.2.2) (first | (go_at_call 34; go_must (with_reducible refine hcc.mono ?_); rintro e w6 ⟨A2, n2, c2, rfl, hC6, hn6, hn7, hP6⟩) | (go_at_call 33; go_must (with_reducible refine (hP6.raw hC6 (hlen _ hn7)).mono ?_); rintro e w7 ⟨rfl, hP7⟩))
        go_wp2
        go_meet
        exact ⟨by simpa [stands, HC.out.1] using hP7⟩
      case rest =>
        clear HP
        have HP := hcut
        clear hcut
        have hby : bytes (stands ⟨tos, total, id, df, mf, frag, ttl, proto, s0, s1, s2, s3, d0, d1, d2, d3⟩ o 0) := HBY.out
        have hll : (stands ⟨tos, total, id, df, mf, frag, ttl, proto, s0, s1, s2, s3, d0, d1, d2, d3⟩ o 0).length = 20 + n := by
          have := HC.out.1
          simp [stands, be_length]
          omega
        obtain ⟨L, eL⟩ : ∃ L, stands ⟨tos, total, id, df, mf, frag, ttl, proto, s0, s1, s2, s3, d0, d1, d2, d3⟩ o 0 = L := ⟨_, rfl⟩
        rw [eL] at hby hll HP
        have HBL := Aside0.mk hby
        have HLL := Aside0.mk hll
        have HEL := Aside0.mk eL
        have hl12 : 12 ≤ L.length := by omega
        have hl6 : L.length ≤ 1000000 := by omega
        have hck := ck_range L hby
        obtain ⟨v, ev⟩ : ∃ v, ck L = v := ⟨_, rfl⟩
        rw [ev] at hck
        have hwv : IntKind.u64.wrap v = v := wraps_u64 _ hck.1 (by omega)
        have HEV := Aside0.mk ev
        have hov : okN 2 v := ⟨hck.1, by show v < (65536 : Int); omega⟩
        have hsum : ∀ {W : World} {A2 : Option Addr} {n2 c2 : Nat} (h1 : PutAt w W ⟨tos, total, id, df, mf, frag, ttl, proto, s0, s1, s2, s3, d0, d1, d2, d3⟩ A n c g L) (h2 : Kd.C (Kd.int .u8) W A2 n2 L) (h3 : n2 ≤ c2), Calls Try.prog 36 #[.slice (some ⟨W.heap.size, 0, none⟩) 1 1] (W.alloc (.cells #[.slice A2 n2 c2] 22)) fun e w' => e = .returned (.int .u16 v) ∧ PutAt w w' ⟨tos, total, id, df, mf, frag, ttl, proto, s0, s1, s2, s3, d0, d1, d2, d3⟩ A n c g L := fun h1 h2 h3 => by
          have := h1.sum h2 h3 HBL.out hl6
          rw [HEV.out] at this
          exact this
        clear hby hll eL hck ev
        go_upto_region 9 with fail
        go_cut [70] (fun _ wx => Aside0 (PutAt w wx ⟨tos, total, id, df, mf, frag, ttl, proto, s0, s1, s2, s3, d0, d1, d2, d3⟩ A n c g (splice L 10 (be 2 v))))
        case first =>
          go_region_held3 (fun w' => True) (trivial) (first | (go_at_call 37; go_must (with_reducible refine (HP.out.drew.getb hl6).mono ?_); rintro e w6 ⟨A2, n2, c2, rfl, hR6, hn6, hP6⟩) | (go_at_call 36; go_must (with_reducible refine (hsum hP6 (C_of_R hR6).1 hn6).mono ?_); rintro e w7 ⟨rfl, hP7⟩) | (go_at_call 35; go_must (with_reducible refine (hP7.set hl6 hl12 v hov).mono ?_); rintro e w8 ⟨rfl, hP8⟩))
          go_wp2
          go_meet
          exact ⟨hP8⟩
        case rest =>
          clear HP hsum
          have HP := hcut
          clear hcut
          have hsp : splice L 10 (be 2 v) = stands ⟨tos, total, id, df, mf, frag, ttl, proto, s0, s1, s2, s3, d0, d1, d2, d3⟩ o v := by rw [← HEL.out, splice_stands]
          rw [hsp] at HP
          have hl7 : (stands ⟨tos, total, id, df, mf, frag, ttl, proto, s0, s1, s2, s3, d0, d1, d2, d3⟩ o v).length ≤ 1000000 := by have := HC.out.1; simp [stands, be_length]; omega
          obtain ⟨M, eM⟩ : ∃ M, stands ⟨tos, total, id, df, mf, frag, ttl, proto, s0, s1, s2, s3, d0, d1, d2, d3⟩ o v = M := ⟨_, rfl⟩
          rw [eM] at HP hl7
          have HEM := Aside0.mk eM
          clear hsp eM
          go_wp2_with (go_at_call 37; go_must (with_reducible refine (HP.out.getb hl7).mono ?_); rintro e w6 ⟨A2, n2, c2, rfl, hR6, hn6, hP6⟩)
          refine bodyPost_ret (results_tmp2 rfl _ _ _) rfl ?_
          refine ⟨_, rfl, ?_, hP6.1⟩
          rw [HEL.out, HEV.out, HEM.out]
          exact Kd.R_lower hR6 HP.out.1.size
end Go.Proofs.Ytknpaihlnkcpgaa.Own
/- ip.options' closure: an iterator that keeps its state in a captured box. -/
set_option linter.unusedVariables false
set_option linter.unusedSimpArgs false
namespace Go.Proofs.Ytknpaihlnkcpgaa.Own
open Go.RowKit Go.Proofs.YtknpaihlnkcpgaaW.PrintWords Go.Proofs.YtknpaihlnkcpgaaW.PrintLast Go.Proofs.YtknpaihlnkcpgaaW.PrintMore

/-- an option as the iterator hands it over: its kind, its data's slice, its data -/
abbrev OptV := Int × Value × List Int
def optsOf (D : List OptV) : List (Int × List Int) := D.map fun x => (x.1, x.2.2)
/-- how many bytes the box's slice has -/
def boxLen (Bn : Nat) (W : World) : Nat := match W.cell? ⟨Bn, 0, none⟩ with
  | some (.slice _ n _) => n
  | _ => 0
theorem boxLen_eq {Bn t n c : Nat} {A : Option Addr} {W : World} (h : Boxed W Bn t (.slice A n c)) : boxLen Bn W = n := by
  unfold boxLen; rw [h.cell]

attribute [local go_sem] Oper.semAt_some

set_option maxRecDepth 100000 in
set_option maxHeartbeats 2000000 in
theorem iter_in (Bn l N : Nat) (w0 : World) (J : List OptV → World → Prop) (Jx : World → Prop)
    (hBn : w0.heap.size ≤ Bn)
    (hJb : ∀ s A A', J s A → Below A.heap.size A A' → J s A')
    (hJs : ∀ s A v, J s A → J s (A.setCell ⟨Bn, 0, none⟩ v))
    (hJw : ∀ s A, J s A → Below w0.heap.size w0 A)
    (hY : ∀ pre k v d W0 W1, J pre W0 → Below W0.heap.size W0 W1 → 0 ≤ k → k ≤ 255 → bytes d → d.length ≤ 255 → pre.length < N → Kd.R (Kd.int .u8) 5 W1 W0.heap.size (fun _ => True) v d →
      YieldAt Fence.wide 0 Try.prog l #[.agg #[.int .u8 k, v], .bool true] W1 fun e W' => e = .returned (.bool true) ∧ J (pre ++ [(k, v, d)]) W' ∧ W'.heap[Bn]? = W1.heap[Bn]?)
    (hNo : ∀ pre W1, J pre W1 → YieldAt Fence.wide 0 Try.prog l #[.agg #[.int .u8 0, .slice none 0 0], .bool false] W1 fun e W' => e = .returned (.bool false) ∧ Jx W')
    (b : List Int) (hb : bytes b) (hbn : b.length ≤ N) (A : Option Addr) (c : Nat) (hr : Kd.C (Kd.int .u8) w0 A b.length b) (hc : b.length ≤ c) (W : World) (hB : Boxed W Bn 22 (.slice A b.length c)) (h0 : J [] W) :
    CallsIn Fence.wide 0 Try.prog 47 #[.func (.yield l) #[] #[], .pointer (some ⟨Bn, 0, none⟩)] W fun e W' => (∃ v, e = .returned v) ∧
      ((∃ D, opts b = some (optsOf D) ∧ J D W') ∨ (opts b = none ∧ Jx W')) := by
  refine callsIn_of_wp Try.func47 rfl trivial ?_ rfl
  simp only [Try.ntmps47, List.size_toArray, List.length_cons, List.length_nil, Nat.reduceAdd, Nat.reduceSub, Array.replicate_succ, Array.replicate_zero, List.push_toArray, List.append_toArray, List.nil_append, List.cons_append]
  gi_wp2
  have hinfo := info_u8
  gi_loopw [3] (fun p wr => ∃ (pre : List OptV) (r : List Int) (A' : Option Addr) (n' c' : Nat), r.length = n' ∧ n' ≤ c' ∧ n' + pre.length ≤ N ∧ Aside0 (bytes r) ∧ Aside0 (Boxed wr Bn 22 (.slice A' n' c')) ∧ Aside0 (Kd.C (Kd.int .u8) w0 A' n' r) ∧ Aside0 (opts b = (opts r).map (optsOf pre ++ ·)) ∧ Aside0 (J pre wr))
    (fun p wr => boxLen Bn wr)
  case atStart =>
    exact ⟨[], b, A, b.length, c, rfl, hc, by simpa using hbn, ⟨hb⟩, ⟨hB⟩, ⟨hr⟩, ⟨by simp [optsOf]⟩, ⟨h0⟩⟩
  case round =>
    clear hB h0 hr hb hc
    obtain ⟨pre, r, A', n', c', hrl, hnc, hpN, HBY, HBX, HR, HO, HJ⟩ := hrel
    have hcell := HBX.out.cell
    have hfrz := HBX.out.frozen
    have HW := Aside0.mk (hJw _ _ HJ.out)
    rcases Nat.eq_zero_or_pos n' with hn0 | hn0
    · gi_wp2
      go_end0
      exact ⟨⟨_, rfl⟩, .inl ⟨pre, by rw [HO.out, opts_nil (.inl (by omega))]; simp, HJ.out⟩⟩
    · obtain ⟨ad, rfl, hx⟩ := Kd.at_int HR.out 0 (by omega) (by omega)
      have hw := HW.out
      have hx0 : wr.cell? ad = some (.int .u8 (rd r 0)) := by
        have h := (hw.cell (World.block_lt_of_cell? w0 _ hx)).trans hx
        have e0 : ad.add (0 : Int).toNat = ad := Addr.add_zero' ad
        rw [e0] at h; exact h
      have hxr := bytes_getD HBY.out 0
      have hxe : rd r 0 = r.getD 0 0 := rfl
      rw [hxe] at hx0
      obtain ⟨x, ex⟩ : ∃ x, r.getD 0 0 = x := ⟨_, rfl⟩
      rw [ex] at hx0 hxr
      obtain ⟨x0, x1⟩ := hxr
      clear hx hxe hw
      have HX := Aside0.mk ex
      clear ex
      by_cases hz : x = 0
      · subst hz
        gi_wp2
        go_end0
        exact ⟨⟨_, rfl⟩, .inl ⟨pre, by rw [HO.out, opts_nil (.inr HX.out)]; simp, HJ.out⟩⟩
      · by_cases h1 : x = 1
        · subst h1
          obtain ⟨T, A2, m2, c2, hrun, hC2, hmc, hT, hm⟩ := cut_drop (some ad) n' c' r 1 hrl (by omega) (by omega) hnc
          have HC2 := Aside0.mk (hC2 w0 HR.out)
          have HT := Aside0.mk hT
          clear hC2 hT
          gi_wp2
          go_roundw
          case rel =>
            refine ⟨pre, T, A2, m2, c2, HC2.out.1, hmc, by omega, ⟨by rw [HT.out]; exact bytes_drop HBY.out _⟩, ⟨HBX.out.set _⟩, ⟨HC2.out⟩, ⟨?_⟩, ⟨hJs _ _ _ HJ.out⟩⟩
            rw [HO.out, opts_one (by omega) HX.out, HT.out]; rfl
          case measure => rw [boxLen_eq HBX.out, boxLen_eq (HBX.out.set _)]; omega
        · rcases Nat.lt_or_ge n' 2 with hn2 | hn2
          · have hn1 : n' = 1 := by omega
            subst hn1
            gi_wp2
            refine wpIn_wide.2 ?_
            go_quiet (fail)
            have HJd := Aside0.mk (hJb _ _ _ HJ.out (pw_below_drewN (Below.refl wr.heap.size wr) nq))
            obtain ⟨f, tm, asg, bd, hy, hRd⟩ := hNo pre _ HJd.out
            gi_wp2
            refine ⟨rfl, hRd.mono ?_⟩
            rintro e W3 ⟨rfl, hJx3⟩
            gi_wp2
            refine bodyPost_ret (results_none rfl _ _ _) rfl ?_
            exact ⟨⟨_, rfl⟩, .inr ⟨by rw [HO.out, opts_bad (by omega) (by rw [HX.out]; exact hz) (by rw [HX.out]; exact h1) (.inl (by omega))]; rfl, hJx3⟩⟩
          · obtain ⟨ad', e', hy1⟩ := Kd.at_int HR.out 1 (by omega) (by omega)
            cases e'
            have hw := HW.out
            have hy0 : wr.cell? { block := ad.block, off := ad.off + 1 } = some (.int .u8 (r.getD 1 0)) := (hw.cell (World.block_lt_of_cell? w0 _ hy1)).trans hy1
            have hyr := bytes_getD HBY.out 1
            obtain ⟨y, ey⟩ : ∃ y, r.getD 1 0 = y := ⟨_, rfl⟩
            rw [ey] at hy0 hyr
            obtain ⟨y0, y1⟩ := hyr
            clear hy1 hw
            have HYY := Aside0.mk ey
            clear ey
            have h12 : 1 < n' := by omega
            by_cases hb2 : y < 2
            · gi_wp2
              refine wpIn_wide.2 ?_
              have hd2 : ¬ ((n' : Int) < 2) := by omega
              go_quiet (fail)
              have HJd := Aside0.mk (hJb _ _ _ HJ.out (pw_below_drewN (Below.refl wr.heap.size wr) nq))
              obtain ⟨f, tm, asg, bd, hy, hRd⟩ := hNo pre _ HJd.out
              gi_wp2
              refine ⟨rfl, hRd.mono ?_⟩
              rintro e W3 ⟨rfl, hJx3⟩
              gi_wp2
              refine bodyPost_ret (results_none rfl _ _ _) rfl ?_
              exact ⟨⟨_, rfl⟩, .inr ⟨by rw [HO.out, opts_bad (by omega) (by rw [HX.out]; exact hz) (by rw [HX.out]; exact h1) (.inr (.inl (by rw [HYY.out]; exact hb2)))]; rfl, hJx3⟩⟩
            · by_cases hb3 : (n' : Int) < y
              · gi_wp2
                refine wpIn_wide.2 ?_
                have hd2 : ¬ ((n' : Int) < 2) := by omega
                have hd4 : ¬ (y < 2) := by omega
                go_quiet (fail)
                have HJd := Aside0.mk (hJb _ _ _ HJ.out (pw_below_drewN (Below.refl wr.heap.size wr) nq))
                obtain ⟨f, tm, asg, bd, hy, hRd⟩ := hNo pre _ HJd.out
                gi_wp2
                refine ⟨rfl, hRd.mono ?_⟩
                rintro e W3 ⟨rfl, hJx3⟩
                gi_wp2
                refine bodyPost_ret (results_none rfl _ _ _) rfl ?_
                exact ⟨⟨_, rfl⟩, .inr ⟨by rw [HO.out, opts_bad (by omega) (by rw [HX.out]; exact hz) (by rw [HX.out]; exact h1) (.inr (.inr (by rw [HYY.out, hrl]; exact hb3)))]; rfl, hJx3⟩⟩
              · gi_wp2
                refine wpIn_wide.2 ?_
                have hd2 : ¬ ((n' : Int) < 2) := by omega
                have hd4 : ¬ (y < 2) := by omega
                have hd5 : ¬ ((n' : Int) < y) := by omega
                go_quiet (fail)
                have hm3 : y.toNat ≤ n' := by omega
                obtain ⟨T, A2, m2, c2, hrun, hC2, hmc, hT, hm⟩ := cut_mid (some ad) n' c' r 2 y hrl (by omega) (by omega) (by omega) hnc
                have HC2 := Aside0.mk (hC2 w0 HR.out)
                have HT := Aside0.mk hT
                obtain ⟨T2, A3, m3, c3, hrun2, hC3, hmc3, hT2, hm3'⟩ := cut_drop (some ad) n' c' r y hrl (by omega) (by omega) hnc
                have HC3 := Aside0.mk (hC3 w0 HR.out)
                have HT2 := Aside0.mk hT2
                have hmx : Try.prog.follows .mixedOrders = true := by kernel_rfl
                have HB7 := Aside0.mk (below_tr HW.out (below_drew (pw_below_drewN (Below.refl wr.heap.size wr) nq)))
                have HJ7 := Aside0.mk (hJb _ _ _ HJ.out (below_drew (pw_below_drewN (Below.refl wr.heap.size wr) nq)))
                have HBX7 : Aside0 (Boxed (wr.drewN nq).drew Bn 22 (.slice (some ad) n' c')) := ⟨HBX.out⟩
                have hpl : pre.length < N := by omega
                have hT3 : bytes T := by rw [HT.out]; exact bytes_drop (bytes_take HBY.out _) _
                have hT4 : T.length ≤ 255 := by rw [HC2.out.1]; omega
                have hm140 : m2 ≤ 140737488355328 := by omega
                have HBY2 : Aside0 (bytes T2) := ⟨by rw [HT2.out]; exact bytes_drop HBY.out _⟩
                have HEQ : Aside0 (∀ v : Value, opts b = (opts T2).map (optsOf (pre ++ [(x, v, T)]) ++ ·)) := ⟨fun v => by
                  rw [HO.out, opts_cons (by rw [HX.out]; exact hz) (by rw [HX.out]; exact h1) (by rw [HYY.out, hrl]; omega), HX.out, HYY.out, ← HT2.out, show (r.take y.toNat).drop 2 = T from HT.out.symm, Option.map_map]
                  congr 1
                  funext D
                  simp [optsOf]⟩
                clear hC2 hT hC3 hT2
                gi_wp2
                have hcell6 : (wr.drewN nq).cell? ⟨Bn, 0, none⟩ = some (.slice (some ad) n' c') := hcell
                have hx06 : (wr.drewN nq).cell? ad = some (.int .u8 x) := hx0
                have hx07 : (wr.drewN nq).drew.cell? ad = some (.int .u8 x) := hx0
                clear hcell hx0 hfrz hy0
                revert HB7 HJ7 HBX7 hcell6 hx06 hx07
                obtain ⟨w6, ew6⟩ : ∃ w6, wr.drewN nq = w6 := ⟨_, rfl⟩
                rw [ew6]
                intro HB7 HJ7 HBX7 hcell6 hx06 hx07
                have hbl := World.block_lt_of_cell? _ _ hx07
                have hx255 : x ≤ 255 := by omega
                gi_region_with_o (first
                  | (refine ⟨trivial, rfl, ?_⟩; (with_reducible refine ((callsIn_wide.2 (clone_any T A2 m2 c2 _ (Kd.C_below HC2.out HB7.out) hm140)).mono ?_)); rintro e w7 ⟨v, rfl, hv7, hb7⟩; obtain ⟨A4, c4, rfl⟩ := Kd.R_slice hv7; have hbx7 := HBX7.out.kept (grown_of_below hb7 none) (fun h => nomatch h); have hcell7 := hbx7.cell; have hfrz7 := hbx7.frozen; have hx08 := (hb7.cell hbl).trans hx07; obtain ⟨f, tm, asg, bd, hy, hRd⟩ := hY pre x _ T _ w7 HJ7.out hb7 x0 hx255 hT3 hT4 hpl hv7)
                  | (refine ⟨rfl, ?_⟩; (with_reducible refine (hRd.mono ?_)); rintro e W3 ⟨rfl, hJ3, hk3⟩))
                all_goals (
                  have hbx3 : Boxed W3 Bn 22 (.slice (some ad) n' c') := hk3.trans hbx7
                  have hcell3 := hbx3.cell
                  have hfrz3 := hbx3.frozen
                  have HB3 := Aside0.mk hbx3
                  have HJ3 := Aside0.mk hJ3
                  clear hcell6 hx06 hx07 hcell7 hfrz7 hx08 hRd hy hbx3 hJ3 hbx7 hb7 hv7 hk3
                  gi_wp2
                  go_roundw
                  case rel => exact ⟨pre ++ [(x, .slice A4 T.length c4, T)], T2, A3, m3, c3, HC3.out.1, hmc3, by rw [List.length_append, List.length_singleton]; omega, HBY2, ⟨HB3.out.set _⟩, ⟨HC3.out⟩, ⟨HEQ.out (.slice A4 T.length c4)⟩, ⟨hJs _ _ _ HJ3.out⟩⟩
                  case measure => rw [boxLen_eq HBX.out, boxLen_eq (HB3.out.set _)]; omega)
end Go.Proofs.Ytknpaihlnkcpgaa.Own
/- A range over an iterator that keeps its state in a box (a captured variable that it writes); the body goes on, or leaves by 'return'. At the wide fence. -/
set_option linter.unusedVariables false
namespace Go.Proofs.Ytknpaihlnkcpgaa.Own
open Go.RowKit

/-- a round's body goes on -/
def goesOn {σ : Type} (B Bn : Nat) (I : σ → World → Prop) (s' : σ) (W : World) : Exit → Act → World → Prop
  | .normal, _, W' => KeepsFrom B W W' ∧ W'.heap[Bn]? = W.heap[Bn]? ∧ I s' W'
  | _, _, _ => False
/-- a round's body returns -/
def goesOut (B : Nat) (Ix : World → Prop) (W : World) : Exit → Act → World → Prop
  | .ret, _, W' => KeepsFrom B W W' ∧ Ix W'
  | _, _, _ => False

theorem range_box {P : Program} {g : Operand} {ps : Array Tmp} {assign body : Code} {Q : Exit → Act → World → Prop} {a : Act} {w : World} {gf : Nat} {lb : Array Value}
    (hg : a.eval g = .func (.func gf) #[] lb) (eg : ∀ args w, (callFunc gf args).run P w = .ok (.enter gf args) w)
    (Bn : Nat) (hBn : Bn < w.heap.size) {σ : Type} (I : σ → World → Prop) (Ix : World → Prop) (S : σ → Prop) (Sx : Prop) (s0 : σ)
    (hIb : ∀ s A A', I s A → Below A.heap.size A A' → I s A')
    (hIs : ∀ s A v, I s A → I s (A.setCell ⟨Bn, 0, none⟩ v))
    (hIp : ∀ s A l o o', I s A → w.heap.size ≤ l → A.heap[l]? = some o → o.isCells = false → I s (A.putObj l o'))
    (hIxp : ∀ A l o o', Ix A → w.heap.size ≤ l → A.heap[l]? = some o → o.isCells = false → Ix (A.putObj l o'))
    (h0 : I s0 w) (Y : σ → Array Value → World → σ → Prop) (N : Array Value → Prop)
    (hyes : ∀ l s args s' W, w.heap.size ≤ l → (∃ r, W.heap[l]? = some (.loop r)) → I s W → Y s args W s' → args.size = ps.size ∧
      assign.wpIn (Fence.wide.inRound l) 0 P (Exit.then (fun a' W' => KeepsFrom w.heap.size W W' ∧ W'.heap[Bn]? = W.heap[Bn]? ∧
        ∀ o', body.wpIn (Fence.wide.inRound l) 0 P (goesOn w.heap.size Bn I s' (W'.putObj l o')) a' (W'.putObj l o')) (fun _ _ _ => False))
        { tmps := (ps.zip args).foldl (fun t (p, v) => t.setIfInBounds p v) a.tmps, defers := [] } W)
    (hno : ∀ l s args W, w.heap.size ≤ l → (∃ r, W.heap[l]? = some (.loop r)) → I s W → N args → args.size = ps.size ∧
      assign.wpIn (Fence.wide.inRound l) 0 P (Exit.then (fun a' W' => KeepsFrom w.heap.size W W' ∧
        ∀ o', body.wpIn (Fence.wide.inRound l) 0 P (goesOut w.heap.size Ix (W'.putObj l o')) a' (W'.putObj l o')) (fun _ _ _ => False))
        { tmps := (ps.zip args).foldl (fun t (p, v) => t.setIfInBounds p v) a.tmps, defers := [] } W)
    (hit : ∀ (l : Nat) (J : σ → World → Prop) (Jx : World → Prop) (W : World), W.heap[Bn]? = w.heap[Bn]? →
      (∀ s A A', J s A → Below A.heap.size A A' → J s A') → (∀ s A v, J s A → J s (A.setCell ⟨Bn, 0, none⟩ v)) → (∀ s A, J s A → I s A) →
      (∀ s args s' W, J s W → Y s args W s' → YieldAt Fence.wide 0 P l args W fun e W' => e = .returned (.bool true) ∧ J s' W' ∧ W'.heap[Bn]? = W.heap[Bn]?) →
      (∀ s args W, J s W → N args → YieldAt Fence.wide 0 P l args W fun e W' => e = .returned (.bool false) ∧ Jx W') → J s0 W →
      CallsIn Fence.wide 0 P gf (#[.func (.yield l) #[] #[]] ++ lb) W fun e W' => (∃ v, e = .returned v) ∧ ((∃ s, S s ∧ J s W') ∨ (Sx ∧ Jx W')))
    (hdone : ∀ (D : Nat) (s : σ) (W : World), w.heap.size ≤ D → S s → I s W → W.heap[D]? = some (.deferred (some [])) → Q .normal { a with defers := { target := .collected D, args := #[] } :: a.defers } W)
    (hstop : ∀ (D : Nat) (W : World), w.heap.size ≤ D → Sx → Ix W → W.heap[D]? = some (.deferred (some [])) → Code.ret.wpIn Fence.wide 0 P Q { a with defers := { target := .collected D, args := #[] } :: a.defers } W) :
    (Code.rangeFunc g ps assign body).wpIn Fence.wide 0 P Q a w := by
  refine wpIn_rangeFunc fun fn hfn => ?_
  -- the loop's record, by its state
  obtain ⟨R, hR⟩ : ∃ R : LoopState → Option Code → Loop, R = fun st pe => { state := st, pending := pe, fn, tmps := a.tmps, params := ps, assign, body, defers := w.heap.size } := ⟨_, rfl⟩
  have e1 : ∀ st pe, (R st pe).params = ps := fun st pe => by rw [hR]
  obtain ⟨L, hL⟩ : ∃ L, w.heap.size + 1 = L := ⟨_, rfl⟩
  obtain ⟨W1, hW1⟩ : ∃ W1, (w.alloc (.deferred (some []))).alloc (.loop (R .ready none)) = W1 := ⟨_, rfl⟩
  have hsz : W1.heap.size = w.heap.size + 2 := by rw [← hW1]; simp
  have hB1 : Below w.heap.size w W1 := by rw [← hW1]; exact ((Below.refl _ w).alloc (Nat.le_refl _) _).alloc (by simp) _
  have hl1 : W1.heap[L]? = some (.loop (R .ready none)) := by
    rw [← hW1, ← hL]
    have h := World.alloc_heap_new (w.alloc (.deferred (some []))) (.loop (R .ready none))
    rwa [World.size_alloc] at h
  have hd1 : W1.heap[w.heap.size]? = some (.deferred (some [])) := by
    rw [← hW1]; exact (Below.heap_alloc _ _ _ (by simp)).trans (World.alloc_heap_new w _)
  -- what a round's body leaves of the two blocks
  have two : ∀ {st pe} {A B : World}, KeepsFrom w.heap.size A B → A.heap[L]? = some (.loop (R st pe)) ∧ A.heap[w.heap.size]? = some (.deferred (some [])) → B.heap[L]? = some (.loop (R st pe)) ∧ B.heap[w.heap.size]? = some (.deferred (some [])) :=
    fun hk h => ⟨hk.same _ _ (by omega) h.1 rfl, hk.same _ _ (Nat.le_refl _) h.2 rfl⟩
  have put : ∀ {st pe st' pe'} {A : World}, A.heap[L]? = some (.loop (R st pe)) ∧ A.heap[w.heap.size]? = some (.deferred (some [])) → (A.putObj L (.loop (R st' pe'))).heap[L]? = some (.loop (R st' pe')) ∧ (A.putObj L (.loop (R st' pe'))).heap[w.heap.size]? = some (.deferred (some [])) :=
    fun h => ⟨World.putObj_heap_same (Array.getElem?_eq_some_iff.1 h.1).1, (World.putObj_heap_other (by omega)).trans h.2⟩
  have putB : ∀ {A : World} {o : Obj}, (A.putObj L o).heap[Bn]? = A.heap[Bn]? := fun {A o} => World.putObj_heap_other (by omega)
  refine ⟨L, [{ target := .collected w.heap.size, args := #[] }], W1, { target := .fn (.func gf) lb, args := #[.func (.yield L) #[] #[]] }, W1, gf, #[.func (.yield L) #[] #[]] ++ lb, W1, ?_, ?_, ?_, ?_, (fun h => by cases h), ?_⟩
  · rw [← hW1, ← hL, hR]; exact run_enterLoop_outer _ _ _ _ _
  · simp only [resolve, hg]
    simp [go_sem]
  · intro f' _; trivial
  · simp [invoke, go_sem, eg]
  · refine (hit L (fun s W => I s W ∧ W.heap[L]? = some (.loop (R .ready none)) ∧ W.heap[w.heap.size]? = some (.deferred (some [])))
      (fun W => Ix W ∧ W.heap[L]? = some (.loop (R .done (some .ret))) ∧ W.heap[w.heap.size]? = some (.deferred (some []))) W1 (hB1.block Bn hBn) ?_ ?_ (fun s A h => h.1) ?_ ?_ ?_).mono ?_
    · intro s A A' h hb
      exact ⟨hIb s A A' h.1 hb, (hb.block _ (Array.getElem?_eq_some_iff.1 h.2.1).1).trans h.2.1, (hb.block _ (Array.getElem?_eq_some_iff.1 h.2.2).1).trans h.2.2⟩
    · intro s A v h
      exact ⟨hIs s A v h.1, (Below.heap_setCell _ _ _ _ (by simp; omega)).trans h.2.1, (Below.heap_setCell _ _ _ _ (by simp; omega)).trans h.2.2⟩
    · rintro s args s' W ⟨hi, h2⟩ hy
      obtain ⟨hsiz, has⟩ := hyes L s args s' W (by omega) ⟨_, h2.1⟩ hi hy
      have hyy := run_yield (P := P) (args := args) h2.1 (by rw [e1]; exact hsiz)
      rw [hR] at hyy
      refine ⟨fn, _, assign, body, hyy, roundIn_of_wpIn hfn (wpIn_mono has ?_)⟩
      intro e a' W' hpost
      cases e with
      | normal =>
        obtain ⟨hk, hbn, hbody⟩ := hpost
        have h3 := two hk h2
        refine ⟨_, run_beginRound h3.1 (by rw [hR]), wpIn_mono (hbody _) ?_⟩
        intro e a3 W3 hp
        cases e with
        | normal =>
          obtain ⟨hk3, hbn3, hi3⟩ := hp
          have h4 : (W'.putObj L (.loop { R .ready none with state := .busy })).heap[L]? = some (.loop (R .busy none)) ∧ (W'.putObj L (.loop { R .ready none with state := .busy })).heap[w.heap.size]? = some (.deferred (some [])) := by
            have e : ({ R .ready none with state := .busy } : Loop) = R .busy none := by rw [hR]
            rw [e]; exact put h3
          have h5 := two hk3 h4
          have hend := run_endRound (P := P) none h5.1
          have e2 : ({ R .busy none with state := if (none : Option Code).isNone then .ready else .done, pending := none } : Loop) = R .ready none := by rw [hR]; rfl
          rw [e2] at hend
          exact ⟨_, _, hend, rfl, ⟨hIp _ _ _ _ _ hi3 (by omega) h5.1 rfl, put h5⟩, by rw [putB, hbn3, putB, hbn]⟩
        | _ => exact hp.elim
      | _ => exact hpost.elim
    · rintro s args W ⟨hi, h2⟩ hn
      obtain ⟨hsiz, has⟩ := hno L s args W (by omega) ⟨_, h2.1⟩ hi hn
      have hyy := run_yield (P := P) (args := args) h2.1 (by rw [e1]; exact hsiz)
      rw [hR] at hyy
      refine ⟨fn, _, assign, body, hyy, roundIn_of_wpIn hfn (wpIn_mono has ?_)⟩
      intro e a' W' hpost
      cases e with
      | normal =>
        obtain ⟨hk, hbody⟩ := hpost
        have h3 := two hk h2
        refine ⟨_, run_beginRound h3.1 (by rw [hR]), wpIn_mono (hbody _) ?_⟩
        intro e a3 W3 hp
        cases e with
        | ret =>
          obtain ⟨hk3, hi3⟩ := hp
          have h4 : (W'.putObj L (.loop { R .ready none with state := .busy })).heap[L]? = some (.loop (R .busy none)) ∧ (W'.putObj L (.loop { R .ready none with state := .busy })).heap[w.heap.size]? = some (.deferred (some [])) := by
            have e : ({ R .ready none with state := .busy } : Loop) = R .busy none := by rw [hR]
            rw [e]; exact put h3
          have h5 := two hk3 h4
          have hend := run_endRound (P := P) (some Code.ret) h5.1
          have e2 : ({ R .busy none with state := if (some Code.ret).isNone then .ready else .done, pending := some Code.ret } : Loop) = R .done (some .ret) := by rw [hR]; rfl
          rw [e2] at hend
          exact ⟨_, _, hend, rfl, hIxp _ _ _ _ hi3 (by omega) h5.1 rfl, put h5⟩
        | _ => exact hp.elim
      | _ => exact hpost.elim
    · exact ⟨hIb _ _ _ h0 hB1, hl1, hd1⟩
    · rintro e W2 ⟨⟨v, rfl⟩, (⟨s, hS, hi, h2⟩ | ⟨hSx, hi, h2⟩)⟩
      · have hend := run_endLoop (P := P) h2.1 (by rw [hR]; simp)
        exact ⟨(R .ready none).pending, _, hend, by
          have e : (R .ready none).pending = none := by rw [hR]
          rw [e]
          exact hdone _ s _ (Nat.le_refl _) hS (hIp _ _ _ _ _ hi (by omega) h2.1 rfl) ((World.putObj_heap_other (by omega)).trans h2.2)⟩
      · have hend := run_endLoop (P := P) h2.1 (by rw [hR]; simp)
        exact ⟨(R .done (some .ret)).pending, _, hend, by
          have e : (R .done (some .ret)).pending = some .ret := by rw [hR]
          rw [e]
          exact hstop _ _ (Nat.le_refl _) hSx (hIxp _ _ _ _ hi (by omega) h2.1 rfl) ((World.putObj_heap_other (by omega)).trans h2.2)⟩
end Go.Proofs.Ytknpaihlnkcpgaa.Own
/- ip.Options. -/
set_option linter.unusedVariables false
set_option linter.unusedSimpArgs false
namespace Go.Proofs.Ytknpaihlnkcpgaa.Own
open Go.RowKit Go.Proofs.YtknpaihlnkcpgaaW.PrintWords Go.Proofs.YtknpaihlnkcpgaaW.PrintLast Go.Proofs.YtknpaihlnkcpgaaW.PrintMore

/-- a list of options of one's own, each one's data a row of one's own, no two of them the same -/
def OptRows (W : World) (base : Nat) (lv : Value) (D : List OptV) : Prop :=
  W.ownsRow base 32 2 lv D.length (D.flatMap fun d => [.int .u8 d.1, d.2.1]) ∧
  (∀ d ∈ D, W.ownsRow base 5 1 d.2.1 d.2.2.length (nums .u8 d.2.2)) ∧
  D.Pairwise (fun a b => a.2.1.ownBlock = none ∨ a.2.1.ownBlock ≠ b.2.1.ownBlock)
theorem OptRows.nil (W : World) (base : Nat) : OptRows W base (.slice none 0 0) [] := ⟨World.ownsRow_nil _ _ _ _, (fun d h => by cases h), List.Pairwise.nil⟩
/-- whatever turns blocks that are no rows of bytes, nor of options -/
theorem OptRows.kept {W W' : World} {base : Nat} {lv : Value} {D : List OptV} (h : OptRows W base lv D) {row : Option Nat} (hg : W.grownBy W' row)
    (hr : ∀ k, row = some k → ∀ cells e fr, W.heap[k]? = some (.cells cells e fr) → e ≠ 32 ∧ e ≠ 5) : OptRows W' base lv D := by
  have one : ∀ {e size n v xs}, (e = 32 ∨ e = 5) → W.ownsRow base e size v n xs → W'.ownsRow base e size v n xs := by
    intro e size n v xs he ho
    refine ho.kept hg ?_
    rcases ho.2 with ⟨rfl, _⟩ | ⟨g, cap, cur, rfl, _, hgb, _⟩
    · exact .inl rfl
    · refine .inr fun e' => ?_
      have := hr g (by simpa [Value.ownBlock] using e'.symm) _ _ _ hgb
      rcases he with rfl | rfl
      · exact this.1 rfl
      · exact this.2 rfl
  exact ⟨one (.inl rfl) h.1, fun d hd => one (.inr rfl) (h.2.1 d hd), h.2.2⟩

/-- between two rounds: what the loop's own variables hold -/
def IOpt (s : Nat) (w : World) (pre : List OptV) (W : World) : Prop :=
  (∃ lv, Boxed W (s + 1 + 1) 28 lv ∧ OptRows W s lv pre) ∧ (∃ bv, Boxed W (s + 1 + 1 + 1) 22 bv) ∧ Boxed W s 28 (.slice none 0 0) ∧ Boxed W (s + 1) 25 (.int .i64 0) ∧ Below s w W
/-- behind a return in the body -/
def IxOpt (s : Nat) (w : World) (W : World) : Prop := Boxed W s 28 (.slice none 0 0) ∧ Boxed W (s + 1) 25 (.int .i64 51) ∧ Below s w W
theorem IOpt.kept {s : Nat} {w A A' : World} {pre : List OptV} (h : IOpt s w pre A) {row : Option Nat} (hg : A.grownBy A' row)
    (hr : ∀ k, row = some k → s + 3 ≤ k ∧ ∀ cells e fr, A.heap[k]? = some (.cells cells e fr) → e ≠ 32 ∧ e ≠ 5) (h3 : ∃ bv, Boxed A' (s + 1 + 1 + 1) 22 bv) : IOpt s w pre A' := by
  obtain ⟨⟨lv, hb, hl⟩, h2, h4, h5, h6⟩ := h
  have hlt := hb.lt
  refine ⟨⟨lv, hb.kept hg (fun e => ?_), hl.kept hg (fun k e => (hr k e).2)⟩, h3, h4.kept hg (fun e => ?_), h5.kept hg (fun e => ?_), h6.grown hg (by omega) (fun k e => by have := (hr k e).1; omega)⟩
  · have := (hr _ e.symm).1; omega
  · have := (hr _ e.symm).1; omega
  · have := (hr _ e.symm).1; omega
theorem IOpt.below {s : Nat} {w A A' : World} {pre : List OptV} (h : IOpt s w pre A) (hb : Below A.heap.size A A') : IOpt s w pre A' := by
  obtain ⟨bv, h3⟩ := h.2.1
  exact h.kept (grown_of_below hb none) (fun k e => by cases e) ⟨bv, h3.kept (grown_of_below hb none) (by simp)⟩
theorem IOpt.setBox {s : Nat} {w A : World} {pre : List OptV} (h : IOpt s w pre A) (v : Value) : IOpt s w pre (A.setCell ⟨s + 1 + 1 + 1, 0, none⟩ v) := by
  obtain ⟨bv, h3⟩ := h.2.1
  refine h.kept (grownBy_setCell' A (s + 1 + 1 + 1) v) (fun k e => ?_) ⟨v, h3.set v⟩
  cases e
  refine ⟨by omega, fun cells e fr hk => ?_⟩
  rw [show A.heap[s + 1 + 1 + 1]? = _ from h3] at hk
  cases hk
  exact ⟨by decide, by decide⟩
theorem IOpt.put {s : Nat} {w A : World} {pre : List OptV} (h : IOpt s w pre A) {l : Nat} {o o' : Obj} (hl : s + 4 ≤ l) (hk : A.heap[l]? = some o) (ho : o.isCells = false) : IOpt s w pre (A.putObj l o') := by
  obtain ⟨bv, h3⟩ := h.2.1
  refine h.kept (grownBy_putObj' A l o') (fun k e => ?_) ⟨bv, h3.kept (grownBy_putObj' A l o') (fun e => by cases e; omega)⟩
  cases e
  refine ⟨by omega, fun cells e fr hk' => ?_⟩
  rw [hk] at hk'
  cases hk'
  cases ho
theorem IxOpt.put {s : Nat} {w A : World} (h : IxOpt s w A) {l : Nat} {o o' : Obj} (hl : s + 4 ≤ l) (hk : A.heap[l]? = some o) : IxOpt s w (A.putObj l o') := by
  have hlt := h.2.1.lt
  exact ⟨h.1.kept (grownBy_putObj' A l o') (fun e => by cases e; omega), h.2.1.kept (grownBy_putObj' A l o') (fun e => by cases e; omega), h.2.2.grown (grownBy_putObj' A l o') (by omega) (fun k e => by cases e; omega)⟩

theorem IOpt.appended {s B : Nat} {w W w1 : World} {pre : List OptV} {k : Int} {v lv v' bv : Value} {d : List Int} {tmp : Obj} (h0 : Boxed W s 28 (.slice none 0 0)) (h1 : Boxed W (s + 1) 25 (.int .i64 0))
    (h2 : Boxed W (s + 1 + 1) 28 lv) (h3 : Boxed W (s + 1 + 1 + 1) 22 bv) (hrows : OptRows W s lv pre) (hbw : Below s w W) (hold : ∀ x ∈ pre, ∀ k, x.2.1.ownBlock = some k → k < B)
    (hv : W.ownsRow B 5 1 v d.length (nums .u8 d)) (hsB : s ≤ B) (hown : w1.ownsRow s 32 2 v' (pre.length + 1) ((pre.flatMap fun d => [.int .u8 d.1, d.2.1]) ++ [.int .u8 k, v])) (hgrow : (W.alloc tmp).grownBy w1 lv.ownBlock) :
    IOpt s w (pre ++ [(k, v, d)]) (w1.setCell ⟨s + 1 + 1, 0, none⟩ v') ∧ KeepsOthers W (w1.setCell ⟨s + 1 + 1, 0, none⟩ v') ∧ (w1.setCell ⟨s + 1 + 1, 0, none⟩ v').heap[s + 1 + 1 + 1]? = W.heap[s + 1 + 1 + 1]? := by
  have hs : s ≤ W.heap.size := by have := h0.lt; omega
  obtain ⟨hb1, hb2, hr2, hk2, hbe2⟩ := h2.appended (tmp := tmp) (by decide) hrows.1 hs (by omega) hown hgrow
  have box : ∀ {b t u}, Boxed W b t u → t ≠ 32 → b ≠ s + 1 + 1 → Boxed (w1.setCell ⟨s + 1 + 1, 0, none⟩ v') b t u := fun hb ht hne =>
    ((hb.alloc tmp).kept hgrow (hb.not_row ht hrows.1)).other hne _
  have row : ∀ {base n x xs}, W.ownsRow base 5 1 x n xs → (w1.setCell ⟨s + 1 + 1, 0, none⟩ v').ownsRow base 5 1 x n xs := by
    intro base n x xs ho
    have ho1 := (ho.alloc tmp).kept hgrow (own_type_ne ho hrows.1 (by decide))
    refine ho1.kept (grownBy_setCell' w1 (s + 1 + 1) v') ?_
    rcases ho1.2 with ⟨rfl, _⟩ | ⟨g, cap, cur, rfl, _, hgb, _⟩
    · exact .inl rfl
    · refine .inr fun e' => ?_
      obtain rfl : g = s + 1 + 1 := by simpa [Value.ownBlock] using e'
      rw [show w1.heap[s + 1 + 1]? = _ from hb1] at hgb
      cases hgb
  refine ⟨⟨⟨v', hb2, ⟨?_, ?_, ?_⟩⟩, ⟨bv, box h3 (by decide) (by omega)⟩, box h0 (by decide) (by omega), box h1 (by decide) (by omega), hbw.trans hbe2⟩, hk2, ?_⟩
  · simpa using hr2
  · intro x hx
    rcases List.mem_append.1 hx with hx | hx
    · exact row (hrows.2.1 x hx)
    · rw [List.mem_singleton.1 hx]
      exact own_weaken (row hv) hsB
  · refine List.pairwise_append.2 ⟨hrows.2.2, List.pairwise_singleton _ _, fun a ha b hb => ?_⟩
    rw [List.mem_singleton.1 hb]
    rcases hob : a.2.1.ownBlock with _ | g
    · exact .inl rfl
    · refine .inr fun e => ?_
      have h1 := hold a ha g hob
      have h2 := own_base hv g e.symm
      omega
  · exact (show _ = some _ from box h3 (by decide) (by omega)).trans (show _ = some _ from h3).symm

/-- a row of bytes of one's own, its cells -/
theorem own_of_R {e base : Nat} {w : World} {ok : Nat → Prop} {v : Value} {xs : List Int} (h : Kd.R (Kd.int .u8) e w base ok v xs) : w.ownsRow base e 1 v xs.length (nums .u8 xs) := Kd.own_of_R h

theorem info_opt : (Try.prog.info? 32).map (fun i => (i.zero, i.size, i.bytes)) = some (some (.agg #[.int .u8 0, .slice none 0 0]), 2, 32) := by kernel_rfl

theorem optfn_any (A : Option Addr) (n c : Nat) (w : World) :
    Calls Try.prog 27 #[.slice A n c] w fun e w' => e = .returned (.func (.func 47) #[] #[.pointer (some ⟨w.heap.size, 0, none⟩)]) ∧ w.alloc (.cells #[.slice A n c] 22) = w' := by
  go_enter Try.func27, Try.ntmps27
  go_wp2
  go_ret
  exact ⟨rfl, rfl⟩

attribute [local go_sem] Oper.semAt_some

set_option maxRecDepth 100000 in
set_option maxHeartbeats 2000000 in
theorem options_in (b : List Int) (A : Option Addr) (c : Nat) (w : World) (hr : Kd.C (Kd.int .u8) w A b.length b) (hc : b.length ≤ c) (hb : bytes b) (hn : b.length ≤ 100000) :
    CallsIn Fence.wide 0 Try.prog 10 #[.slice A b.length c] w fun e w' => ∃ lv n, e = .returned (.tuple #[lv, .int .i64 n]) ∧ Below w.heap.size w w' ∧
      ((∃ D, opts b = some (optsOf D) ∧ n = 0 ∧ OptRows w' w.heap.size lv D) ∨ (opts b = none ∧ n = 51 ∧ lv = .slice none 0 0)) := by
  refine callsIn_of_wp_marks Try.func10 rfl trivial ?_ rfl
  simp only [Try.ntmps10, List.size_toArray, List.length_cons, List.length_nil, Nat.reduceAdd, Nat.reduceSub, Array.replicate_succ, Array.replicate_zero, List.push_toArray, List.append_toArray, List.nil_append, List.cons_append]
  gi_wp2_with (refine ⟨trivial, rfl, ?_⟩; (with_reducible refine (callsIn_wide.2 (optfn_any A b.length c _)).mono ?_); rintro e w' ⟨rfl, rfl⟩)
  have b0 : Boxed (w.alloc (.cells #[.slice none 0 0] 28)) w.heap.size 28 (.slice none 0 0) := Boxed.new w _ _
  have b1 := Boxed.new (w.alloc (.cells #[.slice none 0 0] 28)) 25 (.int .i64 0)
  have b2 := Boxed.new ((w.alloc (.cells #[.slice none 0 0] 28)).alloc (.cells #[.int .i64 0] 25)) 28 (.slice none 0 0)
  have b3 := Boxed.new (((w.alloc (.cells #[.slice none 0 0] 28)).alloc (.cells #[.int .i64 0] 25)).alloc (.cells #[.slice none 0 0] 28)) 22 (.slice A b.length c)
  have hB4 := (below_alloc3 w (.cells #[.slice none 0 0] 28) (.cells #[.int .i64 0] 25) (.cells #[.slice none 0 0] 28)).alloc (by simp; omega) (.cells #[.slice A b.length c] 22)
  replace b0 := ((b0.alloc (.cells #[.int .i64 0] 25)).alloc (.cells #[.slice none 0 0] 28)).alloc (.cells #[.slice A b.length c] 22)
  replace b1 := (b1.alloc (.cells #[.slice none 0 0] 28)).alloc (.cells #[.slice A b.length c] 22)
  replace b2 := b2.alloc (.cells #[.slice A b.length c] 22)
  rw [World.size_alloc] at b1
  rw [World.size_alloc, World.size_alloc] at b2
  rw [World.size_alloc, World.size_alloc, World.size_alloc] at b3
  revert b0 b1 b2 b3 hB4
  obtain ⟨W4, hW4⟩ : ∃ W4, (((w.alloc (.cells #[.slice none 0 0] 28)).alloc (.cells #[.int .i64 0] 25)).alloc (.cells #[.slice none 0 0] 28)).alloc (.cells #[.slice A b.length c] 22) = W4 := ⟨_, rfl⟩
  have hsz : W4.heap.size = w.heap.size + 1 + 1 + 1 + 1 := by rw [← hW4]; simp
  rw [hW4]
  intro b3 hB4 b0 b1 b2
  clear hW4
  obtain ⟨s, hs⟩ : ∃ s, w.heap.size = s := ⟨_, rfl⟩
  rw [hs] at b0 b1 b2 b3 hB4 hsz ⊢
  refine range_box (gf := 47) (lb := #[.pointer (some ⟨s + 1 + 1 + 1, 0, none⟩)]) rfl (enters_of Try.func47 (by kernel_rfl) rfl) (s + 1 + 1 + 1) (by omega) (IOpt s w) (IxOpt s w)
    (fun D => opts b = some (optsOf D)) (opts b = none) [] (fun _ _ _ h hb => h.below hb) (fun _ _ v h => h.setBox v) (fun _ _ _ _ _ h hl hk ho => h.put (by omega) hk ho) (fun _ _ _ _ h hl hk _ => h.put (by omega) hk)
    ⟨⟨_, b2, OptRows.nil _ _⟩, ⟨_, b3⟩, b0, b1, hB4⟩
    (fun pre args W s' => ∃ k v d W0, IOpt s w pre W0 ∧ Below W0.heap.size W0 W ∧ 0 ≤ k ∧ k ≤ 255 ∧ bytes d ∧ d.length ≤ 255 ∧ pre.length < b.length ∧ Kd.R (Kd.int .u8) 5 W W0.heap.size (fun _ => True) v d ∧ args = #[.agg #[.int .u8 k, v], .bool true] ∧ s' = pre ++ [(k, v, d)])
    (fun args => args = #[.agg #[.int .u8 0, .slice none 0 0], .bool false]) ?yes ?no ?it ?done ?stop
  case it =>
    intro l J Jx W hWB hJb hJs hJI hY hN h0
    refine iter_in (s + 1 + 1 + 1) l b.length w J Jx (by omega) hJb hJs (fun q A h => hs ▸ (hJI q A h).2.2.2.2) ?_ ?_ b hb (Nat.le_refl _) A c hr hc W (hWB.trans b3) h0
    · intro pre k v d W0 W1 hJ hb1 k0 k1 hd hdl hpl hR
      exact hY pre _ _ W1 (hJb _ _ _ hJ hb1) ⟨k, v, d, W0, hJI _ _ hJ, hb1, k0, k1, hd, hdl, hpl, hR, rfl, rfl⟩
    · intro pre W1 hJ
      exact hN pre _ W1 hJ rfl
  case no =>
    rintro l pre args W hl ⟨r, hlr⟩ hI rfl
    refine ⟨rfl, ?_⟩
    gi_wp2
    refine ⟨(KeepsOthers.alloc _ _).from _, fun o' => ?_⟩
    have hlt : l < W.heap.size := (Array.getElem?_eq_some_iff.1 hlr).1
    have hI5 : IOpt s w pre ((W.alloc (.cells #[.int .u8 0, .slice none 0 0] 32)).putObj l o') :=
      (hI.below ((Below.refl _ W).alloc (Nat.le_refl _) _)).put (by omega) ((Below.heap_alloc _ _ _ hlt).trans hlr) rfl
    obtain ⟨W5, hW5⟩ : ∃ W5, (W.alloc (.cells #[.int .u8 0, .slice none 0 0] 32)).putObj l o' = W5 := ⟨_, rfl⟩
    rw [hW5] at hI5 ⊢
    obtain ⟨_, _, hb0, hb1, hbw⟩ := hI5
    have hc0 := hb0.cell
    have hf0 := hb0.frozen
    have hc1 := hb1.cell
    have hf1 := hb1.frozen
    gi_wp2
    exact ⟨((KeepsOthers.setCell _ _ _).trans (KeepsOthers.setCell _ _ _)).from _, (hb0.set _).other (by omega) _, (hb1.other (by omega) _).set _, (hbw.setCell (p := ⟨s, 0, none⟩) (Nat.le_refl _) _).setCell (p := ⟨s + 1, 0, none⟩) (Nat.le_succ _) _⟩
  case yes =>
    rintro l pre args s' W hl ⟨r, hlr⟩ hI ⟨k, v, d, W0, hI0, hb0, k0, k1, hd, hdl, hpl, hR, rfl, rfl⟩
    refine ⟨rfl, ?_⟩
    obtain ⟨A4, c4, rfl⟩ := Kd.R_slice hR
    gi_wp2
    refine ⟨(KeepsOthers.alloc _ _).from _, Below.heap_alloc _ _ _ (by have := hI.2.1.choose_spec.lt; omega), fun o' => ?_⟩
    have hlt : l < W.heap.size := (Array.getElem?_eq_some_iff.1 hlr).1
    have hlr2 : (W.alloc (.cells #[.int .u8 k, .slice A4 d.length c4] 32)).heap[l]? = some (.loop r) := (Below.heap_alloc _ _ _ hlt).trans hlr
    have hI5 : IOpt s w pre ((W.alloc (.cells #[.int .u8 k, .slice A4 d.length c4] 32)).putObj l o') :=
      (hI.below ((Below.refl _ W).alloc (Nat.le_refl _) _)).put (by omega) hlr2 rfl
    have hx5 : ((W.alloc (.cells #[.int .u8 k, .slice A4 d.length c4] 32)).putObj l o').heap[W.heap.size]? = some (.cells #[.int .u8 k, .slice A4 d.length c4] 32 (0, 0)) :=
      (World.putObj_heap_other (by omega)).trans (World.alloc_heap_new W _)
    have hR5 : Kd.R (Kd.int .u8) 5 ((W.alloc (.cells #[.int .u8 k, .slice A4 d.length c4] 32)).putObj l o') W0.heap.size (fun _ => True) (.slice A4 d.length c4) d := by
      obtain ⟨inner, ho⟩ := Kd.R_own hR
      refine Kd.R_mono (ok := fun k => k ≠ l) (Kd.R_grown (row := some l) (Kd.R_mono (Kd.R_bound (Kd.R_alloc hR _)) (fun k hk => ?_)) (grownBy_putObj' _ l o') (fun k hk e => hk (by cases e; rfl))) (fun _ _ => trivial)
      rintro rfl
      obtain ⟨_, _, _, _, _, cells, hc⟩ := hk
      rw [hlr2] at hc
      cases hc
    have hsz5 : W.heap.size < ((W.alloc (.cells #[.int .u8 k, .slice A4 d.length c4] 32)).putObj l o').heap.size := (Array.getElem?_eq_some_iff.1 hx5).1
    obtain ⟨W5, hW5⟩ : ∃ W5, (W.alloc (.cells #[.int .u8 k, .slice A4 d.length c4] 32)).putObj l o' = W5 := ⟨_, rfl⟩
    rw [hW5] at hI5 hx5 hR5 hsz5 ⊢
    obtain ⟨⟨lv, hb2, hrows⟩, ⟨bv, hb3⟩, hb0', hb1, hbw⟩ := hI5
    obtain ⟨A5, c5, rfl⟩ := own_slice hrows.1
    have hc2 := hb2.cell
    have hf2 := hb2.frozen
    have hcx0 : W5.cell? ⟨W.heap.size, 0, none⟩ = some (.int .u8 k) := (blk_cell hx5 0).trans rfl
    have hcx1 : W5.cell? ⟨W.heap.size, 1, none⟩ = some (.slice A4 d.length c4) := (blk_cell hx5 1).trans rfl
    obtain ⟨i0, hi, hzz⟩ := Option.map_eq_some_iff.1 info_opt
    simp only [Prod.mk.injEq] at hzz
    obtain ⟨hz0, hz1, hz2⟩ := hzz
    have hsz6 : s ≤ (W5.alloc (.cells #[.int .u8 k, .slice A4 d.length c4] 32)).heap.size := by simp; omega
    have hml : pre.length + 1 ≤ maxLen := by simp only [maxLen]; omega
    have hmb : (pre.length + 1) * 32 ≤ 140737488355328 := by omega
    have hone : ∀ u ∈ [Value.int .u8 k, .slice A4 d.length c4], u.oneCell' = true := by simp [Value.oneCell']
    have hnews := World.news_of_block (cs := #[.int .u8 k, .slice A4 d.length c4]) (t := 32) (fr := (0, 0)) (heap_alloc_new W5 _)
    obtain ⟨inner, hoR⟩ := Kd.R_own hR5
    gi_wp2_with (gi_at_builtin; refine wpListIn_append_own _ rfl _ _ 28 rfl s 32 i0 _ 2 32 Try.underlying28 hi hz0 hz1 hz2 rfl (by decide) _ _ _ rfl (hrows.1.alloc _) ⟨W5.heap.size, 0, none⟩ 1 1 [.int .u8 k, .slice A4 d.length c4] rfl rfl hnews hone hml hmb hsz6 ?_; intro v' w1 hown' hgrow _; obtain ⟨g', cap', rfl⟩ := ownsRow_succ hown'; obtain ⟨hv1, hv2, hr2, hk2, hb2'⟩ := hb2.appended (by decide) hrows.1 (by omega) (by omega) hown' hgrow; have hc1' := hv1.cell; have hf1' := hv1.frozen)
    have hl0 := hI0.2.2.1.lt
    obtain ⟨hI6, hk6, hbx6⟩ := IOpt.appended (B := W0.heap.size) hb0' hb1 hb2 hb3 hrows hbw (fun x hx k hk => own_lt (hI0.1.choose_spec.2.2.1 x hx) k hk) (own_of_R hR5) (by omega) hown' hgrow
    exact ⟨hk6.from _, hbx6, hI6⟩
  case done =>
    rintro D E W hD hE ⟨⟨lv, hb2, hrows⟩, _, hb0, hb1, hbw⟩ hK
    have hc0 := hb0.cell
    have hf0 := hb0.frozen
    have hc1 := hb1.cell
    have hf1 := hb1.frozen
    obtain ⟨A5, c5, rfl⟩ := own_slice hrows.1
    have hc2 := hb2.cell
    gi_wp2
    have hK2 := ((KeepsOthers.setCell W ⟨s, 0, none⟩ (.slice A5 E.length c5)).trans (KeepsOthers.setCell _ ⟨s + 1, 0, none⟩ (.int .i64 0))).same D _ hK rfl
    refine ⟨by simp, .inl ⟨_, _, rfl, run_takeDeferred hK2, ?_⟩⟩
    have hgD := grownBy_putObj' ((W.setCell ⟨s, 0, none⟩ (.slice A5 E.length c5)).setCell ⟨s + 1, 0, none⟩ (.int .i64 0)) D (.deferred none)
    have k0 := ((hb0.set (.slice A5 E.length c5)).other (by omega : s ≠ s + 1) (.int .i64 0)).kept hgD (fun e => by cases e; omega)
    have k1' := hb1.other (by omega : s + 1 ≠ s) (.slice A5 E.length c5)
    have k1 := (k1'.set (.int .i64 0)).kept hgD (fun e => by cases e; omega)
    have kr1 := hrows.kept (grownBy_setCell' W s (.slice A5 E.length c5)) (fun k e cells t fr h => by cases e; rw [show W.heap[s]? = _ from hb0] at h; cases h; exact ⟨by decide, by decide⟩)
    have kr2 := kr1.kept (grownBy_setCell' _ (s + 1) (.int .i64 0)) (fun k e cells t fr h => by cases e; rw [show (W.setCell ⟨s, 0, none⟩ (.slice A5 E.length c5)).heap[s + 1]? = _ from k1'] at h; cases h; exact ⟨by decide, by decide⟩)
    have kr := kr2.kept hgD (fun k e cells t fr h => by cases e; rw [hK2] at h; cases h)
    have kb := ((hbw.setCell (p := ⟨s, 0, none⟩) (Nat.le_refl _) (.slice A5 E.length c5)).setCell (p := ⟨s + 1, 0, none⟩) (Nat.le_succ _) (.int .i64 0)).grown hgD (by have := (k1'.set (.int .i64 0)).lt; omega) (fun k e => by cases e; omega)
    clear hc0 hf0 hc1 hf1 hc2 hK2 hgD kr1 kr2 k1'
    revert k0 k1 kr kb
    generalize ((W.setCell ⟨s, 0, none⟩ (.slice A5 E.length c5)).setCell ⟨s + 1, 0, none⟩ (.int .i64 0)).putObj D (.deferred none) = W9
    intro k0 k1 kr kb
    have hc0 := k0.cell
    have hc1 := k1.cell
    refine ⟨.tuple #[.slice A5 E.length c5, .int .i64 0], by simp [results, Try.results10, go_sem, hc0, hc1], ?_⟩
    rw [hs]
    exact ⟨_, _, rfl, kb, .inl ⟨E, hE, rfl, kr⟩⟩
  case stop =>
    rintro D W hD hx ⟨hb0, hb1, hbw⟩ hK
    gi_wp2
    refine ⟨by simp, .inl ⟨_, _, rfl, run_takeDeferred hK, ?_⟩⟩
    have hgD := grownBy_putObj' W D (.deferred none)
    have k0 := hb0.kept hgD (fun e => by cases e; omega)
    have k1 := hb1.kept hgD (fun e => by cases e; omega)
    have kb := hbw.grown hgD (by have := hb0.lt; omega) (fun k e => by cases e; omega)
    clear hgD
    revert k0 k1 kb
    generalize W.putObj D (.deferred none) = W9
    intro k0 k1 kb
    have hc0 := k0.cell
    have hc1 := k1.cell
    refine ⟨.tuple #[.slice none 0 0, .int .i64 51], by simp [results, Try.results10, go_sem, hc0, hc1], ?_⟩
    rw [hs]
    exact ⟨_, _, rfl, kb, .inr ⟨hx, rfl, rfl⟩⟩

/-- **ip.Options**: the options of bytes, or none. -/
theorem options_any (b : List Int) (A : Option Addr) (n c : Nat) (w : World) (hr : Kd.C (Kd.int .u8) w A n b) (hc : n ≤ c) (hb : bytes b) (hn : n ≤ 100000) :
    Calls Try.prog 10 #[.slice A n c] w fun e w' => ∃ lv n, e = .returned (.tuple #[lv, .int .i64 n]) ∧ Below w.heap.size w w' ∧
      ((∃ D, opts b = some (optsOf D) ∧ n = 0 ∧ OptRows w' w.heap.size lv D) ∨ (opts b = none ∧ n = 51 ∧ lv = .slice none 0 0)) := by
  obtain rfl : b.length = n := hr.1
  exact callsIn_wide.1 (options_in b A c w hr hc hb hn)
end Go.Proofs.Ytknpaihlnkcpgaa.Own
/- The works of chapter 05: true. -/
set_option linter.unusedVariables false
set_option linter.unusedSimpArgs false
namespace Go.Proofs.Ytknpaihlnkcpgaa.Own
open Go.RowKit Go.Proofs.YtknpaihlnkcpgaaW.PrintWords Go.Proofs.YtknpaihlnkcpgaaW.PrintLast Go.Proofs.YtknpaihlnkcpgaaW.PrintMore
attribute [local go_sem ↓] ld17 ld4 sv_hd
attribute [local go_sem] run_sv_hd gv_some isV_some pick2_true stc nfz_false oc1_int oc1_bool oc1_string oc1_slice oc1_pointer oc1_func pick1_true setCells_new setCells_past setCells_drew

/-- the header of the example, and its bytes -/
def hdW : Hd := ⟨0, 20, 0, false, false, 0, 1, 6, 0, 0, 0, 0, 0, 0, 0, 0⟩
def rowW : List Int := stands hdW [] (ck (stands hdW [] 0))
theorem rowW_len : rowW.length = 20 := by decide
theorem put_w5 (w : World) :
    Calls Try.prog 13 #[.agg #[.int .u8 0, .int .u16 20, .int .u16 0, .bool false, .bool false, .int .u16 0, .int .u8 1, .int .u8 6, .int .u8 0, .int .u8 0, .int .u8 0, .int .u8 0, .int .u8 0, .int .u8 0, .int .u8 0, .int .u8 0, .slice none 0 0]] w fun e w' => ∃ A c, e = .returned (.tuple #[.slice A 20 c, .int .i64 0]) ∧ Kd.C (Kd.int .u8) w' A 20 rowW ∧ 20 ≤ c ∧ Below w.heap.size w w' := by
  have hok : hdW.ok := by
    unfold Hd.ok inB hdW
    simp
  refine (put_right hdW none 0 0 [] w hok (by decide) (by decide) (Kd.C_nil _ _) (Nat.le_refl _) bytes_nil).mono ?_
  rintro e w' ⟨x, rfl, hx, hb⟩
  obtain ⟨A, c, rfl⟩ := Kd.R_slice hx
  have h := C_of_R hx
  have hl : (stands hdW [] (ck (stands hdW [] 0))).length = 20 := rowW_len
  rw [hl] at h ⊢
  exact ⟨A, c, rfl, h.1, h.2, hb⟩
theorem flat2 {α : Type} (f g : α → Value) : ∀ (D : List α) (i : Nat), (D.flatMap fun d => [f d, g d])[2 * i]? = D[i]?.map f ∧ (D.flatMap fun d => [f d, g d])[2 * i + 1]? = D[i]?.map g
  | [], i => by simp
  | d :: D, 0 => by simp
  | d :: D, i + 1 => by
    have h := flat2 f g D i
    rw [show 2 * (i + 1) = 2 * i + 1 + 1 by omega]
    simpa using h
/-- an option of a list: its cells, and its row -/
theorem OptRows.at_ {W : World} {base : Nat} {lv : Value} {D : List OptV} (h : OptRows W base lv D) (i : Nat) (d : OptV) (hd : D[i]? = some d) :
    ∃ g cap A c, lv = .slice (some ⟨g, 0, none⟩) D.length cap ∧ D.length ≤ cap ∧ base ≤ g ∧ g < W.heap.size ∧ W.cell? ⟨g, 2 * i, none⟩ = some (.int .u8 d.1) ∧ W.cell? ⟨g, 2 * i + 1, none⟩ = some (.slice A d.2.2.length c) ∧ d.2.1 = .slice A d.2.2.length c ∧
      Kd.R (Kd.int .u8) 5 W base (fun _ => True) (.slice A d.2.2.length c) d.2.2 := by
  obtain ⟨h1, h2, _⟩ := h
  have hm := List.mem_of_getElem? hd
  have hpos : 0 < D.length := List.length_pos_of_mem hm
  obtain ⟨g, cap, rfl, hg0, hlt⟩ := h1.form hpos
  have hcap := h1.2
  have hcells := h1.cells (g := g) rfl
  have hR : Kd.R (Kd.int .u8) 5 W base (fun _ => True) d.2.1 d.2.2 := Kd.R_of_own (h1 := fun _ => rfl) (h2 d hm) (fun _ _ => trivial)
  obtain ⟨A, c, e⟩ := Kd.R_slice hR
  obtain ⟨f1, f2⟩ := flat2 (fun d : OptV => Value.int .u8 d.1) (fun d => d.2.1) D i
  rw [hd] at f1 f2
  have c1 := hcells _ _ f1
  have c2 := hcells _ _ f2
  rw [Addr.add_lit, Nat.zero_add] at c1 c2
  refine ⟨g, cap, A, c, rfl, ?_, hg0, hlt, c1, by rw [← e]; exact c2, e, by rw [← e]; exact hR⟩
  rcases hcap with ⟨e1, _⟩ | ⟨g', cap', cur, e1, _, _, hle, _⟩
  · cases e1
  · cases e1; exact hle
theorem opt_w5 (w : World) :
    Calls Try.prog 10 #[.slice (some ⟨w.heap.size, 0, none⟩) 6 6] (w.alloc (.cells #[.int .u8 1, .int .u8 7, .int .u8 3, .int .u8 9, .int .u8 0, .int .u8 5] 5)) fun e w' => ∃ g cap A c, e = .returned (.tuple #[.slice (some ⟨g, 0, none⟩) 1 cap, .int .i64 0]) ∧ 1 ≤ cap ∧
      w'.cell? ⟨g, 0, none⟩ = some (.int .u8 7) ∧ w'.cell? ⟨g, 1, none⟩ = some (.slice A 1 c) ∧ Kd.C (Kd.int .u8) w' A 1 [9] ∧ Below w.heap.size w w' := by
  have hC := C_new_bytes w [1, 7, 3, 9, 0, 5] (by decide)
  refine (options_any [1, 7, 3, 9, 0, 5] _ 6 6 _ hC (Nat.le_refl _) (by decide) (by decide)).mono ?_
  rintro e w' ⟨lv, n, rfl, hb, h⟩
  have ho : opts [1, 7, 3, 9, 0, 5] = some [(7, [9])] := by decide
  rcases h with ⟨D, hD, rfl, hr⟩ | ⟨h, _⟩
  · rw [ho] at hD
    have hD := (Option.some.inj hD).symm
    match D, hD with
    | [(k, v, d)], hD =>
      simp only [optsOf, List.map_cons, List.map_nil, List.cons.injEq, Prod.mk.injEq, and_true] at hD
      obtain ⟨rfl, rfl⟩ := hD
      obtain ⟨g, cap, A, c, rfl, hcap, hg0, hlt, c1, c2, _, hR⟩ := hr.at_ 0 (7, v, [9]) rfl
      exact ⟨g, cap, A, c, rfl, hcap, c1, c2, (C_of_R hR).1, below_tr (below_alloc1 w _) hb⟩
  · rw [ho] at h; cases h

/-- make([]byte, n) -/
theorem make_bytes (w : World) (n : Nat) (ni : Int) (hi : (n : Int) = ni) (hn : n ≤ 1000000) :
    (Instr.makeSlice 22 (.int .i64 ni) (.int .i64 ni)).run Try.prog w = .ok (.slice (some ⟨w.heap.size, 0, none⟩) n n) (w.alloc (.cells (madeCells #[.int .u8 0] n) 5)) := by
  subst hi
  exact print_make (P := Try.prog) 22 5 .u8 1 Try.underlying22 info_u8 (by decide) n (by omega) w
theorem made_C (w : World) (n : Nat) (hn : n ≤ 1000000) : Kd.C (Kd.int .u8) (w.alloc (.cells (madeCells #[.int .u8 0] n) 5)) (some ⟨w.heap.size, 0, none⟩) n (List.replicate n 0) := by
  have h := own_made w w.heap.size 5 .u8 n (Nat.le_refl _) (by omega)
  have hR : Kd.R (Kd.int .u8) 5 (w.alloc (.cells (madeCells #[.int .u8 0] n) 5)) w.heap.size (fun _ => True) (.slice (some ⟨w.heap.size, 0, none⟩) n n) (List.replicate n 0) := Kd.R_of_own (h1 := fun _ => rfl) (by simpa [nums, encs] using h) (fun _ _ => trivial)
  exact (C_of_R hR).1
theorem made_Cg {w : World} {g : Nat} (n : Nat) (hg : w.heap.size = g) (hn : n ≤ 1000000) : Kd.C (Kd.int .u8) (w.alloc (.cells (madeCells #[.int .u8 0] n) 5)) (some ⟨g, 0, none⟩) n (List.replicate n 0) := by
  subst hg
  exact made_C w n hn
theorem opt_w5g {w : World} {g : Nat} (hg : w.heap.size = g) :
    Calls Try.prog 10 #[.slice (some ⟨g, 0, none⟩) 6 6] (w.alloc (.cells #[.int .u8 1, .int .u8 7, .int .u8 3, .int .u8 9, .int .u8 0, .int .u8 5] 5)) fun e w' => ∃ g cap A c, e = .returned (.tuple #[.slice (some ⟨g, 0, none⟩) 1 cap, .int .i64 0]) ∧ 1 ≤ cap ∧
      w'.cell? ⟨g, 0, none⟩ = some (.int .u8 7) ∧ w'.cell? ⟨g, 1, none⟩ = some (.slice A 1 c) ∧ Kd.C (Kd.int .u8) w' A 1 [9] ∧ Below w.heap.size w w' := by
  subst hg
  exact opt_w5 w
set_option maxRecDepth 100000 in
set_option maxHeartbeats 4000000 in
theorem works5 (w : World) :
    Calls Try.prog 8 #[] w fun e w' => e = .returned (.bool true) ∧ Below w.heap.size w w' := by
  have hm19 := fun W => make_bytes W 19 19 rfl (by decide)
  have hm20 := fun W => make_bytes W 20 20 rfl (by decide)
  go_enter Try.func8, Try.ntmps8
  go_wp2_with fail
  refine (put_w5 _).mono ?_
  rintro e w1 ⟨A, c, rfl, hC1, hc1, hb1⟩
  go_wp2_with fail
  with_reducible refine (parse_short _ 19 19 _ (by decide)).mono ?_
  rintro e w2 ⟨rfl, hb2⟩
  go_wp2_with fail
  have hs1 : ∀ (W : World) (o : Obj), (W.alloc o).heap.size = W.heap.size + 1 := fun W o => by simp
  with_reducible refine (parse_version (List.replicate 20 0) _ 20 20 _ (made_Cg 20 (hs1 w2 _) (by decide)) (by decide) (by decide)).mono ?_
  rintro e w3 ⟨rfl, hb3⟩
  clear hm19 hm20
  go_wp2_with fail
  with_reducible refine (opt_w5g (hs1 w3 _)).mono ?_
  rintro e w4 ⟨g4, cap4, A4, c4, rfl, hcap4, hx0, hx1, hC4, hb4⟩
  have HB : Aside0 (Below w.heap.size w w4) := ⟨below_tr hb1 (below_tr (below_alloc1 w1 _) (below_tr hb2 (below_tr (below_alloc2 w2 _ _) (below_tr hb3 (below_tr (below_alloc1 w3 _) hb4)))))⟩
  have HC1 : Aside0 (Kd.C (Kd.int .u8) w4 A 20 rowW) := ⟨Kd.C_below hC1 (below_tr (below_alloc1 w1 _) (below_tr hb2 (below_tr (below_alloc2 w2 _ _) (below_tr hb3 (below_tr (below_alloc1 w3 _) hb4)))))⟩
  have HC4 := Aside0.mk hC4
  clear hs1 hC1 hC4 hb1 hb2 hb3 hb4
  have hlit := fun (W : World) => C_new_bytes W [69, 0, 0, 20, 0, 0, 0, 0, 1, 6] (by decide)
  have hlit9 := fun (W : World) => C_new_bytes W [9] (by decide)
  have hcut := (take_bytes A c rowW 10 (by decide) (by decide) (by rw [rowW_len]; exact hc1)).1
  rw [rowW_len, show (rowW.take (10 : Int).toNat).length = 10 by decide] at hcut
  have htk : Kd.C (Kd.int .u8) w4 A 10 (rowW.take 10) := by
    have h := (take_bytes A c rowW 10 (by decide) (by decide) (by rw [rowW_len]; exact hc1)).2.1 w4 (by rw [rowW_len]; exact HC1.out)
    exact h
  have hsm : ∀ W : World, Below w4.heap.size w4 W → ∀ B, Kd.C (Kd.int .u8) W B 10 [69, 0, 0, 20, 0, 0, 0, 0, 1, 6] → Calls Try.prog 14 #[.slice A 10 c, .slice B 10 10] W fun e w' => e = .returned (.bool true) ∧ W = w' := fun W hb B hB => by
    have h := same_any (rowW.take 10) [69, 0, 0, 20, 0, 0, 0, 0, 1, 6] A B 10 c 10 10 W (Kd.C_below htk hb) hB (by decide) (by decide)
    rwa [show decide (rowW.take 10 = [69, 0, 0, 20, 0, 0, 0, 0, 1, 6]) = true by decide] at h
  have hsm9 : ∀ W : World, Below w4.heap.size w4 W → ∀ B, Kd.C (Kd.int .u8) W B 1 [9] → Calls Try.prog 14 #[.slice A4 1 c4, .slice B 1 1] W fun e w' => e = .returned (.bool true) ∧ W = w' := fun W hb B hB => by
    have h := same_any [9] [9] A4 B 1 c4 1 1 W (Kd.C_below HC4.out hb) hB (by decide) (by decide)
    rwa [show decide (([9] : List Int) = [9]) = true by decide] at h
  have HSM := Aside0.mk hsm
  have HSM9 := Aside0.mk hsm9
  have HL := Aside0.mk hlit
  have HL9 := Aside0.mk hlit9
  clear hsm hsm9 hlit hlit9 htk
  go_wp2_with fail
  with_reducible refine (HSM.out _ (below_alloc1 w4 _) _ (HL.out w4)).mono ?_
  rintro e w5 ⟨rfl, rfl⟩
  have hb5 := below_alloc1 w4 (.cells #[.int .u8 69, .int .u8 0, .int .u8 0, .int .u8 20, .int .u8 0, .int .u8 0, .int .u8 0, .int .u8 0, .int .u8 1, .int .u8 6] 5)
  revert hb5
  generalize w4.alloc (.cells #[.int .u8 69, .int .u8 0, .int .u8 0, .int .u8 20, .int .u8 0, .int .u8 0, .int .u8 0, .int .u8 0, .int .u8 1, .int .u8 6] 5) = w5
  intro hb5
  have hy0 := pw_cell_below hb5 hx0
  have hy1 := pw_cell_below hb5 hx1
  have HB5 := Aside0.mk hb5
  clear hx0 hx1 hb5 HSM HL hcut
  go_wp2_with fail
  with_reducible refine (HSM9.out _ (below_tr HB5.out (below_alloc1 _ _)) _ (HL9.out _)).mono ?_
  rintro e w5 ⟨rfl, rfl⟩
  go_wp2
  go_ret
  exact ⟨rfl, below_tr HB.out (below_tr HB5.out (below_alloc1 _ _))⟩
end Go.Proofs.Ytknpaihlnkcpgaa.Own
/- The walk of the law IpPuts. (written by wip/gen_lawputs.py) -/
set_option linter.unusedVariables false
set_option linter.unusedSimpArgs false
namespace Go.Proofs.Ytknpaihlnkcpgaa.Own
open Go.RowKit Go.Proofs.YtknpaihlnkcpgaaW.PrintWords Go.Proofs.YtknpaihlnkcpgaaW.PrintLast Go.Proofs.YtknpaihlnkcpgaaW.PrintMore
attribute [local go_sem ↓] lv_hd lv_rh sv_rh
attribute [local go_sem] run_sv_rh gv_some isV_some pick2_true stc nfz_false oc1_int oc1_bool oc1_string oc1_slice oc1_pointer oc1_func pick1_true setCells_new setCells_past setCells_drew

theorem inS_append (a b : ByteArray) : inS (a ++ b) = inS a ++ inS b := by simp [inS]
theorem rst_stands {h : Hd} {o : List Int} (hok : h.ok) (ho : bytes o) {n : Nat} (hn : o.length = n) (s : Int) :
    rst h n (inS (strOfNums [h.s0, h.s1, h.s2, h.s3] ++ strOfNums [h.d0, h.d1, h.d2, h.d3] ++ strOfNums o)) s = stands h o s := by
  subst hn
  rw [inS_append, inS_append, inS_str (bytes_src hok), inS_str (bytes_dst hok), inS_str ho]
  simp [rst, stands]
theorem str_size {o : List Int} (ho : bytes o) : (strOfNums o).size = o.length := by rw [← inS_length, inS_str ho]
/-- the document's row of a header that is right, and the code's: the same -/
theorem rput5_doc (h : Hd) (o : List Int) (n : Nat) (w : World) (hok : h.ok) (ho : bytes o) (hn : o.length = n) (hr : rightB h n = true) :
    Calls Try.prog 12 #[.agg (docOf h o)] w fun e w' => ∃ A n c, e = .returned (.tuple #[.slice A n c, .int .i64 0]) ∧ Kd.R (Kd.int .u8) 5 w' w.heap.size (fun _ => True) (.slice A n c) (stands h o (ck (stands h o 0))) ∧ Below w.heap.size w w' := by
  subst hn
  have hq := rput5_right h (strOfNums [h.s0, h.s1, h.s2, h.s3]) (strOfNums [h.d0, h.d1, h.d2, h.d3]) (strOfNums o) w hok (by rw [str_size (bytes_src hok)]; simp) (by rw [str_size (bytes_dst hok)]; simp) (by rw [str_size ho]; exact hr)
  rw [str_size ho, rst_stands hok ho rfl, rst_stands hok ho rfl] at hq
  exact hq
theorem rput5_docW (h : Hd) (o : List Int) (n : Nat) (w : World) (hok : h.ok) (ho : bytes o) (hn : o.length = n) (hn1 : n ≤ 1000) (hr : rightB h n = false) :
    Calls Try.prog 12 #[.agg (docOf h o)] w fun e w' => e = .returned (.tuple #[.slice none 0 0, .int .i64 51]) ∧ Below w.heap.size w w' := by
  subst hn
  exact rput5_wrong h _ _ _ w hok (by rw [str_size ho]; exact hn1) (by rw [str_size ho]; exact hr)
theorem rright_doc (h : Hd) (o : List Int) (n : Nat) (w : World) (hok : h.ok) (ho : bytes o) (hn : o.length = n) (hn1 : n ≤ 1000) :
    Calls Try.prog 16 #[.agg (docOf h o)] w fun e w' => e = .returned (.bool (rightB h n)) ∧ Below w.heap.size w w' := by
  subst hn
  have hq := rright_any h (strOfNums [h.s0, h.s1, h.s2, h.s3]) (strOfNums [h.d0, h.d1, h.d2, h.d3]) (strOfNums o) w hok.2.1 (by rw [str_size ho]; omega)
  rw [str_size ho] at hq
  exact hq
/-- what Put answers: its number, and its row -/
def putF (h : Hd) (n : Nat) : Int := if rightB h n then 0 else 51
def putL (h : Hd) (n : Nat) (o : List Int) : List Int := if rightB h n then stands h o (ck (stands h o 0)) else []
theorem put_all (h : Hd) (A : Option Addr) (n c : Nat) (o : List Int) (w : World) (hok : h.ok) (hn : n ≤ 1000000) (hC : Kd.C (Kd.int .u8) w A n o) (hc : n ≤ c) (ho : bytes o) :
    Calls Try.prog 13 #[.agg (hcs h A n c)] w fun e w' => ∃ A1 n1 c1, e = .returned (.tuple #[.slice A1 n1 c1, .int .i64 (putF h n)]) ∧ Kd.R (Kd.int .u8) 5 w' w.heap.size (fun _ => True) (.slice A1 n1 c1) (putL h n o) ∧ Below w.heap.size w w' := by
  unfold putF putL
  cases hr : rightB h n with
  | false =>
    refine (put_wrong h A n c w hok.2.1 hn hr).mono ?_
    rintro e w' ⟨rfl, hb⟩
    exact ⟨_, _, _, rfl, Kd.R_nil _ _ _ _ _, hb⟩
  | true =>
    refine (put_right h A n c o w hok hn hr hC hc ho).mono ?_
    rintro e w' ⟨x, rfl, hx, hb⟩
    obtain ⟨A1, c1, rfl⟩ := Kd.R_slice hx
    exact ⟨_, _, _, rfl, hx, hb⟩
theorem rput5_all (h : Hd) (o : List Int) (n : Nat) (w : World) (hok : h.ok) (ho : bytes o) (hn : o.length = n) (hn1 : n ≤ 1000) :
    Calls Try.prog 12 #[.agg (docOf h o)] w fun e w' => ∃ A1 n1 c1, e = .returned (.tuple #[.slice A1 n1 c1, .int .i64 (putF h n)]) ∧ Kd.R (Kd.int .u8) 5 w' w.heap.size (fun _ => True) (.slice A1 n1 c1) (putL h n o) ∧ Below w.heap.size w w' := by
  unfold putF putL
  cases hr : rightB h n with
  | false =>
    refine (rput5_docW h o n w hok ho hn hn1 hr).mono ?_
    rintro e w' ⟨rfl, hb⟩
    exact ⟨_, _, _, rfl, Kd.R_nil _ _ _ _ _, hb⟩
  | true =>
    refine (rput5_doc h o n w hok ho hn hr).mono ?_
    rintro e w' ⟨A1, n1, c1, rfl, hx, hb⟩
    exact ⟨_, _, _, rfl, hx, hb⟩
theorem bytes_putL {h : Hd} {n : Nat} {o : List Int} (hok : h.ok) (ho : bytes o) (hn : o.length = n) : bytes (putL h n o) := by
  unfold putL
  cases hr : rightB h n with
  | false => exact bytes_nil
  | true =>
    have hR : h.frag ≤ 8191 ∧ n % 4 = 0 ∧ n ≤ 40 ∧ (20 : Int) + n ≤ h.total := of_decide_eq_true hr
    rw [if_pos rfl, ← rst_stands hok ho hn]
    exact bytes_rst hok hR.2.2.1 (inS_bytes _)
/-- what stays behind the reference's Put: three boxes -/
def LawPuts (w W : World) (h k : Hd) (A B : Option Addr) (n c m d g : Nat) (o : List Int) : Prop :=
  Below w.heap.size w W ∧ W.heap[w.heap.size]? = some (.cells (hcs h A n c) 39 (0, 0)) ∧ W.heap[w.heap.size + 1]? = some (.cells (hcs k B m d) 39 (0, 0)) ∧ W.heap[g]? = some (.cells (docOf h o) 41 (0, 0))
theorem LawPuts.below {w W W' : World} {h k : Hd} {A B : Option Addr} {n c m d g : Nat} {o : List Int} (hL : LawPuts w W h k A B n c m d g o) (hb : Below W.heap.size W W') : LawPuts w W' h k A B n c m d g o :=
  ⟨below_then hL.1 hL.1.size hb, (hb.block _ (blk_lt hL.2.1)).trans hL.2.1, (hb.block _ (blk_lt hL.2.2.1)).trans hL.2.2.1, (hb.block _ (blk_lt hL.2.2.2)).trans hL.2.2.2⟩
end Go.Proofs.Ytknpaihlnkcpgaa.Own
/- What the walk of IpParses holds. -/
set_option linter.unusedVariables false
set_option linter.unusedSimpArgs false
namespace Go.Proofs.Ytknpaihlnkcpgaa.Own
open Go.RowKit Go.Proofs.YtknpaihlnkcpgaaW.PrintWords Go.Proofs.YtknpaihlnkcpgaaW.PrintLast Go.Proofs.YtknpaihlnkcpgaaW.PrintMore

/-- a store of a whole value into a box that has just been made -/
theorem st_new {P : Program} (ty : TypeId) (V Z : Array Value) (hz : Z.size = V.size) (hone : V.all (·.oneCell') = true) (hnf : ∀ w : World, ∀ j, (w.alloc (.cells Z ty)).frozen? ⟨w.heap.size, 0 + j, none⟩ = false) (hi : (P.info? ty).map (·.size) = some V.size) (w : World) :
    (stV ty ⟨w.heap.size, 0, none⟩ (.agg V)).run P (w.alloc (.cells Z ty)) = .ok () (w.alloc (.cells V ty)) := by
  have h := run_storeVar_mid (P := P) (w.alloc (.cells Z ty)) w.heap.size 0 ty V (fun j hj => ⟨by
    rw [blk_cell (heap_alloc_new w _)]
    simp only [Nat.zero_add]
    rw [Array.getElem?_eq_getElem (by omega)]
    rfl, hnf w j⟩) hi hone
  refine h.trans ?_
  rw [setCells_new rfl (by simpa using hz)]
theorem ocv_int (k : IntKind) (n : Int) : (Value.int k n).oneCell' = true := rfl
theorem ocv_bool (b : Bool) : (Value.bool b).oneCell' = true := rfl
theorem ocv_string (s : ByteArray) : (Value.string s).oneCell' = true := rfl
theorem ocv_slice (A : Option Addr) (n c : Nat) : (Value.slice A n c).oneCell' = true := rfl
theorem nf_new (w : World) (Z : Array Value) (t j : Nat) : (w.alloc (.cells Z t)).frozen? ⟨w.heap.size, j, none⟩ = false := fz_new (heap_alloc_new w _) j
theorem R_setcell {w : World} {g base e i : Nat} {ok : Nat → Prop} {v : Value} {xs : List Int} {u : Value} (h : Kd.R (Kd.int .u8) e w base ok v xs) (hg : g < base) : Kd.R (Kd.int .u8) e (w.setCell ⟨g, i, none⟩ u) base ok v xs := by
  have := R_set (vs := [u]) h hg
  have hb := Kd.R_base h
  have ho := h.1
  refine Kd.R_mono (Kd.R_step (Kd.R_tight rfl h) fun k hk _ => Below.heap_setCell _ _ _ k ?_) (fun k hk => ho k hk.symm)
  have := hb k hk.symm
  show k ≠ g
  omega
/-- where the writing over is: three rows of one's own, each made behind the one before; the header's box -/
def PL (wo wj : World) (A1 : Option Addr) (n1 c1 : Nat) (A2 : Option Addr) (n2 c2 : Nat) (A3 : Option Addr) (n3 c3 g B1 B2 : Nat) : Prop :=
  Below wo.heap.size wo wj ∧ wj.cell? ⟨g, 16, none⟩ = some (.slice A1 n1 c1) ∧ (∃ l, Kd.R (Kd.int .u8) 5 wj wo.heap.size (fun _ => True) (.slice A1 n1 c1) l) ∧
    (∃ l, Kd.R (Kd.int .u8) 5 wj B1 (fun _ => True) (.slice A2 n2 c2) l) ∧ (∃ l, Kd.R (Kd.int .u8) 5 wj B2 (fun _ => True) (.slice A3 n3 c3) l) ∧
    (0 < n1 → ∀ a, A1 = some a → a.block < g) ∧ (0 < n2 → ∀ a, A2 = some a → a.block < B2) ∧ wo.heap.size ≤ g ∧ g < B1 ∧ B1 ≤ B2
section
variable {wo wj : World} {A1 A2 A3 : Option Addr} {n1 c1 n2 c2 n3 c3 g B1 B2 : Nat}
theorem PL.put1 (h : PL wo wj A1 n1 c1 A2 n2 c2 A3 n3 c3 g B1 B2) (i : Nat) (hi : i < n1) :
    ∃ ga x, A1 = some ⟨ga, 0, none⟩ ∧ wj.cell? ⟨ga, i, none⟩ = some (.int .u8 x) ∧ wj.frozen? ⟨ga, i, none⟩ = false ∧ ∀ y, PL wo (wj.setCell ⟨ga, i, none⟩ (.int .u8 y)) A1 n1 c1 A2 n2 c2 A3 n3 c3 g B1 B2 := by
  obtain ⟨h1, h2, ⟨l, h3⟩, ⟨l2, h4⟩, ⟨l3, h5⟩, h6, h7, h8, h9, h10⟩ := h
  obtain ⟨ga, rfl, hb, hs, hx, hf, hp⟩ := row_put i h3 hi
  have hg := h6 (by omega) _ rfl
  dsimp only at hg
  refine ⟨ga, _, rfl, hx, hf, fun y => ⟨h1.setCell (p := ⟨ga, i, none⟩) hb _, ?_, ⟨_, hp y⟩, ⟨_, R_setcell h4 (by omega)⟩, ⟨_, R_setcell h5 (by omega)⟩, h6, h7, h8, h9, h10⟩⟩
  rw [World.cell?_setCell_other _ _ _ _ (fun e => by injection e with e; omega)]
  exact h2
end
theorem R_lt {base : Nat} {W : World} {A : Option Addr} {n c : Nat} {l : List Int} (hR : Kd.R (Kd.int .u8) 5 W base (fun _ => True) (.slice A n c) l) : 0 < n → ∀ a, A = some a → a.block < W.heap.size := fun h a e => by
  obtain ⟨g, e', _, hs, _⟩ := row_put 0 hR h
  rw [e] at e'
  injection e' with e'
  rw [e']
  exact hs
def PL2 (wo wj : World) (A2 : Option Addr) (n2 c2 : Nat) (A3 : Option Addr) (n3 c3 B1 B2 : Nat) : Prop :=
  Below wo.heap.size wo wj ∧ (∃ l, Kd.R (Kd.int .u8) 5 wj B1 (fun _ => True) (.slice A2 n2 c2) l) ∧ (∃ l, Kd.R (Kd.int .u8) 5 wj B2 (fun _ => True) (.slice A3 n3 c3) l) ∧
    (0 < n2 → ∀ a, A2 = some a → a.block < B2) ∧ wo.heap.size ≤ B1 ∧ B1 ≤ B2
def PL3 (wo wj : World) (A3 : Option Addr) (n3 c3 B2 : Nat) : Prop :=
  Below wo.heap.size wo wj ∧ (∃ l, Kd.R (Kd.int .u8) 5 wj B2 (fun _ => True) (.slice A3 n3 c3) l) ∧ wo.heap.size ≤ B2
theorem PL.two {wo wj : World} {A1 A2 A3 : Option Addr} {n1 c1 n2 c2 n3 c3 g B1 B2 : Nat} (h : PL wo wj A1 n1 c1 A2 n2 c2 A3 n3 c3 g B1 B2) : PL2 wo wj A2 n2 c2 A3 n3 c3 B1 B2 :=
  ⟨h.1, h.2.2.2.1, h.2.2.2.2.1, h.2.2.2.2.2.2.1, by have := h.2.2.2.2.2.2.2.1; have := h.2.2.2.2.2.2.2.2.1; omega, h.2.2.2.2.2.2.2.2.2⟩
theorem PL2.three {wo wj : World} {A2 A3 : Option Addr} {n2 c2 n3 c3 B1 B2 : Nat} (h : PL2 wo wj A2 n2 c2 A3 n3 c3 B1 B2) : PL3 wo wj A3 n3 c3 B2 :=
  ⟨h.1, h.2.2.1, Nat.le_trans h.2.2.2.2.1 h.2.2.2.2.2⟩
theorem PL2.put {wo wj : World} {A2 A3 : Option Addr} {n2 c2 n3 c3 B1 B2 : Nat} (h : PL2 wo wj A2 n2 c2 A3 n3 c3 B1 B2) (i : Nat) (hi : i < n2) :
    ∃ ga x, A2 = some ⟨ga, 0, none⟩ ∧ wj.cell? ⟨ga, i, none⟩ = some (.int .u8 x) ∧ wj.frozen? ⟨ga, i, none⟩ = false ∧ ∀ y, PL2 wo (wj.setCell ⟨ga, i, none⟩ (.int .u8 y)) A2 n2 c2 A3 n3 c3 B1 B2 := by
  obtain ⟨h1, ⟨l2, h4⟩, ⟨l3, h5⟩, h7, h8, h9⟩ := h
  obtain ⟨ga, rfl, hb, hs, hx, hf, hp⟩ := row_put i h4 hi
  have hg := h7 (by omega) _ rfl
  dsimp only at hg
  exact ⟨ga, _, rfl, hx, hf, fun y => ⟨h1.setCell (p := ⟨ga, i, none⟩) (Nat.le_trans h8 hb) _, ⟨_, hp y⟩, ⟨_, R_setcell h5 hg⟩, h7, h8, h9⟩⟩
theorem PL3.put {wo wj : World} {A3 : Option Addr} {n3 c3 B2 : Nat} (h : PL3 wo wj A3 n3 c3 B2) (i : Nat) (hi : i < n3) :
    ∃ ga x, A3 = some ⟨ga, 0, none⟩ ∧ wj.cell? ⟨ga, i, none⟩ = some (.int .u8 x) ∧ wj.frozen? ⟨ga, i, none⟩ = false ∧ ∀ y, PL3 wo (wj.setCell ⟨ga, i, none⟩ (.int .u8 y)) A3 n3 c3 B2 := by
  obtain ⟨h1, ⟨l3, h5⟩, h8⟩ := h
  obtain ⟨ga, rfl, hb, hs, hx, hf, hp⟩ := row_put i h5 hi
  exact ⟨ga, _, rfl, hx, hf, fun y => ⟨h1.setCell (p := ⟨ga, i, none⟩) (Nat.le_trans h8 hb) _, ⟨_, hp y⟩, h8⟩⟩
end Go.Proofs.Ytknpaihlnkcpgaa.Own
/- The walk of the law IpParses. -/
set_option linter.unusedVariables false
set_option linter.unusedSimpArgs false
namespace Go.Proofs.Ytknpaihlnkcpgaa.Own
open Go.RowKit Go.Proofs.YtknpaihlnkcpgaaW.PrintWords Go.Proofs.YtknpaihlnkcpgaaW.PrintLast Go.Proofs.YtknpaihlnkcpgaaW.PrintMore
attribute [local go_sem ↓] lv_hd lv_rh sv_rh sv_hd
attribute [local go_sem] gv_some isV_some pick2_true stc nfz_false oc1_int oc1_bool oc1_string oc1_slice oc1_pointer oc1_func pick1_true setCells_new setCells_past setCells_drew

/-- what stays behind the reference's calls -/
def LPs (w W : World) (b : List Int) (VR : Array Value) (Aw : Option Addr) (nw : Nat) (Ah : Option Addr) (nh g : Nat) : Prop :=
  Below w.heap.size w W ∧ W.heap[g]? = some (.cells VR 41 (0, 0)) ∧ Kd.C (Kd.int .u8) W Aw nw b ∧ Kd.C (Kd.int .u8) W Ah nh (hopL b)
theorem LPs.below {w W W' : World} {b : List Int} {VR : Array Value} {Aw Ah : Option Addr} {nw nh g : Nat} (h : LPs w W b VR Aw nw Ah nh g) (hb : Below W.heap.size W W') : LPs w W' b VR Aw nw Ah nh g :=
  ⟨below_then h.1 h.1.size hb, (hb.block _ (blk_lt h.2.1)).trans h.2.1, Kd.C_below h.2.2.1 hb, Kd.C_below h.2.2.2 hb⟩
set_option maxRecDepth 100000 in
set_option maxHeartbeats 1000000 in
theorem ipParses_any (b : List Int) (A : Option Addr) (n c : Nat) (w : World) (hC : Kd.C (Kd.int .u8) w A n b) (hc : n ≤ c) (hb : bytes b) (hn9 : n ≤ 9223372036854775807) :
    Calls Try.prog 6 #[.slice A n c] w fun e w' => e = .returned (.bool true) ∧ Below w.heap.size w w' := by
  by_cases h300 : 300 < n
  · clear hC hb
    go_enter Try.func6, Try.ntmps6
    go_wp2_with (go_at_call 8; (with_reducible refine (works5 _).mono ?_); rintro e w1 ⟨rfl, hw1⟩)
    go_ret
    exact ⟨rfl, hw1⟩
  have hn : n ≤ 1000000 := by omega
  have HJ := Aside0.mk (join_any [] b none A 0 0 n c w (C_nil w) hC (by omega))
  have HRP := Aside0.mk (fun W (hW : Below w.heap.size w W) => rparse_all b A n c W (Kd.C_below hC hW) hc hb hn)
  have HRB := Aside0.mk (fun W (hW : Below w.heap.size w W) => rbody_any b A n c W (Kd.C_below hC hW) hc hb hn)
  have HRH := Aside0.mk (fun W (hW : Below w.heap.size w W) => rhop_any b A n c W (Kd.C_below hC hW) hc hb hn)
  have HP := Aside0.mk (fun W (hW : Below w.heap.size w W) => parse_all b A n c W (Kd.C_below hC hW) hc hb hn)
  have HPB := Aside0.mk (fun W (hW : Below w.heap.size w W) => body_any b A n c W (Kd.C_below hC hW) hc hb hn)
  have HPH := Aside0.mk (fun W (hW : Below w.heap.size w W) => hop_any b A n c W (Kd.C_below hC hW) hc hb hn)
  have HPAD := Aside0.mk (fun W => pad_doc b W)
  have HDOC := Aside0.mk (fun A1 n1 c1 W (hW : Kd.C (Kd.int .u8) W A1 n1 (parseO b)) => doc_any (parseH b) A1 n1 c1 (parseO b) W hW)
  have HEQ := Aside0.mk (fun W => docEq (parseH b) (parseH b) (parseO b) (parseO b) (parseH_ok hb) (parseH_ok hb) (bytes_parseO hb) (bytes_parseO hb) W)
  rw [sameB_self] at HEQ
  have HVR : Aside0 (∃ V : Array Value, V = rcs (parseH b) (rparseS b) (rparseD b) (rparseO b)) := ⟨⟨_, rfl⟩⟩
  obtain ⟨VR, eVR⟩ := HVR.out
  have HSR : Aside0 (∀ W : World, (stV 41 ⟨W.heap.size, 0, none⟩ (.agg VR)).run Try.prog (W.alloc (.cells (rcs zHd ⟨#[]⟩ ⟨#[]⟩ ⟨#[]⟩) 41)) = .ok () (W.alloc (.cells VR 41))) := ⟨fun W => by
    rw [eVR]; exact st_new _ (rcs (parseH b) (rparseS b) (rparseD b) (rparseO b)) (rcs zHd ⟨#[]⟩ ⟨#[]⟩ ⟨#[]⟩) rfl (by simp [rcs, ocv_int, ocv_bool, ocv_string, ocv_slice]) (fun w j => nf_new w _ _ _) (by kernel_rfl) W⟩
  have HLR : Aside0 (∀ (W : World) (g t : Nat), W.heap[g]? = some (.cells VR t (0, 0)) → (ldV 41 ⟨g, 0, none⟩).run Try.prog W = .ok (.agg VR) W) := ⟨fun W g t h => by rw [eVR] at h ⊢; exact ld_rh h⟩
  rw [← eVR] at HRP HPAD
  have HVD : Aside0 (∃ V : Array Value, V = docOf (parseH b) (parseO b)) := ⟨⟨_, rfl⟩⟩
  obtain ⟨VD, eVD⟩ := HVD.out
  change Aside0 (∀ W, (Op.equalIn 10000 41 (.agg (docOf (parseH b) (parseO b))) (.agg (docOf (parseH b) (parseO b)))).run Try.prog W = .ok true W) at HEQ
  rw [← eVD] at HPAD HDOC HEQ
  have HLEN := Aside0.mk hC.1
  have HC0 := Aside0.mk hC
  have HBY := Aside0.mk (And.intro hb (And.intro (bytes_bodyL hb) (bytes_hopL hb)))
  obtain ⟨f, ef⟩ : ∃ f, parseC b = f := ⟨_, rfl⟩
  obtain ⟨N, eN⟩ : ∃ N, parseN b = N := ⟨_, rfl⟩
  obtain ⟨fb, efb⟩ : ∃ f, bodyC b = f := ⟨_, rfl⟩
  obtain ⟨fh, efh⟩ : ∃ f, hopC b = f := ⟨_, rfl⟩
  unfold ParseR at HP
  rw [ef, eN] at HRP HP
  rw [efb] at HRB HPB
  rw [efh] at HRH HPH
  clear hC hb ef eN efb efh eVR eVD HVR HVD
  go_enter Try.func6, Try.ntmps6
  go_upto_region 4 with (go_at_call 18; go_must (with_reducible refine HJ.out.mono ?_); rintro e w1 ⟨Aw, nw, cw, rfl, hR1, hb1⟩)
  rw [List.nil_append] at hR1
  have HB1 := Aside0.mk hb1
  have HW1 := Aside0.mk (C_of_R hR1).1
  clear hR1 hb1 HJ
  have hsr := HSR.out
  dsimp only [rcs] at hsr
  go_upto_region 5 with (go_at_call 22; go_must (with_reducible refine (HRP.out _ HB1.out).mono ?_); rintro e w2 ⟨rfl, hb2⟩)
  clear hsr
  have HB2 : Aside0 (Below w.heap.size w (w2.alloc (.cells VR 41))) := ⟨(below_then HB1.out HB1.out.size hb2).alloc (Nat.le_trans HB1.out.size hb2.size) _⟩
  have HX2 := Aside0.mk (heap_alloc_new w2 (.cells VR 41))
  have HW2 : Aside0 (Kd.C (Kd.int .u8) (w2.alloc (.cells VR 41)) Aw nw b) := ⟨Kd.C_alloc (Kd.C_below HW1.out hb2) _⟩
  clear hb2 HB1 HW1
  generalize w2.alloc (.cells VR 41) = w3 at HB2 HX2 HW2 ⊢
  generalize w2.heap.size = g at HX2 ⊢
  go_upto_region 6 with (go_at_call 23; go_must (with_reducible refine (HRB.out _ HB2.out).mono ?_); rintro e w4 ⟨Ab, nb, cb, rfl, hRb, hb4⟩)
  have HB4 := Aside0.mk (below_then HB2.out HB2.out.size hb4)
  have HRb := Aside0.mk hRb
  have HX4 := Aside0.mk ((hb4.block _ (blk_lt HX2.out)).trans HX2.out)
  have HW4 := Aside0.mk (Kd.C_below HW2.out hb4)
  clear hRb hb4 HB2 HX2 HW2
  go_upto_block 0 with (go_at_call 24; go_must (with_reducible refine (HRH.out _ HB4.out).mono ?_); rintro e w5 ⟨Ah, nh, ch, rfl, hRh, hb5⟩)
  have HL : Aside0 (LPs w w5 b VR Aw nw Ah nh g) := ⟨below_then HB4.out HB4.out.size hb5, (hb5.block _ (blk_lt HX4.out)).trans HX4.out, Kd.C_below HW4.out hb5, (C_of_R hRh).1⟩
  clear hRh hb5 HB4 HX4 HW4 HRP HRB HRH HSR
  go_cut [11] (fun _ wx => Aside0 (LPs w wx b VR Aw nw Ah nh g))
  case first =>
    go_wp2_with fail
    go_loopw [11] (fun q wr => ∃ (t : Nat), t ≤ 2 ∧ q = .int .i64 t ∧ Aside0 (LPs w wr b VR Aw nw Ah nh g)) (fun q _ => 2 - (intOf q).toNat)
    case atStart => exact ⟨0, by omega, rfl, HL⟩
    case round =>
      clear HL
      obtain ⟨t, ht, rfl, HL⟩ := hrel
      obtain ⟨wo, rfl⟩ : ∃ wo : World, wo = wr := ⟨_, rfl⟩
      have HLB : Aside0 (Below w.heap.size w wo) := ⟨HL.out.1⟩
      by_cases ht2 : t < 2
      · go_wp2_with fail
        with_reducible refine (HP.out wo HLB.out).mono ?_
        rintro e w6 ⟨A1, n1, c1, rfl, hR6, hb6⟩
        obtain ⟨VH, eVH⟩ : ∃ V, hcs (parseH b) A1 n1 c1 = V := ⟨_, rfl⟩
        rw [eVH]
        have hsh : ∀ W : World, (stV 39 ⟨W.heap.size, 0, none⟩ (.agg VH)).run Try.prog (W.alloc (.cells (hcs zHd none 0 0) 39)) = .ok () (W.alloc (.cells VH 39)) := fun W => by
          rw [← eVH]; exact st_new _ (hcs (parseH b) A1 n1 c1) (hcs zHd none 0 0) rfl (by simp [hcs, ocv_int, ocv_bool, ocv_string, ocv_slice]) (fun w j => nf_new w _ _ _) (by kernel_rfl) W
        dsimp only [hcs] at hsh
        have HVH := Aside0.mk eVH
        have HR6 := Aside0.mk hR6
        have HB6 := Aside0.mk hb6
        clear eVH hR6 hb6
        go_upto_region 11 with fail
        clear hsh
        have HB7 : Aside0 (Below wo.heap.size wo (w6.alloc (.cells VH 39))) := ⟨HB6.out.alloc HB6.out.size _⟩
        have HX7 := Aside0.mk (heap_alloc_new w6 (.cells VH 39))
        have HR7 := Aside0.mk (Kd.R_alloc HR6.out (.cells VH 39))
        have HA1 := Aside0.mk (R_lt HR6.out)
        have HG0 := Aside0.mk HB6.out.size
        have HG1 : Aside0 (w6.heap.size < (w6.alloc (.cells VH 39)).heap.size) := ⟨by simp⟩
        clear HB6 HR6
        generalize w6.alloc (.cells VH 39) = w7 at HB7 HX7 HR7 HG1 ⊢
        generalize w6.heap.size = g2 at HX7 HA1 HG0 HG1 ⊢
        have HW7 : Aside0 (Below w.heap.size w w7) := ⟨below_then HLB.out HLB.out.size HB7.out⟩
        go_upto_region 12 with (go_at_call 25; go_must (with_reducible refine (HPB.out _ HW7.out).mono ?_); rintro e w8 ⟨A2, n2, c2, rfl, hR8, hb8⟩)
        have HR8 := Aside0.mk hR8
        have HB8 := Aside0.mk hb8
        clear hR8 hb8
        have HW8 : Aside0 (Below w.heap.size w w8) := ⟨below_then HW7.out HW7.out.size HB8.out⟩
        go_upto_region 13 with (go_at_call 21; go_must (with_reducible refine (HPH.out _ HW8.out).mono ?_); rintro e w9 ⟨A3, n3, c3, rfl, hR9, hb9⟩)
        have HR9 := Aside0.mk hR9
        have HB9 := Aside0.mk hb9
        clear hR9 hb9
        have hb79 : Below w7.heap.size w7 w9 := below_then HB8.out HB8.out.size HB9.out
        have hb09 : Below wo.heap.size wo w9 := below_then HB7.out HB7.out.size hb79
        have hx9 := (hb79.block _ (blk_lt HX7.out)).trans HX7.out
        have hl9 := HL.out.below hb09
        have HS9 := Aside0.mk (fun (W : World) (hW : Below w9.heap.size w9 W) => (below_then hb09 hb09.size hW : Below wo.heap.size wo W))
        have HK9 : Aside0 (∀ W, Below w9.heap.size w9 W → (∃ l, Kd.R (Kd.int .u8) 5 W wo.heap.size (fun _ => True) (.slice A1 n1 c1) l) ∧ (∃ l, Kd.R (Kd.int .u8) 5 W w7.heap.size (fun _ => True) (.slice A2 n2 c2) l) ∧ (∃ l, Kd.R (Kd.int .u8) 5 W w8.heap.size (fun _ => True) (.slice A3 n3 c3) l) ∧ W.cell? ⟨g2, 16, none⟩ = some (.slice A1 n1 c1)) := ⟨fun W hW => ⟨⟨_, Kd.R_below (Kd.R_below HR7.out hb79) hW⟩, ⟨_, Kd.R_below (Kd.R_below HR8.out HB9.out) hW⟩, ⟨_, Kd.R_below HR9.out hW⟩, by
          have hxw := (hW.block _ (blk_lt hx9)).trans hx9
          rw [← HVH.out] at hxw
          exact (hd_cells hxw).2.2.2.2.2.2.2.2.2.2.2.2.2.2.2.2⟩⟩
        have hmk : ∀ W', Below w9.heap.size w9 W' → Below w9.heap.size w9 W' ∧ (ldV 39 ⟨g2, 0, none⟩).run Try.prog W' = .ok (.agg VH) W' ∧ (ldV 41 ⟨g, 0, none⟩).run Try.prog W' = .ok (.agg VR) W' := fun W' hW => by
          have hxw := (hW.block _ (blk_lt hx9)).trans hx9
          refine ⟨hW, ?_, HLR.out W' g _ (hl9.below hW).2.1⟩
          rw [← HVH.out] at hxw ⊢
          exact ld_hd hxw
        have HMK := Aside0.mk hmk
        have HQ1 : Aside0 (∀ W, Below w9.heap.size w9 W → Calls Try.prog 11 #[.agg VH] W fun e w' => e = .returned (.agg VD) ∧ Below W.heap.size W w') := ⟨fun W hW => by
          rw [← HVH.out]
          exact HDOC.out A1 n1 c1 W (Kd.C_below (Kd.C_below (C_of_R HR7.out).1 hb79) hW)⟩
        have HQ2 : Aside0 (∀ W, Below w9.heap.size w9 W → Calls Try.prog 14 #[.slice A2 n2 c2, .slice Ab nb cb] W fun e w' => e = .returned (.bool true) ∧ W = w') := ⟨fun W hW => by
          have h := same_any (bodyL b) (bodyL b) A2 Ab n2 c2 nb cb W (Kd.C_below (Kd.C_below (C_of_R HR8.out).1 HB9.out) hW) (Kd.C_below (HRb.out _ (Kd.C_below HC0.out hl9.1)) hW) HBY.out.2.1 HBY.out.2.1
          rw [show decide (bodyL b = bodyL b) = true from decide_eq_true rfl] at h
          exact h⟩
        have HQ3 : Aside0 (∀ W, Below w9.heap.size w9 W → Calls Try.prog 14 #[.slice A3 n3 c3, .slice Ah nh ch] W fun e w' => e = .returned (.bool true) ∧ W = w') := ⟨fun W hW => by
          have h := same_any (hopL b) (hopL b) A3 Ah n3 c3 nh ch W (Kd.C_below (C_of_R HR9.out).1 hW) (Kd.C_below hl9.2.2.2 hW) HBY.out.2.2 HBY.out.2.2
          rw [show decide (hopL b = hopL b) = true from decide_eq_true rfl] at h
          exact h⟩
        have HNX : Aside0 (∀ W W', (Below w9.heap.size w9 W ∧ (ldV 39 ⟨g2, 0, none⟩).run Try.prog W = .ok (.agg VH) W ∧ (ldV 41 ⟨g, 0, none⟩).run Try.prog W = .ok (.agg VR) W) → Below W.heap.size W W' → (Below w9.heap.size w9 W' ∧ (ldV 39 ⟨g2, 0, none⟩).run Try.prog W' = .ok (.agg VH) W' ∧ (ldV 41 ⟨g, 0, none⟩).run Try.prog W' = .ok (.agg VR) W')) := ⟨fun W W' hs hb => HMK.out W' (below_then hs.1 hs.1.size hb)⟩
        have heq := HEQ.out
        have HPL : Aside0 (∀ W, Below w9.heap.size w9 W → PL wo W A1 n1 c1 A2 n2 c2 A3 n3 c3 g2 w7.heap.size w8.heap.size) := ⟨fun W hW => ⟨HS9.out W hW, (HK9.out W hW).2.2.2, (HK9.out W hW).1, (HK9.out W hW).2.1, (HK9.out W hW).2.2.1, HA1.out, R_lt HR8.out, HG0.out, HG1.out, HB8.out.size⟩⟩
        clear hb79 hb09 hx9 hl9 hmk HS9 HK9 HR7 HR8 HR9 HB7 HB8 HB9 HX7 HA1 HG0 HG1
        go_region_held3 (fun W' => Below w9.heap.size w9 W' ∧ (ldV 39 ⟨g2, 0, none⟩).run Try.prog W' = .ok (.agg VH) W' ∧ (ldV 41 ⟨g, 0, none⟩).run Try.prog W' = .ok (.agg VR) W') (first | exact HMK.out _ (below_drew (Below.refl _ _)) | (refine HNX.out _ _ ?_ hb; assumption) | assumption) (first
          | (go_at_call 11; go_must (with_reducible refine (HQ1.out _ (And.left (by assumption))).mono ?_); rintro e w1 ⟨rfl, hb⟩)
          | (go_at_call 26; go_must (with_reducible refine (HPAD.out _).mono ?_); rintro e w1 ⟨rfl, hb⟩)
          | (go_at_call 14; (with_reducible refine (HQ2.out _ (And.left (by assumption))).mono ?_); rintro e w1 ⟨rfl, rfl⟩)
          | (go_at_call 14; (with_reducible refine (HQ3.out _ (And.left (by assumption))).mono ?_); rintro e w1 ⟨rfl, rfl⟩))
        have HPQ : Aside0 (PL wo w1 A1 n1 c1 A2 n2 c2 A3 n3 c3 g2 w7.heap.size w8.heap.size) := ⟨HPL.out _ (And.left (by assumption))⟩
        have hn63 : n1 ≤ 9223372036854775807 := by obtain ⟨l, hl⟩ := HPQ.out.2.2.1; exact (C_of_R hl).1.2.1
        have hn64 : n2 ≤ 9223372036854775807 := by obtain ⟨l, hl⟩ := HPQ.out.2.2.2.1; exact (C_of_R hl).1.2.1
        have hn65 : n3 ≤ 9223372036854775807 := by obtain ⟨l, hl⟩ := HPQ.out.2.2.2.2.1; exact (C_of_R hl).1.2.1
        clear HPL HMK HNX HQ1 HQ2 HQ3 heq
        have hsl := HPQ.out.2.1
        go_wp2_with fail
        go_loopw [19] (fun q wj => ∃ (i : Nat), i ≤ n1 ∧ q = .int .i64 i ∧ Aside0 (PL wo wj A1 n1 c1 A2 n2 c2 A3 n3 c3 g2 w7.heap.size w8.heap.size)) (fun q _ => n1 - (intOf q).toNat)
        case atStart => exact ⟨0, by omega, rfl, HPQ⟩
        case round =>
          clear HPQ
          obtain ⟨i, hi, rfl, HPQ⟩ := hrel
          obtain ⟨wj, rfl⟩ : ∃ wj : World, wj = wr := ⟨_, rfl⟩
          have hsl := HPQ.out.2.1
          by_cases hin : i < n1
          · obtain ⟨ga, x, rfl, hcx, hfx, hpn⟩ := HPQ.out.put1 i hin
            have HPN := Aside0.mk hpn
            clear hpn HPQ
            go_wp2
            go_roundw
            case rel => exact ⟨i + 1, by omega, by go_num, ⟨HPN.out _⟩⟩
            case measure => simp [intOf]; omega
          · replace HPQ := Aside0.mk HPQ.out.two
            go_wp2_with fail
            go_loopw [20] (fun q wj => ∃ (i : Nat), i ≤ n2 ∧ q = .int .i64 i ∧ Aside0 (PL2 wo wj A2 n2 c2 A3 n3 c3 w7.heap.size w8.heap.size)) (fun q _ => n2 - (intOf q).toNat)
            case atStart => exact ⟨0, by omega, rfl, HPQ⟩
            case round =>
              clear HPQ
              obtain ⟨i, hi, rfl, HPQ⟩ := hrel
              obtain ⟨wj, rfl⟩ : ∃ wj : World, wj = wr := ⟨_, rfl⟩
              by_cases hin : i < n2
              · obtain ⟨ga, x, rfl, hcx, hfx, hpn⟩ := HPQ.out.put i hin
                have HPN := Aside0.mk hpn
                clear hpn HPQ
                go_wp2
                go_roundw
                case rel => exact ⟨i + 1, by omega, by go_num, ⟨HPN.out _⟩⟩
                case measure => simp [intOf]; omega
              · replace HPQ := Aside0.mk HPQ.out.three
                go_wp2_with fail
                go_loopw [21] (fun q wj => ∃ (i : Nat), i ≤ n3 ∧ q = .int .i64 i ∧ Aside0 (PL3 wo wj A3 n3 c3 w8.heap.size)) (fun q _ => n3 - (intOf q).toNat)
                case atStart => exact ⟨0, by omega, rfl, HPQ⟩
                case round =>
                  clear HPQ
                  obtain ⟨i, hi, rfl, HPQ⟩ := hrel
                  obtain ⟨wj, rfl⟩ : ∃ wj : World, wj = wr := ⟨_, rfl⟩
                  by_cases hin : i < n3
                  · obtain ⟨ga, x, rfl, hcx, hfx, hpn⟩ := HPQ.out.put i hin
                    have HPN := Aside0.mk hpn
                    clear hpn HPQ
                    go_wp2
                    go_roundw
                    case rel => exact ⟨i + 1, by omega, by go_num, ⟨HPN.out _⟩⟩
                    case measure => simp [intOf]; omega
                  · have HPZ : Aside0 (LPs w wj b VR Aw nw Ah nh g) := ⟨HL.out.below HPQ.out.1⟩
                    clear HPQ
                    go_wp2
                    go_roundw
                    case rel => exact ⟨t + 1, by omega, by go_num, HPZ⟩
                    case measure => simp [intOf]; omega
      · go_wp2
        go_meet
        exact HL
  case rest =>
    clear HL
    have HL := hcut
    clear hcut
    have hsm : ∀ W, Below wc.heap.size wc W → Calls Try.prog 14 #[.slice A n c, .slice Aw nw cw] W fun e w' => e = .returned (.bool true) ∧ W = w' := fun W hW => by
      have h := same_any b b A Aw n c nw cw W (Kd.C_below HC0.out (below_then HL.out.1 HL.out.1.size hW)) (Kd.C_below HL.out.2.2.1 hW) HBY.out.1 HBY.out.1
      rw [show decide (b = b) = true from decide_eq_true rfl] at h
      exact h
    have hsm := hsm wc (Below.refl _ _)
    have HLB : Aside0 (Below w.heap.size w wc) := ⟨HL.out.1⟩
    have HSM := Aside0.mk hsm
    clear hsm HL
    go_wp2_with (first | (go_at_call 14; go_must (with_reducible refine HSM.out.mono ?_); rintro e w1 ⟨rfl, rfl⟩) | (go_at_call 8; (with_reducible refine (works5 _).mono ?_); rintro e w1 ⟨rfl, hw1⟩))
    go_ret
    exact ⟨rfl, below_then HLB.out HLB.out.size hw1⟩
end Go.Proofs.Ytknpaihlnkcpgaa.Own
