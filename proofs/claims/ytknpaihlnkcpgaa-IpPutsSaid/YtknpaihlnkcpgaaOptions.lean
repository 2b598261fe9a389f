/- ip.Options. -/
import Derived.Test.YtknpaihlnkcpgaaOptIter
import Derived.Test.YtknpaihlnkcpgaaRangeBox
set_option linter.unusedVariables false
set_option linter.unusedSimpArgs false
namespace Go.Proofs.Ytknpaihlnkcpgaa.Own
open Go.RowKit Go.Proofs.YtknpaihlnkcpgaaW.PrintWords Go.Proofs.YtknpaihlnkcpgaaW.PrintLast Go.Proofs.YtknpaihlnkcpgaaW.PrintMore

/-- a list of options of one's own, each one's data a row of one's own, no two of them the same -/
def OptRows (W : World) (base : Nat) (lv : Value) (D : List OptV) : Prop :=
  W.ownsRow base 32 2 lv D.length (D.flatMap fun d => [.int .u8 d.1, d.2.1]) ∧
  (∀ d ∈ D, W.ownsRow base 5 1 d.2.1 d.2.2.length (nums .u8 d.2.2)) ∧
  D.Pairwise (fun a b => a.2.1.ownBlock = none ∨ a.2.1.ownBlock ≠ b.2.1.ownBlock)
theorem OptRows.nil (W : World) (base : Nat) : OptRows W base (.slice none 0 0) [] := ⟨World.ownsRow_nil _ _ _ _, (fun d h => by cases h), List.Pairwise.nil⟩
/-- whatever turns blocks that are no rows of bytes, nor of options -/
theorem OptRows.kept {W W' : World} {base : Nat} {lv : Value} {D : List OptV} (h : OptRows W base lv D) {row : Option Nat} (hg : W.grownBy W' row)
    (hr : ∀ k, row = some k → ∀ cells e fr, W.heap[k]? = some (.cells cells e fr) → e ≠ 32 ∧ e ≠ 5) : OptRows W' base lv D := by
  have one : ∀ {e size n v xs}, (e = 32 ∨ e = 5) → W.ownsRow base e size v n xs → W'.ownsRow base e size v n xs := by
    intro e size n v xs he ho
    refine ho.kept hg ?_
    rcases ho.2 with ⟨rfl, _⟩ | ⟨g, cap, cur, rfl, _, hgb, _⟩
    · exact .inl rfl
    · refine .inr fun e' => ?_
      have := hr g (by simpa [Value.ownBlock] using e'.symm) _ _ _ hgb
      rcases he with rfl | rfl
      · exact this.1 rfl
      · exact this.2 rfl
  exact ⟨one (.inl rfl) h.1, fun d hd => one (.inr rfl) (h.2.1 d hd), h.2.2⟩

/-- between two rounds: what the loop's own variables hold -/
def IOpt (s : Nat) (w : World) (pre : List OptV) (W : World) : Prop :=
  (∃ lv, Boxed W (s + 1 + 1) 28 lv ∧ OptRows W s lv pre) ∧ (∃ bv, Boxed W (s + 1 + 1 + 1) 22 bv) ∧ Boxed W s 28 (.slice none 0 0) ∧ Boxed W (s + 1) 25 (.int .i64 0) ∧ Below s w W
/-- behind a return in the body -/
def IxOpt (s : Nat) (w : World) (W : World) : Prop := Boxed W s 28 (.slice none 0 0) ∧ Boxed W (s + 1) 25 (.int .i64 51) ∧ Below s w W
theorem IOpt.kept {s : Nat} {w A A' : World} {pre : List OptV} (h : IOpt s w pre A) {row : Option Nat} (hg : A.grownBy A' row)
    (hr : ∀ k, row = some k → s + 3 ≤ k ∧ ∀ cells e fr, A.heap[k]? = some (.cells cells e fr) → e ≠ 32 ∧ e ≠ 5) (h3 : ∃ bv, Boxed A' (s + 1 + 1 + 1) 22 bv) : IOpt s w pre A' := by
  obtain ⟨⟨lv, hb, hl⟩, h2, h4, h5, h6⟩ := h
  have hlt := hb.lt
  refine ⟨⟨lv, hb.kept hg (fun e => ?_), hl.kept hg (fun k e => (hr k e).2)⟩, h3, h4.kept hg (fun e => ?_), h5.kept hg (fun e => ?_), h6.grown hg (by omega) (fun k e => by have := (hr k e).1; omega)⟩
  · have := (hr _ e.symm).1; omega
  · have := (hr _ e.symm).1; omega
  · have := (hr _ e.symm).1; omega
theorem IOpt.below {s : Nat} {w A A' : World} {pre : List OptV} (h : IOpt s w pre A) (hb : Below A.heap.size A A') : IOpt s w pre A' := by
  obtain ⟨bv, h3⟩ := h.2.1
  exact h.kept (grown_of_below hb none) (fun k e => by cases e) ⟨bv, h3.kept (grown_of_below hb none) (by simp)⟩
theorem IOpt.setBox {s : Nat} {w A : World} {pre : List OptV} (h : IOpt s w pre A) (v : Value) : IOpt s w pre (A.setCell ⟨s + 1 + 1 + 1, 0, none⟩ v) := by
  obtain ⟨bv, h3⟩ := h.2.1
  refine h.kept (grownBy_setCell' A (s + 1 + 1 + 1) v) (fun k e => ?_) ⟨v, h3.set v⟩
  cases e
  refine ⟨by omega, fun cells e fr hk => ?_⟩
  rw [show A.heap[s + 1 + 1 + 1]? = _ from h3] at hk
  cases hk
  exact ⟨by decide, by decide⟩
theorem IOpt.put {s : Nat} {w A : World} {pre : List OptV} (h : IOpt s w pre A) {l : Nat} {o o' : Obj} (hl : s + 4 ≤ l) (hk : A.heap[l]? = some o) (ho : o.isCells = false) : IOpt s w pre (A.putObj l o') := by
  obtain ⟨bv, h3⟩ := h.2.1
  refine h.kept (grownBy_putObj' A l o') (fun k e => ?_) ⟨bv, h3.kept (grownBy_putObj' A l o') (fun e => by cases e; omega)⟩
  cases e
  refine ⟨by omega, fun cells e fr hk' => ?_⟩
  rw [hk] at hk'
  cases hk'
  cases ho
theorem IxOpt.put {s : Nat} {w A : World} (h : IxOpt s w A) {l : Nat} {o o' : Obj} (hl : s + 4 ≤ l) (hk : A.heap[l]? = some o) : IxOpt s w (A.putObj l o') := by
  have hlt := h.2.1.lt
  exact ⟨h.1.kept (grownBy_putObj' A l o') (fun e => by cases e; omega), h.2.1.kept (grownBy_putObj' A l o') (fun e => by cases e; omega), h.2.2.grown (grownBy_putObj' A l o') (by omega) (fun k e => by cases e; omega)⟩

theorem IOpt.appended {s B : Nat} {w W w1 : World} {pre : List OptV} {k : Int} {v lv v' bv : Value} {d : List Int} {tmp : Obj} (h0 : Boxed W s 28 (.slice none 0 0)) (h1 : Boxed W (s + 1) 25 (.int .i64 0))
    (h2 : Boxed W (s + 1 + 1) 28 lv) (h3 : Boxed W (s + 1 + 1 + 1) 22 bv) (hrows : OptRows W s lv pre) (hbw : Below s w W) (hold : ∀ x ∈ pre, ∀ k, x.2.1.ownBlock = some k → k < B)
    (hv : W.ownsRow B 5 1 v d.length (nums .u8 d)) (hsB : s ≤ B) (hown : w1.ownsRow s 32 2 v' (pre.length + 1) ((pre.flatMap fun d => [.int .u8 d.1, d.2.1]) ++ [.int .u8 k, v])) (hgrow : (W.alloc tmp).grownBy w1 lv.ownBlock) :
    IOpt s w (pre ++ [(k, v, d)]) (w1.setCell ⟨s + 1 + 1, 0, none⟩ v') ∧ KeepsOthers W (w1.setCell ⟨s + 1 + 1, 0, none⟩ v') ∧ (w1.setCell ⟨s + 1 + 1, 0, none⟩ v').heap[s + 1 + 1 + 1]? = W.heap[s + 1 + 1 + 1]? := by
  have hs : s ≤ W.heap.size := by have := h0.lt; omega
  obtain ⟨hb1, hb2, hr2, hk2, hbe2⟩ := h2.appended (tmp := tmp) (by decide) hrows.1 hs (by omega) hown hgrow
  have box : ∀ {b t u}, Boxed W b t u → t ≠ 32 → b ≠ s + 1 + 1 → Boxed (w1.setCell ⟨s + 1 + 1, 0, none⟩ v') b t u := fun hb ht hne =>
    ((hb.alloc tmp).kept hgrow (hb.not_row ht hrows.1)).other hne _
  have row : ∀ {base n x xs}, W.ownsRow base 5 1 x n xs → (w1.setCell ⟨s + 1 + 1, 0, none⟩ v').ownsRow base 5 1 x n xs := by
    intro base n x xs ho
    have ho1 := (ho.alloc tmp).kept hgrow (own_type_ne ho hrows.1 (by decide))
    refine ho1.kept (grownBy_setCell' w1 (s + 1 + 1) v') ?_
    rcases ho1.2 with ⟨rfl, _⟩ | ⟨g, cap, cur, rfl, _, hgb, _⟩
    · exact .inl rfl
    · refine .inr fun e' => ?_
      obtain rfl : g = s + 1 + 1 := by simpa [Value.ownBlock] using e'
      rw [show w1.heap[s + 1 + 1]? = _ from hb1] at hgb
      cases hgb
  refine ⟨⟨⟨v', hb2, ⟨?_, ?_, ?_⟩⟩, ⟨bv, box h3 (by decide) (by omega)⟩, box h0 (by decide) (by omega), box h1 (by decide) (by omega), hbw.trans hbe2⟩, hk2, ?_⟩
  · simpa using hr2
  · intro x hx
    rcases List.mem_append.1 hx with hx | hx
    · exact row (hrows.2.1 x hx)
    · rw [List.mem_singleton.1 hx]
      exact own_weaken (row hv) hsB
  · refine List.pairwise_append.2 ⟨hrows.2.2, List.pairwise_singleton _ _, fun a ha b hb => ?_⟩
    rw [List.mem_singleton.1 hb]
    rcases hob : a.2.1.ownBlock with _ | g
    · exact .inl rfl
    · refine .inr fun e => ?_
      have h1 := hold a ha g hob
      have h2 := own_base hv g e.symm
      omega
  · exact (show _ = some _ from box h3 (by decide) (by omega)).trans (show _ = some _ from h3).symm

/-- a row of bytes of one's own, its cells -/
theorem own_of_R {e base : Nat} {w : World} {ok : Nat → Prop} {v : Value} {xs : List Int} (h : Kd.R (Kd.int .u8) e w base ok v xs) : w.ownsRow base e 1 v xs.length (nums .u8 xs) := Kd.own_of_R h

theorem info_opt : (Try.prog.info? 32).map (fun i => (i.zero, i.size, i.bytes)) = some (some (.agg #[.int .u8 0, .slice none 0 0]), 2, 32) := by kernel_rfl

theorem optfn_any (A : Option Addr) (n c : Nat) (w : World) :
    Calls Try.prog 27 #[.slice A n c] w fun e w' => e = .returned (.func (.func 47) #[] #[.pointer (some ⟨w.heap.size, 0, none⟩)]) ∧ w.alloc (.cells #[.slice A n c] 22) = w' := by
  go_enter Try.func27, Try.ntmps27
  go_wp2
  go_ret
  exact ⟨rfl, rfl⟩

attribute [local go_sem] Oper.semAt_some

set_option maxRecDepth 100000 in
set_option maxHeartbeats 2000000 in
theorem options_in (b : List Int) (A : Option Addr) (c : Nat) (w : World) (hr : Kd.C (Kd.int .u8) w A b.length b) (hc : b.length ≤ c) (hb : bytes b) (hn : b.length ≤ 100000) :
    CallsIn Fence.wide 0 Try.prog 10 #[.slice A b.length c] w fun e w' => ∃ lv n, e = .returned (.tuple #[lv, .int .i64 n]) ∧ Below w.heap.size w w' ∧
      ((∃ D, opts b = some (optsOf D) ∧ n = 0 ∧ OptRows w' w.heap.size lv D) ∨ (opts b = none ∧ n = 51 ∧ lv = .slice none 0 0)) := by
  refine callsIn_of_wp_marks Try.func10 rfl trivial ?_ rfl
  simp only [Try.ntmps10, List.size_toArray, List.length_cons, List.length_nil, Nat.reduceAdd, Nat.reduceSub, Array.replicate_succ, Array.replicate_zero, List.push_toArray, List.append_toArray, List.nil_append, List.cons_append]
  gi_wp2_with (refine ⟨trivial, rfl, ?_⟩; (with_reducible refine (callsIn_wide.2 (optfn_any A b.length c _)).mono ?_); rintro e w' ⟨rfl, rfl⟩)
  have b0 : Boxed (w.alloc (.cells #[.slice none 0 0] 28)) w.heap.size 28 (.slice none 0 0) := Boxed.new w _ _
  have b1 := Boxed.new (w.alloc (.cells #[.slice none 0 0] 28)) 25 (.int .i64 0)
  have b2 := Boxed.new ((w.alloc (.cells #[.slice none 0 0] 28)).alloc (.cells #[.int .i64 0] 25)) 28 (.slice none 0 0)
  have b3 := Boxed.new (((w.alloc (.cells #[.slice none 0 0] 28)).alloc (.cells #[.int .i64 0] 25)).alloc (.cells #[.slice none 0 0] 28)) 22 (.slice A b.length c)
  have hB4 := (below_alloc3 w (.cells #[.slice none 0 0] 28) (.cells #[.int .i64 0] 25) (.cells #[.slice none 0 0] 28)).alloc (by simp; omega) (.cells #[.slice A b.length c] 22)
  replace b0 := ((b0.alloc (.cells #[.int .i64 0] 25)).alloc (.cells #[.slice none 0 0] 28)).alloc (.cells #[.slice A b.length c] 22)
  replace b1 := (b1.alloc (.cells #[.slice none 0 0] 28)).alloc (.cells #[.slice A b.length c] 22)
  replace b2 := b2.alloc (.cells #[.slice A b.length c] 22)
  rw [World.size_alloc] at b1
  rw [World.size_alloc, World.size_alloc] at b2
  rw [World.size_alloc, World.size_alloc, World.size_alloc] at b3
  revert b0 b1 b2 b3 hB4
  obtain ⟨W4, hW4⟩ : ∃ W4, (((w.alloc (.cells #[.slice none 0 0] 28)).alloc (.cells #[.int .i64 0] 25)).alloc (.cells #[.slice none 0 0] 28)).alloc (.cells #[.slice A b.length c] 22) = W4 := ⟨_, rfl⟩
  have hsz : W4.heap.size = w.heap.size + 1 + 1 + 1 + 1 := by rw [← hW4]; simp
  rw [hW4]
  intro b3 hB4 b0 b1 b2
  clear hW4
  obtain ⟨s, hs⟩ : ∃ s, w.heap.size = s := ⟨_, rfl⟩
  rw [hs] at b0 b1 b2 b3 hB4 hsz ⊢
  refine range_box (gf := 47) (lb := #[.pointer (some ⟨s + 1 + 1 + 1, 0, none⟩)]) rfl (enters_of Try.func47 (by kernel_rfl) rfl) (s + 1 + 1 + 1) (by omega) (IOpt s w) (IxOpt s w)
    (fun D => opts b = some (optsOf D)) (opts b = none) [] (fun _ _ _ h hb => h.below hb) (fun _ _ v h => h.setBox v) (fun _ _ _ _ _ h hl hk ho => h.put (by omega) hk ho) (fun _ _ _ _ h hl hk _ => h.put (by omega) hk)
    ⟨⟨_, b2, OptRows.nil _ _⟩, ⟨_, b3⟩, b0, b1, hB4⟩
    (fun pre args W s' => ∃ k v d W0, IOpt s w pre W0 ∧ Below W0.heap.size W0 W ∧ 0 ≤ k ∧ k ≤ 255 ∧ bytes d ∧ d.length ≤ 255 ∧ pre.length < b.length ∧ Kd.R (Kd.int .u8) 5 W W0.heap.size (fun _ => True) v d ∧ args = #[.agg #[.int .u8 k, v], .bool true] ∧ s' = pre ++ [(k, v, d)])
    (fun args => args = #[.agg #[.int .u8 0, .slice none 0 0], .bool false]) ?yes ?no ?it ?done ?stop
  case it =>
    intro l J Jx W hWB hJb hJs hJI hY hN h0
    refine iter_in (s + 1 + 1 + 1) l b.length w J Jx (by omega) hJb hJs (fun q A h => hs ▸ (hJI q A h).2.2.2.2) ?_ ?_ b hb (Nat.le_refl _) A c hr hc W (hWB.trans b3) h0
    · intro pre k v d W0 W1 hJ hb1 k0 k1 hd hdl hpl hR
      exact hY pre _ _ W1 (hJb _ _ _ hJ hb1) ⟨k, v, d, W0, hJI _ _ hJ, hb1, k0, k1, hd, hdl, hpl, hR, rfl, rfl⟩
    · intro pre W1 hJ
      exact hN pre _ W1 hJ rfl
  case no =>
    rintro l pre args W hl ⟨r, hlr⟩ hI rfl
    refine ⟨rfl, ?_⟩
    gi_wp2
    refine ⟨(KeepsOthers.alloc _ _).from _, fun o' => ?_⟩
    have hlt : l < W.heap.size := (Array.getElem?_eq_some_iff.1 hlr).1
    have hI5 : IOpt s w pre ((W.alloc (.cells #[.int .u8 0, .slice none 0 0] 32)).putObj l o') :=
      (hI.below ((Below.refl _ W).alloc (Nat.le_refl _) _)).put (by omega) ((Below.heap_alloc _ _ _ hlt).trans hlr) rfl
    obtain ⟨W5, hW5⟩ : ∃ W5, (W.alloc (.cells #[.int .u8 0, .slice none 0 0] 32)).putObj l o' = W5 := ⟨_, rfl⟩
    rw [hW5] at hI5 ⊢
    obtain ⟨_, _, hb0, hb1, hbw⟩ := hI5
    have hc0 := hb0.cell
    have hf0 := hb0.frozen
    have hc1 := hb1.cell
    have hf1 := hb1.frozen
    gi_wp2
    exact ⟨((KeepsOthers.setCell _ _ _).trans (KeepsOthers.setCell _ _ _)).from _, (hb0.set _).other (by omega) _, (hb1.other (by omega) _).set _, (hbw.setCell (p := ⟨s, 0, none⟩) (Nat.le_refl _) _).setCell (p := ⟨s + 1, 0, none⟩) (Nat.le_succ _) _⟩
  case yes =>
    rintro l pre args s' W hl ⟨r, hlr⟩ hI ⟨k, v, d, W0, hI0, hb0, k0, k1, hd, hdl, hpl, hR, rfl, rfl⟩
    refine ⟨rfl, ?_⟩
    obtain ⟨A4, c4, rfl⟩ := Kd.R_slice hR
    gi_wp2
    refine ⟨(KeepsOthers.alloc _ _).from _, Below.heap_alloc _ _ _ (by have := hI.2.1.choose_spec.lt; omega), fun o' => ?_⟩
    have hlt : l < W.heap.size := (Array.getElem?_eq_some_iff.1 hlr).1
    have hlr2 : (W.alloc (.cells #[.int .u8 k, .slice A4 d.length c4] 32)).heap[l]? = some (.loop r) := (Below.heap_alloc _ _ _ hlt).trans hlr
    have hI5 : IOpt s w pre ((W.alloc (.cells #[.int .u8 k, .slice A4 d.length c4] 32)).putObj l o') :=
      (hI.below ((Below.refl _ W).alloc (Nat.le_refl _) _)).put (by omega) hlr2 rfl
    have hx5 : ((W.alloc (.cells #[.int .u8 k, .slice A4 d.length c4] 32)).putObj l o').heap[W.heap.size]? = some (.cells #[.int .u8 k, .slice A4 d.length c4] 32 (0, 0)) :=
      (World.putObj_heap_other (by omega)).trans (World.alloc_heap_new W _)
    have hR5 : Kd.R (Kd.int .u8) 5 ((W.alloc (.cells #[.int .u8 k, .slice A4 d.length c4] 32)).putObj l o') W0.heap.size (fun _ => True) (.slice A4 d.length c4) d := by
      obtain ⟨inner, ho⟩ := Kd.R_own hR
      refine Kd.R_mono (ok := fun k => k ≠ l) (Kd.R_grown (row := some l) (Kd.R_mono (Kd.R_bound (Kd.R_alloc hR _)) (fun k hk => ?_)) (grownBy_putObj' _ l o') (fun k hk e => hk (by cases e; rfl))) (fun _ _ => trivial)
      rintro rfl
      obtain ⟨_, _, _, _, _, cells, hc⟩ := hk
      rw [hlr2] at hc
      cases hc
    have hsz5 : W.heap.size < ((W.alloc (.cells #[.int .u8 k, .slice A4 d.length c4] 32)).putObj l o').heap.size := (Array.getElem?_eq_some_iff.1 hx5).1
    obtain ⟨W5, hW5⟩ : ∃ W5, (W.alloc (.cells #[.int .u8 k, .slice A4 d.length c4] 32)).putObj l o' = W5 := ⟨_, rfl⟩
    rw [hW5] at hI5 hx5 hR5 hsz5 ⊢
    obtain ⟨⟨lv, hb2, hrows⟩, ⟨bv, hb3⟩, hb0', hb1, hbw⟩ := hI5
    obtain ⟨A5, c5, rfl⟩ := own_slice hrows.1
    have hc2 := hb2.cell
    have hf2 := hb2.frozen
    have hcx0 : W5.cell? ⟨W.heap.size, 0, none⟩ = some (.int .u8 k) := (blk_cell hx5 0).trans rfl
    have hcx1 : W5.cell? ⟨W.heap.size, 1, none⟩ = some (.slice A4 d.length c4) := (blk_cell hx5 1).trans rfl
    obtain ⟨i0, hi, hzz⟩ := Option.map_eq_some_iff.1 info_opt
    simp only [Prod.mk.injEq] at hzz
    obtain ⟨hz0, hz1, hz2⟩ := hzz
    have hsz6 : s ≤ (W5.alloc (.cells #[.int .u8 k, .slice A4 d.length c4] 32)).heap.size := by simp; omega
    have hml : pre.length + 1 ≤ maxLen := by simp only [maxLen]; omega
    have hmb : (pre.length + 1) * 32 ≤ 140737488355328 := by omega
    have hone : ∀ u ∈ [Value.int .u8 k, .slice A4 d.length c4], u.oneCell' = true := by simp [Value.oneCell']
    have hnews := World.news_of_block (cs := #[.int .u8 k, .slice A4 d.length c4]) (t := 32) (fr := (0, 0)) (heap_alloc_new W5 _)
    obtain ⟨inner, hoR⟩ := Kd.R_own hR5
    gi_wp2_with (gi_at_builtin; refine wpListIn_append_own _ rfl _ _ 28 rfl s 32 i0 _ 2 32 Try.underlying28 hi hz0 hz1 hz2 rfl (by decide) _ _ _ rfl (hrows.1.alloc _) ⟨W5.heap.size, 0, none⟩ 1 1 [.int .u8 k, .slice A4 d.length c4] rfl rfl hnews hone hml hmb hsz6 ?_; intro v' w1 hown' hgrow _; obtain ⟨g', cap', rfl⟩ := ownsRow_succ hown'; obtain ⟨hv1, hv2, hr2, hk2, hb2'⟩ := hb2.appended (by decide) hrows.1 (by omega) (by omega) hown' hgrow; have hc1' := hv1.cell; have hf1' := hv1.frozen)
    have hl0 := hI0.2.2.1.lt
    obtain ⟨hI6, hk6, hbx6⟩ := IOpt.appended (B := W0.heap.size) hb0' hb1 hb2 hb3 hrows hbw (fun x hx k hk => own_lt (hI0.1.choose_spec.2.2.1 x hx) k hk) (own_of_R hR5) (by omega) hown' hgrow
    exact ⟨hk6.from _, hbx6, hI6⟩
  case done =>
    rintro D E W hD hE ⟨⟨lv, hb2, hrows⟩, _, hb0, hb1, hbw⟩ hK
    have hc0 := hb0.cell
    have hf0 := hb0.frozen
    have hc1 := hb1.cell
    have hf1 := hb1.frozen
    obtain ⟨A5, c5, rfl⟩ := own_slice hrows.1
    have hc2 := hb2.cell
    gi_wp2
    have hK2 := ((KeepsOthers.setCell W ⟨s, 0, none⟩ (.slice A5 E.length c5)).trans (KeepsOthers.setCell _ ⟨s + 1, 0, none⟩ (.int .i64 0))).same D _ hK rfl
    refine ⟨by simp, .inl ⟨_, _, rfl, run_takeDeferred hK2, ?_⟩⟩
    have hgD := grownBy_putObj' ((W.setCell ⟨s, 0, none⟩ (.slice A5 E.length c5)).setCell ⟨s + 1, 0, none⟩ (.int .i64 0)) D (.deferred none)
    have k0 := ((hb0.set (.slice A5 E.length c5)).other (by omega : s ≠ s + 1) (.int .i64 0)).kept hgD (fun e => by cases e; omega)
    have k1' := hb1.other (by omega : s + 1 ≠ s) (.slice A5 E.length c5)
    have k1 := (k1'.set (.int .i64 0)).kept hgD (fun e => by cases e; omega)
    have kr1 := hrows.kept (grownBy_setCell' W s (.slice A5 E.length c5)) (fun k e cells t fr h => by cases e; rw [show W.heap[s]? = _ from hb0] at h; cases h; exact ⟨by decide, by decide⟩)
    have kr2 := kr1.kept (grownBy_setCell' _ (s + 1) (.int .i64 0)) (fun k e cells t fr h => by cases e; rw [show (W.setCell ⟨s, 0, none⟩ (.slice A5 E.length c5)).heap[s + 1]? = _ from k1'] at h; cases h; exact ⟨by decide, by decide⟩)
    have kr := kr2.kept hgD (fun k e cells t fr h => by cases e; rw [hK2] at h; cases h)
    have kb := ((hbw.setCell (p := ⟨s, 0, none⟩) (Nat.le_refl _) (.slice A5 E.length c5)).setCell (p := ⟨s + 1, 0, none⟩) (Nat.le_succ _) (.int .i64 0)).grown hgD (by have := (k1'.set (.int .i64 0)).lt; omega) (fun k e => by cases e; omega)
    clear hc0 hf0 hc1 hf1 hc2 hK2 hgD kr1 kr2 k1'
    revert k0 k1 kr kb
    generalize ((W.setCell ⟨s, 0, none⟩ (.slice A5 E.length c5)).setCell ⟨s + 1, 0, none⟩ (.int .i64 0)).putObj D (.deferred none) = W9
    intro k0 k1 kr kb
    have hc0 := k0.cell
    have hc1 := k1.cell
    refine ⟨.tuple #[.slice A5 E.length c5, .int .i64 0], by simp [results, Try.results10, go_sem, hc0, hc1], ?_⟩
    rw [hs]
    exact ⟨_, _, rfl, kb, .inl ⟨E, hE, rfl, kr⟩⟩
  case stop =>
    rintro D W hD hx ⟨hb0, hb1, hbw⟩ hK
    gi_wp2
    refine ⟨by simp, .inl ⟨_, _, rfl, run_takeDeferred hK, ?_⟩⟩
    have hgD := grownBy_putObj' W D (.deferred none)
    have k0 := hb0.kept hgD (fun e => by cases e; omega)
    have k1 := hb1.kept hgD (fun e => by cases e; omega)
    have kb := hbw.grown hgD (by have := hb0.lt; omega) (fun k e => by cases e; omega)
    clear hgD
    revert k0 k1 kb
    generalize W.putObj D (.deferred none) = W9
    intro k0 k1 kb
    have hc0 := k0.cell
    have hc1 := k1.cell
    refine ⟨.tuple #[.slice none 0 0, .int .i64 51], by simp [results, Try.results10, go_sem, hc0, hc1], ?_⟩
    rw [hs]
    exact ⟨_, _, rfl, kb, .inr ⟨hx, rfl, rfl⟩⟩

/-- **ip.Options**: the options of bytes, or none. -/
theorem options_any (b : List Int) (A : Option Addr) (n c : Nat) (w : World) (hr : Kd.C (Kd.int .u8) w A n b) (hc : n ≤ c) (hb : bytes b) (hn : n ≤ 100000) :
    Calls Try.prog 10 #[.slice A n c] w fun e w' => ∃ lv n, e = .returned (.tuple #[lv, .int .i64 n]) ∧ Below w.heap.size w w' ∧
      ((∃ D, opts b = some (optsOf D) ∧ n = 0 ∧ OptRows w' w.heap.size lv D) ∨ (opts b = none ∧ n = 51 ∧ lv = .slice none 0 0)) := by
  obtain rfl : b.length = n := hr.1
  exact callsIn_wide.1 (options_in b A c w hr hc hb hn)
end Go.Proofs.Ytknpaihlnkcpgaa.Own
