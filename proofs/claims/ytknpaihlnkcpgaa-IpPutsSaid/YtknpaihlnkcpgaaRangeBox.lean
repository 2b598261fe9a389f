/- A range over an iterator that keeps its state in a box (a captured variable that it writes); the body goes on, or leaves by 'return'. At the wide fence. -/
import Derived.RangeFuncNested
import Derived.RangeFuncBound
import Derived.RangeFuncCalls
import Derived.RangeFuncLeaves
import Derived.RangeFuncBox
set_option linter.unusedVariables false
namespace Go.Proofs.Ytknpaihlnkcpgaa.Own
open Go.RowKit

/-- a round's body goes on -/
def goesOn {σ : Type} (B Bn : Nat) (I : σ → World → Prop) (s' : σ) (W : World) : Exit → Act → World → Prop
  | .normal, _, W' => KeepsFrom B W W' ∧ W'.heap[Bn]? = W.heap[Bn]? ∧ I s' W'
  | _, _, _ => False
/-- a round's body returns -/
def goesOut (B : Nat) (Ix : World → Prop) (W : World) : Exit → Act → World → Prop
  | .ret, _, W' => KeepsFrom B W W' ∧ Ix W'
  | _, _, _ => False

theorem range_box {P : Program} {g : Operand} {ps : Array Tmp} {assign body : Code} {Q : Exit → Act → World → Prop} {a : Act} {w : World} {gf : Nat} {lb : Array Value}
    (hg : a.eval g = .func (.func gf) #[] lb) (eg : ∀ args w, (callFunc gf args).run P w = .ok (.enter gf args) w)
    (Bn : Nat) (hBn : Bn < w.heap.size) {σ : Type} (I : σ → World → Prop) (Ix : World → Prop) (S : σ → Prop) (Sx : Prop) (s0 : σ)
    (hIb : ∀ s A A', I s A → Below A.heap.size A A' → I s A')
    (hIs : ∀ s A v, I s A → I s (A.setCell ⟨Bn, 0, none⟩ v))
    (hIp : ∀ s A l o o', I s A → w.heap.size ≤ l → A.heap[l]? = some o → o.isCells = false → I s (A.putObj l o'))
    (hIxp : ∀ A l o o', Ix A → w.heap.size ≤ l → A.heap[l]? = some o → o.isCells = false → Ix (A.putObj l o'))
    (h0 : I s0 w) (Y : σ → Array Value → World → σ → Prop) (N : Array Value → Prop)
    (hyes : ∀ l s args s' W, w.heap.size ≤ l → (∃ r, W.heap[l]? = some (.loop r)) → I s W → Y s args W s' → args.size = ps.size ∧
      assign.wpIn (Fence.wide.inRound l) 0 P (Exit.then (fun a' W' => KeepsFrom w.heap.size W W' ∧ W'.heap[Bn]? = W.heap[Bn]? ∧
        ∀ o', body.wpIn (Fence.wide.inRound l) 0 P (goesOn w.heap.size Bn I s' (W'.putObj l o')) a' (W'.putObj l o')) (fun _ _ _ => False))
        { tmps := (ps.zip args).foldl (fun t (p, v) => t.setIfInBounds p v) a.tmps, defers := [] } W)
    (hno : ∀ l s args W, w.heap.size ≤ l → (∃ r, W.heap[l]? = some (.loop r)) → I s W → N args → args.size = ps.size ∧
      assign.wpIn (Fence.wide.inRound l) 0 P (Exit.then (fun a' W' => KeepsFrom w.heap.size W W' ∧
        ∀ o', body.wpIn (Fence.wide.inRound l) 0 P (goesOut w.heap.size Ix (W'.putObj l o')) a' (W'.putObj l o')) (fun _ _ _ => False))
        { tmps := (ps.zip args).foldl (fun t (p, v) => t.setIfInBounds p v) a.tmps, defers := [] } W)
    (hit : ∀ (l : Nat) (J : σ → World → Prop) (Jx : World → Prop) (W : World), W.heap[Bn]? = w.heap[Bn]? →
      (∀ s A A', J s A → Below A.heap.size A A' → J s A') → (∀ s A v, J s A → J s (A.setCell ⟨Bn, 0, none⟩ v)) → (∀ s A, J s A → I s A) →
      (∀ s args s' W, J s W → Y s args W s' → YieldAt Fence.wide 0 P l args W fun e W' => e = .returned (.bool true) ∧ J s' W' ∧ W'.heap[Bn]? = W.heap[Bn]?) →
      (∀ s args W, J s W → N args → YieldAt Fence.wide 0 P l args W fun e W' => e = .returned (.bool false) ∧ Jx W') → J s0 W →
      CallsIn Fence.wide 0 P gf (#[.func (.yield l) #[] #[]] ++ lb) W fun e W' => (∃ v, e = .returned v) ∧ ((∃ s, S s ∧ J s W') ∨ (Sx ∧ Jx W')))
    (hdone : ∀ (D : Nat) (s : σ) (W : World), w.heap.size ≤ D → S s → I s W → W.heap[D]? = some (.deferred (some [])) → Q .normal { a with defers := { target := .collected D, args := #[] } :: a.defers } W)
    (hstop : ∀ (D : Nat) (W : World), w.heap.size ≤ D → Sx → Ix W → W.heap[D]? = some (.deferred (some [])) → Code.ret.wpIn Fence.wide 0 P Q { a with defers := { target := .collected D, args := #[] } :: a.defers } W) :
    (Code.rangeFunc g ps assign body).wpIn Fence.wide 0 P Q a w := by
  refine wpIn_rangeFunc fun fn hfn => ?_
  -- the loop's record, by its state
  obtain ⟨R, hR⟩ : ∃ R : LoopState → Option Code → Loop, R = fun st pe => { state := st, pending := pe, fn, tmps := a.tmps, params := ps, assign, body, defers := w.heap.size } := ⟨_, rfl⟩
  have e1 : ∀ st pe, (R st pe).params = ps := fun st pe => by rw [hR]
  obtain ⟨L, hL⟩ : ∃ L, w.heap.size + 1 = L := ⟨_, rfl⟩
  obtain ⟨W1, hW1⟩ : ∃ W1, (w.alloc (.deferred (some []))).alloc (.loop (R .ready none)) = W1 := ⟨_, rfl⟩
  have hsz : W1.heap.size = w.heap.size + 2 := by rw [← hW1]; simp
  have hB1 : Below w.heap.size w W1 := by rw [← hW1]; exact ((Below.refl _ w).alloc (Nat.le_refl _) _).alloc (by simp) _
  have hl1 : W1.heap[L]? = some (.loop (R .ready none)) := by
    rw [← hW1, ← hL]
    have h := World.alloc_heap_new (w.alloc (.deferred (some []))) (.loop (R .ready none))
    rwa [World.size_alloc] at h
  have hd1 : W1.heap[w.heap.size]? = some (.deferred (some [])) := by
    rw [← hW1]; exact (Below.heap_alloc _ _ _ (by simp)).trans (World.alloc_heap_new w _)
  -- what a round's body leaves of the two blocks
  have two : ∀ {st pe} {A B : World}, KeepsFrom w.heap.size A B → A.heap[L]? = some (.loop (R st pe)) ∧ A.heap[w.heap.size]? = some (.deferred (some [])) → B.heap[L]? = some (.loop (R st pe)) ∧ B.heap[w.heap.size]? = some (.deferred (some [])) :=
    fun hk h => ⟨hk.same _ _ (by omega) h.1 rfl, hk.same _ _ (Nat.le_refl _) h.2 rfl⟩
  have put : ∀ {st pe st' pe'} {A : World}, A.heap[L]? = some (.loop (R st pe)) ∧ A.heap[w.heap.size]? = some (.deferred (some [])) → (A.putObj L (.loop (R st' pe'))).heap[L]? = some (.loop (R st' pe')) ∧ (A.putObj L (.loop (R st' pe'))).heap[w.heap.size]? = some (.deferred (some [])) :=
    fun h => ⟨World.putObj_heap_same (Array.getElem?_eq_some_iff.1 h.1).1, (World.putObj_heap_other (by omega)).trans h.2⟩
  have putB : ∀ {A : World} {o : Obj}, (A.putObj L o).heap[Bn]? = A.heap[Bn]? := fun {A o} => World.putObj_heap_other (by omega)
  refine ⟨L, [{ target := .collected w.heap.size, args := #[] }], W1, { target := .fn (.func gf) lb, args := #[.func (.yield L) #[] #[]] }, W1, gf, #[.func (.yield L) #[] #[]] ++ lb, W1, ?_, ?_, ?_, ?_, (fun h => by cases h), ?_⟩
  · rw [← hW1, ← hL, hR]; exact run_enterLoop_outer _ _ _ _ _
  · simp only [resolve, hg]
    simp [go_sem]
  · intro f' _; trivial
  · simp [invoke, go_sem, eg]
  · refine (hit L (fun s W => I s W ∧ W.heap[L]? = some (.loop (R .ready none)) ∧ W.heap[w.heap.size]? = some (.deferred (some [])))
      (fun W => Ix W ∧ W.heap[L]? = some (.loop (R .done (some .ret))) ∧ W.heap[w.heap.size]? = some (.deferred (some []))) W1 (hB1.block Bn hBn) ?_ ?_ (fun s A h => h.1) ?_ ?_ ?_).mono ?_
    · intro s A A' h hb
      exact ⟨hIb s A A' h.1 hb, (hb.block _ (Array.getElem?_eq_some_iff.1 h.2.1).1).trans h.2.1, (hb.block _ (Array.getElem?_eq_some_iff.1 h.2.2).1).trans h.2.2⟩
    · intro s A v h
      exact ⟨hIs s A v h.1, (Below.heap_setCell _ _ _ _ (by simp; omega)).trans h.2.1, (Below.heap_setCell _ _ _ _ (by simp; omega)).trans h.2.2⟩
    · rintro s args s' W ⟨hi, h2⟩ hy
      obtain ⟨hsiz, has⟩ := hyes L s args s' W (by omega) ⟨_, h2.1⟩ hi hy
      have hyy := run_yield (P := P) (args := args) h2.1 (by rw [e1]; exact hsiz)
      rw [hR] at hyy
      refine ⟨fn, _, assign, body, hyy, roundIn_of_wpIn hfn (wpIn_mono has ?_)⟩
      intro e a' W' hpost
      cases e with
      | normal =>
        obtain ⟨hk, hbn, hbody⟩ := hpost
        have h3 := two hk h2
        refine ⟨_, run_beginRound h3.1 (by rw [hR]), wpIn_mono (hbody _) ?_⟩
        intro e a3 W3 hp
        cases e with
        | normal =>
          obtain ⟨hk3, hbn3, hi3⟩ := hp
          have h4 : (W'.putObj L (.loop { R .ready none with state := .busy })).heap[L]? = some (.loop (R .busy none)) ∧ (W'.putObj L (.loop { R .ready none with state := .busy })).heap[w.heap.size]? = some (.deferred (some [])) := by
            have e : ({ R .ready none with state := .busy } : Loop) = R .busy none := by rw [hR]
            rw [e]; exact put h3
          have h5 := two hk3 h4
          have hend := run_endRound (P := P) none h5.1
          have e2 : ({ R .busy none with state := if (none : Option Code).isNone then .ready else .done, pending := none } : Loop) = R .ready none := by rw [hR]; rfl
          rw [e2] at hend
          exact ⟨_, _, hend, rfl, ⟨hIp _ _ _ _ _ hi3 (by omega) h5.1 rfl, put h5⟩, by rw [putB, hbn3, putB, hbn]⟩
        | _ => exact hp.elim
      | _ => exact hpost.elim
    · rintro s args W ⟨hi, h2⟩ hn
      obtain ⟨hsiz, has⟩ := hno L s args W (by omega) ⟨_, h2.1⟩ hi hn
      have hyy := run_yield (P := P) (args := args) h2.1 (by rw [e1]; exact hsiz)
      rw [hR] at hyy
      refine ⟨fn, _, assign, body, hyy, roundIn_of_wpIn hfn (wpIn_mono has ?_)⟩
      intro e a' W' hpost
      cases e with
      | normal =>
        obtain ⟨hk, hbody⟩ := hpost
        have h3 := two hk h2
        refine ⟨_, run_beginRound h3.1 (by rw [hR]), wpIn_mono (hbody _) ?_⟩
        intro e a3 W3 hp
        cases e with
        | ret =>
          obtain ⟨hk3, hi3⟩ := hp
          have h4 : (W'.putObj L (.loop { R .ready none with state := .busy })).heap[L]? = some (.loop (R .busy none)) ∧ (W'.putObj L (.loop { R .ready none with state := .busy })).heap[w.heap.size]? = some (.deferred (some [])) := by
            have e : ({ R .ready none with state := .busy } : Loop) = R .busy none := by rw [hR]
            rw [e]; exact put h3
          have h5 := two hk3 h4
          have hend := run_endRound (P := P) (some Code.ret) h5.1
          have e2 : ({ R .busy none with state := if (some Code.ret).isNone then .ready else .done, pending := some Code.ret } : Loop) = R .done (some .ret) := by rw [hR]; rfl
          rw [e2] at hend
          exact ⟨_, _, hend, rfl, hIxp _ _ _ _ hi3 (by omega) h5.1 rfl, put h5⟩
        | _ => exact hp.elim
      | _ => exact hpost.elim
    · exact ⟨hIb _ _ _ h0 hB1, hl1, hd1⟩
    · rintro e W2 ⟨⟨v, rfl⟩, (⟨s, hS, hi, h2⟩ | ⟨hSx, hi, h2⟩)⟩
      · have hend := run_endLoop (P := P) h2.1 (by rw [hR]; simp)
        exact ⟨(R .ready none).pending, _, hend, by
          have e : (R .ready none).pending = none := by rw [hR]
          rw [e]
          exact hdone _ s _ (Nat.le_refl _) hS (hIp _ _ _ _ _ hi (by omega) h2.1 rfl) ((World.putObj_heap_other (by omega)).trans h2.2)⟩
      · have hend := run_endLoop (P := P) h2.1 (by rw [hR]; simp)
        exact ⟨(R .done (some .ret)).pending, _, hend, by
          have e : (R .done (some .ret)).pending = some .ret := by rw [hR]
          rw [e]
          exact hstop _ _ (Nat.le_refl _) hSx (hIxp _ _ _ _ hi (by omega) h2.1 rfl) ((World.putObj_heap_other (by omega)).trans h2.2)⟩
end Go.Proofs.Ytknpaihlnkcpgaa.Own
