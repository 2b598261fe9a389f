/- The session's texts that the law leans on, merged: Ord, Help, Clone, SumPlain, BitsPlain, SumCode, Bits, Writer, Big, BigT, Hd, WSet, Concat, SumMore, Put, PutR, ParseShort, OptPlain, OptIter, RangeBox, Options, Same, Works5, RefOptions, LawOpt. -/
import Derived.Test.YtknpaihlnkcpgaaBase
import Derived.OrdersHeld
import Derived.Deep.Quiet
import Derived.Handy
import Derived.RangeFuncBox
import Derived.Laws.Cells
import Derived.Laws.IdiomCopy
import Derived.Deep.MidRow
import Derived.Laws.CopyRow
import Derived.Laws.CopyOwn
import Derived.Lib.AppendZerosOnto
import Derived.Lib.Walk
import Derived.Lib.SliceRun
import Derived.IntWalk
import Derived.RangeFuncNested
import Derived.RangeFuncBound
import Derived.RangeFuncCalls
import Derived.RangeFuncLeaves
import Derived.Shelf.RegionOpen
import Derived.OwnWalkIn
import Derived.TacticsInMore
import Derived.LoopNIn
import Derived.LoopIn
import Derived.Lib.Bytes
/- A region that draws its order: walked once, in one order that is named, quiet calls (and whatever yields in every world that meets S) taken first. -/
set_option linter.unusedVariables false
set_option linter.unusedSimpArgs false
namespace Go.Proofs.Ytknpaihlnkcpgaa.Own

section
variable {P : Program} {ops : Array Oper} {Q : Exit → Act → World → Prop} {md : Region.Mode} {S : World → Prop}

/-- in every world that meets S the operation leaves v, and that very world; a call that only reads is let in -/
def YieldsQ (P : Program) (ops : Array Oper) (S : World → Prop) (o : Oper) (v : Value) (a : Act) : Prop :=
  (Region.wanted o (yielded ops a.tmps) = true ∧ ∀ w, S w → o.quietAt P a (fun w' => w' = w) w v) ∨ (Region.wanted o (yielded ops a.tmps) = false ∧ v = undef)
theorem YieldsQ.same {o : Oper} {v : Value} {a a' : Act} (hy : YieldsQ P ops S o v a) (he : execOp a'.eval o = execOp a.eval o) (hw : Region.wanted o (yielded ops a'.tmps) = Region.wanted o (yielded ops a.tmps)) : YieldsQ P ops S o v a' := by
  unfold YieldsQ Oper.quietAt at *
  rw [he, hw]
  exact hy
theorem YieldsQ.wpOp {i : Nat} {o : Oper} {v : Value} {a : Act} (hi : ops[i]? = some o) (hy : YieldsQ P ops S o v a) {K : Act → World → Prop} {w : World} (hS : S w) (h : K (a.put o.dst v) w) : wpOp P ops Q i K a w := by
  unfold Go.wpOp
  simp only [hi]
  rcases hy with ⟨hw, hv⟩ | ⟨hw, rfl⟩
  · rw [if_pos hw]
    refine .inl (Oper.wp_of_quiet (C := fun w' => w' = w) (K := fun a' => a' = a.put o.dst v) rfl (fun a' w' e ea => ?_) ⟨v, fun w' e => ?_, rfl⟩)
    · subst e ea; exact h
    · subst e; exact hv _ hS
  · rw [if_neg (by rw [hw]; decide)]; exact h
/-- another operation, apart from it: whether its value is there already makes no difference -/
theorem wpOp_putQ {j : Nat} {oi oj : Oper} {v : Value} (hj : ops[j]? = some oj) (hap : oi.apart ops oj = true) (hsi : ∀ cs b, oi.op ≠ .select cs b) (hsj : ∀ cs b, oj.op ≠ .select cs b)
    (hQ : ∀ c a w, Q (.panic c) (a.put oi.dst v) w → Q (.panic c) a w) {K : Act → World → Prop} {a : Act} {w : World} (hy : YieldsQ P ops S oi v a) (h : wpOp P ops Q j K (a.put oi.dst v) w) :
    wpOp P ops Q j (fun a' w' => YieldsQ P ops S oi v a' ∧ K (a'.put oi.dst v) w') a w := by
  obtain ⟨h1, h2, h3⟩ := Oper.apart_spec hap
  have keep : ∀ (b : Act), YieldsQ P ops S oi v b → ∀ u, YieldsQ P ops S oi v (b.put oj.dst u) := fun b hb u => hb.same (execOp_put oi hsi b oj.dst u h3) (wanted_put oi b oj.dst u h3)
  have comm : ∀ (b : Act) (u : Value), (b.put oi.dst v).put oj.dst u = (b.put oj.dst u).put oi.dst v := fun b u => Act.put_comm b v u h2
  have keepD : ∀ d, YieldsQ P ops S oi v { a with defers := d :: a.defers } := fun d => hy.same rfl rfl
  unfold wpOp at *
  simp only [hj] at *
  rw [wanted_put oj a oi.dst v h1] at h
  by_cases hw : Region.wanted oj (yielded ops a.tmps) = true
  · rw [if_pos hw] at h ⊢
    rcases h with h | ⟨hasks, hlets⟩
    · refine .inl ?_
      unfold Oper.wp at *
      rw [execOp_put oj hsj a oi.dst v h1] at h
      generalize (execOp a.eval oj).run P w = r at *
      cases r with
      | halt x w' =>
        cases x <;> simp only [Oper.upon] at h ⊢
        case panic u => exact hQ _ _ _ h
      | ok n w' =>
        cases n <;> simp only [Oper.upon] at h ⊢
        case value u => exact ⟨keep a hy u, by rw [← comm]; exact h⟩
        case skip => exact ⟨keep a hy _, by rw [← comm]; exact h⟩
        case defer d => exact ⟨keep _ (keepD d) _, by rw [← comm, ← Act.put_defers]; exact h⟩
        case enter f args =>
          refine Calls.mono h fun e w'' he => ?_
          cases e with
          | returned u => exact ⟨keep a hy u, by rw [← comm]; exact he⟩
          | panicked c => exact hQ _ _ _ he
          | outgrown => exact he
        case row row args => exact Rows.mono h fun u w'' he => ⟨keep a hy u, by rw [← comm]; exact he⟩
    · exact .inr ⟨by unfold Oper.asks at *; rw [execOp_put oj hsj a oi.dst v h1] at hasks; exact hasks, hlets⟩
  · rw [if_neg hw] at h ⊢
    exact ⟨keep a hy _, by rw [← comm]; exact h⟩
/-- it may be taken first -/
theorem firstQ {i : Nat} {oi : Oper} {v : Value} (hi : ops[i]? = some oi) (hsel : ∀ (j : Nat) (o : Oper) cs b, ops[j]? = some o → o.op ≠ .select cs b) (hQ : ∀ c a w, Q (.panic c) (a.put oi.dst v) w → Q (.panic c) a w) :
    ∀ (fuel : Nat) (listed : Array Bool) (a : Act) (w : World),
      (∀ j oj, ops[j]? = some oj → j ≠ i → listed.getD j true = false → (∀ e ∈ oj.after, Region.binds md e = true → e.on ≠ i) → oi.apart ops oj = true) →
      i ∈ Region.ready md ops listed → YieldsQ P ops S oi v a → S w →
      wpAnyH P md ops Q S fuel (listed.setIfInBounds i true) (a.put oi.dst v) w → wpAnyH P md ops Q S (fuel + 1) listed a w := by
  intro fuel
  induction fuel with
  | zero =>
    intro listed a w _ hr hy hS H
    refine ⟨fun h => (by rw [h] at hr; cases hr), fun j hj => ?_⟩
    by_cases e : j = i
    · subst e; exact hy.wpOp hi hS ⟨hS, H⟩
    · have := ready_mono hj e
      rw [H.1] at this
      cases this
  | succ fuel ih =>
    intro listed a w hfree hr hy hS H
    refine ⟨fun h => (by rw [h] at hr; cases hr), fun j hj => ?_⟩
    by_cases e : j = i
    · subst e; exact hy.wpOp hi hS ⟨hS, H⟩
    · obtain ⟨hjun, oj, hoj, hall⟩ := mem_ready.1 hj
      have hun := (mem_ready.1 hr).1
      have hnot : ∀ x ∈ oj.after, Region.binds md x = true → x.on ≠ i := fun x hx hb hxi => by
        have hl := hall x hx hb
        rw [hxi] at hl
        rcases Nat.lt_or_ge i listed.size with hlt | hge
        · simp [hlt] at hun hl; rw [hun] at hl; cases hl
        · simp [Array.getElem?_eq_none hge] at hl
      have back : ∀ k, (listed.setIfInBounds j true).getD k true = false → listed.getD k true = false := fun k hk => by
        by_cases hjk : j = k
        · subst hjk; exact hjun
        · rwa [getD_set_ne true hjk] at hk
      refine wpOp_mono (fun a' w' h3 => ⟨h3.2.1, ih (listed.setIfInBounds j true) a' w' (fun k ok hk hki hkun hno => hfree k ok hk hki (back k hkun) hno) (ready_mono hr (Ne.symm e)) h3.1 h3.2.1 (by rw [Array.setIfInBounds_comm _ _ e]; exact h3.2.2)⟩)
        (wpOp_putQ hoj (hfree j oj hoj e hjun hnot) (fun cs b => hsel i oi cs b hi) (fun cs b => hsel j oj cs b hoj) hQ hy (H.2 j (ready_mono hj e)))

/-- a plan of the walk: q: quiet, taken first; e: it may turn the world, no other may come up then; e2: one of two -/
inductive Plan where
  | done
  | q (k : Nat) (p : Plan)
  | e (k : Nat) (p : Plan)
  | e2 (i : Nat) (p : Plan) (j : Nat) (r : Plan)
def Plan.depth : Plan → Nat
  | .done => 0
  | .q _ p => p.depth + 1
  | .e _ p => p.depth + 1
  | .e2 _ p _ r => max p.depth r.depth + 1
def planOk (md : Region.Mode) (ops : Array Oper) : Plan → Array Bool → Bool
  | .done, listed => (Region.ready md ops listed).isEmpty
  | .q k p, listed => (Region.ready md ops listed).contains k && (Region.free md ops listed k && planOk md ops p (listed.setIfInBounds k true))
  | .e k p, listed => decide (Region.ready md ops listed = [k]) && planOk md ops p (listed.setIfInBounds k true)
  | .e2 i p j r, listed => decide (Region.ready md ops listed = [i, j]) && (planOk md ops p (listed.setIfInBounds i true) && planOk md ops r (listed.setIfInBounds j true))
def wpPlan (P : Program) (ops : Array Oper) (S : World → Prop) (Q : Exit → Act → World → Prop) : Plan → Act → World → Prop
  | .done, a, w => Q .normal a w
  | .q k p, a, w => ∃ o v, ops[k]? = some o ∧ YieldsQ P ops S o v a ∧ wpPlan P ops S Q p (a.put o.dst v) w
  | .e k p, a, w => wpOp P ops Q k (fun a' w' => S w' ∧ wpPlan P ops S Q p a' w') a w
  | .e2 i p j r, a, w => wpOp P ops Q i (fun a' w' => S w' ∧ wpPlan P ops S Q p a' w') a w ∧ wpOp P ops Q j (fun a' w' => S w' ∧ wpPlan P ops S Q r a' w') a w
theorem wpAnyH_plan (hs : Region.noSelect ops = true) (hQ : ∀ c d (v : Value) a w, Q (.panic c) (a.put d v) w → Q (.panic c) a w) : ∀ (p : Plan) (fuel : Nat) (listed : Array Bool) (a : Act) (w : World), p.depth ≤ fuel →
    planOk md ops p listed = true → S w → wpPlan P ops S Q p a w → wpAnyH P md ops Q S fuel listed a w
  | .done, fuel, listed, a, w, _, hB, _, h => wpAnyH_done (by simpa [planOk] using hB) h fuel
  | .q k p, fuel, listed, a, w, hf, hB, hS, h => by
    obtain ⟨fuel, rfl⟩ : ∃ f, fuel = f + 1 := ⟨fuel - 1, by simp only [Plan.depth] at hf; omega⟩
    simp only [planOk, Bool.and_eq_true] at hB
    obtain ⟨o, v, ho, hy, hr⟩ := h
    exact firstQ ho (Region.noSelect_spec hs) (fun c a w => hQ c o.dst v a w) fuel listed a w (Region.free_spec ho hB.2.1) (by simpa using hB.1) hy hS (wpAnyH_plan hs hQ p fuel _ _ w (by simp only [Plan.depth] at hf; omega) hB.2.2 hS hr)
  | .e k p, fuel, listed, a, w, hf, hB, hS, h => by
    obtain ⟨fuel, rfl⟩ : ∃ f, fuel = f + 1 := ⟨fuel - 1, by simp only [Plan.depth] at hf; omega⟩
    simp only [planOk, Bool.and_eq_true, decide_eq_true_eq] at hB
    refine ⟨fun h0 => (by rw [h0] at hB; cases hB.1), fun i hi => ?_⟩
    rw [hB.1] at hi
    obtain rfl : i = k := by simpa using hi
    exact wpOp_mono (fun a' w' hh => ⟨hh.1, wpAnyH_plan hs hQ p fuel _ a' w' (by simp only [Plan.depth] at hf; omega) hB.2 hh.1 hh.2⟩) h
  | .e2 i p j r, fuel, listed, a, w, hf, hB, hS, h => by
    obtain ⟨fuel, rfl⟩ : ∃ f, fuel = f + 1 := ⟨fuel - 1, by simp only [Plan.depth] at hf; omega⟩
    simp only [planOk, Bool.and_eq_true, decide_eq_true_eq] at hB
    refine ⟨fun h0 => (by rw [h0] at hB; cases hB.1), fun k hk => ?_⟩
    rw [hB.1] at hk
    rcases List.mem_cons.1 hk with rfl | hk
    · exact wpOp_mono (fun a' w' hh => ⟨hh.1, wpAnyH_plan hs hQ p fuel _ a' w' (by simp only [Plan.depth] at hf; omega) hB.2.1 hh.1 hh.2⟩) h.1
    · obtain rfl : k = j := by simpa using hk
      exact wpOp_mono (fun a' w' hh => ⟨hh.1, wpAnyH_plan hs hQ r fuel _ a' w' (by simp only [Plan.depth] at hf; omega) hB.2.2 hh.1 hh.2⟩) h.2
/-- **the region**, walked by the plan -/
theorem wp_region_plan {id : Nat} {a : Act} {w : World} (S : World → Prop) (p : Plan) (hm : P.follows .mixedOrders = true) (hs : Region.noSelect ops = true) (hQ : ∀ c d (v : Value) a w, Q (.panic c) (a.put d v) w → Q (.panic c) a w)
    (hB : planOk .any ops p (Array.replicate ops.size false) = true) (hd : decide (p.depth ≤ ops.size) = true) (hS : S w.drew) (h : wpPlan P ops S Q p a w.drew) : (Code.region id ops true).wp P Q a w :=
  wp_region_held_drew hm hS fun _ => wpAnyH_plan hs hQ p ops.size _ a _ (of_decide_eq_true hd) hB hS h
/-! steps -/
theorem plan_done {a : Act} {w : World} (h : Q .normal a w) : wpPlan P ops S Q .done a w := h
theorem plan_val {k : Nat} {o : Oper} {p : Plan} {v : Value} {a : Act} {w : World} (hk : ops[k]? = some o) (hw : Region.wanted o (yielded ops a.tmps) = true) (hv : ∀ w', S w' → (execOp a.eval o).run P w' = .ok (.value v) w') (h : wpPlan P ops S Q p (a.put o.dst v) w) :
    wpPlan P ops S Q (.q k p) a w := ⟨o, v, hk, .inl ⟨hw, fun w' hS => by unfold Oper.quietAt; rw [hv w' hS]; exact ⟨rfl, rfl⟩⟩, h⟩
theorem plan_off {k : Nat} {o : Oper} {p : Plan} {a : Act} {w : World} (hk : ops[k]? = some o) (hw : Region.wanted o (yielded ops a.tmps) = false) (h : wpPlan P ops S Q p (a.put o.dst undef) w) :
    wpPlan P ops S Q (.q k p) a w := ⟨o, undef, hk, .inr ⟨hw, rfl⟩, h⟩
theorem plan_call {k : Nat} {o : Oper} {p : Plan} {v : Value} {f : FuncId} {args : Array Value} {a : Act} {w : World} (hk : ops[k]? = some o) (hw : Region.wanted o (yielded ops a.tmps) = true) (he : ∀ w', (execOp a.eval o).run P w' = .ok (.enter f args) w')
    (hv : ∀ w', S w' → Calls P f args w' fun e w'' => e = .returned v ∧ w' = w'') (h : wpPlan P ops S Q p (a.put o.dst v) w) :
    wpPlan P ops S Q (.q k p) a w := ⟨o, v, hk, .inl ⟨hw, fun w' hS => by unfold Oper.quietAt; rw [he w']; exact ⟨rfl, (hv w' hS).mono fun e w'' hh => ⟨hh.1, hh.2.symm⟩⟩⟩, h⟩
theorem wpOp_do {k : Nat} {o : Oper} {K : Act → World → Prop} {a : Act} {w : World} (hk : ops[k]? = some o) (hw : Region.wanted o (yielded ops a.tmps) = true) (h : o.wp P a w K Q) : wpOp P ops Q k K a w := by
  unfold wpOp
  simp only [hk]
  rw [if_pos hw]
  exact .inl h
theorem plan_e {k : Nat} {o : Oper} {p : Plan} {a : Act} {w : World} (hk : ops[k]? = some o) (hw : Region.wanted o (yielded ops a.tmps) = true) (h : ∀ K : Act → World → Prop, (∀ a' w', S w' → wpPlan P ops S Q p a' w' → K a' w') → o.wp P a w K Q) :
    wpPlan P ops S Q (.e k p) a w := wpOp_do hk hw (h _ fun _ _ h1 h2 => ⟨h1, h2⟩)
theorem plan_e2 {i j : Nat} {o u : Oper} {p r : Plan} {a : Act} {w : World} (hi : ops[i]? = some o) (hj : ops[j]? = some u) (hw : Region.wanted o (yielded ops a.tmps) = true) (hx : Region.wanted u (yielded ops a.tmps) = true)
    (h : ∀ K : Act → World → Prop, (∀ a' w', S w' → wpPlan P ops S Q p a' w' → K a' w') → o.wp P a w K Q) (g : ∀ K : Act → World → Prop, (∀ a' w', S w' → wpPlan P ops S Q r a' w' → K a' w') → u.wp P a w K Q) :
    wpPlan P ops S Q (.e2 i p j r) a w := ⟨wpOp_do hi hw (h _ fun _ _ h1 h2 => ⟨h1, h2⟩), wpOp_do hj hx (g _ fun _ _ h1 h2 => ⟨h1, h2⟩)⟩
end
end Go.Proofs.Ytknpaihlnkcpgaa.Own
/- Small laws on rows of bytes that are laid or read: over any world. -/
set_option linter.unusedVariables false
set_option linter.unusedSimpArgs false
namespace Go.Proofs.Ytknpaihlnkcpgaa.Own
open Go.RowKit Go.Proofs.YtknpaihlnkcpgaaW.PrintWords Go.Proofs.YtknpaihlnkcpgaaW.PrintLast Go.Proofs.YtknpaihlnkcpgaaW.PrintMore

theorem ret_bool {a b : Bool} (h : a = b) : Ending.returned (.bool a) = .returned (.bool b) := by rw [h]

/-- a new block of bytes reads so -/
theorem C_blk_bytes {w : World} {g t : Nat} {fr : Nat × Nat} (cs : List Int) (hm : cs.length ≤ 9223372036854775807) (hb : w.heap[g]? = some (.cells (nums .u8 cs).toArray t fr)) : Kd.C (Kd.int .u8) w (some ⟨g, 0, none⟩) cs.length cs := by
  refine ⟨rfl, hm, fun _ => ⟨_, rfl, fun j p hj => ⟨[.int .u8 p], rfl, rfl, fun i u hu => ?_⟩⟩⟩
  match i, hu with
  | 0, hu =>
    have hu' : Value.int .u8 p = u := by simpa using hu
    subst hu'
    have hs : (Kd.int IntKind.u8).sz = 1 := rfl
    rw [hs, Nat.mul_one, Nat.add_zero, add_plain, cell_of_row w g j _ t fr hb]
    simp [nums, hj]
theorem C_new_bytes (w : World) (cs : List Int) (hm : cs.length ≤ 9223372036854775807) : Kd.C (Kd.int .u8) (w.alloc (.cells (nums .u8 cs).toArray 5)) (some ⟨w.heap.size, 0, none⟩) cs.length cs := C_blk_bytes cs hm (heap_alloc_new w _)
/-- a new block of one row, of two rows of bytes -/
theorem C_blk_rows1 {w : World} {g t : Nat} {fr : Nat × Nat} {A : Option Addr} {c : Nat} {l : List Int} (hb : w.heap[g]? = some (.cells #[.slice A l.length c] t fr)) (h : Kd.C (Kd.int .u8) w A l.length l) (hc : l.length ≤ c) : Kd.C (Kd.slice 5 (Kd.int .u8)) w (some ⟨g, 0, none⟩) 1 [l] := by
  refine ⟨rfl, by decide, fun _ => ⟨_, rfl, fun j p hj => ?_⟩⟩
  match j, hj with
  | 0, hj =>
    obtain rfl : l = p := by simpa using hj
    refine ⟨[.slice A l.length c], rfl, ⟨A, c, rfl, hc, h⟩, fun i u hu => ?_⟩
    match i, hu with
    | 0, hu =>
      have hu' : Value.slice A l.length c = u := by simpa using hu
      subst hu'
      rw [Nat.zero_mul, Nat.add_zero, add_plain, cell_of_row w g 0 _ t fr hb]
      rfl
theorem C_blk_rows2 {w : World} {g t : Nat} {fr : Nat × Nat} {A B : Option Addr} {c d : Nat} {l m : List Int} (hb : w.heap[g]? = some (.cells #[.slice A l.length c, .slice B m.length d] t fr)) (h : Kd.C (Kd.int .u8) w A l.length l) (hc : l.length ≤ c) (k : Kd.C (Kd.int .u8) w B m.length m) (hd : m.length ≤ d) : Kd.C (Kd.slice 5 (Kd.int .u8)) w (some ⟨g, 0, none⟩) 2 [l, m] := by
  refine ⟨rfl, by decide, fun _ => ⟨_, rfl, fun j p hj => ?_⟩⟩
  match j, hj with
  | 0, hj =>
    obtain rfl : l = p := by simpa using hj
    refine ⟨[.slice A l.length c], rfl, ⟨A, c, rfl, hc, h⟩, fun i u hu => ?_⟩
    match i, hu with
    | 0, hu =>
      have hu' : Value.slice A l.length c = u := by simpa using hu
      subst hu'
      rw [Nat.zero_mul, Nat.add_zero, add_plain, cell_of_row w g 0 _ t fr hb]
      rfl
  | 1, hj =>
    obtain rfl : m = p := by simpa using hj
    refine ⟨[.slice B m.length d], rfl, ⟨B, d, rfl, hd, k⟩, fun i u hu => ?_⟩
    match i, hu with
    | 0, hu =>
      have hu' : Value.slice B m.length d = u := by simpa using hu
      subst hu'
      have hs : (Kd.slice 5 (Kd.int IntKind.u8)).sz = 1 := rfl
      rw [hs, Nat.mul_one, Nat.add_zero, add_plain, cell_of_row w g 1 _ t fr hb]
      rfl
theorem C_new_rows1n {w : World} {A : Option Addr} {n c : Nat} {l : List Int} (h : Kd.C (Kd.int .u8) w A n l) (hc : n ≤ c) : Kd.C (Kd.slice 5 (Kd.int .u8)) (w.alloc (.cells #[.slice A n c] 22)) (some ⟨w.heap.size, 0, none⟩) 1 [l] := by
  obtain rfl := h.1
  exact C_blk_rows1 (heap_alloc_new w _) (Kd.C_alloc h _) hc
theorem C_new_rows1 {w : World} {A : Option Addr} {c : Nat} {l : List Int} (h : Kd.C (Kd.int .u8) w A l.length l) (hc : l.length ≤ c) : Kd.C (Kd.slice 5 (Kd.int .u8)) (w.alloc (.cells #[.slice A l.length c] 22)) (some ⟨w.heap.size, 0, none⟩) 1 [l] :=
  C_blk_rows1 (heap_alloc_new w _) (Kd.C_alloc h _) hc
theorem C_new_rows2 {w : World} {A B : Option Addr} {c d : Nat} {l m : List Int} (h : Kd.C (Kd.int .u8) w A l.length l) (hc : l.length ≤ c) (k : Kd.C (Kd.int .u8) w B m.length m) (hd : m.length ≤ d) : Kd.C (Kd.slice 5 (Kd.int .u8)) (w.alloc (.cells #[.slice A l.length c, .slice B m.length d] 22)) (some ⟨w.heap.size, 0, none⟩) 2 [l, m] :=
  C_blk_rows2 (heap_alloc_new w _) (Kd.C_alloc h _) hc (Kd.C_alloc k _) hd
/-- what a call's literals are: one row of bytes; two rows -/
theorem C_lits1 (w : World) (cs : List Int) (hm : cs.length ≤ 9223372036854775807) : Kd.C (Kd.slice 5 (Kd.int .u8)) ((w.alloc (.cells (nums .u8 cs).toArray 5)).alloc (.cells #[.slice (some ⟨w.heap.size, 0, none⟩) cs.length cs.length] 22)) (some ⟨w.heap.size + 1, 0, none⟩) 1 [cs] := by
  have h := C_new_rows1 (C_new_bytes w cs hm) (Nat.le_refl _)
  rwa [World.size_alloc] at h
theorem C_lits2 (w : World) (cs ds : List Int) (hm : cs.length ≤ 9223372036854775807) (hn : ds.length ≤ 9223372036854775807) : Kd.C (Kd.slice 5 (Kd.int .u8)) (((w.alloc (.cells (nums .u8 cs).toArray 5)).alloc (.cells (nums .u8 ds).toArray 5)).alloc (.cells #[.slice (some ⟨w.heap.size, 0, none⟩) cs.length cs.length, .slice (some ⟨w.heap.size + 1, 0, none⟩) ds.length ds.length] 22)) (some ⟨w.heap.size + 2, 0, none⟩) 2 [cs, ds] := by
  have h := C_new_rows2 (Kd.C_alloc (C_new_bytes w cs hm) (.cells (nums .u8 ds).toArray 5)) (Nat.le_refl _) (C_new_bytes (w.alloc (.cells (nums .u8 cs).toArray 5)) ds hn) (Nat.le_refl _)
  simp only [World.size_alloc] at h
  exact h
/-- a row that came, and one of two bytes -/
theorem C_row_two {w : World} {A : Option Addr} {c : Nat} {b : List Int} (h : Kd.C (Kd.int .u8) w A b.length b) (hc : b.length ≤ c) (x y : Int) :
    Kd.C (Kd.slice 5 (Kd.int .u8)) ((w.alloc (.cells #[.int .u8 x, .int .u8 y] 5)).alloc (.cells #[.slice A b.length c, .slice (some ⟨w.heap.size, 0, none⟩) 2 2] 22)) (some ⟨w.heap.size + 1, 0, none⟩) 2 [b, [x, y]] := by
  have h := C_new_rows2 (Kd.C_alloc h (.cells (nums .u8 [x, y]).toArray 5)) hc (C_new_bytes w [x, y] (by simp)) (Nat.le_refl 2)
  rwa [World.size_alloc] at h
theorem C_row_twon {w : World} {A : Option Addr} {n c : Nat} {b : List Int} (h : Kd.C (Kd.int .u8) w A n b) (hc : n ≤ c) (x y : Int) :
    Kd.C (Kd.slice 5 (Kd.int .u8)) ((w.alloc (.cells #[.int .u8 x, .int .u8 y] 5)).alloc (.cells #[.slice A n c, .slice (some ⟨w.heap.size, 0, none⟩) 2 2] 22)) (some ⟨w.heap.size + 1, 0, none⟩) 2 [b, [x, y]] := by
  obtain rfl := h.1
  exact C_row_two h hc x y
/-- a row of one's own, read -/
theorem C_of_R {w : World} {e base : Nat} {ok : Nat → Prop} {A : Option Addr} {n c : Nat} {xs : List Int} (h : Kd.R (Kd.int .u8) e w base ok (.slice A n c) xs) : Kd.C (Kd.int .u8) w A n xs ∧ n ≤ c := by
  obtain ⟨rfl, h2, h3⟩ := Kd.R_reads' h
  exact ⟨h3, h2⟩
theorem below_alloc1 (w : World) (a : Obj) : Below w.heap.size w (w.alloc a) := (Below.refl w.heap.size w).alloc (Nat.le_refl _) _
theorem below_alloc2 (w : World) (a b : Obj) : Below w.heap.size w ((w.alloc a).alloc b) := (below_alloc1 w a).alloc (by simp) _
theorem below_alloc3 (w : World) (a b c : Obj) : Below w.heap.size w (((w.alloc a).alloc b).alloc c) := (below_alloc2 w a b).alloc (by simp; omega) _
theorem below_tr {w a b : World} (h : Below w.heap.size w a) (k : Below a.heap.size a b) : Below w.heap.size w b := below_then h h.size k

theorem info_u8 : (Try.prog.info? 5).map (fun i => (i.zero, i.size, i.bytes)) = some (some (.int .u8 0), 1, 1) := by kernel_rfl
/-- cuts of a row of bytes: what the walk runs, and what they read -/
theorem drop_bytes (A : Option Addr) (c : Nat) (xs : List Int) (j : Int) (h0 : 0 ≤ j) (hm : j ≤ xs.length) (hc : xs.length ≤ c) :
    ∃ A' : Option Addr, (∀ W : World, (Instr.slice 22 (.slice A xs.length c) (some (.int .i64 j)) none none).run Try.prog W = .ok (.slice A' (xs.drop j.toNat).length (c - j.toNat)) W) ∧
      (∀ w : World, Kd.C (Kd.int .u8) w A xs.length xs → Kd.C (Kd.int .u8) w A' (xs.drop j.toNat).length (xs.drop j.toNat)) ∧ (xs.drop j.toNat).length ≤ c - j.toNat := by
  obtain ⟨i, hi, hz⟩ := Option.map_eq_some_iff.1 info_u8
  simp only [Prod.mk.injEq] at hz
  obtain ⟨A', h1, h2, h3⟩ := print_drop_of (P := Try.prog) (Value.int .u8) (0 : Int) 22 5 .i64 Try.underlying22 hi hz.2.1 A c xs j h0 hm hc
  exact ⟨A', h1, fun w h => Kd.C_of_reads (d := (0 : Int)) (h1 := fun _ => rfl) (h2 w (Kd.reads_of_C (enc := Value.int .u8) (d := (0 : Int)) (h1 := fun _ => rfl) h)), h3⟩
theorem take_bytes (A : Option Addr) (c : Nat) (xs : List Int) (j : Int) (h0 : 0 ≤ j) (hm : j ≤ xs.length) (hc : xs.length ≤ c) :
    (∀ W : World, (Instr.slice 22 (.slice A xs.length c) none (some (.int .i64 j)) none).run Try.prog W = .ok (.slice A (xs.take j.toNat).length c) W) ∧
      (∀ w : World, Kd.C (Kd.int .u8) w A xs.length xs → Kd.C (Kd.int .u8) w A (xs.take j.toNat).length (xs.take j.toNat)) ∧ (xs.take j.toNat).length ≤ c := by
  obtain ⟨i, hi, hz⟩ := Option.map_eq_some_iff.1 info_u8
  simp only [Prod.mk.injEq] at hz
  obtain ⟨h1, h2, h3⟩ := print_take_of (P := Try.prog) (Value.int .u8) (0 : Int) 22 5 .i64 Try.underlying22 hi hz.2.1 A c xs j h0 hm hc
  exact ⟨h1, fun w h => Kd.C_of_reads (d := (0 : Int)) (h1 := fun _ => rfl) (h2 w (Kd.reads_of_C (enc := Value.int .u8) (d := (0 : Int)) (h1 := fun _ => rfl) h)), h3⟩
theorem mid_bytes (A : Option Addr) (c : Nat) (xs : List Int) (a b : Int) (h0 : 0 ≤ a) (h1 : a ≤ b) (hm : b ≤ xs.length) (hc : xs.length ≤ c) :
    ∃ A' : Option Addr, (∀ W : World, (Instr.slice 22 (.slice A xs.length c) (some (.int .i64 a)) (some (.int .i64 b)) none).run Try.prog W = .ok (.slice A' ((xs.take b.toNat).drop a.toNat).length (c - a.toNat)) W) ∧
      (∀ w : World, Kd.C (Kd.int .u8) w A xs.length xs → Kd.C (Kd.int .u8) w A' ((xs.take b.toNat).drop a.toNat).length ((xs.take b.toNat).drop a.toNat)) ∧ ((xs.take b.toNat).drop a.toNat).length ≤ c - a.toNat := by
  obtain ⟨i, hi, hz⟩ := Option.map_eq_some_iff.1 info_u8
  simp only [Prod.mk.injEq] at hz
  obtain ⟨A', h1, h2, h3⟩ := print_mid_of (P := Try.prog) (Value.int .u8) (0 : Int) 22 5 .i64 .i64 Try.underlying22 hi hz.2.1 A c xs a b h0 h1 hm hc
  exact ⟨A', h1, fun w h => Kd.C_of_reads (d := (0 : Int)) (h1 := fun _ => rfl) (h2 w (Kd.reads_of_C (enc := Value.int .u8) (d := (0 : Int)) (h1 := fun _ => rfl) h)), h3⟩
/-- the same cuts, their numbers and lists under names -/
theorem cut_take (A : Option Addr) (n c : Nat) (xs : List Int) (j : Int) (hn : xs.length = n) (h0 : 0 ≤ j) (hm : j ≤ n) (hc : n ≤ c) :
    ∃ (T : List Int) (m : Nat), (∀ W : World, (Instr.slice 22 (.slice A n c) none (some (.int .i64 j)) none).run Try.prog W = .ok (.slice A m c) W) ∧
      (∀ w : World, Kd.C (Kd.int .u8) w A n xs → Kd.C (Kd.int .u8) w A m T) ∧ m ≤ c ∧ T = xs.take j.toNat ∧ (m : Int) = j := by
  subst hn
  obtain ⟨h1, h2, h3⟩ := take_bytes A c xs j h0 hm hc
  exact ⟨_, _, h1, h2, h3, rfl, by rw [List.length_take]; omega⟩
theorem cut_drop (A : Option Addr) (n c : Nat) (xs : List Int) (j : Int) (hn : xs.length = n) (h0 : 0 ≤ j) (hm : j ≤ n) (hc : n ≤ c) :
    ∃ (T : List Int) (A' : Option Addr) (m c' : Nat), (∀ W : World, (Instr.slice 22 (.slice A n c) (some (.int .i64 j)) none none).run Try.prog W = .ok (.slice A' m c') W) ∧
      (∀ w : World, Kd.C (Kd.int .u8) w A n xs → Kd.C (Kd.int .u8) w A' m T) ∧ m ≤ c' ∧ T = xs.drop j.toNat ∧ (m : Int) = n - j := by
  subst hn
  obtain ⟨A', h1, h2, h3⟩ := drop_bytes A c xs j h0 hm hc
  exact ⟨_, _, _, _, h1, h2, h3, rfl, by rw [List.length_drop]; omega⟩
theorem cut_mid (A : Option Addr) (n c : Nat) (xs : List Int) (a b : Int) (hn : xs.length = n) (h0 : 0 ≤ a) (h1 : a ≤ b) (hm : b ≤ n) (hc : n ≤ c) :
    ∃ (T : List Int) (A' : Option Addr) (m c' : Nat), (∀ W : World, (Instr.slice 22 (.slice A n c) (some (.int .i64 a)) (some (.int .i64 b)) none).run Try.prog W = .ok (.slice A' m c') W) ∧
      (∀ w : World, Kd.C (Kd.int .u8) w A n xs → Kd.C (Kd.int .u8) w A' m T) ∧ m ≤ c' ∧ T = (xs.take b.toNat).drop a.toNat ∧ (m : Int) = b - a := by
  subst hn
  obtain ⟨A', h2, h3, h4⟩ := mid_bytes A c xs a b h0 h1 hm hc
  exact ⟨_, _, _, _, h2, h3, h4, rfl, by rw [List.length_drop, List.length_take]; omega⟩
/-- a byte of b at i, in another world -/
theorem byte_at {b : List Int} {A : Option Addr} {w wr : World} (hr : Kd.C (Kd.int .u8) w A b.length b) (hb : Below w.heap.size w wr) (i : Int) (h0 : 0 ≤ i) (h1 : i < b.length) : ∃ ad, A = some ad ∧ wr.cell? (ad.add i.toNat) = some (.int .u8 (b.getD i.toNat 0)) := by
  obtain ⟨ad, rfl, hx⟩ := Kd.at_int hr i h0 h1
  exact ⟨ad, rfl, (hb.cell (World.block_lt_of_cell? w _ hx)).trans hx⟩
/-- numbers of their kinds -/
theorem bytes_of_wf {l : List Int} (h : ∀ x ∈ l, (Lit.int .u8 x).wf = true) : ∀ x ∈ l, 0 ≤ x ∧ x < 256 := by
  intro x hx
  have hmin : IntKind.u8.min = 0 := rfl
  have hmax : IntKind.u8.max = 255 := rfl
  have := h x hx
  simp only [Lit.wf, Bool.and_eq_true, decide_eq_true_eq] at this
  omega
theorem i64_of_wf {x : Int} (h : (Lit.int .i64 x).wf = true) : -9223372036854775808 ≤ x ∧ x ≤ 9223372036854775807 := by
  have hmin : IntKind.i64.min = -9223372036854775808 := rfl
  have hmax : IntKind.i64.max = 9223372036854775807 := rfl
  simp only [Lit.wf, Bool.and_eq_true, decide_eq_true_eq] at h
  omega
theorem u16_of_wf {x : Int} (h : (Lit.int .u16 x).wf = true) : 0 ≤ x ∧ x ≤ 65535 := by
  have hmin : IntKind.u16.min = 0 := rfl
  have hmax : IntKind.u16.max = 65535 := rfl
  simp only [Lit.wf, Bool.and_eq_true, decide_eq_true_eq] at h
  omega
theorem u8_of_wf {x : Int} (h : (Lit.int .u8 x).wf = true) : 0 ≤ x ∧ x ≤ 255 := by
  have hmin : IntKind.u8.min = 0 := rfl
  have hmax : IntKind.u8.max = 255 := rfl
  simp only [Lit.wf, Bool.and_eq_true, decide_eq_true_eq] at h
  omega
theorem u32_of_wf {x : Int} (h : (Lit.int .u32 x).wf = true) : 0 ≤ x ∧ x ≤ 4294967295 := by
  have hmin : IntKind.u32.min = 0 := rfl
  have hmax : IntKind.u32.max = 4294967295 := rfl
  simp only [Lit.wf, Bool.and_eq_true, decide_eq_true_eq] at h
  omega
end Go.Proofs.Ytknpaihlnkcpgaa.Own
/- slices.Clone of bytes. -/
set_option linter.unusedVariables false
set_option linter.unusedSimpArgs false
namespace Go.Proofs.Ytknpaihlnkcpgaa.Own
open Go.RowKit Go.Proofs.YtknpaihlnkcpgaaW.PrintWords Go.Proofs.YtknpaihlnkcpgaaW.PrintLast Go.Proofs.YtknpaihlnkcpgaaW.PrintMore

theorem own_none (w : World) (base : Nat) (h : base ≤ w.heap.size) : Kd.R (Kd.int .u8) 5 (w.alloc (.cells #[] 5)) base (fun _ => True) (.slice (some ⟨w.heap.size, 0, none⟩) 0 0) [] :=
  Kd.R_of_own (h1 := fun _ => rfl) ⟨rfl, .inr ⟨w.heap.size, 0, #[], rfl, h, heap_alloc_new w _, Nat.le_refl _, by decide, rfl, rfl⟩⟩ (fun _ _ => trivial)

set_option maxRecDepth 100000 in
theorem clone_any (l : List Int) (A : Option Addr) (n c : Nat) (w : World) (hr : Kd.C (Kd.int .u8) w A n l) (hn : n ≤ 140737488355328) :
    Calls Try.prog 40 #[.slice A n c] w fun e w' => ∃ v, e = .returned v ∧ Kd.R (Kd.int .u8) 5 w' w.heap.size (fun _ => True) v l ∧ Below w.heap.size w w' := by
  have hl : l.length = n := hr.1
  cases A with
  | none =>
    have h0 : n = 0 := by
      rcases Nat.eq_zero_or_pos n with h | h
      · exact h
      · obtain ⟨ad, h2, _⟩ := hr.2.2 h
        cases h2
    subst h0
    obtain rfl : l = [] := List.eq_nil_of_length_eq_zero hl
    clear hr
    have hq := fun (n c : Nat) (W : World) => Lib.run_eql_slice_nil (P := Try.prog) W 22 5 none n c 0 0 Try.underlying22
    go_enter Try.func40, Try.ntmps40
    go_wp2
    go_ret
    exact ⟨_, rfl, Kd.R_nil _ _ _ _ _, Below.refl _ _⟩
  | some ad =>
    have HR := Aside0.mk hr
    clear hr
    have hq := fun (n c : Nat) (W : World) => Lib.run_eql_slice_nil (P := Try.prog) W 22 5 (some ad) n c 0 0 Try.underlying22
    go_enter Try.func40, Try.ntmps40
    go_wp2_with (at_builtin; refine Kd.R_append_rows (Kd.int .u8) (w0 := w) w.heap.size rfl (.tmp 5) (.tmp 6) 22 5 (.int .u8 0) 1 rfl Try.underlying22 info_u8 rfl (by decide) (by decide) _ [] l (some ad) n c (fun _ => True) (fun _ => False) rfl rfl (own_none w w.heap.size (Nat.le_refl _)) (Kd.C_below HR.out (below_alloc1 w _)) (fun _ _ h => h) (fun _ h => h.elim) (fun _ _ => trivial) (below_alloc1 w _) (by simp) (by simp; omega) ?_; intro v1 w3 ho1 hb3 _ _)
    go_ret
    exact ⟨_, rfl, by simpa using ho1, hb3⟩
end Go.Proofs.Ytknpaihlnkcpgaa.Own
/- Plain words on the Internet's checksum: a folded sum, the sum of bytes as words. No program, no memory. -/
set_option linter.unusedVariables false
set_option linter.unusedSimpArgs false
namespace Go.Proofs.Ytknpaihlnkcpgaa.Own

/-- the folded sum: 0 of 0, else the remainder by 65535, from 1 to 65535 -/
def cf (n : Int) : Int := if n = 0 then 0 else (n - 1) % 65535 + 1

theorem cf_small (n : Int) (h0 : 0 ≤ n) (h1 : n ≤ 65535) : cf n = n := by unfold cf; split <;> omega
theorem cf_step (n : Int) (h1 : 65535 < n) : cf (n % 65536 + n / 65536) = cf n := by unfold cf; split <;> split <;> omega
theorem cf_range (n : Int) (h0 : 0 ≤ n) : 0 ≤ cf n ∧ cf n ≤ 65535 := by unfold cf; split <;> omega
theorem cf_cf_add (a b : Int) (ha : 0 ≤ a) (hb : 0 ≤ b) : cf (cf a + b) = cf (a + b) := by unfold cf; split <;> split <;> (try split) <;> omega
theorem cf_mod (n : Int) (h0 : 0 ≤ n) : cf n % 65535 = n % 65535 := by unfold cf; split <;> omega
theorem cf_zero (n : Int) (h0 : 0 ≤ n) : cf n = 0 ↔ n = 0 := by unfold cf; split <;> omega
theorem cf_full (n : Int) (h0 : 0 < n) : cf n = 65535 ↔ n % 65535 = 0 := by unfold cf; split <;> omega
theorem cf_eq (a b : Int) (ha : 0 < a) (hb : 0 < b) (h : a % 65535 = b % 65535) : cf a = cf b := by unfold cf; split <;> split <;> omega

/-- each is a byte -/
def bytes (l : List Int) : Prop := ∀ x ∈ l, 0 ≤ x ∧ x < 256
instance (l : List Int) : Decidable (bytes l) := inferInstanceAs (Decidable (∀ x ∈ l, 0 ≤ x ∧ x < 256))
theorem bytes_nil : bytes [] := fun x h => by cases h
theorem bytes_cons (x : Int) (l : List Int) : bytes (x :: l) ↔ (0 ≤ x ∧ x < 256) ∧ bytes l := by simp [bytes]
theorem bytes_append (a b : List Int) : bytes (a ++ b) ↔ bytes a ∧ bytes b := by
  constructor
  · exact fun h => ⟨fun x hx => h x (List.mem_append_left _ hx), fun x hx => h x (List.mem_append_right _ hx)⟩
  · rintro ⟨h, k⟩ x hx
    rcases List.mem_append.1 hx with hx | hx
    · exact h x hx
    · exact k x hx

/-- what bytes weigh, the first of them at place m -/
def wt (m : Int) : List Int → Int
  | [] => 0
  | x :: l => (if m % 2 = 0 then x * 256 else x) + wt (m + 1) l
theorem wt_nonneg (l : List Int) : ∀ m, bytes l → 0 ≤ wt m l := by
  induction l with
  | nil => intro m _; simp [wt]
  | cons x l ih =>
    intro m h
    rw [bytes_cons] at h
    have := ih (m + 1) h.2
    unfold wt
    split <;> omega
theorem wt_append (a b : List Int) : ∀ m, wt m (a ++ b) = wt m a + wt (m + a.length) b := by
  induction a with
  | nil => intro m; simp [wt]
  | cons x a ih =>
    intro m
    simp only [List.cons_append, wt, ih, List.length_cons]
    rw [show m + 1 + (a.length : Int) = m + ((a.length + 1 : Nat) : Int) from by omega]
    omega
theorem wt_par (l : List Int) : ∀ m k, m % 2 = k % 2 → wt m l = wt k l := by
  induction l with
  | nil => intro m k _; rfl
  | cons x l ih =>
    intro m k h
    unfold wt
    rw [ih (m + 1) (k + 1) (by omega), h]
theorem wt_take_succ (l : List Int) (m : Int) (k : Nat) (h : k < l.length) : wt m (l.take (k + 1)) = wt m (l.take k) + (if (m + k) % 2 = 0 then l.getD k 0 * 256 else l.getD k 0) := by
  rw [List.take_succ_eq_append_getElem h, wt_append, List.length_take, Nat.min_eq_left (Nat.le_of_lt h)]
  simp [wt, List.getD_eq_getElem?_getD, List.getElem?_eq_getElem h]
theorem bytes_take {l : List Int} (h : bytes l) (k : Nat) : bytes (l.take k) := fun x hx => h x (List.mem_of_mem_take hx)
theorem bytes_drop {l : List Int} (h : bytes l) (k : Nat) : bytes (l.drop k) := fun x hx => h x (List.mem_of_mem_drop hx)
theorem bytes_getD {l : List Int} (h : bytes l) (k : Nat) : 0 ≤ l.getD k 0 ∧ l.getD k 0 < 256 := by
  rw [List.getD_eq_getElem?_getD]
  by_cases hk : k < l.length
  · rw [List.getElem?_eq_getElem hk]
    exact h _ (List.getElem_mem hk)
  · rw [List.getElem?_eq_none (by omega)]
    simp
/-- the checksum of bytes -/
def ck (l : List Int) : Int := 65535 - cf (wt 0 l)
theorem ck_range (l : List Int) (h : bytes l) : 0 ≤ ck l ∧ ck l ≤ 65535 := by
  have := cf_range _ (wt_nonneg l 0 h)
  unfold ck
  omega
/-- are bytes whole -/
def wholeB (l : List Int) : Bool := ck l == 0 || ck l == 65535

/-- what Change tells -/
def chg (s f t : Int) : Int := 65535 - cf (65535 - s + (65535 - f) + t)
/-- a number's two bytes -/
def two (n : Int) : List Int := [n / 256, n % 256]
theorem bytes_two (n : Int) (n0 : 0 ≤ n) (n1 : n ≤ 65535) : bytes (two n) := by
  intro x hx
  simp [two] at hx
  omega
theorem wt_two (n : Int) : wt 0 (two n) = n := by
  simp [wt, two]
  omega
theorem whole_iff (l : List Int) (h : bytes l) : wholeB l = true ↔ wt 0 l % 65535 = 0 := by
  have h0 := wt_nonneg l 0 h
  simp only [wholeB, ck, Bool.or_eq_true, beq_iff_eq]
  unfold cf
  split <;> omega
theorem ck_mod (l : List Int) (h : bytes l) : (wt 0 l + ck l) % 65535 = 0 := by
  have h0 := wt_nonneg l 0 h
  have := cf_mod (wt 0 l) h0
  unfold ck
  omega
theorem wt_even_append (a b : List Int) (h : a.length % 2 = 0) : wt 0 (a ++ b) = wt 0 a + wt 0 b := by
  rw [wt_append, wt_par b (0 + (a.length : Int)) 0 (by omega)]
theorem keeps1 (b : List Int) (h : bytes b) (he : b.length % 2 = 0) : wholeB (b ++ two (ck b)) = true := by
  have hr := ck_range b h
  rw [whole_iff _ ((bytes_append _ _).2 ⟨h, bytes_two _ hr.1 hr.2⟩), wt_even_append _ _ he, wt_two]
  exact ck_mod b h
theorem bytes_set {l : List Int} (h : bytes l) (j : Nat) (x : Int) (h0 : 0 ≤ x) (h1 : x < 256) : bytes (l.set j x) := by
  intro y hy
  rcases List.mem_or_eq_of_mem_set hy with hy | rfl
  · exact h y hy
  · exact ⟨h0, h1⟩
theorem wt_set (l : List Int) (x : Int) : ∀ (m : Int) (j : Nat), j < l.length → wt m (l.set j x) = wt m l + (if (m + j) % 2 = 0 then (x - l.getD j 0) * 256 else x - l.getD j 0) := by
  induction l with
  | nil => intro m j h; simp at h
  | cons y l ih =>
    intro m j h
    cases j with
    | zero =>
      simp only [List.set_cons_zero, wt, List.getD_cons_zero]
      rw [show m + ((0 : Nat) : Int) = m from by omega]
      split <;> omega
    | succ j =>
      simp only [List.set_cons_succ, wt, List.getD_cons_succ]
      rw [ih (m + 1) j (by simpa using h), show m + 1 + (j : Int) = m + ((j + 1 : Nat) : Int) from by omega]
      omega
theorem getD_set_ne (l : List Int) (i j : Nat) (x : Int) (h : i ≠ j) : (l.set i x).getD j 0 = l.getD j 0 := by
  simp [List.getD_eq_getElem?_getD, List.getElem?_set_ne h]
theorem getD_set_eq (l : List Int) (i : Nat) (x : Int) (h : i < l.length) : (l.set i x).getD i 0 = x := by
  simp [List.getD_eq_getElem?_getD, List.getElem?_set_self h]
/-- two words, exchanged -/
theorem keeps2 (b : List Int) (i k : Nat) (hi : i % 2 = 0) (hk : k % 2 = 0) (li : i + 1 < b.length) (lk : k + 1 < b.length) :
    wt 0 ((((b.set i (b.getD k 0)).set (i + 1) (b.getD (k + 1) 0)).set k (b.getD i 0)).set (k + 1) (b.getD (i + 1) 0)) = wt 0 b := by
  rw [wt_set _ _ _ _ (by simp; omega), wt_set _ _ _ _ (by simp; omega), wt_set _ _ _ _ (by simp; omega), wt_set _ _ _ _ (by omega)]
  have p1 : (0 + (i : Int)) % 2 = 0 := by omega
  have p2 : ¬ (0 + ((i + 1 : Nat) : Int)) % 2 = 0 := by omega
  have p3 : (0 + (k : Int)) % 2 = 0 := by omega
  have p4 : ¬ (0 + ((k + 1 : Nat) : Int)) % 2 = 0 := by omega
  rw [if_pos p1, if_neg p2, if_pos p3, if_neg p4]
  by_cases e : i = k
  · subst e
    rw [getD_set_ne _ i (i + 1) _ (by omega), getD_set_ne _ i (i + 1) _ (by omega), getD_set_eq _ (i + 1) _ (by simp; omega), getD_set_ne _ (i + 1) i _ (by omega), getD_set_eq _ i _ (by omega)]
    omega
  · rw [getD_set_ne _ i (i + 1) _ (by omega), getD_set_ne _ (i + 1) k _ (by omega), getD_set_ne _ i k _ (by omega), getD_set_ne _ k (k + 1) _ (by omega), getD_set_ne _ (i + 1) (k + 1) _ (by omega), getD_set_ne _ i (k + 1) _ (by omega)]
    omega
/-- another word -/
theorem keeps3 (b : List Int) (i : Nat) (t : Int) (h : bytes b) (he : b.length % 2 = 0) (hi : i % 2 = 0) (li : i + 1 < b.length) (t0 : 0 ≤ t) (t1 : t ≤ 65535) :
    wholeB (((b.set i (t / 256)).set (i + 1) (t % 256)) ++ two (chg (ck b) (b.getD i 0 * 256 + b.getD (i + 1) 0) t)) = true := by
  have h0 := wt_nonneg b 0 h
  have g0 := bytes_getD h i
  have g1 := bytes_getD h (i + 1)
  have hc := ck_range b h
  have hm := ck_mod b h
  have hf := cf_range (65535 - ck b + (65535 - (b.getD i 0 * 256 + b.getD (i + 1) 0)) + t) (by omega)
  have hq := cf_mod (65535 - ck b + (65535 - (b.getD i 0 * 256 + b.getD (i + 1) 0)) + t) (by omega)
  have hb : bytes ((b.set i (t / 256)).set (i + 1) (t % 256)) := bytes_set (bytes_set h i _ (by omega) (by omega)) _ _ (by omega) (by omega)
  have hw : wt 0 ((b.set i (t / 256)).set (i + 1) (t % 256)) = wt 0 b - (b.getD i 0 * 256 + b.getD (i + 1) 0) + t := by
    have p1 : (0 + (i : Int)) % 2 = 0 := by omega
    have p2 : ¬ (0 + ((i + 1 : Nat) : Int)) % 2 = 0 := by omega
    rw [wt_set _ _ _ _ (by simp; omega), wt_set _ _ _ _ (by omega), if_pos p1, if_neg p2, getD_set_ne _ i (i + 1) _ (by omega)]
    omega
  rw [whole_iff _ ((bytes_append _ _).2 ⟨hb, bytes_two _ (by unfold chg; omega) (by unfold chg; omega)⟩), wt_even_append _ _ (by simpa using he), wt_two, hw]
  unfold chg
  omega
end Go.Proofs.Ytknpaihlnkcpgaa.Own
/- A number's bytes, in plain Lean. -/
set_option linter.unusedVariables false
set_option linter.unusedSimpArgs false
namespace Go.Proofs.Ytknpaihlnkcpgaa.Own

/-- the bytes of a number, the highest first -/
def be : Nat → Int → List Int
  | 0, _ => []
  | n + 1, v => be n (v / 256) ++ [v % 256]
theorem be_length : ∀ (n : Nat) (v : Int), (be n v).length = n := by
  intro n
  induction n with
  | zero => intro v; rfl
  | succ n ih => intro v; simp [be, ih]
theorem bytes_be : ∀ (n : Nat) (v : Int), bytes (be n v) := by
  intro n
  induction n with
  | zero => intro v; exact bytes_nil
  | succ n ih =>
    intro v
    simp only [be]
    rw [bytes_append]
    refine ⟨ih _, fun x hx => ?_⟩
    rw [List.mem_singleton.1 hx]
    omega
theorem be_top : ∀ (n : Nat) (v : Int), be (n + 1) v = (v / 256 ^ n % 256) :: be n v := by
  intro n
  induction n with
  | zero => intro v; simp [be]
  | succ n ih =>
    intro v
    rw [be, ih (v / 256)]
    have e : v / 256 / 256 ^ n = v / 256 ^ (n + 1) := by
      rw [Int.ediv_ediv_of_nonneg (by omega), Int.pow_succ, Int.mul_comm]
    rw [e]
    simp [be]
theorem be_one (v : Int) : be 1 v = [v % 256] := rfl
theorem be_two (v : Int) : be 2 v = [v / 256 % 256, v % 256] := rfl
/-- how many bytes a number wants -/
def lst : Nat → Int → Int
  | 0, _ => 1
  | n + 1, v => if 0 < v / 256 then lst n (v / 256) + 1 else 1
theorem lst_pos : ∀ (n : Nat) (v : Int), 1 ≤ lst n v := by
  intro n
  induction n with
  | zero => intro v; exact Int.le_refl _
  | succ n ih =>
    intro v
    unfold lst
    split
    · have := ih (v / 256); omega
    · exact Int.le_refl _
theorem pow_ge (k : Nat) (hk : 1 ≤ k) : (256 : Int) ≤ 256 ^ k := by
  obtain ⟨j, rfl⟩ : ∃ j, k = j + 1 := ⟨k - 1, by omega⟩
  have h : (0 : Int) < 256 ^ j := Int.pow_pos (by omega)
  rw [Int.pow_succ]
  omega
set_option maxRecDepth 100000 in
theorem lst_le : ∀ (n k : Nat) (v : Int), 0 ≤ v → v < 256 ^ (n + 1) → 1 ≤ k → (lst n v ≤ k ↔ v < 256 ^ k) := by
  intro n
  induction n with
  | zero =>
    intro k v h0 h1 hk
    have h2 := pow_ge k hk
    have h3 : (256 : Int) ^ (0 + 1) = 256 := rfl
    have h4 : lst 0 v = 1 := rfl
    omega
  | succ n ih =>
    intro k v h0 h1 hk
    unfold lst
    have h2 := pow_ge k hk
    split
    · rename_i hp
      rw [Int.pow_succ] at h1
      have hv : v / 256 < 256 ^ (n + 1) := by omega
      have hge := lst_pos n (v / 256)
      rcases Nat.lt_or_ge 1 k with h3 | h3
      · obtain ⟨k, rfl⟩ : ∃ j, k = j + 1 := ⟨k - 1, by omega⟩
        have := ih k (v / 256) (by omega) hv (by omega)
        rw [Int.pow_succ]
        omega
      · have hk1 : k = 1 := by omega
        subst hk1
        have h5 : (256 : Int) ^ 1 = 256 := rfl
        omega
    · rename_i hp
      omega
end Go.Proofs.Ytknpaihlnkcpgaa.Own
/- Contracts of package sum: fold, Add, Value, Len, each, Of. -/
set_option linter.unusedVariables false
set_option linter.unusedSimpArgs false
namespace Go.Proofs.Ytknpaihlnkcpgaa.Own
open Go.RowKit Go.Proofs.YtknpaihlnkcpgaaW.PrintWords Go.Proofs.YtknpaihlnkcpgaaW.PrintLast Go.Proofs.YtknpaihlnkcpgaaW.PrintMore

theorem wraps_u64 (n : Int) (h₀ : 0 ≤ n) (h₁ : n < 2 ^ 64) : IntKind.u64.wrap n = n := by simp [IntKind.wrap, IntKind.bits, IntKind.signed]; omega
theorem wraps_u16 (n : Int) (h₀ : 0 ≤ n) (h₁ : n < 2 ^ 16) : IntKind.u16.wrap n = n := by simp [IntKind.wrap, IntKind.bits, IntKind.signed]; omega
theorem u64_and16 (x : Int) (h0 : 0 ≤ x) (h1 : x ≤ 16777215) : bits .and .u64 x 65535 = x % 65536 := bits_mask .u64 64 (by decide) wraps_u64 16 (by decide) x h0 (by omega)
theorem ret_u16 {a b : Int} (h : a = b) : Ending.returned (.int .u16 a) = .returned (.int .u16 b) := by rw [h]
theorem ret_i64 {a b : Int} (h : a = b) : Ending.returned (.int .i64 a) = .returned (.int .i64 b) := by rw [h]

def sum_fold.f (a0 : Int) : Option Int := if 0 ≤ a0 ∧ a0 ≤ 16777215 then some (cf a0) else none
set_option maxHeartbeats 400000 in
theorem fold_any (a0 : Int) (w : World) (b0 : 0 ≤ a0) (b1 : a0 ≤ 16777215) :
    Calls Try.prog 58 #[.int .u64 a0] w fun e w' => e = .returned (.int .u16 (cf a0)) ∧ w = w' := by
  go_enter Try.func58, Try.ntmps58
  go_wp2
  go_step3
  go_wp2
  go_step3
  go_wp2
  go_loop [0] (fun v => ∃ x : Int, v = .int .u64 x ∧ 0 ≤ x ∧ x ≤ 16777215 ∧ Aside0 (cf x = cf a0)) (fun v => (intOf v).toNat)
  case atStart => exact ⟨a0, rfl, b0, b1, Aside0.mk rfl⟩
  case round =>
    obtain ⟨x, rfl, x0, x1, hx⟩ := hrel
    by_cases hlt : x ≤ 65535
    · go_wp2
      go_ret
      have e : x = cf a0 := by rw [← hx.out, cf_small x x0 hlt]
      exact ⟨ret_u16 (by rw [← e]), rfl⟩
    · have hand := u64_and16 x x0 x1
      go_wp2
      go_round
      case rel => exact ⟨x % 65536 + x / 65536, rfl, by omega, by omega, ⟨(cf_step x (by omega)).trans hx.out⟩⟩
      case measure => simp [intOf]; omega
theorem sum_fold.calls (a0 : Int) (r : Int) (w : World) (h : sum_fold.f a0 = some r) :
    Calls Try.prog 58 #[.int .u64 a0] w fun e w' => e = .returned (.int .u16 r) ∧ Drawn0 w w' := by
  unfold sum_fold.f at h
  split at h
  · rename_i hb
    obtain rfl := Option.some.inj h
    exact (fold_any a0 w hb.1 hb.2).mono fun e w' ⟨he, hw⟩ => ⟨he, hw ▸ Drawn0.refl _⟩
  · cases h

theorem add_block (a : Addr) (j : Nat) : (a.add j).block = a.block := by unfold Addr.add; split <;> rfl

/-- a Sum at block g: its folded number is that of n, m bytes have come -/
def SumAt (w : World) (g : Nat) (n m : Int) : Prop := ∃ n', w.heap[g]? = some (.cells #[.int .u64 n', .int .i64 m] 95 (0, 0)) ∧ 0 ≤ n' ∧ n' ≤ 1000000 ∧ cf n' = cf n
theorem SumAt.lt {w : World} {g : Nat} {n m : Int} (h : SumAt w g n m) : g < w.heap.size := by
  obtain ⟨n', h, _⟩ := h
  exact blk_lt h

theorem SumAt.step {w : World} {g : Nat} {n2 v m N N' m' : Int} (hb : w.heap[g]? = some (.cells #[.int .u64 n2, .int .i64 m] 95 (0, 0))) (n20 : 0 ≤ n2) (hN : 0 ≤ N) (v0 : 0 ≤ v) (v1 : v ≤ 65535) (hc : cf n2 = cf N) (hN' : N' = N + v) (hm : m' = m + 1) :
    SumAt ((w.setCell ⟨g, 0, none⟩ (.int .u64 (cf n2 + v))).setCell ⟨g, 1, none⟩ (.int .i64 (m + 1))) g N' m' := by
  subst hN' hm
  have hr := cf_range n2 n20
  refine ⟨cf n2 + v, ?_, by omega, by omega, ?_⟩
  · have h := blk_set (blk_set hb 0 (.int .u64 (cf n2 + v))) 1 (.int .i64 (m + 1))
    simpa using h
  · rw [hc, cf_cf_add N v hN v0]
theorem grown_set2 {w wr : World} {g i j : Nat} (h : w.grownBy wr (some g)) (u v : Value) : w.grownBy ((wr.setCell ⟨g, i, none⟩ u).setCell ⟨g, j, none⟩ v) (some g) :=
  ⟨h.os, h.tape, h.output, by simpa using h.size, fun k hk hne => by
    have hkg : k ≠ g := fun e => hne (by rw [e])
    rw [Below.heap_setCell _ _ _ k hkg, Below.heap_setCell _ _ _ k hkg]; exact h.block k hk hne⟩

set_option maxHeartbeats 1000000 in
theorem add_any (g : Nat) (n m : Int) (bs : List Int) (A : Option Addr) (c : Nat) (w : World) (hs : SumAt w g n m) (n0 : 0 ≤ n) (hb : bytes bs)
    (hr : Kd.C (Kd.int .u8) w A bs.length bs) (hne : ∀ ad, A = some ad → 0 < bs.length → ad.block ≠ g) (m0 : 0 ≤ m) (m1 : m + bs.length ≤ 1152921504606846975) :
    Calls Try.prog 55 #[.pointer (some ⟨g, 0, none⟩), .slice A bs.length c] w fun e w' => e = .returned (.tuple #[]) ∧ SumAt w' g (n + wt m bs) (m + bs.length) ∧ w.grownBy w' (some g) := by
  obtain ⟨n1, hblk, n10, n11, hcf⟩ := hs
  have HR := Aside0.mk hr
  have HB := Aside0.mk hb
  have HNE := Aside0.mk hne
  have HBLK := Aside0.mk hblk
  have HCF := Aside0.mk hcf
  clear hr hb hne hblk hcf
  go_enter Try.func55, Try.ntmps55
  go_wp2
  go_loopw [11] (fun vi wr => ∃ k : Nat, k ≤ bs.length ∧ vi = .int .i64 k ∧ Aside0 (SumAt wr g (n + wt m (bs.take k)) (m + k)) ∧ Aside0 (w.grownBy wr (some g))) (fun vi _ => bs.length - (intOf vi).toNat)
  case atStart => exact ⟨0, Nat.zero_le _, rfl, ⟨n1, by simpa [wt] using HBLK.out, n10, n11, by simpa [wt] using HCF.out⟩, ⟨World.grownBy.refl _ _⟩⟩
  case round =>
    clear HBLK HCF
    obtain ⟨k, hk, rfl, ⟨n2, hb2, n20, n21, hc2⟩, HG⟩ := hrel
    have HC2 := Aside0.mk hc2
    clear hc2
    by_cases hlt : k < bs.length
    · obtain ⟨ad, rfl, hx⟩ := Kd.at_int HR.out k (by omega) (by omega)
      have hxr := bytes_getD HB.out k
      have hadg := HNE.out ad rfl (by omega)
      replace hx := HG.out.cell hx (by rw [add_block]; simpa using hadg)
      have hx' : wr.cell? (ad.add k) = some (.int .u8 (bs.getD k 0)) := hx
      clear hx
      obtain ⟨x, ex⟩ : ∃ x, bs.getD k 0 = x := ⟨_, rfl⟩
      rw [ex] at hx' hxr
      have HX := Aside0.mk ex
      clear ex
      obtain ⟨x0, x1⟩ := hxr
      have c0 : wr.cell? ⟨g, 0, none⟩ = some (.int .u64 n2) := (blk_cell hb2 0).trans rfl
      have c1 : wr.cell? ⟨g, 1, none⟩ = some (.int .i64 (m + k)) := (blk_cell hb2 1).trans rfl
      have f0 := blk_frozen hb2 0
      have f1 := blk_frozen hb2 1
      have HB2 := Aside0.mk hb2
      clear hb2
      have hcr := cf_range n2 n20
      obtain ⟨cr0, cr1⟩ := hcr
      have HW0 := Aside0.mk (wt_nonneg (bs.take k) m (bytes_take HB.out k))
      by_cases hpar : (m + k) % 2 = 0
      · go_wp2_with (go_at_call 58; refine (fold_any _ _ (by omega) (by omega)).mono ?_; rintro e w' ⟨rfl, rfl⟩)
        go_roundw
        case rel => exact ⟨k + 1, by omega, by go_num, ⟨SumAt.step HB2.out n20 (by have := HW0.out; omega) (by omega) (by omega) HC2.out (by rw [wt_take_succ bs m k hlt, if_pos hpar, HX.out]; omega) (by omega)⟩, ⟨grown_set2 HG.out _ _⟩⟩
        case measure => simp [intOf]; omega
      · go_wp2_with (go_at_call 58; refine (fold_any _ _ (by omega) (by omega)).mono ?_; rintro e w' ⟨rfl, rfl⟩)
        go_roundw
        case rel => exact ⟨k + 1, by omega, by go_num, ⟨SumAt.step HB2.out n20 (by have := HW0.out; omega) (by omega) (by omega) HC2.out (by rw [wt_take_succ bs m k hlt, if_neg hpar, HX.out]; omega) (by omega)⟩, ⟨grown_set2 HG.out _ _⟩⟩
        case measure => simp [intOf]; omega
    · have e : k = bs.length := by omega
      subst e
      go_wp2
      go_end0
      exact ⟨rfl, ⟨n2, by simpa using hb2, n20, n21, by simpa using HC2.out⟩, HG.out⟩

theorem add_nil (A : Option Addr) (n c : Nat) (w : World) :
    Calls Try.prog 55 #[.pointer none, .slice A n c] w fun e w' => e = .returned (.tuple #[]) ∧ w = w' := by
  go_enter Try.func55, Try.ntmps55
  go_wp2
  exact bodyPost_ret (v := .tuple #[]) (by simp [results, Try.results55, go_sem]) rfl ⟨rfl, rfl⟩
theorem value_nil (w : World) :
    Calls Try.prog 56 #[.pointer none] w fun e w' => e = .returned (.int .u16 65535) ∧ w = w' := by
  go_enter Try.func56, Try.ntmps56
  go_wp2
  go_ret
  exact ⟨rfl, rfl⟩
theorem value_any (g : Nat) (n m : Int) (w : World) (hs : SumAt w g n m) :
    Calls Try.prog 56 #[.pointer (some ⟨g, 0, none⟩)] w fun e w' => e = .returned (.int .u16 (65535 - cf n)) ∧ w = w' := by
  obtain ⟨n1, hb, n10, n11, hc⟩ := hs
  have c0 : w.cell? ⟨g, 0, none⟩ = some (.int .u64 n1) := (blk_cell hb 0).trans rfl
  obtain ⟨r0, r1⟩ := cf_range n1 n10
  have HC := Aside0.mk hc
  clear hc hb
  go_enter Try.func56, Try.ntmps56
  go_wp2_with (go_at_call 58; refine (fold_any _ _ (by omega) (by omega)).mono ?_; rintro e w' ⟨rfl, rfl⟩)
  go_ret
  exact ⟨ret_u16 (by rw [← HC.out]), rfl⟩


/-- a row of rows of bytes, read at i -/
theorem at_rows {w : World} {A : Option Addr} {n e : Nat} {xs : List (List Int)} (h : Kd.C (Kd.slice e (Kd.int .u8)) w A n xs) (i : Nat) (h1 : i < n) : ∃ ad A0 c0, A = some ad ∧ w.cell? (ad.add i) = some (.slice A0 (xs.getD i []).length c0) ∧ (xs.getD i []).length ≤ c0 ∧ (Kd.int .u8).C w A0 (xs.getD i []).length (xs.getD i []) := by
  obtain ⟨ad, c, e, _, hK, hc0⟩ := Kd.C_get h ([] : List Int) i (by omega) (by omega)
  have hc : ∀ j u, c[j]? = some u → w.cell? (ad.add (i * 1 + j)) = some u := hc0
  obtain ⟨A0, c0, rfl, l0, g0⟩ := hK
  exact ⟨ad, A0, c0, e, by have hq := hc 0 _ rfl; rwa [Nat.mul_one, Nat.add_zero] at hq, l0, g0⟩
theorem flatten_take_succ (l : List (List Int)) (k : Nat) (h : k < l.length) : (l.take (k + 1)).flatten = (l.take k).flatten ++ l.getD k [] := by
  rw [List.take_succ_eq_append_getElem h, List.flatten_append]
  simp [List.getD_eq_getElem?_getD, List.getElem?_eq_getElem h]
theorem flatten_take_le (l : List (List Int)) (k : Nat) (h : k < l.length) : (l.take k).flatten.length + (l.getD k []).length ≤ l.flatten.length := by
  have e : l.flatten = (l.take (k + 1)).flatten ++ (l.drop (k + 1)).flatten := by rw [← List.flatten_append, List.take_append_drop]
  rw [e, flatten_take_succ l k h]
  simp only [List.length_append]
  omega
theorem bytes_rows {l : List (List Int)} (h : ∀ x ∈ l, bytes x) (k : Nat) : bytes (l.getD k []) := by
  rw [List.getD_eq_getElem?_getD]
  by_cases hk : k < l.length
  · rw [List.getElem?_eq_getElem hk]
    exact h _ (List.getElem_mem hk)
  · rw [List.getElem?_eq_none (by omega)]
    exact bytes_nil
theorem bytes_flatten {l : List (List Int)} (h : ∀ x ∈ l, bytes x) : bytes l.flatten := by
  intro x hx
  obtain ⟨y, hy, hxy⟩ := List.mem_flatten.1 hx
  exact h y hy x hxy
theorem below_of_grown {w0 w w' : World} {g : Nat} (h : Below w0.heap.size w0 w) (hg : w.grownBy w' (some g)) (hw : w0.heap.size ≤ g) : Below w0.heap.size w0 w' :=
  h.grown hg h.size (fun k e => by cases e; exact hw)

theorem grown_trans {a b c : World} {row : Option Nat} (h : a.grownBy b row) (k : b.grownBy c row) : a.grownBy c row :=
  ⟨k.os.trans h.os, k.tape.trans h.tape, k.output.trans h.output, Nat.le_trans h.size k.size, fun i hi hne => (k.block i (Nat.lt_of_lt_of_le hi h.size) hne).trans (h.block i hi hne)⟩

set_option maxHeartbeats 1000000 in
theorem each_any (w0 : World) (g : Nat) (l : List (List Int)) (A : Option Addr) (c : Nat) (w : World) (hr : Kd.C (Kd.slice 5 (Kd.int .u8)) w0 A l.length l) (hb : ∀ x ∈ l, bytes x) (hn : l.flatten.length ≤ 1152921504606846975) (hn2 : l.length ≤ 1152921504606846975)
    (hs : SumAt w g 0 0) (hB : Below w0.heap.size w0 w) (hg : w0.heap.size ≤ g) :
    Calls Try.prog 54 #[.slice A l.length c, .func (Fn.func 55) #[.pointer (some ⟨g, 0, none⟩)] #[]] w fun e w' => e = .returned (.tuple #[]) ∧ SumAt w' g (wt 0 l.flatten) l.flatten.length ∧ w.grownBy w' (some g) := by
  have HR := Aside0.mk hr
  have HB := Aside0.mk hb
  have HS := Aside0.mk hs
  have HBW := Aside0.mk hB
  clear hr hb hs hB
  go_enter Try.func54, Try.ntmps54
  go_wp2_with fail
  go_loopw [8] (fun vi wr => ∃ k : Nat, k ≤ l.length ∧ vi = .int .i64 k ∧ Aside0 (SumAt wr g (wt 0 (l.take k).flatten) (l.take k).flatten.length) ∧ Aside0 (w.grownBy wr (some g))) (fun vi _ => l.length - (intOf vi).toNat)
  case atStart => exact ⟨0, Nat.zero_le _, rfl, ⟨by simpa [wt] using HS.out⟩, ⟨World.grownBy.refl _ _⟩⟩
  case round =>
    clear HS
    obtain ⟨k, hk, rfl, HS, HG⟩ := hrel
    by_cases hlt : k < l.length
    · obtain ⟨ad, A0, c0, rfl, hx, hl0, hi⟩ := at_rows HR.out k hlt
      have hbw := below_of_grown HBW.out HG.out hg
      replace hx := (hbw.cell (World.block_lt_of_cell? w0 _ hx)).trans hx
      have hne : ∀ ad, A0 = some ad → 0 < (l.getD k []).length → ad.block ≠ g := by
        rintro ad rfl hp
        have := Kd.C_lt hi hp (by decide)
        omega
      have HI := Aside0.mk (Kd.C_below hi hbw)
      have HNE := Aside0.mk hne
      have hfl := flatten_take_le l k hlt
      have hbx := Aside0.mk (bytes_rows HB.out k)
      have hw0 := Aside0.mk (wt_nonneg _ 0 (bytes_flatten (fun x hx => HB.out x (List.mem_of_mem_take (i := k) hx))))
      clear hi hne hbw
      obtain ⟨x, ex⟩ : ∃ x, l.getD k [] = x := ⟨_, rfl⟩
      rw [ex] at hx hl0 HI HNE hfl hbx
      obtain ⟨m, em⟩ : ∃ m, (l.take k).flatten.length = m := ⟨_, rfl⟩
      rw [em] at HS hfl
      have EX := Aside0.mk ex
      have EM := Aside0.mk em
      clear ex em
      go_wp2_with (go_at_call 55; refine (add_any g _ _ x _ _ _ HS.out hw0.out hbx.out HI.out HNE.out (by omega) (by omega)).mono ?_; rintro e w1 ⟨rfl, hs1, hg1⟩)
      go_roundw
      case rel =>
        refine ⟨k + 1, by omega, by go_num, ⟨?_⟩, ⟨grown_trans HG.out hg1⟩⟩
        rw [flatten_take_succ l k hlt, EX.out, wt_append, List.length_append, EM.out, Int.zero_add]
        simpa using hs1
      case measure => simp [intOf]; omega
    · have e : k = l.length := by omega
      subst e
      go_wp2
      go_end0
      exact ⟨rfl, by simpa using HS.out, HG.out⟩

theorem of_any (l : List (List Int)) (A : Option Addr) (c : Nat) (w : World) (hr : Kd.C (Kd.slice 5 (Kd.int .u8)) w A l.length l) (hb : ∀ x ∈ l, bytes x) (hn : l.flatten.length ≤ 1152921504606846975) (hn2 : l.length ≤ 1152921504606846975) :
    Calls Try.prog 36 #[.slice A l.length c] w fun e w' => e = .returned (.int .u16 (ck l.flatten)) ∧ Below w.heap.size w w' := by
  have HR := Aside0.mk hr
  have HB := Aside0.mk hb
  clear hr hb
  go_enter Try.func36, Try.ntmps36
  go_wp2_with fail
  refine (each_any w w.heap.size l A c _ HR.out HB.out hn hn2 ⟨0, heap_alloc_new w _, by omega, by omega, rfl⟩ ((Below.refl _ _).alloc (Nat.le_refl _) _) (Nat.le_refl _)).mono ?_
  rintro e w1 ⟨rfl, hs, hg⟩
  have HG := Aside0.mk hg
  clear hg
  go_wp2_with (go_at_call 56; refine (value_any _ _ _ _ hs).mono ?_; rintro e w' ⟨rfl, rfl⟩)
  go_ret
  exact ⟨rfl, below_of_grown ((Below.refl _ _).alloc (Nat.le_refl _) _) HG.out (Nat.le_refl _)⟩
end Go.Proofs.Ytknpaihlnkcpgaa.Own
/- Contracts of package bits: right, Least, fits, of, the Writer. -/
set_option linter.unusedVariables false
set_option linter.unusedSimpArgs false
namespace Go.Proofs.Ytknpaihlnkcpgaa.Own
open Go.RowKit Go.Proofs.YtknpaihlnkcpgaaW.PrintWords Go.Proofs.YtknpaihlnkcpgaaW.PrintLast Go.Proofs.YtknpaihlnkcpgaaW.PrintMore

theorem lst_le8 (v : Int) (h0 : 0 ≤ v) (h1 : v < 256 ^ 8) : lst 7 v ≤ 8 := (lst_le 7 8 v h0 h1 (by omega)).2 h1
/-- what is still to be counted -/
def more (k : Nat) (x : Int) : Int := if 0 < x then lst k x else 0
theorem more_step (k : Nat) (x : Int) (hx : 0 < x) (hk : x < 256 ^ (k + 1)) : more k x = 1 + more (k - 1) (x / 256) ∧ x / 256 < 256 ^ (k - 1 + 1) := by
  cases k with
  | zero =>
    have h3 : (256 : Int) ^ (0 + 1) = 256 := rfl
    have h4 : (256 : Int) ^ (0 - 1 + 1) = 256 := rfl
    refine ⟨?_, by omega⟩
    have : ¬ 0 < x / 256 := by omega
    simp only [more, if_pos hx, if_neg this]
    rfl
  | succ k =>
    rw [Int.pow_succ] at hk
    refine ⟨?_, by rw [Nat.add_sub_cancel]; omega⟩
    simp only [more, if_pos hx, Nat.add_sub_cancel]
    conv => lhs; unfold lst
    split <;> omega

theorem right_any (n : Int) (w : World) :
    Calls Try.prog 61 #[.int .i64 n] w fun e w' => e = .returned (.bool (decide (1 ≤ n ∧ n ≤ 8))) ∧ w = w' := by
  go_enter Try.func61, Try.ntmps61
  by_cases h1 : 1 ≤ n
  · go_wp2
    go_ret
    exact ⟨by simp [h1], rfl⟩
  · have h2 : n < 1 := by omega
    go_wp2
    go_ret
    exact ⟨ret_bool (by simp; omega), rfl⟩
theorem least_any (v : Int) (w : World) (h0 : 0 ≤ v) (h1 : v < 256 ^ 8) :
    Calls Try.prog 62 #[.int .u64 v] w fun e w' => e = .returned (.int .i64 (lst 7 v)) ∧ w = w' := by
  have h3 : (256 : Int) ^ 8 = 18446744073709551616 := rfl
  have HL : Aside0 (1 + more 6 (v / 256) = lst 7 v) := ⟨by
    unfold more
    conv => rhs; unfold lst
    split <;> omega⟩
  have HL8 := Aside0.mk (lst_le8 v h0 h1)
  have hp6 : (256 : Int) ^ (6 + 1) = 72057594037927936 := rfl
  have hv6 : Aside0 (v / 256 < 256 ^ (6 + 1)) := ⟨by omega⟩
  rw [h3] at h1
  clear h3 hp6
  go_enter Try.func62, Try.ntmps62
  go_wp2
  go_loop [0, 3] (fun p q => ∃ (k : Nat) (x m : Int), p = .int .u64 x ∧ q = .int .i64 m ∧ 0 ≤ x ∧ x < 18446744073709551616 ∧ 1 ≤ m ∧ Aside0 (x < 256 ^ (k + 1)) ∧ Aside0 (m + more k x = lst 7 v)) (fun p _ => (intOf p).toNat)
  case atStart => exact ⟨6, v / 256, 1, rfl, rfl, by omega, by omega, by omega, hv6, HL⟩
  case round =>
    obtain ⟨k, x, m, rfl, rfl, x0, x1, m1, HK, HM⟩ := hrel
    by_cases hx : 0 < x
    · obtain ⟨hs1, hs2⟩ := more_step k x hx HK.out
      have hm8 : m ≤ 8 := by
        have := HM.out
        have := HL8.out
        have h : 0 ≤ more k x := by
          unfold more
          split
          · have := lst_pos k x; omega
          · omega
        omega
      have HS := Aside0.mk hs1
      have HS2 := Aside0.mk hs2
      clear hs1 hs2
      go_wp2
      go_round
      case rel => exact ⟨k - 1, x / 256, m + 1, rfl, by go_num, by omega, by omega, by omega, HS2, ⟨by have := HM.out; have := HS.out; omega⟩⟩
      case measure => simp [intOf]; omega
    · have e : x = 0 := by omega
      subst e
      go_wp2
      go_ret
      exact ⟨ret_i64 (by have h := HM.out; simp [more] at h; exact h), rfl⟩
theorem fits_any (v n : Int) (w : World) (h0 : 0 ≤ v) (h1 : v < 256 ^ 8) :
    Calls Try.prog 52 #[.int .u64 v, .int .i64 n] w fun e w' => e = .returned (.bool (decide (1 ≤ n ∧ n ≤ 8 ∧ lst 7 v ≤ n))) ∧ w = w' := by
  by_cases hn : 1 ≤ n ∧ n ≤ 8
  · have hd : decide (1 ≤ n ∧ n ≤ 8) = true := decide_eq_true hn
    have hr := right_any n w
    rw [hd] at hr
    have HN := Aside0.mk hn
    obtain ⟨m, hm⟩ : ∃ m, lst 7 v = m := ⟨_, rfl⟩
    have hl := least_any v w h0 h1
    rw [hm] at hl ⊢
    clear hd h1 hm
    go_enter Try.func52, Try.ntmps52
    go_wp2_with (first
      | (go_at_call 61; (with_reducible refine hr.mono ?_); clear hr; rintro e w' ⟨rfl, rfl⟩)
      | (go_at_call 62; (with_reducible refine hl.mono ?_); rintro e w' ⟨rfl, rfl⟩))
    go_ret
    exact ⟨ret_bool (by have := HN.out; simp [this.1, this.2]), rfl⟩
  · have hd : decide (1 ≤ n ∧ n ≤ 8) = false := decide_eq_false hn
    have hr := right_any n w
    rw [hd] at hr
    have HN := Aside0.mk hn
    clear hd h1 hn
    go_enter Try.func52, Try.ntmps52
    go_wp2_with (go_at_call 61; (with_reducible refine hr.mono ?_); rintro e w' ⟨rfl, rfl⟩)
    go_ret
    exact ⟨ret_bool (by have := HN.out; simp; intros; omega), rfl⟩

/-- block g is a writer (type t), that holds bs -/
def WrAt (w : World) (base g t : Nat) (bs : List Int) : Prop := ∃ v, w.heap[g]? = some (.cells #[v] t (0, 0)) ∧ Kd.R (Kd.int .u8) 5 w base (fun k => g < k) v bs
/-- what a writer's call leaves: all that lay below base; and what is neither the writer nor a row of bytes -/
def Wrote (base g : Nat) (w w' : World) : Prop := Below base w w' ∧ ∀ k cells t fr, w.heap[k]? = some (.cells cells t fr) → t ≠ 5 → k ≠ g → w'.heap[k]? = some (.cells cells t fr)
theorem Wrote.refl (base g : Nat) (w : World) : Wrote base g w w := ⟨Below.refl _ _, fun _ _ _ _ h _ _ => h⟩
theorem Wrote.trans {base g : Nat} {a b c : World} (h : Wrote base g a b) (k : Wrote base g b c) : Wrote base g a c := ⟨h.1.trans k.1, fun i cs t fr hi ht hg => k.2 i cs t fr (h.2 i cs t fr hi ht hg) ht hg⟩
theorem Wrote.of_below {base g : Nat} {a b : World} (h : Below a.heap.size a b) (hb : base ≤ a.heap.size) : Wrote base g a b := ⟨h.mono hb, fun i cs t fr hi _ _ => (h.block i (blk_lt hi)).trans hi⟩
theorem WrAt.below {w w' : World} {base g t : Nat} {bs : List Int} (h : WrAt w base g t bs) (hb : Below w.heap.size w w') : WrAt w' base g t bs := by
  obtain ⟨v, h1, h2⟩ := h
  exact ⟨v, (hb.block g (blk_lt h1)).trans h1, Kd.R_below h2 hb⟩
theorem WrAt.new (w : World) (base t : Nat) : WrAt (w.alloc (.cells #[.slice none 0 0] t)) base w.heap.size t [] := ⟨_, heap_alloc_new w _, Kd.R_nil _ _ _ _ _⟩

set_option maxRecDepth 100000 in
theorem raw_any (base g t : Nat) (bs l : List Int) (A : Option Addr) (n c : Nat) (w : World) (hw : WrAt w base g t bs) (hC : Kd.C (Kd.int .u8) w A n l) (hbase : base ≤ g) (ht : t ≠ 5) (hn : bs.length + n ≤ 140737488355328) :
    Calls Try.prog 33 #[.pointer (some ⟨g, 0, none⟩), .slice A n c] w fun e w' => e = .returned (.int .i64 0) ∧ WrAt w' base g t (bs ++ l) ∧ Wrote base g w w' := by
  obtain ⟨v, hg, hR⟩ := hw
  obtain ⟨A0, c0, rfl⟩ := Kd.R_slice hR
  have hc0 : w.cell? ⟨g, 0, none⟩ = some (.slice A0 bs.length c0) := (blk_cell hg 0).trans rfl
  have hlt := blk_lt hg
  have hne : some g ≠ (Value.slice A0 bs.length c0).ownBlock := fun e => Nat.lt_irrefl _ (hR.1 g e.symm)
  have HG := Aside0.mk hg
  have HR := Aside0.mk hR
  have HC := Aside0.mk hC
  have HNE := Aside0.mk hne
  clear hg hR hC hne
  go_enter Try.func33, Try.ntmps33
  go_wp2_with (at_builtin; refine Kd.R_append_rows (Kd.int .u8) (w0 := w) base rfl (.tmp 11) (.tmp 12) 22 5 (.int .u8 0) 1 rfl Try.underlying22 info_u8 rfl (by decide) (by decide) _ bs l A n c (fun k => g < k) (fun _ => False) rfl rfl HR.out HC.out (fun _ _ h => h) (fun _ h => h.elim) (fun k hk => by omega) (Below.refl _ _) (by omega) (by omega) ?_; intro v1 w1 ho1 hb1 hgr1 _; obtain ⟨A1, c1, rfl⟩ := Kd.R_slice ho1; have hg1 := (hgr1.block g hlt HNE.out).trans HG.out; have hc1 := (blk_cell hg1 0).trans rfl; have hf1 := blk_frozen hg1 0)
  go_ret
  have hbx : Boxed w1 g t (.slice A0 bs.length c0) := hg1
  have hset := hbx.set (.slice A1 (bs.length + l.length) c1)
  refine ⟨rfl, ⟨_, hset, ?_⟩, hb1.setCell (p := ⟨g, 0, none⟩) hbase _, fun k cells t' fr hk ht' hkg => ?_⟩
  · have h := Kd.R_far (p := ⟨g, 0, none⟩) ho1 (fun k hk => Nat.ne_of_gt hk) (.slice A1 (bs.length + l.length) c1)
    rw [List.length_append] at h
    exact h
  · refine (Below.heap_setCell _ _ _ k hkg).trans ((hgr1.block k (blk_lt hk) (fun e => ?_)).trans hk)
    obtain ⟨inner, ho⟩ := Kd.R_own HR.out
    obtain ⟨cs, hc⟩ := own_typed ho k e.symm
    rw [hk] at hc
    cases hc
    exact ht' rfl

theorem be_put (v : Int) (n k : Nat) (h : k < n) : (List.replicate (n - k) (0 : Int) ++ be k v).set (n - 1 - k) (v / 2 ^ (8 * k) % 256) = List.replicate (n - (k + 1)) 0 ++ be (k + 1) v := by
  have e2 : (2 : Int) ^ (8 * k) = 256 ^ k := by rw [Int.pow_mul]; rfl
  rw [e2, be_top, show n - k = (n - (k + 1)) + 1 by omega, List.replicate_succ', List.append_assoc, List.set_append_right _ _ (by simp; omega)]
  congr 1
  simp
  rw [show n - 1 - k - (n - (k + 1)) = 0 by omega]
  rfl
/-- the bytes of a number -/
theorem num_of (v : Int) (n : Nat) (w : World) (h0 : 0 ≤ v) (h1 : v < 256 ^ 8) (hn : n ≤ 8) :
    Calls Try.prog 53 #[.int .u64 v, .int .i64 n] w fun e w' => ∃ x, e = .returned x ∧ Kd.R (Kd.int .u8) 5 w' w.heap.size (fun _ => True) x (be n v) ∧ Below w.heap.size w w' := by
  have h3 : (256 : Int) ^ 8 = 18446744073709551616 := rfl
  rw [h3] at h1
  clear h3
  have hmk := print_make (P := Try.prog) 22 5 .u8 1 Try.underlying22 info_u8 (by decide) n (by omega)
  go_enter Try.func53, Try.ntmps53
  go_wp2
  clear hmk
  have HR0 : Aside0 (Kd.R (Kd.int .u8) 5 (w.alloc (.cells (madeCells #[.int .u8 0] n) 5)) w.heap.size (fun _ => True) (.slice (some ⟨w.heap.size, 0, none⟩) n n) (List.replicate (n - 0) 0 ++ be 0 v)) := ⟨by
    have h := own_made w w.heap.size 5 .u8 n (Nat.le_refl _) (by omega)
    have e : List.replicate (n - 0) (0 : Int) ++ be 0 v = List.replicate n 0 := by simp [be]
    rw [e]
    exact Kd.R_of_own (h1 := fun _ => rfl) (by simpa [nums, encs] using h) (fun _ _ => trivial)⟩
  have HB0 := Aside0.mk (below_alloc1 w (.cells (madeCells #[.int .u8 0] n) 5))
  go_loopw [6, 10] (fun p q wr => ∃ (k : Nat), k ≤ n ∧ q = .int .i64 k ∧ Aside0 (Kd.R (Kd.int .u8) 5 wr w.heap.size (fun _ => True) (.slice (some ⟨w.heap.size, 0, none⟩) n n) (List.replicate (n - k) 0 ++ be k v)) ∧ Aside0 (Below w.heap.size w wr)) (fun p q wr => n - (intOf q).toNat)
  case atStart => exact ⟨0, by omega, rfl, HR0, HB0⟩
  case round =>
    clear HR0 HB0
    obtain ⟨k, hk, rfl, HR, HB⟩ := hrel
    by_cases hkn : k < n
    · obtain ⟨hcx, hfx⟩ := Kd.R_celln (0 : Int) HR.out ((n : Int) - 1 - k) (by omega) (by omega)
      have e : ((n : Int) - 1 - k).toNat = n - 1 - k := by omega
      rw [e] at hcx hfx
      have hput := Kd.R_putn HR.out ((n : Int) - 1 - k) (v / 2 ^ (8 * k) % 256)
      rw [e, be_put v n k hkn] at hput
      have HP := Aside0.mk hput
      clear hput e
      go_wp2
      go_roundw
      case rel => exact ⟨k + 1, by omega, by go_num, HP, ⟨HB.out.setCell (p := ⟨w.heap.size, n - 1 - k, none⟩) (Nat.le_refl _) _⟩⟩
      case measure => simp [intOf]; omega
    · have e : k = n := by omega
      subst e
      go_wp2
      go_ret
      exact ⟨_, rfl, by simpa using HR.out, HB.out⟩
end Go.Proofs.Ytknpaihlnkcpgaa.Own
/- Contracts of bits.Writer: Put, Bytes; of ip's writer: put. -/
set_option linter.unusedVariables false
set_option linter.unusedSimpArgs false
namespace Go.Proofs.Ytknpaihlnkcpgaa.Own
open Go.RowKit Go.Proofs.YtknpaihlnkcpgaaW.PrintWords Go.Proofs.YtknpaihlnkcpgaaW.PrintLast Go.Proofs.YtknpaihlnkcpgaaW.PrintMore

theorem fits_ok (v : Int) (n : Nat) (h0 : 0 ≤ v) (h1 : v < 256 ^ 8) (hn : 1 ≤ n) (hn8 : n ≤ 8) (hv : v < 256 ^ n) : decide (1 ≤ (n : Int) ∧ (n : Int) ≤ 8 ∧ lst 7 v ≤ n) = true :=
  decide_eq_true ⟨by omega, by omega, (lst_le 7 n v h0 h1 hn).2 hv⟩

set_option maxRecDepth 100000 in
theorem wput_any (base g t : Nat) (bs : List Int) (v : Int) (n : Nat) (w : World) (hw : WrAt w base g t bs) (hbase : base ≤ g) (ht : t ≠ 5) (hbn : bs.length ≤ 1000000)
    (h0 : 0 ≤ v) (h1 : v < 256 ^ 8) (hn : 1 ≤ n) (hn8 : n ≤ 8) (hv : v < 256 ^ n) :
    Calls Try.prog 50 #[.pointer (some ⟨g, 0, none⟩), .int .u64 v, .int .i64 n] w fun e w' => e = .returned (.int .i64 0) ∧ WrAt w' base g t (bs ++ be n v) ∧ Wrote base g w w' := by
  have hf := fits_any v n w h0 h1
  rw [fits_ok v n h0 h1 hn hn8 hv] at hf
  have ho := num_of v n w h0 h1 hn8
  have HW := Aside0.mk hw
  have hlt : base ≤ w.heap.size := by obtain ⟨x, hx, _⟩ := hw; have := blk_lt hx; omega
  have hl := be_length n v
  obtain ⟨l, el⟩ : ∃ l, be n v = l := ⟨_, rfl⟩
  rw [el] at ho hl ⊢
  have hbl : bs.length + l.length ≤ 140737488355328 := by omega
  clear hw h1 hv el hl
  go_enter Try.func50, Try.ntmps50
  go_wp2_with (first
    | (go_at_call 52; (with_reducible refine hf.mono ?_); clear hf; rintro e w' ⟨rfl, rfl⟩)
    | (go_at_call 53; (with_reducible refine ho.mono ?_); clear ho; rintro e w1 ⟨x, rfl, hx, hb1⟩; obtain ⟨A1, c1, rfl⟩ := Kd.R_slice hx)
    | (go_at_call 33; go_must (with_reducible refine (raw_any base g t bs l A1 l.length c1 w1 (HW.out.below hb1) (C_of_R hx).1 hbase ht hbl).mono ?_); rintro e w2 ⟨rfl, hw2, hk2⟩))
  go_ret
  exact ⟨rfl, hw2, (Wrote.of_below hb1 hlt).trans hk2⟩

set_option maxRecDepth 100000 in
theorem wbytes_any (base g t : Nat) (bs : List Int) (w : World) (hw : WrAt w base g t bs) (hbn : bs.length ≤ 1000000) :
    Calls Try.prog 37 #[.pointer (some ⟨g, 0, none⟩)] w fun e w' => ∃ x, e = .returned x ∧ Kd.R (Kd.int .u8) 5 w' w.heap.size (fun _ => True) x bs ∧ Below w.heap.size w w' := by
  obtain ⟨v, hg, hR⟩ := hw
  obtain ⟨A0, c0, rfl⟩ := Kd.R_slice hR
  have hc0 : w.cell? ⟨g, 0, none⟩ = some (.slice A0 bs.length c0) := (blk_cell hg 0).trans rfl
  have hcl := clone_any bs A0 bs.length c0 w (C_of_R hR).1 (by omega)
  clear hg hR
  go_enter Try.func37, Try.ntmps37
  go_wp2_with (go_at_call 40; (with_reducible refine hcl.mono ?_); rintro e w1 ⟨x, rfl, hx, hb1⟩)
  go_ret
  exact ⟨_, rfl, hx, hb1⟩

/-- numbers of a size, one behind the other -/
def bes (n : Nat) (l : List Int) : List Int := (l.map (be n)).flatten
theorem bes_snoc (n : Nat) (l : List Int) (x : Int) : bes n (l ++ [x]) = bes n l ++ be n x := by simp [bes]
theorem bes_length (n : Nat) : ∀ (l : List Int), (bes n l).length = n * l.length := by
  intro l
  induction l with
  | nil => simp [bes]
  | cons x l ih => simp only [bes, List.map_cons, List.flatten_cons, List.length_append, List.length_cons] at *; rw [ih, be_length, Nat.mul_succ]; omega

set_option maxRecDepth 100000 in
theorem puts_any (base g t b T : Nat) (bs l : List Int) (n m : Nat) (w : World) (hw : WrAt w base g t bs) (hbase : base ≤ g) (ht : t ≠ 5) (hbn : bs.length ≤ 10000) (hl : l.length = m) (hm : m ≤ 1000)
    (hb : w.heap[b]? = some (.cells (nums .u64 l).toArray T (0, 0))) (hT : T ≠ 5) (hbg : b ≠ g) (hn : 1 ≤ n) (hn8 : n ≤ 8) (hv : ∀ x ∈ l, 0 ≤ x ∧ x < 256 ^ n) (hp8 : (256 : Int) ^ n ≤ 256 ^ 8) :
    Calls Try.prog 30 #[.pointer (some ⟨g, 0, none⟩), .int .i64 n, .slice (some ⟨b, 0, none⟩) m m] w fun e w' => e = .returned (.tuple #[]) ∧ WrAt w' base g t (bs ++ bes n l) ∧ Wrote base g w w' := by
  have HV := Aside0.mk hv
  have HL := Aside0.mk hl
  have HBL := Aside0.mk hb
  have HP8 := Aside0.mk hp8
  have HW0 : Aside0 (WrAt w base g t (bs ++ bes n (l.take 0))) := ⟨by simpa [bes] using hw⟩
  clear hv hl hw hb hp8
  go_enter Try.func30, Try.ntmps30
  go_wp2
  go_loopw [7, 10] (fun _ q wr => ∃ (k : Nat), k ≤ m ∧ q = .int .i64 k ∧ Aside0 (WrAt wr base g t (bs ++ bes n (l.take k))) ∧ Aside0 (Wrote base g w wr)) (fun _ q _ => m - (intOf q).toNat)
  case atStart => exact ⟨0, by omega, rfl, HW0, ⟨Wrote.refl _ _ _⟩⟩
  case round =>
    clear HW0
    obtain ⟨k, hk, rfl, HW, HK⟩ := hrel
    by_cases hkm : k < m
    · have hb1 := HK.out.2 b _ _ _ HBL.out hT hbg
      have hkl : k < l.length := by rw [HL.out]; exact hkm
      have hcx : wr.cell? ⟨b, k, none⟩ = some (.int .u64 (l.getD k 0)) := (blk_cell hb1 k).trans (by simp [nums, List.getElem?_eq_getElem hkl, List.getD_eq_getElem?_getD])
      have hxv := HV.out (l.getD k 0) (by rw [List.getD_eq_getElem?_getD, List.getElem?_eq_getElem hkl]; exact List.getElem_mem _)
      have htk : l.take (k + 1) = l.take k ++ [l.getD k 0] := by rw [List.take_add_one, List.getD_eq_getElem?_getD, List.getElem?_eq_getElem hkl]; rfl
      have hx8 := Int.lt_of_lt_of_le hxv.2 HP8.out
      have hx0 := hxv.1
      have hln : (bs ++ bes n (l.take k)).length ≤ 1000000 := by
        rw [List.length_append, bes_length, List.length_take]
        have : n * min k l.length ≤ 8 * 1000 := Nat.mul_le_mul hn8 (by omega)
        omega
      have hp := wput_any base g t (bs ++ bes n (l.take k)) (l.getD k 0) n wr HW.out hbase ht hln hx0 hx8 hn hn8 hxv.2
      rw [List.append_assoc, ← bes_snoc, ← htk] at hp
      obtain ⟨x, ex⟩ : ∃ x, l.getD k 0 = x := ⟨_, rfl⟩
      rw [ex] at hcx hp
      clear htk hx8 hx0 hln hxv hb1 hkl ex
      go_wp2_with (go_at_call 50; go_must (with_reducible refine hp.mono ?_); rintro e w2 ⟨rfl, hw2, hk2⟩)
      go_roundw
      case rel => exact ⟨k + 1, by omega, by go_num, ⟨hw2⟩, ⟨HK.out.trans hk2⟩⟩
      case measure => simp [intOf]; omega
    · have e : k = m := by omega
      subst e
      go_wp2
      go_end0
      exact ⟨rfl, by have h := HW.out; rw [List.take_of_length_le (by rw [HL.out]; exact Nat.le_refl _)] at h; exact h, HK.out⟩
end Go.Proofs.Ytknpaihlnkcpgaa.Own
/- Loads of values of many cells: one rule a size, cheap for the kernel. (written by wip/gen_big.py) -/
set_option linter.unusedVariables false
set_option linter.unusedSimpArgs false
namespace Go.Proofs.Ytknpaihlnkcpgaa.Own
open Go.RowKit Go.Proofs.YtknpaihlnkcpgaaW.PrintWords Go.Proofs.YtknpaihlnkcpgaaW.PrintLast Go.Proofs.YtknpaihlnkcpgaaW.PrintMore

/-- a cell's value -/
def gv (o : Option Value) : Value := o.getD undef
theorem gv_some (v : Value) : gv (some v) = v := rfl
def isV (o : Option Value) : Bool := o.isSome
theorem isV_some (v : Value) : isV (some v) = true := rfl
/-- what a load of n cells comes to, where one of them is missing -/
noncomputable def slowLd (P : Program) (a : Addr) (n : Nat) (w : World) : Result (Array Value) := (loadCellsFrom a 0 n #[]).run P w
def pick2 (b : Bool) (x y : Result (Array Value)) : Result (Array Value) := cond b x y
theorem pick2_true (x y : Result (Array Value)) : pick2 true x y = x := rfl

theorem ld_list (P : Program) (w : World) (b o : Nat) (n : Nat) (vs : List (Option Value)) (hn : vs.length = n) (hv : ∀ j, j < n → vs[j]? = some (w.cell? ⟨b, o + j, none⟩)) :
    (loadCellsFrom ⟨b, o, none⟩ 0 n #[]).run P w = pick2 (vs.all isV) (.ok (vs.map gv).toArray w) (slowLd P ⟨b, o, none⟩ n w) := by
  cases h : vs.all isV with
  | false => rfl
  | true =>
    subst hn
    have h1 := run_loadCells_list (P := P) w ⟨b, o, none⟩ (vs.map gv) (fun j v hj => by
      have hlt : j < vs.length := by
        rcases Nat.lt_or_ge j vs.length with h' | h'
        · exact h'
        · rw [List.getElem?_eq_none (by simpa using h')] at hj; cases hj
      have h2 := hv j hlt
      rw [List.getElem?_eq_getElem hlt] at h2
      have h3 := List.all_eq_true.1 h vs[j] (List.getElem_mem _)
      rw [List.getElem?_map, List.getElem?_eq_getElem hlt] at hj
      have e : vs[j] = w.cell? ⟨b, o + j, none⟩ := Option.some.inj h2
      rw [Addr.add_lit, ← e]
      cases hx : vs[j] with
      | none => rw [hx] at h3; cases h3
      | some u =>
        rw [hx] at hj
        simpa [gv] using hj)
    rw [List.length_map] at h1
    exact h1
set_option maxRecDepth 100000 in
theorem ld4 (P : Program) (w : World) (b o : Nat) : (loadCellsFrom ⟨b, o, none⟩ 0 4 #[]).run P w = pick2 (isV (w.cell? ⟨b, o + 0, none⟩) && (isV (w.cell? ⟨b, o + 1, none⟩) && (isV (w.cell? ⟨b, o + 2, none⟩) && (isV (w.cell? ⟨b, o + 3, none⟩) && true)))) (.ok #[gv (w.cell? ⟨b, o + 0, none⟩), gv (w.cell? ⟨b, o + 1, none⟩), gv (w.cell? ⟨b, o + 2, none⟩), gv (w.cell? ⟨b, o + 3, none⟩)] w) (slowLd P ⟨b, o, none⟩ 4 w) :=
  ld_list P w b o 4 ((List.range 4).map fun j => w.cell? ⟨b, o + j, none⟩) rfl (fun j hj => by rw [List.getElem?_map, List.getElem?_range hj]; rfl)
set_option maxRecDepth 100000 in
theorem ld5 (P : Program) (w : World) (b o : Nat) : (loadCellsFrom ⟨b, o, none⟩ 0 5 #[]).run P w = pick2 (isV (w.cell? ⟨b, o + 0, none⟩) && (isV (w.cell? ⟨b, o + 1, none⟩) && (isV (w.cell? ⟨b, o + 2, none⟩) && (isV (w.cell? ⟨b, o + 3, none⟩) && (isV (w.cell? ⟨b, o + 4, none⟩) && true))))) (.ok #[gv (w.cell? ⟨b, o + 0, none⟩), gv (w.cell? ⟨b, o + 1, none⟩), gv (w.cell? ⟨b, o + 2, none⟩), gv (w.cell? ⟨b, o + 3, none⟩), gv (w.cell? ⟨b, o + 4, none⟩)] w) (slowLd P ⟨b, o, none⟩ 5 w) :=
  ld_list P w b o 5 ((List.range 5).map fun j => w.cell? ⟨b, o + j, none⟩) rfl (fun j hj => by rw [List.getElem?_map, List.getElem?_range hj]; rfl)
set_option maxRecDepth 100000 in
theorem ld11 (P : Program) (w : World) (b o : Nat) : (loadCellsFrom ⟨b, o, none⟩ 0 11 #[]).run P w = pick2 (isV (w.cell? ⟨b, o + 0, none⟩) && (isV (w.cell? ⟨b, o + 1, none⟩) && (isV (w.cell? ⟨b, o + 2, none⟩) && (isV (w.cell? ⟨b, o + 3, none⟩) && (isV (w.cell? ⟨b, o + 4, none⟩) && (isV (w.cell? ⟨b, o + 5, none⟩) && (isV (w.cell? ⟨b, o + 6, none⟩) && (isV (w.cell? ⟨b, o + 7, none⟩) && (isV (w.cell? ⟨b, o + 8, none⟩) && (isV (w.cell? ⟨b, o + 9, none⟩) && (isV (w.cell? ⟨b, o + 10, none⟩) && true))))))))))) (.ok #[gv (w.cell? ⟨b, o + 0, none⟩), gv (w.cell? ⟨b, o + 1, none⟩), gv (w.cell? ⟨b, o + 2, none⟩), gv (w.cell? ⟨b, o + 3, none⟩), gv (w.cell? ⟨b, o + 4, none⟩), gv (w.cell? ⟨b, o + 5, none⟩), gv (w.cell? ⟨b, o + 6, none⟩), gv (w.cell? ⟨b, o + 7, none⟩), gv (w.cell? ⟨b, o + 8, none⟩), gv (w.cell? ⟨b, o + 9, none⟩), gv (w.cell? ⟨b, o + 10, none⟩)] w) (slowLd P ⟨b, o, none⟩ 11 w) :=
  ld_list P w b o 11 ((List.range 11).map fun j => w.cell? ⟨b, o + j, none⟩) rfl (fun j hj => by rw [List.getElem?_map, List.getElem?_range hj]; rfl)
set_option maxRecDepth 100000 in
theorem ld12 (P : Program) (w : World) (b o : Nat) : (loadCellsFrom ⟨b, o, none⟩ 0 12 #[]).run P w = pick2 (isV (w.cell? ⟨b, o + 0, none⟩) && (isV (w.cell? ⟨b, o + 1, none⟩) && (isV (w.cell? ⟨b, o + 2, none⟩) && (isV (w.cell? ⟨b, o + 3, none⟩) && (isV (w.cell? ⟨b, o + 4, none⟩) && (isV (w.cell? ⟨b, o + 5, none⟩) && (isV (w.cell? ⟨b, o + 6, none⟩) && (isV (w.cell? ⟨b, o + 7, none⟩) && (isV (w.cell? ⟨b, o + 8, none⟩) && (isV (w.cell? ⟨b, o + 9, none⟩) && (isV (w.cell? ⟨b, o + 10, none⟩) && (isV (w.cell? ⟨b, o + 11, none⟩) && true)))))))))))) (.ok #[gv (w.cell? ⟨b, o + 0, none⟩), gv (w.cell? ⟨b, o + 1, none⟩), gv (w.cell? ⟨b, o + 2, none⟩), gv (w.cell? ⟨b, o + 3, none⟩), gv (w.cell? ⟨b, o + 4, none⟩), gv (w.cell? ⟨b, o + 5, none⟩), gv (w.cell? ⟨b, o + 6, none⟩), gv (w.cell? ⟨b, o + 7, none⟩), gv (w.cell? ⟨b, o + 8, none⟩), gv (w.cell? ⟨b, o + 9, none⟩), gv (w.cell? ⟨b, o + 10, none⟩), gv (w.cell? ⟨b, o + 11, none⟩)] w) (slowLd P ⟨b, o, none⟩ 12 w) :=
  ld_list P w b o 12 ((List.range 12).map fun j => w.cell? ⟨b, o + j, none⟩) rfl (fun j hj => by rw [List.getElem?_map, List.getElem?_range hj]; rfl)
set_option maxRecDepth 100000 in
theorem ld16 (P : Program) (w : World) (b o : Nat) : (loadCellsFrom ⟨b, o, none⟩ 0 16 #[]).run P w = pick2 (isV (w.cell? ⟨b, o + 0, none⟩) && (isV (w.cell? ⟨b, o + 1, none⟩) && (isV (w.cell? ⟨b, o + 2, none⟩) && (isV (w.cell? ⟨b, o + 3, none⟩) && (isV (w.cell? ⟨b, o + 4, none⟩) && (isV (w.cell? ⟨b, o + 5, none⟩) && (isV (w.cell? ⟨b, o + 6, none⟩) && (isV (w.cell? ⟨b, o + 7, none⟩) && (isV (w.cell? ⟨b, o + 8, none⟩) && (isV (w.cell? ⟨b, o + 9, none⟩) && (isV (w.cell? ⟨b, o + 10, none⟩) && (isV (w.cell? ⟨b, o + 11, none⟩) && (isV (w.cell? ⟨b, o + 12, none⟩) && (isV (w.cell? ⟨b, o + 13, none⟩) && (isV (w.cell? ⟨b, o + 14, none⟩) && (isV (w.cell? ⟨b, o + 15, none⟩) && true)))))))))))))))) (.ok #[gv (w.cell? ⟨b, o + 0, none⟩), gv (w.cell? ⟨b, o + 1, none⟩), gv (w.cell? ⟨b, o + 2, none⟩), gv (w.cell? ⟨b, o + 3, none⟩), gv (w.cell? ⟨b, o + 4, none⟩), gv (w.cell? ⟨b, o + 5, none⟩), gv (w.cell? ⟨b, o + 6, none⟩), gv (w.cell? ⟨b, o + 7, none⟩), gv (w.cell? ⟨b, o + 8, none⟩), gv (w.cell? ⟨b, o + 9, none⟩), gv (w.cell? ⟨b, o + 10, none⟩), gv (w.cell? ⟨b, o + 11, none⟩), gv (w.cell? ⟨b, o + 12, none⟩), gv (w.cell? ⟨b, o + 13, none⟩), gv (w.cell? ⟨b, o + 14, none⟩), gv (w.cell? ⟨b, o + 15, none⟩)] w) (slowLd P ⟨b, o, none⟩ 16 w) :=
  ld_list P w b o 16 ((List.range 16).map fun j => w.cell? ⟨b, o + j, none⟩) rfl (fun j hj => by rw [List.getElem?_map, List.getElem?_range hj]; rfl)
set_option maxRecDepth 100000 in
theorem ld17 (P : Program) (w : World) (b o : Nat) : (loadCellsFrom ⟨b, o, none⟩ 0 17 #[]).run P w = pick2 (isV (w.cell? ⟨b, o + 0, none⟩) && (isV (w.cell? ⟨b, o + 1, none⟩) && (isV (w.cell? ⟨b, o + 2, none⟩) && (isV (w.cell? ⟨b, o + 3, none⟩) && (isV (w.cell? ⟨b, o + 4, none⟩) && (isV (w.cell? ⟨b, o + 5, none⟩) && (isV (w.cell? ⟨b, o + 6, none⟩) && (isV (w.cell? ⟨b, o + 7, none⟩) && (isV (w.cell? ⟨b, o + 8, none⟩) && (isV (w.cell? ⟨b, o + 9, none⟩) && (isV (w.cell? ⟨b, o + 10, none⟩) && (isV (w.cell? ⟨b, o + 11, none⟩) && (isV (w.cell? ⟨b, o + 12, none⟩) && (isV (w.cell? ⟨b, o + 13, none⟩) && (isV (w.cell? ⟨b, o + 14, none⟩) && (isV (w.cell? ⟨b, o + 15, none⟩) && (isV (w.cell? ⟨b, o + 16, none⟩) && true))))))))))))))))) (.ok #[gv (w.cell? ⟨b, o + 0, none⟩), gv (w.cell? ⟨b, o + 1, none⟩), gv (w.cell? ⟨b, o + 2, none⟩), gv (w.cell? ⟨b, o + 3, none⟩), gv (w.cell? ⟨b, o + 4, none⟩), gv (w.cell? ⟨b, o + 5, none⟩), gv (w.cell? ⟨b, o + 6, none⟩), gv (w.cell? ⟨b, o + 7, none⟩), gv (w.cell? ⟨b, o + 8, none⟩), gv (w.cell? ⟨b, o + 9, none⟩), gv (w.cell? ⟨b, o + 10, none⟩), gv (w.cell? ⟨b, o + 11, none⟩), gv (w.cell? ⟨b, o + 12, none⟩), gv (w.cell? ⟨b, o + 13, none⟩), gv (w.cell? ⟨b, o + 14, none⟩), gv (w.cell? ⟨b, o + 15, none⟩), gv (w.cell? ⟨b, o + 16, none⟩)] w) (slowLd P ⟨b, o, none⟩ 17 w) :=
  ld_list P w b o 17 ((List.range 17).map fun j => w.cell? ⟨b, o + j, none⟩) rfl (fun j hj => by rw [List.getElem?_map, List.getElem?_range hj]; rfl)
set_option maxRecDepth 100000 in
theorem ld18 (P : Program) (w : World) (b o : Nat) : (loadCellsFrom ⟨b, o, none⟩ 0 18 #[]).run P w = pick2 (isV (w.cell? ⟨b, o + 0, none⟩) && (isV (w.cell? ⟨b, o + 1, none⟩) && (isV (w.cell? ⟨b, o + 2, none⟩) && (isV (w.cell? ⟨b, o + 3, none⟩) && (isV (w.cell? ⟨b, o + 4, none⟩) && (isV (w.cell? ⟨b, o + 5, none⟩) && (isV (w.cell? ⟨b, o + 6, none⟩) && (isV (w.cell? ⟨b, o + 7, none⟩) && (isV (w.cell? ⟨b, o + 8, none⟩) && (isV (w.cell? ⟨b, o + 9, none⟩) && (isV (w.cell? ⟨b, o + 10, none⟩) && (isV (w.cell? ⟨b, o + 11, none⟩) && (isV (w.cell? ⟨b, o + 12, none⟩) && (isV (w.cell? ⟨b, o + 13, none⟩) && (isV (w.cell? ⟨b, o + 14, none⟩) && (isV (w.cell? ⟨b, o + 15, none⟩) && (isV (w.cell? ⟨b, o + 16, none⟩) && (isV (w.cell? ⟨b, o + 17, none⟩) && true)))))))))))))))))) (.ok #[gv (w.cell? ⟨b, o + 0, none⟩), gv (w.cell? ⟨b, o + 1, none⟩), gv (w.cell? ⟨b, o + 2, none⟩), gv (w.cell? ⟨b, o + 3, none⟩), gv (w.cell? ⟨b, o + 4, none⟩), gv (w.cell? ⟨b, o + 5, none⟩), gv (w.cell? ⟨b, o + 6, none⟩), gv (w.cell? ⟨b, o + 7, none⟩), gv (w.cell? ⟨b, o + 8, none⟩), gv (w.cell? ⟨b, o + 9, none⟩), gv (w.cell? ⟨b, o + 10, none⟩), gv (w.cell? ⟨b, o + 11, none⟩), gv (w.cell? ⟨b, o + 12, none⟩), gv (w.cell? ⟨b, o + 13, none⟩), gv (w.cell? ⟨b, o + 14, none⟩), gv (w.cell? ⟨b, o + 15, none⟩), gv (w.cell? ⟨b, o + 16, none⟩), gv (w.cell? ⟨b, o + 17, none⟩)] w) (slowLd P ⟨b, o, none⟩ 18 w) :=
  ld_list P w b o 18 ((List.range 18).map fun j => w.cell? ⟨b, o + j, none⟩) rfl (fun j hj => by rw [List.getElem?_map, List.getElem?_range hj]; rfl)
set_option maxRecDepth 100000 in
theorem ld36 (P : Program) (w : World) (b o : Nat) : (loadCellsFrom ⟨b, o, none⟩ 0 36 #[]).run P w = pick2 (isV (w.cell? ⟨b, o + 0, none⟩) && (isV (w.cell? ⟨b, o + 1, none⟩) && (isV (w.cell? ⟨b, o + 2, none⟩) && (isV (w.cell? ⟨b, o + 3, none⟩) && (isV (w.cell? ⟨b, o + 4, none⟩) && (isV (w.cell? ⟨b, o + 5, none⟩) && (isV (w.cell? ⟨b, o + 6, none⟩) && (isV (w.cell? ⟨b, o + 7, none⟩) && (isV (w.cell? ⟨b, o + 8, none⟩) && (isV (w.cell? ⟨b, o + 9, none⟩) && (isV (w.cell? ⟨b, o + 10, none⟩) && (isV (w.cell? ⟨b, o + 11, none⟩) && (isV (w.cell? ⟨b, o + 12, none⟩) && (isV (w.cell? ⟨b, o + 13, none⟩) && (isV (w.cell? ⟨b, o + 14, none⟩) && (isV (w.cell? ⟨b, o + 15, none⟩) && (isV (w.cell? ⟨b, o + 16, none⟩) && (isV (w.cell? ⟨b, o + 17, none⟩) && (isV (w.cell? ⟨b, o + 18, none⟩) && (isV (w.cell? ⟨b, o + 19, none⟩) && (isV (w.cell? ⟨b, o + 20, none⟩) && (isV (w.cell? ⟨b, o + 21, none⟩) && (isV (w.cell? ⟨b, o + 22, none⟩) && (isV (w.cell? ⟨b, o + 23, none⟩) && (isV (w.cell? ⟨b, o + 24, none⟩) && (isV (w.cell? ⟨b, o + 25, none⟩) && (isV (w.cell? ⟨b, o + 26, none⟩) && (isV (w.cell? ⟨b, o + 27, none⟩) && (isV (w.cell? ⟨b, o + 28, none⟩) && (isV (w.cell? ⟨b, o + 29, none⟩) && (isV (w.cell? ⟨b, o + 30, none⟩) && (isV (w.cell? ⟨b, o + 31, none⟩) && (isV (w.cell? ⟨b, o + 32, none⟩) && (isV (w.cell? ⟨b, o + 33, none⟩) && (isV (w.cell? ⟨b, o + 34, none⟩) && (isV (w.cell? ⟨b, o + 35, none⟩) && true)))))))))))))))))))))))))))))))))))) (.ok #[gv (w.cell? ⟨b, o + 0, none⟩), gv (w.cell? ⟨b, o + 1, none⟩), gv (w.cell? ⟨b, o + 2, none⟩), gv (w.cell? ⟨b, o + 3, none⟩), gv (w.cell? ⟨b, o + 4, none⟩), gv (w.cell? ⟨b, o + 5, none⟩), gv (w.cell? ⟨b, o + 6, none⟩), gv (w.cell? ⟨b, o + 7, none⟩), gv (w.cell? ⟨b, o + 8, none⟩), gv (w.cell? ⟨b, o + 9, none⟩), gv (w.cell? ⟨b, o + 10, none⟩), gv (w.cell? ⟨b, o + 11, none⟩), gv (w.cell? ⟨b, o + 12, none⟩), gv (w.cell? ⟨b, o + 13, none⟩), gv (w.cell? ⟨b, o + 14, none⟩), gv (w.cell? ⟨b, o + 15, none⟩), gv (w.cell? ⟨b, o + 16, none⟩), gv (w.cell? ⟨b, o + 17, none⟩), gv (w.cell? ⟨b, o + 18, none⟩), gv (w.cell? ⟨b, o + 19, none⟩), gv (w.cell? ⟨b, o + 20, none⟩), gv (w.cell? ⟨b, o + 21, none⟩), gv (w.cell? ⟨b, o + 22, none⟩), gv (w.cell? ⟨b, o + 23, none⟩), gv (w.cell? ⟨b, o + 24, none⟩), gv (w.cell? ⟨b, o + 25, none⟩), gv (w.cell? ⟨b, o + 26, none⟩), gv (w.cell? ⟨b, o + 27, none⟩), gv (w.cell? ⟨b, o + 28, none⟩), gv (w.cell? ⟨b, o + 29, none⟩), gv (w.cell? ⟨b, o + 30, none⟩), gv (w.cell? ⟨b, o + 31, none⟩), gv (w.cell? ⟨b, o + 32, none⟩), gv (w.cell? ⟨b, o + 33, none⟩), gv (w.cell? ⟨b, o + 34, none⟩), gv (w.cell? ⟨b, o + 35, none⟩)] w) (slowLd P ⟨b, o, none⟩ 36 w) :=
  ld_list P w b o 36 ((List.range 36).map fun j => w.cell? ⟨b, o + j, none⟩) rfl (fun j hj => by rw [List.getElem?_map, List.getElem?_range hj]; rfl)
set_option maxRecDepth 100000 in
theorem ld37 (P : Program) (w : World) (b o : Nat) : (loadCellsFrom ⟨b, o, none⟩ 0 37 #[]).run P w = pick2 (isV (w.cell? ⟨b, o + 0, none⟩) && (isV (w.cell? ⟨b, o + 1, none⟩) && (isV (w.cell? ⟨b, o + 2, none⟩) && (isV (w.cell? ⟨b, o + 3, none⟩) && (isV (w.cell? ⟨b, o + 4, none⟩) && (isV (w.cell? ⟨b, o + 5, none⟩) && (isV (w.cell? ⟨b, o + 6, none⟩) && (isV (w.cell? ⟨b, o + 7, none⟩) && (isV (w.cell? ⟨b, o + 8, none⟩) && (isV (w.cell? ⟨b, o + 9, none⟩) && (isV (w.cell? ⟨b, o + 10, none⟩) && (isV (w.cell? ⟨b, o + 11, none⟩) && (isV (w.cell? ⟨b, o + 12, none⟩) && (isV (w.cell? ⟨b, o + 13, none⟩) && (isV (w.cell? ⟨b, o + 14, none⟩) && (isV (w.cell? ⟨b, o + 15, none⟩) && (isV (w.cell? ⟨b, o + 16, none⟩) && (isV (w.cell? ⟨b, o + 17, none⟩) && (isV (w.cell? ⟨b, o + 18, none⟩) && (isV (w.cell? ⟨b, o + 19, none⟩) && (isV (w.cell? ⟨b, o + 20, none⟩) && (isV (w.cell? ⟨b, o + 21, none⟩) && (isV (w.cell? ⟨b, o + 22, none⟩) && (isV (w.cell? ⟨b, o + 23, none⟩) && (isV (w.cell? ⟨b, o + 24, none⟩) && (isV (w.cell? ⟨b, o + 25, none⟩) && (isV (w.cell? ⟨b, o + 26, none⟩) && (isV (w.cell? ⟨b, o + 27, none⟩) && (isV (w.cell? ⟨b, o + 28, none⟩) && (isV (w.cell? ⟨b, o + 29, none⟩) && (isV (w.cell? ⟨b, o + 30, none⟩) && (isV (w.cell? ⟨b, o + 31, none⟩) && (isV (w.cell? ⟨b, o + 32, none⟩) && (isV (w.cell? ⟨b, o + 33, none⟩) && (isV (w.cell? ⟨b, o + 34, none⟩) && (isV (w.cell? ⟨b, o + 35, none⟩) && (isV (w.cell? ⟨b, o + 36, none⟩) && true))))))))))))))))))))))))))))))))))))) (.ok #[gv (w.cell? ⟨b, o + 0, none⟩), gv (w.cell? ⟨b, o + 1, none⟩), gv (w.cell? ⟨b, o + 2, none⟩), gv (w.cell? ⟨b, o + 3, none⟩), gv (w.cell? ⟨b, o + 4, none⟩), gv (w.cell? ⟨b, o + 5, none⟩), gv (w.cell? ⟨b, o + 6, none⟩), gv (w.cell? ⟨b, o + 7, none⟩), gv (w.cell? ⟨b, o + 8, none⟩), gv (w.cell? ⟨b, o + 9, none⟩), gv (w.cell? ⟨b, o + 10, none⟩), gv (w.cell? ⟨b, o + 11, none⟩), gv (w.cell? ⟨b, o + 12, none⟩), gv (w.cell? ⟨b, o + 13, none⟩), gv (w.cell? ⟨b, o + 14, none⟩), gv (w.cell? ⟨b, o + 15, none⟩), gv (w.cell? ⟨b, o + 16, none⟩), gv (w.cell? ⟨b, o + 17, none⟩), gv (w.cell? ⟨b, o + 18, none⟩), gv (w.cell? ⟨b, o + 19, none⟩), gv (w.cell? ⟨b, o + 20, none⟩), gv (w.cell? ⟨b, o + 21, none⟩), gv (w.cell? ⟨b, o + 22, none⟩), gv (w.cell? ⟨b, o + 23, none⟩), gv (w.cell? ⟨b, o + 24, none⟩), gv (w.cell? ⟨b, o + 25, none⟩), gv (w.cell? ⟨b, o + 26, none⟩), gv (w.cell? ⟨b, o + 27, none⟩), gv (w.cell? ⟨b, o + 28, none⟩), gv (w.cell? ⟨b, o + 29, none⟩), gv (w.cell? ⟨b, o + 30, none⟩), gv (w.cell? ⟨b, o + 31, none⟩), gv (w.cell? ⟨b, o + 32, none⟩), gv (w.cell? ⟨b, o + 33, none⟩), gv (w.cell? ⟨b, o + 34, none⟩), gv (w.cell? ⟨b, o + 35, none⟩), gv (w.cell? ⟨b, o + 36, none⟩)] w) (slowLd P ⟨b, o, none⟩ 37 w) :=
  ld_list P w b o 37 ((List.range 37).map fun j => w.cell? ⟨b, o + j, none⟩) rfl (fun j hj => by rw [List.getElem?_map, List.getElem?_range hj]; rfl)
set_option maxRecDepth 100000 in
theorem ld39 (P : Program) (w : World) (b o : Nat) : (loadCellsFrom ⟨b, o, none⟩ 0 39 #[]).run P w = pick2 (isV (w.cell? ⟨b, o + 0, none⟩) && (isV (w.cell? ⟨b, o + 1, none⟩) && (isV (w.cell? ⟨b, o + 2, none⟩) && (isV (w.cell? ⟨b, o + 3, none⟩) && (isV (w.cell? ⟨b, o + 4, none⟩) && (isV (w.cell? ⟨b, o + 5, none⟩) && (isV (w.cell? ⟨b, o + 6, none⟩) && (isV (w.cell? ⟨b, o + 7, none⟩) && (isV (w.cell? ⟨b, o + 8, none⟩) && (isV (w.cell? ⟨b, o + 9, none⟩) && (isV (w.cell? ⟨b, o + 10, none⟩) && (isV (w.cell? ⟨b, o + 11, none⟩) && (isV (w.cell? ⟨b, o + 12, none⟩) && (isV (w.cell? ⟨b, o + 13, none⟩) && (isV (w.cell? ⟨b, o + 14, none⟩) && (isV (w.cell? ⟨b, o + 15, none⟩) && (isV (w.cell? ⟨b, o + 16, none⟩) && (isV (w.cell? ⟨b, o + 17, none⟩) && (isV (w.cell? ⟨b, o + 18, none⟩) && (isV (w.cell? ⟨b, o + 19, none⟩) && (isV (w.cell? ⟨b, o + 20, none⟩) && (isV (w.cell? ⟨b, o + 21, none⟩) && (isV (w.cell? ⟨b, o + 22, none⟩) && (isV (w.cell? ⟨b, o + 23, none⟩) && (isV (w.cell? ⟨b, o + 24, none⟩) && (isV (w.cell? ⟨b, o + 25, none⟩) && (isV (w.cell? ⟨b, o + 26, none⟩) && (isV (w.cell? ⟨b, o + 27, none⟩) && (isV (w.cell? ⟨b, o + 28, none⟩) && (isV (w.cell? ⟨b, o + 29, none⟩) && (isV (w.cell? ⟨b, o + 30, none⟩) && (isV (w.cell? ⟨b, o + 31, none⟩) && (isV (w.cell? ⟨b, o + 32, none⟩) && (isV (w.cell? ⟨b, o + 33, none⟩) && (isV (w.cell? ⟨b, o + 34, none⟩) && (isV (w.cell? ⟨b, o + 35, none⟩) && (isV (w.cell? ⟨b, o + 36, none⟩) && (isV (w.cell? ⟨b, o + 37, none⟩) && (isV (w.cell? ⟨b, o + 38, none⟩) && true))))))))))))))))))))))))))))))))))))))) (.ok #[gv (w.cell? ⟨b, o + 0, none⟩), gv (w.cell? ⟨b, o + 1, none⟩), gv (w.cell? ⟨b, o + 2, none⟩), gv (w.cell? ⟨b, o + 3, none⟩), gv (w.cell? ⟨b, o + 4, none⟩), gv (w.cell? ⟨b, o + 5, none⟩), gv (w.cell? ⟨b, o + 6, none⟩), gv (w.cell? ⟨b, o + 7, none⟩), gv (w.cell? ⟨b, o + 8, none⟩), gv (w.cell? ⟨b, o + 9, none⟩), gv (w.cell? ⟨b, o + 10, none⟩), gv (w.cell? ⟨b, o + 11, none⟩), gv (w.cell? ⟨b, o + 12, none⟩), gv (w.cell? ⟨b, o + 13, none⟩), gv (w.cell? ⟨b, o + 14, none⟩), gv (w.cell? ⟨b, o + 15, none⟩), gv (w.cell? ⟨b, o + 16, none⟩), gv (w.cell? ⟨b, o + 17, none⟩), gv (w.cell? ⟨b, o + 18, none⟩), gv (w.cell? ⟨b, o + 19, none⟩), gv (w.cell? ⟨b, o + 20, none⟩), gv (w.cell? ⟨b, o + 21, none⟩), gv (w.cell? ⟨b, o + 22, none⟩), gv (w.cell? ⟨b, o + 23, none⟩), gv (w.cell? ⟨b, o + 24, none⟩), gv (w.cell? ⟨b, o + 25, none⟩), gv (w.cell? ⟨b, o + 26, none⟩), gv (w.cell? ⟨b, o + 27, none⟩), gv (w.cell? ⟨b, o + 28, none⟩), gv (w.cell? ⟨b, o + 29, none⟩), gv (w.cell? ⟨b, o + 30, none⟩), gv (w.cell? ⟨b, o + 31, none⟩), gv (w.cell? ⟨b, o + 32, none⟩), gv (w.cell? ⟨b, o + 33, none⟩), gv (w.cell? ⟨b, o + 34, none⟩), gv (w.cell? ⟨b, o + 35, none⟩), gv (w.cell? ⟨b, o + 36, none⟩), gv (w.cell? ⟨b, o + 37, none⟩), gv (w.cell? ⟨b, o + 38, none⟩)] w) (slowLd P ⟨b, o, none⟩ 39 w) :=
  ld_list P w b o 39 ((List.range 39).map fun j => w.cell? ⟨b, o + j, none⟩) rfl (fun j hj => by rw [List.getElem?_map, List.getElem?_range hj]; rfl)
set_option maxRecDepth 100000 in
theorem ld40 (P : Program) (w : World) (b o : Nat) : (loadCellsFrom ⟨b, o, none⟩ 0 40 #[]).run P w = pick2 (isV (w.cell? ⟨b, o + 0, none⟩) && (isV (w.cell? ⟨b, o + 1, none⟩) && (isV (w.cell? ⟨b, o + 2, none⟩) && (isV (w.cell? ⟨b, o + 3, none⟩) && (isV (w.cell? ⟨b, o + 4, none⟩) && (isV (w.cell? ⟨b, o + 5, none⟩) && (isV (w.cell? ⟨b, o + 6, none⟩) && (isV (w.cell? ⟨b, o + 7, none⟩) && (isV (w.cell? ⟨b, o + 8, none⟩) && (isV (w.cell? ⟨b, o + 9, none⟩) && (isV (w.cell? ⟨b, o + 10, none⟩) && (isV (w.cell? ⟨b, o + 11, none⟩) && (isV (w.cell? ⟨b, o + 12, none⟩) && (isV (w.cell? ⟨b, o + 13, none⟩) && (isV (w.cell? ⟨b, o + 14, none⟩) && (isV (w.cell? ⟨b, o + 15, none⟩) && (isV (w.cell? ⟨b, o + 16, none⟩) && (isV (w.cell? ⟨b, o + 17, none⟩) && (isV (w.cell? ⟨b, o + 18, none⟩) && (isV (w.cell? ⟨b, o + 19, none⟩) && (isV (w.cell? ⟨b, o + 20, none⟩) && (isV (w.cell? ⟨b, o + 21, none⟩) && (isV (w.cell? ⟨b, o + 22, none⟩) && (isV (w.cell? ⟨b, o + 23, none⟩) && (isV (w.cell? ⟨b, o + 24, none⟩) && (isV (w.cell? ⟨b, o + 25, none⟩) && (isV (w.cell? ⟨b, o + 26, none⟩) && (isV (w.cell? ⟨b, o + 27, none⟩) && (isV (w.cell? ⟨b, o + 28, none⟩) && (isV (w.cell? ⟨b, o + 29, none⟩) && (isV (w.cell? ⟨b, o + 30, none⟩) && (isV (w.cell? ⟨b, o + 31, none⟩) && (isV (w.cell? ⟨b, o + 32, none⟩) && (isV (w.cell? ⟨b, o + 33, none⟩) && (isV (w.cell? ⟨b, o + 34, none⟩) && (isV (w.cell? ⟨b, o + 35, none⟩) && (isV (w.cell? ⟨b, o + 36, none⟩) && (isV (w.cell? ⟨b, o + 37, none⟩) && (isV (w.cell? ⟨b, o + 38, none⟩) && (isV (w.cell? ⟨b, o + 39, none⟩) && true)))))))))))))))))))))))))))))))))))))))) (.ok #[gv (w.cell? ⟨b, o + 0, none⟩), gv (w.cell? ⟨b, o + 1, none⟩), gv (w.cell? ⟨b, o + 2, none⟩), gv (w.cell? ⟨b, o + 3, none⟩), gv (w.cell? ⟨b, o + 4, none⟩), gv (w.cell? ⟨b, o + 5, none⟩), gv (w.cell? ⟨b, o + 6, none⟩), gv (w.cell? ⟨b, o + 7, none⟩), gv (w.cell? ⟨b, o + 8, none⟩), gv (w.cell? ⟨b, o + 9, none⟩), gv (w.cell? ⟨b, o + 10, none⟩), gv (w.cell? ⟨b, o + 11, none⟩), gv (w.cell? ⟨b, o + 12, none⟩), gv (w.cell? ⟨b, o + 13, none⟩), gv (w.cell? ⟨b, o + 14, none⟩), gv (w.cell? ⟨b, o + 15, none⟩), gv (w.cell? ⟨b, o + 16, none⟩), gv (w.cell? ⟨b, o + 17, none⟩), gv (w.cell? ⟨b, o + 18, none⟩), gv (w.cell? ⟨b, o + 19, none⟩), gv (w.cell? ⟨b, o + 20, none⟩), gv (w.cell? ⟨b, o + 21, none⟩), gv (w.cell? ⟨b, o + 22, none⟩), gv (w.cell? ⟨b, o + 23, none⟩), gv (w.cell? ⟨b, o + 24, none⟩), gv (w.cell? ⟨b, o + 25, none⟩), gv (w.cell? ⟨b, o + 26, none⟩), gv (w.cell? ⟨b, o + 27, none⟩), gv (w.cell? ⟨b, o + 28, none⟩), gv (w.cell? ⟨b, o + 29, none⟩), gv (w.cell? ⟨b, o + 30, none⟩), gv (w.cell? ⟨b, o + 31, none⟩), gv (w.cell? ⟨b, o + 32, none⟩), gv (w.cell? ⟨b, o + 33, none⟩), gv (w.cell? ⟨b, o + 34, none⟩), gv (w.cell? ⟨b, o + 35, none⟩), gv (w.cell? ⟨b, o + 36, none⟩), gv (w.cell? ⟨b, o + 37, none⟩), gv (w.cell? ⟨b, o + 38, none⟩), gv (w.cell? ⟨b, o + 39, none⟩)] w) (slowLd P ⟨b, o, none⟩ 40 w) :=
  ld_list P w b o 40 ((List.range 40).map fun j => w.cell? ⟨b, o + j, none⟩) rfl (fun j hj => by rw [List.getElem?_map, List.getElem?_range hj]; rfl)
set_option maxRecDepth 100000 in
theorem ld42 (P : Program) (w : World) (b o : Nat) : (loadCellsFrom ⟨b, o, none⟩ 0 42 #[]).run P w = pick2 (isV (w.cell? ⟨b, o + 0, none⟩) && (isV (w.cell? ⟨b, o + 1, none⟩) && (isV (w.cell? ⟨b, o + 2, none⟩) && (isV (w.cell? ⟨b, o + 3, none⟩) && (isV (w.cell? ⟨b, o + 4, none⟩) && (isV (w.cell? ⟨b, o + 5, none⟩) && (isV (w.cell? ⟨b, o + 6, none⟩) && (isV (w.cell? ⟨b, o + 7, none⟩) && (isV (w.cell? ⟨b, o + 8, none⟩) && (isV (w.cell? ⟨b, o + 9, none⟩) && (isV (w.cell? ⟨b, o + 10, none⟩) && (isV (w.cell? ⟨b, o + 11, none⟩) && (isV (w.cell? ⟨b, o + 12, none⟩) && (isV (w.cell? ⟨b, o + 13, none⟩) && (isV (w.cell? ⟨b, o + 14, none⟩) && (isV (w.cell? ⟨b, o + 15, none⟩) && (isV (w.cell? ⟨b, o + 16, none⟩) && (isV (w.cell? ⟨b, o + 17, none⟩) && (isV (w.cell? ⟨b, o + 18, none⟩) && (isV (w.cell? ⟨b, o + 19, none⟩) && (isV (w.cell? ⟨b, o + 20, none⟩) && (isV (w.cell? ⟨b, o + 21, none⟩) && (isV (w.cell? ⟨b, o + 22, none⟩) && (isV (w.cell? ⟨b, o + 23, none⟩) && (isV (w.cell? ⟨b, o + 24, none⟩) && (isV (w.cell? ⟨b, o + 25, none⟩) && (isV (w.cell? ⟨b, o + 26, none⟩) && (isV (w.cell? ⟨b, o + 27, none⟩) && (isV (w.cell? ⟨b, o + 28, none⟩) && (isV (w.cell? ⟨b, o + 29, none⟩) && (isV (w.cell? ⟨b, o + 30, none⟩) && (isV (w.cell? ⟨b, o + 31, none⟩) && (isV (w.cell? ⟨b, o + 32, none⟩) && (isV (w.cell? ⟨b, o + 33, none⟩) && (isV (w.cell? ⟨b, o + 34, none⟩) && (isV (w.cell? ⟨b, o + 35, none⟩) && (isV (w.cell? ⟨b, o + 36, none⟩) && (isV (w.cell? ⟨b, o + 37, none⟩) && (isV (w.cell? ⟨b, o + 38, none⟩) && (isV (w.cell? ⟨b, o + 39, none⟩) && (isV (w.cell? ⟨b, o + 40, none⟩) && (isV (w.cell? ⟨b, o + 41, none⟩) && true)))))))))))))))))))))))))))))))))))))))))) (.ok #[gv (w.cell? ⟨b, o + 0, none⟩), gv (w.cell? ⟨b, o + 1, none⟩), gv (w.cell? ⟨b, o + 2, none⟩), gv (w.cell? ⟨b, o + 3, none⟩), gv (w.cell? ⟨b, o + 4, none⟩), gv (w.cell? ⟨b, o + 5, none⟩), gv (w.cell? ⟨b, o + 6, none⟩), gv (w.cell? ⟨b, o + 7, none⟩), gv (w.cell? ⟨b, o + 8, none⟩), gv (w.cell? ⟨b, o + 9, none⟩), gv (w.cell? ⟨b, o + 10, none⟩), gv (w.cell? ⟨b, o + 11, none⟩), gv (w.cell? ⟨b, o + 12, none⟩), gv (w.cell? ⟨b, o + 13, none⟩), gv (w.cell? ⟨b, o + 14, none⟩), gv (w.cell? ⟨b, o + 15, none⟩), gv (w.cell? ⟨b, o + 16, none⟩), gv (w.cell? ⟨b, o + 17, none⟩), gv (w.cell? ⟨b, o + 18, none⟩), gv (w.cell? ⟨b, o + 19, none⟩), gv (w.cell? ⟨b, o + 20, none⟩), gv (w.cell? ⟨b, o + 21, none⟩), gv (w.cell? ⟨b, o + 22, none⟩), gv (w.cell? ⟨b, o + 23, none⟩), gv (w.cell? ⟨b, o + 24, none⟩), gv (w.cell? ⟨b, o + 25, none⟩), gv (w.cell? ⟨b, o + 26, none⟩), gv (w.cell? ⟨b, o + 27, none⟩), gv (w.cell? ⟨b, o + 28, none⟩), gv (w.cell? ⟨b, o + 29, none⟩), gv (w.cell? ⟨b, o + 30, none⟩), gv (w.cell? ⟨b, o + 31, none⟩), gv (w.cell? ⟨b, o + 32, none⟩), gv (w.cell? ⟨b, o + 33, none⟩), gv (w.cell? ⟨b, o + 34, none⟩), gv (w.cell? ⟨b, o + 35, none⟩), gv (w.cell? ⟨b, o + 36, none⟩), gv (w.cell? ⟨b, o + 37, none⟩), gv (w.cell? ⟨b, o + 38, none⟩), gv (w.cell? ⟨b, o + 39, none⟩), gv (w.cell? ⟨b, o + 40, none⟩), gv (w.cell? ⟨b, o + 41, none⟩)] w) (slowLd P ⟨b, o, none⟩ 42 w) :=
  ld_list P w b o 42 ((List.range 42).map fun j => w.cell? ⟨b, o + j, none⟩) rfl (fun j hj => by rw [List.getElem?_map, List.getElem?_range hj]; rfl)

/-! stores -/
def nfz (b : Bool) : Bool := !b
theorem nfz_false : nfz false = true := rfl
def oc1 (v : Value) : Bool := v.oneCell'
theorem oc1_int (k : IntKind) (n : Int) : oc1 (.int k n) = true := rfl
theorem oc1_bool (b : Bool) : oc1 (.bool b) = true := rfl
theorem oc1_string (s : ByteArray) : oc1 (.string s) = true := rfl
theorem oc1_slice (A : Option Addr) (n c : Nat) : oc1 (.slice A n c) = true := rfl
theorem oc1_pointer (A : Option Addr) : oc1 (.pointer A) = true := rfl
theorem oc1_func (f : Fn) (a b : Array Value) : oc1 (.func f a b) = true := rfl
noncomputable def slowSt (P : Program) (a : Addr) (vs : List Value) (w : World) : Result Unit := (storeCells a vs 0).run P w
def pick1 (b : Bool) (x y : Result Unit) : Result Unit := cond b x y
theorem pick1_true (x y : Result Unit) : pick1 true x y = x := rfl
theorem st_list (P : Program) (w : World) (b o : Nat) (vs : List Value) (cs : List Bool) (hn : cs.length = vs.length)
    (hv : ∀ j (h : j < vs.length), cs[j]? = some true → (w.cell? ⟨b, o + j, none⟩).isSome = true ∧ w.frozen? ⟨b, o + j, none⟩ = false ∧ vs[j].oneCell' = true) :
    (storeCells ⟨b, o, none⟩ vs 0).run P w = pick1 (cs.all id) (.ok () (w.setCells b o vs)) (slowSt P ⟨b, o, none⟩ vs w) := by
  cases h : cs.all id with
  | false => rfl
  | true =>
    have hk : ∀ j (h : j < vs.length), (w.cell? ⟨b, o + j, none⟩).isSome = true ∧ w.frozen? ⟨b, o + j, none⟩ = false ∧ vs[j].oneCell' = true := fun j hj => by
      refine hv j hj ?_
      have hj' : j < cs.length := by omega
      rw [List.getElem?_eq_getElem hj']
      have := List.all_eq_true.1 h cs[j] (List.getElem_mem _)
      simpa using this
    have h1 := run_storeCells_cells (P := P) b o vs 0 w (fun j hj => (hk j hj).1) (fun j hj => (hk j hj).2.1) (fun v hv => by
      obtain ⟨j, hj, rfl⟩ := List.mem_iff_getElem.1 hv
      exact (hk j hj).2.2)
    rw [Nat.add_zero] at h1
    exact h1
theorem and3 {a b c : Bool} (h : (a && (b && c)) = true) : a = true ∧ b = true ∧ c = true := by cases a <;> cases b <;> cases c <;> simp_all
/-- one cell's part of the condition -/
def stc (w : World) (b o : Nat) (v : Value) : Bool := isV (w.cell? ⟨b, o, none⟩) && (nfz (w.frozen? ⟨b, o, none⟩) && oc1 v)
theorem stc_spec {w : World} {b o : Nat} {v : Value} (h : stc w b o v = true) : (w.cell? ⟨b, o, none⟩).isSome = true ∧ w.frozen? ⟨b, o, none⟩ = false ∧ v.oneCell' = true := by
  obtain ⟨h1, h2, h3⟩ := and3 h
  exact ⟨h1, by cases hf : w.frozen? ⟨b, o, none⟩ <;> simp_all [nfz], h3⟩
def stcs (w : World) (b : Nat) : Nat → List Value → List Bool
  | _, [] => []
  | o, v :: r => stc w b o v :: stcs w b (o + 1) r
theorem stcs_length (w : World) (b : Nat) : ∀ (vs : List Value) (o : Nat), (stcs w b o vs).length = vs.length
  | [], _ => rfl
  | v :: r, o => by simp [stcs, stcs_length w b r]
theorem stcs_get (w : World) (b : Nat) : ∀ (vs : List Value) (o j : Nat) (h : j < vs.length), (stcs w b o vs)[j]? = some (stc w b (o + j) vs[j])
  | v :: r, o, 0, h => rfl
  | v :: r, o, j + 1, h => by
    have := stcs_get w b r (o + 1) j (by simpa using h)
    simp only [stcs, List.getElem?_cons_succ, this, List.getElem_cons_succ]
    rw [show o + 1 + j = o + (j + 1) by omega]
theorem st_all (P : Program) (w : World) (b o : Nat) (vs : List Value) : (storeCells ⟨b, o, none⟩ vs 0).run P w = pick1 ((stcs w b o vs).all id) (.ok () (w.setCells b o vs)) (slowSt P ⟨b, o, none⟩ vs w) :=
  st_list P w b o vs (stcs w b o vs) (stcs_length w b vs o) (fun j h hj => by
    rw [stcs_get w b vs o j h] at hj
    exact stc_spec (Option.some.inj hj))
theorem setCells_new {w : World} {c : Array Value} {t n : Nat} {vs : List Value} (hn : n = w.heap.size) (hc : c.size = vs.length) : (w.alloc (.cells c t)).setCells n 0 vs = w.alloc (.cells vs.toArray t) := by
  subst hn
  have key : ∀ (vs : List Value) (o : Nat) (c : Array Value), o + vs.length = c.size → (w.alloc (.cells c t)).setCells w.heap.size o vs = w.alloc (.cells ((c.toList.take o) ++ vs).toArray t) := by
    intro vs
    induction vs with
    | nil =>
      intro o c h
      have e : (List.take o c.toList ++ []).toArray = c := by
        rw [List.append_nil, List.take_of_length_le (by simp at h ⊢; omega)]
      rw [e]
      rfl
    | cons v r ih =>
      intro o c h
      simp only [List.length_cons] at h
      simp only [World.setCells]
      rw [World.setCell_alloc_at c t w.heap.size o v rfl, ih (o + 1) _ (by rw [Array.size_setIfInBounds]; omega)]
      have : o < c.size := by omega
      rw [Array.toList_setIfInBounds, List.take_add_one, List.take_set_of_le (by omega)]
      simp [List.getElem?_set, this]
  have h := key vs 0 c (by omega)
  simpa using h
theorem setCells_past {w : World} {ob : Obj} {n i : Nat} {vs : List Value} (hn : n < w.heap.size) : (w.alloc ob).setCells n i vs = (w.setCells n i vs).alloc ob := by
  induction vs generalizing i w with
  | nil => rfl
  | cons v r ih =>
    simp only [World.setCells]
    rw [World.setCell_alloc_past ob n i v hn]
    exact ih (w := w.setCell ⟨n, i, none⟩ v) (by simpa using hn)
theorem setCells_drew {w : World} {n i : Nat} {vs : List Value} : w.drew.setCells n i vs = (w.setCells n i vs).drew := by
  induction vs generalizing i w with
  | nil => rfl
  | cons v r ih =>
    simp only [World.setCells]
    rw [← ih]
    rfl
theorem heap_setCells_other {w : World} {n i k : Nat} {vs : List Value} (hk : k ≠ n) : (w.setCells n i vs).heap[k]? = w.heap[k]? := by
  induction vs generalizing i w with
  | nil => rfl
  | cons v r ih => simp only [World.setCells]; rw [ih, Below.heap_setCell _ _ _ k hk]
theorem size_setCells {w : World} {n i : Nat} {vs : List Value} : (w.setCells n i vs).heap.size = w.heap.size := by
  induction vs generalizing i w with
  | nil => rfl
  | cons v r ih => simp only [World.setCells]; rw [ih]; simp
theorem below_setCells {w w1 : World} {B n i : Nat} {vs : List Value} (h : Below B w w1) (hB : B ≤ n) : Below B w (w1.setCells n i vs) := by
  induction vs generalizing i w1 with
  | nil => exact h
  | cons v r ih => exact ih (h.setCell (p := ⟨n, i, none⟩) hB _)
theorem blk_setCells {w : World} {b t : Nat} {cs : Array Value} {vs : List Value} (hb : w.heap[b]? = some (.cells cs t (0, 0))) (hc : cs.size = vs.length) : (w.setCells b 0 vs).heap[b]? = some (.cells vs.toArray t (0, 0)) := by
  have key : ∀ (vs : List Value) (o : Nat) (w : World) (c : Array Value), w.heap[b]? = some (.cells c t (0, 0)) → o + vs.length = c.size → (w.setCells b o vs).heap[b]? = some (.cells ((c.toList.take o) ++ vs).toArray t (0, 0)) := by
    intro vs
    induction vs with
    | nil =>
      intro o w c h hs
      have e : (List.take o c.toList ++ []).toArray = c := by
        rw [List.append_nil, List.take_of_length_le (by simp at hs ⊢; omega)]
      rw [e]
      exact h
    | cons v r ih =>
      intro o w c h hs
      simp only [List.length_cons] at hs
      simp only [World.setCells]
      rw [ih (o + 1) _ _ (blk_set h o v) (by rw [Array.size_setIfInBounds]; omega)]
      have : o < c.size := by omega
      rw [Array.toList_setIfInBounds, List.take_add_one, List.take_set_of_le (by omega)]
      simp [List.getElem?_set, this]
  have h := key vs 0 w cs hb (by omega)
  simpa using h
set_option maxRecDepth 100000 in
theorem st4 (P : Program) (w : World) (b o : Nat) (v0 v1 v2 v3 : Value) : (storeCells ⟨b, o, none⟩ [v0, v1, v2, v3] 0).run P w = pick1 (stc w b (o + 0) v0 && (stc w b (o + 1) v1 && (stc w b (o + 2) v2 && (stc w b (o + 3) v3 && true)))) (.ok () (w.setCells b o [v0, v1, v2, v3])) (slowSt P ⟨b, o, none⟩ [v0, v1, v2, v3] w) :=
  st_all P w b o [v0, v1, v2, v3]
set_option maxRecDepth 100000 in
theorem st5 (P : Program) (w : World) (b o : Nat) (v0 v1 v2 v3 v4 : Value) : (storeCells ⟨b, o, none⟩ [v0, v1, v2, v3, v4] 0).run P w = pick1 (stc w b (o + 0) v0 && (stc w b (o + 1) v1 && (stc w b (o + 2) v2 && (stc w b (o + 3) v3 && (stc w b (o + 4) v4 && true))))) (.ok () (w.setCells b o [v0, v1, v2, v3, v4])) (slowSt P ⟨b, o, none⟩ [v0, v1, v2, v3, v4] w) :=
  st_all P w b o [v0, v1, v2, v3, v4]
set_option maxRecDepth 100000 in
theorem st11 (P : Program) (w : World) (b o : Nat) (v0 v1 v2 v3 v4 v5 v6 v7 v8 v9 v10 : Value) : (storeCells ⟨b, o, none⟩ [v0, v1, v2, v3, v4, v5, v6, v7, v8, v9, v10] 0).run P w = pick1 (stc w b (o + 0) v0 && (stc w b (o + 1) v1 && (stc w b (o + 2) v2 && (stc w b (o + 3) v3 && (stc w b (o + 4) v4 && (stc w b (o + 5) v5 && (stc w b (o + 6) v6 && (stc w b (o + 7) v7 && (stc w b (o + 8) v8 && (stc w b (o + 9) v9 && (stc w b (o + 10) v10 && true))))))))))) (.ok () (w.setCells b o [v0, v1, v2, v3, v4, v5, v6, v7, v8, v9, v10])) (slowSt P ⟨b, o, none⟩ [v0, v1, v2, v3, v4, v5, v6, v7, v8, v9, v10] w) :=
  st_all P w b o [v0, v1, v2, v3, v4, v5, v6, v7, v8, v9, v10]
set_option maxRecDepth 100000 in
theorem st12 (P : Program) (w : World) (b o : Nat) (v0 v1 v2 v3 v4 v5 v6 v7 v8 v9 v10 v11 : Value) : (storeCells ⟨b, o, none⟩ [v0, v1, v2, v3, v4, v5, v6, v7, v8, v9, v10, v11] 0).run P w = pick1 (stc w b (o + 0) v0 && (stc w b (o + 1) v1 && (stc w b (o + 2) v2 && (stc w b (o + 3) v3 && (stc w b (o + 4) v4 && (stc w b (o + 5) v5 && (stc w b (o + 6) v6 && (stc w b (o + 7) v7 && (stc w b (o + 8) v8 && (stc w b (o + 9) v9 && (stc w b (o + 10) v10 && (stc w b (o + 11) v11 && true)))))))))))) (.ok () (w.setCells b o [v0, v1, v2, v3, v4, v5, v6, v7, v8, v9, v10, v11])) (slowSt P ⟨b, o, none⟩ [v0, v1, v2, v3, v4, v5, v6, v7, v8, v9, v10, v11] w) :=
  st_all P w b o [v0, v1, v2, v3, v4, v5, v6, v7, v8, v9, v10, v11]
set_option maxRecDepth 100000 in
theorem st16 (P : Program) (w : World) (b o : Nat) (v0 v1 v2 v3 v4 v5 v6 v7 v8 v9 v10 v11 v12 v13 v14 v15 : Value) : (storeCells ⟨b, o, none⟩ [v0, v1, v2, v3, v4, v5, v6, v7, v8, v9, v10, v11, v12, v13, v14, v15] 0).run P w = pick1 (stc w b (o + 0) v0 && (stc w b (o + 1) v1 && (stc w b (o + 2) v2 && (stc w b (o + 3) v3 && (stc w b (o + 4) v4 && (stc w b (o + 5) v5 && (stc w b (o + 6) v6 && (stc w b (o + 7) v7 && (stc w b (o + 8) v8 && (stc w b (o + 9) v9 && (stc w b (o + 10) v10 && (stc w b (o + 11) v11 && (stc w b (o + 12) v12 && (stc w b (o + 13) v13 && (stc w b (o + 14) v14 && (stc w b (o + 15) v15 && true)))))))))))))))) (.ok () (w.setCells b o [v0, v1, v2, v3, v4, v5, v6, v7, v8, v9, v10, v11, v12, v13, v14, v15])) (slowSt P ⟨b, o, none⟩ [v0, v1, v2, v3, v4, v5, v6, v7, v8, v9, v10, v11, v12, v13, v14, v15] w) :=
  st_all P w b o [v0, v1, v2, v3, v4, v5, v6, v7, v8, v9, v10, v11, v12, v13, v14, v15]
set_option maxRecDepth 100000 in
theorem st17 (P : Program) (w : World) (b o : Nat) (v0 v1 v2 v3 v4 v5 v6 v7 v8 v9 v10 v11 v12 v13 v14 v15 v16 : Value) : (storeCells ⟨b, o, none⟩ [v0, v1, v2, v3, v4, v5, v6, v7, v8, v9, v10, v11, v12, v13, v14, v15, v16] 0).run P w = pick1 (stc w b (o + 0) v0 && (stc w b (o + 1) v1 && (stc w b (o + 2) v2 && (stc w b (o + 3) v3 && (stc w b (o + 4) v4 && (stc w b (o + 5) v5 && (stc w b (o + 6) v6 && (stc w b (o + 7) v7 && (stc w b (o + 8) v8 && (stc w b (o + 9) v9 && (stc w b (o + 10) v10 && (stc w b (o + 11) v11 && (stc w b (o + 12) v12 && (stc w b (o + 13) v13 && (stc w b (o + 14) v14 && (stc w b (o + 15) v15 && (stc w b (o + 16) v16 && true))))))))))))))))) (.ok () (w.setCells b o [v0, v1, v2, v3, v4, v5, v6, v7, v8, v9, v10, v11, v12, v13, v14, v15, v16])) (slowSt P ⟨b, o, none⟩ [v0, v1, v2, v3, v4, v5, v6, v7, v8, v9, v10, v11, v12, v13, v14, v15, v16] w) :=
  st_all P w b o [v0, v1, v2, v3, v4, v5, v6, v7, v8, v9, v10, v11, v12, v13, v14, v15, v16]
set_option maxRecDepth 100000 in
theorem st18 (P : Program) (w : World) (b o : Nat) (v0 v1 v2 v3 v4 v5 v6 v7 v8 v9 v10 v11 v12 v13 v14 v15 v16 v17 : Value) : (storeCells ⟨b, o, none⟩ [v0, v1, v2, v3, v4, v5, v6, v7, v8, v9, v10, v11, v12, v13, v14, v15, v16, v17] 0).run P w = pick1 (stc w b (o + 0) v0 && (stc w b (o + 1) v1 && (stc w b (o + 2) v2 && (stc w b (o + 3) v3 && (stc w b (o + 4) v4 && (stc w b (o + 5) v5 && (stc w b (o + 6) v6 && (stc w b (o + 7) v7 && (stc w b (o + 8) v8 && (stc w b (o + 9) v9 && (stc w b (o + 10) v10 && (stc w b (o + 11) v11 && (stc w b (o + 12) v12 && (stc w b (o + 13) v13 && (stc w b (o + 14) v14 && (stc w b (o + 15) v15 && (stc w b (o + 16) v16 && (stc w b (o + 17) v17 && true)))))))))))))))))) (.ok () (w.setCells b o [v0, v1, v2, v3, v4, v5, v6, v7, v8, v9, v10, v11, v12, v13, v14, v15, v16, v17])) (slowSt P ⟨b, o, none⟩ [v0, v1, v2, v3, v4, v5, v6, v7, v8, v9, v10, v11, v12, v13, v14, v15, v16, v17] w) :=
  st_all P w b o [v0, v1, v2, v3, v4, v5, v6, v7, v8, v9, v10, v11, v12, v13, v14, v15, v16, v17]
set_option maxRecDepth 100000 in
theorem st36 (P : Program) (w : World) (b o : Nat) (v0 v1 v2 v3 v4 v5 v6 v7 v8 v9 v10 v11 v12 v13 v14 v15 v16 v17 v18 v19 v20 v21 v22 v23 v24 v25 v26 v27 v28 v29 v30 v31 v32 v33 v34 v35 : Value) : (storeCells ⟨b, o, none⟩ [v0, v1, v2, v3, v4, v5, v6, v7, v8, v9, v10, v11, v12, v13, v14, v15, v16, v17, v18, v19, v20, v21, v22, v23, v24, v25, v26, v27, v28, v29, v30, v31, v32, v33, v34, v35] 0).run P w = pick1 (stc w b (o + 0) v0 && (stc w b (o + 1) v1 && (stc w b (o + 2) v2 && (stc w b (o + 3) v3 && (stc w b (o + 4) v4 && (stc w b (o + 5) v5 && (stc w b (o + 6) v6 && (stc w b (o + 7) v7 && (stc w b (o + 8) v8 && (stc w b (o + 9) v9 && (stc w b (o + 10) v10 && (stc w b (o + 11) v11 && (stc w b (o + 12) v12 && (stc w b (o + 13) v13 && (stc w b (o + 14) v14 && (stc w b (o + 15) v15 && (stc w b (o + 16) v16 && (stc w b (o + 17) v17 && (stc w b (o + 18) v18 && (stc w b (o + 19) v19 && (stc w b (o + 20) v20 && (stc w b (o + 21) v21 && (stc w b (o + 22) v22 && (stc w b (o + 23) v23 && (stc w b (o + 24) v24 && (stc w b (o + 25) v25 && (stc w b (o + 26) v26 && (stc w b (o + 27) v27 && (stc w b (o + 28) v28 && (stc w b (o + 29) v29 && (stc w b (o + 30) v30 && (stc w b (o + 31) v31 && (stc w b (o + 32) v32 && (stc w b (o + 33) v33 && (stc w b (o + 34) v34 && (stc w b (o + 35) v35 && true)))))))))))))))))))))))))))))))))))) (.ok () (w.setCells b o [v0, v1, v2, v3, v4, v5, v6, v7, v8, v9, v10, v11, v12, v13, v14, v15, v16, v17, v18, v19, v20, v21, v22, v23, v24, v25, v26, v27, v28, v29, v30, v31, v32, v33, v34, v35])) (slowSt P ⟨b, o, none⟩ [v0, v1, v2, v3, v4, v5, v6, v7, v8, v9, v10, v11, v12, v13, v14, v15, v16, v17, v18, v19, v20, v21, v22, v23, v24, v25, v26, v27, v28, v29, v30, v31, v32, v33, v34, v35] w) :=
  st_all P w b o [v0, v1, v2, v3, v4, v5, v6, v7, v8, v9, v10, v11, v12, v13, v14, v15, v16, v17, v18, v19, v20, v21, v22, v23, v24, v25, v26, v27, v28, v29, v30, v31, v32, v33, v34, v35]
set_option maxRecDepth 100000 in
theorem st37 (P : Program) (w : World) (b o : Nat) (v0 v1 v2 v3 v4 v5 v6 v7 v8 v9 v10 v11 v12 v13 v14 v15 v16 v17 v18 v19 v20 v21 v22 v23 v24 v25 v26 v27 v28 v29 v30 v31 v32 v33 v34 v35 v36 : Value) : (storeCells ⟨b, o, none⟩ [v0, v1, v2, v3, v4, v5, v6, v7, v8, v9, v10, v11, v12, v13, v14, v15, v16, v17, v18, v19, v20, v21, v22, v23, v24, v25, v26, v27, v28, v29, v30, v31, v32, v33, v34, v35, v36] 0).run P w = pick1 (stc w b (o + 0) v0 && (stc w b (o + 1) v1 && (stc w b (o + 2) v2 && (stc w b (o + 3) v3 && (stc w b (o + 4) v4 && (stc w b (o + 5) v5 && (stc w b (o + 6) v6 && (stc w b (o + 7) v7 && (stc w b (o + 8) v8 && (stc w b (o + 9) v9 && (stc w b (o + 10) v10 && (stc w b (o + 11) v11 && (stc w b (o + 12) v12 && (stc w b (o + 13) v13 && (stc w b (o + 14) v14 && (stc w b (o + 15) v15 && (stc w b (o + 16) v16 && (stc w b (o + 17) v17 && (stc w b (o + 18) v18 && (stc w b (o + 19) v19 && (stc w b (o + 20) v20 && (stc w b (o + 21) v21 && (stc w b (o + 22) v22 && (stc w b (o + 23) v23 && (stc w b (o + 24) v24 && (stc w b (o + 25) v25 && (stc w b (o + 26) v26 && (stc w b (o + 27) v27 && (stc w b (o + 28) v28 && (stc w b (o + 29) v29 && (stc w b (o + 30) v30 && (stc w b (o + 31) v31 && (stc w b (o + 32) v32 && (stc w b (o + 33) v33 && (stc w b (o + 34) v34 && (stc w b (o + 35) v35 && (stc w b (o + 36) v36 && true))))))))))))))))))))))))))))))))))))) (.ok () (w.setCells b o [v0, v1, v2, v3, v4, v5, v6, v7, v8, v9, v10, v11, v12, v13, v14, v15, v16, v17, v18, v19, v20, v21, v22, v23, v24, v25, v26, v27, v28, v29, v30, v31, v32, v33, v34, v35, v36])) (slowSt P ⟨b, o, none⟩ [v0, v1, v2, v3, v4, v5, v6, v7, v8, v9, v10, v11, v12, v13, v14, v15, v16, v17, v18, v19, v20, v21, v22, v23, v24, v25, v26, v27, v28, v29, v30, v31, v32, v33, v34, v35, v36] w) :=
  st_all P w b o [v0, v1, v2, v3, v4, v5, v6, v7, v8, v9, v10, v11, v12, v13, v14, v15, v16, v17, v18, v19, v20, v21, v22, v23, v24, v25, v26, v27, v28, v29, v30, v31, v32, v33, v34, v35, v36]
set_option maxRecDepth 100000 in
theorem st39 (P : Program) (w : World) (b o : Nat) (v0 v1 v2 v3 v4 v5 v6 v7 v8 v9 v10 v11 v12 v13 v14 v15 v16 v17 v18 v19 v20 v21 v22 v23 v24 v25 v26 v27 v28 v29 v30 v31 v32 v33 v34 v35 v36 v37 v38 : Value) : (storeCells ⟨b, o, none⟩ [v0, v1, v2, v3, v4, v5, v6, v7, v8, v9, v10, v11, v12, v13, v14, v15, v16, v17, v18, v19, v20, v21, v22, v23, v24, v25, v26, v27, v28, v29, v30, v31, v32, v33, v34, v35, v36, v37, v38] 0).run P w = pick1 (stc w b (o + 0) v0 && (stc w b (o + 1) v1 && (stc w b (o + 2) v2 && (stc w b (o + 3) v3 && (stc w b (o + 4) v4 && (stc w b (o + 5) v5 && (stc w b (o + 6) v6 && (stc w b (o + 7) v7 && (stc w b (o + 8) v8 && (stc w b (o + 9) v9 && (stc w b (o + 10) v10 && (stc w b (o + 11) v11 && (stc w b (o + 12) v12 && (stc w b (o + 13) v13 && (stc w b (o + 14) v14 && (stc w b (o + 15) v15 && (stc w b (o + 16) v16 && (stc w b (o + 17) v17 && (stc w b (o + 18) v18 && (stc w b (o + 19) v19 && (stc w b (o + 20) v20 && (stc w b (o + 21) v21 && (stc w b (o + 22) v22 && (stc w b (o + 23) v23 && (stc w b (o + 24) v24 && (stc w b (o + 25) v25 && (stc w b (o + 26) v26 && (stc w b (o + 27) v27 && (stc w b (o + 28) v28 && (stc w b (o + 29) v29 && (stc w b (o + 30) v30 && (stc w b (o + 31) v31 && (stc w b (o + 32) v32 && (stc w b (o + 33) v33 && (stc w b (o + 34) v34 && (stc w b (o + 35) v35 && (stc w b (o + 36) v36 && (stc w b (o + 37) v37 && (stc w b (o + 38) v38 && true))))))))))))))))))))))))))))))))))))))) (.ok () (w.setCells b o [v0, v1, v2, v3, v4, v5, v6, v7, v8, v9, v10, v11, v12, v13, v14, v15, v16, v17, v18, v19, v20, v21, v22, v23, v24, v25, v26, v27, v28, v29, v30, v31, v32, v33, v34, v35, v36, v37, v38])) (slowSt P ⟨b, o, none⟩ [v0, v1, v2, v3, v4, v5, v6, v7, v8, v9, v10, v11, v12, v13, v14, v15, v16, v17, v18, v19, v20, v21, v22, v23, v24, v25, v26, v27, v28, v29, v30, v31, v32, v33, v34, v35, v36, v37, v38] w) :=
  st_all P w b o [v0, v1, v2, v3, v4, v5, v6, v7, v8, v9, v10, v11, v12, v13, v14, v15, v16, v17, v18, v19, v20, v21, v22, v23, v24, v25, v26, v27, v28, v29, v30, v31, v32, v33, v34, v35, v36, v37, v38]
set_option maxRecDepth 100000 in
theorem st40 (P : Program) (w : World) (b o : Nat) (v0 v1 v2 v3 v4 v5 v6 v7 v8 v9 v10 v11 v12 v13 v14 v15 v16 v17 v18 v19 v20 v21 v22 v23 v24 v25 v26 v27 v28 v29 v30 v31 v32 v33 v34 v35 v36 v37 v38 v39 : Value) : (storeCells ⟨b, o, none⟩ [v0, v1, v2, v3, v4, v5, v6, v7, v8, v9, v10, v11, v12, v13, v14, v15, v16, v17, v18, v19, v20, v21, v22, v23, v24, v25, v26, v27, v28, v29, v30, v31, v32, v33, v34, v35, v36, v37, v38, v39] 0).run P w = pick1 (stc w b (o + 0) v0 && (stc w b (o + 1) v1 && (stc w b (o + 2) v2 && (stc w b (o + 3) v3 && (stc w b (o + 4) v4 && (stc w b (o + 5) v5 && (stc w b (o + 6) v6 && (stc w b (o + 7) v7 && (stc w b (o + 8) v8 && (stc w b (o + 9) v9 && (stc w b (o + 10) v10 && (stc w b (o + 11) v11 && (stc w b (o + 12) v12 && (stc w b (o + 13) v13 && (stc w b (o + 14) v14 && (stc w b (o + 15) v15 && (stc w b (o + 16) v16 && (stc w b (o + 17) v17 && (stc w b (o + 18) v18 && (stc w b (o + 19) v19 && (stc w b (o + 20) v20 && (stc w b (o + 21) v21 && (stc w b (o + 22) v22 && (stc w b (o + 23) v23 && (stc w b (o + 24) v24 && (stc w b (o + 25) v25 && (stc w b (o + 26) v26 && (stc w b (o + 27) v27 && (stc w b (o + 28) v28 && (stc w b (o + 29) v29 && (stc w b (o + 30) v30 && (stc w b (o + 31) v31 && (stc w b (o + 32) v32 && (stc w b (o + 33) v33 && (stc w b (o + 34) v34 && (stc w b (o + 35) v35 && (stc w b (o + 36) v36 && (stc w b (o + 37) v37 && (stc w b (o + 38) v38 && (stc w b (o + 39) v39 && true)))))))))))))))))))))))))))))))))))))))) (.ok () (w.setCells b o [v0, v1, v2, v3, v4, v5, v6, v7, v8, v9, v10, v11, v12, v13, v14, v15, v16, v17, v18, v19, v20, v21, v22, v23, v24, v25, v26, v27, v28, v29, v30, v31, v32, v33, v34, v35, v36, v37, v38, v39])) (slowSt P ⟨b, o, none⟩ [v0, v1, v2, v3, v4, v5, v6, v7, v8, v9, v10, v11, v12, v13, v14, v15, v16, v17, v18, v19, v20, v21, v22, v23, v24, v25, v26, v27, v28, v29, v30, v31, v32, v33, v34, v35, v36, v37, v38, v39] w) :=
  st_all P w b o [v0, v1, v2, v3, v4, v5, v6, v7, v8, v9, v10, v11, v12, v13, v14, v15, v16, v17, v18, v19, v20, v21, v22, v23, v24, v25, v26, v27, v28, v29, v30, v31, v32, v33, v34, v35, v36, v37, v38, v39]
set_option maxRecDepth 100000 in
theorem st42 (P : Program) (w : World) (b o : Nat) (v0 v1 v2 v3 v4 v5 v6 v7 v8 v9 v10 v11 v12 v13 v14 v15 v16 v17 v18 v19 v20 v21 v22 v23 v24 v25 v26 v27 v28 v29 v30 v31 v32 v33 v34 v35 v36 v37 v38 v39 v40 v41 : Value) : (storeCells ⟨b, o, none⟩ [v0, v1, v2, v3, v4, v5, v6, v7, v8, v9, v10, v11, v12, v13, v14, v15, v16, v17, v18, v19, v20, v21, v22, v23, v24, v25, v26, v27, v28, v29, v30, v31, v32, v33, v34, v35, v36, v37, v38, v39, v40, v41] 0).run P w = pick1 (stc w b (o + 0) v0 && (stc w b (o + 1) v1 && (stc w b (o + 2) v2 && (stc w b (o + 3) v3 && (stc w b (o + 4) v4 && (stc w b (o + 5) v5 && (stc w b (o + 6) v6 && (stc w b (o + 7) v7 && (stc w b (o + 8) v8 && (stc w b (o + 9) v9 && (stc w b (o + 10) v10 && (stc w b (o + 11) v11 && (stc w b (o + 12) v12 && (stc w b (o + 13) v13 && (stc w b (o + 14) v14 && (stc w b (o + 15) v15 && (stc w b (o + 16) v16 && (stc w b (o + 17) v17 && (stc w b (o + 18) v18 && (stc w b (o + 19) v19 && (stc w b (o + 20) v20 && (stc w b (o + 21) v21 && (stc w b (o + 22) v22 && (stc w b (o + 23) v23 && (stc w b (o + 24) v24 && (stc w b (o + 25) v25 && (stc w b (o + 26) v26 && (stc w b (o + 27) v27 && (stc w b (o + 28) v28 && (stc w b (o + 29) v29 && (stc w b (o + 30) v30 && (stc w b (o + 31) v31 && (stc w b (o + 32) v32 && (stc w b (o + 33) v33 && (stc w b (o + 34) v34 && (stc w b (o + 35) v35 && (stc w b (o + 36) v36 && (stc w b (o + 37) v37 && (stc w b (o + 38) v38 && (stc w b (o + 39) v39 && (stc w b (o + 40) v40 && (stc w b (o + 41) v41 && true)))))))))))))))))))))))))))))))))))))))))) (.ok () (w.setCells b o [v0, v1, v2, v3, v4, v5, v6, v7, v8, v9, v10, v11, v12, v13, v14, v15, v16, v17, v18, v19, v20, v21, v22, v23, v24, v25, v26, v27, v28, v29, v30, v31, v32, v33, v34, v35, v36, v37, v38, v39, v40, v41])) (slowSt P ⟨b, o, none⟩ [v0, v1, v2, v3, v4, v5, v6, v7, v8, v9, v10, v11, v12, v13, v14, v15, v16, v17, v18, v19, v20, v21, v22, v23, v24, v25, v26, v27, v28, v29, v30, v31, v32, v33, v34, v35, v36, v37, v38, v39, v40, v41] w) :=
  st_all P w b o [v0, v1, v2, v3, v4, v5, v6, v7, v8, v9, v10, v11, v12, v13, v14, v15, v16, v17, v18, v19, v20, v21, v22, v23, v24, v25, v26, v27, v28, v29, v30, v31, v32, v33, v34, v35, v36, v37, v38, v39, v40, v41]
end Go.Proofs.Ytknpaihlnkcpgaa.Own
/- Stores of values of many cells: one rule a type, cheap for the kernel. (written by wip/gen_big.py) -/
set_option linter.unusedVariables false
set_option linter.unusedSimpArgs false
namespace Go.Proofs.Ytknpaihlnkcpgaa.Own
open Go.RowKit Go.Proofs.YtknpaihlnkcpgaaW.PrintWords Go.Proofs.YtknpaihlnkcpgaaW.PrintLast Go.Proofs.YtknpaihlnkcpgaaW.PrintMore

noncomputable def stV (ty : TypeId) (a : Addr) (v : Value) : Sem Unit := storeVar ty a v
noncomputable def slowSV (P : Program) (ty : TypeId) (a : Addr) (v : Value) (w : World) : Result Unit := (storeVar ty a v).run P w
theorem sv_all (P : Program) (w : World) (b o ty : Nat) (cs : Array Value) (hi : (P.info? ty).map (·.size) = some cs.size) :
    (stV ty ⟨b, o, none⟩ (.agg cs)).run P w = pick1 ((stcs w b o cs.toList).all id) (.ok () (w.setCells b o cs.toList)) (slowSV P ty ⟨b, o, none⟩ (.agg cs) w) := by
  cases h : (stcs w b o cs.toList).all id with
  | false => rfl
  | true =>
    have hk : ∀ j (h : j < cs.toList.length), (w.cell? ⟨b, o + j, none⟩).isSome = true ∧ w.frozen? ⟨b, o + j, none⟩ = false ∧ cs.toList[j].oneCell' = true := fun j hj => by
      have hg := stcs_get w b cs.toList o j hj
      have hm := List.mem_of_getElem? hg
      exact stc_spec (by simpa using List.all_eq_true.1 h _ hm)
    exact run_storeVar_mid w b o ty cs (fun j hj => ⟨(hk j (by simpa using hj)).1, (hk j (by simpa using hj)).2.1⟩) hi (Array.all_eq_true_iff_forall_mem.2 fun v hv => by
      obtain ⟨j, hj, rfl⟩ := List.mem_iff_getElem.1 (Array.mem_toList_iff.2 hv)
      exact (hk j hj).2.2)
theorem sv_hd (a : Addr) (v : Value) : storeVar 39 a v = stV 39 a v := rfl
set_option maxRecDepth 100000 in
theorem run_sv_hd (w : World) (b o : Nat) (v0 v1 v2 v3 v4 v5 v6 v7 v8 v9 v10 v11 v12 v13 v14 v15 v16 : Value) : (stV 39 ⟨b, o, none⟩ (.agg #[v0, v1, v2, v3, v4, v5, v6, v7, v8, v9, v10, v11, v12, v13, v14, v15, v16])).run Try.prog w = pick1 (stc w b (o + 0) v0 && (stc w b (o + 1) v1 && (stc w b (o + 2) v2 && (stc w b (o + 3) v3 && (stc w b (o + 4) v4 && (stc w b (o + 5) v5 && (stc w b (o + 6) v6 && (stc w b (o + 7) v7 && (stc w b (o + 8) v8 && (stc w b (o + 9) v9 && (stc w b (o + 10) v10 && (stc w b (o + 11) v11 && (stc w b (o + 12) v12 && (stc w b (o + 13) v13 && (stc w b (o + 14) v14 && (stc w b (o + 15) v15 && (stc w b (o + 16) v16 && true))))))))))))))))) (.ok () (w.setCells b o [v0, v1, v2, v3, v4, v5, v6, v7, v8, v9, v10, v11, v12, v13, v14, v15, v16])) (slowSV Try.prog 39 ⟨b, o, none⟩ (.agg #[v0, v1, v2, v3, v4, v5, v6, v7, v8, v9, v10, v11, v12, v13, v14, v15, v16]) w) :=
  sv_all Try.prog w b o 39 #[v0, v1, v2, v3, v4, v5, v6, v7, v8, v9, v10, v11, v12, v13, v14, v15, v16] (by kernel_rfl)
theorem sv_rh (a : Addr) (v : Value) : storeVar 41 a v = stV 41 a v := rfl
set_option maxRecDepth 100000 in
theorem run_sv_rh (w : World) (b o : Nat) (v0 v1 v2 v3 v4 v5 v6 v7 v8 v9 v10 : Value) : (stV 41 ⟨b, o, none⟩ (.agg #[v0, v1, v2, v3, v4, v5, v6, v7, v8, v9, v10])).run Try.prog w = pick1 (stc w b (o + 0) v0 && (stc w b (o + 1) v1 && (stc w b (o + 2) v2 && (stc w b (o + 3) v3 && (stc w b (o + 4) v4 && (stc w b (o + 5) v5 && (stc w b (o + 6) v6 && (stc w b (o + 7) v7 && (stc w b (o + 8) v8 && (stc w b (o + 9) v9 && (stc w b (o + 10) v10 && true))))))))))) (.ok () (w.setCells b o [v0, v1, v2, v3, v4, v5, v6, v7, v8, v9, v10])) (slowSV Try.prog 41 ⟨b, o, none⟩ (.agg #[v0, v1, v2, v3, v4, v5, v6, v7, v8, v9, v10]) w) :=
  sv_all Try.prog w b o 41 #[v0, v1, v2, v3, v4, v5, v6, v7, v8, v9, v10] (by kernel_rfl)
end Go.Proofs.Ytknpaihlnkcpgaa.Own
/- ip.Header: its 17 cells; length, Right, flag. (written by wip/gen_hd.py) -/
set_option linter.unusedVariables false
set_option linter.unusedSimpArgs false
namespace Go.Proofs.Ytknpaihlnkcpgaa.Own
open Go.RowKit Go.Proofs.YtknpaihlnkcpgaaW.PrintWords Go.Proofs.YtknpaihlnkcpgaaW.PrintLast Go.Proofs.YtknpaihlnkcpgaaW.PrintMore
attribute [local go_sem ↓] ld17 ld4 sv_hd
attribute [local go_sem] run_sv_hd gv_some isV_some pick2_true stc nfz_false oc1_int oc1_bool oc1_string oc1_slice oc1_pointer oc1_func pick1_true setCells_new setCells_past setCells_drew

/-- a header of IPv4; its options lie elsewhere -/
structure Hd where
  tos : Int
  total : Int
  id : Int
  df : Bool
  mf : Bool
  frag : Int
  ttl : Int
  proto : Int
  s0 : Int
  s1 : Int
  s2 : Int
  s3 : Int
  d0 : Int
  d1 : Int
  d2 : Int
  d3 : Int
/-- its cells -/
abbrev hcs (h : Hd) (A : Option Addr) (n c : Nat) : Array Value := #[.int .u8 h.tos, .int .u16 h.total, .int .u16 h.id, .bool h.df, .bool h.mf, .int .u16 h.frag, .int .u8 h.ttl, .int .u8 h.proto, .int .u8 h.s0, .int .u8 h.s1, .int .u8 h.s2, .int .u8 h.s3, .int .u8 h.d0, .int .u8 h.d1, .int .u8 h.d2, .int .u8 h.d3, .slice A n c]
def inB (x m : Int) : Prop := 0 ≤ x ∧ x ≤ m
/-- its numbers are of their kinds -/
def Hd.ok (h : Hd) : Prop := inB h.tos 255 ∧ inB h.total 65535 ∧ inB h.id 65535 ∧ inB h.frag 65535 ∧ inB h.ttl 255 ∧ inB h.proto 255 ∧ inB h.s0 255 ∧ inB h.s1 255 ∧ inB h.s2 255 ∧ inB h.s3 255 ∧ inB h.d0 255 ∧ inB h.d1 255 ∧ inB h.d2 255 ∧ inB h.d3 255
theorem hd_cells {w : World} {g t : Nat} {h : Hd} {A : Option Addr} {n c : Nat} (hb : w.heap[g]? = some (.cells (hcs h A n c) t (0, 0))) :
    w.cell? ⟨g, 0, none⟩ = some (.int .u8 h.tos) ∧ w.cell? ⟨g, 1, none⟩ = some (.int .u16 h.total) ∧ w.cell? ⟨g, 2, none⟩ = some (.int .u16 h.id) ∧ w.cell? ⟨g, 3, none⟩ = some (.bool h.df) ∧ w.cell? ⟨g, 4, none⟩ = some (.bool h.mf) ∧ w.cell? ⟨g, 5, none⟩ = some (.int .u16 h.frag) ∧ w.cell? ⟨g, 6, none⟩ = some (.int .u8 h.ttl) ∧ w.cell? ⟨g, 7, none⟩ = some (.int .u8 h.proto) ∧ w.cell? ⟨g, 8, none⟩ = some (.int .u8 h.s0) ∧ w.cell? ⟨g, 9, none⟩ = some (.int .u8 h.s1) ∧ w.cell? ⟨g, 10, none⟩ = some (.int .u8 h.s2) ∧ w.cell? ⟨g, 11, none⟩ = some (.int .u8 h.s3) ∧ w.cell? ⟨g, 12, none⟩ = some (.int .u8 h.d0) ∧ w.cell? ⟨g, 13, none⟩ = some (.int .u8 h.d1) ∧ w.cell? ⟨g, 14, none⟩ = some (.int .u8 h.d2) ∧ w.cell? ⟨g, 15, none⟩ = some (.int .u8 h.d3) ∧ w.cell? ⟨g, 16, none⟩ = some (.slice A n c) := by refine ⟨?_, ?_, ?_, ?_, ?_, ?_, ?_, ?_, ?_, ?_, ?_, ?_, ?_, ?_, ?_, ?_, ?_⟩ <;> (rw [blk_cell hb]; rfl)
/-- is a header with n bytes of options right? -/
def rightB (h : Hd) (n : Nat) : Bool := decide (h.frag ≤ 8191 ∧ n % 4 = 0 ∧ n ≤ 40 ∧ (20 : Int) + n ≤ h.total)

theorem len_hd (h : Hd) (A : Option Addr) (n c : Nat) (w : World) (hn : n ≤ 1000000) :
    Calls Try.prog 31 #[.agg (hcs h A n c)] w fun e w' => e = .returned (.int .i64 (20 + n)) ∧ Below w.heap.size w w' := by
  obtain ⟨tos, total, id, df, mf, frag, ttl, proto, s0, s1, s2, s3, d0, d1, d2, d3⟩ := h
  go_enter Try.func31, Try.ntmps31
  go_wp2
  go_ret
  exact ⟨rfl, below_alloc1 w _⟩
/-- n, if something holds -/
def fl (b : Bool) (n : Int) : Int := if b then n else 0
theorem flag_any (b : Bool) (f : Int) (w : World) :
    Calls Try.prog 32 #[.bool b, .int .u64 f] w fun e w' => e = .returned (.int .u64 (fl b f)) ∧ w = w' := by
  cases b
  · go_enter Try.func32, Try.ntmps32
    go_wp2
    go_ret
    exact ⟨rfl, rfl⟩
  · go_enter Try.func32, Try.ntmps32
    go_wp2
    go_ret
    exact ⟨rfl, rfl⟩

theorem held17 {a b : World} {g : Nat} {v0 v1 v2 v3 v4 v5 v6 v7 v8 v9 v10 v11 v12 v13 v14 v15 v16 : Value} (hb : Below a.heap.size a b) (h : a.cell? ⟨g, 0, none⟩ = some v0 ∧ a.cell? ⟨g, 1, none⟩ = some v1 ∧ a.cell? ⟨g, 2, none⟩ = some v2 ∧ a.cell? ⟨g, 3, none⟩ = some v3 ∧ a.cell? ⟨g, 4, none⟩ = some v4 ∧ a.cell? ⟨g, 5, none⟩ = some v5 ∧ a.cell? ⟨g, 6, none⟩ = some v6 ∧ a.cell? ⟨g, 7, none⟩ = some v7 ∧ a.cell? ⟨g, 8, none⟩ = some v8 ∧ a.cell? ⟨g, 9, none⟩ = some v9 ∧ a.cell? ⟨g, 10, none⟩ = some v10 ∧ a.cell? ⟨g, 11, none⟩ = some v11 ∧ a.cell? ⟨g, 12, none⟩ = some v12 ∧ a.cell? ⟨g, 13, none⟩ = some v13 ∧ a.cell? ⟨g, 14, none⟩ = some v14 ∧ a.cell? ⟨g, 15, none⟩ = some v15 ∧ a.cell? ⟨g, 16, none⟩ = some v16) : b.cell? ⟨g, 0, none⟩ = some v0 ∧ b.cell? ⟨g, 1, none⟩ = some v1 ∧ b.cell? ⟨g, 2, none⟩ = some v2 ∧ b.cell? ⟨g, 3, none⟩ = some v3 ∧ b.cell? ⟨g, 4, none⟩ = some v4 ∧ b.cell? ⟨g, 5, none⟩ = some v5 ∧ b.cell? ⟨g, 6, none⟩ = some v6 ∧ b.cell? ⟨g, 7, none⟩ = some v7 ∧ b.cell? ⟨g, 8, none⟩ = some v8 ∧ b.cell? ⟨g, 9, none⟩ = some v9 ∧ b.cell? ⟨g, 10, none⟩ = some v10 ∧ b.cell? ⟨g, 11, none⟩ = some v11 ∧ b.cell? ⟨g, 12, none⟩ = some v12 ∧ b.cell? ⟨g, 13, none⟩ = some v13 ∧ b.cell? ⟨g, 14, none⟩ = some v14 ∧ b.cell? ⟨g, 15, none⟩ = some v15 ∧ b.cell? ⟨g, 16, none⟩ = some v16 :=
  ⟨pw_cell_below hb h.1, pw_cell_below hb h.2.1, pw_cell_below hb h.2.2.1, pw_cell_below hb h.2.2.2.1, pw_cell_below hb h.2.2.2.2.1, pw_cell_below hb h.2.2.2.2.2.1, pw_cell_below hb h.2.2.2.2.2.2.1, pw_cell_below hb h.2.2.2.2.2.2.2.1, pw_cell_below hb h.2.2.2.2.2.2.2.2.1, pw_cell_below hb h.2.2.2.2.2.2.2.2.2.1, pw_cell_below hb h.2.2.2.2.2.2.2.2.2.2.1, pw_cell_below hb h.2.2.2.2.2.2.2.2.2.2.2.1, pw_cell_below hb h.2.2.2.2.2.2.2.2.2.2.2.2.1, pw_cell_below hb h.2.2.2.2.2.2.2.2.2.2.2.2.2.1, pw_cell_below hb h.2.2.2.2.2.2.2.2.2.2.2.2.2.2.1, pw_cell_below hb h.2.2.2.2.2.2.2.2.2.2.2.2.2.2.2.1, pw_cell_below hb h.2.2.2.2.2.2.2.2.2.2.2.2.2.2.2.2⟩
set_option maxHeartbeats 8000000 in
theorem right_hd (h : Hd) (A : Option Addr) (n c : Nat) (w : World) (hn : n ≤ 1000000) (ht : inB h.total 65535) :
    Calls Try.prog 15 #[.agg (hcs h A n c)] w fun e w' => e = .returned (.bool (rightB h n)) ∧ Below w.heap.size w w' := by
  have hl := fun W => len_hd h A n c W hn
  obtain ⟨tos, total, id, df, mf, frag, ttl, proto, s0, s1, s2, s3, d0, d1, d2, d3⟩ := h
  have hb := heap_alloc_new w (.cells (hcs ⟨tos, total, id, df, mf, frag, ttl, proto, s0, s1, s2, s3, d0, d1, d2, d3⟩ A n c) 39)
  have hcc := hd_cells hb
  have HB1 := Aside0.mk (below_alloc1 w (.cells (hcs ⟨tos, total, id, df, mf, frag, ttl, proto, s0, s1, s2, s3, d0, d1, d2, d3⟩ A n c) 39))
  clear hb
  dsimp only [hcs] at hcc hl HB1
  obtain ⟨c0, c1, c2, c3, c4, c5, c6, c7, c8, c9, c10, c11, c12, c13, c14, c15, c16⟩ := hcc
  go_enter Try.func15, Try.ntmps15
  go_wp2
  by_cases h1 : frag ≤ 8191
  · by_cases h2 : n % 4 = 0
    · have hq : ((n : Int).tmod 4 == 0) = true := by
        rw [Int.tmod_eq_emod_of_nonneg (by omega)]
        simp
        omega
      by_cases h3 : n ≤ 40
      · have H1 := Aside0.mk (And.intro h1 (And.intro h2 h3))
        have h3' : (n : Int) ≤ 40 := by omega
        have HW : Aside0 (IntKind.i64.wrap total = total) := ⟨by have h0 : 0 ≤ total := ht.1; have h1 : total ≤ 65535 := ht.2; simp [IntKind.wrap, IntKind.bits, IntKind.signed]; omega⟩
        go_region_held3 (fun w' => w'.cell? ⟨w.heap.size, 0, none⟩ = some (.int .u8 tos) ∧ w'.cell? ⟨w.heap.size, 1, none⟩ = some (.int .u16 total) ∧ w'.cell? ⟨w.heap.size, 2, none⟩ = some (.int .u16 id) ∧ w'.cell? ⟨w.heap.size, 3, none⟩ = some (.bool df) ∧ w'.cell? ⟨w.heap.size, 4, none⟩ = some (.bool mf) ∧ w'.cell? ⟨w.heap.size, 5, none⟩ = some (.int .u16 frag) ∧ w'.cell? ⟨w.heap.size, 6, none⟩ = some (.int .u8 ttl) ∧ w'.cell? ⟨w.heap.size, 7, none⟩ = some (.int .u8 proto) ∧ w'.cell? ⟨w.heap.size, 8, none⟩ = some (.int .u8 s0) ∧ w'.cell? ⟨w.heap.size, 9, none⟩ = some (.int .u8 s1) ∧ w'.cell? ⟨w.heap.size, 10, none⟩ = some (.int .u8 s2) ∧ w'.cell? ⟨w.heap.size, 11, none⟩ = some (.int .u8 s3) ∧ w'.cell? ⟨w.heap.size, 12, none⟩ = some (.int .u8 d0) ∧ w'.cell? ⟨w.heap.size, 13, none⟩ = some (.int .u8 d1) ∧ w'.cell? ⟨w.heap.size, 14, none⟩ = some (.int .u8 d2) ∧ w'.cell? ⟨w.heap.size, 15, none⟩ = some (.int .u8 d3) ∧ w'.cell? ⟨w.heap.size, 16, none⟩ = some (.slice A n c)) (first | exact ⟨c0, c1, c2, c3, c4, c5, c6, c7, c8, c9, c10, c11, c12, c13, c14, c15, c16⟩ | exact held17 hb2 ⟨c0, c1, c2, c3, c4, c5, c6, c7, c8, c9, c10, c11, c12, c13, c14, c15, c16⟩) (first | (go_at_call 31; go_must (with_reducible refine (hl _).mono ?_); rintro e w2 ⟨rfl, hb2⟩))
        all_goals (
          go_wp2
          go_ret
          refine ⟨ret_bool ?_, below_tr (below_drew (below_alloc1 w _)) hb2⟩
          have hx := H1.out
          rw [HW.out]
          exact decide_eq_decide.2 ⟨fun hh => ⟨hx.1, hx.2.1, hx.2.2, hh⟩, fun hh => hh.2.2.2⟩)
      · have H3 := Aside0.mk h3
        have hn40 : ¬ (n : Int) ≤ 40 := by omega
        go_quiet (fail)
        go_wp2
        go_ret
        exact ⟨ret_bool (show false = decide (frag ≤ 8191 ∧ n % 4 = 0 ∧ n ≤ 40 ∧ (20 : Int) + n ≤ total) from (decide_eq_false (by have hx := H3.out; intro hh; omega)).symm), pw_below_drewN HB1.out _⟩
    · have H2 := Aside0.mk h2
      have hq : ((n : Int).tmod 4 == 0) = false := by
        rw [Int.tmod_eq_emod_of_nonneg (by omega)]
        simp
        omega
      go_quiet (fail)
      go_wp2
      go_ret
      exact ⟨ret_bool (show false = decide (frag ≤ 8191 ∧ n % 4 = 0 ∧ n ≤ 40 ∧ (20 : Int) + n ≤ total) from (decide_eq_false (by have hx := H2.out; intro hh; omega)).symm), pw_below_drewN HB1.out _⟩
  · have H1 := Aside0.mk h1
    go_quiet (fail)
    go_wp2
    go_ret
    exact ⟨ret_bool (show false = decide (frag ≤ 8191 ∧ n % 4 = 0 ∧ n ≤ 40 ∧ (20 : Int) + n ≤ total) from (decide_eq_false (by have hx := H1.out; intro hh; omega)).symm), pw_below_drewN HB1.out _⟩
end Go.Proofs.Ytknpaihlnkcpgaa.Own
/- bits.Writer.Set. -/
set_option linter.unusedVariables false
set_option linter.unusedSimpArgs false
namespace Go.Proofs.Ytknpaihlnkcpgaa.Own
open Go.RowKit Go.Proofs.YtknpaihlnkcpgaaW.PrintWords Go.Proofs.YtknpaihlnkcpgaaW.PrintLast Go.Proofs.YtknpaihlnkcpgaaW.PrintMore

theorem one_u8 : (Try.prog.info? 5).map (·.size) = some 1 := by kernel_rfl
theorem splice_len (L : List Int) (k : Nat) (l : List Int) (h : k + l.length ≤ L.length) : (splice L k l).length = L.length := length_splice L k l h
theorem splice_cells (cur : List Value) (bs l : List Int) (k m c : Nat) (hm : bs.length = m) (hk : k + l.length ≤ m) (htk : cur.take m = encs (Value.int .u8) bs) (hmc : m ≤ cur.length) (hc : c = l.length) :
    (cur.take k ++ (nums .u8 l ++ cur.drop (k + c))).length = cur.length ∧ (cur.take k ++ (nums .u8 l ++ cur.drop (k + c))).take m = encs (Value.int .u8) (splice bs k l) := by
  subst hc
  have hn : (nums .u8 l).length = l.length := nums_length _ _
  refine ⟨by simp [hn]; omega, ?_⟩
  have hcur : cur = encs (Value.int .u8) bs ++ cur.drop m := by rw [← htk, List.take_append_drop]
  have hel : (encs (Value.int .u8) bs).length = m := by simp [encs, hm]
  rw [hcur]
  generalize cur.drop m = R
  have e1 : (encs (Value.int .u8) bs ++ R).take k = (encs (Value.int .u8) bs).take k := List.take_append_of_le_length (by omega)
  have e2 : (encs (Value.int .u8) bs ++ R).drop (k + l.length) = (encs (Value.int .u8) bs).drop (k + l.length) ++ R := List.drop_append_of_le_length (by omega)
  rw [e1, e2, ← List.append_assoc, ← List.append_assoc]
  have hlen : (List.take k (encs (Value.int .u8) bs) ++ nums .u8 l ++ List.drop (k + l.length) (encs (Value.int .u8) bs)).length = m := by
    simp [hn, hel]; omega
  rw [List.take_left' hlen]
  simp [encs, splice, nums, List.map_take, List.map_drop]
set_option maxRecDepth 100000 in
set_option maxHeartbeats 4000000 in
theorem wset_any (base g t : Nat) (bs : List Int) (k : Nat) (v : Int) (n : Nat) (w : World) (hw : WrAt w base g t bs) (hbase : base ≤ g) (ht : t ≠ 5) (hbn : bs.length ≤ 1000000)
    (h0 : 0 ≤ v) (h1 : v < 256 ^ 8) (hn : 1 ≤ n) (hn8 : n ≤ 8) (hv : v < 256 ^ n) (hk : k + n ≤ bs.length) :
    Calls Try.prog 35 #[.pointer (some ⟨g, 0, none⟩), .int .i64 k, .int .u64 v, .int .i64 n] w fun e w' => e = .returned (.int .i64 0) ∧ WrAt w' base g t (splice bs k (be n v)) ∧ Below g w w' := by
  have hf := fits_any v n w h0 h1
  rw [fits_ok v n h0 h1 hn hn8 hv] at hf
  have ho := fun W => num_of v n W h0 h1 hn8
  obtain ⟨x, hg, hR⟩ := hw
  have hown := Kd.own_of_R hR
  obtain ⟨hlen, ⟨_, hz⟩ | ⟨g0, cap, cur, rfl, hgb, hg0, hcap, hmax, hcs, htk⟩⟩ := hown
  · omega
  have hlt := blk_lt hg
  have hg0lt : g < g0 := hR.1 g0 rfl
  obtain ⟨m, hm⟩ : ∃ m, bs.length = m := ⟨_, rfl⟩
  rw [hm] at hg hR hcap htk hk hbn
  have hcell : w.cell? ⟨g, 0, none⟩ = some (.slice (some ⟨g0, 0, none⟩) m cap) := (blk_cell hg 0).trans rfl
  have HN := Aside0.mk (be_length n v)
  have hspl : (splice bs k (be n v)).length = m := by rw [splice_len bs k (be n v) (by rw [be_length]; omega), hm]
  have hml := be_length n v
  have hSC := Aside0.mk (splice_cells cur.toList bs (be n v) k m ((be n v).length.min (m - k)) hm (by rw [hml]; omega) (by simpa using htk) (by simp; omega) (by rw [hml]; exact Nat.min_eq_left (by omega)))
  clear h1 hv hml
  go_enter Try.func35, Try.ntmps35
  have d1 : ¬ (k : Int) < 0 := by omega
  have d2 : ¬ (m : Int) < k := by omega
  have d3 : ¬ (m : Int) - k < n := by omega
  go_wp2_with (go_at_call 52; (with_reducible refine hf.mono ?_); clear hf; rintro e w' ⟨rfl, rfl⟩)
  have hkm : k ≤ m := by omega
  have hkc : k < cap := by omega
  clear d1 d2 d3
  have hg0l := blk_lt hg0
  have hbp : 0 < (be n v).length := by rw [HN.out]; omega
  have hmin : (nums .u8 (be n v)).length = Nat.min (be n v).length (m - k) := by rw [nums_length, HN.out]; exact (Nat.min_eq_left (by omega)).symm
  have hfit : k + (nums .u8 (be n v)).length ≤ cur.size := by rw [nums_length, HN.out]; omega
  have hone : ∀ u ∈ nums .u8 (be n v), u.oneCell' = true := by
    intro u hu
    obtain ⟨z, _, rfl⟩ := List.mem_map.1 hu
    rfl
  go_region_held3 (fun w' => w'.cell? ⟨g, 0, none⟩ = some (.slice (some ⟨g0, 0, none⟩) m cap)) (first | exact hcell | exact pw_cell_below hb1 hcell | exact ((below_setRow (Below.refl g0 w1) (Nat.le_refl _) _).cell (p := ⟨g, 0, none⟩) hg0lt).trans (pw_cell_below hb1 hcell)) (first | (go_at_call 53; (with_reducible refine (ho _).mono ?_); rintro e w1 ⟨x, rfl, hx, hb1⟩; obtain ⟨g1, c1, rfl, _⟩ := Kd.R_form hx hbp; have hcp := run_copy_row (P := Try.prog) w1 22 22 3 5 g0 k (m - k) (cap - k) ⟨g1, 0, none⟩ (be n v).length c1 cur 5 (nums .u8 (be n v)) Try.underlying22 one_u8 ((hb1.block g0 hg0l).trans hg0) hmin ((Kd.own_of_R hx).cells rfl) hfit hone))
  all_goals (
    have hg1 := (hb1.block g (by exact hlt)).trans hg
    have hg01 := (hb1.block g0 hg0l).trans hg0
    clear hcp
    go_wp2
    go_ret
    refine ⟨rfl, ⟨_, (setRow_other _ _ _ _ (by omega)).trans hg1, Kd.R_of_own (h1 := fun _ => rfl) ⟨by simp [encs], .inr ⟨g0, cap, _, by rw [hspl], hgb, setRow_heap _ _ _ _ _ _ hg01, by rw [hspl]; exact hcap, hmax, ?_, ?_⟩⟩ (fun i hi => by cases hi; exact hg0lt)⟩, ?_⟩
    · have h := hSC.out.1
      rw [List.size_toArray, h]
      simpa using hcs
    · have h := hSC.out.2
      rw [hspl, Nat.mul_one]
      exact h
    · exact ((Below.refl g w).drew.trans (hb1.mono (Nat.le_of_lt hlt))).trans (below_setRow (Below.refl g w1) (Nat.le_of_lt hg0lt) _))
end Go.Proofs.Ytknpaihlnkcpgaa.Own
/- slices.Grow of nil, slices.Concat of rows of bytes. -/
set_option linter.unusedVariables false
set_option linter.unusedSimpArgs false
namespace Go.Proofs.Ytknpaihlnkcpgaa.Own
open Go.RowKit Go.Proofs.YtknpaihlnkcpgaaW.PrintWords Go.Proofs.YtknpaihlnkcpgaaW.PrintLast Go.Proofs.YtknpaihlnkcpgaaW.PrintMore

set_option maxRecDepth 100000 in
set_option maxHeartbeats 4000000 in
theorem grow_nil (n : Nat) (w : World) (hn : n ≤ 1000000) :
    Calls Try.prog 51 #[.slice none 0 0, .int .i64 n] w fun e w' => ∃ v, e = .returned v ∧ Kd.R (Kd.int .u8) 5 w' w.heap.size (fun _ => True) v [] ∧ Below w.heap.size w w' := by
  obtain ⟨i0, hi, hzz⟩ := Option.map_eq_some_iff.1 info_u8
  simp only [Prod.mk.injEq] at hzz
  obtain ⟨hz0, hz1, hz2⟩ := hzz
  by_cases h0 : n = 0
  · subst h0
    go_enter Try.func51, Try.ntmps51
    go_wp2
    go_ret
    exact ⟨_, rfl, Kd.R_nil _ _ _ _ _, Below.refl _ _⟩
  · have hpos : 0 < n := by omega
    have hrz := fun ty => Lib.run_append_grow_zeros (P := Try.prog) w 22 3 ty 5 i0 (.int .u8 0) .i64 .i64 Try.underlying22 Try.underlying3 hi hz0 none 0 0 [] (run_firstCells_none w.drew i0.size 0 0 0) n hpos (by omega) (by omega) (by omega) (by rw [hz2]; omega)
      (growslice_fits (by omega) (by rw [hz2]; omega))
    have hG := grownCap_ge w (0 + n) 0 5
    have hG2 := grownCap_le_maxLen w (0 + n) 0 5 (by unfold maxLen; omega)
    obtain ⟨G, eG⟩ : ∃ G, grownCap w (0 + n) 0 5 = G := ⟨_, rfl⟩
    rw [eG] at hrz hG hG2
    have hG63 : G ≤ 9223372036854775807 := by unfold maxLen at hG2; omega
    have HR : Kd.R (Kd.int .u8) 5 (w.drew.alloc (.cells ((([] : List Value).toArray ++ Builtin.zeroCells (Value.int .u8 0).cells n ++ Builtin.zeroCells (Value.int .u8 0).cells (G - (0 + n)))) 5)) w.heap.size (fun _ => True) (.slice (some ⟨w.heap.size, 0, none⟩) 0 G) [] :=
      Kd.R_of_own (h1 := fun _ => rfl) ⟨rfl, .inr ⟨w.heap.size, G, _, rfl, Nat.le_refl _, heap_alloc_new w.drew _, Nat.zero_le _, hG2, by simp [Builtin.zeroCells, Value.cells]; omega, rfl⟩⟩ (fun _ _ => trivial)
    have HB := (Below.refl w.heap.size w).drew.alloc (Nat.le_refl _) (.cells ((([] : List Value).toArray ++ Builtin.zeroCells (Value.int .u8 0).cells n ++ Builtin.zeroCells (Value.int .u8 0).cells (G - (0 + n)))) 5)
    have h63 : n ≤ 9223372036854775807 := by omega
    clear eG hG
    go_enter Try.func51, Try.ntmps51
    go_wp2_with (at_builtin; refine Lib.wpList_append_run _ rfl _ _ _ _ rfl _ _ rfl rfl _ _ (hrz _) ?_)
    go_ret
    exact ⟨_, rfl, by have h := HR; simp [Value.cells] at h; exact h, by have h := HB; simp [Value.cells] at h; exact h⟩

theorem take_flat (l : List (List Int)) (k : Nat) (h : k < l.length) : (l.take (k + 1)).flatten = (l.take k).flatten ++ l.getD k [] := by
  rw [List.take_add_one, List.getD_eq_getElem?_getD, List.getElem?_eq_getElem h, List.flatten_append]
  simp
set_option maxRecDepth 100000 in
set_option maxHeartbeats 4000000 in
/-- slices.Concat of a few rows of bytes, which lie in block b -/
theorem concat_any (l : List (List Int)) (A : Option Addr) (n c : Nat) (w : World) (hC : Kd.C (Kd.slice 5 (Kd.int .u8)) w A n l) (hn : n ≤ 100) (hl : l.flatten.length ≤ 1000000) :
    Calls Try.prog 34 #[.slice A n c] w fun e w' => ∃ v, e = .returned v ∧ Kd.R (Kd.int .u8) 5 w' w.heap.size (fun _ => True) v l.flatten ∧ Below w.heap.size w w' := by
  have HC := Aside0.mk hC
  have hll : l.length = n := hC.1
  have HL := Aside0.mk hll
  have HF := Aside0.mk hl
  clear hC hll hl
  go_enter Try.func34, Try.ntmps34
  go_wp2
  go_loop [3, 5, 11] (fun p _ q => ∃ (k : Nat), k ≤ n ∧ q = .int .i64 k ∧ p = .int .i64 (l.take k).flatten.length) (fun _ _ q => n - (intOf q).toNat)
  case atStart => exact ⟨0, by omega, rfl, rfl⟩
  case round =>
    obtain ⟨k, hk, rfl, rfl⟩ := hrel
    by_cases hkn : k < n
    · obtain ⟨ad, A0, c0, rfl, hcx, hlx, hrx⟩ := at_rows HC.out k hkn
      have hkl : k < l.length := by rw [HL.out]; exact hkn
      have htk : (l.take (k + 1)).flatten.length = (l.take k).flatten.length + (l.getD k []).length := by
        rw [take_flat l k hkl, List.length_append]
      have hle : (l.take (k + 1)).flatten.length ≤ 1000000 := by
        have h := congrArg List.length (congrArg List.flatten (List.take_append_drop (k + 1) l))
        rw [List.flatten_append, List.length_append] at h
        have := HF.out
        omega
      rw [htk] at hle
      obtain ⟨a, ea⟩ : ∃ a, (l.take k).flatten.length = a := ⟨_, rfl⟩
      obtain ⟨m, em⟩ : ∃ m, (l.getD k []).length = m := ⟨_, rfl⟩
      rw [ea, em] at hle htk
      rw [em] at hcx hlx
      rw [ea]
      have HTK := Aside0.mk htk
      clear htk hrx ea em hkl
      go_wp2
      go_round
      case rel => exact ⟨k + 1, by omega, by go_num, by rw [HTK.out]; go_num⟩
      case measure => simp [intOf]; omega
    · have e : k = n := by omega
      subst e
      have hfl : (l.take k).flatten.length = l.flatten.length := by rw [List.take_of_length_le (by rw [HL.out]; exact Nat.le_refl _)]
      rw [hfl]
      obtain ⟨N, eN⟩ : ∃ N, l.flatten.length = N := ⟨_, rfl⟩
      have hN : N ≤ 1000000 := by rw [← eN]; exact HF.out
      rw [eN]
      have hgr := grow_nil N w hN
      go_wp2_with (go_at_call 51; go_must (with_reducible refine hgr.mono ?_); rintro e w1 ⟨v, rfl, hv, hb1⟩)
      have HV : Aside0 (Kd.R (Kd.int .u8) 5 w1 w.heap.size (fun _ => True) v (l.take 0).flatten) := ⟨hv⟩
      have HB1 := Aside0.mk hb1
      have HNN := Aside0.mk eN
      clear hv hb1 hgr hfl eN
      go_loopw [6, 8, 27] (fun v _ q wr => ∃ (j : Nat), j ≤ k ∧ q = .int .i64 j ∧ Aside0 (Kd.R (Kd.int .u8) 5 wr w.heap.size (fun _ => True) v (l.take j).flatten) ∧ Aside0 (Below w.heap.size w wr)) (fun _ _ q _ => k - (intOf q).toNat)
      case atStart => exact ⟨0, by omega, rfl, HV, HB1⟩
      case round =>
        clear HV HB1
        obtain ⟨j, hj, rfl, HV, HB⟩ := hrel
        by_cases hjn : j < k
        · obtain ⟨ad, A0, c0, rfl, hcx, hlx, hrx⟩ := at_rows (Kd.C_below HC.out HB.out) j hjn
          have hjl : j < l.length := by rw [HL.out]; exact hjn
          have HTF := Aside0.mk (take_flat l j hjl)
          have hle : (l.take j).flatten.length + (l.getD j []).length ≤ 1000000 := by
            have h := congrArg List.length (congrArg List.flatten (List.take_append_drop (j + 1) l))
            rw [List.flatten_append, List.length_append, HTF.out, List.length_append] at h
            have := HF.out
            omega
          have HRX := Aside0.mk hrx
          obtain ⟨x, ex⟩ : ∃ x, l.getD j [] = x := ⟨_, rfl⟩
          rw [ex] at hcx hlx HRX HTF hle
          obtain ⟨y, ey⟩ : ∃ y, (l.take j).flatten = y := ⟨_, rfl⟩
          rw [ey] at HV HTF hle
          obtain ⟨A7, c7, rfl⟩ := Kd.R_slice HV.out
          clear hrx ex ey hjl
          go_wp2_with (at_builtin; refine Kd.R_append_rows (Kd.int .u8) (w0 := w) w.heap.size rfl (.tmp 31) (.tmp 32) 22 5 (.int .u8 0) 1 rfl Try.underlying22 info_u8 rfl (by decide) (by decide) _ y x A0 x.length c0 (fun _ => True) (fun _ => False) rfl rfl HV.out HRX.out (fun _ _ h => h) (fun _ h => h.elim) (fun _ _ => trivial) HB.out HB.out.size (by omega) ?_; intro v1 w3 ho1 hb3 _ _)
          go_roundw
          case rel => exact ⟨j + 1, by omega, by go_num, ⟨by rw [HTF.out]; exact ho1⟩, ⟨hb3⟩⟩
          case measure => simp [intOf]; omega
        · have e : j = k := by omega
          subst e
          go_wp2
          go_ret
          exact ⟨_, rfl, by have h := HV.out; rw [List.take_of_length_le (by rw [HL.out]; exact Nat.le_refl _)] at h; exact h, HB.out⟩
end Go.Proofs.Ytknpaihlnkcpgaa.Own
/- Contracts of sum.Whole and sum.Change. -/
set_option linter.unusedVariables false
set_option linter.unusedSimpArgs false
namespace Go.Proofs.Ytknpaihlnkcpgaa.Own
open Go.RowKit Go.Proofs.YtknpaihlnkcpgaaW.PrintWords Go.Proofs.YtknpaihlnkcpgaaW.PrintLast Go.Proofs.YtknpaihlnkcpgaaW.PrintMore

theorem whole_any (l : List (List Int)) (A : Option Addr) (c : Nat) (w : World) (hr : Kd.C (Kd.slice 5 (Kd.int .u8)) w A l.length l) (hb : ∀ x ∈ l, bytes x) (hn : l.flatten.length ≤ 1152921504606846975) (hn2 : l.length ≤ 1152921504606846975) :
    Calls Try.prog 41 #[.slice A l.length c] w fun e w' => e = .returned (.bool (wholeB l.flatten)) ∧ Below w.heap.size w w' := by
  have HR := Aside0.mk hr
  have HB := Aside0.mk hb
  clear hr hb
  obtain ⟨v, ev⟩ : ∃ v, ck l.flatten = v := ⟨_, rfl⟩
  have HW := Aside0.mk (show wholeB l.flatten = (v == 0 || v == 65535) by simp [wholeB, ev])
  have EV := Aside0.mk ev
  clear ev
  by_cases h0 : (v == 0) = true
  · go_enter Try.func41, Try.ntmps41
    go_wp2_with fail
    refine (of_any l A c _ HR.out HB.out hn hn2).mono ?_
    rintro e w1 ⟨rfl, hb1⟩
    rw [EV.out]
    go_wp2
    go_ret
    exact ⟨ret_bool (by rw [HW.out, h0]; rfl), hb1⟩
  · replace h0 : (v == 0) = false := by simpa using h0
    by_cases h1 : (v == 65535) = true
    all_goals
      try (replace h1 : (v == 65535) = false := by simpa using h1)
      go_enter Try.func41, Try.ntmps41
      go_wp2_with fail
      refine (of_any l A c _ HR.out HB.out hn hn2).mono ?_
      rintro e w1 ⟨rfl, hb1⟩
      rw [EV.out]
      go_wp2
      go_ret
      exact ⟨ret_bool (by rw [HW.out, h0, h1]; rfl), hb1⟩

/-- the same two, at any spelling of the length -/
theorem of_at (l : List (List Int)) (A : Option Addr) (n c : Nat) (w : World) (hr : Kd.C (Kd.slice 5 (Kd.int .u8)) w A n l) (hb : ∀ x ∈ l, bytes x) (hn : l.flatten.length ≤ 1152921504606846975) (hn2 : l.length ≤ 1152921504606846975) :
    Calls Try.prog 36 #[.slice A n c] w fun e w' => e = .returned (.int .u16 (ck l.flatten)) ∧ Below w.heap.size w w' := by
  obtain rfl := hr.1
  exact of_any l A c w hr hb hn hn2
theorem whole_at (l : List (List Int)) (A : Option Addr) (n c : Nat) (w : World) (hr : Kd.C (Kd.slice 5 (Kd.int .u8)) w A n l) (hb : ∀ x ∈ l, bytes x) (hn : l.flatten.length ≤ 1152921504606846975) (hn2 : l.length ≤ 1152921504606846975) :
    Calls Try.prog 41 #[.slice A n c] w fun e w' => e = .returned (.bool (wholeB l.flatten)) ∧ Below w.heap.size w w' := by
  obtain rfl := hr.1
  exact whole_any l A c w hr hb hn hn2

theorem change_any (s f t : Int) (w : World) (s0 : 0 ≤ s) (s1 : s ≤ 65535) (f0 : 0 ≤ f) (f1 : f ≤ 65535) (t0 : 0 ≤ t) (t1 : t ≤ 65535) :
    Calls Try.prog 42 #[.int .u16 s, .int .u16 f, .int .u16 t] w fun e w' => e = .returned (.int .u16 (chg s f t)) ∧ w = w' := by
  have hr := cf_range (65535 - s + (65535 - f) + t) (by omega)
  obtain ⟨r0, r1⟩ := hr
  have e1 : IntKind.u16.wrap (65535 - s) = 65535 - s := wraps_u16 _ (by omega) (by omega)
  have e2 : IntKind.u16.wrap (65535 - f) = 65535 - f := wraps_u16 _ (by omega) (by omega)
  have e3 : IntKind.u64.wrap (65535 - s) = 65535 - s := wraps_u64 _ (by omega) (by omega)
  have e4 : IntKind.u64.wrap (65535 - f) = 65535 - f := wraps_u64 _ (by omega) (by omega)
  go_enter Try.func42, Try.ntmps42
  go_wp2_with fail
  refine (fold_any _ _ (by omega) (by omega)).mono ?_
  rintro e w1 ⟨rfl, rfl⟩
  go_wp2
  go_ret
  exact ⟨ret_u16 (by unfold chg; omega), rfl⟩
end Go.Proofs.Ytknpaihlnkcpgaa.Own
/- ip.Put. (written by wip/gen_put.py) -/
set_option linter.unusedVariables false
set_option linter.unusedSimpArgs false
namespace Go.Proofs.Ytknpaihlnkcpgaa.Own
open Go.RowKit Go.Proofs.YtknpaihlnkcpgaaW.PrintWords Go.Proofs.YtknpaihlnkcpgaaW.PrintLast Go.Proofs.YtknpaihlnkcpgaaW.PrintMore
attribute [local go_sem ↓] ld17 ld4 sv_hd
attribute [local go_sem] run_sv_hd gv_some isV_some pick2_true stc nfz_false oc1_int oc1_bool oc1_string oc1_slice oc1_pointer oc1_func pick1_true setCells_new setCells_past setCells_drew

/-- a header's bytes, with a checksum -/
def stands (h : Hd) (o : List Int) (sum : Int) : List Int :=
  [(64 : Int) + (20 + (o.length : Int)) / 4, h.tos] ++ be 2 h.total ++ be 2 h.id ++ be 2 (fl h.df 16384 + fl h.mf 8192 + h.frag) ++ [h.ttl, h.proto] ++ be 2 sum ++ [h.s0, h.s1, h.s2, h.s3, h.d0, h.d1, h.d2, h.d3] ++ o

set_option maxRecDepth 100000 in
set_option maxHeartbeats 8000000 in
theorem put_wrong (h : Hd) (A : Option Addr) (n c : Nat) (w : World) (ht : inB h.total 65535) (hn : n ≤ 1000000) (hr : rightB h n = false) :
    Calls Try.prog 13 #[.agg (hcs h A n c)] w fun e w' => e = .returned (.tuple #[.slice none 0 0, .int .i64 51]) ∧ Below w.heap.size w w' := by
  have hb := heap_alloc_new w (.cells (hcs h A n c) 39)
  have hcc := hd_cells hb
  have hq := right_hd h A n c (w.alloc (.cells (hcs h A n c) 39)) hn ht
  rw [hr] at hq
  clear hr ht hb
  obtain ⟨tos, total, id, df, mf, frag, ttl, proto, s0, s1, s2, s3, d0, d1, d2, d3⟩ := h
  dsimp only [hcs] at hcc hq
  go_enter Try.func13, Try.ntmps13
  go_wp2_with (go_at_call 15; go_must (with_reducible refine hq.mono ?_); rintro e w1 ⟨rfl, hb1⟩)
  refine bodyPost_ret (results_tmp2 rfl _ _ _) rfl ?_
  exact ⟨rfl, below_tr (below_alloc1 w _) hb1⟩

/-- where ip.Put stands: the header's box lies as it did, the writer g holds bs -/
def PutAt (w W : World) (h : Hd) (A : Option Addr) (n c g : Nat) (bs : List Int) : Prop :=
  Below w.heap.size w W ∧ W.heap[w.heap.size]? = some (.cells (hcs h A n c) 39 (0, 0)) ∧ w.heap.size < g ∧ WrAt W w.heap.size g 68 bs
theorem PutAt.below {w W W2 : World} {h : Hd} {A : Option Addr} {n c g : Nat} {bs : List Int} (hP : PutAt w W h A n c g bs) (hb : Below W.heap.size W W2) : PutAt w W2 h A n c g bs :=
  ⟨below_then hP.1 hP.1.size hb, (hb.block _ (blk_lt hP.2.1)).trans hP.2.1, hP.2.2.1, hP.2.2.2.below hb⟩
theorem PutAt.drew {w W : World} {h : Hd} {A : Option Addr} {n c g : Nat} {bs : List Int} (hP : PutAt w W h A n c g bs) : PutAt w W.drew h A n c g bs := hP.below (below_drew (Below.refl _ _))
theorem PutAt.alloc {w W : World} {h : Hd} {A : Option Addr} {n c g : Nat} {bs : List Int} (hP : PutAt w W h A n c g bs) (o : Obj) : PutAt w (W.alloc o) h A n c g bs := hP.below (below_alloc1 W o)
theorem PutAt.wrote {w W W2 : World} {h : Hd} {A : Option Addr} {n c g : Nat} {bs cs : List Int} (hP : PutAt w W h A n c g bs) (hk : Wrote w.heap.size g W W2) (hw : WrAt W2 w.heap.size g 68 cs) : PutAt w W2 h A n c g cs :=
  ⟨hP.1.trans hk.1, hk.2 _ _ _ _ hP.2.1 (by decide) (Nat.ne_of_lt hP.2.2.1), hP.2.2.1, hw⟩

theorem putAt_new {w w1 : World} {h : Hd} {A : Option Addr} {n c : Nat} (hb : Below (w.alloc (.cells (hcs h A n c) 39)).heap.size (w.alloc (.cells (hcs h A n c) 39)) w1) :
    PutAt w (w1.alloc (.cells #[.slice none 0 0] 68)) h A n c w1.heap.size [] := by
  have h1 := heap_alloc_new w (.cells (hcs h A n c) 39)
  have hs := hb.size
  rw [World.size_alloc] at hs
  refine ⟨below_tr (below_tr (below_alloc1 w _) hb) (below_alloc1 w1 _), ?_, by omega, WrAt.new w1 _ _⟩
  have h2 := (hb.block w.heap.size (by rw [World.size_alloc]; omega)).trans h1
  exact (Below.heap_alloc _ _ _ (by omega)).trans h2
theorem rest_two (a b : Int) : [a, b] = [a] ++ [b] := rfl
/-- a call of put, its numbers in a block of their own -/
theorem PutAt.puts {w W : World} {h : Hd} {A : Option Addr} {n c g : Nat} {bs : List Int} (hP : PutAt w W h A n c g bs) (hl : bs.length ≤ 9000) (l : List Int) (k m : Nat) (hm : l.length = m) (hm1 : m ≤ 1000) (hk : 1 ≤ k) (hk8 : k ≤ 8) (hp : (256 : Int) ^ k ≤ 256 ^ 8) (hv : ∀ x ∈ l, 0 ≤ x ∧ x < 256 ^ k) :
    Calls Try.prog 30 #[.pointer (some ⟨g, 0, none⟩), .int .i64 k, .slice (some ⟨W.heap.size, 0, none⟩) m m] (W.alloc (.cells (nums .u64 l).toArray 70)) fun e w' => e = .returned (.tuple #[]) ∧ PutAt w w' h A n c g (bs ++ bes k l) := by
  have hP1 := hP.alloc (.cells (nums .u64 l).toArray 70)
  have hlt : g < W.heap.size := by obtain ⟨x, hx, _⟩ := hP.2.2.2; exact blk_lt hx
  exact (puts_any w.heap.size g 68 W.heap.size 70 bs l k m _ hP1.2.2.2 (Nat.le_of_lt hP.2.2.1) (by decide) (by omega) hm hm1 (heap_alloc_new W _) (by decide) (by omega) hk hk8 hv hp).mono fun e w' ⟨he, hw, hr⟩ => ⟨he, hP1.wrote hr hw⟩
theorem p256_1 : (256 : Int) ^ 1 ≤ 256 ^ 8 := by decide
theorem p256_2 : (256 : Int) ^ 2 ≤ 256 ^ 8 := by decide
def okN (k : Nat) (x : Int) : Prop := 0 ≤ x ∧ x < 256 ^ k
theorem PutAt.puts1 {w W : World} {h : Hd} {A : Option Addr} {n c g : Nat} {bs : List Int} (hP : PutAt w W h A n c g bs) (hl : bs.length ≤ 9000) (k : Nat) (ki : Int) (hki : (k : Int) = ki) (hk : 1 ≤ k) (hk8 : k ≤ 8) (hp : (256 : Int) ^ k ≤ 256 ^ 8) (x : Int) (hx : okN k x) :
    Calls Try.prog 30 #[.pointer (some ⟨g, 0, none⟩), .int .i64 ki, .slice (some ⟨W.heap.size, 0, none⟩) 1 1] (W.alloc (.cells #[.int .u64 x] 70)) fun e w' => e = .returned (.tuple #[]) ∧ PutAt w w' h A n c g (bs ++ be k x) := by
  subst hki
  have h := hP.puts hl [x] k 1 rfl (by decide) hk hk8 hp (by simpa [okN] using hx)
  simpa [bes, nums] using h
theorem PutAt.puts2 {w W : World} {h : Hd} {A : Option Addr} {n c g : Nat} {bs : List Int} (hP : PutAt w W h A n c g bs) (hl : bs.length ≤ 9000) (k : Nat) (ki : Int) (hki : (k : Int) = ki) (hk : 1 ≤ k) (hk8 : k ≤ 8) (hp : (256 : Int) ^ k ≤ 256 ^ 8) (x y : Int) (hx : okN k x) (hy : okN k y) :
    Calls Try.prog 30 #[.pointer (some ⟨g, 0, none⟩), .int .i64 ki, .slice (some ⟨W.heap.size, 0, none⟩) 2 2] (W.alloc (.cells #[.int .u64 x, .int .u64 y] 70)) fun e w' => e = .returned (.tuple #[]) ∧ PutAt w w' h A n c g (bs ++ (be k x ++ be k y)) := by
  subst hki
  have h := hP.puts hl [x, y] k 2 rfl (by decide) hk hk8 hp (by intro z hz; rcases List.mem_cons.1 hz with rfl | hz; exact hx; rw [List.mem_singleton.1 hz]; exact hy)
  simpa [bes, nums] using h
theorem PutAt.puts3 {w W : World} {h : Hd} {A : Option Addr} {n c g : Nat} {bs : List Int} (hP : PutAt w W h A n c g bs) (hl : bs.length ≤ 9000) (k : Nat) (ki : Int) (hki : (k : Int) = ki) (hk : 1 ≤ k) (hk8 : k ≤ 8) (hp : (256 : Int) ^ k ≤ 256 ^ 8) (x y z : Int) (hx : okN k x) (hy : okN k y) (hz : okN k z) :
    Calls Try.prog 30 #[.pointer (some ⟨g, 0, none⟩), .int .i64 ki, .slice (some ⟨W.heap.size, 0, none⟩) 3 3] (W.alloc (.cells #[.int .u64 x, .int .u64 y, .int .u64 z] 70)) fun e w' => e = .returned (.tuple #[]) ∧ PutAt w w' h A n c g (bs ++ (be k x ++ be k y ++ be k z)) := by
  subst hki
  have h := hP.puts hl [x, y, z] k 3 rfl (by decide) hk hk8 hp (by intro v hv; rcases List.mem_cons.1 hv with rfl | hv; exact hx; rcases List.mem_cons.1 hv with rfl | hv; exact hy; rw [List.mem_singleton.1 hv]; exact hz)
  simpa [bes, nums] using h

theorem PutAt.puts3d {w W : World} {h : Hd} {A : Option Addr} {n c g : Nat} {bs : List Int} (hP : PutAt w W h A n c g bs) (hl : bs.length ≤ 9000) (k : Nat) (ki : Int) (hki : (k : Int) = ki) (hk : 1 ≤ k) (hk8 : k ≤ 8) (hp : (256 : Int) ^ k ≤ 256 ^ 8) (x y z : Int) (hx : okN k x) (hy : okN k y) (hz : okN k z) :
    Calls Try.prog 30 #[.pointer (some ⟨g, 0, none⟩), .int .i64 ki, .slice (some ⟨W.heap.size, 0, none⟩) 3 3] (W.alloc (.cells #[.int .u64 x, .int .u64 y, .int .u64 z] 70)).drew fun e w' => e = .returned (.tuple #[]) ∧ PutAt w w' h A n c g (bs ++ (be k x ++ be k y ++ be k z)) :=
  hP.drew.puts3 hl k ki hki hk hk8 hp x y z hx hy hz
/-- cells that read as a row of bytes -/
theorem C_cells {w : World} {g o : Nat} {xs : List Int} (hm : xs.length ≤ 9223372036854775807) (hc : ∀ j p, xs[j]? = some p → w.cell? ⟨g, o + j, none⟩ = some (.int .u8 p)) : Kd.C (Kd.int .u8) w (some ⟨g, o, none⟩) xs.length xs := by
  refine ⟨rfl, hm, fun _ => ⟨_, rfl, fun j p hj => ⟨[.int .u8 p], rfl, rfl, fun i u hu => ?_⟩⟩⟩
  match i, hu with
  | 0, hu =>
    have hu' : Value.int .u8 p = u := by simpa using hu
    subst hu'
    have hs : (Kd.int IntKind.u8).sz = 1 := rfl
    rw [hs, Nat.mul_one, Nat.add_zero, Addr.add_lit]
    exact hc j p hj
theorem C_new_rows3 {w : World} {A B E : Option Addr} {n1 n2 n3 c1 c2 c3 : Nat} {l m k : List Int} (h1 : Kd.C (Kd.int .u8) w A n1 l) (k1 : n1 ≤ c1) (h2 : Kd.C (Kd.int .u8) w B n2 m) (k2 : n2 ≤ c2) (h3 : Kd.C (Kd.int .u8) w E n3 k) (k3 : n3 ≤ c3) :
    Kd.C (Kd.slice 5 (Kd.int .u8)) (w.alloc (.cells #[.slice A n1 c1, .slice B n2 c2, .slice E n3 c3] 22)) (some ⟨w.heap.size, 0, none⟩) 3 [l, m, k] := by
  have hb := heap_alloc_new w (.cells #[.slice A n1 c1, .slice B n2 c2, .slice E n3 c3] 22)
  obtain rfl := h1.1
  obtain rfl := h2.1
  obtain rfl := h3.1
  have hs : (Kd.slice 5 (Kd.int IntKind.u8)).sz = 1 := rfl
  have g1 := Kd.C_alloc h1 (.cells #[.slice A l.length c1, .slice B m.length c2, .slice E k.length c3] 22)
  have g2 := Kd.C_alloc h2 (.cells #[.slice A l.length c1, .slice B m.length c2, .slice E k.length c3] 22)
  have g3 := Kd.C_alloc h3 (.cells #[.slice A l.length c1, .slice B m.length c2, .slice E k.length c3] 22)
  refine ⟨rfl, by decide, fun _ => ⟨_, rfl, fun j p hj => ?_⟩⟩
  match j, hj with
  | 0, hj =>
    obtain rfl : l = p := by simpa using hj
    refine ⟨[.slice A l.length c1], rfl, ⟨A, c1, rfl, k1, g1⟩, fun i u hu => ?_⟩
    match i, hu with
    | 0, hu =>
      have hu' : Value.slice A l.length c1 = u := by simpa using hu
      subst hu'
      rw [Nat.zero_mul, Nat.add_zero, add_plain, cell_of_row _ _ 0 _ _ _ hb]
      rfl
  | 1, hj =>
    obtain rfl : m = p := by simpa using hj
    refine ⟨[.slice B m.length c2], rfl, ⟨B, c2, rfl, k2, g2⟩, fun i u hu => ?_⟩
    match i, hu with
    | 0, hu =>
      have hu' : Value.slice B m.length c2 = u := by simpa using hu
      subst hu'
      rw [hs, Nat.mul_one, Nat.add_zero, add_plain, cell_of_row _ _ 1 _ _ _ hb]
      rfl
  | 2, hj =>
    obtain rfl : k = p := by simpa using hj
    refine ⟨[.slice E k.length c3], rfl, ⟨E, c3, rfl, k3, g3⟩, fun i u hu => ?_⟩
    match i, hu with
    | 0, hu =>
      have hu' : Value.slice E k.length c3 = u := by simpa using hu
      subst hu'
      rw [hs, Nat.mul_one, Nat.add_zero, add_plain, cell_of_row _ _ 2 _ _ _ hb]
      rfl
/-- the addresses of a header, as rows of bytes in its block -/
theorem hd_src {w : World} {g t : Nat} {h : Hd} {A : Option Addr} {n c : Nat} (hb : w.heap[g]? = some (.cells (hcs h A n c) t (0, 0))) : Kd.C (Kd.int .u8) w (some ⟨g, 8, none⟩) 4 [h.s0, h.s1, h.s2, h.s3] := by
  have hc := hd_cells hb
  refine C_cells (xs := [h.s0, h.s1, h.s2, h.s3]) (by simp) (fun j p hj => ?_)
  match j, hj with
  | 0, hj => cases hj; exact hc.2.2.2.2.2.2.2.2.1
  | 1, hj => cases hj; exact hc.2.2.2.2.2.2.2.2.2.1
  | 2, hj => cases hj; exact hc.2.2.2.2.2.2.2.2.2.2.1
  | 3, hj => cases hj; exact hc.2.2.2.2.2.2.2.2.2.2.2.1
theorem hd_dst {w : World} {g t : Nat} {h : Hd} {A : Option Addr} {n c : Nat} (hb : w.heap[g]? = some (.cells (hcs h A n c) t (0, 0))) : Kd.C (Kd.int .u8) w (some ⟨g, 12, none⟩) 4 [h.d0, h.d1, h.d2, h.d3] := by
  have hc := hd_cells hb
  refine C_cells (xs := [h.d0, h.d1, h.d2, h.d3]) (by simp) (fun j p hj => ?_)
  match j, hj with
  | 0, hj => cases hj; exact hc.2.2.2.2.2.2.2.2.2.2.2.2.1
  | 1, hj => cases hj; exact hc.2.2.2.2.2.2.2.2.2.2.2.2.2.1
  | 2, hj => cases hj; exact hc.2.2.2.2.2.2.2.2.2.2.2.2.2.2.1
  | 3, hj => cases hj; exact hc.2.2.2.2.2.2.2.2.2.2.2.2.2.2.2.1
/-- a row made by the call, its length under a name -/
def OwnB (w0 w : World) (A : Option Addr) (n c : Nat) (l : List Int) : Prop := Kd.R (Kd.int .u8) 5 w w0.heap.size (fun _ => True) (.slice A n c) l
theorem PutAt.concat {w W : World} {h : Hd} {A : Option Addr} {n c g : Nat} {bs o : List Int} (hP : PutAt w W h A n c g bs) (hC : Kd.C (Kd.int .u8) w A n o) (hn : n ≤ 100) (hc : n ≤ c) :
    Calls Try.prog 34 #[.slice (some ⟨W.heap.size, 0, none⟩) 3 3] (W.alloc (.cells #[.slice (some ⟨w.heap.size, 8, none⟩) 4 4, .slice (some ⟨w.heap.size, 12, none⟩) 4 4, .slice A n c] 22)).drew fun e w' => ∃ A2 n2 c2, e = .returned (.slice A2 n2 c2) ∧ Kd.C (Kd.int .u8) w' A2 n2 ([h.s0, h.s1, h.s2, h.s3, h.d0, h.d1, h.d2, h.d3] ++ o) ∧ n2 ≤ c2 ∧ Aside0 (n2 = 8 + n) ∧ PutAt w w' h A n c g bs := by
  have hC1 := Kd.C_drew (C_new_rows3 (hd_src hP.2.1) (Nat.le_refl 4) (hd_dst hP.2.1) (Nat.le_refl 4) (Kd.C_below hC hP.1) hc)
  have hlen := hC.1
  refine (concat_any _ _ 3 3 _ hC1 (by decide) (by simp; omega)).mono ?_
  rintro e w' ⟨v, rfl, hv, hb⟩
  obtain ⟨A2, c2, rfl⟩ := Kd.R_slice hv
  refine ⟨_, _, _, rfl, ?_, ?_, ?_, ((hP.alloc _).drew).below hb⟩
  · have h2 := (C_of_R hv).1
    simpa using h2
  · exact (C_of_R hv).2
  · exact ⟨by simp; omega⟩
theorem PutAt.raw {w W : World} {h : Hd} {A A2 : Option Addr} {n c g n2 c2 : Nat} {bs l : List Int} (hP : PutAt w W h A n c g bs) (hC : Kd.C (Kd.int .u8) W A2 n2 l) (hn : bs.length + n2 ≤ 1000000) :
    Calls Try.prog 33 #[.pointer (some ⟨g, 0, none⟩), .slice A2 n2 c2] W fun e w' => e = .returned (.int .i64 0) ∧ PutAt w w' h A n c g (bs ++ l) :=
  (raw_any w.heap.size g 68 bs l A2 n2 c2 W hP.2.2.2 hC (Nat.le_of_lt hP.2.2.1) (by decide) (by omega)).mono fun e w' ⟨he, hw, hr⟩ => ⟨he, hP.wrote hr hw⟩
theorem PutAt.getb {w W : World} {h : Hd} {A : Option Addr} {n c g : Nat} {bs : List Int} (hP : PutAt w W h A n c g bs) (hn : bs.length ≤ 1000000) :
    Calls Try.prog 37 #[.pointer (some ⟨g, 0, none⟩)] W fun e w' => ∃ A2 n2 c2, e = .returned (.slice A2 n2 c2) ∧ Kd.R (Kd.int .u8) 5 w' W.heap.size (fun _ => True) (.slice A2 n2 c2) bs ∧ n2 ≤ c2 ∧ PutAt w w' h A n c g bs := by
  refine (wbytes_any w.heap.size g 68 bs W hP.2.2.2 hn).mono ?_
  rintro e w' ⟨v, rfl, hv, hb⟩
  obtain ⟨A2, c2, rfl⟩ := Kd.R_slice hv
  exact ⟨_, _, _, rfl, hv, (C_of_R hv).2, hP.below hb⟩
theorem PutAt.sum {w W : World} {h : Hd} {A A2 : Option Addr} {n c g n2 c2 : Nat} {bs l : List Int} (hP : PutAt w W h A n c g bs) (hC : Kd.C (Kd.int .u8) W A2 n2 l) (hc : n2 ≤ c2) (hl : bytes l) (hn : l.length ≤ 1000000) :
    Calls Try.prog 36 #[.slice (some ⟨W.heap.size, 0, none⟩) 1 1] (W.alloc (.cells #[.slice A2 n2 c2] 22)) fun e w' => e = .returned (.int .u16 (ck l)) ∧ PutAt w w' h A n c g bs := by
  refine (of_at [l] _ 1 1 _ (C_new_rows1n hC hc) (by simpa using hl) (by simp; omega) (by simp)).mono ?_
  rintro e w' ⟨rfl, hb⟩
  exact ⟨by simp, (hP.alloc _).below hb⟩
theorem PutAt.set {w W : World} {h : Hd} {A : Option Addr} {n c g : Nat} {bs : List Int} (hP : PutAt w W h A n c g bs) (hn : bs.length ≤ 1000000) (h12 : 12 ≤ bs.length) (v : Int) (hv : okN 2 v) :
    Calls Try.prog 35 #[.pointer (some ⟨g, 0, none⟩), .int .i64 10, .int .u64 v, .int .i64 2] W fun e w' => e = .returned (.int .i64 0) ∧ PutAt w w' h A n c g (splice bs 10 (be 2 v)) := by
  have h3 : v < 65536 := hv.2
  refine (wset_any w.heap.size g 68 bs 10 v 2 W hP.2.2.2 (Nat.le_of_lt hP.2.2.1) (by decide) hn hv.1 (by have e : (256 : Int) ^ 8 = 18446744073709551616 := rfl; omega) (by decide) (by decide) hv.2 (by omega)).mono ?_
  rintro e w' ⟨rfl, hw, hb⟩
  exact ⟨rfl, hP.1.trans (hb.mono (Nat.le_of_lt hP.2.2.1)), (hb.block _ hP.2.2.1).trans hP.2.1, hP.2.2.1, hw⟩
theorem ip_or4 (n : Nat) (hn : n ≤ 40) : bits .or .u64 64 ((20 + (n : Int)) / 4) = 64 + (20 + (n : Int)) / 4 :=
  bits_join .u64 60 (by decide) (fun n h0 h1 => wraps_u64 n h0 (by omega)) 6 64 _ (by decide) (by decide) (by decide) (by omega) (by omega) (by omega)
theorem ip_orF (a b : Bool) (x : Int) (h0 : 0 ≤ x) (h1 : x ≤ 8191) : bits .or .u64 (bits .or .u64 (fl a 16384) (fl b 8192)) x = fl a 16384 + fl b 8192 + x := by
  have e : bits .or .u64 (fl a 16384) (fl b 8192) = fl a 16384 + fl b 8192 := by cases a <;> cases b <;> decide
  rw [e]
  exact bits_join .u64 60 (by decide) (fun n h0 h1 => wraps_u64 n h0 (by omega)) 13 _ x (by cases a <;> cases b <;> decide) (by cases a <;> cases b <;> decide) (by cases a <;> cases b <;> decide) h0 (by omega) (by omega)
theorem w64_of {x m : Int} (h : inB x m) (hm : m ≤ 65535) : IntKind.u64.wrap x = x := wraps_u64 _ h.1 (by have := h.2; omega)
theorem w64_len (n : Nat) (hn : n ≤ 40) : IntKind.u64.wrap (IntKind.i64.wrap ((20 + (n : Int)).tdiv 4)) = (20 + (n : Int)) / 4 := by
  rw [Int.tdiv_eq_ediv_of_nonneg (by omega), IntWalk.i64_in _ (by omega), wraps_u64 _ (by omega) (by omega)]
theorem okN1 {x : Int} (h : inB x 255) : okN 1 x := ⟨h.1, by have := h.2; show x < 256; omega⟩
theorem okN2 {x : Int} (h : inB x 65535) : okN 2 x := ⟨h.1, by have := h.2; show x < 65536; omega⟩
theorem okF (a b : Bool) (x : Int) (h0 : 0 ≤ x) (h1 : x ≤ 8191) : okN 2 (fl a 16384 + fl b 8192 + x) := by
  refine ⟨?_, ?_⟩
  · cases a <;> cases b <;> simp [fl] <;> omega
  · show _ < (65536 : Int)
    cases a <;> cases b <;> simp [fl] <;> omega
theorem be1_of {x : Int} (h : inB x 255) : be 1 x = [x] := by
  rw [be_one]
  have h1 := h.1
  have h2 := h.2
  congr 1
  omega
theorem bytes_two' {a b : Int} (h : inB a 255) (k : inB b 255) : bytes [a, b] := by
  intro x hx
  rcases List.mem_cons.1 hx with rfl | hx
  · exact ⟨h.1, by have := h.2; omega⟩
  · rw [List.mem_singleton.1 hx]; exact ⟨k.1, by have := k.2; omega⟩
theorem bytes_stands {h : Hd} {o : List Int} {n : Nat} (hok : h.ok) (ho : bytes o) (h1 : h.frag ≤ 8191) (h2 : n ≤ 40) (hn : o.length = n) : bytes (stands h o 0) := by
  obtain ⟨a1, a2, a3, a4, a5, a6, a7, a8, a9, a10, a11, a12, a13, a14⟩ := hok
  unfold stands
  simp only [bytes_append]
  refine ⟨⟨⟨⟨⟨⟨⟨bytes_two' ⟨by omega, by omega⟩ a1, bytes_be _ _⟩, bytes_be _ _⟩, bytes_be _ _⟩, bytes_two' a5 a6⟩, bytes_be _ _⟩, ?_⟩, ho⟩
  have e : [h.s0, h.s1, h.s2, h.s3, h.d0, h.d1, h.d2, h.d3] = [h.s0, h.s1] ++ [h.s2, h.s3] ++ [h.d0, h.d1] ++ [h.d2, h.d3] := rfl
  rw [e]
  simp only [bytes_append]
  exact ⟨⟨⟨bytes_two' a7 a8, bytes_two' a9 a10⟩, bytes_two' a11 a12⟩, bytes_two' a13 a14⟩
/-- its whole, once all regions are known -/
theorem splice_stands (h : Hd) (o : List Int) (v : Int) : splice (stands h o 0) 10 (be 2 v) = stands h o v := by
  simp [splice, stands, be_two, List.take, List.drop]
end Go.Proofs.Ytknpaihlnkcpgaa.Own
/- ip.Put of a header that is right. (written by wip/gen_put.py) -/
set_option linter.unusedVariables false
set_option linter.unusedSimpArgs false
namespace Go.Proofs.Ytknpaihlnkcpgaa.Own
open Go.RowKit Go.Proofs.YtknpaihlnkcpgaaW.PrintWords Go.Proofs.YtknpaihlnkcpgaaW.PrintLast Go.Proofs.YtknpaihlnkcpgaaW.PrintMore
attribute [local go_sem ↓] ld17 ld4 sv_hd
attribute [local go_sem] run_sv_hd gv_some isV_some pick2_true stc nfz_false oc1_int oc1_bool oc1_string oc1_slice oc1_pointer oc1_func pick1_true setCells_new setCells_past setCells_drew

set_option maxRecDepth 100000 in
set_option maxHeartbeats 8000000 in
theorem put_right (h : Hd) (A : Option Addr) (n c : Nat) (o : List Int) (w : World) (hok : h.ok) (hn : n ≤ 1000000) (hr : rightB h n = true) (hC : Kd.C (Kd.int .u8) w A n o) (hc : n ≤ c) (ho : bytes o) :
    Calls Try.prog 13 #[.agg (hcs h A n c)] w fun e w' => ∃ x, e = .returned (.tuple #[x, .int .i64 0]) ∧ Kd.R (Kd.int .u8) 5 w' w.heap.size (fun _ => True) x (stands h o (ck (stands h o 0))) ∧ Below w.heap.size w w' := by
  have hq := right_hd h A n c (w.alloc (.cells (hcs h A n c) 39)) hn hok.2.1
  rw [hr] at hq
  have hcc := hd_cells (heap_alloc_new w (.cells (hcs h A n c) 39))
  have hl := fun W => len_hd h A n c W hn
  have hR : h.frag ≤ 8191 ∧ n % 4 = 0 ∧ n ≤ 40 ∧ (20 : Int) + n ≤ h.total := of_decide_eq_true hr
  obtain ⟨hR1, hR2, hR3, hR4⟩ := hR
  have HOK := Aside0.mk hok
  have HC := Aside0.mk hC
  have HC1 := Aside0.mk hc
  have HO := Aside0.mk ho
  have HBY := Aside0.mk (bytes_stands hok ho hR1 hR3 hC.1)
  have hor4 := ip_or4 n hR3
  have horF := ip_orF h.df h.mf h.frag hok.2.2.2.1.1 hR1
  obtain ⟨⟨b0, b1⟩, ⟨b2, b3⟩, ⟨b4, b5⟩, ⟨b6, b7⟩, ⟨b8, b9⟩, ⟨b10, b11⟩, _⟩ := hok
  clear hr hC hc ho hR2 hR4
  obtain ⟨tos, total, id, df, mf, frag, ttl, proto, s0, s1, s2, s3, d0, d1, d2, d3⟩ := h
  dsimp only at b0 b1 b2 b3 b4 b5 b6 b7 b8 b9 b10 b11 hR1 horF
  dsimp only [hcs] at hcc hq hl
  go_enter Try.func13, Try.ntmps13
  go_upto_region 4 with (go_at_call 15; go_must (with_reducible refine hq.mono ?_); rintro e w1 ⟨rfl, hb1⟩)
  have hP := putAt_new (h := ⟨tos, total, id, df, mf, frag, ttl, proto, s0, s1, s2, s3, d0, d1, d2, d3⟩) hb1
  clear hcc hq hb1
  obtain ⟨g, hg⟩ : ∃ g, w1.heap.size = g := ⟨_, rfl⟩
  rw [hg] at hP ⊢
  generalize w1.alloc (.cells #[.slice none 0 0] 68) = W at hP ⊢
  clear hg
  have HP := Aside0.mk hP
  clear hP
  go_cut [20] (fun _ wx => Aside0 (PutAt w wx ⟨tos, total, id, df, mf, frag, ttl, proto, s0, s1, s2, s3, d0, d1, d2, d3⟩ A n c g ([64 + (20 + (n : Int)) / 4, tos])))
  case first =>
    have hcc := hd_cells HP.out.2.1
    dsimp only [hcs] at hcc
    obtain ⟨c0, c1, c2, c3, c4, c5, c6, c7, c8, c9, c10, c11, c12, c13, c14, c15, c16⟩ := hcc
    have hp2 := fun (W2 : World) (hP2 : PutAt w W2 ⟨tos, total, id, df, mf, frag, ttl, proto, s0, s1, s2, s3, d0, d1, d2, d3⟩ A n c g []) => hP2.puts2 (by simp) 1 1 rfl (by decide) (by decide) p256_1 (64 + (20 + (n : Int)) / 4) tos ⟨by omega, by show _ < (256 : Int); omega⟩ ⟨b0, by show _ < (256 : Int); omega⟩
    have e1 : be 1 (64 + (20 + (n : Int)) / 4) = [64 + (20 + (n : Int)) / 4] := be1_of ⟨by omega, by omega⟩
    have e2 : be 1 tos = [tos] := be1_of ⟨b0, b1⟩
    rw [e1, e2] at hp2
    clear e1 e2
    have hw1 := w64_len n hR3
    have hw2 : IntKind.u64.wrap tos = tos := w64_of HOK.out.1 (by decide)
    go_region_held3 (fun w' => w'.cell? ⟨w.heap.size, 0, none⟩ = some (.int .u8 tos) ∧ w'.cell? ⟨w.heap.size, 1, none⟩ = some (.int .u16 total) ∧ w'.cell? ⟨w.heap.size, 2, none⟩ = some (.int .u16 id) ∧ w'.cell? ⟨w.heap.size, 3, none⟩ = some (.bool df) ∧ w'.cell? ⟨w.heap.size, 4, none⟩ = some (.bool mf) ∧ w'.cell? ⟨w.heap.size, 5, none⟩ = some (.int .u16 frag) ∧ w'.cell? ⟨w.heap.size, 6, none⟩ = some (.int .u8 ttl) ∧ w'.cell? ⟨w.heap.size, 7, none⟩ = some (.int .u8 proto) ∧ w'.cell? ⟨w.heap.size, 8, none⟩ = some (.int .u8 s0) ∧ w'.cell? ⟨w.heap.size, 9, none⟩ = some (.int .u8 s1) ∧ w'.cell? ⟨w.heap.size, 10, none⟩ = some (.int .u8 s2) ∧ w'.cell? ⟨w.heap.size, 11, none⟩ = some (.int .u8 s3) ∧ w'.cell? ⟨w.heap.size, 12, none⟩ = some (.int .u8 d0) ∧ w'.cell? ⟨w.heap.size, 13, none⟩ = some (.int .u8 d1) ∧ w'.cell? ⟨w.heap.size, 14, none⟩ = some (.int .u8 d2) ∧ w'.cell? ⟨w.heap.size, 15, none⟩ = some (.int .u8 d3) ∧ w'.cell? ⟨w.heap.size, 16, none⟩ = some (.slice A n c)) (first | exact ⟨c0, c1, c2, c3, c4, c5, c6, c7, c8, c9, c10, c11, c12, c13, c14, c15, c16⟩ | exact held17 hb2 ⟨c0, c1, c2, c3, c4, c5, c6, c7, c8, c9, c10, c11, c12, c13, c14, c15, c16⟩ | exact held17 (below_alloc1 w2 _) (held17 hb2 ⟨c0, c1, c2, c3, c4, c5, c6, c7, c8, c9, c10, c11, c12, c13, c14, c15, c16⟩) | exact hd_cells hP3.2.1) (first | (go_at_call 31; go_must (with_reducible refine (hl _).mono ?_); rintro e w2 ⟨rfl, hb2⟩) | (go_at_call 30; go_must (with_reducible refine (hp2 _ (HP.out.drew.below hb2)).mono ?_); rintro e w3 ⟨rfl, hP3⟩))
    go_wp2
    go_meet
    exact ⟨hP3⟩
  case rest =>
    clear HP hl hor4
    have HP := hcut
    clear hcut
    go_upto_region 5 with fail
    go_cut [40] (fun _ wx => Aside0 (PutAt w wx ⟨tos, total, id, df, mf, frag, ttl, proto, s0, s1, s2, s3, d0, d1, d2, d3⟩ A n c g ([64 + (20 + (n : Int)) / 4, tos] ++ (be 2 total ++ be 2 id ++ be 2 (fl df 16384 + fl mf 8192 + frag)))))
    case first =>
      have hcc := hd_cells HP.out.2.1
      dsimp only [hcs] at hcc
      obtain ⟨c0, c1, c2, c3, c4, c5, c6, c7, c8, c9, c10, c11, c12, c13, c14, c15, c16⟩ := hcc
      have hp3 := fun (W2 : World) (hP2 : PutAt w W2 ⟨tos, total, id, df, mf, frag, ttl, proto, s0, s1, s2, s3, d0, d1, d2, d3⟩ A n c g [64 + (20 + (n : Int)) / 4, tos]) => hP2.puts3d (by simp) 2 2 rfl (by decide) (by decide) p256_2 total id (fl df 16384 + fl mf 8192 + frag) (okN2 ⟨b2, b3⟩) (okN2 ⟨b4, b5⟩) (okF df mf frag b6 hR1)
      have hw1 : IntKind.u64.wrap total = total := w64_of HOK.out.2.1 (by decide)
      have hw2 : IntKind.u64.wrap id = id := w64_of HOK.out.2.2.1 (by decide)
      have hw3 : IntKind.u64.wrap frag = frag := w64_of HOK.out.2.2.2.1 (by decide)
      go_region_held3 (fun w' => w'.cell? ⟨w.heap.size, 0, none⟩ = some (.int .u8 tos) ∧ w'.cell? ⟨w.heap.size, 1, none⟩ = some (.int .u16 total) ∧ w'.cell? ⟨w.heap.size, 2, none⟩ = some (.int .u16 id) ∧ w'.cell? ⟨w.heap.size, 3, none⟩ = some (.bool df) ∧ w'.cell? ⟨w.heap.size, 4, none⟩ = some (.bool mf) ∧ w'.cell? ⟨w.heap.size, 5, none⟩ = some (.int .u16 frag) ∧ w'.cell? ⟨w.heap.size, 6, none⟩ = some (.int .u8 ttl) ∧ w'.cell? ⟨w.heap.size, 7, none⟩ = some (.int .u8 proto) ∧ w'.cell? ⟨w.heap.size, 8, none⟩ = some (.int .u8 s0) ∧ w'.cell? ⟨w.heap.size, 9, none⟩ = some (.int .u8 s1) ∧ w'.cell? ⟨w.heap.size, 10, none⟩ = some (.int .u8 s2) ∧ w'.cell? ⟨w.heap.size, 11, none⟩ = some (.int .u8 s3) ∧ w'.cell? ⟨w.heap.size, 12, none⟩ = some (.int .u8 d0) ∧ w'.cell? ⟨w.heap.size, 13, none⟩ = some (.int .u8 d1) ∧ w'.cell? ⟨w.heap.size, 14, none⟩ = some (.int .u8 d2) ∧ w'.cell? ⟨w.heap.size, 15, none⟩ = some (.int .u8 d3) ∧ w'.cell? ⟨w.heap.size, 16, none⟩ = some (.slice A n c)) (first | exact ⟨c0, c1, c2, c3, c4, c5, c6, c7, c8, c9, c10, c11, c12, c13, c14, c15, c16⟩ | exact held17 (below_drew (below_alloc1 _ _)) ⟨c0, c1, c2, c3, c4, c5, c6, c7, c8, c9, c10, c11, c12, c13, c14, c15, c16⟩ | exact hd_cells hP3.2.1) (first | (go_at_call 32; go_must (with_reducible refine (flag_any _ _ _).mono ?_); rintro e w2 ⟨rfl, rfl⟩) | (go_at_call 30; go_must (with_reducible refine (hp3 _ HP.out).mono ?_); rintro e w3 ⟨rfl, hP3⟩))
      all_goals (
        go_wp2
        go_meet
        exact ⟨hP3⟩)
    case rest =>
      clear HP horF
      have HP := hcut
      clear hcut
      obtain ⟨c0, c1, c2, c3, c4, c5, c6, c7, c8, c9, c10, c11, c12, c13, c14, c15, c16⟩ := hd_cells HP.out.2.1
      have hp4 := fun (W2 : World) (h2 : PutAt w W2 ⟨tos, total, id, df, mf, frag, ttl, proto, s0, s1, s2, s3, d0, d1, d2, d3⟩ A n c g ([64 + (20 + (n : Int)) / 4, tos] ++ (be 2 total ++ be 2 id ++ be 2 (fl df 16384 + fl mf 8192 + frag)))) => h2.puts2 (by simp [be_length]) 1 1 rfl (by decide) (by decide) p256_1 ttl proto (okN1 ⟨b8, b9⟩) (okN1 ⟨b10, b11⟩)
      have e1 : be 1 ttl = [ttl] := be1_of ⟨b8, b9⟩
      have e2 : be 1 proto = [proto] := be1_of ⟨b10, b11⟩
      rw [e1, e2] at hp4
      clear e1 e2
      go_upto_region 7 with (go_at_call 30; go_must (with_reducible refine (hp4 _ HP.out).mono ?_); rintro e w4 ⟨rfl, hP4⟩)
      clear hp4 HP c0 c1 c2 c3 c4 c5 c6 c7 c8 c9 c10 c11 c12 c13 c14 c15 c16
      have hp5 := hP4.puts1 (by simp [be_length]) 2 2 rfl (by decide) (by decide) p256_2 0 ⟨by decide, by decide⟩
      go_upto_region 8 with (go_at_call 30; go_must (with_reducible refine hp5.mono ?_); rintro e w5 ⟨rfl, hP5⟩)
      clear hp5 hP4
      have HP := Aside0.mk hP5
      clear hP5
      go_cut [70] (fun _ wx => Aside0 (PutAt w wx ⟨tos, total, id, df, mf, frag, ttl, proto, s0, s1, s2, s3, d0, d1, d2, d3⟩ A n c g (stands ⟨tos, total, id, df, mf, frag, ttl, proto, s0, s1, s2, s3, d0, d1, d2, d3⟩ o 0)))
      case first =>
        have hc16 := (hd_cells HP.out.2.1).2.2.2.2.2.2.2.2.2.2.2.2.2.2.2.2
        have hlen : ∀ n2, Aside0 (n2 = 8 + n) → ([64 + (20 + (n : Int)) / 4, tos] ++ (be 2 total ++ be 2 id ++ be 2 (fl df 16384 + fl mf 8192 + frag)) ++ ([ttl] ++ [proto]) ++ be 2 0).length + n2 ≤ 1000000 := fun n2 h => by have := h.out; simp [be_length]; omega
        have hcc := HP.out.concat HC.out (by omega) HC1.out
        go_region_held3 (fun w' => w'.cell? ⟨w.heap.size, 16, none⟩ = some (.slice A n c)) (first | exact hc16 | exact pw_cell_below (below_drew (below_alloc1 _ _)) hc16 | exact (hd_cells hP6.2.1).2.2.2.2.2.2.2.2.2.2.2.2.2.2.2.2 | exact (hd_cells hP7.2.1).2.2.2.2.2.2.2.2.2.2.2.2.2.2.2.2) (first | (go_at_call 34; go_must (with_reducible refine hcc.mono ?_); rintro e w6 ⟨A2, n2, c2, rfl, hC6, hn6, hn7, hP6⟩) | (go_at_call 33; go_must (with_reducible refine (hP6.raw hC6 (hlen _ hn7)).mono ?_); rintro e w7 ⟨rfl, hP7⟩))
        go_wp2
        go_meet
        exact ⟨by simpa [stands, HC.out.1] using hP7⟩
      case rest =>
        clear HP
        have HP := hcut
        clear hcut
        have hby : bytes (stands ⟨tos, total, id, df, mf, frag, ttl, proto, s0, s1, s2, s3, d0, d1, d2, d3⟩ o 0) := HBY.out
        have hll : (stands ⟨tos, total, id, df, mf, frag, ttl, proto, s0, s1, s2, s3, d0, d1, d2, d3⟩ o 0).length = 20 + n := by
          have := HC.out.1
          simp [stands, be_length]
          omega
        obtain ⟨L, eL⟩ : ∃ L, stands ⟨tos, total, id, df, mf, frag, ttl, proto, s0, s1, s2, s3, d0, d1, d2, d3⟩ o 0 = L := ⟨_, rfl⟩
        rw [eL] at hby hll HP
        have HBL := Aside0.mk hby
        have HLL := Aside0.mk hll
        have HEL := Aside0.mk eL
        have hl12 : 12 ≤ L.length := by omega
        have hl6 : L.length ≤ 1000000 := by omega
        have hck := ck_range L hby
        obtain ⟨v, ev⟩ : ∃ v, ck L = v := ⟨_, rfl⟩
        rw [ev] at hck
        have hwv : IntKind.u64.wrap v = v := wraps_u64 _ hck.1 (by omega)
        have HEV := Aside0.mk ev
        have hov : okN 2 v := ⟨hck.1, by show v < (65536 : Int); omega⟩
        have hsum : ∀ {W : World} {A2 : Option Addr} {n2 c2 : Nat} (h1 : PutAt w W ⟨tos, total, id, df, mf, frag, ttl, proto, s0, s1, s2, s3, d0, d1, d2, d3⟩ A n c g L) (h2 : Kd.C (Kd.int .u8) W A2 n2 L) (h3 : n2 ≤ c2), Calls Try.prog 36 #[.slice (some ⟨W.heap.size, 0, none⟩) 1 1] (W.alloc (.cells #[.slice A2 n2 c2] 22)) fun e w' => e = .returned (.int .u16 v) ∧ PutAt w w' ⟨tos, total, id, df, mf, frag, ttl, proto, s0, s1, s2, s3, d0, d1, d2, d3⟩ A n c g L := fun h1 h2 h3 => by
          have := h1.sum h2 h3 HBL.out hl6
          rw [HEV.out] at this
          exact this
        clear hby hll eL hck ev
        go_upto_region 9 with fail
        go_cut [70] (fun _ wx => Aside0 (PutAt w wx ⟨tos, total, id, df, mf, frag, ttl, proto, s0, s1, s2, s3, d0, d1, d2, d3⟩ A n c g (splice L 10 (be 2 v))))
        case first =>
          go_region_held3 (fun w' => True) (trivial) (first | (go_at_call 37; go_must (with_reducible refine (HP.out.drew.getb hl6).mono ?_); rintro e w6 ⟨A2, n2, c2, rfl, hR6, hn6, hP6⟩) | (go_at_call 36; go_must (with_reducible refine (hsum hP6 (C_of_R hR6).1 hn6).mono ?_); rintro e w7 ⟨rfl, hP7⟩) | (go_at_call 35; go_must (with_reducible refine (hP7.set hl6 hl12 v hov).mono ?_); rintro e w8 ⟨rfl, hP8⟩))
          go_wp2
          go_meet
          exact ⟨hP8⟩
        case rest =>
          clear HP hsum
          have HP := hcut
          clear hcut
          have hsp : splice L 10 (be 2 v) = stands ⟨tos, total, id, df, mf, frag, ttl, proto, s0, s1, s2, s3, d0, d1, d2, d3⟩ o v := by rw [← HEL.out, splice_stands]
          rw [hsp] at HP
          have hl7 : (stands ⟨tos, total, id, df, mf, frag, ttl, proto, s0, s1, s2, s3, d0, d1, d2, d3⟩ o v).length ≤ 1000000 := by have := HC.out.1; simp [stands, be_length]; omega
          obtain ⟨M, eM⟩ : ∃ M, stands ⟨tos, total, id, df, mf, frag, ttl, proto, s0, s1, s2, s3, d0, d1, d2, d3⟩ o v = M := ⟨_, rfl⟩
          rw [eM] at HP hl7
          have HEM := Aside0.mk eM
          clear hsp eM
          go_wp2_with (go_at_call 37; go_must (with_reducible refine (HP.out.getb hl7).mono ?_); rintro e w6 ⟨A2, n2, c2, rfl, hR6, hn6, hP6⟩)
          refine bodyPost_ret (results_tmp2 rfl _ _ _) rfl ?_
          refine ⟨_, rfl, ?_, hP6.1⟩
          rw [HEL.out, HEV.out, HEM.out]
          exact Kd.R_lower hR6 HP.out.1.size
end Go.Proofs.Ytknpaihlnkcpgaa.Own
/- ip.Parse on rows that it refuses at once (for the works of chapter 05). -/
set_option linter.unusedVariables false
set_option linter.unusedSimpArgs false
namespace Go.Proofs.Ytknpaihlnkcpgaa.Own
open Go.RowKit Go.Proofs.YtknpaihlnkcpgaaW.PrintWords Go.Proofs.YtknpaihlnkcpgaaW.PrintLast Go.Proofs.YtknpaihlnkcpgaaW.PrintMore
attribute [local go_sem ↓] ld17 ld4 sv_hd
attribute [local go_sem] run_sv_hd gv_some isV_some pick2_true stc nfz_false oc1_int oc1_bool oc1_string oc1_slice oc1_pointer oc1_func pick1_true setCells_new setCells_past setCells_drew

/-- the header that is nothing -/
abbrev noHd : Value := .agg (hcs ⟨0, 0, 0, false, false, 0, 0, 0, 0, 0, 0, 0, 0, 0, 0, 0⟩ none 0 0)
set_option maxRecDepth 100000 in
theorem parse_short (A : Option Addr) (n c : Nat) (w : World) (hn : n < 20) :
    Calls Try.prog 19 #[.slice A n c] w fun e w' => e = .returned (.tuple #[noHd, .int .i64 0, .int .i64 10]) ∧ Below w.heap.size w w' := by
  go_enter Try.func19, Try.ntmps19
  go_wp2
  have hc := hd_cells (heap_alloc_new w (.cells (hcs ⟨0, 0, 0, false, false, 0, 0, 0, 0, 0, 0, 0, 0, 0, 0, 0⟩ none 0 0) 39))
  refine bodyPost_ret (v := .tuple #[noHd, .int .i64 0, .int .i64 10]) ?_ rfl ⟨rfl, below_alloc1 w _⟩
  simp only [hcs] at hc
  simp [results, Try.results19, go_sem, hc]
set_option maxRecDepth 100000 in
theorem parse_version (b : List Int) (A : Option Addr) (n c : Nat) (w : World) (hC : Kd.C (Kd.int .u8) w A n b) (hn : 20 ≤ n) (h0 : b.getD 0 0 = 0) :
    Calls Try.prog 19 #[.slice A n c] w fun e w' => e = .returned (.tuple #[noHd, .int .i64 0, .int .i64 50]) ∧ Below w.heap.size w w' := by
  obtain ⟨ad, rfl, hx⟩ := Kd.at_int hC 0 (by omega) (by omega)
  have e0 : ad.add (0 : Int).toNat = ad := Addr.add_zero' ad
  have hx2 : w.cell? ad = some (.int .u8 (b.getD 0 0)) := by rw [e0] at hx; exact hx
  rw [h0] at hx2
  have hx3 := (below_alloc1 w (.cells (hcs ⟨0, 0, 0, false, false, 0, 0, 0, 0, 0, 0, 0, 0, 0, 0, 0⟩ none 0 0) 39)).cell (p := ad) (World.block_lt_of_cell? w _ hx2)
  rw [hx2] at hx3
  simp only [hcs] at hx3
  clear hC hx e0 h0
  go_enter Try.func19, Try.ntmps19
  go_wp2
  have hc := hd_cells (heap_alloc_new w (.cells (hcs ⟨0, 0, 0, false, false, 0, 0, 0, 0, 0, 0, 0, 0, 0, 0, 0⟩ none 0 0) 39))
  refine bodyPost_ret (v := .tuple #[noHd, .int .i64 0, .int .i64 50]) ?_ rfl ⟨rfl, below_alloc1 w _⟩
  simp only [hcs] at hc
  simp [results, Try.results19, go_sem, hc]
end Go.Proofs.Ytknpaihlnkcpgaa.Own
/- The options of bytes, in plain Lean. -/
set_option linter.unusedVariables false
set_option linter.unusedSimpArgs false
namespace Go.Proofs.Ytknpaihlnkcpgaa.Own

/-- the options of bytes; none: there is one that may not be -/
def optsF : Nat → List Int → Option (List (Int × List Int))
  | 0, _ => some []
  | n + 1, l => if l.length = 0 ∨ l.getD 0 0 = 0 then some [] else if l.getD 0 0 = 1 then optsF n (l.drop 1)
    else if l.length < 2 ∨ l.getD 1 0 < 2 ∨ (l.length : Int) < l.getD 1 0 then none
    else (optsF n (l.drop (l.getD 1 0).toNat)).map (fun D => (l.getD 0 0, (l.take (l.getD 1 0).toNat).drop 2) :: D)
def opts (l : List Int) : Option (List (Int × List Int)) := optsF l.length l
theorem optsF_more : ∀ (n m : Nat) (l : List Int), l.length ≤ n → n ≤ m → optsF m l = optsF n l := by
  intro n
  induction n with
  | zero =>
    intro m l h hm
    have : l = [] := List.eq_nil_of_length_eq_zero (by omega)
    subst this
    cases m <;> simp [optsF]
  | succ n ih =>
    intro m l h hm
    obtain ⟨m, rfl⟩ : ∃ k, m = k + 1 := ⟨m - 1, by omega⟩
    unfold optsF
    by_cases h0 : l.length = 0 ∨ l.getD 0 0 = 0
    · rw [if_pos h0, if_pos h0]
    · rw [if_neg h0, if_neg h0]
      by_cases h1 : l.getD 0 0 = 1
      · rw [if_pos h1, if_pos h1, ih m (l.drop 1) (by simp; omega) (by omega)]
      · rw [if_neg h1, if_neg h1]
        by_cases h2 : l.length < 2 ∨ l.getD 1 0 < 2 ∨ (l.length : Int) < l.getD 1 0
        · rw [if_pos h2, if_pos h2]
        · rw [if_neg h2, if_neg h2, ih m (l.drop (l.getD 1 0).toNat) (by rw [List.length_drop]; omega) (by omega)]
theorem opts_nil {l : List Int} (h : l.length = 0 ∨ l.getD 0 0 = 0) : opts l = some [] := by
  unfold opts
  cases hl : l.length with
  | zero => simp [optsF]
  | succ n => unfold optsF; rw [if_pos (by omega)]
theorem opts_one {l : List Int} (h : l.length ≠ 0) (h1 : l.getD 0 0 = 1) : opts l = opts (l.drop 1) := by
  unfold opts
  obtain ⟨n, hn⟩ : ∃ k, l.length = k + 1 := ⟨l.length - 1, by omega⟩
  rw [hn]
  conv => lhs; unfold optsF
  rw [if_neg (by omega), if_pos h1]
  exact optsF_more _ _ _ (Nat.le_refl _) (by simp; omega)
theorem opts_bad {l : List Int} (h : l.length ≠ 0) (h0 : l.getD 0 0 ≠ 0) (h1 : l.getD 0 0 ≠ 1) (h2 : l.length < 2 ∨ l.getD 1 0 < 2 ∨ (l.length : Int) < l.getD 1 0) : opts l = none := by
  unfold opts
  obtain ⟨n, hn⟩ : ∃ k, l.length = k + 1 := ⟨l.length - 1, by omega⟩
  rw [hn]
  unfold optsF
  rw [if_neg (by omega), if_neg h1, if_pos h2]
theorem opts_cons {l : List Int} (h0 : l.getD 0 0 ≠ 0) (h1 : l.getD 0 0 ≠ 1) (h2 : ¬ (l.length < 2 ∨ l.getD 1 0 < 2 ∨ (l.length : Int) < l.getD 1 0)) :
    opts l = (opts (l.drop (l.getD 1 0).toNat)).map (fun D => (l.getD 0 0, (l.take (l.getD 1 0).toNat).drop 2) :: D) := by
  unfold opts
  obtain ⟨n, hn⟩ : ∃ k, l.length = k + 1 := ⟨l.length - 1, by omega⟩
  rw [hn]
  conv => lhs; unfold optsF
  rw [if_neg (by omega), if_neg h1, if_neg h2]
  congr 1
  exact optsF_more _ _ _ (Nat.le_refl _) (by rw [List.length_drop]; omega)
theorem optsF_length : ∀ (n : Nat) (l : List Int) (D : List (Int × List Int)), optsF n l = some D → D.length ≤ n := by
  intro n
  induction n with
  | zero => intro l D h; cases h; exact Nat.le_refl _
  | succ n ih =>
    intro l D h
    unfold optsF at h
    split at h
    · cases h; exact Nat.zero_le _
    · split at h
      · have := ih _ _ h; omega
      · split at h
        · cases h
        · obtain ⟨E, hE, rfl⟩ := Option.map_eq_some_iff.1 h
          have := ih _ _ hE
          simp
          omega
theorem opts_length {l : List Int} {D : List (Int × List Int)} (h : opts l = some D) : D.length ≤ l.length := optsF_length _ _ _ h
end Go.Proofs.Ytknpaihlnkcpgaa.Own
/- ip.options' closure: an iterator that keeps its state in a captured box. -/
set_option linter.unusedVariables false
set_option linter.unusedSimpArgs false
namespace Go.Proofs.Ytknpaihlnkcpgaa.Own
open Go.RowKit Go.Proofs.YtknpaihlnkcpgaaW.PrintWords Go.Proofs.YtknpaihlnkcpgaaW.PrintLast Go.Proofs.YtknpaihlnkcpgaaW.PrintMore

/-- an option as the iterator hands it over: its kind, its data's slice, its data -/
abbrev OptV := Int × Value × List Int
def optsOf (D : List OptV) : List (Int × List Int) := D.map fun x => (x.1, x.2.2)
/-- how many bytes the box's slice has -/
def boxLen (Bn : Nat) (W : World) : Nat := match W.cell? ⟨Bn, 0, none⟩ with
  | some (.slice _ n _) => n
  | _ => 0
theorem boxLen_eq {Bn t n c : Nat} {A : Option Addr} {W : World} (h : Boxed W Bn t (.slice A n c)) : boxLen Bn W = n := by
  unfold boxLen; rw [h.cell]

attribute [local go_sem] Oper.semAt_some

set_option maxRecDepth 100000 in
set_option maxHeartbeats 2000000 in
theorem iter_in (Bn l N : Nat) (w0 : World) (J : List OptV → World → Prop) (Jx : World → Prop)
    (hBn : w0.heap.size ≤ Bn)
    (hJb : ∀ s A A', J s A → Below A.heap.size A A' → J s A')
    (hJs : ∀ s A v, J s A → J s (A.setCell ⟨Bn, 0, none⟩ v))
    (hJw : ∀ s A, J s A → Below w0.heap.size w0 A)
    (hY : ∀ pre k v d W0 W1, J pre W0 → Below W0.heap.size W0 W1 → 0 ≤ k → k ≤ 255 → bytes d → d.length ≤ 255 → pre.length < N → Kd.R (Kd.int .u8) 5 W1 W0.heap.size (fun _ => True) v d →
      YieldAt Fence.wide 0 Try.prog l #[.agg #[.int .u8 k, v], .bool true] W1 fun e W' => e = .returned (.bool true) ∧ J (pre ++ [(k, v, d)]) W' ∧ W'.heap[Bn]? = W1.heap[Bn]?)
    (hNo : ∀ pre W1, J pre W1 → YieldAt Fence.wide 0 Try.prog l #[.agg #[.int .u8 0, .slice none 0 0], .bool false] W1 fun e W' => e = .returned (.bool false) ∧ Jx W')
    (b : List Int) (hb : bytes b) (hbn : b.length ≤ N) (A : Option Addr) (c : Nat) (hr : Kd.C (Kd.int .u8) w0 A b.length b) (hc : b.length ≤ c) (W : World) (hB : Boxed W Bn 22 (.slice A b.length c)) (h0 : J [] W) :
    CallsIn Fence.wide 0 Try.prog 47 #[.func (.yield l) #[] #[], .pointer (some ⟨Bn, 0, none⟩)] W fun e W' => (∃ v, e = .returned v) ∧
      ((∃ D, opts b = some (optsOf D) ∧ J D W') ∨ (opts b = none ∧ Jx W')) := by
  refine callsIn_of_wp Try.func47 rfl trivial ?_ rfl
  simp only [Try.ntmps47, List.size_toArray, List.length_cons, List.length_nil, Nat.reduceAdd, Nat.reduceSub, Array.replicate_succ, Array.replicate_zero, List.push_toArray, List.append_toArray, List.nil_append, List.cons_append]
  gi_wp2
  have hinfo := info_u8
  gi_loopw [3] (fun p wr => ∃ (pre : List OptV) (r : List Int) (A' : Option Addr) (n' c' : Nat), r.length = n' ∧ n' ≤ c' ∧ n' + pre.length ≤ N ∧ Aside0 (bytes r) ∧ Aside0 (Boxed wr Bn 22 (.slice A' n' c')) ∧ Aside0 (Kd.C (Kd.int .u8) w0 A' n' r) ∧ Aside0 (opts b = (opts r).map (optsOf pre ++ ·)) ∧ Aside0 (J pre wr))
    (fun p wr => boxLen Bn wr)
  case atStart =>
    exact ⟨[], b, A, b.length, c, rfl, hc, by simpa using hbn, ⟨hb⟩, ⟨hB⟩, ⟨hr⟩, ⟨by simp [optsOf]⟩, ⟨h0⟩⟩
  case round =>
    clear hB h0 hr hb hc
    obtain ⟨pre, r, A', n', c', hrl, hnc, hpN, HBY, HBX, HR, HO, HJ⟩ := hrel
    have hcell := HBX.out.cell
    have hfrz := HBX.out.frozen
    have HW := Aside0.mk (hJw _ _ HJ.out)
    rcases Nat.eq_zero_or_pos n' with hn0 | hn0
    · gi_wp2
      go_end0
      exact ⟨⟨_, rfl⟩, .inl ⟨pre, by rw [HO.out, opts_nil (.inl (by omega))]; simp, HJ.out⟩⟩
    · obtain ⟨ad, rfl, hx⟩ := Kd.at_int HR.out 0 (by omega) (by omega)
      have hw := HW.out
      have hx0 : wr.cell? ad = some (.int .u8 (rd r 0)) := by
        have h := (hw.cell (World.block_lt_of_cell? w0 _ hx)).trans hx
        have e0 : ad.add (0 : Int).toNat = ad := Addr.add_zero' ad
        rw [e0] at h; exact h
      have hxr := bytes_getD HBY.out 0
      have hxe : rd r 0 = r.getD 0 0 := rfl
      rw [hxe] at hx0
      obtain ⟨x, ex⟩ : ∃ x, r.getD 0 0 = x := ⟨_, rfl⟩
      rw [ex] at hx0 hxr
      obtain ⟨x0, x1⟩ := hxr
      clear hx hxe hw
      have HX := Aside0.mk ex
      clear ex
      by_cases hz : x = 0
      · subst hz
        gi_wp2
        go_end0
        exact ⟨⟨_, rfl⟩, .inl ⟨pre, by rw [HO.out, opts_nil (.inr HX.out)]; simp, HJ.out⟩⟩
      · by_cases h1 : x = 1
        · subst h1
          obtain ⟨T, A2, m2, c2, hrun, hC2, hmc, hT, hm⟩ := cut_drop (some ad) n' c' r 1 hrl (by omega) (by omega) hnc
          have HC2 := Aside0.mk (hC2 w0 HR.out)
          have HT := Aside0.mk hT
          clear hC2 hT
          gi_wp2
          go_roundw
          case rel =>
            refine ⟨pre, T, A2, m2, c2, HC2.out.1, hmc, by omega, ⟨by rw [HT.out]; exact bytes_drop HBY.out _⟩, ⟨HBX.out.set _⟩, ⟨HC2.out⟩, ⟨?_⟩, ⟨hJs _ _ _ HJ.out⟩⟩
            rw [HO.out, opts_one (by omega) HX.out, HT.out]; rfl
          case measure => rw [boxLen_eq HBX.out, boxLen_eq (HBX.out.set _)]; omega
        · rcases Nat.lt_or_ge n' 2 with hn2 | hn2
          · have hn1 : n' = 1 := by omega
            subst hn1
            gi_wp2
            refine wpIn_wide.2 ?_
            go_quiet (fail)
            have HJd := Aside0.mk (hJb _ _ _ HJ.out (pw_below_drewN (Below.refl wr.heap.size wr) nq))
            obtain ⟨f, tm, asg, bd, hy, hRd⟩ := hNo pre _ HJd.out
            gi_wp2
            refine ⟨rfl, hRd.mono ?_⟩
            rintro e W3 ⟨rfl, hJx3⟩
            gi_wp2
            refine bodyPost_ret (results_none rfl _ _ _) rfl ?_
            exact ⟨⟨_, rfl⟩, .inr ⟨by rw [HO.out, opts_bad (by omega) (by rw [HX.out]; exact hz) (by rw [HX.out]; exact h1) (.inl (by omega))]; rfl, hJx3⟩⟩
          · obtain ⟨ad', e', hy1⟩ := Kd.at_int HR.out 1 (by omega) (by omega)
            cases e'
            have hw := HW.out
            have hy0 : wr.cell? { block := ad.block, off := ad.off + 1 } = some (.int .u8 (r.getD 1 0)) := (hw.cell (World.block_lt_of_cell? w0 _ hy1)).trans hy1
            have hyr := bytes_getD HBY.out 1
            obtain ⟨y, ey⟩ : ∃ y, r.getD 1 0 = y := ⟨_, rfl⟩
            rw [ey] at hy0 hyr
            obtain ⟨y0, y1⟩ := hyr
            clear hy1 hw
            have HYY := Aside0.mk ey
            clear ey
            have h12 : 1 < n' := by omega
            by_cases hb2 : y < 2
            · gi_wp2
              refine wpIn_wide.2 ?_
              have hd2 : ¬ ((n' : Int) < 2) := by omega
              go_quiet (fail)
              have HJd := Aside0.mk (hJb _ _ _ HJ.out (pw_below_drewN (Below.refl wr.heap.size wr) nq))
              obtain ⟨f, tm, asg, bd, hy, hRd⟩ := hNo pre _ HJd.out
              gi_wp2
              refine ⟨rfl, hRd.mono ?_⟩
              rintro e W3 ⟨rfl, hJx3⟩
              gi_wp2
              refine bodyPost_ret (results_none rfl _ _ _) rfl ?_
              exact ⟨⟨_, rfl⟩, .inr ⟨by rw [HO.out, opts_bad (by omega) (by rw [HX.out]; exact hz) (by rw [HX.out]; exact h1) (.inr (.inl (by rw [HYY.out]; exact hb2)))]; rfl, hJx3⟩⟩
            · by_cases hb3 : (n' : Int) < y
              · gi_wp2
                refine wpIn_wide.2 ?_
                have hd2 : ¬ ((n' : Int) < 2) := by omega
                have hd4 : ¬ (y < 2) := by omega
                go_quiet (fail)
                have HJd := Aside0.mk (hJb _ _ _ HJ.out (pw_below_drewN (Below.refl wr.heap.size wr) nq))
                obtain ⟨f, tm, asg, bd, hy, hRd⟩ := hNo pre _ HJd.out
                gi_wp2
                refine ⟨rfl, hRd.mono ?_⟩
                rintro e W3 ⟨rfl, hJx3⟩
                gi_wp2
                refine bodyPost_ret (results_none rfl _ _ _) rfl ?_
                exact ⟨⟨_, rfl⟩, .inr ⟨by rw [HO.out, opts_bad (by omega) (by rw [HX.out]; exact hz) (by rw [HX.out]; exact h1) (.inr (.inr (by rw [HYY.out, hrl]; exact hb3)))]; rfl, hJx3⟩⟩
              · gi_wp2
                refine wpIn_wide.2 ?_
                have hd2 : ¬ ((n' : Int) < 2) := by omega
                have hd4 : ¬ (y < 2) := by omega
                have hd5 : ¬ ((n' : Int) < y) := by omega
                go_quiet (fail)
                have hm3 : y.toNat ≤ n' := by omega
                obtain ⟨T, A2, m2, c2, hrun, hC2, hmc, hT, hm⟩ := cut_mid (some ad) n' c' r 2 y hrl (by omega) (by omega) (by omega) hnc
                have HC2 := Aside0.mk (hC2 w0 HR.out)
                have HT := Aside0.mk hT
                obtain ⟨T2, A3, m3, c3, hrun2, hC3, hmc3, hT2, hm3'⟩ := cut_drop (some ad) n' c' r y hrl (by omega) (by omega) hnc
                have HC3 := Aside0.mk (hC3 w0 HR.out)
                have HT2 := Aside0.mk hT2
                have hmx : Try.prog.follows .mixedOrders = true := by kernel_rfl
                have HB7 := Aside0.mk (below_tr HW.out (below_drew (pw_below_drewN (Below.refl wr.heap.size wr) nq)))
                have HJ7 := Aside0.mk (hJb _ _ _ HJ.out (below_drew (pw_below_drewN (Below.refl wr.heap.size wr) nq)))
                have HBX7 : Aside0 (Boxed (wr.drewN nq).drew Bn 22 (.slice (some ad) n' c')) := ⟨HBX.out⟩
                have hpl : pre.length < N := by omega
                have hT3 : bytes T := by rw [HT.out]; exact bytes_drop (bytes_take HBY.out _) _
                have hT4 : T.length ≤ 255 := by rw [HC2.out.1]; omega
                have hm140 : m2 ≤ 140737488355328 := by omega
                have HBY2 : Aside0 (bytes T2) := ⟨by rw [HT2.out]; exact bytes_drop HBY.out _⟩
                have HEQ : Aside0 (∀ v : Value, opts b = (opts T2).map (optsOf (pre ++ [(x, v, T)]) ++ ·)) := ⟨fun v => by
                  rw [HO.out, opts_cons (by rw [HX.out]; exact hz) (by rw [HX.out]; exact h1) (by rw [HYY.out, hrl]; omega), HX.out, HYY.out, ← HT2.out, show (r.take y.toNat).drop 2 = T from HT.out.symm, Option.map_map]
                  congr 1
                  funext D
                  simp [optsOf]⟩
                clear hC2 hT hC3 hT2
                gi_wp2
                have hcell6 : (wr.drewN nq).cell? ⟨Bn, 0, none⟩ = some (.slice (some ad) n' c') := hcell
                have hx06 : (wr.drewN nq).cell? ad = some (.int .u8 x) := hx0
                have hx07 : (wr.drewN nq).drew.cell? ad = some (.int .u8 x) := hx0
                clear hcell hx0 hfrz hy0
                revert HB7 HJ7 HBX7 hcell6 hx06 hx07
                obtain ⟨w6, ew6⟩ : ∃ w6, wr.drewN nq = w6 := ⟨_, rfl⟩
                rw [ew6]
                intro HB7 HJ7 HBX7 hcell6 hx06 hx07
                have hbl := World.block_lt_of_cell? _ _ hx07
                have hx255 : x ≤ 255 := by omega
                gi_region_with_o (first
                  | (refine ⟨trivial, rfl, ?_⟩; (with_reducible refine ((callsIn_wide.2 (clone_any T A2 m2 c2 _ (Kd.C_below HC2.out HB7.out) hm140)).mono ?_)); rintro e w7 ⟨v, rfl, hv7, hb7⟩; obtain ⟨A4, c4, rfl⟩ := Kd.R_slice hv7; have hbx7 := HBX7.out.kept (grown_of_below hb7 none) (fun h => nomatch h); have hcell7 := hbx7.cell; have hfrz7 := hbx7.frozen; have hx08 := (hb7.cell hbl).trans hx07; obtain ⟨f, tm, asg, bd, hy, hRd⟩ := hY pre x _ T _ w7 HJ7.out hb7 x0 hx255 hT3 hT4 hpl hv7)
                  | (refine ⟨rfl, ?_⟩; (with_reducible refine (hRd.mono ?_)); rintro e W3 ⟨rfl, hJ3, hk3⟩))
                all_goals (
                  have hbx3 : Boxed W3 Bn 22 (.slice (some ad) n' c') := hk3.trans hbx7
                  have hcell3 := hbx3.cell
                  have hfrz3 := hbx3.frozen
                  have HB3 := Aside0.mk hbx3
                  have HJ3 := Aside0.mk hJ3
                  clear hcell6 hx06 hx07 hcell7 hfrz7 hx08 hRd hy hbx3 hJ3 hbx7 hb7 hv7 hk3
                  gi_wp2
                  go_roundw
                  case rel => exact ⟨pre ++ [(x, .slice A4 T.length c4, T)], T2, A3, m3, c3, HC3.out.1, hmc3, by rw [List.length_append, List.length_singleton]; omega, HBY2, ⟨HB3.out.set _⟩, ⟨HC3.out⟩, ⟨HEQ.out (.slice A4 T.length c4)⟩, ⟨hJs _ _ _ HJ3.out⟩⟩
                  case measure => rw [boxLen_eq HBX.out, boxLen_eq (HB3.out.set _)]; omega)
end Go.Proofs.Ytknpaihlnkcpgaa.Own
/- A range over an iterator that keeps its state in a box (a captured variable that it writes); the body goes on, or leaves by 'return'. At the wide fence. -/
set_option linter.unusedVariables false
namespace Go.Proofs.Ytknpaihlnkcpgaa.Own
open Go.RowKit

/-- a round's body goes on -/
def goesOn {σ : Type} (B Bn : Nat) (I : σ → World → Prop) (s' : σ) (W : World) : Exit → Act → World → Prop
  | .normal, _, W' => KeepsFrom B W W' ∧ W'.heap[Bn]? = W.heap[Bn]? ∧ I s' W'
  | _, _, _ => False
/-- a round's body returns -/
def goesOut (B : Nat) (Ix : World → Prop) (W : World) : Exit → Act → World → Prop
  | .ret, _, W' => KeepsFrom B W W' ∧ Ix W'
  | _, _, _ => False

theorem range_box {P : Program} {g : Operand} {ps : Array Tmp} {assign body : Code} {Q : Exit → Act → World → Prop} {a : Act} {w : World} {gf : Nat} {lb : Array Value}
    (hg : a.eval g = .func (.func gf) #[] lb) (eg : ∀ args w, (callFunc gf args).run P w = .ok (.enter gf args) w)
    (Bn : Nat) (hBn : Bn < w.heap.size) {σ : Type} (I : σ → World → Prop) (Ix : World → Prop) (S : σ → Prop) (Sx : Prop) (s0 : σ)
    (hIb : ∀ s A A', I s A → Below A.heap.size A A' → I s A')
    (hIs : ∀ s A v, I s A → I s (A.setCell ⟨Bn, 0, none⟩ v))
    (hIp : ∀ s A l o o', I s A → w.heap.size ≤ l → A.heap[l]? = some o → o.isCells = false → I s (A.putObj l o'))
    (hIxp : ∀ A l o o', Ix A → w.heap.size ≤ l → A.heap[l]? = some o → o.isCells = false → Ix (A.putObj l o'))
    (h0 : I s0 w) (Y : σ → Array Value → World → σ → Prop) (N : Array Value → Prop)
    (hyes : ∀ l s args s' W, w.heap.size ≤ l → (∃ r, W.heap[l]? = some (.loop r)) → I s W → Y s args W s' → args.size = ps.size ∧
      assign.wpIn (Fence.wide.inRound l) 0 P (Exit.then (fun a' W' => KeepsFrom w.heap.size W W' ∧ W'.heap[Bn]? = W.heap[Bn]? ∧
        ∀ o', body.wpIn (Fence.wide.inRound l) 0 P (goesOn w.heap.size Bn I s' (W'.putObj l o')) a' (W'.putObj l o')) (fun _ _ _ => False))
        { tmps := (ps.zip args).foldl (fun t (p, v) => t.setIfInBounds p v) a.tmps, defers := [] } W)
    (hno : ∀ l s args W, w.heap.size ≤ l → (∃ r, W.heap[l]? = some (.loop r)) → I s W → N args → args.size = ps.size ∧
      assign.wpIn (Fence.wide.inRound l) 0 P (Exit.then (fun a' W' => KeepsFrom w.heap.size W W' ∧
        ∀ o', body.wpIn (Fence.wide.inRound l) 0 P (goesOut w.heap.size Ix (W'.putObj l o')) a' (W'.putObj l o')) (fun _ _ _ => False))
        { tmps := (ps.zip args).foldl (fun t (p, v) => t.setIfInBounds p v) a.tmps, defers := [] } W)
    (hit : ∀ (l : Nat) (J : σ → World → Prop) (Jx : World → Prop) (W : World), W.heap[Bn]? = w.heap[Bn]? →
      (∀ s A A', J s A → Below A.heap.size A A' → J s A') → (∀ s A v, J s A → J s (A.setCell ⟨Bn, 0, none⟩ v)) → (∀ s A, J s A → I s A) →
      (∀ s args s' W, J s W → Y s args W s' → YieldAt Fence.wide 0 P l args W fun e W' => e = .returned (.bool true) ∧ J s' W' ∧ W'.heap[Bn]? = W.heap[Bn]?) →
      (∀ s args W, J s W → N args → YieldAt Fence.wide 0 P l args W fun e W' => e = .returned (.bool false) ∧ Jx W') → J s0 W →
      CallsIn Fence.wide 0 P gf (#[.func (.yield l) #[] #[]] ++ lb) W fun e W' => (∃ v, e = .returned v) ∧ ((∃ s, S s ∧ J s W') ∨ (Sx ∧ Jx W')))
    (hdone : ∀ (D : Nat) (s : σ) (W : World), w.heap.size ≤ D → S s → I s W → W.heap[D]? = some (.deferred (some [])) → Q .normal { a with defers := { target := .collected D, args := #[] } :: a.defers } W)
    (hstop : ∀ (D : Nat) (W : World), w.heap.size ≤ D → Sx → Ix W → W.heap[D]? = some (.deferred (some [])) → Code.ret.wpIn Fence.wide 0 P Q { a with defers := { target := .collected D, args := #[] } :: a.defers } W) :
    (Code.rangeFunc g ps assign body).wpIn Fence.wide 0 P Q a w := by
  refine wpIn_rangeFunc fun fn hfn => ?_
  -- the loop's record, by its state
  obtain ⟨R, hR⟩ : ∃ R : LoopState → Option Code → Loop, R = fun st pe => { state := st, pending := pe, fn, tmps := a.tmps, params := ps, assign, body, defers := w.heap.size } := ⟨_, rfl⟩
  have e1 : ∀ st pe, (R st pe).params = ps := fun st pe => by rw [hR]
  obtain ⟨L, hL⟩ : ∃ L, w.heap.size + 1 = L := ⟨_, rfl⟩
  obtain ⟨W1, hW1⟩ : ∃ W1, (w.alloc (.deferred (some []))).alloc (.loop (R .ready none)) = W1 := ⟨_, rfl⟩
  have hsz : W1.heap.size = w.heap.size + 2 := by rw [← hW1]; simp
  have hB1 : Below w.heap.size w W1 := by rw [← hW1]; exact ((Below.refl _ w).alloc (Nat.le_refl _) _).alloc (by simp) _
  have hl1 : W1.heap[L]? = some (.loop (R .ready none)) := by
    rw [← hW1, ← hL]
    have h := World.alloc_heap_new (w.alloc (.deferred (some []))) (.loop (R .ready none))
    rwa [World.size_alloc] at h
  have hd1 : W1.heap[w.heap.size]? = some (.deferred (some [])) := by
    rw [← hW1]; exact (Below.heap_alloc _ _ _ (by simp)).trans (World.alloc_heap_new w _)
  -- what a round's body leaves of the two blocks
  have two : ∀ {st pe} {A B : World}, KeepsFrom w.heap.size A B → A.heap[L]? = some (.loop (R st pe)) ∧ A.heap[w.heap.size]? = some (.deferred (some [])) → B.heap[L]? = some (.loop (R st pe)) ∧ B.heap[w.heap.size]? = some (.deferred (some [])) :=
    fun hk h => ⟨hk.same _ _ (by omega) h.1 rfl, hk.same _ _ (Nat.le_refl _) h.2 rfl⟩
  have put : ∀ {st pe st' pe'} {A : World}, A.heap[L]? = some (.loop (R st pe)) ∧ A.heap[w.heap.size]? = some (.deferred (some [])) → (A.putObj L (.loop (R st' pe'))).heap[L]? = some (.loop (R st' pe')) ∧ (A.putObj L (.loop (R st' pe'))).heap[w.heap.size]? = some (.deferred (some [])) :=
    fun h => ⟨World.putObj_heap_same (Array.getElem?_eq_some_iff.1 h.1).1, (World.putObj_heap_other (by omega)).trans h.2⟩
  have putB : ∀ {A : World} {o : Obj}, (A.putObj L o).heap[Bn]? = A.heap[Bn]? := fun {A o} => World.putObj_heap_other (by omega)
  refine ⟨L, [{ target := .collected w.heap.size, args := #[] }], W1, { target := .fn (.func gf) lb, args := #[.func (.yield L) #[] #[]] }, W1, gf, #[.func (.yield L) #[] #[]] ++ lb, W1, ?_, ?_, ?_, ?_, (fun h => by cases h), ?_⟩
  · rw [← hW1, ← hL, hR]; exact run_enterLoop_outer _ _ _ _ _
  · simp only [resolve, hg]
    simp [go_sem]
  · intro f' _; trivial
  · simp [invoke, go_sem, eg]
  · refine (hit L (fun s W => I s W ∧ W.heap[L]? = some (.loop (R .ready none)) ∧ W.heap[w.heap.size]? = some (.deferred (some [])))
      (fun W => Ix W ∧ W.heap[L]? = some (.loop (R .done (some .ret))) ∧ W.heap[w.heap.size]? = some (.deferred (some []))) W1 (hB1.block Bn hBn) ?_ ?_ (fun s A h => h.1) ?_ ?_ ?_).mono ?_
    · intro s A A' h hb
      exact ⟨hIb s A A' h.1 hb, (hb.block _ (Array.getElem?_eq_some_iff.1 h.2.1).1).trans h.2.1, (hb.block _ (Array.getElem?_eq_some_iff.1 h.2.2).1).trans h.2.2⟩
    · intro s A v h
      exact ⟨hIs s A v h.1, (Below.heap_setCell _ _ _ _ (by simp; omega)).trans h.2.1, (Below.heap_setCell _ _ _ _ (by simp; omega)).trans h.2.2⟩
    · rintro s args s' W ⟨hi, h2⟩ hy
      obtain ⟨hsiz, has⟩ := hyes L s args s' W (by omega) ⟨_, h2.1⟩ hi hy
      have hyy := run_yield (P := P) (args := args) h2.1 (by rw [e1]; exact hsiz)
      rw [hR] at hyy
      refine ⟨fn, _, assign, body, hyy, roundIn_of_wpIn hfn (wpIn_mono has ?_)⟩
      intro e a' W' hpost
      cases e with
      | normal =>
        obtain ⟨hk, hbn, hbody⟩ := hpost
        have h3 := two hk h2
        refine ⟨_, run_beginRound h3.1 (by rw [hR]), wpIn_mono (hbody _) ?_⟩
        intro e a3 W3 hp
        cases e with
        | normal =>
          obtain ⟨hk3, hbn3, hi3⟩ := hp
          have h4 : (W'.putObj L (.loop { R .ready none with state := .busy })).heap[L]? = some (.loop (R .busy none)) ∧ (W'.putObj L (.loop { R .ready none with state := .busy })).heap[w.heap.size]? = some (.deferred (some [])) := by
            have e : ({ R .ready none with state := .busy } : Loop) = R .busy none := by rw [hR]
            rw [e]; exact put h3
          have h5 := two hk3 h4
          have hend := run_endRound (P := P) none h5.1
          have e2 : ({ R .busy none with state := if (none : Option Code).isNone then .ready else .done, pending := none } : Loop) = R .ready none := by rw [hR]; rfl
          rw [e2] at hend
          exact ⟨_, _, hend, rfl, ⟨hIp _ _ _ _ _ hi3 (by omega) h5.1 rfl, put h5⟩, by rw [putB, hbn3, putB, hbn]⟩
        | _ => exact hp.elim
      | _ => exact hpost.elim
    · rintro s args W ⟨hi, h2⟩ hn
      obtain ⟨hsiz, has⟩ := hno L s args W (by omega) ⟨_, h2.1⟩ hi hn
      have hyy := run_yield (P := P) (args := args) h2.1 (by rw [e1]; exact hsiz)
      rw [hR] at hyy
      refine ⟨fn, _, assign, body, hyy, roundIn_of_wpIn hfn (wpIn_mono has ?_)⟩
      intro e a' W' hpost
      cases e with
      | normal =>
        obtain ⟨hk, hbody⟩ := hpost
        have h3 := two hk h2
        refine ⟨_, run_beginRound h3.1 (by rw [hR]), wpIn_mono (hbody _) ?_⟩
        intro e a3 W3 hp
        cases e with
        | ret =>
          obtain ⟨hk3, hi3⟩ := hp
          have h4 : (W'.putObj L (.loop { R .ready none with state := .busy })).heap[L]? = some (.loop (R .busy none)) ∧ (W'.putObj L (.loop { R .ready none with state := .busy })).heap[w.heap.size]? = some (.deferred (some [])) := by
            have e : ({ R .ready none with state := .busy } : Loop) = R .busy none := by rw [hR]
            rw [e]; exact put h3
          have h5 := two hk3 h4
          have hend := run_endRound (P := P) (some Code.ret) h5.1
          have e2 : ({ R .busy none with state := if (some Code.ret).isNone then .ready else .done, pending := some Code.ret } : Loop) = R .done (some .ret) := by rw [hR]; rfl
          rw [e2] at hend
          exact ⟨_, _, hend, rfl, hIxp _ _ _ _ hi3 (by omega) h5.1 rfl, put h5⟩
        | _ => exact hp.elim
      | _ => exact hpost.elim
    · exact ⟨hIb _ _ _ h0 hB1, hl1, hd1⟩
    · rintro e W2 ⟨⟨v, rfl⟩, (⟨s, hS, hi, h2⟩ | ⟨hSx, hi, h2⟩)⟩
      · have hend := run_endLoop (P := P) h2.1 (by rw [hR]; simp)
        exact ⟨(R .ready none).pending, _, hend, by
          have e : (R .ready none).pending = none := by rw [hR]
          rw [e]
          exact hdone _ s _ (Nat.le_refl _) hS (hIp _ _ _ _ _ hi (by omega) h2.1 rfl) ((World.putObj_heap_other (by omega)).trans h2.2)⟩
      · have hend := run_endLoop (P := P) h2.1 (by rw [hR]; simp)
        exact ⟨(R .done (some .ret)).pending, _, hend, by
          have e : (R .done (some .ret)).pending = some .ret := by rw [hR]
          rw [e]
          exact hstop _ _ (Nat.le_refl _) hSx (hIxp _ _ _ _ hi (by omega) h2.1 rfl) ((World.putObj_heap_other (by omega)).trans h2.2)⟩
end Go.Proofs.Ytknpaihlnkcpgaa.Own
/- ip.Options. -/
set_option linter.unusedVariables false
set_option linter.unusedSimpArgs false
namespace Go.Proofs.Ytknpaihlnkcpgaa.Own
open Go.RowKit Go.Proofs.YtknpaihlnkcpgaaW.PrintWords Go.Proofs.YtknpaihlnkcpgaaW.PrintLast Go.Proofs.YtknpaihlnkcpgaaW.PrintMore

/-- a list of options of one's own, each one's data a row of one's own, no two of them the same -/
def OptRows (W : World) (base : Nat) (lv : Value) (D : List OptV) : Prop :=
  W.ownsRow base 32 2 lv D.length (D.flatMap fun d => [.int .u8 d.1, d.2.1]) ∧
  (∀ d ∈ D, W.ownsRow base 5 1 d.2.1 d.2.2.length (nums .u8 d.2.2)) ∧
  D.Pairwise (fun a b => a.2.1.ownBlock = none ∨ a.2.1.ownBlock ≠ b.2.1.ownBlock)
theorem OptRows.nil (W : World) (base : Nat) : OptRows W base (.slice none 0 0) [] := ⟨World.ownsRow_nil _ _ _ _, (fun d h => by cases h), List.Pairwise.nil⟩
/-- whatever turns blocks that are no rows of bytes, nor of options -/
theorem OptRows.kept {W W' : World} {base : Nat} {lv : Value} {D : List OptV} (h : OptRows W base lv D) {row : Option Nat} (hg : W.grownBy W' row)
    (hr : ∀ k, row = some k → ∀ cells e fr, W.heap[k]? = some (.cells cells e fr) → e ≠ 32 ∧ e ≠ 5) : OptRows W' base lv D := by
  have one : ∀ {e size n v xs}, (e = 32 ∨ e = 5) → W.ownsRow base e size v n xs → W'.ownsRow base e size v n xs := by
    intro e size n v xs he ho
    refine ho.kept hg ?_
    rcases ho.2 with ⟨rfl, _⟩ | ⟨g, cap, cur, rfl, _, hgb, _⟩
    · exact .inl rfl
    · refine .inr fun e' => ?_
      have := hr g (by simpa [Value.ownBlock] using e'.symm) _ _ _ hgb
      rcases he with rfl | rfl
      · exact this.1 rfl
      · exact this.2 rfl
  exact ⟨one (.inl rfl) h.1, fun d hd => one (.inr rfl) (h.2.1 d hd), h.2.2⟩

/-- between two rounds: what the loop's own variables hold -/
def IOpt (s : Nat) (w : World) (pre : List OptV) (W : World) : Prop :=
  (∃ lv, Boxed W (s + 1 + 1) 28 lv ∧ OptRows W s lv pre) ∧ (∃ bv, Boxed W (s + 1 + 1 + 1) 22 bv) ∧ Boxed W s 28 (.slice none 0 0) ∧ Boxed W (s + 1) 25 (.int .i64 0) ∧ Below s w W
/-- behind a return in the body -/
def IxOpt (s : Nat) (w : World) (W : World) : Prop := Boxed W s 28 (.slice none 0 0) ∧ Boxed W (s + 1) 25 (.int .i64 51) ∧ Below s w W
theorem IOpt.kept {s : Nat} {w A A' : World} {pre : List OptV} (h : IOpt s w pre A) {row : Option Nat} (hg : A.grownBy A' row)
    (hr : ∀ k, row = some k → s + 3 ≤ k ∧ ∀ cells e fr, A.heap[k]? = some (.cells cells e fr) → e ≠ 32 ∧ e ≠ 5) (h3 : ∃ bv, Boxed A' (s + 1 + 1 + 1) 22 bv) : IOpt s w pre A' := by
  obtain ⟨⟨lv, hb, hl⟩, h2, h4, h5, h6⟩ := h
  have hlt := hb.lt
  refine ⟨⟨lv, hb.kept hg (fun e => ?_), hl.kept hg (fun k e => (hr k e).2)⟩, h3, h4.kept hg (fun e => ?_), h5.kept hg (fun e => ?_), h6.grown hg (by omega) (fun k e => by have := (hr k e).1; omega)⟩
  · have := (hr _ e.symm).1; omega
  · have := (hr _ e.symm).1; omega
  · have := (hr _ e.symm).1; omega
theorem IOpt.below {s : Nat} {w A A' : World} {pre : List OptV} (h : IOpt s w pre A) (hb : Below A.heap.size A A') : IOpt s w pre A' := by
  obtain ⟨bv, h3⟩ := h.2.1
  exact h.kept (grown_of_below hb none) (fun k e => by cases e) ⟨bv, h3.kept (grown_of_below hb none) (by simp)⟩
theorem IOpt.setBox {s : Nat} {w A : World} {pre : List OptV} (h : IOpt s w pre A) (v : Value) : IOpt s w pre (A.setCell ⟨s + 1 + 1 + 1, 0, none⟩ v) := by
  obtain ⟨bv, h3⟩ := h.2.1
  refine h.kept (grownBy_setCell' A (s + 1 + 1 + 1) v) (fun k e => ?_) ⟨v, h3.set v⟩
  cases e
  refine ⟨by omega, fun cells e fr hk => ?_⟩
  rw [show A.heap[s + 1 + 1 + 1]? = _ from h3] at hk
  cases hk
  exact ⟨by decide, by decide⟩
theorem IOpt.put {s : Nat} {w A : World} {pre : List OptV} (h : IOpt s w pre A) {l : Nat} {o o' : Obj} (hl : s + 4 ≤ l) (hk : A.heap[l]? = some o) (ho : o.isCells = false) : IOpt s w pre (A.putObj l o') := by
  obtain ⟨bv, h3⟩ := h.2.1
  refine h.kept (grownBy_putObj' A l o') (fun k e => ?_) ⟨bv, h3.kept (grownBy_putObj' A l o') (fun e => by cases e; omega)⟩
  cases e
  refine ⟨by omega, fun cells e fr hk' => ?_⟩
  rw [hk] at hk'
  cases hk'
  cases ho
theorem IxOpt.put {s : Nat} {w A : World} (h : IxOpt s w A) {l : Nat} {o o' : Obj} (hl : s + 4 ≤ l) (hk : A.heap[l]? = some o) : IxOpt s w (A.putObj l o') := by
  have hlt := h.2.1.lt
  exact ⟨h.1.kept (grownBy_putObj' A l o') (fun e => by cases e; omega), h.2.1.kept (grownBy_putObj' A l o') (fun e => by cases e; omega), h.2.2.grown (grownBy_putObj' A l o') (by omega) (fun k e => by cases e; omega)⟩

theorem IOpt.appended {s B : Nat} {w W w1 : World} {pre : List OptV} {k : Int} {v lv v' bv : Value} {d : List Int} {tmp : Obj} (h0 : Boxed W s 28 (.slice none 0 0)) (h1 : Boxed W (s + 1) 25 (.int .i64 0))
    (h2 : Boxed W (s + 1 + 1) 28 lv) (h3 : Boxed W (s + 1 + 1 + 1) 22 bv) (hrows : OptRows W s lv pre) (hbw : Below s w W) (hold : ∀ x ∈ pre, ∀ k, x.2.1.ownBlock = some k → k < B)
    (hv : W.ownsRow B 5 1 v d.length (nums .u8 d)) (hsB : s ≤ B) (hown : w1.ownsRow s 32 2 v' (pre.length + 1) ((pre.flatMap fun d => [.int .u8 d.1, d.2.1]) ++ [.int .u8 k, v])) (hgrow : (W.alloc tmp).grownBy w1 lv.ownBlock) :
    IOpt s w (pre ++ [(k, v, d)]) (w1.setCell ⟨s + 1 + 1, 0, none⟩ v') ∧ KeepsOthers W (w1.setCell ⟨s + 1 + 1, 0, none⟩ v') ∧ (w1.setCell ⟨s + 1 + 1, 0, none⟩ v').heap[s + 1 + 1 + 1]? = W.heap[s + 1 + 1 + 1]? := by
  have hs : s ≤ W.heap.size := by have := h0.lt; omega
  obtain ⟨hb1, hb2, hr2, hk2, hbe2⟩ := h2.appended (tmp := tmp) (by decide) hrows.1 hs (by omega) hown hgrow
  have box : ∀ {b t u}, Boxed W b t u → t ≠ 32 → b ≠ s + 1 + 1 → Boxed (w1.setCell ⟨s + 1 + 1, 0, none⟩ v') b t u := fun hb ht hne =>
    ((hb.alloc tmp).kept hgrow (hb.not_row ht hrows.1)).other hne _
  have row : ∀ {base n x xs}, W.ownsRow base 5 1 x n xs → (w1.setCell ⟨s + 1 + 1, 0, none⟩ v').ownsRow base 5 1 x n xs := by
    intro base n x xs ho
    have ho1 := (ho.alloc tmp).kept hgrow (own_type_ne ho hrows.1 (by decide))
    refine ho1.kept (grownBy_setCell' w1 (s + 1 + 1) v') ?_
    rcases ho1.2 with ⟨rfl, _⟩ | ⟨g, cap, cur, rfl, _, hgb, _⟩
    · exact .inl rfl
    · refine .inr fun e' => ?_
      obtain rfl : g = s + 1 + 1 := by simpa [Value.ownBlock] using e'
      rw [show w1.heap[s + 1 + 1]? = _ from hb1] at hgb
      cases hgb
  refine ⟨⟨⟨v', hb2, ⟨?_, ?_, ?_⟩⟩, ⟨bv, box h3 (by decide) (by omega)⟩, box h0 (by decide) (by omega), box h1 (by decide) (by omega), hbw.trans hbe2⟩, hk2, ?_⟩
  · simpa using hr2
  · intro x hx
    rcases List.mem_append.1 hx with hx | hx
    · exact row (hrows.2.1 x hx)
    · rw [List.mem_singleton.1 hx]
      exact own_weaken (row hv) hsB
  · refine List.pairwise_append.2 ⟨hrows.2.2, List.pairwise_singleton _ _, fun a ha b hb => ?_⟩
    rw [List.mem_singleton.1 hb]
    rcases hob : a.2.1.ownBlock with _ | g
    · exact .inl rfl
    · refine .inr fun e => ?_
      have h1 := hold a ha g hob
      have h2 := own_base hv g e.symm
      omega
  · exact (show _ = some _ from box h3 (by decide) (by omega)).trans (show _ = some _ from h3).symm

/-- a row of bytes of one's own, its cells -/
theorem own_of_R {e base : Nat} {w : World} {ok : Nat → Prop} {v : Value} {xs : List Int} (h : Kd.R (Kd.int .u8) e w base ok v xs) : w.ownsRow base e 1 v xs.length (nums .u8 xs) := Kd.own_of_R h

theorem info_opt : (Try.prog.info? 32).map (fun i => (i.zero, i.size, i.bytes)) = some (some (.agg #[.int .u8 0, .slice none 0 0]), 2, 32) := by kernel_rfl

theorem optfn_any (A : Option Addr) (n c : Nat) (w : World) :
    Calls Try.prog 27 #[.slice A n c] w fun e w' => e = .returned (.func (.func 47) #[] #[.pointer (some ⟨w.heap.size, 0, none⟩)]) ∧ w.alloc (.cells #[.slice A n c] 22) = w' := by
  go_enter Try.func27, Try.ntmps27
  go_wp2
  go_ret
  exact ⟨rfl, rfl⟩

attribute [local go_sem] Oper.semAt_some

set_option maxRecDepth 100000 in
set_option maxHeartbeats 2000000 in
theorem options_in (b : List Int) (A : Option Addr) (c : Nat) (w : World) (hr : Kd.C (Kd.int .u8) w A b.length b) (hc : b.length ≤ c) (hb : bytes b) (hn : b.length ≤ 100000) :
    CallsIn Fence.wide 0 Try.prog 10 #[.slice A b.length c] w fun e w' => ∃ lv n, e = .returned (.tuple #[lv, .int .i64 n]) ∧ Below w.heap.size w w' ∧
      ((∃ D, opts b = some (optsOf D) ∧ n = 0 ∧ OptRows w' w.heap.size lv D) ∨ (opts b = none ∧ n = 51 ∧ lv = .slice none 0 0)) := by
  refine callsIn_of_wp_marks Try.func10 rfl trivial ?_ rfl
  simp only [Try.ntmps10, List.size_toArray, List.length_cons, List.length_nil, Nat.reduceAdd, Nat.reduceSub, Array.replicate_succ, Array.replicate_zero, List.push_toArray, List.append_toArray, List.nil_append, List.cons_append]
  gi_wp2_with (refine ⟨trivial, rfl, ?_⟩; (with_reducible refine (callsIn_wide.2 (optfn_any A b.length c _)).mono ?_); rintro e w' ⟨rfl, rfl⟩)
  have b0 : Boxed (w.alloc (.cells #[.slice none 0 0] 28)) w.heap.size 28 (.slice none 0 0) := Boxed.new w _ _
  have b1 := Boxed.new (w.alloc (.cells #[.slice none 0 0] 28)) 25 (.int .i64 0)
  have b2 := Boxed.new ((w.alloc (.cells #[.slice none 0 0] 28)).alloc (.cells #[.int .i64 0] 25)) 28 (.slice none 0 0)
  have b3 := Boxed.new (((w.alloc (.cells #[.slice none 0 0] 28)).alloc (.cells #[.int .i64 0] 25)).alloc (.cells #[.slice none 0 0] 28)) 22 (.slice A b.length c)
  have hB4 := (below_alloc3 w (.cells #[.slice none 0 0] 28) (.cells #[.int .i64 0] 25) (.cells #[.slice none 0 0] 28)).alloc (by simp; omega) (.cells #[.slice A b.length c] 22)
  replace b0 := ((b0.alloc (.cells #[.int .i64 0] 25)).alloc (.cells #[.slice none 0 0] 28)).alloc (.cells #[.slice A b.length c] 22)
  replace b1 := (b1.alloc (.cells #[.slice none 0 0] 28)).alloc (.cells #[.slice A b.length c] 22)
  replace b2 := b2.alloc (.cells #[.slice A b.length c] 22)
  rw [World.size_alloc] at b1
  rw [World.size_alloc, World.size_alloc] at b2
  rw [World.size_alloc, World.size_alloc, World.size_alloc] at b3
  revert b0 b1 b2 b3 hB4
  obtain ⟨W4, hW4⟩ : ∃ W4, (((w.alloc (.cells #[.slice none 0 0] 28)).alloc (.cells #[.int .i64 0] 25)).alloc (.cells #[.slice none 0 0] 28)).alloc (.cells #[.slice A b.length c] 22) = W4 := ⟨_, rfl⟩
  have hsz : W4.heap.size = w.heap.size + 1 + 1 + 1 + 1 := by rw [← hW4]; simp
  rw [hW4]
  intro b3 hB4 b0 b1 b2
  clear hW4
  obtain ⟨s, hs⟩ : ∃ s, w.heap.size = s := ⟨_, rfl⟩
  rw [hs] at b0 b1 b2 b3 hB4 hsz ⊢
  refine range_box (gf := 47) (lb := #[.pointer (some ⟨s + 1 + 1 + 1, 0, none⟩)]) rfl (enters_of Try.func47 (by kernel_rfl) rfl) (s + 1 + 1 + 1) (by omega) (IOpt s w) (IxOpt s w)
    (fun D => opts b = some (optsOf D)) (opts b = none) [] (fun _ _ _ h hb => h.below hb) (fun _ _ v h => h.setBox v) (fun _ _ _ _ _ h hl hk ho => h.put (by omega) hk ho) (fun _ _ _ _ h hl hk _ => h.put (by omega) hk)
    ⟨⟨_, b2, OptRows.nil _ _⟩, ⟨_, b3⟩, b0, b1, hB4⟩
    (fun pre args W s' => ∃ k v d W0, IOpt s w pre W0 ∧ Below W0.heap.size W0 W ∧ 0 ≤ k ∧ k ≤ 255 ∧ bytes d ∧ d.length ≤ 255 ∧ pre.length < b.length ∧ Kd.R (Kd.int .u8) 5 W W0.heap.size (fun _ => True) v d ∧ args = #[.agg #[.int .u8 k, v], .bool true] ∧ s' = pre ++ [(k, v, d)])
    (fun args => args = #[.agg #[.int .u8 0, .slice none 0 0], .bool false]) ?yes ?no ?it ?done ?stop
  case it =>
    intro l J Jx W hWB hJb hJs hJI hY hN h0
    refine iter_in (s + 1 + 1 + 1) l b.length w J Jx (by omega) hJb hJs (fun q A h => hs ▸ (hJI q A h).2.2.2.2) ?_ ?_ b hb (Nat.le_refl _) A c hr hc W (hWB.trans b3) h0
    · intro pre k v d W0 W1 hJ hb1 k0 k1 hd hdl hpl hR
      exact hY pre _ _ W1 (hJb _ _ _ hJ hb1) ⟨k, v, d, W0, hJI _ _ hJ, hb1, k0, k1, hd, hdl, hpl, hR, rfl, rfl⟩
    · intro pre W1 hJ
      exact hN pre _ W1 hJ rfl
  case no =>
    rintro l pre args W hl ⟨r, hlr⟩ hI rfl
    refine ⟨rfl, ?_⟩
    gi_wp2
    refine ⟨(KeepsOthers.alloc _ _).from _, fun o' => ?_⟩
    have hlt : l < W.heap.size := (Array.getElem?_eq_some_iff.1 hlr).1
    have hI5 : IOpt s w pre ((W.alloc (.cells #[.int .u8 0, .slice none 0 0] 32)).putObj l o') :=
      (hI.below ((Below.refl _ W).alloc (Nat.le_refl _) _)).put (by omega) ((Below.heap_alloc _ _ _ hlt).trans hlr) rfl
    obtain ⟨W5, hW5⟩ : ∃ W5, (W.alloc (.cells #[.int .u8 0, .slice none 0 0] 32)).putObj l o' = W5 := ⟨_, rfl⟩
    rw [hW5] at hI5 ⊢
    obtain ⟨_, _, hb0, hb1, hbw⟩ := hI5
    have hc0 := hb0.cell
    have hf0 := hb0.frozen
    have hc1 := hb1.cell
    have hf1 := hb1.frozen
    gi_wp2
    exact ⟨((KeepsOthers.setCell _ _ _).trans (KeepsOthers.setCell _ _ _)).from _, (hb0.set _).other (by omega) _, (hb1.other (by omega) _).set _, (hbw.setCell (p := ⟨s, 0, none⟩) (Nat.le_refl _) _).setCell (p := ⟨s + 1, 0, none⟩) (Nat.le_succ _) _⟩
  case yes =>
    rintro l pre args s' W hl ⟨r, hlr⟩ hI ⟨k, v, d, W0, hI0, hb0, k0, k1, hd, hdl, hpl, hR, rfl, rfl⟩
    refine ⟨rfl, ?_⟩
    obtain ⟨A4, c4, rfl⟩ := Kd.R_slice hR
    gi_wp2
    refine ⟨(KeepsOthers.alloc _ _).from _, Below.heap_alloc _ _ _ (by have := hI.2.1.choose_spec.lt; omega), fun o' => ?_⟩
    have hlt : l < W.heap.size := (Array.getElem?_eq_some_iff.1 hlr).1
    have hlr2 : (W.alloc (.cells #[.int .u8 k, .slice A4 d.length c4] 32)).heap[l]? = some (.loop r) := (Below.heap_alloc _ _ _ hlt).trans hlr
    have hI5 : IOpt s w pre ((W.alloc (.cells #[.int .u8 k, .slice A4 d.length c4] 32)).putObj l o') :=
      (hI.below ((Below.refl _ W).alloc (Nat.le_refl _) _)).put (by omega) hlr2 rfl
    have hx5 : ((W.alloc (.cells #[.int .u8 k, .slice A4 d.length c4] 32)).putObj l o').heap[W.heap.size]? = some (.cells #[.int .u8 k, .slice A4 d.length c4] 32 (0, 0)) :=
      (World.putObj_heap_other (by omega)).trans (World.alloc_heap_new W _)
    have hR5 : Kd.R (Kd.int .u8) 5 ((W.alloc (.cells #[.int .u8 k, .slice A4 d.length c4] 32)).putObj l o') W0.heap.size (fun _ => True) (.slice A4 d.length c4) d := by
      obtain ⟨inner, ho⟩ := Kd.R_own hR
      refine Kd.R_mono (ok := fun k => k ≠ l) (Kd.R_grown (row := some l) (Kd.R_mono (Kd.R_bound (Kd.R_alloc hR _)) (fun k hk => ?_)) (grownBy_putObj' _ l o') (fun k hk e => hk (by cases e; rfl))) (fun _ _ => trivial)
      rintro rfl
      obtain ⟨_, _, _, _, _, cells, hc⟩ := hk
      rw [hlr2] at hc
      cases hc
    have hsz5 : W.heap.size < ((W.alloc (.cells #[.int .u8 k, .slice A4 d.length c4] 32)).putObj l o').heap.size := (Array.getElem?_eq_some_iff.1 hx5).1
    obtain ⟨W5, hW5⟩ : ∃ W5, (W.alloc (.cells #[.int .u8 k, .slice A4 d.length c4] 32)).putObj l o' = W5 := ⟨_, rfl⟩
    rw [hW5] at hI5 hx5 hR5 hsz5 ⊢
    obtain ⟨⟨lv, hb2, hrows⟩, ⟨bv, hb3⟩, hb0', hb1, hbw⟩ := hI5
    obtain ⟨A5, c5, rfl⟩ := own_slice hrows.1
    have hc2 := hb2.cell
    have hf2 := hb2.frozen
    have hcx0 : W5.cell? ⟨W.heap.size, 0, none⟩ = some (.int .u8 k) := (blk_cell hx5 0).trans rfl
    have hcx1 : W5.cell? ⟨W.heap.size, 1, none⟩ = some (.slice A4 d.length c4) := (blk_cell hx5 1).trans rfl
    obtain ⟨i0, hi, hzz⟩ := Option.map_eq_some_iff.1 info_opt
    simp only [Prod.mk.injEq] at hzz
    obtain ⟨hz0, hz1, hz2⟩ := hzz
    have hsz6 : s ≤ (W5.alloc (.cells #[.int .u8 k, .slice A4 d.length c4] 32)).heap.size := by simp; omega
    have hml : pre.length + 1 ≤ maxLen := by simp only [maxLen]; omega
    have hmb : (pre.length + 1) * 32 ≤ 140737488355328 := by omega
    have hone : ∀ u ∈ [Value.int .u8 k, .slice A4 d.length c4], u.oneCell' = true := by simp [Value.oneCell']
    have hnews := World.news_of_block (cs := #[.int .u8 k, .slice A4 d.length c4]) (t := 32) (fr := (0, 0)) (heap_alloc_new W5 _)
    obtain ⟨inner, hoR⟩ := Kd.R_own hR5
    gi_wp2_with (gi_at_builtin; refine wpListIn_append_own _ rfl _ _ 28 rfl s 32 i0 _ 2 32 Try.underlying28 hi hz0 hz1 hz2 rfl (by decide) _ _ _ rfl (hrows.1.alloc _) ⟨W5.heap.size, 0, none⟩ 1 1 [.int .u8 k, .slice A4 d.length c4] rfl rfl hnews hone hml hmb hsz6 ?_; intro v' w1 hown' hgrow _; obtain ⟨g', cap', rfl⟩ := ownsRow_succ hown'; obtain ⟨hv1, hv2, hr2, hk2, hb2'⟩ := hb2.appended (by decide) hrows.1 (by omega) (by omega) hown' hgrow; have hc1' := hv1.cell; have hf1' := hv1.frozen)
    have hl0 := hI0.2.2.1.lt
    obtain ⟨hI6, hk6, hbx6⟩ := IOpt.appended (B := W0.heap.size) hb0' hb1 hb2 hb3 hrows hbw (fun x hx k hk => own_lt (hI0.1.choose_spec.2.2.1 x hx) k hk) (own_of_R hR5) (by omega) hown' hgrow
    exact ⟨hk6.from _, hbx6, hI6⟩
  case done =>
    rintro D E W hD hE ⟨⟨lv, hb2, hrows⟩, _, hb0, hb1, hbw⟩ hK
    have hc0 := hb0.cell
    have hf0 := hb0.frozen
    have hc1 := hb1.cell
    have hf1 := hb1.frozen
    obtain ⟨A5, c5, rfl⟩ := own_slice hrows.1
    have hc2 := hb2.cell
    gi_wp2
    have hK2 := ((KeepsOthers.setCell W ⟨s, 0, none⟩ (.slice A5 E.length c5)).trans (KeepsOthers.setCell _ ⟨s + 1, 0, none⟩ (.int .i64 0))).same D _ hK rfl
    refine ⟨by simp, .inl ⟨_, _, rfl, run_takeDeferred hK2, ?_⟩⟩
    have hgD := grownBy_putObj' ((W.setCell ⟨s, 0, none⟩ (.slice A5 E.length c5)).setCell ⟨s + 1, 0, none⟩ (.int .i64 0)) D (.deferred none)
    have k0 := ((hb0.set (.slice A5 E.length c5)).other (by omega : s ≠ s + 1) (.int .i64 0)).kept hgD (fun e => by cases e; omega)
    have k1' := hb1.other (by omega : s + 1 ≠ s) (.slice A5 E.length c5)
    have k1 := (k1'.set (.int .i64 0)).kept hgD (fun e => by cases e; omega)
    have kr1 := hrows.kept (grownBy_setCell' W s (.slice A5 E.length c5)) (fun k e cells t fr h => by cases e; rw [show W.heap[s]? = _ from hb0] at h; cases h; exact ⟨by decide, by decide⟩)
    have kr2 := kr1.kept (grownBy_setCell' _ (s + 1) (.int .i64 0)) (fun k e cells t fr h => by cases e; rw [show (W.setCell ⟨s, 0, none⟩ (.slice A5 E.length c5)).heap[s + 1]? = _ from k1'] at h; cases h; exact ⟨by decide, by decide⟩)
    have kr := kr2.kept hgD (fun k e cells t fr h => by cases e; rw [hK2] at h; cases h)
    have kb := ((hbw.setCell (p := ⟨s, 0, none⟩) (Nat.le_refl _) (.slice A5 E.length c5)).setCell (p := ⟨s + 1, 0, none⟩) (Nat.le_succ _) (.int .i64 0)).grown hgD (by have := (k1'.set (.int .i64 0)).lt; omega) (fun k e => by cases e; omega)
    clear hc0 hf0 hc1 hf1 hc2 hK2 hgD kr1 kr2 k1'
    revert k0 k1 kr kb
    generalize ((W.setCell ⟨s, 0, none⟩ (.slice A5 E.length c5)).setCell ⟨s + 1, 0, none⟩ (.int .i64 0)).putObj D (.deferred none) = W9
    intro k0 k1 kr kb
    have hc0 := k0.cell
    have hc1 := k1.cell
    refine ⟨.tuple #[.slice A5 E.length c5, .int .i64 0], by simp [results, Try.results10, go_sem, hc0, hc1], ?_⟩
    rw [hs]
    exact ⟨_, _, rfl, kb, .inl ⟨E, hE, rfl, kr⟩⟩
  case stop =>
    rintro D W hD hx ⟨hb0, hb1, hbw⟩ hK
    gi_wp2
    refine ⟨by simp, .inl ⟨_, _, rfl, run_takeDeferred hK, ?_⟩⟩
    have hgD := grownBy_putObj' W D (.deferred none)
    have k0 := hb0.kept hgD (fun e => by cases e; omega)
    have k1 := hb1.kept hgD (fun e => by cases e; omega)
    have kb := hbw.grown hgD (by have := hb0.lt; omega) (fun k e => by cases e; omega)
    clear hgD
    revert k0 k1 kb
    generalize W.putObj D (.deferred none) = W9
    intro k0 k1 kb
    have hc0 := k0.cell
    have hc1 := k1.cell
    refine ⟨.tuple #[.slice none 0 0, .int .i64 51], by simp [results, Try.results10, go_sem, hc0, hc1], ?_⟩
    rw [hs]
    exact ⟨_, _, rfl, kb, .inr ⟨hx, rfl, rfl⟩⟩

/-- **ip.Options**: the options of bytes, or none. -/
theorem options_any (b : List Int) (A : Option Addr) (n c : Nat) (w : World) (hr : Kd.C (Kd.int .u8) w A n b) (hc : n ≤ c) (hb : bytes b) (hn : n ≤ 100000) :
    Calls Try.prog 10 #[.slice A n c] w fun e w' => ∃ lv n, e = .returned (.tuple #[lv, .int .i64 n]) ∧ Below w.heap.size w w' ∧
      ((∃ D, opts b = some (optsOf D) ∧ n = 0 ∧ OptRows w' w.heap.size lv D) ∨ (opts b = none ∧ n = 51 ∧ lv = .slice none 0 0)) := by
  obtain rfl : b.length = n := hr.1
  exact callsIn_wide.1 (options_in b A c w hr hc hb hn)
end Go.Proofs.Ytknpaihlnkcpgaa.Own
/- Contract of octroiref01.Same; equal bytes, equal texts. -/
set_option linter.unusedVariables false
set_option linter.unusedSimpArgs false
namespace Go.Proofs.Ytknpaihlnkcpgaa.Own
open Go.RowKit Go.Proofs.YtknpaihlnkcpgaaW.PrintWords Go.Proofs.YtknpaihlnkcpgaaW.PrintLast Go.Proofs.YtknpaihlnkcpgaaW.PrintMore

theorem u8_ofNat_inj {x y : Int} (hx : 0 ≤ x ∧ x < 256) (hy : 0 ≤ y ∧ y < 256) (h : UInt8.ofNat x.toNat = UInt8.ofNat y.toNat) : x = y := by
  have h1 : (UInt8.ofNat x.toNat).toNat = (UInt8.ofNat y.toNat).toNat := by rw [h]
  rw [UInt8.toNat_ofNat', UInt8.toNat_ofNat'] at h1
  omega
theorem map_u8_inj : ∀ (xs ys : List Int), bytes xs → bytes ys → (xs.map fun n => UInt8.ofNat n.toNat) = (ys.map fun n => UInt8.ofNat n.toNat) → xs = ys
  | [], [], _, _, _ => rfl
  | [], _ :: _, _, _, h => by simp at h
  | _ :: _, [], _, _, h => by simp at h
  | x :: xs, y :: ys, hx, hy, h => by
    rw [bytes_cons] at hx hy
    simp only [List.map_cons, List.cons.injEq] at h
    rw [u8_ofNat_inj hx.1 hy.1 h.1, map_u8_inj xs ys hx.2 hy.2 h.2]
theorem strOfNums_inj {xs ys : List Int} (hx : bytes xs) (hy : bytes ys) : strOfNums xs = strOfNums ys ↔ xs = ys := by
  constructor
  · intro h
    have h1 : (strOfNums xs).data.toList = (strOfNums ys).data.toList := by rw [h]
    exact map_u8_inj xs ys hx hy h1
  · rintro rfl; rfl

theorem same_any (xs ys : List Int) (A B : Option Addr) (n c m d : Nat) (w : World) (hr : Kd.C (Kd.int .u8) w A n xs) (hs : Kd.C (Kd.int .u8) w B m ys) (hx : bytes xs) (hy : bytes ys) :
    Calls Try.prog 14 #[.slice A n c, .slice B m d] w fun e w' => e = .returned (.bool (decide (xs = ys))) ∧ w = w' := by
  have h1 := Kd.C_string (c := c) Try.underlying22 Try.underlying5 Try.underlying9 hr
  have h2 := Kd.C_string (c := d) Try.underlying22 Try.underlying5 Try.underlying9 hs
  have HI := Aside0.mk (strOfNums_inj hx hy)
  go_enter Try.func14, Try.ntmps14
  go_wp2
  go_ret
  refine ⟨ret_bool ?_, rfl⟩
  rw [Lib.strOfNums_toList, Lib.strOfNums_toList, Bool.eq_iff_iff, beq_iff_eq, decide_eq_true_iff]
  exact ⟨map_u8_inj xs ys hx hy, fun h => by rw [h]⟩
end Go.Proofs.Ytknpaihlnkcpgaa.Own
/- The works of chapter 05: true. -/
set_option linter.unusedVariables false
set_option linter.unusedSimpArgs false
namespace Go.Proofs.Ytknpaihlnkcpgaa.Own
open Go.RowKit Go.Proofs.YtknpaihlnkcpgaaW.PrintWords Go.Proofs.YtknpaihlnkcpgaaW.PrintLast Go.Proofs.YtknpaihlnkcpgaaW.PrintMore
attribute [local go_sem ↓] ld17 ld4 sv_hd
attribute [local go_sem] run_sv_hd gv_some isV_some pick2_true stc nfz_false oc1_int oc1_bool oc1_string oc1_slice oc1_pointer oc1_func pick1_true setCells_new setCells_past setCells_drew

/-- the header of the example, and its bytes -/
def hdW : Hd := ⟨0, 20, 0, false, false, 0, 1, 6, 0, 0, 0, 0, 0, 0, 0, 0⟩
def rowW : List Int := stands hdW [] (ck (stands hdW [] 0))
theorem rowW_len : rowW.length = 20 := by decide
theorem put_w5 (w : World) :
    Calls Try.prog 13 #[.agg #[.int .u8 0, .int .u16 20, .int .u16 0, .bool false, .bool false, .int .u16 0, .int .u8 1, .int .u8 6, .int .u8 0, .int .u8 0, .int .u8 0, .int .u8 0, .int .u8 0, .int .u8 0, .int .u8 0, .int .u8 0, .slice none 0 0]] w fun e w' => ∃ A c, e = .returned (.tuple #[.slice A 20 c, .int .i64 0]) ∧ Kd.C (Kd.int .u8) w' A 20 rowW ∧ 20 ≤ c ∧ Below w.heap.size w w' := by
  have hok : hdW.ok := by
    unfold Hd.ok inB hdW
    simp
  refine (put_right hdW none 0 0 [] w hok (by decide) (by decide) (Kd.C_nil _ _) (Nat.le_refl _) bytes_nil).mono ?_
  rintro e w' ⟨x, rfl, hx, hb⟩
  obtain ⟨A, c, rfl⟩ := Kd.R_slice hx
  have h := C_of_R hx
  have hl : (stands hdW [] (ck (stands hdW [] 0))).length = 20 := rowW_len
  rw [hl] at h ⊢
  exact ⟨A, c, rfl, h.1, h.2, hb⟩
theorem flat2 {α : Type} (f g : α → Value) : ∀ (D : List α) (i : Nat), (D.flatMap fun d => [f d, g d])[2 * i]? = D[i]?.map f ∧ (D.flatMap fun d => [f d, g d])[2 * i + 1]? = D[i]?.map g
  | [], i => by simp
  | d :: D, 0 => by simp
  | d :: D, i + 1 => by
    have h := flat2 f g D i
    rw [show 2 * (i + 1) = 2 * i + 1 + 1 by omega]
    simpa using h
/-- an option of a list: its cells, and its row -/
theorem OptRows.at_ {W : World} {base : Nat} {lv : Value} {D : List OptV} (h : OptRows W base lv D) (i : Nat) (d : OptV) (hd : D[i]? = some d) :
    ∃ g cap A c, lv = .slice (some ⟨g, 0, none⟩) D.length cap ∧ D.length ≤ cap ∧ base ≤ g ∧ g < W.heap.size ∧ W.cell? ⟨g, 2 * i, none⟩ = some (.int .u8 d.1) ∧ W.cell? ⟨g, 2 * i + 1, none⟩ = some (.slice A d.2.2.length c) ∧ d.2.1 = .slice A d.2.2.length c ∧
      Kd.R (Kd.int .u8) 5 W base (fun _ => True) (.slice A d.2.2.length c) d.2.2 := by
  obtain ⟨h1, h2, _⟩ := h
  have hm := List.mem_of_getElem? hd
  have hpos : 0 < D.length := List.length_pos_of_mem hm
  obtain ⟨g, cap, rfl, hg0, hlt⟩ := h1.form hpos
  have hcap := h1.2
  have hcells := h1.cells (g := g) rfl
  have hR : Kd.R (Kd.int .u8) 5 W base (fun _ => True) d.2.1 d.2.2 := Kd.R_of_own (h1 := fun _ => rfl) (h2 d hm) (fun _ _ => trivial)
  obtain ⟨A, c, e⟩ := Kd.R_slice hR
  obtain ⟨f1, f2⟩ := flat2 (fun d : OptV => Value.int .u8 d.1) (fun d => d.2.1) D i
  rw [hd] at f1 f2
  have c1 := hcells _ _ f1
  have c2 := hcells _ _ f2
  rw [Addr.add_lit, Nat.zero_add] at c1 c2
  refine ⟨g, cap, A, c, rfl, ?_, hg0, hlt, c1, by rw [← e]; exact c2, e, by rw [← e]; exact hR⟩
  rcases hcap with ⟨e1, _⟩ | ⟨g', cap', cur, e1, _, _, hle, _⟩
  · cases e1
  · cases e1; exact hle
theorem opt_w5 (w : World) :
    Calls Try.prog 10 #[.slice (some ⟨w.heap.size, 0, none⟩) 6 6] (w.alloc (.cells #[.int .u8 1, .int .u8 7, .int .u8 3, .int .u8 9, .int .u8 0, .int .u8 5] 5)) fun e w' => ∃ g cap A c, e = .returned (.tuple #[.slice (some ⟨g, 0, none⟩) 1 cap, .int .i64 0]) ∧ 1 ≤ cap ∧
      w'.cell? ⟨g, 0, none⟩ = some (.int .u8 7) ∧ w'.cell? ⟨g, 1, none⟩ = some (.slice A 1 c) ∧ Kd.C (Kd.int .u8) w' A 1 [9] ∧ Below w.heap.size w w' := by
  have hC := C_new_bytes w [1, 7, 3, 9, 0, 5] (by decide)
  refine (options_any [1, 7, 3, 9, 0, 5] _ 6 6 _ hC (Nat.le_refl _) (by decide) (by decide)).mono ?_
  rintro e w' ⟨lv, n, rfl, hb, h⟩
  have ho : opts [1, 7, 3, 9, 0, 5] = some [(7, [9])] := by decide
  rcases h with ⟨D, hD, rfl, hr⟩ | ⟨h, _⟩
  · rw [ho] at hD
    have hD := (Option.some.inj hD).symm
    match D, hD with
    | [(k, v, d)], hD =>
      simp only [optsOf, List.map_cons, List.map_nil, List.cons.injEq, Prod.mk.injEq, and_true] at hD
      obtain ⟨rfl, rfl⟩ := hD
      obtain ⟨g, cap, A, c, rfl, hcap, hg0, hlt, c1, c2, _, hR⟩ := hr.at_ 0 (7, v, [9]) rfl
      exact ⟨g, cap, A, c, rfl, hcap, c1, c2, (C_of_R hR).1, below_tr (below_alloc1 w _) hb⟩
  · rw [ho] at h; cases h

/-- make([]byte, n) -/
theorem make_bytes (w : World) (n : Nat) (ni : Int) (hi : (n : Int) = ni) (hn : n ≤ 1000000) :
    (Instr.makeSlice 22 (.int .i64 ni) (.int .i64 ni)).run Try.prog w = .ok (.slice (some ⟨w.heap.size, 0, none⟩) n n) (w.alloc (.cells (madeCells #[.int .u8 0] n) 5)) := by
  subst hi
  exact print_make (P := Try.prog) 22 5 .u8 1 Try.underlying22 info_u8 (by decide) n (by omega) w
theorem made_C (w : World) (n : Nat) (hn : n ≤ 1000000) : Kd.C (Kd.int .u8) (w.alloc (.cells (madeCells #[.int .u8 0] n) 5)) (some ⟨w.heap.size, 0, none⟩) n (List.replicate n 0) := by
  have h := own_made w w.heap.size 5 .u8 n (Nat.le_refl _) (by omega)
  have hR : Kd.R (Kd.int .u8) 5 (w.alloc (.cells (madeCells #[.int .u8 0] n) 5)) w.heap.size (fun _ => True) (.slice (some ⟨w.heap.size, 0, none⟩) n n) (List.replicate n 0) := Kd.R_of_own (h1 := fun _ => rfl) (by simpa [nums, encs] using h) (fun _ _ => trivial)
  exact (C_of_R hR).1
theorem made_Cg {w : World} {g : Nat} (n : Nat) (hg : w.heap.size = g) (hn : n ≤ 1000000) : Kd.C (Kd.int .u8) (w.alloc (.cells (madeCells #[.int .u8 0] n) 5)) (some ⟨g, 0, none⟩) n (List.replicate n 0) := by
  subst hg
  exact made_C w n hn
theorem opt_w5g {w : World} {g : Nat} (hg : w.heap.size = g) :
    Calls Try.prog 10 #[.slice (some ⟨g, 0, none⟩) 6 6] (w.alloc (.cells #[.int .u8 1, .int .u8 7, .int .u8 3, .int .u8 9, .int .u8 0, .int .u8 5] 5)) fun e w' => ∃ g cap A c, e = .returned (.tuple #[.slice (some ⟨g, 0, none⟩) 1 cap, .int .i64 0]) ∧ 1 ≤ cap ∧
      w'.cell? ⟨g, 0, none⟩ = some (.int .u8 7) ∧ w'.cell? ⟨g, 1, none⟩ = some (.slice A 1 c) ∧ Kd.C (Kd.int .u8) w' A 1 [9] ∧ Below w.heap.size w w' := by
  subst hg
  exact opt_w5 w
set_option maxRecDepth 100000 in
set_option maxHeartbeats 4000000 in
theorem works5 (w : World) :
    Calls Try.prog 8 #[] w fun e w' => e = .returned (.bool true) ∧ Below w.heap.size w w' := by
  have hm19 := fun W => make_bytes W 19 19 rfl (by decide)
  have hm20 := fun W => make_bytes W 20 20 rfl (by decide)
  go_enter Try.func8, Try.ntmps8
  go_wp2_with fail
  refine (put_w5 _).mono ?_
  rintro e w1 ⟨A, c, rfl, hC1, hc1, hb1⟩
  go_wp2_with fail
  with_reducible refine (parse_short _ 19 19 _ (by decide)).mono ?_
  rintro e w2 ⟨rfl, hb2⟩
  go_wp2_with fail
  have hs1 : ∀ (W : World) (o : Obj), (W.alloc o).heap.size = W.heap.size + 1 := fun W o => by simp
  with_reducible refine (parse_version (List.replicate 20 0) _ 20 20 _ (made_Cg 20 (hs1 w2 _) (by decide)) (by decide) (by decide)).mono ?_
  rintro e w3 ⟨rfl, hb3⟩
  clear hm19 hm20
  go_wp2_with fail
  with_reducible refine (opt_w5g (hs1 w3 _)).mono ?_
  rintro e w4 ⟨g4, cap4, A4, c4, rfl, hcap4, hx0, hx1, hC4, hb4⟩
  have HB : Aside0 (Below w.heap.size w w4) := ⟨below_tr hb1 (below_tr (below_alloc1 w1 _) (below_tr hb2 (below_tr (below_alloc2 w2 _ _) (below_tr hb3 (below_tr (below_alloc1 w3 _) hb4)))))⟩
  have HC1 : Aside0 (Kd.C (Kd.int .u8) w4 A 20 rowW) := ⟨Kd.C_below hC1 (below_tr (below_alloc1 w1 _) (below_tr hb2 (below_tr (below_alloc2 w2 _ _) (below_tr hb3 (below_tr (below_alloc1 w3 _) hb4)))))⟩
  have HC4 := Aside0.mk hC4
  clear hs1 hC1 hC4 hb1 hb2 hb3 hb4
  have hlit := fun (W : World) => C_new_bytes W [69, 0, 0, 20, 0, 0, 0, 0, 1, 6] (by decide)
  have hlit9 := fun (W : World) => C_new_bytes W [9] (by decide)
  have hcut := (take_bytes A c rowW 10 (by decide) (by decide) (by rw [rowW_len]; exact hc1)).1
  rw [rowW_len, show (rowW.take (10 : Int).toNat).length = 10 by decide] at hcut
  have htk : Kd.C (Kd.int .u8) w4 A 10 (rowW.take 10) := by
    have h := (take_bytes A c rowW 10 (by decide) (by decide) (by rw [rowW_len]; exact hc1)).2.1 w4 (by rw [rowW_len]; exact HC1.out)
    exact h
  have hsm : ∀ W : World, Below w4.heap.size w4 W → ∀ B, Kd.C (Kd.int .u8) W B 10 [69, 0, 0, 20, 0, 0, 0, 0, 1, 6] → Calls Try.prog 14 #[.slice A 10 c, .slice B 10 10] W fun e w' => e = .returned (.bool true) ∧ W = w' := fun W hb B hB => by
    have h := same_any (rowW.take 10) [69, 0, 0, 20, 0, 0, 0, 0, 1, 6] A B 10 c 10 10 W (Kd.C_below htk hb) hB (by decide) (by decide)
    rwa [show decide (rowW.take 10 = [69, 0, 0, 20, 0, 0, 0, 0, 1, 6]) = true by decide] at h
  have hsm9 : ∀ W : World, Below w4.heap.size w4 W → ∀ B, Kd.C (Kd.int .u8) W B 1 [9] → Calls Try.prog 14 #[.slice A4 1 c4, .slice B 1 1] W fun e w' => e = .returned (.bool true) ∧ W = w' := fun W hb B hB => by
    have h := same_any [9] [9] A4 B 1 c4 1 1 W (Kd.C_below HC4.out hb) hB (by decide) (by decide)
    rwa [show decide (([9] : List Int) = [9]) = true by decide] at h
  have HSM := Aside0.mk hsm
  have HSM9 := Aside0.mk hsm9
  have HL := Aside0.mk hlit
  have HL9 := Aside0.mk hlit9
  clear hsm hsm9 hlit hlit9 htk
  go_wp2_with fail
  with_reducible refine (HSM.out _ (below_alloc1 w4 _) _ (HL.out w4)).mono ?_
  rintro e w5 ⟨rfl, rfl⟩
  have hb5 := below_alloc1 w4 (.cells #[.int .u8 69, .int .u8 0, .int .u8 0, .int .u8 20, .int .u8 0, .int .u8 0, .int .u8 0, .int .u8 0, .int .u8 1, .int .u8 6] 5)
  revert hb5
  generalize w4.alloc (.cells #[.int .u8 69, .int .u8 0, .int .u8 0, .int .u8 20, .int .u8 0, .int .u8 0, .int .u8 0, .int .u8 0, .int .u8 1, .int .u8 6] 5) = w5
  intro hb5
  have hy0 := pw_cell_below hb5 hx0
  have hy1 := pw_cell_below hb5 hx1
  have HB5 := Aside0.mk hb5
  clear hx0 hx1 hb5 HSM HL hcut
  go_wp2_with fail
  with_reducible refine (HSM9.out _ (below_tr HB5.out (below_alloc1 _ _)) _ (HL9.out _)).mono ?_
  rintro e w5 ⟨rfl, rfl⟩
  go_wp2
  go_ret
  exact ⟨rfl, below_tr HB.out (below_tr HB5.out (below_alloc1 _ _))⟩
end Go.Proofs.Ytknpaihlnkcpgaa.Own
/- octroiref05.Options. -/
set_option linter.unusedVariables false
set_option linter.unusedSimpArgs false
namespace Go.Proofs.Ytknpaihlnkcpgaa.Own
open Go.RowKit Go.Proofs.YtknpaihlnkcpgaaW.PrintWords Go.Proofs.YtknpaihlnkcpgaaW.PrintLast Go.Proofs.YtknpaihlnkcpgaaW.PrintMore

/-- a string's bytes -/
def inS (s : ByteArray) : List Int := s.data.toList.map fun x => (x.toNat : Int)
theorem inS_length (s : ByteArray) : (inS s).length = s.size := by simp [inS]
theorem inS_bytes (s : ByteArray) : bytes (inS s) := by
  intro x hx
  obtain ⟨y, _, rfl⟩ := List.mem_map.1 hx
  have := y.toNat_lt
  omega
theorem inS_get (s : ByteArray) (i : Nat) (h : i < s.size) : ((s[i]'h).toNat : Int) = (inS s).getD i 0 := by
  have h2 : i < s.data.size := h
  simp [inS, List.getD_eq_getElem?_getD]
  rw [Array.getElem?_eq_getElem h2]
  rfl
theorem inS_cut (s : ByteArray) (i j : Nat) : inS (s.extract i j) = ((inS s).take j).drop i := by
  simp [inS, List.map_drop, List.map_take, List.drop_take]
theorem str_inS (s : ByteArray) : strOfNums (inS s) = s := by
  apply ByteArray.ext
  apply Array.toList_inj.1
  rw [strOfNums_data, inS, List.map_map]
  conv => rhs; rw [← List.map_id s.data.toList]
  apply List.map_congr_left
  intro x _
  simp
theorem inS_empty (s : ByteArray) : s.toList.isEmpty = decide (s.size = 0) := by
  rw [← inS_length]
  conv => lhs; rw [← str_inS s, Lib.strOfNums_toList]
  cases inS s <;> rfl
theorem inS_str {b : List Int} (h : bytes b) : inS (strOfNums b) = b := by
  rw [inS, strOfNums_data, List.map_map]
  conv => rhs; rw [← List.map_id b]
  apply List.map_congr_left
  intro x hx
  have := h x hx
  simp
  omega
abbrev optK : Kd (Int × ByteArray) := Kd.pair (Kd.int .u8) Kd.string
def refOpts (D : List (Int × List Int)) : List (Int × ByteArray) := D.map fun d => (d.1, strOfNums d.2)
theorem optR_one (w : World) (base : Nat) (x : Int) (s : ByteArray) (hb : base ≤ w.heap.size) : optK.R 34 (w.alloc (.cells #[.int .u8 x, .string s] 34)) base (fun _ => True) (.slice (some ⟨w.heap.size, 0, none⟩) 1 1) [(x, s)] := by
  refine ⟨fun _ _ => trivial, [.int .u8 x, .string s], ⟨rfl, .inr ⟨w.heap.size, 1, #[.int .u8 x, .string s], rfl, hb, heap_alloc_new w _, Nat.le_refl _, by decide, rfl, rfl⟩⟩, rfl, fun j p hj => ?_⟩
  cases j with
  | zero => cases hj; exact ⟨[.int .u8 x], [.string s], rfl, rfl, rfl⟩
  | succ j => cases hj
theorem info_ropt : (Try.prog.info? 34).map (fun i => (i.zero, i.size, i.bytes)) = some (some (.agg #[.int .u8 0, .string ⟨#[]⟩]), 2, 24) := by kernel_rfl
/-- what Options answers for a string -/
def refOK (s : ByteArray) (w w' : World) (e : Ending) : Prop := ∃ v n, e = .returned (.tuple #[v, .int .i64 n]) ∧ Below w.heap.size w w' ∧
      ((∃ D, opts (inS s) = some D ∧ n = 0 ∧ optK.R 34 w' w.heap.size (fun _ => True) v (refOpts D)) ∨ (opts (inS s) = none ∧ n = 51 ∧ v = .slice none 0 0))

set_option maxRecDepth 100000 in
set_option maxHeartbeats 8000000 in
theorem refoptions_any : ∀ (m : Nat) (s : ByteArray) (w : World), s.size ≤ m → m ≤ 100000 →
    Calls Try.prog 9 #[.string s] w fun e w' => refOK s w w' e := by
  intro m
  induction m with
  | zero =>
    intro s w hbm hm
    have hs0 : s.size = 0 := by omega
    have hE : s.toList.isEmpty = true := by rw [inS_empty]; exact decide_eq_true hs0
    go_enter Try.func9, Try.ntmps9
    go_wp2
    refine bodyPost_ret (results_tmp2 rfl _ _ _) rfl ?_
    exact ⟨_, _, rfl, Below.refl _ _, .inl ⟨[], opts_nil (.inl (by rw [inS_length]; exact hs0)), rfl, Kd.R_nil _ _ _ _ _⟩⟩
  | succ m ih =>
    intro s w hbm hm
    have hsz := inS_length s
    have HS := Aside0.mk hsz
    by_cases hb0 : s.size = 0
    · have hE : s.toList.isEmpty = true := by rw [inS_empty]; exact decide_eq_true hb0
      go_enter Try.func9, Try.ntmps9
      go_wp2
      refine bodyPost_ret (results_tmp2 rfl _ _ _) rfl ?_
      exact ⟨_, _, rfl, Below.refl _ _, .inl ⟨[], opts_nil (.inl (by rw [inS_length]; exact hb0)), rfl, Kd.R_nil _ _ _ _ _⟩⟩
    · have hs0 : 0 < s.size := by omega
      have hE : s.toList.isEmpty = false := by rw [inS_empty]; exact decide_eq_false hb0
      have hx : ∀ h : 0 < s.size, ((s[0]'h).toNat : Int) = (inS s).getD 0 0 := fun h => inS_get s 0 h
      have hxr := bytes_getD (inS_bytes s) 0
      obtain ⟨x, ex⟩ : ∃ x, (inS s).getD 0 0 = x := ⟨_, rfl⟩
      rw [ex] at hx hxr
      obtain ⟨x0, x1⟩ := hxr
      have HX := Aside0.mk ex
      clear ex hsz
      go_enter Try.func9, Try.ntmps9
      by_cases h0 : x = 0
      · subst h0
        go_wp2
        refine bodyPost_ret (results_tmp2 rfl _ _ _) rfl ?_
        exact ⟨_, _, rfl, Below.refl _ _, .inl ⟨[], opts_nil (.inr HX.out), rfl, Kd.R_nil _ _ _ _ _⟩⟩
      · by_cases h1 : x = 1
        · subst h1
          have hc := inS_cut s 1 s.size
          have hd : inS (s.extract 1 s.size) = (inS s).drop 1 := by rw [hc, List.take_of_length_le (by rw [inS_length]; exact Nat.le_refl _)]
          have hq := ih (s.extract 1 s.size) w (by rw [← inS_length, hd, List.length_drop, inS_length]; omega) (by omega)
          have HD := Aside0.mk hd
          clear ih hc hd
          go_wp2_with (go_at_call 9; go_must (with_reducible refine hq.mono ?_); rintro e w1 ⟨v, n, rfl, hb1, hr1⟩)
          refine bodyPost_ret (results_tmp2 rfl _ _ _) rfl ?_
          refine ⟨_, _, rfl, hb1, ?_⟩
          rw [HD.out, ← opts_one (by rw [inS_length]; omega) HX.out] at hr1
          exact hr1
        · have bad : ∀ {w' : World} (hbad : s.size < 2 ∨ (inS s).getD 1 0 < 2 ∨ (s.size : Int) < (inS s).getD 1 0), refOK s w w (.returned (.tuple #[.slice none 0 0, .int .i64 51])) := fun hbad =>
            ⟨_, _, rfl, Below.refl _ _, .inr ⟨opts_bad (by rw [inS_length]; omega) (by rw [HX.out]; exact h0) (by rw [HX.out]; exact h1) (by rw [inS_length]; exact hbad), rfl, rfl⟩⟩
          have HBAD := Aside0.mk (@bad w)
          clear bad
          by_cases h2 : s.size < 2
          · go_wp2
            refine bodyPost_ret (results_tmp2 rfl _ _ _) rfl ?_
            exact HBAD.out (.inl (by omega))
          · have hy : ∀ h : 1 < s.size, ((s[1]'h).toNat : Int) = (inS s).getD 1 0 := fun h => inS_get s 1 h
            have hyr := bytes_getD (inS_bytes s) 1
            obtain ⟨y, ey⟩ : ∃ y, (inS s).getD 1 0 = y := ⟨_, rfl⟩
            rw [ey] at hy hyr HBAD
            obtain ⟨y0, y1⟩ := hyr
            have HY := Aside0.mk ey
            clear ey
            have hs1 : 1 < s.size := by omega
            by_cases h3 : y < 2
            · go_wp2
              refine bodyPost_ret (results_tmp2 rfl _ _ _) rfl ?_
              exact HBAD.out (.inr (.inl h3))
            · by_cases h4 : (s.size : Int) < y
              · go_wp2
                refine bodyPost_ret (results_tmp2 rfl _ _ _) rfl ?_
                exact HBAD.out (.inr (.inr h4))
              · have hyn : y ≤ s.size := by omega
                have hlen := inS_length s
                have hd : inS (s.extract y.toNat s.size) = (inS s).drop y.toNat := by rw [inS_cut, List.take_of_length_le (by rw [inS_length]; exact Nat.le_refl _)]
                have hq := ih (s.extract y.toNat s.size) w (by rw [← inS_length, hd, List.length_drop, inS_length]; omega) (by omega)
                have hc2 : inS (s.extract 2 y.toNat) = ((inS s).take y.toNat).drop 2 := inS_cut s 2 y.toNat
                have HEQ : Aside0 (opts (inS s) = (opts (inS (s.extract y.toNat s.size))).map (fun D => (x, inS (s.extract 2 y.toNat)) :: D)) := ⟨by
                  rw [hd, hc2]
                  have h := opts_cons (l := inS s) (by rw [HX.out]; exact h0) (by rw [HX.out]; exact h1) (by rw [HY.out, inS_length]; omega)
                  rw [HX.out, HY.out] at h
                  exact h⟩
                clear ih hd hc2 hlen HBAD
                go_wp2_with (go_at_call 9; go_must (with_reducible refine hq.mono ?_); rintro e w1 ⟨v, n, rfl, hb1, (⟨D, hD, rfl, hR⟩ | ⟨hN, rfl, rfl⟩)⟩)
                · obtain ⟨A5, c5, rfl, hc5, hC5⟩ := Kd.R_reads hR
                  have hln := opts_length hD
                  have hln2 : (refOpts D).length ≤ 100000 := by
                    rw [inS_length] at hln
                    have h : (s.extract y.toNat s.size).size ≤ s.size := by rw [← inS_length, inS_cut, List.length_drop, List.length_take, inS_length]; omega
                    simp only [refOpts, List.length_map]
                    omega
                  have HEQ2 : Aside0 (opts (inS s) = some ((x, inS (s.extract 2 y.toNat)) :: D)) := ⟨by rw [HEQ.out, hD]; rfl⟩
                  have hcons : (x, s.extract 2 y.toNat) :: refOpts D = refOpts ((x, inS (s.extract 2 y.toNat)) :: D) := by simp [refOpts, str_inS]
                  obtain ⟨s2, es2⟩ : ∃ s2, s.extract 2 y.toNat = s2 := ⟨_, rfl⟩
                  generalize eL : refOpts D = L at hC5 hln2 hcons ⊢
                  have hLn : L.length = L.length := rfl
                  generalize en5 : L.length = n5 at hC5 hln2 ⊢
                  have HCONS := Aside0.mk hcons
                  have HC5 := Aside0.mk hC5
                  have HB1 := Aside0.mk hb1
                  have HLN := Aside0.mk hln2
                  have HN5 := Aside0.mk en5
                  clear hR hb1 hD hq hC5 hln hcons eL en5 hLn
                  go_region_held3 (fun _ => True) (trivial) (fail)
                  all_goals (
                    have HO := Aside0.mk (Kd.R_below (optR_one w1 w.heap.size x s2 HB1.out.size) (below_drew (Below.refl _ _)))
                    have hbb := Aside0.mk (below_tr HB1.out (below_drew (below_alloc1 w1 (.cells #[.int .u8 x, .string s2] 34))))
                    have hCC := Aside0.mk (Kd.C_below HC5.out (below_drew (below_alloc1 w1 (.cells #[.int .u8 x, .string s2] 34))))
                    have hsz9 := hbb.out.size
                    generalize (w1.alloc (.cells #[.int .u8 x, .string s2] 34)).drew = w2 at HO hbb hCC hsz9 ⊢
                    go_wp2_with (at_builtin; refine Kd.R_append_rows optK (w0 := w) w.heap.size rfl (.tmp 57) (.tmp 58) 24 34 (.agg #[.int .u8 0, .string ⟨#[]⟩]) 24 rfl Try.underlying24 info_ropt rfl (by decide) (by decide) _ [(x, s2)] L A5 n5 c5 (fun _ => True) (fun _ => False) rfl rfl HO.out hCC.out (fun _ _ h => h) (fun _ h => h.elim) (fun _ _ => trivial) hbb.out hbb.out.size (by simp; omega) ?_; intro v1 w3 ho1 hb3 _ _)
                    refine bodyPost_ret (results_tmp2 rfl _ _ _) rfl ?_
                    exact ⟨v1, 0, rfl, hb3, .inl ⟨_, HEQ2.out, rfl, by have h := ho1; rw [← es2] at h; rw [← HCONS.out]; exact h⟩⟩)
                · refine bodyPost_ret (results_tmp2 rfl _ _ _) rfl ?_
                  exact ⟨_, _, rfl, hb1, .inr ⟨by rw [HEQ.out, hN]; rfl, rfl, rfl⟩⟩
end Go.Proofs.Ytknpaihlnkcpgaa.Own
/- The walk of the law IpOptions. -/
set_option linter.unusedVariables false
set_option linter.unusedSimpArgs false
namespace Go.Proofs.Ytknpaihlnkcpgaa.Own
open Go.RowKit Go.Proofs.YtknpaihlnkcpgaaW.PrintWords Go.Proofs.YtknpaihlnkcpgaaW.PrintLast Go.Proofs.YtknpaihlnkcpgaaW.PrintMore

theorem grown_set1 (w : World) (g i : Nat) (u : Value) : w.grownBy (w.setCell ⟨g, i, none⟩ u) (some g) :=
  ⟨(World.grownBy.refl w (some g)).os, (World.grownBy.refl w (some g)).tape, (World.grownBy.refl w (some g)).output, by simp, fun k hk hne => Below.heap_setCell _ _ _ k (fun e => hne (by rw [e]))⟩
theorem want_at {W : World} {e base : Nat} {ok : Nat → Prop} {A : Option Addr} {n c : Nat} {xs : List (Int × ByteArray)} (h : optK.R e W base ok (.slice A n c) xs) (i : Nat) (x : Int) (s : ByteArray) (hx : xs[i]? = some (x, s)) :
    ∃ g, A = some ⟨g, 0, none⟩ ∧ W.cell? ⟨g, i * 2, none⟩ = some (.int .u8 x) ∧ W.cell? ⟨g, i * 2 + 1, none⟩ = some (.string s) := by
  have hpos : 0 < xs.length := List.length_pos_of_mem (List.mem_of_getElem? hx)
  obtain ⟨g, cap, e1, _⟩ := Kd.R_form h hpos
  cases e1
  obtain ⟨_, _, hC⟩ := Kd.R_reads' h
  obtain ⟨ad, e2, hcell⟩ := hC.2.2 hpos
  cases e2
  obtain ⟨cs, _, ⟨c0, c1, rfl, h0, h1⟩, hc⟩ := hcell i _ hx
  have h0' : c0 = [.int .u8 x] := h0
  have h1' : c1 = [.string s] := h1
  subst h0' h1'
  have k0 := hc 0 _ rfl
  have k1 := hc 1 _ rfl
  have hs : optK.sz = 2 := rfl
  rw [hs, Addr.add_lit, Nat.zero_add] at k0 k1
  exact ⟨g, rfl, k0, k1⟩
theorem flat_set {α : Type} (f : α → List Value) (D : List α) (i : Nat) (d d' : α) (hd : D[i]? = some d) (he : f d' = f d) : (D.set i d').flatMap f = D.flatMap f := by
  simp only [List.flatMap]
  congr 1
  rw [List.map_set, he]
  apply List.ext_getElem?
  intro j
  rw [List.getElem?_set]
  split
  · rename_i hij
    subst hij
    split
    · simp [hd]
    · rename_i h; simp at h; simp [List.getElem?_eq_none h]
  · rfl
theorem OptRows.below {W W' : World} {base : Nat} {lv : Value} {D : List OptV} (h : OptRows W base lv D) (hb : Below W.heap.size W W') : OptRows W' base lv D :=
  h.kept (grown_of_below hb none) (fun k e => by cases e)
/-- a byte of an option's data is written -/
theorem OptRows.store {W : World} {base : Nat} {lv : Value} {D : List OptV} (h : OptRows W base lv D) (i : Nat) (d : OptV) (hd : D[i]? = some d) (g len c : Nat) (hA : d.2.1 = .slice (some ⟨g, 0, none⟩) len c) (k : Int) (x : Int) :
    OptRows (W.setCell ⟨g, k.toNat, none⟩ (.int .u8 x)) base lv (D.set i (d.1, d.2.1, d.2.2.set k.toNat x)) := by
  obtain ⟨h1, h2, h3⟩ := h
  have hm := List.mem_of_getElem? hd
  have hob : d.2.1.ownBlock = some g := by rw [hA]; rfl
  obtain ⟨cs, hcs⟩ := own_typed (h2 d hm) g hob
  have hg := grown_set1 W g k.toNat (.int .u8 x)
  have hi : i < D.length := by
    rcases Nat.lt_or_ge i D.length with h' | h'
    · exact h'
    · rw [List.getElem?_eq_none h'] at hd; cases hd
  refine ⟨?_, ?_, ?_⟩
  · have e0 := flat_set (fun d : OptV => [Value.int .u8 d.1, d.2.1]) D i d (d.1, d.2.1, d.2.2.set k.toNat x) hd rfl
    rw [List.length_set, e0]
    refine h1.kept hg ?_
    rcases hlv : lv.ownBlock with _ | q
    · exact .inl rfl
    · refine .inr fun e => ?_
      cases e
      obtain ⟨cs', hcs'⟩ := own_typed h1 g hlv
      rw [hcs] at hcs'
      cases hcs'
  · intro d2 hd2
    obtain ⟨j, hj, rfl⟩ := List.mem_iff_getElem.1 hd2
    rw [List.getElem_set]
    split
    · have hR : Kd.R (Kd.int .u8) 5 W base (fun _ => True) (.slice (some ⟨g, 0, none⟩) len c) d.2.2 := by rw [← hA]; exact Kd.R_of_own (h1 := fun _ => rfl) (h2 d hm) (fun _ _ => trivial)
      have hp := Kd.own_of_R (Kd.R_putn hR k x)
      simp only
      rw [hA]
      exact hp
    · rename_i hij
      rw [List.length_set] at hj
      have hmj : D[j] ∈ D := List.getElem_mem hj
      refine (h2 _ hmj).kept hg ?_
      rcases Nat.lt_or_ge i j with hlt | hge
      · have hp := List.pairwise_iff_getElem.1 h3 i j hi hj hlt
        have e : D[i] = d := by rw [List.getElem?_eq_getElem hi] at hd; exact Option.some.inj hd
        rw [e, hob] at hp
        rcases hp with hp | hp
        · cases hp
        · exact .inr fun e => hp e.symm
      · have hp := List.pairwise_iff_getElem.1 h3 j i hj hi (by omega)
        have e : D[i] = d := by rw [List.getElem?_eq_getElem hi] at hd; exact Option.some.inj hd
        rw [e, hob] at hp
        rcases hp with hp | hp
        · exact .inl hp
        · exact .inr hp
  · have hmap : (D.set i (d.1, d.2.1, d.2.2.set k.toNat x)).map (fun d => d.2.1) = D.map (fun d => d.2.1) := by
      rw [List.map_set]
      apply List.ext_getElem?
      intro j
      rw [List.getElem?_set]
      split
      · rename_i hij
        subst hij
        simp [hi, hd]
        have e : D[i] = d := by rw [List.getElem?_eq_getElem hi] at hd; exact Option.some.inj hd
        rw [e]
      · rfl
    have h3' : (D.map (fun d => d.2.1)).Pairwise (fun a b => a.ownBlock = none ∨ a.ownBlock ≠ b.ownBlock) := List.pairwise_map.2 h3
    rw [← hmap] at h3'
    exact List.pairwise_map.1 h3'
theorem optsF_len : ∀ (m : Nat) (l : List Int) (D : List (Int × List Int)), optsF m l = some D → D.length ≤ m := by
  intro m
  induction m with
  | zero => intro l D h; simp [optsF] at h; subst h; simp
  | succ m ih =>
    intro l D h
    unfold optsF at h
    split at h
    · cases h; simp
    · split at h
      · have := ih _ _ h; omega
      · split at h
        · cases h
        · obtain ⟨E, hE, rfl⟩ := Option.map_eq_some_iff.1 h
          have := ih _ _ hE
          simp
          omega
theorem opts_len (l : List Int) (D : List (Int × List Int)) (h : opts l = some D) : D.length ≤ l.length := optsF_len _ _ _ h
theorem set_at {α : Type} {E : List α} {i : Nat} {d : α} (h : E[i]? = some d) (d' : α) : (E.set i d')[i]? = some d' := by
  have : i < E.length := by
    rcases Nat.lt_or_ge i E.length with h' | h'
    · exact h'
    · rw [List.getElem?_eq_none h'] at h; cases h
  rw [List.getElem?_set_self this]
/-- the same options, but for their data's bytes; from i on they are all the same -/
def SameFrom (i : Nat) (D E : List OptV) : Prop := D.length = E.length ∧ ∀ j, i ≤ j → E[j]? = D[j]?
theorem SameFrom.refl (i : Nat) (D : List OptV) : SameFrom i D D := ⟨rfl, fun _ _ => rfl⟩
theorem SameFrom.next {i : Nat} {D E : List OptV} (h : SameFrom i D E) : SameFrom (i + 1) D E := ⟨h.1, fun j hj => h.2 j (by omega)⟩
theorem SameFrom.set {i : Nat} {D E : List OptV} (h : SameFrom (i + 1) D E) (d : OptV) : SameFrom (i + 1) D (E.set i d) := ⟨by rw [List.length_set]; exact h.1, fun j hj => by rw [List.getElem?_set_ne (by omega)]; exact h.2 j hj⟩

set_option maxRecDepth 100000 in
set_option maxHeartbeats 8000000 in
theorem ipOptions_any (b : List Int) (A : Option Addr) (n c : Nat) (w : World) (hC : Kd.C (Kd.int .u8) w A n b) (hc : n ≤ c) (hb : bytes b) (hn9 : n ≤ 9223372036854775807) :
    Calls Try.prog 3 #[.slice A n c] w fun e w' => e = .returned (.bool true) ∧ Below w.heap.size w w' := by
  have HC := Aside0.mk hC
  have HB := Aside0.mk hb
  by_cases h100 : 100 < n
  · clear hC hb
    go_enter Try.func3, Try.ntmps3
    go_wp2_with (go_at_call 8; (with_reducible refine (works5 _).mono ?_); rintro e w1 ⟨rfl, hb1⟩)
    go_ret
    exact ⟨rfl, hb1⟩
  · have h100' : n ≤ 100 := by omega
    have hstr := Kd.C_string (c := c) Try.underlying22 Try.underlying5 Try.underlying9 hC
    have hlen := hC.1
    have hsz : (strOfNums b).size = n := by rw [← hlen, ← inS_length, inS_str hb]
    have hq := refoptions_any 100 (strOfNums b) w (by omega) (by omega)
    unfold refOK at hq
    rw [inS_str hb] at hq
    have HLEN := Aside0.mk hlen
    clear h100 hC hb hsz hlen
    go_enter Try.func3, Try.ntmps3
    go_wp2_with (go_at_call 9; go_must (with_reducible refine hq.mono ?_); rintro e w1 ⟨v, f, rfl, hb1, hres⟩)
    have HB1 := Aside0.mk hb1
    have HO := Aside0.mk (fun (W : World) (hW : Below w.heap.size w W) => options_any b A n c W (Kd.C_below HC.out hW) hc HB.out (by omega))
    clear hstr hq hb1
    rcases hres with ⟨D, hD, rfl, hR⟩ | ⟨hD, rfl, rfl⟩
    · obtain ⟨Aw, cw, rfl⟩ := Kd.R_slice hR
      obtain ⟨N, hN⟩ : ∃ N, (refOpts D).length = N := ⟨_, rfl⟩
      rw [hN] at hR ⊢
      have HN := Aside0.mk hN
      have HD := Aside0.mk hD
      have HW0 : Aside0 (optK.R 34 w1 w.heap.size (fun _ => True) (.slice Aw N cw) (refOpts D)) := ⟨hR⟩
      have HB0 := HB1
      have hN9 : N ≤ 100 := by rw [← hN, refOpts, List.length_map]; have := opts_len b D hD; have := HLEN.out; omega
      clear hR hD HB1
      go_loopw [5] (fun p wr => ∃ (k : Nat), k ≤ 2 ∧ p = .int .i64 k ∧ Aside0 (Below w.heap.size w wr) ∧ Aside0 (optK.R 34 wr w.heap.size (fun _ => True) (.slice Aw N cw) (refOpts D))) (fun p wr => 2 - (intOf p).toNat)
      case atStart => exact ⟨0, by omega, rfl, HB0, HW0⟩
      case round =>
        clear HB0 HW0 hN
        obtain ⟨k, hk, rfl, HB1, HW⟩ := hrel
        by_cases hk2 : k < 2
        · have hop := HO.out wr HB1.out
          rw [HD.out] at hop
          obtain ⟨wo, rfl⟩ : ∃ wo : World, wo = wr := ⟨_, rfl⟩
          go_wp2_with fail
          with_reducible refine hop.mono ?_
          rintro e w2 ⟨lv, m, rfl, hb2, hor⟩
          rcases hor with ⟨E, hE, rfl, hrow⟩ | ⟨hE, _⟩
          · have hE' : D = optsOf E := Option.some.inj hE
            have HE := Aside0.mk hE'
            obtain ⟨A5, c5, rfl⟩ := own_slice hrow.1
            have hEl : E.length = N := by rw [← HN.out, hE']; simp [refOpts, optsOf]
            rw [hEl] at hrow ⊢
            have HEL := Aside0.mk hEl
            have HR0 := Aside0.mk hrow
            have HB2 := Aside0.mk hb2
            clear hb2 hop hE hE' hrow hEl
            go_wp2
            have HS0 : Aside0 (∃ E', OptRows w2 wo.heap.size (.slice A5 N c5) E' ∧ SameFrom 0 E E') := ⟨E, HR0.out, SameFrom.refl 0 E⟩
            go_loopw [8] (fun p wi => ∃ (i : Nat), i ≤ N ∧ p = .int .i64 i ∧ Aside0 (∃ E', OptRows wi wo.heap.size (.slice A5 N c5) E' ∧ SameFrom i E E') ∧ Aside0 (Below wo.heap.size wo wi)) (fun p _ => N - (intOf p).toNat)
            case atStart => exact ⟨0, by omega, rfl, HS0, HB2⟩
            case round =>
              clear HS0 HB2 HR0
              obtain ⟨i, hi, rfl, HS, HB2⟩ := hrel
              obtain ⟨wi, rfl⟩ : ∃ wi : World, wi = wr := ⟨_, rfl⟩
              by_cases hiN : i < N
              · have hiE : i < E.length := by rw [HEL.out]; exact hiN
                obtain ⟨E', hrow, hsame⟩ := HS.out
                have hEi : E[i]? = some E[i] := List.getElem?_eq_getElem hiE
                have hE'i : E'[i]? = some E[i] := by rw [hsame.2 i (Nat.le_refl _), hEi]
                have hwi : (refOpts D)[i]? = some (E[i].1, strOfNums E[i].2.2) := by rw [HE.out]; simp [refOpts, optsOf, hEi]
                obtain ⟨g, cap, Ad, cd, e1, _, hg0, hg1, hx0, hx1, hdv, hRd⟩ := hrow.at_ i _ hE'i
                obtain rfl : A5 = some ⟨g, 0, none⟩ := by injection e1
                clear e1
                obtain ⟨gw, ew, hy0, hy1⟩ := want_at (Kd.R_below HW.out HB2.out) i _ _ hwi
                cases ew
                have HRD := Aside0.mk hRd
                have HROW := Aside0.mk hrow
                have HSAME := Aside0.mk hsame
                have HE'I := Aside0.mk hE'i
                have HDV := Aside0.mk hdv
                obtain ⟨q, hq⟩ : ∃ q, E[i] = q := ⟨_, rfl⟩
                rw [hq] at hx0 hx1 hy0 hy1 HRD HE'I HDV
                rw [Nat.mul_comm] at hx0 hx1
                obtain ⟨kd, vd, d⟩ := q
                dsimp only at hx0 hx1 hy0 hy1 HRD HDV
                have hstr := fun (nq : Nat) => Kd.C_string (w := wi.drewN nq) (c := cd) Try.underlying22 Try.underlying5 Try.underlying9 (Kd.C_drewN (C_of_R HRD.out).1 nq)
                clear hRd hrow hsame hE'i hdv hEi hwi hq hiE hg1
                have hiN' : (i : Int) < N := by omega
                have HIN := Aside0.mk hiN
                go_upto_region 13 with fail
                go_quiet (fail)
                go_wp2
                have hbn := pw_below_drewN (Below.refl wi.heap.size wi) nq
                have HS1 : Aside0 (∃ E'', OptRows (wi.drewN nq) wo.heap.size (.slice (some ⟨g, 0, none⟩) N c5) E'' ∧ SameFrom (i + 1) E E'' ∧ ∃ r, E''[i]? = some (kd, vd, r) ∧ r.length = d.length) := ⟨E', HROW.out.below hbn, HSAME.out.next, d, HE'I.out, rfl⟩
                have HB3 : Aside0 (Below wo.heap.size wo (wi.drewN nq)) := ⟨below_then HB2.out HB2.out.size hbn⟩
                obtain ⟨len, hlen⟩ : ∃ len, d.length = len := ⟨_, rfl⟩
                rw [hlen] at HS1 HDV hx1 ⊢
                clear hbn hx0 hx1 hy0 hy1 hstr HROW HSAME HE'I HRD HS HB2 hlen
                generalize wi.drewN nq = wn at HS1 HB3 ⊢
                go_loopw [9] (fun p wj => ∃ (k : Nat), k ≤ len ∧ p = .int .i64 k ∧ Aside0 (∃ E'', OptRows wj wo.heap.size (.slice (some ⟨g, 0, none⟩) N c5) E'' ∧ SameFrom (i + 1) E E'' ∧ ∃ r, E''[i]? = some (kd, vd, r) ∧ r.length = len) ∧ Aside0 (Below wo.heap.size wo wj)) (fun p _ => len - (intOf p).toNat)
                case atStart => exact ⟨0, by omega, rfl, HS1, HB3⟩
                case round =>
                  clear HS1 HB3
                  obtain ⟨k2, hk22, rfl, HS1, HB3⟩ := hrel
                  obtain ⟨wj, rfl⟩ : ∃ wj : World, wj = wr := ⟨_, rfl⟩
                  obtain ⟨E2, hrow2, hsame2, r, hEr, hrl⟩ := HS1.out
                  obtain ⟨g', cap', Ad', cd', e1, _, hg0', hg1', hx0, hx1, hdv', hRd⟩ := hrow2.at_ i _ hEr
                  obtain rfl : g = g' := by injection e1 with e2; injection e2 with e3; injection e3
                  clear e1
                  dsimp only at hx0 hx1 hdv' hRd
                  rw [HDV.out] at hdv'
                  obtain rfl : Ad = Ad' := by injection hdv'
                  obtain rfl : cd = cd' := by injection hdv'
                  rw [hrl] at hx1 hRd
                  rw [Nat.mul_comm] at hx0 hx1
                  have hl63 : len ≤ 9223372036854775807 := (C_of_R hRd).1.2.1
                  by_cases hk2l : k2 < len
                  · obtain ⟨gd, capd, e4, hgd0, _, _⟩ := Kd.R_form hRd (by rw [hrl]; omega)
                    obtain rfl : Ad = some ⟨gd, 0, none⟩ := by injection e4
                    obtain ⟨hcx, hfx⟩ := Kd.R_celln (0 : Int) hRd k2 (by omega) (by omega)
                    rw [Int.toNat_natCast] at hcx hfx
                    obtain ⟨x, ex⟩ : ∃ x, rdOf 0 r (k2 : Int) = x := ⟨_, rfl⟩
                    rw [ex] at hcx
                    have HST := fun y => hrow2.store i _ hEr gd len cd (by dsimp only; exact HDV.out) (k2 : Int) y
                    simp only [Int.toNat_natCast] at HST
                    have HST := Aside0.mk HST
                    have HSM := Aside0.mk hsame2
                    have HRL := Aside0.mk hrl
                    have HEI := Aside0.mk hEr
                    clear hrow2 hsame2 hEr hrl hRd ex hdv' e4 HS1
                    go_wp2
                    go_roundw
                    case rel => exact ⟨k2 + 1, by omega, by go_num, ⟨_, HST.out _, HSM.out.set _, _, set_at HEI.out _, by rw [List.length_set]; exact HRL.out⟩, ⟨HB3.out.setCell (p := ⟨gd, k2, none⟩) hgd0 _⟩⟩
                    case measure => simp [intOf]; omega
                  · have HR2 := Aside0.mk hrow2
                    have HSM := Aside0.mk hsame2
                    clear hrow2 hsame2 hEr hRd hdv' HS1
                    go_wp2
                    go_roundw
                    case rel => exact ⟨i + 1, by have := HIN.out; omega, by go_num, ⟨_, HR2.out, HSM.out⟩, HB3⟩
                    case measure => have := HIN.out; simp [intOf]; omega
              · clear HS
                go_wp2
                go_roundw
                case rel => exact ⟨k + 1, by omega, by go_num, ⟨below_then HB1.out HB1.out.size HB2.out⟩, ⟨Kd.R_below HW.out HB2.out⟩⟩
                case measure => simp [intOf]; omega
          · cases hE
        · go_wp2_with (go_at_call 8; (with_reducible refine (works5 _).mono ?_); rintro e w2 ⟨rfl, hb2⟩)
          go_ret
          exact ⟨rfl, below_then HB1.out HB1.out.size hb2⟩
    · have HD := Aside0.mk hD
      clear hD
      have HB0 : Aside0 (Below w.heap.size w w1) := HB1
      go_loopw [5] (fun p wr => ∃ (k : Nat), k ≤ 2 ∧ p = .int .i64 k ∧ Aside0 (Below w.heap.size w wr)) (fun p wr => 2 - (intOf p).toNat)
      case atStart => exact ⟨0, by omega, rfl, HB0⟩
      case round =>
        clear HB0 HB1
        obtain ⟨k, hk, rfl, HB1⟩ := hrel
        by_cases hk2 : k < 2
        · have hop := HO.out wr HB1.out
          rw [HD.out] at hop
          go_wp2_with fail
          with_reducible refine hop.mono ?_
          rintro e w2 ⟨lv, m, rfl, hb2, hor⟩
          rcases hor with ⟨E, hE, _⟩ | ⟨_, rfl, rfl⟩
          · cases hE
          · have HB2 := Aside0.mk (below_then HB1.out HB1.out.size hb2)
            clear hb2 hop
            obtain ⟨wo, rfl⟩ : ∃ wo : World, wo = wr := ⟨_, rfl⟩
            go_wp2
            go_loopw [8] (fun p wi => p = .int .i64 0 ∧ Aside0 (Below w.heap.size w wi)) (fun _ _ => 0)
            case atStart => exact ⟨rfl, HB2⟩
            case round =>
              obtain ⟨rfl, HB3⟩ := hrel
              go_wp2
              go_roundw
              case rel => exact ⟨k + 1, by omega, by go_num, HB3⟩
              case measure => simp [intOf]; omega
        · go_wp2_with (go_at_call 8; (with_reducible refine (works5 _).mono ?_); rintro e w2 ⟨rfl, hb2⟩)
          go_ret
          exact ⟨rfl, below_then HB1.out HB1.out.size hb2⟩
end Go.Proofs.Ytknpaihlnkcpgaa.Own
