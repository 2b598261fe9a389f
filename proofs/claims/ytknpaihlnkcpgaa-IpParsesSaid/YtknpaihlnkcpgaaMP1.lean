/- The session's texts that the law leans on, merged: Ord, Help, Clone, SumPlain, BitsPlain, SumCode, Bits, Get, Writer, Big, BigT, Hd, ParseShort, SumMore, Parse, ParseAll, Body, Hop, RGet, WSet, Concat, Put, Row, RefSum, OptPlain, Same. -/
import Derived.Test.YtknpaihlnkcpgaaBase
import Derived.OrdersHeld
import Derived.Deep.Quiet
import Derived.Handy
import Derived.RangeFuncBox
import Derived.Laws.Cells
import Derived.Laws.IdiomCopy
import Derived.Deep.MidRow
import Derived.Laws.CopyRow
import Derived.Laws.CopyOwn
import Derived.Lib.AppendZerosOnto
import Derived.Lib.Walk
import Derived.Lib.SliceRun
import Derived.IntWalk
import Derived.Lib.Bytes
/- A region that draws its order: walked once, in one order that is named, quiet calls (and whatever yields in every world that meets S) taken first. -/
set_option linter.unusedVariables false
set_option linter.unusedSimpArgs false
namespace Go.Proofs.Ytknpaihlnkcpgaa.Own

section
variable {P : Program} {ops : Array Oper} {Q : Exit → Act → World → Prop} {md : Region.Mode} {S : World → Prop}

/-- in every world that meets S the operation leaves v, and that very world; a call that only reads is let in -/
def YieldsQ (P : Program) (ops : Array Oper) (S : World → Prop) (o : Oper) (v : Value) (a : Act) : Prop :=
  (Region.wanted o (yielded ops a.tmps) = true ∧ ∀ w, S w → o.quietAt P a (fun w' => w' = w) w v) ∨ (Region.wanted o (yielded ops a.tmps) = false ∧ v = undef)
theorem YieldsQ.same {o : Oper} {v : Value} {a a' : Act} (hy : YieldsQ P ops S o v a) (he : execOp a'.eval o = execOp a.eval o) (hw : Region.wanted o (yielded ops a'.tmps) = Region.wanted o (yielded ops a.tmps)) : YieldsQ P ops S o v a' := by
  unfold YieldsQ Oper.quietAt at *
  rw [he, hw]
  exact hy
theorem YieldsQ.wpOp {i : Nat} {o : Oper} {v : Value} {a : Act} (hi : ops[i]? = some o) (hy : YieldsQ P ops S o v a) {K : Act → World → Prop} {w : World} (hS : S w) (h : K (a.put o.dst v) w) : wpOp P ops Q i K a w := by
  unfold Go.wpOp
  simp only [hi]
  rcases hy with ⟨hw, hv⟩ | ⟨hw, rfl⟩
  · rw [if_pos hw]
    refine .inl (Oper.wp_of_quiet (C := fun w' => w' = w) (K := fun a' => a' = a.put o.dst v) rfl (fun a' w' e ea => ?_) ⟨v, fun w' e => ?_, rfl⟩)
    · subst e ea; exact h
    · subst e; exact hv _ hS
  · rw [if_neg (by rw [hw]; decide)]; exact h
/-- another operation, apart from it: whether its value is there already makes no difference -/
theorem wpOp_putQ {j : Nat} {oi oj : Oper} {v : Value} (hj : ops[j]? = some oj) (hap : oi.apart ops oj = true) (hsi : ∀ cs b, oi.op ≠ .select cs b) (hsj : ∀ cs b, oj.op ≠ .select cs b)
    (hQ : ∀ c a w, Q (.panic c) (a.put oi.dst v) w → Q (.panic c) a w) {K : Act → World → Prop} {a : Act} {w : World} (hy : YieldsQ P ops S oi v a) (h : wpOp P ops Q j K (a.put oi.dst v) w) :
    wpOp P ops Q j (fun a' w' => YieldsQ P ops S oi v a' ∧ K (a'.put oi.dst v) w') a w := by
  obtain ⟨h1, h2, h3⟩ := Oper.apart_spec hap
  have keep : ∀ (b : Act), YieldsQ P ops S oi v b → ∀ u, YieldsQ P ops S oi v (b.put oj.dst u) := fun b hb u => hb.same (execOp_put oi hsi b oj.dst u h3) (wanted_put oi b oj.dst u h3)
  have comm : ∀ (b : Act) (u : Value), (b.put oi.dst v).put oj.dst u = (b.put oj.dst u).put oi.dst v := fun b u => Act.put_comm b v u h2
  have keepD : ∀ d, YieldsQ P ops S oi v { a with defers := d :: a.defers } := fun d => hy.same rfl rfl
  unfold wpOp at *
  simp only [hj] at *
  rw [wanted_put oj a oi.dst v h1] at h
  by_cases hw : Region.wanted oj (yielded ops a.tmps) = true
  · rw [if_pos hw] at h ⊢
    rcases h with h | ⟨hasks, hlets⟩
    · refine .inl ?_
      unfold Oper.wp at *
      rw [execOp_put oj hsj a oi.dst v h1] at h
      generalize (execOp a.eval oj).run P w = r at *
      cases r with
      | halt x w' =>
        cases x <;> simp only [Oper.upon] at h ⊢
        case panic u => exact hQ _ _ _ h
      | ok n w' =>
        cases n <;> simp only [Oper.upon] at h ⊢
        case value u => exact ⟨keep a hy u, by rw [← comm]; exact h⟩
        case skip => exact ⟨keep a hy _, by rw [← comm]; exact h⟩
        case defer d => exact ⟨keep _ (keepD d) _, by rw [← comm, ← Act.put_defers]; exact h⟩
        case enter f args =>
          refine Calls.mono h fun e w'' he => ?_
          cases e with
          | returned u => exact ⟨keep a hy u, by rw [← comm]; exact he⟩
          | panicked c => exact hQ _ _ _ he
          | outgrown => exact he
        case row row args => exact Rows.mono h fun u w'' he => ⟨keep a hy u, by rw [← comm]; exact he⟩
    · exact .inr ⟨by unfold Oper.asks at *; rw [execOp_put oj hsj a oi.dst v h1] at hasks; exact hasks, hlets⟩
  · rw [if_neg hw] at h ⊢
    exact ⟨keep a hy _, by rw [← comm]; exact h⟩
/-- it may be taken first -/
theorem firstQ {i : Nat} {oi : Oper} {v : Value} (hi : ops[i]? = some oi) (hsel : ∀ (j : Nat) (o : Oper) cs b, ops[j]? = some o → o.op ≠ .select cs b) (hQ : ∀ c a w, Q (.panic c) (a.put oi.dst v) w → Q (.panic c) a w) :
    ∀ (fuel : Nat) (listed : Array Bool) (a : Act) (w : World),
      (∀ j oj, ops[j]? = some oj → j ≠ i → listed.getD j true = false → (∀ e ∈ oj.after, Region.binds md e = true → e.on ≠ i) → oi.apart ops oj = true) →
      i ∈ Region.ready md ops listed → YieldsQ P ops S oi v a → S w →
      wpAnyH P md ops Q S fuel (listed.setIfInBounds i true) (a.put oi.dst v) w → wpAnyH P md ops Q S (fuel + 1) listed a w := by
  intro fuel
  induction fuel with
  | zero =>
    intro listed a w _ hr hy hS H
    refine ⟨fun h => (by rw [h] at hr; cases hr), fun j hj => ?_⟩
    by_cases e : j = i
    · subst e; exact hy.wpOp hi hS ⟨hS, H⟩
    · have := ready_mono hj e
      rw [H.1] at this
      cases this
  | succ fuel ih =>
    intro listed a w hfree hr hy hS H
    refine ⟨fun h => (by rw [h] at hr; cases hr), fun j hj => ?_⟩
    by_cases e : j = i
    · subst e; exact hy.wpOp hi hS ⟨hS, H⟩
    · obtain ⟨hjun, oj, hoj, hall⟩ := mem_ready.1 hj
      have hun := (mem_ready.1 hr).1
      have hnot : ∀ x ∈ oj.after, Region.binds md x = true → x.on ≠ i := fun x hx hb hxi => by
        have hl := hall x hx hb
        rw [hxi] at hl
        rcases Nat.lt_or_ge i listed.size with hlt | hge
        · simp [hlt] at hun hl; rw [hun] at hl; cases hl
        · simp [Array.getElem?_eq_none hge] at hl
      have back : ∀ k, (listed.setIfInBounds j true).getD k true = false → listed.getD k true = false := fun k hk => by
        by_cases hjk : j = k
        · subst hjk; exact hjun
        · rwa [getD_set_ne true hjk] at hk
      refine wpOp_mono (fun a' w' h3 => ⟨h3.2.1, ih (listed.setIfInBounds j true) a' w' (fun k ok hk hki hkun hno => hfree k ok hk hki (back k hkun) hno) (ready_mono hr (Ne.symm e)) h3.1 h3.2.1 (by rw [Array.setIfInBounds_comm _ _ e]; exact h3.2.2)⟩)
        (wpOp_putQ hoj (hfree j oj hoj e hjun hnot) (fun cs b => hsel i oi cs b hi) (fun cs b => hsel j oj cs b hoj) hQ hy (H.2 j (ready_mono hj e)))

/-- a plan of the walk: q: quiet, taken first; e: it may turn the world, no other may come up then; e2: one of two -/
inductive Plan where
  | done
  | q (k : Nat) (p : Plan)
  | e (k : Nat) (p : Plan)
  | e2 (i : Nat) (p : Plan) (j : Nat) (r : Plan)
def Plan.depth : Plan → Nat
  | .done => 0
  | .q _ p => p.depth + 1
  | .e _ p => p.depth + 1
  | .e2 _ p _ r => max p.depth r.depth + 1
def planOk (md : Region.Mode) (ops : Array Oper) : Plan → Array Bool → Bool
  | .done, listed => (Region.ready md ops listed).isEmpty
  | .q k p, listed => (Region.ready md ops listed).contains k && (Region.free md ops listed k && planOk md ops p (listed.setIfInBounds k true))
  | .e k p, listed => decide (Region.ready md ops listed = [k]) && planOk md ops p (listed.setIfInBounds k true)
  | .e2 i p j r, listed => decide (Region.ready md ops listed = [i, j]) && (planOk md ops p (listed.setIfInBounds i true) && planOk md ops r (listed.setIfInBounds j true))
def wpPlan (P : Program) (ops : Array Oper) (S : World → Prop) (Q : Exit → Act → World → Prop) : Plan → Act → World → Prop
  | .done, a, w => Q .normal a w
  | .q k p, a, w => ∃ o v, ops[k]? = some o ∧ YieldsQ P ops S o v a ∧ wpPlan P ops S Q p (a.put o.dst v) w
  | .e k p, a, w => wpOp P ops Q k (fun a' w' => S w' ∧ wpPlan P ops S Q p a' w') a w
  | .e2 i p j r, a, w => wpOp P ops Q i (fun a' w' => S w' ∧ wpPlan P ops S Q p a' w') a w ∧ wpOp P ops Q j (fun a' w' => S w' ∧ wpPlan P ops S Q r a' w') a w
theorem wpAnyH_plan (hs : Region.noSelect ops = true) (hQ : ∀ c d (v : Value) a w, Q (.panic c) (a.put d v) w → Q (.panic c) a w) : ∀ (p : Plan) (fuel : Nat) (listed : Array Bool) (a : Act) (w : World), p.depth ≤ fuel →
    planOk md ops p listed = true → S w → wpPlan P ops S Q p a w → wpAnyH P md ops Q S fuel listed a w
  | .done, fuel, listed, a, w, _, hB, _, h => wpAnyH_done (by simpa [planOk] using hB) h fuel
  | .q k p, fuel, listed, a, w, hf, hB, hS, h => by
    obtain ⟨fuel, rfl⟩ : ∃ f, fuel = f + 1 := ⟨fuel - 1, by simp only [Plan.depth] at hf; omega⟩
    simp only [planOk, Bool.and_eq_true] at hB
    obtain ⟨o, v, ho, hy, hr⟩ := h
    exact firstQ ho (Region.noSelect_spec hs) (fun c a w => hQ c o.dst v a w) fuel listed a w (Region.free_spec ho hB.2.1) (by simpa using hB.1) hy hS (wpAnyH_plan hs hQ p fuel _ _ w (by simp only [Plan.depth] at hf; omega) hB.2.2 hS hr)
  | .e k p, fuel, listed, a, w, hf, hB, hS, h => by
    obtain ⟨fuel, rfl⟩ : ∃ f, fuel = f + 1 := ⟨fuel - 1, by simp only [Plan.depth] at hf; omega⟩
    simp only [planOk, Bool.and_eq_true, decide_eq_true_eq] at hB
    refine ⟨fun h0 => (by rw [h0] at hB; cases hB.1), fun i hi => ?_⟩
    rw [hB.1] at hi
    obtain rfl : i = k := by simpa using hi
    exact wpOp_mono (fun a' w' hh => ⟨hh.1, wpAnyH_plan hs hQ p fuel _ a' w' (by simp only [Plan.depth] at hf; omega) hB.2 hh.1 hh.2⟩) h
  | .e2 i p j r, fuel, listed, a, w, hf, hB, hS, h => by
    obtain ⟨fuel, rfl⟩ : ∃ f, fuel = f + 1 := ⟨fuel - 1, by simp only [Plan.depth] at hf; omega⟩
    simp only [planOk, Bool.and_eq_true, decide_eq_true_eq] at hB
    refine ⟨fun h0 => (by rw [h0] at hB; cases hB.1), fun k hk => ?_⟩
    rw [hB.1] at hk
    rcases List.mem_cons.1 hk with rfl | hk
    · exact wpOp_mono (fun a' w' hh => ⟨hh.1, wpAnyH_plan hs hQ p fuel _ a' w' (by simp only [Plan.depth] at hf; omega) hB.2.1 hh.1 hh.2⟩) h.1
    · obtain rfl : k = j := by simpa using hk
      exact wpOp_mono (fun a' w' hh => ⟨hh.1, wpAnyH_plan hs hQ r fuel _ a' w' (by simp only [Plan.depth] at hf; omega) hB.2.2 hh.1 hh.2⟩) h.2
/-- **the region**, walked by the plan -/
theorem wp_region_plan {id : Nat} {a : Act} {w : World} (S : World → Prop) (p : Plan) (hm : P.follows .mixedOrders = true) (hs : Region.noSelect ops = true) (hQ : ∀ c d (v : Value) a w, Q (.panic c) (a.put d v) w → Q (.panic c) a w)
    (hB : planOk .any ops p (Array.replicate ops.size false) = true) (hd : decide (p.depth ≤ ops.size) = true) (hS : S w.drew) (h : wpPlan P ops S Q p a w.drew) : (Code.region id ops true).wp P Q a w :=
  wp_region_held_drew hm hS fun _ => wpAnyH_plan hs hQ p ops.size _ a _ (of_decide_eq_true hd) hB hS h
/-! steps -/
theorem plan_done {a : Act} {w : World} (h : Q .normal a w) : wpPlan P ops S Q .done a w := h
theorem plan_val {k : Nat} {o : Oper} {p : Plan} {v : Value} {a : Act} {w : World} (hk : ops[k]? = some o) (hw : Region.wanted o (yielded ops a.tmps) = true) (hv : ∀ w', S w' → (execOp a.eval o).run P w' = .ok (.value v) w') (h : wpPlan P ops S Q p (a.put o.dst v) w) :
    wpPlan P ops S Q (.q k p) a w := ⟨o, v, hk, .inl ⟨hw, fun w' hS => by unfold Oper.quietAt; rw [hv w' hS]; exact ⟨rfl, rfl⟩⟩, h⟩
theorem plan_off {k : Nat} {o : Oper} {p : Plan} {a : Act} {w : World} (hk : ops[k]? = some o) (hw : Region.wanted o (yielded ops a.tmps) = false) (h : wpPlan P ops S Q p (a.put o.dst undef) w) :
    wpPlan P ops S Q (.q k p) a w := ⟨o, undef, hk, .inr ⟨hw, rfl⟩, h⟩
theorem plan_call {k : Nat} {o : Oper} {p : Plan} {v : Value} {f : FuncId} {args : Array Value} {a : Act} {w : World} (hk : ops[k]? = some o) (hw : Region.wanted o (yielded ops a.tmps) = true) (he : ∀ w', (execOp a.eval o).run P w' = .ok (.enter f args) w')
    (hv : ∀ w', S w' → Calls P f args w' fun e w'' => e = .returned v ∧ w' = w'') (h : wpPlan P ops S Q p (a.put o.dst v) w) :
    wpPlan P ops S Q (.q k p) a w := ⟨o, v, hk, .inl ⟨hw, fun w' hS => by unfold Oper.quietAt; rw [he w']; exact ⟨rfl, (hv w' hS).mono fun e w'' hh => ⟨hh.1, hh.2.symm⟩⟩⟩, h⟩
theorem wpOp_do {k : Nat} {o : Oper} {K : Act → World → Prop} {a : Act} {w : World} (hk : ops[k]? = some o) (hw : Region.wanted o (yielded ops a.tmps) = true) (h : o.wp P a w K Q) : wpOp P ops Q k K a w := by
  unfold wpOp
  simp only [hk]
  rw [if_pos hw]
  exact .inl h
theorem plan_e {k : Nat} {o : Oper} {p : Plan} {a : Act} {w : World} (hk : ops[k]? = some o) (hw : Region.wanted o (yielded ops a.tmps) = true) (h : ∀ K : Act → World → Prop, (∀ a' w', S w' → wpPlan P ops S Q p a' w' → K a' w') → o.wp P a w K Q) :
    wpPlan P ops S Q (.e k p) a w := wpOp_do hk hw (h _ fun _ _ h1 h2 => ⟨h1, h2⟩)
theorem plan_e2 {i j : Nat} {o u : Oper} {p r : Plan} {a : Act} {w : World} (hi : ops[i]? = some o) (hj : ops[j]? = some u) (hw : Region.wanted o (yielded ops a.tmps) = true) (hx : Region.wanted u (yielded ops a.tmps) = true)
    (h : ∀ K : Act → World → Prop, (∀ a' w', S w' → wpPlan P ops S Q p a' w' → K a' w') → o.wp P a w K Q) (g : ∀ K : Act → World → Prop, (∀ a' w', S w' → wpPlan P ops S Q r a' w' → K a' w') → u.wp P a w K Q) :
    wpPlan P ops S Q (.e2 i p j r) a w := ⟨wpOp_do hi hw (h _ fun _ _ h1 h2 => ⟨h1, h2⟩), wpOp_do hj hx (g _ fun _ _ h1 h2 => ⟨h1, h2⟩)⟩
end
end Go.Proofs.Ytknpaihlnkcpgaa.Own
/- Small laws on rows of bytes that are laid or read: over any world. -/
set_option linter.unusedVariables false
set_option linter.unusedSimpArgs false
namespace Go.Proofs.Ytknpaihlnkcpgaa.Own
open Go.RowKit Go.Proofs.YtknpaihlnkcpgaaW.PrintWords Go.Proofs.YtknpaihlnkcpgaaW.PrintLast Go.Proofs.YtknpaihlnkcpgaaW.PrintMore

theorem ret_bool {a b : Bool} (h : a = b) : Ending.returned (.bool a) = .returned (.bool b) := by rw [h]

/-- a new block of bytes reads so -/
theorem C_blk_bytes {w : World} {g t : Nat} {fr : Nat × Nat} (cs : List Int) (hm : cs.length ≤ 9223372036854775807) (hb : w.heap[g]? = some (.cells (nums .u8 cs).toArray t fr)) : Kd.C (Kd.int .u8) w (some ⟨g, 0, none⟩) cs.length cs := by
  refine ⟨rfl, hm, fun _ => ⟨_, rfl, fun j p hj => ⟨[.int .u8 p], rfl, rfl, fun i u hu => ?_⟩⟩⟩
  match i, hu with
  | 0, hu =>
    have hu' : Value.int .u8 p = u := by simpa using hu
    subst hu'
    have hs : (Kd.int IntKind.u8).sz = 1 := rfl
    rw [hs, Nat.mul_one, Nat.add_zero, add_plain, cell_of_row w g j _ t fr hb]
    simp [nums, hj]
theorem C_new_bytes (w : World) (cs : List Int) (hm : cs.length ≤ 9223372036854775807) : Kd.C (Kd.int .u8) (w.alloc (.cells (nums .u8 cs).toArray 5)) (some ⟨w.heap.size, 0, none⟩) cs.length cs := C_blk_bytes cs hm (heap_alloc_new w _)
/-- a new block of one row, of two rows of bytes -/
theorem C_blk_rows1 {w : World} {g t : Nat} {fr : Nat × Nat} {A : Option Addr} {c : Nat} {l : List Int} (hb : w.heap[g]? = some (.cells #[.slice A l.length c] t fr)) (h : Kd.C (Kd.int .u8) w A l.length l) (hc : l.length ≤ c) : Kd.C (Kd.slice 5 (Kd.int .u8)) w (some ⟨g, 0, none⟩) 1 [l] := by
  refine ⟨rfl, by decide, fun _ => ⟨_, rfl, fun j p hj => ?_⟩⟩
  match j, hj with
  | 0, hj =>
    obtain rfl : l = p := by simpa using hj
    refine ⟨[.slice A l.length c], rfl, ⟨A, c, rfl, hc, h⟩, fun i u hu => ?_⟩
    match i, hu with
    | 0, hu =>
      have hu' : Value.slice A l.length c = u := by simpa using hu
      subst hu'
      rw [Nat.zero_mul, Nat.add_zero, add_plain, cell_of_row w g 0 _ t fr hb]
      rfl
theorem C_blk_rows2 {w : World} {g t : Nat} {fr : Nat × Nat} {A B : Option Addr} {c d : Nat} {l m : List Int} (hb : w.heap[g]? = some (.cells #[.slice A l.length c, .slice B m.length d] t fr)) (h : Kd.C (Kd.int .u8) w A l.length l) (hc : l.length ≤ c) (k : Kd.C (Kd.int .u8) w B m.length m) (hd : m.length ≤ d) : Kd.C (Kd.slice 5 (Kd.int .u8)) w (some ⟨g, 0, none⟩) 2 [l, m] := by
  refine ⟨rfl, by decide, fun _ => ⟨_, rfl, fun j p hj => ?_⟩⟩
  match j, hj with
  | 0, hj =>
    obtain rfl : l = p := by simpa using hj
    refine ⟨[.slice A l.length c], rfl, ⟨A, c, rfl, hc, h⟩, fun i u hu => ?_⟩
    match i, hu with
    | 0, hu =>
      have hu' : Value.slice A l.length c = u := by simpa using hu
      subst hu'
      rw [Nat.zero_mul, Nat.add_zero, add_plain, cell_of_row w g 0 _ t fr hb]
      rfl
  | 1, hj =>
    obtain rfl : m = p := by simpa using hj
    refine ⟨[.slice B m.length d], rfl, ⟨B, d, rfl, hd, k⟩, fun i u hu => ?_⟩
    match i, hu with
    | 0, hu =>
      have hu' : Value.slice B m.length d = u := by simpa using hu
      subst hu'
      have hs : (Kd.slice 5 (Kd.int IntKind.u8)).sz = 1 := rfl
      rw [hs, Nat.mul_one, Nat.add_zero, add_plain, cell_of_row w g 1 _ t fr hb]
      rfl
theorem C_new_rows1n {w : World} {A : Option Addr} {n c : Nat} {l : List Int} (h : Kd.C (Kd.int .u8) w A n l) (hc : n ≤ c) : Kd.C (Kd.slice 5 (Kd.int .u8)) (w.alloc (.cells #[.slice A n c] 22)) (some ⟨w.heap.size, 0, none⟩) 1 [l] := by
  obtain rfl := h.1
  exact C_blk_rows1 (heap_alloc_new w _) (Kd.C_alloc h _) hc
theorem C_new_rows1 {w : World} {A : Option Addr} {c : Nat} {l : List Int} (h : Kd.C (Kd.int .u8) w A l.length l) (hc : l.length ≤ c) : Kd.C (Kd.slice 5 (Kd.int .u8)) (w.alloc (.cells #[.slice A l.length c] 22)) (some ⟨w.heap.size, 0, none⟩) 1 [l] :=
  C_blk_rows1 (heap_alloc_new w _) (Kd.C_alloc h _) hc
theorem C_new_rows2 {w : World} {A B : Option Addr} {c d : Nat} {l m : List Int} (h : Kd.C (Kd.int .u8) w A l.length l) (hc : l.length ≤ c) (k : Kd.C (Kd.int .u8) w B m.length m) (hd : m.length ≤ d) : Kd.C (Kd.slice 5 (Kd.int .u8)) (w.alloc (.cells #[.slice A l.length c, .slice B m.length d] 22)) (some ⟨w.heap.size, 0, none⟩) 2 [l, m] :=
  C_blk_rows2 (heap_alloc_new w _) (Kd.C_alloc h _) hc (Kd.C_alloc k _) hd
/-- what a call's literals are: one row of bytes; two rows -/
theorem C_lits1 (w : World) (cs : List Int) (hm : cs.length ≤ 9223372036854775807) : Kd.C (Kd.slice 5 (Kd.int .u8)) ((w.alloc (.cells (nums .u8 cs).toArray 5)).alloc (.cells #[.slice (some ⟨w.heap.size, 0, none⟩) cs.length cs.length] 22)) (some ⟨w.heap.size + 1, 0, none⟩) 1 [cs] := by
  have h := C_new_rows1 (C_new_bytes w cs hm) (Nat.le_refl _)
  rwa [World.size_alloc] at h
theorem C_lits2 (w : World) (cs ds : List Int) (hm : cs.length ≤ 9223372036854775807) (hn : ds.length ≤ 9223372036854775807) : Kd.C (Kd.slice 5 (Kd.int .u8)) (((w.alloc (.cells (nums .u8 cs).toArray 5)).alloc (.cells (nums .u8 ds).toArray 5)).alloc (.cells #[.slice (some ⟨w.heap.size, 0, none⟩) cs.length cs.length, .slice (some ⟨w.heap.size + 1, 0, none⟩) ds.length ds.length] 22)) (some ⟨w.heap.size + 2, 0, none⟩) 2 [cs, ds] := by
  have h := C_new_rows2 (Kd.C_alloc (C_new_bytes w cs hm) (.cells (nums .u8 ds).toArray 5)) (Nat.le_refl _) (C_new_bytes (w.alloc (.cells (nums .u8 cs).toArray 5)) ds hn) (Nat.le_refl _)
  simp only [World.size_alloc] at h
  exact h
/-- a row that came, and one of two bytes -/
theorem C_row_two {w : World} {A : Option Addr} {c : Nat} {b : List Int} (h : Kd.C (Kd.int .u8) w A b.length b) (hc : b.length ≤ c) (x y : Int) :
    Kd.C (Kd.slice 5 (Kd.int .u8)) ((w.alloc (.cells #[.int .u8 x, .int .u8 y] 5)).alloc (.cells #[.slice A b.length c, .slice (some ⟨w.heap.size, 0, none⟩) 2 2] 22)) (some ⟨w.heap.size + 1, 0, none⟩) 2 [b, [x, y]] := by
  have h := C_new_rows2 (Kd.C_alloc h (.cells (nums .u8 [x, y]).toArray 5)) hc (C_new_bytes w [x, y] (by simp)) (Nat.le_refl 2)
  rwa [World.size_alloc] at h
theorem C_row_twon {w : World} {A : Option Addr} {n c : Nat} {b : List Int} (h : Kd.C (Kd.int .u8) w A n b) (hc : n ≤ c) (x y : Int) :
    Kd.C (Kd.slice 5 (Kd.int .u8)) ((w.alloc (.cells #[.int .u8 x, .int .u8 y] 5)).alloc (.cells #[.slice A n c, .slice (some ⟨w.heap.size, 0, none⟩) 2 2] 22)) (some ⟨w.heap.size + 1, 0, none⟩) 2 [b, [x, y]] := by
  obtain rfl := h.1
  exact C_row_two h hc x y
/-- a row of one's own, read -/
theorem C_of_R {w : World} {e base : Nat} {ok : Nat → Prop} {A : Option Addr} {n c : Nat} {xs : List Int} (h : Kd.R (Kd.int .u8) e w base ok (.slice A n c) xs) : Kd.C (Kd.int .u8) w A n xs ∧ n ≤ c := by
  obtain ⟨rfl, h2, h3⟩ := Kd.R_reads' h
  exact ⟨h3, h2⟩
theorem below_alloc1 (w : World) (a : Obj) : Below w.heap.size w (w.alloc a) := (Below.refl w.heap.size w).alloc (Nat.le_refl _) _
theorem below_alloc2 (w : World) (a b : Obj) : Below w.heap.size w ((w.alloc a).alloc b) := (below_alloc1 w a).alloc (by simp) _
theorem below_alloc3 (w : World) (a b c : Obj) : Below w.heap.size w (((w.alloc a).alloc b).alloc c) := (below_alloc2 w a b).alloc (by simp; omega) _
theorem below_tr {w a b : World} (h : Below w.heap.size w a) (k : Below a.heap.size a b) : Below w.heap.size w b := below_then h h.size k

theorem info_u8 : (Try.prog.info? 5).map (fun i => (i.zero, i.size, i.bytes)) = some (some (.int .u8 0), 1, 1) := by kernel_rfl
/-- cuts of a row of bytes: what the walk runs, and what they read -/
theorem drop_bytes (A : Option Addr) (c : Nat) (xs : List Int) (j : Int) (h0 : 0 ≤ j) (hm : j ≤ xs.length) (hc : xs.length ≤ c) :
    ∃ A' : Option Addr, (∀ W : World, (Instr.slice 22 (.slice A xs.length c) (some (.int .i64 j)) none none).run Try.prog W = .ok (.slice A' (xs.drop j.toNat).length (c - j.toNat)) W) ∧
      (∀ w : World, Kd.C (Kd.int .u8) w A xs.length xs → Kd.C (Kd.int .u8) w A' (xs.drop j.toNat).length (xs.drop j.toNat)) ∧ (xs.drop j.toNat).length ≤ c - j.toNat := by
  obtain ⟨i, hi, hz⟩ := Option.map_eq_some_iff.1 info_u8
  simp only [Prod.mk.injEq] at hz
  obtain ⟨A', h1, h2, h3⟩ := print_drop_of (P := Try.prog) (Value.int .u8) (0 : Int) 22 5 .i64 Try.underlying22 hi hz.2.1 A c xs j h0 hm hc
  exact ⟨A', h1, fun w h => Kd.C_of_reads (d := (0 : Int)) (h1 := fun _ => rfl) (h2 w (Kd.reads_of_C (enc := Value.int .u8) (d := (0 : Int)) (h1 := fun _ => rfl) h)), h3⟩
theorem take_bytes (A : Option Addr) (c : Nat) (xs : List Int) (j : Int) (h0 : 0 ≤ j) (hm : j ≤ xs.length) (hc : xs.length ≤ c) :
    (∀ W : World, (Instr.slice 22 (.slice A xs.length c) none (some (.int .i64 j)) none).run Try.prog W = .ok (.slice A (xs.take j.toNat).length c) W) ∧
      (∀ w : World, Kd.C (Kd.int .u8) w A xs.length xs → Kd.C (Kd.int .u8) w A (xs.take j.toNat).length (xs.take j.toNat)) ∧ (xs.take j.toNat).length ≤ c := by
  obtain ⟨i, hi, hz⟩ := Option.map_eq_some_iff.1 info_u8
  simp only [Prod.mk.injEq] at hz
  obtain ⟨h1, h2, h3⟩ := print_take_of (P := Try.prog) (Value.int .u8) (0 : Int) 22 5 .i64 Try.underlying22 hi hz.2.1 A c xs j h0 hm hc
  exact ⟨h1, fun w h => Kd.C_of_reads (d := (0 : Int)) (h1 := fun _ => rfl) (h2 w (Kd.reads_of_C (enc := Value.int .u8) (d := (0 : Int)) (h1 := fun _ => rfl) h)), h3⟩
theorem mid_bytes (A : Option Addr) (c : Nat) (xs : List Int) (a b : Int) (h0 : 0 ≤ a) (h1 : a ≤ b) (hm : b ≤ xs.length) (hc : xs.length ≤ c) :
    ∃ A' : Option Addr, (∀ W : World, (Instr.slice 22 (.slice A xs.length c) (some (.int .i64 a)) (some (.int .i64 b)) none).run Try.prog W = .ok (.slice A' ((xs.take b.toNat).drop a.toNat).length (c - a.toNat)) W) ∧
      (∀ w : World, Kd.C (Kd.int .u8) w A xs.length xs → Kd.C (Kd.int .u8) w A' ((xs.take b.toNat).drop a.toNat).length ((xs.take b.toNat).drop a.toNat)) ∧ ((xs.take b.toNat).drop a.toNat).length ≤ c - a.toNat := by
  obtain ⟨i, hi, hz⟩ := Option.map_eq_some_iff.1 info_u8
  simp only [Prod.mk.injEq] at hz
  obtain ⟨A', h1, h2, h3⟩ := print_mid_of (P := Try.prog) (Value.int .u8) (0 : Int) 22 5 .i64 .i64 Try.underlying22 hi hz.2.1 A c xs a b h0 h1 hm hc
  exact ⟨A', h1, fun w h => Kd.C_of_reads (d := (0 : Int)) (h1 := fun _ => rfl) (h2 w (Kd.reads_of_C (enc := Value.int .u8) (d := (0 : Int)) (h1 := fun _ => rfl) h)), h3⟩
/-- the same cuts, their numbers and lists under names -/
theorem cut_take (A : Option Addr) (n c : Nat) (xs : List Int) (j : Int) (hn : xs.length = n) (h0 : 0 ≤ j) (hm : j ≤ n) (hc : n ≤ c) :
    ∃ (T : List Int) (m : Nat), (∀ W : World, (Instr.slice 22 (.slice A n c) none (some (.int .i64 j)) none).run Try.prog W = .ok (.slice A m c) W) ∧
      (∀ w : World, Kd.C (Kd.int .u8) w A n xs → Kd.C (Kd.int .u8) w A m T) ∧ m ≤ c ∧ T = xs.take j.toNat ∧ (m : Int) = j := by
  subst hn
  obtain ⟨h1, h2, h3⟩ := take_bytes A c xs j h0 hm hc
  exact ⟨_, _, h1, h2, h3, rfl, by rw [List.length_take]; omega⟩
theorem cut_drop (A : Option Addr) (n c : Nat) (xs : List Int) (j : Int) (hn : xs.length = n) (h0 : 0 ≤ j) (hm : j ≤ n) (hc : n ≤ c) :
    ∃ (T : List Int) (A' : Option Addr) (m c' : Nat), (∀ W : World, (Instr.slice 22 (.slice A n c) (some (.int .i64 j)) none none).run Try.prog W = .ok (.slice A' m c') W) ∧
      (∀ w : World, Kd.C (Kd.int .u8) w A n xs → Kd.C (Kd.int .u8) w A' m T) ∧ m ≤ c' ∧ T = xs.drop j.toNat ∧ (m : Int) = n - j := by
  subst hn
  obtain ⟨A', h1, h2, h3⟩ := drop_bytes A c xs j h0 hm hc
  exact ⟨_, _, _, _, h1, h2, h3, rfl, by rw [List.length_drop]; omega⟩
theorem cut_mid (A : Option Addr) (n c : Nat) (xs : List Int) (a b : Int) (hn : xs.length = n) (h0 : 0 ≤ a) (h1 : a ≤ b) (hm : b ≤ n) (hc : n ≤ c) :
    ∃ (T : List Int) (A' : Option Addr) (m c' : Nat), (∀ W : World, (Instr.slice 22 (.slice A n c) (some (.int .i64 a)) (some (.int .i64 b)) none).run Try.prog W = .ok (.slice A' m c') W) ∧
      (∀ w : World, Kd.C (Kd.int .u8) w A n xs → Kd.C (Kd.int .u8) w A' m T) ∧ m ≤ c' ∧ T = (xs.take b.toNat).drop a.toNat ∧ (m : Int) = b - a := by
  subst hn
  obtain ⟨A', h2, h3, h4⟩ := mid_bytes A c xs a b h0 h1 hm hc
  exact ⟨_, _, _, _, h2, h3, h4, rfl, by rw [List.length_drop, List.length_take]; omega⟩
/-- a byte of b at i, in another world -/
theorem byte_at {b : List Int} {A : Option Addr} {w wr : World} (hr : Kd.C (Kd.int .u8) w A b.length b) (hb : Below w.heap.size w wr) (i : Int) (h0 : 0 ≤ i) (h1 : i < b.length) : ∃ ad, A = some ad ∧ wr.cell? (ad.add i.toNat) = some (.int .u8 (b.getD i.toNat 0)) := by
  obtain ⟨ad, rfl, hx⟩ := Kd.at_int hr i h0 h1
  exact ⟨ad, rfl, (hb.cell (World.block_lt_of_cell? w _ hx)).trans hx⟩
/-- numbers of their kinds -/
theorem bytes_of_wf {l : List Int} (h : ∀ x ∈ l, (Lit.int .u8 x).wf = true) : ∀ x ∈ l, 0 ≤ x ∧ x < 256 := by
  intro x hx
  have hmin : IntKind.u8.min = 0 := rfl
  have hmax : IntKind.u8.max = 255 := rfl
  have := h x hx
  simp only [Lit.wf, Bool.and_eq_true, decide_eq_true_eq] at this
  omega
theorem i64_of_wf {x : Int} (h : (Lit.int .i64 x).wf = true) : -9223372036854775808 ≤ x ∧ x ≤ 9223372036854775807 := by
  have hmin : IntKind.i64.min = -9223372036854775808 := rfl
  have hmax : IntKind.i64.max = 9223372036854775807 := rfl
  simp only [Lit.wf, Bool.and_eq_true, decide_eq_true_eq] at h
  omega
theorem u16_of_wf {x : Int} (h : (Lit.int .u16 x).wf = true) : 0 ≤ x ∧ x ≤ 65535 := by
  have hmin : IntKind.u16.min = 0 := rfl
  have hmax : IntKind.u16.max = 65535 := rfl
  simp only [Lit.wf, Bool.and_eq_true, decide_eq_true_eq] at h
  omega
theorem u8_of_wf {x : Int} (h : (Lit.int .u8 x).wf = true) : 0 ≤ x ∧ x ≤ 255 := by
  have hmin : IntKind.u8.min = 0 := rfl
  have hmax : IntKind.u8.max = 255 := rfl
  simp only [Lit.wf, Bool.and_eq_true, decide_eq_true_eq] at h
  omega
theorem u32_of_wf {x : Int} (h : (Lit.int .u32 x).wf = true) : 0 ≤ x ∧ x ≤ 4294967295 := by
  have hmin : IntKind.u32.min = 0 := rfl
  have hmax : IntKind.u32.max = 4294967295 := rfl
  simp only [Lit.wf, Bool.and_eq_true, decide_eq_true_eq] at h
  omega
end Go.Proofs.Ytknpaihlnkcpgaa.Own
/- slices.Clone of bytes. -/
set_option linter.unusedVariables false
set_option linter.unusedSimpArgs false
namespace Go.Proofs.Ytknpaihlnkcpgaa.Own
open Go.RowKit Go.Proofs.YtknpaihlnkcpgaaW.PrintWords Go.Proofs.YtknpaihlnkcpgaaW.PrintLast Go.Proofs.YtknpaihlnkcpgaaW.PrintMore

theorem own_none (w : World) (base : Nat) (h : base ≤ w.heap.size) : Kd.R (Kd.int .u8) 5 (w.alloc (.cells #[] 5)) base (fun _ => True) (.slice (some ⟨w.heap.size, 0, none⟩) 0 0) [] :=
  Kd.R_of_own (h1 := fun _ => rfl) ⟨rfl, .inr ⟨w.heap.size, 0, #[], rfl, h, heap_alloc_new w _, Nat.le_refl _, by decide, rfl, rfl⟩⟩ (fun _ _ => trivial)

set_option maxRecDepth 100000 in
theorem clone_any (l : List Int) (A : Option Addr) (n c : Nat) (w : World) (hr : Kd.C (Kd.int .u8) w A n l) (hn : n ≤ 140737488355328) :
    Calls Try.prog 40 #[.slice A n c] w fun e w' => ∃ v, e = .returned v ∧ Kd.R (Kd.int .u8) 5 w' w.heap.size (fun _ => True) v l ∧ Below w.heap.size w w' := by
  have hl : l.length = n := hr.1
  cases A with
  | none =>
    have h0 : n = 0 := by
      rcases Nat.eq_zero_or_pos n with h | h
      · exact h
      · obtain ⟨ad, h2, _⟩ := hr.2.2 h
        cases h2
    subst h0
    obtain rfl : l = [] := List.eq_nil_of_length_eq_zero hl
    clear hr
    have hq := fun (n c : Nat) (W : World) => Lib.run_eql_slice_nil (P := Try.prog) W 22 5 none n c 0 0 Try.underlying22
    go_enter Try.func40, Try.ntmps40
    go_wp2
    go_ret
    exact ⟨_, rfl, Kd.R_nil _ _ _ _ _, Below.refl _ _⟩
  | some ad =>
    have HR := Aside0.mk hr
    clear hr
    have hq := fun (n c : Nat) (W : World) => Lib.run_eql_slice_nil (P := Try.prog) W 22 5 (some ad) n c 0 0 Try.underlying22
    go_enter Try.func40, Try.ntmps40
    go_wp2_with (at_builtin; refine Kd.R_append_rows (Kd.int .u8) (w0 := w) w.heap.size rfl (.tmp 5) (.tmp 6) 22 5 (.int .u8 0) 1 rfl Try.underlying22 info_u8 rfl (by decide) (by decide) _ [] l (some ad) n c (fun _ => True) (fun _ => False) rfl rfl (own_none w w.heap.size (Nat.le_refl _)) (Kd.C_below HR.out (below_alloc1 w _)) (fun _ _ h => h) (fun _ h => h.elim) (fun _ _ => trivial) (below_alloc1 w _) (by simp) (by simp; omega) ?_; intro v1 w3 ho1 hb3 _ _)
    go_ret
    exact ⟨_, rfl, by simpa using ho1, hb3⟩
end Go.Proofs.Ytknpaihlnkcpgaa.Own
/- Plain words on the Internet's checksum: a folded sum, the sum of bytes as words. No program, no memory. -/
set_option linter.unusedVariables false
set_option linter.unusedSimpArgs false
namespace Go.Proofs.Ytknpaihlnkcpgaa.Own

/-- the folded sum: 0 of 0, else the remainder by 65535, from 1 to 65535 -/
def cf (n : Int) : Int := if n = 0 then 0 else (n - 1) % 65535 + 1

theorem cf_small (n : Int) (h0 : 0 ≤ n) (h1 : n ≤ 65535) : cf n = n := by unfold cf; split <;> omega
theorem cf_step (n : Int) (h1 : 65535 < n) : cf (n % 65536 + n / 65536) = cf n := by unfold cf; split <;> split <;> omega
theorem cf_range (n : Int) (h0 : 0 ≤ n) : 0 ≤ cf n ∧ cf n ≤ 65535 := by unfold cf; split <;> omega
theorem cf_cf_add (a b : Int) (ha : 0 ≤ a) (hb : 0 ≤ b) : cf (cf a + b) = cf (a + b) := by unfold cf; split <;> split <;> (try split) <;> omega
theorem cf_mod (n : Int) (h0 : 0 ≤ n) : cf n % 65535 = n % 65535 := by unfold cf; split <;> omega
theorem cf_zero (n : Int) (h0 : 0 ≤ n) : cf n = 0 ↔ n = 0 := by unfold cf; split <;> omega
theorem cf_full (n : Int) (h0 : 0 < n) : cf n = 65535 ↔ n % 65535 = 0 := by unfold cf; split <;> omega
theorem cf_eq (a b : Int) (ha : 0 < a) (hb : 0 < b) (h : a % 65535 = b % 65535) : cf a = cf b := by unfold cf; split <;> split <;> omega

/-- each is a byte -/
def bytes (l : List Int) : Prop := ∀ x ∈ l, 0 ≤ x ∧ x < 256
instance (l : List Int) : Decidable (bytes l) := inferInstanceAs (Decidable (∀ x ∈ l, 0 ≤ x ∧ x < 256))
theorem bytes_nil : bytes [] := fun x h => by cases h
theorem bytes_cons (x : Int) (l : List Int) : bytes (x :: l) ↔ (0 ≤ x ∧ x < 256) ∧ bytes l := by simp [bytes]
theorem bytes_append (a b : List Int) : bytes (a ++ b) ↔ bytes a ∧ bytes b := by
  constructor
  · exact fun h => ⟨fun x hx => h x (List.mem_append_left _ hx), fun x hx => h x (List.mem_append_right _ hx)⟩
  · rintro ⟨h, k⟩ x hx
    rcases List.mem_append.1 hx with hx | hx
    · exact h x hx
    · exact k x hx

/-- what bytes weigh, the first of them at place m -/
def wt (m : Int) : List Int → Int
  | [] => 0
  | x :: l => (if m % 2 = 0 then x * 256 else x) + wt (m + 1) l
theorem wt_nonneg (l : List Int) : ∀ m, bytes l → 0 ≤ wt m l := by
  induction l with
  | nil => intro m _; simp [wt]
  | cons x l ih =>
    intro m h
    rw [bytes_cons] at h
    have := ih (m + 1) h.2
    unfold wt
    split <;> omega
theorem wt_append (a b : List Int) : ∀ m, wt m (a ++ b) = wt m a + wt (m + a.length) b := by
  induction a with
  | nil => intro m; simp [wt]
  | cons x a ih =>
    intro m
    simp only [List.cons_append, wt, ih, List.length_cons]
    rw [show m + 1 + (a.length : Int) = m + ((a.length + 1 : Nat) : Int) from by omega]
    omega
theorem wt_par (l : List Int) : ∀ m k, m % 2 = k % 2 → wt m l = wt k l := by
  induction l with
  | nil => intro m k _; rfl
  | cons x l ih =>
    intro m k h
    unfold wt
    rw [ih (m + 1) (k + 1) (by omega), h]
theorem wt_take_succ (l : List Int) (m : Int) (k : Nat) (h : k < l.length) : wt m (l.take (k + 1)) = wt m (l.take k) + (if (m + k) % 2 = 0 then l.getD k 0 * 256 else l.getD k 0) := by
  rw [List.take_succ_eq_append_getElem h, wt_append, List.length_take, Nat.min_eq_left (Nat.le_of_lt h)]
  simp [wt, List.getD_eq_getElem?_getD, List.getElem?_eq_getElem h]
theorem bytes_take {l : List Int} (h : bytes l) (k : Nat) : bytes (l.take k) := fun x hx => h x (List.mem_of_mem_take hx)
theorem bytes_drop {l : List Int} (h : bytes l) (k : Nat) : bytes (l.drop k) := fun x hx => h x (List.mem_of_mem_drop hx)
theorem bytes_getD {l : List Int} (h : bytes l) (k : Nat) : 0 ≤ l.getD k 0 ∧ l.getD k 0 < 256 := by
  rw [List.getD_eq_getElem?_getD]
  by_cases hk : k < l.length
  · rw [List.getElem?_eq_getElem hk]
    exact h _ (List.getElem_mem hk)
  · rw [List.getElem?_eq_none (by omega)]
    simp
/-- the checksum of bytes -/
def ck (l : List Int) : Int := 65535 - cf (wt 0 l)
theorem ck_range (l : List Int) (h : bytes l) : 0 ≤ ck l ∧ ck l ≤ 65535 := by
  have := cf_range _ (wt_nonneg l 0 h)
  unfold ck
  omega
/-- are bytes whole -/
def wholeB (l : List Int) : Bool := ck l == 0 || ck l == 65535

/-- what Change tells -/
def chg (s f t : Int) : Int := 65535 - cf (65535 - s + (65535 - f) + t)
/-- a number's two bytes -/
def two (n : Int) : List Int := [n / 256, n % 256]
theorem bytes_two (n : Int) (n0 : 0 ≤ n) (n1 : n ≤ 65535) : bytes (two n) := by
  intro x hx
  simp [two] at hx
  omega
theorem wt_two (n : Int) : wt 0 (two n) = n := by
  simp [wt, two]
  omega
theorem whole_iff (l : List Int) (h : bytes l) : wholeB l = true ↔ wt 0 l % 65535 = 0 := by
  have h0 := wt_nonneg l 0 h
  simp only [wholeB, ck, Bool.or_eq_true, beq_iff_eq]
  unfold cf
  split <;> omega
theorem ck_mod (l : List Int) (h : bytes l) : (wt 0 l + ck l) % 65535 = 0 := by
  have h0 := wt_nonneg l 0 h
  have := cf_mod (wt 0 l) h0
  unfold ck
  omega
theorem wt_even_append (a b : List Int) (h : a.length % 2 = 0) : wt 0 (a ++ b) = wt 0 a + wt 0 b := by
  rw [wt_append, wt_par b (0 + (a.length : Int)) 0 (by omega)]
theorem keeps1 (b : List Int) (h : bytes b) (he : b.length % 2 = 0) : wholeB (b ++ two (ck b)) = true := by
  have hr := ck_range b h
  rw [whole_iff _ ((bytes_append _ _).2 ⟨h, bytes_two _ hr.1 hr.2⟩), wt_even_append _ _ he, wt_two]
  exact ck_mod b h
theorem bytes_set {l : List Int} (h : bytes l) (j : Nat) (x : Int) (h0 : 0 ≤ x) (h1 : x < 256) : bytes (l.set j x) := by
  intro y hy
  rcases List.mem_or_eq_of_mem_set hy with hy | rfl
  · exact h y hy
  · exact ⟨h0, h1⟩
theorem wt_set (l : List Int) (x : Int) : ∀ (m : Int) (j : Nat), j < l.length → wt m (l.set j x) = wt m l + (if (m + j) % 2 = 0 then (x - l.getD j 0) * 256 else x - l.getD j 0) := by
  induction l with
  | nil => intro m j h; simp at h
  | cons y l ih =>
    intro m j h
    cases j with
    | zero =>
      simp only [List.set_cons_zero, wt, List.getD_cons_zero]
      rw [show m + ((0 : Nat) : Int) = m from by omega]
      split <;> omega
    | succ j =>
      simp only [List.set_cons_succ, wt, List.getD_cons_succ]
      rw [ih (m + 1) j (by simpa using h), show m + 1 + (j : Int) = m + ((j + 1 : Nat) : Int) from by omega]
      omega
theorem getD_set_ne (l : List Int) (i j : Nat) (x : Int) (h : i ≠ j) : (l.set i x).getD j 0 = l.getD j 0 := by
  simp [List.getD_eq_getElem?_getD, List.getElem?_set_ne h]
theorem getD_set_eq (l : List Int) (i : Nat) (x : Int) (h : i < l.length) : (l.set i x).getD i 0 = x := by
  simp [List.getD_eq_getElem?_getD, List.getElem?_set_self h]
/-- two words, exchanged -/
theorem keeps2 (b : List Int) (i k : Nat) (hi : i % 2 = 0) (hk : k % 2 = 0) (li : i + 1 < b.length) (lk : k + 1 < b.length) :
    wt 0 ((((b.set i (b.getD k 0)).set (i + 1) (b.getD (k + 1) 0)).set k (b.getD i 0)).set (k + 1) (b.getD (i + 1) 0)) = wt 0 b := by
  rw [wt_set _ _ _ _ (by simp; omega), wt_set _ _ _ _ (by simp; omega), wt_set _ _ _ _ (by simp; omega), wt_set _ _ _ _ (by omega)]
  have p1 : (0 + (i : Int)) % 2 = 0 := by omega
  have p2 : ¬ (0 + ((i + 1 : Nat) : Int)) % 2 = 0 := by omega
  have p3 : (0 + (k : Int)) % 2 = 0 := by omega
  have p4 : ¬ (0 + ((k + 1 : Nat) : Int)) % 2 = 0 := by omega
  rw [if_pos p1, if_neg p2, if_pos p3, if_neg p4]
  by_cases e : i = k
  · subst e
    rw [getD_set_ne _ i (i + 1) _ (by omega), getD_set_ne _ i (i + 1) _ (by omega), getD_set_eq _ (i + 1) _ (by simp; omega), getD_set_ne _ (i + 1) i _ (by omega), getD_set_eq _ i _ (by omega)]
    omega
  · rw [getD_set_ne _ i (i + 1) _ (by omega), getD_set_ne _ (i + 1) k _ (by omega), getD_set_ne _ i k _ (by omega), getD_set_ne _ k (k + 1) _ (by omega), getD_set_ne _ (i + 1) (k + 1) _ (by omega), getD_set_ne _ i (k + 1) _ (by omega)]
    omega
/-- another word -/
theorem keeps3 (b : List Int) (i : Nat) (t : Int) (h : bytes b) (he : b.length % 2 = 0) (hi : i % 2 = 0) (li : i + 1 < b.length) (t0 : 0 ≤ t) (t1 : t ≤ 65535) :
    wholeB (((b.set i (t / 256)).set (i + 1) (t % 256)) ++ two (chg (ck b) (b.getD i 0 * 256 + b.getD (i + 1) 0) t)) = true := by
  have h0 := wt_nonneg b 0 h
  have g0 := bytes_getD h i
  have g1 := bytes_getD h (i + 1)
  have hc := ck_range b h
  have hm := ck_mod b h
  have hf := cf_range (65535 - ck b + (65535 - (b.getD i 0 * 256 + b.getD (i + 1) 0)) + t) (by omega)
  have hq := cf_mod (65535 - ck b + (65535 - (b.getD i 0 * 256 + b.getD (i + 1) 0)) + t) (by omega)
  have hb : bytes ((b.set i (t / 256)).set (i + 1) (t % 256)) := bytes_set (bytes_set h i _ (by omega) (by omega)) _ _ (by omega) (by omega)
  have hw : wt 0 ((b.set i (t / 256)).set (i + 1) (t % 256)) = wt 0 b - (b.getD i 0 * 256 + b.getD (i + 1) 0) + t := by
    have p1 : (0 + (i : Int)) % 2 = 0 := by omega
    have p2 : ¬ (0 + ((i + 1 : Nat) : Int)) % 2 = 0 := by omega
    rw [wt_set _ _ _ _ (by simp; omega), wt_set _ _ _ _ (by omega), if_pos p1, if_neg p2, getD_set_ne _ i (i + 1) _ (by omega)]
    omega
  rw [whole_iff _ ((bytes_append _ _).2 ⟨hb, bytes_two _ (by unfold chg; omega) (by unfold chg; omega)⟩), wt_even_append _ _ (by simpa using he), wt_two, hw]
  unfold chg
  omega
end Go.Proofs.Ytknpaihlnkcpgaa.Own
/- A number's bytes, in plain Lean. -/
set_option linter.unusedVariables false
set_option linter.unusedSimpArgs false
namespace Go.Proofs.Ytknpaihlnkcpgaa.Own

/-- the bytes of a number, the highest first -/
def be : Nat → Int → List Int
  | 0, _ => []
  | n + 1, v => be n (v / 256) ++ [v % 256]
theorem be_length : ∀ (n : Nat) (v : Int), (be n v).length = n := by
  intro n
  induction n with
  | zero => intro v; rfl
  | succ n ih => intro v; simp [be, ih]
theorem bytes_be : ∀ (n : Nat) (v : Int), bytes (be n v) := by
  intro n
  induction n with
  | zero => intro v; exact bytes_nil
  | succ n ih =>
    intro v
    simp only [be]
    rw [bytes_append]
    refine ⟨ih _, fun x hx => ?_⟩
    rw [List.mem_singleton.1 hx]
    omega
theorem be_top : ∀ (n : Nat) (v : Int), be (n + 1) v = (v / 256 ^ n % 256) :: be n v := by
  intro n
  induction n with
  | zero => intro v; simp [be]
  | succ n ih =>
    intro v
    rw [be, ih (v / 256)]
    have e : v / 256 / 256 ^ n = v / 256 ^ (n + 1) := by
      rw [Int.ediv_ediv_of_nonneg (by omega), Int.pow_succ, Int.mul_comm]
    rw [e]
    simp [be]
theorem be_one (v : Int) : be 1 v = [v % 256] := rfl
theorem be_two (v : Int) : be 2 v = [v / 256 % 256, v % 256] := rfl
/-- how many bytes a number wants -/
def lst : Nat → Int → Int
  | 0, _ => 1
  | n + 1, v => if 0 < v / 256 then lst n (v / 256) + 1 else 1
theorem lst_pos : ∀ (n : Nat) (v : Int), 1 ≤ lst n v := by
  intro n
  induction n with
  | zero => intro v; exact Int.le_refl _
  | succ n ih =>
    intro v
    unfold lst
    split
    · have := ih (v / 256); omega
    · exact Int.le_refl _
theorem pow_ge (k : Nat) (hk : 1 ≤ k) : (256 : Int) ≤ 256 ^ k := by
  obtain ⟨j, rfl⟩ : ∃ j, k = j + 1 := ⟨k - 1, by omega⟩
  have h : (0 : Int) < 256 ^ j := Int.pow_pos (by omega)
  rw [Int.pow_succ]
  omega
set_option maxRecDepth 100000 in
theorem lst_le : ∀ (n k : Nat) (v : Int), 0 ≤ v → v < 256 ^ (n + 1) → 1 ≤ k → (lst n v ≤ k ↔ v < 256 ^ k) := by
  intro n
  induction n with
  | zero =>
    intro k v h0 h1 hk
    have h2 := pow_ge k hk
    have h3 : (256 : Int) ^ (0 + 1) = 256 := rfl
    have h4 : lst 0 v = 1 := rfl
    omega
  | succ n ih =>
    intro k v h0 h1 hk
    unfold lst
    have h2 := pow_ge k hk
    split
    · rename_i hp
      rw [Int.pow_succ] at h1
      have hv : v / 256 < 256 ^ (n + 1) := by omega
      have hge := lst_pos n (v / 256)
      rcases Nat.lt_or_ge 1 k with h3 | h3
      · obtain ⟨k, rfl⟩ : ∃ j, k = j + 1 := ⟨k - 1, by omega⟩
        have := ih k (v / 256) (by omega) hv (by omega)
        rw [Int.pow_succ]
        omega
      · have hk1 : k = 1 := by omega
        subst hk1
        have h5 : (256 : Int) ^ 1 = 256 := rfl
        omega
    · rename_i hp
      omega
end Go.Proofs.Ytknpaihlnkcpgaa.Own
/- Contracts of package sum: fold, Add, Value, Len, each, Of. -/
set_option linter.unusedVariables false
set_option linter.unusedSimpArgs false
namespace Go.Proofs.Ytknpaihlnkcpgaa.Own
open Go.RowKit Go.Proofs.YtknpaihlnkcpgaaW.PrintWords Go.Proofs.YtknpaihlnkcpgaaW.PrintLast Go.Proofs.YtknpaihlnkcpgaaW.PrintMore

theorem wraps_u64 (n : Int) (h₀ : 0 ≤ n) (h₁ : n < 2 ^ 64) : IntKind.u64.wrap n = n := by simp [IntKind.wrap, IntKind.bits, IntKind.signed]; omega
theorem wraps_u16 (n : Int) (h₀ : 0 ≤ n) (h₁ : n < 2 ^ 16) : IntKind.u16.wrap n = n := by simp [IntKind.wrap, IntKind.bits, IntKind.signed]; omega
theorem u64_and16 (x : Int) (h0 : 0 ≤ x) (h1 : x ≤ 16777215) : bits .and .u64 x 65535 = x % 65536 := bits_mask .u64 64 (by decide) wraps_u64 16 (by decide) x h0 (by omega)
theorem ret_u16 {a b : Int} (h : a = b) : Ending.returned (.int .u16 a) = .returned (.int .u16 b) := by rw [h]
theorem ret_i64 {a b : Int} (h : a = b) : Ending.returned (.int .i64 a) = .returned (.int .i64 b) := by rw [h]

def sum_fold.f (a0 : Int) : Option Int := if 0 ≤ a0 ∧ a0 ≤ 16777215 then some (cf a0) else none
set_option maxHeartbeats 400000 in
theorem fold_any (a0 : Int) (w : World) (b0 : 0 ≤ a0) (b1 : a0 ≤ 16777215) :
    Calls Try.prog 58 #[.int .u64 a0] w fun e w' => e = .returned (.int .u16 (cf a0)) ∧ w = w' := by
  go_enter Try.func58, Try.ntmps58
  go_wp2
  go_step3
  go_wp2
  go_step3
  go_wp2
  go_loop [0] (fun v => ∃ x : Int, v = .int .u64 x ∧ 0 ≤ x ∧ x ≤ 16777215 ∧ Aside0 (cf x = cf a0)) (fun v => (intOf v).toNat)
  case atStart => exact ⟨a0, rfl, b0, b1, Aside0.mk rfl⟩
  case round =>
    obtain ⟨x, rfl, x0, x1, hx⟩ := hrel
    by_cases hlt : x ≤ 65535
    · go_wp2
      go_ret
      have e : x = cf a0 := by rw [← hx.out, cf_small x x0 hlt]
      exact ⟨ret_u16 (by rw [← e]), rfl⟩
    · have hand := u64_and16 x x0 x1
      go_wp2
      go_round
      case rel => exact ⟨x % 65536 + x / 65536, rfl, by omega, by omega, ⟨(cf_step x (by omega)).trans hx.out⟩⟩
      case measure => simp [intOf]; omega
theorem sum_fold.calls (a0 : Int) (r : Int) (w : World) (h : sum_fold.f a0 = some r) :
    Calls Try.prog 58 #[.int .u64 a0] w fun e w' => e = .returned (.int .u16 r) ∧ Drawn0 w w' := by
  unfold sum_fold.f at h
  split at h
  · rename_i hb
    obtain rfl := Option.some.inj h
    exact (fold_any a0 w hb.1 hb.2).mono fun e w' ⟨he, hw⟩ => ⟨he, hw ▸ Drawn0.refl _⟩
  · cases h

theorem add_block (a : Addr) (j : Nat) : (a.add j).block = a.block := by unfold Addr.add; split <;> rfl

/-- a Sum at block g: its folded number is that of n, m bytes have come -/
def SumAt (w : World) (g : Nat) (n m : Int) : Prop := ∃ n', w.heap[g]? = some (.cells #[.int .u64 n', .int .i64 m] 95 (0, 0)) ∧ 0 ≤ n' ∧ n' ≤ 1000000 ∧ cf n' = cf n
theorem SumAt.lt {w : World} {g : Nat} {n m : Int} (h : SumAt w g n m) : g < w.heap.size := by
  obtain ⟨n', h, _⟩ := h
  exact blk_lt h

theorem SumAt.step {w : World} {g : Nat} {n2 v m N N' m' : Int} (hb : w.heap[g]? = some (.cells #[.int .u64 n2, .int .i64 m] 95 (0, 0))) (n20 : 0 ≤ n2) (hN : 0 ≤ N) (v0 : 0 ≤ v) (v1 : v ≤ 65535) (hc : cf n2 = cf N) (hN' : N' = N + v) (hm : m' = m + 1) :
    SumAt ((w.setCell ⟨g, 0, none⟩ (.int .u64 (cf n2 + v))).setCell ⟨g, 1, none⟩ (.int .i64 (m + 1))) g N' m' := by
  subst hN' hm
  have hr := cf_range n2 n20
  refine ⟨cf n2 + v, ?_, by omega, by omega, ?_⟩
  · have h := blk_set (blk_set hb 0 (.int .u64 (cf n2 + v))) 1 (.int .i64 (m + 1))
    simpa using h
  · rw [hc, cf_cf_add N v hN v0]
theorem grown_set2 {w wr : World} {g i j : Nat} (h : w.grownBy wr (some g)) (u v : Value) : w.grownBy ((wr.setCell ⟨g, i, none⟩ u).setCell ⟨g, j, none⟩ v) (some g) :=
  ⟨h.os, h.tape, h.output, by simpa using h.size, fun k hk hne => by
    have hkg : k ≠ g := fun e => hne (by rw [e])
    rw [Below.heap_setCell _ _ _ k hkg, Below.heap_setCell _ _ _ k hkg]; exact h.block k hk hne⟩

set_option maxHeartbeats 1000000 in
theorem add_any (g : Nat) (n m : Int) (bs : List Int) (A : Option Addr) (c : Nat) (w : World) (hs : SumAt w g n m) (n0 : 0 ≤ n) (hb : bytes bs)
    (hr : Kd.C (Kd.int .u8) w A bs.length bs) (hne : ∀ ad, A = some ad → 0 < bs.length → ad.block ≠ g) (m0 : 0 ≤ m) (m1 : m + bs.length ≤ 1152921504606846975) :
    Calls Try.prog 55 #[.pointer (some ⟨g, 0, none⟩), .slice A bs.length c] w fun e w' => e = .returned (.tuple #[]) ∧ SumAt w' g (n + wt m bs) (m + bs.length) ∧ w.grownBy w' (some g) := by
  obtain ⟨n1, hblk, n10, n11, hcf⟩ := hs
  have HR := Aside0.mk hr
  have HB := Aside0.mk hb
  have HNE := Aside0.mk hne
  have HBLK := Aside0.mk hblk
  have HCF := Aside0.mk hcf
  clear hr hb hne hblk hcf
  go_enter Try.func55, Try.ntmps55
  go_wp2
  go_loopw [11] (fun vi wr => ∃ k : Nat, k ≤ bs.length ∧ vi = .int .i64 k ∧ Aside0 (SumAt wr g (n + wt m (bs.take k)) (m + k)) ∧ Aside0 (w.grownBy wr (some g))) (fun vi _ => bs.length - (intOf vi).toNat)
  case atStart => exact ⟨0, Nat.zero_le _, rfl, ⟨n1, by simpa [wt] using HBLK.out, n10, n11, by simpa [wt] using HCF.out⟩, ⟨World.grownBy.refl _ _⟩⟩
  case round =>
    clear HBLK HCF
    obtain ⟨k, hk, rfl, ⟨n2, hb2, n20, n21, hc2⟩, HG⟩ := hrel
    have HC2 := Aside0.mk hc2
    clear hc2
    by_cases hlt : k < bs.length
    · obtain ⟨ad, rfl, hx⟩ := Kd.at_int HR.out k (by omega) (by omega)
      have hxr := bytes_getD HB.out k
      have hadg := HNE.out ad rfl (by omega)
      replace hx := HG.out.cell hx (by rw [add_block]; simpa using hadg)
      have hx' : wr.cell? (ad.add k) = some (.int .u8 (bs.getD k 0)) := hx
      clear hx
      obtain ⟨x, ex⟩ : ∃ x, bs.getD k 0 = x := ⟨_, rfl⟩
      rw [ex] at hx' hxr
      have HX := Aside0.mk ex
      clear ex
      obtain ⟨x0, x1⟩ := hxr
      have c0 : wr.cell? ⟨g, 0, none⟩ = some (.int .u64 n2) := (blk_cell hb2 0).trans rfl
      have c1 : wr.cell? ⟨g, 1, none⟩ = some (.int .i64 (m + k)) := (blk_cell hb2 1).trans rfl
      have f0 := blk_frozen hb2 0
      have f1 := blk_frozen hb2 1
      have HB2 := Aside0.mk hb2
      clear hb2
      have hcr := cf_range n2 n20
      obtain ⟨cr0, cr1⟩ := hcr
      have HW0 := Aside0.mk (wt_nonneg (bs.take k) m (bytes_take HB.out k))
      by_cases hpar : (m + k) % 2 = 0
      · go_wp2_with (go_at_call 58; refine (fold_any _ _ (by omega) (by omega)).mono ?_; rintro e w' ⟨rfl, rfl⟩)
        go_roundw
        case rel => exact ⟨k + 1, by omega, by go_num, ⟨SumAt.step HB2.out n20 (by have := HW0.out; omega) (by omega) (by omega) HC2.out (by rw [wt_take_succ bs m k hlt, if_pos hpar, HX.out]; omega) (by omega)⟩, ⟨grown_set2 HG.out _ _⟩⟩
        case measure => simp [intOf]; omega
      · go_wp2_with (go_at_call 58; refine (fold_any _ _ (by omega) (by omega)).mono ?_; rintro e w' ⟨rfl, rfl⟩)
        go_roundw
        case rel => exact ⟨k + 1, by omega, by go_num, ⟨SumAt.step HB2.out n20 (by have := HW0.out; omega) (by omega) (by omega) HC2.out (by rw [wt_take_succ bs m k hlt, if_neg hpar, HX.out]; omega) (by omega)⟩, ⟨grown_set2 HG.out _ _⟩⟩
        case measure => simp [intOf]; omega
    · have e : k = bs.length := by omega
      subst e
      go_wp2
      go_end0
      exact ⟨rfl, ⟨n2, by simpa using hb2, n20, n21, by simpa using HC2.out⟩, HG.out⟩

theorem add_nil (A : Option Addr) (n c : Nat) (w : World) :
    Calls Try.prog 55 #[.pointer none, .slice A n c] w fun e w' => e = .returned (.tuple #[]) ∧ w = w' := by
  go_enter Try.func55, Try.ntmps55
  go_wp2
  exact bodyPost_ret (v := .tuple #[]) (by simp [results, Try.results55, go_sem]) rfl ⟨rfl, rfl⟩
theorem value_nil (w : World) :
    Calls Try.prog 56 #[.pointer none] w fun e w' => e = .returned (.int .u16 65535) ∧ w = w' := by
  go_enter Try.func56, Try.ntmps56
  go_wp2
  go_ret
  exact ⟨rfl, rfl⟩
theorem value_any (g : Nat) (n m : Int) (w : World) (hs : SumAt w g n m) :
    Calls Try.prog 56 #[.pointer (some ⟨g, 0, none⟩)] w fun e w' => e = .returned (.int .u16 (65535 - cf n)) ∧ w = w' := by
  obtain ⟨n1, hb, n10, n11, hc⟩ := hs
  have c0 : w.cell? ⟨g, 0, none⟩ = some (.int .u64 n1) := (blk_cell hb 0).trans rfl
  obtain ⟨r0, r1⟩ := cf_range n1 n10
  have HC := Aside0.mk hc
  clear hc hb
  go_enter Try.func56, Try.ntmps56
  go_wp2_with (go_at_call 58; refine (fold_any _ _ (by omega) (by omega)).mono ?_; rintro e w' ⟨rfl, rfl⟩)
  go_ret
  exact ⟨ret_u16 (by rw [← HC.out]), rfl⟩


/-- a row of rows of bytes, read at i -/
theorem at_rows {w : World} {A : Option Addr} {n e : Nat} {xs : List (List Int)} (h : Kd.C (Kd.slice e (Kd.int .u8)) w A n xs) (i : Nat) (h1 : i < n) : ∃ ad A0 c0, A = some ad ∧ w.cell? (ad.add i) = some (.slice A0 (xs.getD i []).length c0) ∧ (xs.getD i []).length ≤ c0 ∧ (Kd.int .u8).C w A0 (xs.getD i []).length (xs.getD i []) := by
  obtain ⟨ad, c, e, _, hK, hc0⟩ := Kd.C_get h ([] : List Int) i (by omega) (by omega)
  have hc : ∀ j u, c[j]? = some u → w.cell? (ad.add (i * 1 + j)) = some u := hc0
  obtain ⟨A0, c0, rfl, l0, g0⟩ := hK
  exact ⟨ad, A0, c0, e, by have hq := hc 0 _ rfl; rwa [Nat.mul_one, Nat.add_zero] at hq, l0, g0⟩
theorem flatten_take_succ (l : List (List Int)) (k : Nat) (h : k < l.length) : (l.take (k + 1)).flatten = (l.take k).flatten ++ l.getD k [] := by
  rw [List.take_succ_eq_append_getElem h, List.flatten_append]
  simp [List.getD_eq_getElem?_getD, List.getElem?_eq_getElem h]
theorem flatten_take_le (l : List (List Int)) (k : Nat) (h : k < l.length) : (l.take k).flatten.length + (l.getD k []).length ≤ l.flatten.length := by
  have e : l.flatten = (l.take (k + 1)).flatten ++ (l.drop (k + 1)).flatten := by rw [← List.flatten_append, List.take_append_drop]
  rw [e, flatten_take_succ l k h]
  simp only [List.length_append]
  omega
theorem bytes_rows {l : List (List Int)} (h : ∀ x ∈ l, bytes x) (k : Nat) : bytes (l.getD k []) := by
  rw [List.getD_eq_getElem?_getD]
  by_cases hk : k < l.length
  · rw [List.getElem?_eq_getElem hk]
    exact h _ (List.getElem_mem hk)
  · rw [List.getElem?_eq_none (by omega)]
    exact bytes_nil
theorem bytes_flatten {l : List (List Int)} (h : ∀ x ∈ l, bytes x) : bytes l.flatten := by
  intro x hx
  obtain ⟨y, hy, hxy⟩ := List.mem_flatten.1 hx
  exact h y hy x hxy
theorem below_of_grown {w0 w w' : World} {g : Nat} (h : Below w0.heap.size w0 w) (hg : w.grownBy w' (some g)) (hw : w0.heap.size ≤ g) : Below w0.heap.size w0 w' :=
  h.grown hg h.size (fun k e => by cases e; exact hw)

theorem grown_trans {a b c : World} {row : Option Nat} (h : a.grownBy b row) (k : b.grownBy c row) : a.grownBy c row :=
  ⟨k.os.trans h.os, k.tape.trans h.tape, k.output.trans h.output, Nat.le_trans h.size k.size, fun i hi hne => (k.block i (Nat.lt_of_lt_of_le hi h.size) hne).trans (h.block i hi hne)⟩

set_option maxHeartbeats 1000000 in
theorem each_any (w0 : World) (g : Nat) (l : List (List Int)) (A : Option Addr) (c : Nat) (w : World) (hr : Kd.C (Kd.slice 5 (Kd.int .u8)) w0 A l.length l) (hb : ∀ x ∈ l, bytes x) (hn : l.flatten.length ≤ 1152921504606846975) (hn2 : l.length ≤ 1152921504606846975)
    (hs : SumAt w g 0 0) (hB : Below w0.heap.size w0 w) (hg : w0.heap.size ≤ g) :
    Calls Try.prog 54 #[.slice A l.length c, .func (Fn.func 55) #[.pointer (some ⟨g, 0, none⟩)] #[]] w fun e w' => e = .returned (.tuple #[]) ∧ SumAt w' g (wt 0 l.flatten) l.flatten.length ∧ w.grownBy w' (some g) := by
  have HR := Aside0.mk hr
  have HB := Aside0.mk hb
  have HS := Aside0.mk hs
  have HBW := Aside0.mk hB
  clear hr hb hs hB
  go_enter Try.func54, Try.ntmps54
  go_wp2_with fail
  go_loopw [8] (fun vi wr => ∃ k : Nat, k ≤ l.length ∧ vi = .int .i64 k ∧ Aside0 (SumAt wr g (wt 0 (l.take k).flatten) (l.take k).flatten.length) ∧ Aside0 (w.grownBy wr (some g))) (fun vi _ => l.length - (intOf vi).toNat)
  case atStart => exact ⟨0, Nat.zero_le _, rfl, ⟨by simpa [wt] using HS.out⟩, ⟨World.grownBy.refl _ _⟩⟩
  case round =>
    clear HS
    obtain ⟨k, hk, rfl, HS, HG⟩ := hrel
    by_cases hlt : k < l.length
    · obtain ⟨ad, A0, c0, rfl, hx, hl0, hi⟩ := at_rows HR.out k hlt
      have hbw := below_of_grown HBW.out HG.out hg
      replace hx := (hbw.cell (World.block_lt_of_cell? w0 _ hx)).trans hx
      have hne : ∀ ad, A0 = some ad → 0 < (l.getD k []).length → ad.block ≠ g := by
        rintro ad rfl hp
        have := Kd.C_lt hi hp (by decide)
        omega
      have HI := Aside0.mk (Kd.C_below hi hbw)
      have HNE := Aside0.mk hne
      have hfl := flatten_take_le l k hlt
      have hbx := Aside0.mk (bytes_rows HB.out k)
      have hw0 := Aside0.mk (wt_nonneg _ 0 (bytes_flatten (fun x hx => HB.out x (List.mem_of_mem_take (i := k) hx))))
      clear hi hne hbw
      obtain ⟨x, ex⟩ : ∃ x, l.getD k [] = x := ⟨_, rfl⟩
      rw [ex] at hx hl0 HI HNE hfl hbx
      obtain ⟨m, em⟩ : ∃ m, (l.take k).flatten.length = m := ⟨_, rfl⟩
      rw [em] at HS hfl
      have EX := Aside0.mk ex
      have EM := Aside0.mk em
      clear ex em
      go_wp2_with (go_at_call 55; refine (add_any g _ _ x _ _ _ HS.out hw0.out hbx.out HI.out HNE.out (by omega) (by omega)).mono ?_; rintro e w1 ⟨rfl, hs1, hg1⟩)
      go_roundw
      case rel =>
        refine ⟨k + 1, by omega, by go_num, ⟨?_⟩, ⟨grown_trans HG.out hg1⟩⟩
        rw [flatten_take_succ l k hlt, EX.out, wt_append, List.length_append, EM.out, Int.zero_add]
        simpa using hs1
      case measure => simp [intOf]; omega
    · have e : k = l.length := by omega
      subst e
      go_wp2
      go_end0
      exact ⟨rfl, by simpa using HS.out, HG.out⟩

theorem of_any (l : List (List Int)) (A : Option Addr) (c : Nat) (w : World) (hr : Kd.C (Kd.slice 5 (Kd.int .u8)) w A l.length l) (hb : ∀ x ∈ l, bytes x) (hn : l.flatten.length ≤ 1152921504606846975) (hn2 : l.length ≤ 1152921504606846975) :
    Calls Try.prog 36 #[.slice A l.length c] w fun e w' => e = .returned (.int .u16 (ck l.flatten)) ∧ Below w.heap.size w w' := by
  have HR := Aside0.mk hr
  have HB := Aside0.mk hb
  clear hr hb
  go_enter Try.func36, Try.ntmps36
  go_wp2_with fail
  refine (each_any w w.heap.size l A c _ HR.out HB.out hn hn2 ⟨0, heap_alloc_new w _, by omega, by omega, rfl⟩ ((Below.refl _ _).alloc (Nat.le_refl _) _) (Nat.le_refl _)).mono ?_
  rintro e w1 ⟨rfl, hs, hg⟩
  have HG := Aside0.mk hg
  clear hg
  go_wp2_with (go_at_call 56; refine (value_any _ _ _ _ hs).mono ?_; rintro e w' ⟨rfl, rfl⟩)
  go_ret
  exact ⟨rfl, below_of_grown ((Below.refl _ _).alloc (Nat.le_refl _) _) HG.out (Nat.le_refl _)⟩
end Go.Proofs.Ytknpaihlnkcpgaa.Own
/- Contracts of package bits: right, Least, fits, of, the Writer. -/
set_option linter.unusedVariables false
set_option linter.unusedSimpArgs false
namespace Go.Proofs.Ytknpaihlnkcpgaa.Own
open Go.RowKit Go.Proofs.YtknpaihlnkcpgaaW.PrintWords Go.Proofs.YtknpaihlnkcpgaaW.PrintLast Go.Proofs.YtknpaihlnkcpgaaW.PrintMore

theorem lst_le8 (v : Int) (h0 : 0 ≤ v) (h1 : v < 256 ^ 8) : lst 7 v ≤ 8 := (lst_le 7 8 v h0 h1 (by omega)).2 h1
/-- what is still to be counted -/
def more (k : Nat) (x : Int) : Int := if 0 < x then lst k x else 0
theorem more_step (k : Nat) (x : Int) (hx : 0 < x) (hk : x < 256 ^ (k + 1)) : more k x = 1 + more (k - 1) (x / 256) ∧ x / 256 < 256 ^ (k - 1 + 1) := by
  cases k with
  | zero =>
    have h3 : (256 : Int) ^ (0 + 1) = 256 := rfl
    have h4 : (256 : Int) ^ (0 - 1 + 1) = 256 := rfl
    refine ⟨?_, by omega⟩
    have : ¬ 0 < x / 256 := by omega
    simp only [more, if_pos hx, if_neg this]
    rfl
  | succ k =>
    rw [Int.pow_succ] at hk
    refine ⟨?_, by rw [Nat.add_sub_cancel]; omega⟩
    simp only [more, if_pos hx, Nat.add_sub_cancel]
    conv => lhs; unfold lst
    split <;> omega

theorem right_any (n : Int) (w : World) :
    Calls Try.prog 61 #[.int .i64 n] w fun e w' => e = .returned (.bool (decide (1 ≤ n ∧ n ≤ 8))) ∧ w = w' := by
  go_enter Try.func61, Try.ntmps61
  by_cases h1 : 1 ≤ n
  · go_wp2
    go_ret
    exact ⟨by simp [h1], rfl⟩
  · have h2 : n < 1 := by omega
    go_wp2
    go_ret
    exact ⟨ret_bool (by simp; omega), rfl⟩
theorem least_any (v : Int) (w : World) (h0 : 0 ≤ v) (h1 : v < 256 ^ 8) :
    Calls Try.prog 62 #[.int .u64 v] w fun e w' => e = .returned (.int .i64 (lst 7 v)) ∧ w = w' := by
  have h3 : (256 : Int) ^ 8 = 18446744073709551616 := rfl
  have HL : Aside0 (1 + more 6 (v / 256) = lst 7 v) := ⟨by
    unfold more
    conv => rhs; unfold lst
    split <;> omega⟩
  have HL8 := Aside0.mk (lst_le8 v h0 h1)
  have hp6 : (256 : Int) ^ (6 + 1) = 72057594037927936 := rfl
  have hv6 : Aside0 (v / 256 < 256 ^ (6 + 1)) := ⟨by omega⟩
  rw [h3] at h1
  clear h3 hp6
  go_enter Try.func62, Try.ntmps62
  go_wp2
  go_loop [0, 3] (fun p q => ∃ (k : Nat) (x m : Int), p = .int .u64 x ∧ q = .int .i64 m ∧ 0 ≤ x ∧ x < 18446744073709551616 ∧ 1 ≤ m ∧ Aside0 (x < 256 ^ (k + 1)) ∧ Aside0 (m + more k x = lst 7 v)) (fun p _ => (intOf p).toNat)
  case atStart => exact ⟨6, v / 256, 1, rfl, rfl, by omega, by omega, by omega, hv6, HL⟩
  case round =>
    obtain ⟨k, x, m, rfl, rfl, x0, x1, m1, HK, HM⟩ := hrel
    by_cases hx : 0 < x
    · obtain ⟨hs1, hs2⟩ := more_step k x hx HK.out
      have hm8 : m ≤ 8 := by
        have := HM.out
        have := HL8.out
        have h : 0 ≤ more k x := by
          unfold more
          split
          · have := lst_pos k x; omega
          · omega
        omega
      have HS := Aside0.mk hs1
      have HS2 := Aside0.mk hs2
      clear hs1 hs2
      go_wp2
      go_round
      case rel => exact ⟨k - 1, x / 256, m + 1, rfl, by go_num, by omega, by omega, by omega, HS2, ⟨by have := HM.out; have := HS.out; omega⟩⟩
      case measure => simp [intOf]; omega
    · have e : x = 0 := by omega
      subst e
      go_wp2
      go_ret
      exact ⟨ret_i64 (by have h := HM.out; simp [more] at h; exact h), rfl⟩
theorem fits_any (v n : Int) (w : World) (h0 : 0 ≤ v) (h1 : v < 256 ^ 8) :
    Calls Try.prog 52 #[.int .u64 v, .int .i64 n] w fun e w' => e = .returned (.bool (decide (1 ≤ n ∧ n ≤ 8 ∧ lst 7 v ≤ n))) ∧ w = w' := by
  by_cases hn : 1 ≤ n ∧ n ≤ 8
  · have hd : decide (1 ≤ n ∧ n ≤ 8) = true := decide_eq_true hn
    have hr := right_any n w
    rw [hd] at hr
    have HN := Aside0.mk hn
    obtain ⟨m, hm⟩ : ∃ m, lst 7 v = m := ⟨_, rfl⟩
    have hl := least_any v w h0 h1
    rw [hm] at hl ⊢
    clear hd h1 hm
    go_enter Try.func52, Try.ntmps52
    go_wp2_with (first
      | (go_at_call 61; (with_reducible refine hr.mono ?_); clear hr; rintro e w' ⟨rfl, rfl⟩)
      | (go_at_call 62; (with_reducible refine hl.mono ?_); rintro e w' ⟨rfl, rfl⟩))
    go_ret
    exact ⟨ret_bool (by have := HN.out; simp [this.1, this.2]), rfl⟩
  · have hd : decide (1 ≤ n ∧ n ≤ 8) = false := decide_eq_false hn
    have hr := right_any n w
    rw [hd] at hr
    have HN := Aside0.mk hn
    clear hd h1 hn
    go_enter Try.func52, Try.ntmps52
    go_wp2_with (go_at_call 61; (with_reducible refine hr.mono ?_); rintro e w' ⟨rfl, rfl⟩)
    go_ret
    exact ⟨ret_bool (by have := HN.out; simp; intros; omega), rfl⟩

/-- block g is a writer (type t), that holds bs -/
def WrAt (w : World) (base g t : Nat) (bs : List Int) : Prop := ∃ v, w.heap[g]? = some (.cells #[v] t (0, 0)) ∧ Kd.R (Kd.int .u8) 5 w base (fun k => g < k) v bs
/-- what a writer's call leaves: all that lay below base; and what is neither the writer nor a row of bytes -/
def Wrote (base g : Nat) (w w' : World) : Prop := Below base w w' ∧ ∀ k cells t fr, w.heap[k]? = some (.cells cells t fr) → t ≠ 5 → k ≠ g → w'.heap[k]? = some (.cells cells t fr)
theorem Wrote.refl (base g : Nat) (w : World) : Wrote base g w w := ⟨Below.refl _ _, fun _ _ _ _ h _ _ => h⟩
theorem Wrote.trans {base g : Nat} {a b c : World} (h : Wrote base g a b) (k : Wrote base g b c) : Wrote base g a c := ⟨h.1.trans k.1, fun i cs t fr hi ht hg => k.2 i cs t fr (h.2 i cs t fr hi ht hg) ht hg⟩
theorem Wrote.of_below {base g : Nat} {a b : World} (h : Below a.heap.size a b) (hb : base ≤ a.heap.size) : Wrote base g a b := ⟨h.mono hb, fun i cs t fr hi _ _ => (h.block i (blk_lt hi)).trans hi⟩
theorem WrAt.below {w w' : World} {base g t : Nat} {bs : List Int} (h : WrAt w base g t bs) (hb : Below w.heap.size w w') : WrAt w' base g t bs := by
  obtain ⟨v, h1, h2⟩ := h
  exact ⟨v, (hb.block g (blk_lt h1)).trans h1, Kd.R_below h2 hb⟩
theorem WrAt.new (w : World) (base t : Nat) : WrAt (w.alloc (.cells #[.slice none 0 0] t)) base w.heap.size t [] := ⟨_, heap_alloc_new w _, Kd.R_nil _ _ _ _ _⟩

set_option maxRecDepth 100000 in
theorem raw_any (base g t : Nat) (bs l : List Int) (A : Option Addr) (n c : Nat) (w : World) (hw : WrAt w base g t bs) (hC : Kd.C (Kd.int .u8) w A n l) (hbase : base ≤ g) (ht : t ≠ 5) (hn : bs.length + n ≤ 140737488355328) :
    Calls Try.prog 33 #[.pointer (some ⟨g, 0, none⟩), .slice A n c] w fun e w' => e = .returned (.int .i64 0) ∧ WrAt w' base g t (bs ++ l) ∧ Wrote base g w w' := by
  obtain ⟨v, hg, hR⟩ := hw
  obtain ⟨A0, c0, rfl⟩ := Kd.R_slice hR
  have hc0 : w.cell? ⟨g, 0, none⟩ = some (.slice A0 bs.length c0) := (blk_cell hg 0).trans rfl
  have hlt := blk_lt hg
  have hne : some g ≠ (Value.slice A0 bs.length c0).ownBlock := fun e => Nat.lt_irrefl _ (hR.1 g e.symm)
  have HG := Aside0.mk hg
  have HR := Aside0.mk hR
  have HC := Aside0.mk hC
  have HNE := Aside0.mk hne
  clear hg hR hC hne
  go_enter Try.func33, Try.ntmps33
  go_wp2_with (at_builtin; refine Kd.R_append_rows (Kd.int .u8) (w0 := w) base rfl (.tmp 11) (.tmp 12) 22 5 (.int .u8 0) 1 rfl Try.underlying22 info_u8 rfl (by decide) (by decide) _ bs l A n c (fun k => g < k) (fun _ => False) rfl rfl HR.out HC.out (fun _ _ h => h) (fun _ h => h.elim) (fun k hk => by omega) (Below.refl _ _) (by omega) (by omega) ?_; intro v1 w1 ho1 hb1 hgr1 _; obtain ⟨A1, c1, rfl⟩ := Kd.R_slice ho1; have hg1 := (hgr1.block g hlt HNE.out).trans HG.out; have hc1 := (blk_cell hg1 0).trans rfl; have hf1 := blk_frozen hg1 0)
  go_ret
  have hbx : Boxed w1 g t (.slice A0 bs.length c0) := hg1
  have hset := hbx.set (.slice A1 (bs.length + l.length) c1)
  refine ⟨rfl, ⟨_, hset, ?_⟩, hb1.setCell (p := ⟨g, 0, none⟩) hbase _, fun k cells t' fr hk ht' hkg => ?_⟩
  · have h := Kd.R_far (p := ⟨g, 0, none⟩) ho1 (fun k hk => Nat.ne_of_gt hk) (.slice A1 (bs.length + l.length) c1)
    rw [List.length_append] at h
    exact h
  · refine (Below.heap_setCell _ _ _ k hkg).trans ((hgr1.block k (blk_lt hk) (fun e => ?_)).trans hk)
    obtain ⟨inner, ho⟩ := Kd.R_own HR.out
    obtain ⟨cs, hc⟩ := own_typed ho k e.symm
    rw [hk] at hc
    cases hc
    exact ht' rfl

theorem be_put (v : Int) (n k : Nat) (h : k < n) : (List.replicate (n - k) (0 : Int) ++ be k v).set (n - 1 - k) (v / 2 ^ (8 * k) % 256) = List.replicate (n - (k + 1)) 0 ++ be (k + 1) v := by
  have e2 : (2 : Int) ^ (8 * k) = 256 ^ k := by rw [Int.pow_mul]; rfl
  rw [e2, be_top, show n - k = (n - (k + 1)) + 1 by omega, List.replicate_succ', List.append_assoc, List.set_append_right _ _ (by simp; omega)]
  congr 1
  simp
  rw [show n - 1 - k - (n - (k + 1)) = 0 by omega]
  rfl
/-- the bytes of a number -/
theorem num_of (v : Int) (n : Nat) (w : World) (h0 : 0 ≤ v) (h1 : v < 256 ^ 8) (hn : n ≤ 8) :
    Calls Try.prog 53 #[.int .u64 v, .int .i64 n] w fun e w' => ∃ x, e = .returned x ∧ Kd.R (Kd.int .u8) 5 w' w.heap.size (fun _ => True) x (be n v) ∧ Below w.heap.size w w' := by
  have h3 : (256 : Int) ^ 8 = 18446744073709551616 := rfl
  rw [h3] at h1
  clear h3
  have hmk := print_make (P := Try.prog) 22 5 .u8 1 Try.underlying22 info_u8 (by decide) n (by omega)
  go_enter Try.func53, Try.ntmps53
  go_wp2
  clear hmk
  have HR0 : Aside0 (Kd.R (Kd.int .u8) 5 (w.alloc (.cells (madeCells #[.int .u8 0] n) 5)) w.heap.size (fun _ => True) (.slice (some ⟨w.heap.size, 0, none⟩) n n) (List.replicate (n - 0) 0 ++ be 0 v)) := ⟨by
    have h := own_made w w.heap.size 5 .u8 n (Nat.le_refl _) (by omega)
    have e : List.replicate (n - 0) (0 : Int) ++ be 0 v = List.replicate n 0 := by simp [be]
    rw [e]
    exact Kd.R_of_own (h1 := fun _ => rfl) (by simpa [nums, encs] using h) (fun _ _ => trivial)⟩
  have HB0 := Aside0.mk (below_alloc1 w (.cells (madeCells #[.int .u8 0] n) 5))
  go_loopw [6, 10] (fun p q wr => ∃ (k : Nat), k ≤ n ∧ q = .int .i64 k ∧ Aside0 (Kd.R (Kd.int .u8) 5 wr w.heap.size (fun _ => True) (.slice (some ⟨w.heap.size, 0, none⟩) n n) (List.replicate (n - k) 0 ++ be k v)) ∧ Aside0 (Below w.heap.size w wr)) (fun p q wr => n - (intOf q).toNat)
  case atStart => exact ⟨0, by omega, rfl, HR0, HB0⟩
  case round =>
    clear HR0 HB0
    obtain ⟨k, hk, rfl, HR, HB⟩ := hrel
    by_cases hkn : k < n
    · obtain ⟨hcx, hfx⟩ := Kd.R_celln (0 : Int) HR.out ((n : Int) - 1 - k) (by omega) (by omega)
      have e : ((n : Int) - 1 - k).toNat = n - 1 - k := by omega
      rw [e] at hcx hfx
      have hput := Kd.R_putn HR.out ((n : Int) - 1 - k) (v / 2 ^ (8 * k) % 256)
      rw [e, be_put v n k hkn] at hput
      have HP := Aside0.mk hput
      clear hput e
      go_wp2
      go_roundw
      case rel => exact ⟨k + 1, by omega, by go_num, HP, ⟨HB.out.setCell (p := ⟨w.heap.size, n - 1 - k, none⟩) (Nat.le_refl _) _⟩⟩
      case measure => simp [intOf]; omega
    · have e : k = n := by omega
      subst e
      go_wp2
      go_ret
      exact ⟨_, rfl, by simpa using HR.out, HB.out⟩
end Go.Proofs.Ytknpaihlnkcpgaa.Own
/- bits.value, bits.Get, ip.word. -/
set_option linter.unusedVariables false
set_option linter.unusedSimpArgs false
namespace Go.Proofs.Ytknpaihlnkcpgaa.Own
open Go.RowKit Go.Proofs.YtknpaihlnkcpgaaW.PrintWords Go.Proofs.YtknpaihlnkcpgaaW.PrintLast Go.Proofs.YtknpaihlnkcpgaaW.PrintMore

/-- the number of bytes -/
def vl (l : List Int) : Int := l.foldl (fun v x => v * 256 + x) 0
theorem vl_snoc (l : List Int) (x : Int) : vl (l ++ [x]) = vl l * 256 + x := by simp [vl]
theorem vl_range : ∀ (n : Nat) (l : List Int), l.length = n → bytes l → 0 ≤ vl l ∧ vl l < 256 ^ n := by
  intro n
  induction n with
  | zero => intro l h _; have : l = [] := List.eq_nil_of_length_eq_zero h; subst this; simp [vl]
  | succ n ih =>
    intro l h hb
    obtain ⟨x, hx⟩ : ∃ x, l = l.take n ++ [x] := ⟨l.getD n 0, by
      rw [List.getD_eq_getElem?_getD, List.getElem?_eq_getElem (by omega)]
      simp only [Option.getD_some, List.take_append_getElem]
      rw [List.take_of_length_le (by omega)]⟩
    have hl : (l.take n).length = n := by rw [List.length_take]; omega
    have hbt : bytes (l.take n) := bytes_take hb n
    have hx2 := hb x (by rw [hx]; simp)
    have := ih _ hl hbt
    rw [hx, vl_snoc, Int.pow_succ]
    omega
theorem vl_two (x y : Int) : vl [x, y] = x * 256 + y := by simp [vl]
theorem vl_take (l : List Int) (k : Nat) (h : k < l.length) : vl (l.take (k + 1)) = vl (l.take k) * 256 + l.getD k 0 := by
  rw [List.take_add_one, List.getD_eq_getElem?_getD, List.getElem?_eq_getElem h]
  exact vl_snoc _ _
theorem u64_or8 (v x : Int) (h0 : 0 ≤ v) (h1 : v < 72057594037927936) (x0 : 0 ≤ x) (x1 : x < 256) : bits .or .u64 (v * 256) x = v * 256 + x :=
  bits_join .u64 64 (by decide) (fun n h0 h1 => wraps_u64 n h0 (by omega)) 8 _ x (by omega) (by omega) (by omega) x0 (by omega) (by omega)
theorem pow_le7 : ∀ k : Nat, k < 8 → (256 : Int) ^ k ≤ 256 ^ 7 := by decide
theorem p256_7 : (256 : Int) ^ 7 = 72057594037927936 := rfl
theorem ret_u64b {a b : Int} (h : a = b) : Ending.returned (.int .u64 a) = .returned (.int .u64 b) := by rw [h]
theorem bvalue_any (b : List Int) (A : Option Addr) (n c : Nat) (w : World) (hC : Kd.C (Kd.int .u8) w A n b) (hb : bytes b) (hn : n ≤ 8) :
    Calls Try.prog 63 #[.slice A n c] w fun e w' => e = .returned (.int .u64 (vl b)) ∧ w = w' := by
  have HC := Aside0.mk hC
  have HB := Aside0.mk hb
  have HLEN := Aside0.mk hC.1
  clear hC hb
  go_enter Try.func63, Try.ntmps63
  go_wp2
  go_loop [2, 7] (fun p q => ∃ (k : Nat), k ≤ n ∧ q = .int .i64 k ∧ p = .int .u64 (vl (b.take k))) (fun _ q => n - (intOf q).toNat)
  case atStart => exact ⟨0, by omega, rfl, rfl⟩
  case round =>
    obtain ⟨k, hk, rfl, rfl⟩ := hrel
    by_cases hkn : k < n
    · obtain ⟨ad, rfl, hx⟩ := Kd.at_int HC.out k (by omega) (by omega)
      have hx' : w.cell? (ad.add k) = some (.int .u8 (b.getD k 0)) := hx
      have hxr := bytes_getD HB.out k
      have hvr := vl_range k (b.take k) (by rw [List.length_take]; have := HLEN.out; omega) (bytes_take HB.out k)
      have hp : (256 : Int) ^ k ≤ 256 ^ 7 := pow_le7 k (by omega)
      rw [p256_7] at hp
      have hst := vl_take b k (by rw [HLEN.out]; exact hkn)
      obtain ⟨x, ex⟩ : ∃ x, b.getD k 0 = x := ⟨_, rfl⟩
      obtain ⟨v, ev⟩ : ∃ v, vl (b.take k) = v := ⟨_, rfl⟩
      rw [ex] at hx' hxr hst
      rw [ev] at hvr hst
      rw [ev]
      obtain ⟨v0, v1⟩ := hvr
      have hv2 : v < 72057594037927936 := by omega
      obtain ⟨x0, x1⟩ := hxr
      have hor := u64_or8 v x v0 hv2 x0 x1
      have HST := Aside0.mk hst
      clear hx hst ex ev hp v1
      go_wp2
      go_round
      case rel => exact ⟨k + 1, by omega, by go_num, by rw [HST.out]⟩
      case measure => simp [intOf]; omega
    · have e : k = n := by omega
      subst e
      go_wp2
      go_ret
      exact ⟨ret_u64b (by rw [List.take_of_length_le (by rw [HLEN.out]; exact Nat.le_refl _)]), rfl⟩
set_option maxRecDepth 100000 in
theorem get_any (b : List Int) (A : Option Addr) (n c at_ size : Nat) (ai si : Int) (ha : (at_ : Int) = ai) (hs : (size : Int) = si) (w : World) (hC : Kd.C (Kd.int .u8) w A n b) (hc : n ≤ c) (hb : bytes b) (hs1 : 1 ≤ size) (hs8 : size ≤ 8) (hn : at_ + size ≤ n) :
    Calls Try.prog 57 #[.slice A n c, .int .i64 ai, .int .i64 si] w fun e w' => e = .returned (.tuple #[.int .u64 (vl ((b.take (at_ + size)).drop at_)), .int .i64 0]) ∧ w = w' := by
  subst ha hs
  have hn63 := hC.2.1
  obtain ⟨T, A', m, c', hcut, hrd, hmc, hT, hm⟩ := cut_mid A n c b at_ (at_ + size) hC.1 (by omega) (by omega) (by omega) hc
  have hr := right_any size w
  rw [show decide (1 ≤ (size : Int) ∧ (size : Int) ≤ 8) = true from decide_eq_true ⟨by omega, by omega⟩] at hr
  have hTe : T = (b.take (at_ + size)).drop at_ := by rw [hT]; congr 1
  have hbT : bytes T := by rw [hTe]; exact bytes_drop (bytes_take hb _) _
  have hv := bvalue_any T A' m c' w (hrd w hC) hbT (by omega)
  obtain ⟨v, ev⟩ : ∃ v, vl T = v := ⟨_, rfl⟩
  have HV : Aside0 (vl ((b.take (at_ + size)).drop at_) = v) := ⟨by rw [← hTe]; exact ev⟩
  rw [ev] at hv
  have d1 : ¬ (at_ : Int) < 0 := by omega
  have d2 : ¬ (n : Int) < at_ := by omega
  have d3 : ¬ (n : Int) - at_ < size := by omega
  have hw1 : (at_ : Int) + size ≤ 9223372036854775807 := by omega
  clear hT hTe hbT ev hrd hC hb hm
  go_enter Try.func57, Try.ntmps57
  go_wp2_with (first
    | (go_at_call 61; (with_reducible refine hr.mono ?_); clear hr; rintro e w' ⟨rfl, rfl⟩)
    | (go_at_call 63; go_must (with_reducible refine hv.mono ?_); rintro e w' ⟨rfl, rfl⟩))
  refine bodyPost_ret (results_tmp2 rfl _ _ _) rfl ?_
  exact ⟨by rw [HV.out]; rfl, rfl⟩
theorem word_any (b : List Int) (A : Option Addr) (n c at_ : Nat) (ai : Int) (ha : (at_ : Int) = ai) (w : World) (hC : Kd.C (Kd.int .u8) w A n b) (hc : n ≤ c) (hb : bytes b) (hn : at_ + 2 ≤ n) :
    Calls Try.prog 39 #[.slice A n c, .int .i64 ai] w fun e w' => e = .returned (.int .u16 (b.getD at_ 0 * 256 + b.getD (at_ + 1) 0)) ∧ w = w' := by
  have hg := get_any b A n c at_ 2 ai 2 ha rfl w hC hc hb (by decide) (by decide) hn
  have hlen := hC.1
  have e : vl ((b.take (at_ + 2)).drop at_) = b.getD at_ 0 * 256 + b.getD (at_ + 1) 0 := by
    have h1 : (b.take (at_ + 2)).drop at_ = [b.getD at_ 0, b.getD (at_ + 1) 0] := by
      apply List.ext_getElem?
      intro j
      rw [List.getElem?_drop, List.getElem?_take]
      match j with
      | 0 => simp [List.getD_eq_getElem?_getD, List.getElem?_eq_getElem (show at_ < b.length by omega)]
      | 1 => simp [List.getD_eq_getElem?_getD, List.getElem?_eq_getElem (show at_ + 1 < b.length by omega)]
      | j + 2 => rw [if_neg (by omega)]; simp
    rw [h1, vl_two]
  rw [e] at hg
  have h0 := bytes_getD hb at_
  have h1 := bytes_getD hb (at_ + 1)
  obtain ⟨v, ev⟩ : ∃ v, b.getD at_ 0 * 256 + b.getD (at_ + 1) 0 = v := ⟨_, rfl⟩
  rw [ev] at hg ⊢
  have v0 : 0 ≤ v := by omega
  have v1 : v ≤ 65535 := by omega
  clear hC hb e h0 h1 ev hn
  go_enter Try.func39, Try.ntmps39
  go_wp2_with (go_at_call 57; go_must (with_reducible refine hg.mono ?_); rintro e w' ⟨rfl, rfl⟩)
  go_ret
  exact ⟨rfl, rfl⟩
end Go.Proofs.Ytknpaihlnkcpgaa.Own
/- Contracts of bits.Writer: Put, Bytes; of ip's writer: put. -/
set_option linter.unusedVariables false
set_option linter.unusedSimpArgs false
namespace Go.Proofs.Ytknpaihlnkcpgaa.Own
open Go.RowKit Go.Proofs.YtknpaihlnkcpgaaW.PrintWords Go.Proofs.YtknpaihlnkcpgaaW.PrintLast Go.Proofs.YtknpaihlnkcpgaaW.PrintMore

theorem fits_ok (v : Int) (n : Nat) (h0 : 0 ≤ v) (h1 : v < 256 ^ 8) (hn : 1 ≤ n) (hn8 : n ≤ 8) (hv : v < 256 ^ n) : decide (1 ≤ (n : Int) ∧ (n : Int) ≤ 8 ∧ lst 7 v ≤ n) = true :=
  decide_eq_true ⟨by omega, by omega, (lst_le 7 n v h0 h1 hn).2 hv⟩

set_option maxRecDepth 100000 in
theorem wput_any (base g t : Nat) (bs : List Int) (v : Int) (n : Nat) (w : World) (hw : WrAt w base g t bs) (hbase : base ≤ g) (ht : t ≠ 5) (hbn : bs.length ≤ 1000000)
    (h0 : 0 ≤ v) (h1 : v < 256 ^ 8) (hn : 1 ≤ n) (hn8 : n ≤ 8) (hv : v < 256 ^ n) :
    Calls Try.prog 50 #[.pointer (some ⟨g, 0, none⟩), .int .u64 v, .int .i64 n] w fun e w' => e = .returned (.int .i64 0) ∧ WrAt w' base g t (bs ++ be n v) ∧ Wrote base g w w' := by
  have hf := fits_any v n w h0 h1
  rw [fits_ok v n h0 h1 hn hn8 hv] at hf
  have ho := num_of v n w h0 h1 hn8
  have HW := Aside0.mk hw
  have hlt : base ≤ w.heap.size := by obtain ⟨x, hx, _⟩ := hw; have := blk_lt hx; omega
  have hl := be_length n v
  obtain ⟨l, el⟩ : ∃ l, be n v = l := ⟨_, rfl⟩
  rw [el] at ho hl ⊢
  have hbl : bs.length + l.length ≤ 140737488355328 := by omega
  clear hw h1 hv el hl
  go_enter Try.func50, Try.ntmps50
  go_wp2_with (first
    | (go_at_call 52; (with_reducible refine hf.mono ?_); clear hf; rintro e w' ⟨rfl, rfl⟩)
    | (go_at_call 53; (with_reducible refine ho.mono ?_); clear ho; rintro e w1 ⟨x, rfl, hx, hb1⟩; obtain ⟨A1, c1, rfl⟩ := Kd.R_slice hx)
    | (go_at_call 33; go_must (with_reducible refine (raw_any base g t bs l A1 l.length c1 w1 (HW.out.below hb1) (C_of_R hx).1 hbase ht hbl).mono ?_); rintro e w2 ⟨rfl, hw2, hk2⟩))
  go_ret
  exact ⟨rfl, hw2, (Wrote.of_below hb1 hlt).trans hk2⟩

set_option maxRecDepth 100000 in
theorem wbytes_any (base g t : Nat) (bs : List Int) (w : World) (hw : WrAt w base g t bs) (hbn : bs.length ≤ 1000000) :
    Calls Try.prog 37 #[.pointer (some ⟨g, 0, none⟩)] w fun e w' => ∃ x, e = .returned x ∧ Kd.R (Kd.int .u8) 5 w' w.heap.size (fun _ => True) x bs ∧ Below w.heap.size w w' := by
  obtain ⟨v, hg, hR⟩ := hw
  obtain ⟨A0, c0, rfl⟩ := Kd.R_slice hR
  have hc0 : w.cell? ⟨g, 0, none⟩ = some (.slice A0 bs.length c0) := (blk_cell hg 0).trans rfl
  have hcl := clone_any bs A0 bs.length c0 w (C_of_R hR).1 (by omega)
  clear hg hR
  go_enter Try.func37, Try.ntmps37
  go_wp2_with (go_at_call 40; (with_reducible refine hcl.mono ?_); rintro e w1 ⟨x, rfl, hx, hb1⟩)
  go_ret
  exact ⟨_, rfl, hx, hb1⟩

/-- numbers of a size, one behind the other -/
def bes (n : Nat) (l : List Int) : List Int := (l.map (be n)).flatten
theorem bes_snoc (n : Nat) (l : List Int) (x : Int) : bes n (l ++ [x]) = bes n l ++ be n x := by simp [bes]
theorem bes_length (n : Nat) : ∀ (l : List Int), (bes n l).length = n * l.length := by
  intro l
  induction l with
  | nil => simp [bes]
  | cons x l ih => simp only [bes, List.map_cons, List.flatten_cons, List.length_append, List.length_cons] at *; rw [ih, be_length, Nat.mul_succ]; omega

set_option maxRecDepth 100000 in
theorem puts_any (base g t b T : Nat) (bs l : List Int) (n m : Nat) (w : World) (hw : WrAt w base g t bs) (hbase : base ≤ g) (ht : t ≠ 5) (hbn : bs.length ≤ 10000) (hl : l.length = m) (hm : m ≤ 1000)
    (hb : w.heap[b]? = some (.cells (nums .u64 l).toArray T (0, 0))) (hT : T ≠ 5) (hbg : b ≠ g) (hn : 1 ≤ n) (hn8 : n ≤ 8) (hv : ∀ x ∈ l, 0 ≤ x ∧ x < 256 ^ n) (hp8 : (256 : Int) ^ n ≤ 256 ^ 8) :
    Calls Try.prog 30 #[.pointer (some ⟨g, 0, none⟩), .int .i64 n, .slice (some ⟨b, 0, none⟩) m m] w fun e w' => e = .returned (.tuple #[]) ∧ WrAt w' base g t (bs ++ bes n l) ∧ Wrote base g w w' := by
  have HV := Aside0.mk hv
  have HL := Aside0.mk hl
  have HBL := Aside0.mk hb
  have HP8 := Aside0.mk hp8
  have HW0 : Aside0 (WrAt w base g t (bs ++ bes n (l.take 0))) := ⟨by simpa [bes] using hw⟩
  clear hv hl hw hb hp8
  go_enter Try.func30, Try.ntmps30
  go_wp2
  go_loopw [7, 10] (fun _ q wr => ∃ (k : Nat), k ≤ m ∧ q = .int .i64 k ∧ Aside0 (WrAt wr base g t (bs ++ bes n (l.take k))) ∧ Aside0 (Wrote base g w wr)) (fun _ q _ => m - (intOf q).toNat)
  case atStart => exact ⟨0, by omega, rfl, HW0, ⟨Wrote.refl _ _ _⟩⟩
  case round =>
    clear HW0
    obtain ⟨k, hk, rfl, HW, HK⟩ := hrel
    by_cases hkm : k < m
    · have hb1 := HK.out.2 b _ _ _ HBL.out hT hbg
      have hkl : k < l.length := by rw [HL.out]; exact hkm
      have hcx : wr.cell? ⟨b, k, none⟩ = some (.int .u64 (l.getD k 0)) := (blk_cell hb1 k).trans (by simp [nums, List.getElem?_eq_getElem hkl, List.getD_eq_getElem?_getD])
      have hxv := HV.out (l.getD k 0) (by rw [List.getD_eq_getElem?_getD, List.getElem?_eq_getElem hkl]; exact List.getElem_mem _)
      have htk : l.take (k + 1) = l.take k ++ [l.getD k 0] := by rw [List.take_add_one, List.getD_eq_getElem?_getD, List.getElem?_eq_getElem hkl]; rfl
      have hx8 := Int.lt_of_lt_of_le hxv.2 HP8.out
      have hx0 := hxv.1
      have hln : (bs ++ bes n (l.take k)).length ≤ 1000000 := by
        rw [List.length_append, bes_length, List.length_take]
        have : n * min k l.length ≤ 8 * 1000 := Nat.mul_le_mul hn8 (by omega)
        omega
      have hp := wput_any base g t (bs ++ bes n (l.take k)) (l.getD k 0) n wr HW.out hbase ht hln hx0 hx8 hn hn8 hxv.2
      rw [List.append_assoc, ← bes_snoc, ← htk] at hp
      obtain ⟨x, ex⟩ : ∃ x, l.getD k 0 = x := ⟨_, rfl⟩
      rw [ex] at hcx hp
      clear htk hx8 hx0 hln hxv hb1 hkl ex
      go_wp2_with (go_at_call 50; go_must (with_reducible refine hp.mono ?_); rintro e w2 ⟨rfl, hw2, hk2⟩)
      go_roundw
      case rel => exact ⟨k + 1, by omega, by go_num, ⟨hw2⟩, ⟨HK.out.trans hk2⟩⟩
      case measure => simp [intOf]; omega
    · have e : k = m := by omega
      subst e
      go_wp2
      go_end0
      exact ⟨rfl, by have h := HW.out; rw [List.take_of_length_le (by rw [HL.out]; exact Nat.le_refl _)] at h; exact h, HK.out⟩
end Go.Proofs.Ytknpaihlnkcpgaa.Own
/- Loads of values of many cells: one rule a size, cheap for the kernel. (written by wip/gen_big.py) -/
set_option linter.unusedVariables false
set_option linter.unusedSimpArgs false
namespace Go.Proofs.Ytknpaihlnkcpgaa.Own
open Go.RowKit Go.Proofs.YtknpaihlnkcpgaaW.PrintWords Go.Proofs.YtknpaihlnkcpgaaW.PrintLast Go.Proofs.YtknpaihlnkcpgaaW.PrintMore

/-- a cell's value -/
def gv (o : Option Value) : Value := o.getD undef
theorem gv_some (v : Value) : gv (some v) = v := rfl
def isV (o : Option Value) : Bool := o.isSome
theorem isV_some (v : Value) : isV (some v) = true := rfl
/-- what a load of n cells comes to, where one of them is missing -/
noncomputable def slowLd (P : Program) (a : Addr) (n : Nat) (w : World) : Result (Array Value) := (loadCellsFrom a 0 n #[]).run P w
def pick2 (b : Bool) (x y : Result (Array Value)) : Result (Array Value) := cond b x y
theorem pick2_true (x y : Result (Array Value)) : pick2 true x y = x := rfl

theorem ld_list (P : Program) (w : World) (b o : Nat) (n : Nat) (vs : List (Option Value)) (hn : vs.length = n) (hv : ∀ j, j < n → vs[j]? = some (w.cell? ⟨b, o + j, none⟩)) :
    (loadCellsFrom ⟨b, o, none⟩ 0 n #[]).run P w = pick2 (vs.all isV) (.ok (vs.map gv).toArray w) (slowLd P ⟨b, o, none⟩ n w) := by
  cases h : vs.all isV with
  | false => rfl
  | true =>
    subst hn
    have h1 := run_loadCells_list (P := P) w ⟨b, o, none⟩ (vs.map gv) (fun j v hj => by
      have hlt : j < vs.length := by
        rcases Nat.lt_or_ge j vs.length with h' | h'
        · exact h'
        · rw [List.getElem?_eq_none (by simpa using h')] at hj; cases hj
      have h2 := hv j hlt
      rw [List.getElem?_eq_getElem hlt] at h2
      have h3 := List.all_eq_true.1 h vs[j] (List.getElem_mem _)
      rw [List.getElem?_map, List.getElem?_eq_getElem hlt] at hj
      have e : vs[j] = w.cell? ⟨b, o + j, none⟩ := Option.some.inj h2
      rw [Addr.add_lit, ← e]
      cases hx : vs[j] with
      | none => rw [hx] at h3; cases h3
      | some u =>
        rw [hx] at hj
        simpa [gv] using hj)
    rw [List.length_map] at h1
    exact h1
set_option maxRecDepth 100000 in
theorem ld4 (P : Program) (w : World) (b o : Nat) : (loadCellsFrom ⟨b, o, none⟩ 0 4 #[]).run P w = pick2 (isV (w.cell? ⟨b, o + 0, none⟩) && (isV (w.cell? ⟨b, o + 1, none⟩) && (isV (w.cell? ⟨b, o + 2, none⟩) && (isV (w.cell? ⟨b, o + 3, none⟩) && true)))) (.ok #[gv (w.cell? ⟨b, o + 0, none⟩), gv (w.cell? ⟨b, o + 1, none⟩), gv (w.cell? ⟨b, o + 2, none⟩), gv (w.cell? ⟨b, o + 3, none⟩)] w) (slowLd P ⟨b, o, none⟩ 4 w) :=
  ld_list P w b o 4 ((List.range 4).map fun j => w.cell? ⟨b, o + j, none⟩) rfl (fun j hj => by rw [List.getElem?_map, List.getElem?_range hj]; rfl)
set_option maxRecDepth 100000 in
theorem ld5 (P : Program) (w : World) (b o : Nat) : (loadCellsFrom ⟨b, o, none⟩ 0 5 #[]).run P w = pick2 (isV (w.cell? ⟨b, o + 0, none⟩) && (isV (w.cell? ⟨b, o + 1, none⟩) && (isV (w.cell? ⟨b, o + 2, none⟩) && (isV (w.cell? ⟨b, o + 3, none⟩) && (isV (w.cell? ⟨b, o + 4, none⟩) && true))))) (.ok #[gv (w.cell? ⟨b, o + 0, none⟩), gv (w.cell? ⟨b, o + 1, none⟩), gv (w.cell? ⟨b, o + 2, none⟩), gv (w.cell? ⟨b, o + 3, none⟩), gv (w.cell? ⟨b, o + 4, none⟩)] w) (slowLd P ⟨b, o, none⟩ 5 w) :=
  ld_list P w b o 5 ((List.range 5).map fun j => w.cell? ⟨b, o + j, none⟩) rfl (fun j hj => by rw [List.getElem?_map, List.getElem?_range hj]; rfl)
set_option maxRecDepth 100000 in
theorem ld11 (P : Program) (w : World) (b o : Nat) : (loadCellsFrom ⟨b, o, none⟩ 0 11 #[]).run P w = pick2 (isV (w.cell? ⟨b, o + 0, none⟩) && (isV (w.cell? ⟨b, o + 1, none⟩) && (isV (w.cell? ⟨b, o + 2, none⟩) && (isV (w.cell? ⟨b, o + 3, none⟩) && (isV (w.cell? ⟨b, o + 4, none⟩) && (isV (w.cell? ⟨b, o + 5, none⟩) && (isV (w.cell? ⟨b, o + 6, none⟩) && (isV (w.cell? ⟨b, o + 7, none⟩) && (isV (w.cell? ⟨b, o + 8, none⟩) && (isV (w.cell? ⟨b, o + 9, none⟩) && (isV (w.cell? ⟨b, o + 10, none⟩) && true))))))))))) (.ok #[gv (w.cell? ⟨b, o + 0, none⟩), gv (w.cell? ⟨b, o + 1, none⟩), gv (w.cell? ⟨b, o + 2, none⟩), gv (w.cell? ⟨b, o + 3, none⟩), gv (w.cell? ⟨b, o + 4, none⟩), gv (w.cell? ⟨b, o + 5, none⟩), gv (w.cell? ⟨b, o + 6, none⟩), gv (w.cell? ⟨b, o + 7, none⟩), gv (w.cell? ⟨b, o + 8, none⟩), gv (w.cell? ⟨b, o + 9, none⟩), gv (w.cell? ⟨b, o + 10, none⟩)] w) (slowLd P ⟨b, o, none⟩ 11 w) :=
  ld_list P w b o 11 ((List.range 11).map fun j => w.cell? ⟨b, o + j, none⟩) rfl (fun j hj => by rw [List.getElem?_map, List.getElem?_range hj]; rfl)
set_option maxRecDepth 100000 in
theorem ld12 (P : Program) (w : World) (b o : Nat) : (loadCellsFrom ⟨b, o, none⟩ 0 12 #[]).run P w = pick2 (isV (w.cell? ⟨b, o + 0, none⟩) && (isV (w.cell? ⟨b, o + 1, none⟩) && (isV (w.cell? ⟨b, o + 2, none⟩) && (isV (w.cell? ⟨b, o + 3, none⟩) && (isV (w.cell? ⟨b, o + 4, none⟩) && (isV (w.cell? ⟨b, o + 5, none⟩) && (isV (w.cell? ⟨b, o + 6, none⟩) && (isV (w.cell? ⟨b, o + 7, none⟩) && (isV (w.cell? ⟨b, o + 8, none⟩) && (isV (w.cell? ⟨b, o + 9, none⟩) && (isV (w.cell? ⟨b, o + 10, none⟩) && (isV (w.cell? ⟨b, o + 11, none⟩) && true)))))))))))) (.ok #[gv (w.cell? ⟨b, o + 0, none⟩), gv (w.cell? ⟨b, o + 1, none⟩), gv (w.cell? ⟨b, o + 2, none⟩), gv (w.cell? ⟨b, o + 3, none⟩), gv (w.cell? ⟨b, o + 4, none⟩), gv (w.cell? ⟨b, o + 5, none⟩), gv (w.cell? ⟨b, o + 6, none⟩), gv (w.cell? ⟨b, o + 7, none⟩), gv (w.cell? ⟨b, o + 8, none⟩), gv (w.cell? ⟨b, o + 9, none⟩), gv (w.cell? ⟨b, o + 10, none⟩), gv (w.cell? ⟨b, o + 11, none⟩)] w) (slowLd P ⟨b, o, none⟩ 12 w) :=
  ld_list P w b o 12 ((List.range 12).map fun j => w.cell? ⟨b, o + j, none⟩) rfl (fun j hj => by rw [List.getElem?_map, List.getElem?_range hj]; rfl)
set_option maxRecDepth 100000 in
theorem ld16 (P : Program) (w : World) (b o : Nat) : (loadCellsFrom ⟨b, o, none⟩ 0 16 #[]).run P w = pick2 (isV (w.cell? ⟨b, o + 0, none⟩) && (isV (w.cell? ⟨b, o + 1, none⟩) && (isV (w.cell? ⟨b, o + 2, none⟩) && (isV (w.cell? ⟨b, o + 3, none⟩) && (isV (w.cell? ⟨b, o + 4, none⟩) && (isV (w.cell? ⟨b, o + 5, none⟩) && (isV (w.cell? ⟨b, o + 6, none⟩) && (isV (w.cell? ⟨b, o + 7, none⟩) && (isV (w.cell? ⟨b, o + 8, none⟩) && (isV (w.cell? ⟨b, o + 9, none⟩) && (isV (w.cell? ⟨b, o + 10, none⟩) && (isV (w.cell? ⟨b, o + 11, none⟩) && (isV (w.cell? ⟨b, o + 12, none⟩) && (isV (w.cell? ⟨b, o + 13, none⟩) && (isV (w.cell? ⟨b, o + 14, none⟩) && (isV (w.cell? ⟨b, o + 15, none⟩) && true)))))))))))))))) (.ok #[gv (w.cell? ⟨b, o + 0, none⟩), gv (w.cell? ⟨b, o + 1, none⟩), gv (w.cell? ⟨b, o + 2, none⟩), gv (w.cell? ⟨b, o + 3, none⟩), gv (w.cell? ⟨b, o + 4, none⟩), gv (w.cell? ⟨b, o + 5, none⟩), gv (w.cell? ⟨b, o + 6, none⟩), gv (w.cell? ⟨b, o + 7, none⟩), gv (w.cell? ⟨b, o + 8, none⟩), gv (w.cell? ⟨b, o + 9, none⟩), gv (w.cell? ⟨b, o + 10, none⟩), gv (w.cell? ⟨b, o + 11, none⟩), gv (w.cell? ⟨b, o + 12, none⟩), gv (w.cell? ⟨b, o + 13, none⟩), gv (w.cell? ⟨b, o + 14, none⟩), gv (w.cell? ⟨b, o + 15, none⟩)] w) (slowLd P ⟨b, o, none⟩ 16 w) :=
  ld_list P w b o 16 ((List.range 16).map fun j => w.cell? ⟨b, o + j, none⟩) rfl (fun j hj => by rw [List.getElem?_map, List.getElem?_range hj]; rfl)
set_option maxRecDepth 100000 in
theorem ld17 (P : Program) (w : World) (b o : Nat) : (loadCellsFrom ⟨b, o, none⟩ 0 17 #[]).run P w = pick2 (isV (w.cell? ⟨b, o + 0, none⟩) && (isV (w.cell? ⟨b, o + 1, none⟩) && (isV (w.cell? ⟨b, o + 2, none⟩) && (isV (w.cell? ⟨b, o + 3, none⟩) && (isV (w.cell? ⟨b, o + 4, none⟩) && (isV (w.cell? ⟨b, o + 5, none⟩) && (isV (w.cell? ⟨b, o + 6, none⟩) && (isV (w.cell? ⟨b, o + 7, none⟩) && (isV (w.cell? ⟨b, o + 8, none⟩) && (isV (w.cell? ⟨b, o + 9, none⟩) && (isV (w.cell? ⟨b, o + 10, none⟩) && (isV (w.cell? ⟨b, o + 11, none⟩) && (isV (w.cell? ⟨b, o + 12, none⟩) && (isV (w.cell? ⟨b, o + 13, none⟩) && (isV (w.cell? ⟨b, o + 14, none⟩) && (isV (w.cell? ⟨b, o + 15, none⟩) && (isV (w.cell? ⟨b, o + 16, none⟩) && true))))))))))))))))) (.ok #[gv (w.cell? ⟨b, o + 0, none⟩), gv (w.cell? ⟨b, o + 1, none⟩), gv (w.cell? ⟨b, o + 2, none⟩), gv (w.cell? ⟨b, o + 3, none⟩), gv (w.cell? ⟨b, o + 4, none⟩), gv (w.cell? ⟨b, o + 5, none⟩), gv (w.cell? ⟨b, o + 6, none⟩), gv (w.cell? ⟨b, o + 7, none⟩), gv (w.cell? ⟨b, o + 8, none⟩), gv (w.cell? ⟨b, o + 9, none⟩), gv (w.cell? ⟨b, o + 10, none⟩), gv (w.cell? ⟨b, o + 11, none⟩), gv (w.cell? ⟨b, o + 12, none⟩), gv (w.cell? ⟨b, o + 13, none⟩), gv (w.cell? ⟨b, o + 14, none⟩), gv (w.cell? ⟨b, o + 15, none⟩), gv (w.cell? ⟨b, o + 16, none⟩)] w) (slowLd P ⟨b, o, none⟩ 17 w) :=
  ld_list P w b o 17 ((List.range 17).map fun j => w.cell? ⟨b, o + j, none⟩) rfl (fun j hj => by rw [List.getElem?_map, List.getElem?_range hj]; rfl)
set_option maxRecDepth 100000 in
theorem ld18 (P : Program) (w : World) (b o : Nat) : (loadCellsFrom ⟨b, o, none⟩ 0 18 #[]).run P w = pick2 (isV (w.cell? ⟨b, o + 0, none⟩) && (isV (w.cell? ⟨b, o + 1, none⟩) && (isV (w.cell? ⟨b, o + 2, none⟩) && (isV (w.cell? ⟨b, o + 3, none⟩) && (isV (w.cell? ⟨b, o + 4, none⟩) && (isV (w.cell? ⟨b, o + 5, none⟩) && (isV (w.cell? ⟨b, o + 6, none⟩) && (isV (w.cell? ⟨b, o + 7, none⟩) && (isV (w.cell? ⟨b, o + 8, none⟩) && (isV (w.cell? ⟨b, o + 9, none⟩) && (isV (w.cell? ⟨b, o + 10, none⟩) && (isV (w.cell? ⟨b, o + 11, none⟩) && (isV (w.cell? ⟨b, o + 12, none⟩) && (isV (w.cell? ⟨b, o + 13, none⟩) && (isV (w.cell? ⟨b, o + 14, none⟩) && (isV (w.cell? ⟨b, o + 15, none⟩) && (isV (w.cell? ⟨b, o + 16, none⟩) && (isV (w.cell? ⟨b, o + 17, none⟩) && true)))))))))))))))))) (.ok #[gv (w.cell? ⟨b, o + 0, none⟩), gv (w.cell? ⟨b, o + 1, none⟩), gv (w.cell? ⟨b, o + 2, none⟩), gv (w.cell? ⟨b, o + 3, none⟩), gv (w.cell? ⟨b, o + 4, none⟩), gv (w.cell? ⟨b, o + 5, none⟩), gv (w.cell? ⟨b, o + 6, none⟩), gv (w.cell? ⟨b, o + 7, none⟩), gv (w.cell? ⟨b, o + 8, none⟩), gv (w.cell? ⟨b, o + 9, none⟩), gv (w.cell? ⟨b, o + 10, none⟩), gv (w.cell? ⟨b, o + 11, none⟩), gv (w.cell? ⟨b, o + 12, none⟩), gv (w.cell? ⟨b, o + 13, none⟩), gv (w.cell? ⟨b, o + 14, none⟩), gv (w.cell? ⟨b, o + 15, none⟩), gv (w.cell? ⟨b, o + 16, none⟩), gv (w.cell? ⟨b, o + 17, none⟩)] w) (slowLd P ⟨b, o, none⟩ 18 w) :=
  ld_list P w b o 18 ((List.range 18).map fun j => w.cell? ⟨b, o + j, none⟩) rfl (fun j hj => by rw [List.getElem?_map, List.getElem?_range hj]; rfl)
set_option maxRecDepth 100000 in
theorem ld36 (P : Program) (w : World) (b o : Nat) : (loadCellsFrom ⟨b, o, none⟩ 0 36 #[]).run P w = pick2 (isV (w.cell? ⟨b, o + 0, none⟩) && (isV (w.cell? ⟨b, o + 1, none⟩) && (isV (w.cell? ⟨b, o + 2, none⟩) && (isV (w.cell? ⟨b, o + 3, none⟩) && (isV (w.cell? ⟨b, o + 4, none⟩) && (isV (w.cell? ⟨b, o + 5, none⟩) && (isV (w.cell? ⟨b, o + 6, none⟩) && (isV (w.cell? ⟨b, o + 7, none⟩) && (isV (w.cell? ⟨b, o + 8, none⟩) && (isV (w.cell? ⟨b, o + 9, none⟩) && (isV (w.cell? ⟨b, o + 10, none⟩) && (isV (w.cell? ⟨b, o + 11, none⟩) && (isV (w.cell? ⟨b, o + 12, none⟩) && (isV (w.cell? ⟨b, o + 13, none⟩) && (isV (w.cell? ⟨b, o + 14, none⟩) && (isV (w.cell? ⟨b, o + 15, none⟩) && (isV (w.cell? ⟨b, o + 16, none⟩) && (isV (w.cell? ⟨b, o + 17, none⟩) && (isV (w.cell? ⟨b, o + 18, none⟩) && (isV (w.cell? ⟨b, o + 19, none⟩) && (isV (w.cell? ⟨b, o + 20, none⟩) && (isV (w.cell? ⟨b, o + 21, none⟩) && (isV (w.cell? ⟨b, o + 22, none⟩) && (isV (w.cell? ⟨b, o + 23, none⟩) && (isV (w.cell? ⟨b, o + 24, none⟩) && (isV (w.cell? ⟨b, o + 25, none⟩) && (isV (w.cell? ⟨b, o + 26, none⟩) && (isV (w.cell? ⟨b, o + 27, none⟩) && (isV (w.cell? ⟨b, o + 28, none⟩) && (isV (w.cell? ⟨b, o + 29, none⟩) && (isV (w.cell? ⟨b, o + 30, none⟩) && (isV (w.cell? ⟨b, o + 31, none⟩) && (isV (w.cell? ⟨b, o + 32, none⟩) && (isV (w.cell? ⟨b, o + 33, none⟩) && (isV (w.cell? ⟨b, o + 34, none⟩) && (isV (w.cell? ⟨b, o + 35, none⟩) && true)))))))))))))))))))))))))))))))))))) (.ok #[gv (w.cell? ⟨b, o + 0, none⟩), gv (w.cell? ⟨b, o + 1, none⟩), gv (w.cell? ⟨b, o + 2, none⟩), gv (w.cell? ⟨b, o + 3, none⟩), gv (w.cell? ⟨b, o + 4, none⟩), gv (w.cell? ⟨b, o + 5, none⟩), gv (w.cell? ⟨b, o + 6, none⟩), gv (w.cell? ⟨b, o + 7, none⟩), gv (w.cell? ⟨b, o + 8, none⟩), gv (w.cell? ⟨b, o + 9, none⟩), gv (w.cell? ⟨b, o + 10, none⟩), gv (w.cell? ⟨b, o + 11, none⟩), gv (w.cell? ⟨b, o + 12, none⟩), gv (w.cell? ⟨b, o + 13, none⟩), gv (w.cell? ⟨b, o + 14, none⟩), gv (w.cell? ⟨b, o + 15, none⟩), gv (w.cell? ⟨b, o + 16, none⟩), gv (w.cell? ⟨b, o + 17, none⟩), gv (w.cell? ⟨b, o + 18, none⟩), gv (w.cell? ⟨b, o + 19, none⟩), gv (w.cell? ⟨b, o + 20, none⟩), gv (w.cell? ⟨b, o + 21, none⟩), gv (w.cell? ⟨b, o + 22, none⟩), gv (w.cell? ⟨b, o + 23, none⟩), gv (w.cell? ⟨b, o + 24, none⟩), gv (w.cell? ⟨b, o + 25, none⟩), gv (w.cell? ⟨b, o + 26, none⟩), gv (w.cell? ⟨b, o + 27, none⟩), gv (w.cell? ⟨b, o + 28, none⟩), gv (w.cell? ⟨b, o + 29, none⟩), gv (w.cell? ⟨b, o + 30, none⟩), gv (w.cell? ⟨b, o + 31, none⟩), gv (w.cell? ⟨b, o + 32, none⟩), gv (w.cell? ⟨b, o + 33, none⟩), gv (w.cell? ⟨b, o + 34, none⟩), gv (w.cell? ⟨b, o + 35, none⟩)] w) (slowLd P ⟨b, o, none⟩ 36 w) :=
  ld_list P w b o 36 ((List.range 36).map fun j => w.cell? ⟨b, o + j, none⟩) rfl (fun j hj => by rw [List.getElem?_map, List.getElem?_range hj]; rfl)
set_option maxRecDepth 100000 in
theorem ld37 (P : Program) (w : World) (b o : Nat) : (loadCellsFrom ⟨b, o, none⟩ 0 37 #[]).run P w = pick2 (isV (w.cell? ⟨b, o + 0, none⟩) && (isV (w.cell? ⟨b, o + 1, none⟩) && (isV (w.cell? ⟨b, o + 2, none⟩) && (isV (w.cell? ⟨b, o + 3, none⟩) && (isV (w.cell? ⟨b, o + 4, none⟩) && (isV (w.cell? ⟨b, o + 5, none⟩) && (isV (w.cell? ⟨b, o + 6, none⟩) && (isV (w.cell? ⟨b, o + 7, none⟩) && (isV (w.cell? ⟨b, o + 8, none⟩) && (isV (w.cell? ⟨b, o + 9, none⟩) && (isV (w.cell? ⟨b, o + 10, none⟩) && (isV (w.cell? ⟨b, o + 11, none⟩) && (isV (w.cell? ⟨b, o + 12, none⟩) && (isV (w.cell? ⟨b, o + 13, none⟩) && (isV (w.cell? ⟨b, o + 14, none⟩) && (isV (w.cell? ⟨b, o + 15, none⟩) && (isV (w.cell? ⟨b, o + 16, none⟩) && (isV (w.cell? ⟨b, o + 17, none⟩) && (isV (w.cell? ⟨b, o + 18, none⟩) && (isV (w.cell? ⟨b, o + 19, none⟩) && (isV (w.cell? ⟨b, o + 20, none⟩) && (isV (w.cell? ⟨b, o + 21, none⟩) && (isV (w.cell? ⟨b, o + 22, none⟩) && (isV (w.cell? ⟨b, o + 23, none⟩) && (isV (w.cell? ⟨b, o + 24, none⟩) && (isV (w.cell? ⟨b, o + 25, none⟩) && (isV (w.cell? ⟨b, o + 26, none⟩) && (isV (w.cell? ⟨b, o + 27, none⟩) && (isV (w.cell? ⟨b, o + 28, none⟩) && (isV (w.cell? ⟨b, o + 29, none⟩) && (isV (w.cell? ⟨b, o + 30, none⟩) && (isV (w.cell? ⟨b, o + 31, none⟩) && (isV (w.cell? ⟨b, o + 32, none⟩) && (isV (w.cell? ⟨b, o + 33, none⟩) && (isV (w.cell? ⟨b, o + 34, none⟩) && (isV (w.cell? ⟨b, o + 35, none⟩) && (isV (w.cell? ⟨b, o + 36, none⟩) && true))))))))))))))))))))))))))))))))))))) (.ok #[gv (w.cell? ⟨b, o + 0, none⟩), gv (w.cell? ⟨b, o + 1, none⟩), gv (w.cell? ⟨b, o + 2, none⟩), gv (w.cell? ⟨b, o + 3, none⟩), gv (w.cell? ⟨b, o + 4, none⟩), gv (w.cell? ⟨b, o + 5, none⟩), gv (w.cell? ⟨b, o + 6, none⟩), gv (w.cell? ⟨b, o + 7, none⟩), gv (w.cell? ⟨b, o + 8, none⟩), gv (w.cell? ⟨b, o + 9, none⟩), gv (w.cell? ⟨b, o + 10, none⟩), gv (w.cell? ⟨b, o + 11, none⟩), gv (w.cell? ⟨b, o + 12, none⟩), gv (w.cell? ⟨b, o + 13, none⟩), gv (w.cell? ⟨b, o + 14, none⟩), gv (w.cell? ⟨b, o + 15, none⟩), gv (w.cell? ⟨b, o + 16, none⟩), gv (w.cell? ⟨b, o + 17, none⟩), gv (w.cell? ⟨b, o + 18, none⟩), gv (w.cell? ⟨b, o + 19, none⟩), gv (w.cell? ⟨b, o + 20, none⟩), gv (w.cell? ⟨b, o + 21, none⟩), gv (w.cell? ⟨b, o + 22, none⟩), gv (w.cell? ⟨b, o + 23, none⟩), gv (w.cell? ⟨b, o + 24, none⟩), gv (w.cell? ⟨b, o + 25, none⟩), gv (w.cell? ⟨b, o + 26, none⟩), gv (w.cell? ⟨b, o + 27, none⟩), gv (w.cell? ⟨b, o + 28, none⟩), gv (w.cell? ⟨b, o + 29, none⟩), gv (w.cell? ⟨b, o + 30, none⟩), gv (w.cell? ⟨b, o + 31, none⟩), gv (w.cell? ⟨b, o + 32, none⟩), gv (w.cell? ⟨b, o + 33, none⟩), gv (w.cell? ⟨b, o + 34, none⟩), gv (w.cell? ⟨b, o + 35, none⟩), gv (w.cell? ⟨b, o + 36, none⟩)] w) (slowLd P ⟨b, o, none⟩ 37 w) :=
  ld_list P w b o 37 ((List.range 37).map fun j => w.cell? ⟨b, o + j, none⟩) rfl (fun j hj => by rw [List.getElem?_map, List.getElem?_range hj]; rfl)
set_option maxRecDepth 100000 in
theorem ld39 (P : Program) (w : World) (b o : Nat) : (loadCellsFrom ⟨b, o, none⟩ 0 39 #[]).run P w = pick2 (isV (w.cell? ⟨b, o + 0, none⟩) && (isV (w.cell? ⟨b, o + 1, none⟩) && (isV (w.cell? ⟨b, o + 2, none⟩) && (isV (w.cell? ⟨b, o + 3, none⟩) && (isV (w.cell? ⟨b, o + 4, none⟩) && (isV (w.cell? ⟨b, o + 5, none⟩) && (isV (w.cell? ⟨b, o + 6, none⟩) && (isV (w.cell? ⟨b, o + 7, none⟩) && (isV (w.cell? ⟨b, o + 8, none⟩) && (isV (w.cell? ⟨b, o + 9, none⟩) && (isV (w.cell? ⟨b, o + 10, none⟩) && (isV (w.cell? ⟨b, o + 11, none⟩) && (isV (w.cell? ⟨b, o + 12, none⟩) && (isV (w.cell? ⟨b, o + 13, none⟩) && (isV (w.cell? ⟨b, o + 14, none⟩) && (isV (w.cell? ⟨b, o + 15, none⟩) && (isV (w.cell? ⟨b, o + 16, none⟩) && (isV (w.cell? ⟨b, o + 17, none⟩) && (isV (w.cell? ⟨b, o + 18, none⟩) && (isV (w.cell? ⟨b, o + 19, none⟩) && (isV (w.cell? ⟨b, o + 20, none⟩) && (isV (w.cell? ⟨b, o + 21, none⟩) && (isV (w.cell? ⟨b, o + 22, none⟩) && (isV (w.cell? ⟨b, o + 23, none⟩) && (isV (w.cell? ⟨b, o + 24, none⟩) && (isV (w.cell? ⟨b, o + 25, none⟩) && (isV (w.cell? ⟨b, o + 26, none⟩) && (isV (w.cell? ⟨b, o + 27, none⟩) && (isV (w.cell? ⟨b, o + 28, none⟩) && (isV (w.cell? ⟨b, o + 29, none⟩) && (isV (w.cell? ⟨b, o + 30, none⟩) && (isV (w.cell? ⟨b, o + 31, none⟩) && (isV (w.cell? ⟨b, o + 32, none⟩) && (isV (w.cell? ⟨b, o + 33, none⟩) && (isV (w.cell? ⟨b, o + 34, none⟩) && (isV (w.cell? ⟨b, o + 35, none⟩) && (isV (w.cell? ⟨b, o + 36, none⟩) && (isV (w.cell? ⟨b, o + 37, none⟩) && (isV (w.cell? ⟨b, o + 38, none⟩) && true))))))))))))))))))))))))))))))))))))))) (.ok #[gv (w.cell? ⟨b, o + 0, none⟩), gv (w.cell? ⟨b, o + 1, none⟩), gv (w.cell? ⟨b, o + 2, none⟩), gv (w.cell? ⟨b, o + 3, none⟩), gv (w.cell? ⟨b, o + 4, none⟩), gv (w.cell? ⟨b, o + 5, none⟩), gv (w.cell? ⟨b, o + 6, none⟩), gv (w.cell? ⟨b, o + 7, none⟩), gv (w.cell? ⟨b, o + 8, none⟩), gv (w.cell? ⟨b, o + 9, none⟩), gv (w.cell? ⟨b, o + 10, none⟩), gv (w.cell? ⟨b, o + 11, none⟩), gv (w.cell? ⟨b, o + 12, none⟩), gv (w.cell? ⟨b, o + 13, none⟩), gv (w.cell? ⟨b, o + 14, none⟩), gv (w.cell? ⟨b, o + 15, none⟩), gv (w.cell? ⟨b, o + 16, none⟩), gv (w.cell? ⟨b, o + 17, none⟩), gv (w.cell? ⟨b, o + 18, none⟩), gv (w.cell? ⟨b, o + 19, none⟩), gv (w.cell? ⟨b, o + 20, none⟩), gv (w.cell? ⟨b, o + 21, none⟩), gv (w.cell? ⟨b, o + 22, none⟩), gv (w.cell? ⟨b, o + 23, none⟩), gv (w.cell? ⟨b, o + 24, none⟩), gv (w.cell? ⟨b, o + 25, none⟩), gv (w.cell? ⟨b, o + 26, none⟩), gv (w.cell? ⟨b, o + 27, none⟩), gv (w.cell? ⟨b, o + 28, none⟩), gv (w.cell? ⟨b, o + 29, none⟩), gv (w.cell? ⟨b, o + 30, none⟩), gv (w.cell? ⟨b, o + 31, none⟩), gv (w.cell? ⟨b, o + 32, none⟩), gv (w.cell? ⟨b, o + 33, none⟩), gv (w.cell? ⟨b, o + 34, none⟩), gv (w.cell? ⟨b, o + 35, none⟩), gv (w.cell? ⟨b, o + 36, none⟩), gv (w.cell? ⟨b, o + 37, none⟩), gv (w.cell? ⟨b, o + 38, none⟩)] w) (slowLd P ⟨b, o, none⟩ 39 w) :=
  ld_list P w b o 39 ((List.range 39).map fun j => w.cell? ⟨b, o + j, none⟩) rfl (fun j hj => by rw [List.getElem?_map, List.getElem?_range hj]; rfl)
set_option maxRecDepth 100000 in
theorem ld40 (P : Program) (w : World) (b o : Nat) : (loadCellsFrom ⟨b, o, none⟩ 0 40 #[]).run P w = pick2 (isV (w.cell? ⟨b, o + 0, none⟩) && (isV (w.cell? ⟨b, o + 1, none⟩) && (isV (w.cell? ⟨b, o + 2, none⟩) && (isV (w.cell? ⟨b, o + 3, none⟩) && (isV (w.cell? ⟨b, o + 4, none⟩) && (isV (w.cell? ⟨b, o + 5, none⟩) && (isV (w.cell? ⟨b, o + 6, none⟩) && (isV (w.cell? ⟨b, o + 7, none⟩) && (isV (w.cell? ⟨b, o + 8, none⟩) && (isV (w.cell? ⟨b, o + 9, none⟩) && (isV (w.cell? ⟨b, o + 10, none⟩) && (isV (w.cell? ⟨b, o + 11, none⟩) && (isV (w.cell? ⟨b, o + 12, none⟩) && (isV (w.cell? ⟨b, o + 13, none⟩) && (isV (w.cell? ⟨b, o + 14, none⟩) && (isV (w.cell? ⟨b, o + 15, none⟩) && (isV (w.cell? ⟨b, o + 16, none⟩) && (isV (w.cell? ⟨b, o + 17, none⟩) && (isV (w.cell? ⟨b, o + 18, none⟩) && (isV (w.cell? ⟨b, o + 19, none⟩) && (isV (w.cell? ⟨b, o + 20, none⟩) && (isV (w.cell? ⟨b, o + 21, none⟩) && (isV (w.cell? ⟨b, o + 22, none⟩) && (isV (w.cell? ⟨b, o + 23, none⟩) && (isV (w.cell? ⟨b, o + 24, none⟩) && (isV (w.cell? ⟨b, o + 25, none⟩) && (isV (w.cell? ⟨b, o + 26, none⟩) && (isV (w.cell? ⟨b, o + 27, none⟩) && (isV (w.cell? ⟨b, o + 28, none⟩) && (isV (w.cell? ⟨b, o + 29, none⟩) && (isV (w.cell? ⟨b, o + 30, none⟩) && (isV (w.cell? ⟨b, o + 31, none⟩) && (isV (w.cell? ⟨b, o + 32, none⟩) && (isV (w.cell? ⟨b, o + 33, none⟩) && (isV (w.cell? ⟨b, o + 34, none⟩) && (isV (w.cell? ⟨b, o + 35, none⟩) && (isV (w.cell? ⟨b, o + 36, none⟩) && (isV (w.cell? ⟨b, o + 37, none⟩) && (isV (w.cell? ⟨b, o + 38, none⟩) && (isV (w.cell? ⟨b, o + 39, none⟩) && true)))))))))))))))))))))))))))))))))))))))) (.ok #[gv (w.cell? ⟨b, o + 0, none⟩), gv (w.cell? ⟨b, o + 1, none⟩), gv (w.cell? ⟨b, o + 2, none⟩), gv (w.cell? ⟨b, o + 3, none⟩), gv (w.cell? ⟨b, o + 4, none⟩), gv (w.cell? ⟨b, o + 5, none⟩), gv (w.cell? ⟨b, o + 6, none⟩), gv (w.cell? ⟨b, o + 7, none⟩), gv (w.cell? ⟨b, o + 8, none⟩), gv (w.cell? ⟨b, o + 9, none⟩), gv (w.cell? ⟨b, o + 10, none⟩), gv (w.cell? ⟨b, o + 11, none⟩), gv (w.cell? ⟨b, o + 12, none⟩), gv (w.cell? ⟨b, o + 13, none⟩), gv (w.cell? ⟨b, o + 14, none⟩), gv (w.cell? ⟨b, o + 15, none⟩), gv (w.cell? ⟨b, o + 16, none⟩), gv (w.cell? ⟨b, o + 17, none⟩), gv (w.cell? ⟨b, o + 18, none⟩), gv (w.cell? ⟨b, o + 19, none⟩), gv (w.cell? ⟨b, o + 20, none⟩), gv (w.cell? ⟨b, o + 21, none⟩), gv (w.cell? ⟨b, o + 22, none⟩), gv (w.cell? ⟨b, o + 23, none⟩), gv (w.cell? ⟨b, o + 24, none⟩), gv (w.cell? ⟨b, o + 25, none⟩), gv (w.cell? ⟨b, o + 26, none⟩), gv (w.cell? ⟨b, o + 27, none⟩), gv (w.cell? ⟨b, o + 28, none⟩), gv (w.cell? ⟨b, o + 29, none⟩), gv (w.cell? ⟨b, o + 30, none⟩), gv (w.cell? ⟨b, o + 31, none⟩), gv (w.cell? ⟨b, o + 32, none⟩), gv (w.cell? ⟨b, o + 33, none⟩), gv (w.cell? ⟨b, o + 34, none⟩), gv (w.cell? ⟨b, o + 35, none⟩), gv (w.cell? ⟨b, o + 36, none⟩), gv (w.cell? ⟨b, o + 37, none⟩), gv (w.cell? ⟨b, o + 38, none⟩), gv (w.cell? ⟨b, o + 39, none⟩)] w) (slowLd P ⟨b, o, none⟩ 40 w) :=
  ld_list P w b o 40 ((List.range 40).map fun j => w.cell? ⟨b, o + j, none⟩) rfl (fun j hj => by rw [List.getElem?_map, List.getElem?_range hj]; rfl)
set_option maxRecDepth 100000 in
theorem ld42 (P : Program) (w : World) (b o : Nat) : (loadCellsFrom ⟨b, o, none⟩ 0 42 #[]).run P w = pick2 (isV (w.cell? ⟨b, o + 0, none⟩) && (isV (w.cell? ⟨b, o + 1, none⟩) && (isV (w.cell? ⟨b, o + 2, none⟩) && (isV (w.cell? ⟨b, o + 3, none⟩) && (isV (w.cell? ⟨b, o + 4, none⟩) && (isV (w.cell? ⟨b, o + 5, none⟩) && (isV (w.cell? ⟨b, o + 6, none⟩) && (isV (w.cell? ⟨b, o + 7, none⟩) && (isV (w.cell? ⟨b, o + 8, none⟩) && (isV (w.cell? ⟨b, o + 9, none⟩) && (isV (w.cell? ⟨b, o + 10, none⟩) && (isV (w.cell? ⟨b, o + 11, none⟩) && (isV (w.cell? ⟨b, o + 12, none⟩) && (isV (w.cell? ⟨b, o + 13, none⟩) && (isV (w.cell? ⟨b, o + 14, none⟩) && (isV (w.cell? ⟨b, o + 15, none⟩) && (isV (w.cell? ⟨b, o + 16, none⟩) && (isV (w.cell? ⟨b, o + 17, none⟩) && (isV (w.cell? ⟨b, o + 18, none⟩) && (isV (w.cell? ⟨b, o + 19, none⟩) && (isV (w.cell? ⟨b, o + 20, none⟩) && (isV (w.cell? ⟨b, o + 21, none⟩) && (isV (w.cell? ⟨b, o + 22, none⟩) && (isV (w.cell? ⟨b, o + 23, none⟩) && (isV (w.cell? ⟨b, o + 24, none⟩) && (isV (w.cell? ⟨b, o + 25, none⟩) && (isV (w.cell? ⟨b, o + 26, none⟩) && (isV (w.cell? ⟨b, o + 27, none⟩) && (isV (w.cell? ⟨b, o + 28, none⟩) && (isV (w.cell? ⟨b, o + 29, none⟩) && (isV (w.cell? ⟨b, o + 30, none⟩) && (isV (w.cell? ⟨b, o + 31, none⟩) && (isV (w.cell? ⟨b, o + 32, none⟩) && (isV (w.cell? ⟨b, o + 33, none⟩) && (isV (w.cell? ⟨b, o + 34, none⟩) && (isV (w.cell? ⟨b, o + 35, none⟩) && (isV (w.cell? ⟨b, o + 36, none⟩) && (isV (w.cell? ⟨b, o + 37, none⟩) && (isV (w.cell? ⟨b, o + 38, none⟩) && (isV (w.cell? ⟨b, o + 39, none⟩) && (isV (w.cell? ⟨b, o + 40, none⟩) && (isV (w.cell? ⟨b, o + 41, none⟩) && true)))))))))))))))))))))))))))))))))))))))))) (.ok #[gv (w.cell? ⟨b, o + 0, none⟩), gv (w.cell? ⟨b, o + 1, none⟩), gv (w.cell? ⟨b, o + 2, none⟩), gv (w.cell? ⟨b, o + 3, none⟩), gv (w.cell? ⟨b, o + 4, none⟩), gv (w.cell? ⟨b, o + 5, none⟩), gv (w.cell? ⟨b, o + 6, none⟩), gv (w.cell? ⟨b, o + 7, none⟩), gv (w.cell? ⟨b, o + 8, none⟩), gv (w.cell? ⟨b, o + 9, none⟩), gv (w.cell? ⟨b, o + 10, none⟩), gv (w.cell? ⟨b, o + 11, none⟩), gv (w.cell? ⟨b, o + 12, none⟩), gv (w.cell? ⟨b, o + 13, none⟩), gv (w.cell? ⟨b, o + 14, none⟩), gv (w.cell? ⟨b, o + 15, none⟩), gv (w.cell? ⟨b, o + 16, none⟩), gv (w.cell? ⟨b, o + 17, none⟩), gv (w.cell? ⟨b, o + 18, none⟩), gv (w.cell? ⟨b, o + 19, none⟩), gv (w.cell? ⟨b, o + 20, none⟩), gv (w.cell? ⟨b, o + 21, none⟩), gv (w.cell? ⟨b, o + 22, none⟩), gv (w.cell? ⟨b, o + 23, none⟩), gv (w.cell? ⟨b, o + 24, none⟩), gv (w.cell? ⟨b, o + 25, none⟩), gv (w.cell? ⟨b, o + 26, none⟩), gv (w.cell? ⟨b, o + 27, none⟩), gv (w.cell? ⟨b, o + 28, none⟩), gv (w.cell? ⟨b, o + 29, none⟩), gv (w.cell? ⟨b, o + 30, none⟩), gv (w.cell? ⟨b, o + 31, none⟩), gv (w.cell? ⟨b, o + 32, none⟩), gv (w.cell? ⟨b, o + 33, none⟩), gv (w.cell? ⟨b, o + 34, none⟩), gv (w.cell? ⟨b, o + 35, none⟩), gv (w.cell? ⟨b, o + 36, none⟩), gv (w.cell? ⟨b, o + 37, none⟩), gv (w.cell? ⟨b, o + 38, none⟩), gv (w.cell? ⟨b, o + 39, none⟩), gv (w.cell? ⟨b, o + 40, none⟩), gv (w.cell? ⟨b, o + 41, none⟩)] w) (slowLd P ⟨b, o, none⟩ 42 w) :=
  ld_list P w b o 42 ((List.range 42).map fun j => w.cell? ⟨b, o + j, none⟩) rfl (fun j hj => by rw [List.getElem?_map, List.getElem?_range hj]; rfl)

/-! stores -/
def nfz (b : Bool) : Bool := !b
theorem nfz_false : nfz false = true := rfl
def oc1 (v : Value) : Bool := v.oneCell'
theorem oc1_int (k : IntKind) (n : Int) : oc1 (.int k n) = true := rfl
theorem oc1_bool (b : Bool) : oc1 (.bool b) = true := rfl
theorem oc1_string (s : ByteArray) : oc1 (.string s) = true := rfl
theorem oc1_slice (A : Option Addr) (n c : Nat) : oc1 (.slice A n c) = true := rfl
theorem oc1_pointer (A : Option Addr) : oc1 (.pointer A) = true := rfl
theorem oc1_func (f : Fn) (a b : Array Value) : oc1 (.func f a b) = true := rfl
noncomputable def slowSt (P : Program) (a : Addr) (vs : List Value) (w : World) : Result Unit := (storeCells a vs 0).run P w
def pick1 (b : Bool) (x y : Result Unit) : Result Unit := cond b x y
theorem pick1_true (x y : Result Unit) : pick1 true x y = x := rfl
theorem st_list (P : Program) (w : World) (b o : Nat) (vs : List Value) (cs : List Bool) (hn : cs.length = vs.length)
    (hv : ∀ j (h : j < vs.length), cs[j]? = some true → (w.cell? ⟨b, o + j, none⟩).isSome = true ∧ w.frozen? ⟨b, o + j, none⟩ = false ∧ vs[j].oneCell' = true) :
    (storeCells ⟨b, o, none⟩ vs 0).run P w = pick1 (cs.all id) (.ok () (w.setCells b o vs)) (slowSt P ⟨b, o, none⟩ vs w) := by
  cases h : cs.all id with
  | false => rfl
  | true =>
    have hk : ∀ j (h : j < vs.length), (w.cell? ⟨b, o + j, none⟩).isSome = true ∧ w.frozen? ⟨b, o + j, none⟩ = false ∧ vs[j].oneCell' = true := fun j hj => by
      refine hv j hj ?_
      have hj' : j < cs.length := by omega
      rw [List.getElem?_eq_getElem hj']
      have := List.all_eq_true.1 h cs[j] (List.getElem_mem _)
      simpa using this
    have h1 := run_storeCells_cells (P := P) b o vs 0 w (fun j hj => (hk j hj).1) (fun j hj => (hk j hj).2.1) (fun v hv => by
      obtain ⟨j, hj, rfl⟩ := List.mem_iff_getElem.1 hv
      exact (hk j hj).2.2)
    rw [Nat.add_zero] at h1
    exact h1
theorem and3 {a b c : Bool} (h : (a && (b && c)) = true) : a = true ∧ b = true ∧ c = true := by cases a <;> cases b <;> cases c <;> simp_all
/-- one cell's part of the condition -/
def stc (w : World) (b o : Nat) (v : Value) : Bool := isV (w.cell? ⟨b, o, none⟩) && (nfz (w.frozen? ⟨b, o, none⟩) && oc1 v)
theorem stc_spec {w : World} {b o : Nat} {v : Value} (h : stc w b o v = true) : (w.cell? ⟨b, o, none⟩).isSome = true ∧ w.frozen? ⟨b, o, none⟩ = false ∧ v.oneCell' = true := by
  obtain ⟨h1, h2, h3⟩ := and3 h
  exact ⟨h1, by cases hf : w.frozen? ⟨b, o, none⟩ <;> simp_all [nfz], h3⟩
def stcs (w : World) (b : Nat) : Nat → List Value → List Bool
  | _, [] => []
  | o, v :: r => stc w b o v :: stcs w b (o + 1) r
theorem stcs_length (w : World) (b : Nat) : ∀ (vs : List Value) (o : Nat), (stcs w b o vs).length = vs.length
  | [], _ => rfl
  | v :: r, o => by simp [stcs, stcs_length w b r]
theorem stcs_get (w : World) (b : Nat) : ∀ (vs : List Value) (o j : Nat) (h : j < vs.length), (stcs w b o vs)[j]? = some (stc w b (o + j) vs[j])
  | v :: r, o, 0, h => rfl
  | v :: r, o, j + 1, h => by
    have := stcs_get w b r (o + 1) j (by simpa using h)
    simp only [stcs, List.getElem?_cons_succ, this, List.getElem_cons_succ]
    rw [show o + 1 + j = o + (j + 1) by omega]
theorem st_all (P : Program) (w : World) (b o : Nat) (vs : List Value) : (storeCells ⟨b, o, none⟩ vs 0).run P w = pick1 ((stcs w b o vs).all id) (.ok () (w.setCells b o vs)) (slowSt P ⟨b, o, none⟩ vs w) :=
  st_list P w b o vs (stcs w b o vs) (stcs_length w b vs o) (fun j h hj => by
    rw [stcs_get w b vs o j h] at hj
    exact stc_spec (Option.some.inj hj))
theorem setCells_new {w : World} {c : Array Value} {t n : Nat} {vs : List Value} (hn : n = w.heap.size) (hc : c.size = vs.length) : (w.alloc (.cells c t)).setCells n 0 vs = w.alloc (.cells vs.toArray t) := by
  subst hn
  have key : ∀ (vs : List Value) (o : Nat) (c : Array Value), o + vs.length = c.size → (w.alloc (.cells c t)).setCells w.heap.size o vs = w.alloc (.cells ((c.toList.take o) ++ vs).toArray t) := by
    intro vs
    induction vs with
    | nil =>
      intro o c h
      have e : (List.take o c.toList ++ []).toArray = c := by
        rw [List.append_nil, List.take_of_length_le (by simp at h ⊢; omega)]
      rw [e]
      rfl
    | cons v r ih =>
      intro o c h
      simp only [List.length_cons] at h
      simp only [World.setCells]
      rw [World.setCell_alloc_at c t w.heap.size o v rfl, ih (o + 1) _ (by rw [Array.size_setIfInBounds]; omega)]
      have : o < c.size := by omega
      rw [Array.toList_setIfInBounds, List.take_add_one, List.take_set_of_le (by omega)]
      simp [List.getElem?_set, this]
  have h := key vs 0 c (by omega)
  simpa using h
theorem setCells_past {w : World} {ob : Obj} {n i : Nat} {vs : List Value} (hn : n < w.heap.size) : (w.alloc ob).setCells n i vs = (w.setCells n i vs).alloc ob := by
  induction vs generalizing i w with
  | nil => rfl
  | cons v r ih =>
    simp only [World.setCells]
    rw [World.setCell_alloc_past ob n i v hn]
    exact ih (w := w.setCell ⟨n, i, none⟩ v) (by simpa using hn)
theorem setCells_drew {w : World} {n i : Nat} {vs : List Value} : w.drew.setCells n i vs = (w.setCells n i vs).drew := by
  induction vs generalizing i w with
  | nil => rfl
  | cons v r ih =>
    simp only [World.setCells]
    rw [← ih]
    rfl
theorem heap_setCells_other {w : World} {n i k : Nat} {vs : List Value} (hk : k ≠ n) : (w.setCells n i vs).heap[k]? = w.heap[k]? := by
  induction vs generalizing i w with
  | nil => rfl
  | cons v r ih => simp only [World.setCells]; rw [ih, Below.heap_setCell _ _ _ k hk]
theorem size_setCells {w : World} {n i : Nat} {vs : List Value} : (w.setCells n i vs).heap.size = w.heap.size := by
  induction vs generalizing i w with
  | nil => rfl
  | cons v r ih => simp only [World.setCells]; rw [ih]; simp
theorem below_setCells {w w1 : World} {B n i : Nat} {vs : List Value} (h : Below B w w1) (hB : B ≤ n) : Below B w (w1.setCells n i vs) := by
  induction vs generalizing i w1 with
  | nil => exact h
  | cons v r ih => exact ih (h.setCell (p := ⟨n, i, none⟩) hB _)
theorem blk_setCells {w : World} {b t : Nat} {cs : Array Value} {vs : List Value} (hb : w.heap[b]? = some (.cells cs t (0, 0))) (hc : cs.size = vs.length) : (w.setCells b 0 vs).heap[b]? = some (.cells vs.toArray t (0, 0)) := by
  have key : ∀ (vs : List Value) (o : Nat) (w : World) (c : Array Value), w.heap[b]? = some (.cells c t (0, 0)) → o + vs.length = c.size → (w.setCells b o vs).heap[b]? = some (.cells ((c.toList.take o) ++ vs).toArray t (0, 0)) := by
    intro vs
    induction vs with
    | nil =>
      intro o w c h hs
      have e : (List.take o c.toList ++ []).toArray = c := by
        rw [List.append_nil, List.take_of_length_le (by simp at hs ⊢; omega)]
      rw [e]
      exact h
    | cons v r ih =>
      intro o w c h hs
      simp only [List.length_cons] at hs
      simp only [World.setCells]
      rw [ih (o + 1) _ _ (blk_set h o v) (by rw [Array.size_setIfInBounds]; omega)]
      have : o < c.size := by omega
      rw [Array.toList_setIfInBounds, List.take_add_one, List.take_set_of_le (by omega)]
      simp [List.getElem?_set, this]
  have h := key vs 0 w cs hb (by omega)
  simpa using h
set_option maxRecDepth 100000 in
theorem st4 (P : Program) (w : World) (b o : Nat) (v0 v1 v2 v3 : Value) : (storeCells ⟨b, o, none⟩ [v0, v1, v2, v3] 0).run P w = pick1 (stc w b (o + 0) v0 && (stc w b (o + 1) v1 && (stc w b (o + 2) v2 && (stc w b (o + 3) v3 && true)))) (.ok () (w.setCells b o [v0, v1, v2, v3])) (slowSt P ⟨b, o, none⟩ [v0, v1, v2, v3] w) :=
  st_all P w b o [v0, v1, v2, v3]
set_option maxRecDepth 100000 in
theorem st5 (P : Program) (w : World) (b o : Nat) (v0 v1 v2 v3 v4 : Value) : (storeCells ⟨b, o, none⟩ [v0, v1, v2, v3, v4] 0).run P w = pick1 (stc w b (o + 0) v0 && (stc w b (o + 1) v1 && (stc w b (o + 2) v2 && (stc w b (o + 3) v3 && (stc w b (o + 4) v4 && true))))) (.ok () (w.setCells b o [v0, v1, v2, v3, v4])) (slowSt P ⟨b, o, none⟩ [v0, v1, v2, v3, v4] w) :=
  st_all P w b o [v0, v1, v2, v3, v4]
set_option maxRecDepth 100000 in
theorem st11 (P : Program) (w : World) (b o : Nat) (v0 v1 v2 v3 v4 v5 v6 v7 v8 v9 v10 : Value) : (storeCells ⟨b, o, none⟩ [v0, v1, v2, v3, v4, v5, v6, v7, v8, v9, v10] 0).run P w = pick1 (stc w b (o + 0) v0 && (stc w b (o + 1) v1 && (stc w b (o + 2) v2 && (stc w b (o + 3) v3 && (stc w b (o + 4) v4 && (stc w b (o + 5) v5 && (stc w b (o + 6) v6 && (stc w b (o + 7) v7 && (stc w b (o + 8) v8 && (stc w b (o + 9) v9 && (stc w b (o + 10) v10 && true))))))))))) (.ok () (w.setCells b o [v0, v1, v2, v3, v4, v5, v6, v7, v8, v9, v10])) (slowSt P ⟨b, o, none⟩ [v0, v1, v2, v3, v4, v5, v6, v7, v8, v9, v10] w) :=
  st_all P w b o [v0, v1, v2, v3, v4, v5, v6, v7, v8, v9, v10]
set_option maxRecDepth 100000 in
theorem st12 (P : Program) (w : World) (b o : Nat) (v0 v1 v2 v3 v4 v5 v6 v7 v8 v9 v10 v11 : Value) : (storeCells ⟨b, o, none⟩ [v0, v1, v2, v3, v4, v5, v6, v7, v8, v9, v10, v11] 0).run P w = pick1 (stc w b (o + 0) v0 && (stc w b (o + 1) v1 && (stc w b (o + 2) v2 && (stc w b (o + 3) v3 && (stc w b (o + 4) v4 && (stc w b (o + 5) v5 && (stc w b (o + 6) v6 && (stc w b (o + 7) v7 && (stc w b (o + 8) v8 && (stc w b (o + 9) v9 && (stc w b (o + 10) v10 && (stc w b (o + 11) v11 && true)))))))))))) (.ok () (w.setCells b o [v0, v1, v2, v3, v4, v5, v6, v7, v8, v9, v10, v11])) (slowSt P ⟨b, o, none⟩ [v0, v1, v2, v3, v4, v5, v6, v7, v8, v9, v10, v11] w) :=
  st_all P w b o [v0, v1, v2, v3, v4, v5, v6, v7, v8, v9, v10, v11]
set_option maxRecDepth 100000 in
theorem st16 (P : Program) (w : World) (b o : Nat) (v0 v1 v2 v3 v4 v5 v6 v7 v8 v9 v10 v11 v12 v13 v14 v15 : Value) : (storeCells ⟨b, o, none⟩ [v0, v1, v2, v3, v4, v5, v6, v7, v8, v9, v10, v11, v12, v13, v14, v15] 0).run P w = pick1 (stc w b (o + 0) v0 && (stc w b (o + 1) v1 && (stc w b (o + 2) v2 && (stc w b (o + 3) v3 && (stc w b (o + 4) v4 && (stc w b (o + 5) v5 && (stc w b (o + 6) v6 && (stc w b (o + 7) v7 && (stc w b (o + 8) v8 && (stc w b (o + 9) v9 && (stc w b (o + 10) v10 && (stc w b (o + 11) v11 && (stc w b (o + 12) v12 && (stc w b (o + 13) v13 && (stc w b (o + 14) v14 && (stc w b (o + 15) v15 && true)))))))))))))))) (.ok () (w.setCells b o [v0, v1, v2, v3, v4, v5, v6, v7, v8, v9, v10, v11, v12, v13, v14, v15])) (slowSt P ⟨b, o, none⟩ [v0, v1, v2, v3, v4, v5, v6, v7, v8, v9, v10, v11, v12, v13, v14, v15] w) :=
  st_all P w b o [v0, v1, v2, v3, v4, v5, v6, v7, v8, v9, v10, v11, v12, v13, v14, v15]
set_option maxRecDepth 100000 in
theorem st17 (P : Program) (w : World) (b o : Nat) (v0 v1 v2 v3 v4 v5 v6 v7 v8 v9 v10 v11 v12 v13 v14 v15 v16 : Value) : (storeCells ⟨b, o, none⟩ [v0, v1, v2, v3, v4, v5, v6, v7, v8, v9, v10, v11, v12, v13, v14, v15, v16] 0).run P w = pick1 (stc w b (o + 0) v0 && (stc w b (o + 1) v1 && (stc w b (o + 2) v2 && (stc w b (o + 3) v3 && (stc w b (o + 4) v4 && (stc w b (o + 5) v5 && (stc w b (o + 6) v6 && (stc w b (o + 7) v7 && (stc w b (o + 8) v8 && (stc w b (o + 9) v9 && (stc w b (o + 10) v10 && (stc w b (o + 11) v11 && (stc w b (o + 12) v12 && (stc w b (o + 13) v13 && (stc w b (o + 14) v14 && (stc w b (o + 15) v15 && (stc w b (o + 16) v16 && true))))))))))))))))) (.ok () (w.setCells b o [v0, v1, v2, v3, v4, v5, v6, v7, v8, v9, v10, v11, v12, v13, v14, v15, v16])) (slowSt P ⟨b, o, none⟩ [v0, v1, v2, v3, v4, v5, v6, v7, v8, v9, v10, v11, v12, v13, v14, v15, v16] w) :=
  st_all P w b o [v0, v1, v2, v3, v4, v5, v6, v7, v8, v9, v10, v11, v12, v13, v14, v15, v16]
set_option maxRecDepth 100000 in
theorem st18 (P : Program) (w : World) (b o : Nat) (v0 v1 v2 v3 v4 v5 v6 v7 v8 v9 v10 v11 v12 v13 v14 v15 v16 v17 : Value) : (storeCells ⟨b, o, none⟩ [v0, v1, v2, v3, v4, v5, v6, v7, v8, v9, v10, v11, v12, v13, v14, v15, v16, v17] 0).run P w = pick1 (stc w b (o + 0) v0 && (stc w b (o + 1) v1 && (stc w b (o + 2) v2 && (stc w b (o + 3) v3 && (stc w b (o + 4) v4 && (stc w b (o + 5) v5 && (stc w b (o + 6) v6 && (stc w b (o + 7) v7 && (stc w b (o + 8) v8 && (stc w b (o + 9) v9 && (stc w b (o + 10) v10 && (stc w b (o + 11) v11 && (stc w b (o + 12) v12 && (stc w b (o + 13) v13 && (stc w b (o + 14) v14 && (stc w b (o + 15) v15 && (stc w b (o + 16) v16 && (stc w b (o + 17) v17 && true)))))))))))))))))) (.ok () (w.setCells b o [v0, v1, v2, v3, v4, v5, v6, v7, v8, v9, v10, v11, v12, v13, v14, v15, v16, v17])) (slowSt P ⟨b, o, none⟩ [v0, v1, v2, v3, v4, v5, v6, v7, v8, v9, v10, v11, v12, v13, v14, v15, v16, v17] w) :=
  st_all P w b o [v0, v1, v2, v3, v4, v5, v6, v7, v8, v9, v10, v11, v12, v13, v14, v15, v16, v17]
set_option maxRecDepth 100000 in
theorem st36 (P : Program) (w : World) (b o : Nat) (v0 v1 v2 v3 v4 v5 v6 v7 v8 v9 v10 v11 v12 v13 v14 v15 v16 v17 v18 v19 v20 v21 v22 v23 v24 v25 v26 v27 v28 v29 v30 v31 v32 v33 v34 v35 : Value) : (storeCells ⟨b, o, none⟩ [v0, v1, v2, v3, v4, v5, v6, v7, v8, v9, v10, v11, v12, v13, v14, v15, v16, v17, v18, v19, v20, v21, v22, v23, v24, v25, v26, v27, v28, v29, v30, v31, v32, v33, v34, v35] 0).run P w = pick1 (stc w b (o + 0) v0 && (stc w b (o + 1) v1 && (stc w b (o + 2) v2 && (stc w b (o + 3) v3 && (stc w b (o + 4) v4 && (stc w b (o + 5) v5 && (stc w b (o + 6) v6 && (stc w b (o + 7) v7 && (stc w b (o + 8) v8 && (stc w b (o + 9) v9 && (stc w b (o + 10) v10 && (stc w b (o + 11) v11 && (stc w b (o + 12) v12 && (stc w b (o + 13) v13 && (stc w b (o + 14) v14 && (stc w b (o + 15) v15 && (stc w b (o + 16) v16 && (stc w b (o + 17) v17 && (stc w b (o + 18) v18 && (stc w b (o + 19) v19 && (stc w b (o + 20) v20 && (stc w b (o + 21) v21 && (stc w b (o + 22) v22 && (stc w b (o + 23) v23 && (stc w b (o + 24) v24 && (stc w b (o + 25) v25 && (stc w b (o + 26) v26 && (stc w b (o + 27) v27 && (stc w b (o + 28) v28 && (stc w b (o + 29) v29 && (stc w b (o + 30) v30 && (stc w b (o + 31) v31 && (stc w b (o + 32) v32 && (stc w b (o + 33) v33 && (stc w b (o + 34) v34 && (stc w b (o + 35) v35 && true)))))))))))))))))))))))))))))))))))) (.ok () (w.setCells b o [v0, v1, v2, v3, v4, v5, v6, v7, v8, v9, v10, v11, v12, v13, v14, v15, v16, v17, v18, v19, v20, v21, v22, v23, v24, v25, v26, v27, v28, v29, v30, v31, v32, v33, v34, v35])) (slowSt P ⟨b, o, none⟩ [v0, v1, v2, v3, v4, v5, v6, v7, v8, v9, v10, v11, v12, v13, v14, v15, v16, v17, v18, v19, v20, v21, v22, v23, v24, v25, v26, v27, v28, v29, v30, v31, v32, v33, v34, v35] w) :=
  st_all P w b o [v0, v1, v2, v3, v4, v5, v6, v7, v8, v9, v10, v11, v12, v13, v14, v15, v16, v17, v18, v19, v20, v21, v22, v23, v24, v25, v26, v27, v28, v29, v30, v31, v32, v33, v34, v35]
set_option maxRecDepth 100000 in
theorem st37 (P : Program) (w : World) (b o : Nat) (v0 v1 v2 v3 v4 v5 v6 v7 v8 v9 v10 v11 v12 v13 v14 v15 v16 v17 v18 v19 v20 v21 v22 v23 v24 v25 v26 v27 v28 v29 v30 v31 v32 v33 v34 v35 v36 : Value) : (storeCells ⟨b, o, none⟩ [v0, v1, v2, v3, v4, v5, v6, v7, v8, v9, v10, v11, v12, v13, v14, v15, v16, v17, v18, v19, v20, v21, v22, v23, v24, v25, v26, v27, v28, v29, v30, v31, v32, v33, v34, v35, v36] 0).run P w = pick1 (stc w b (o + 0) v0 && (stc w b (o + 1) v1 && (stc w b (o + 2) v2 && (stc w b (o + 3) v3 && (stc w b (o + 4) v4 && (stc w b (o + 5) v5 && (stc w b (o + 6) v6 && (stc w b (o + 7) v7 && (stc w b (o + 8) v8 && (stc w b (o + 9) v9 && (stc w b (o + 10) v10 && (stc w b (o + 11) v11 && (stc w b (o + 12) v12 && (stc w b (o + 13) v13 && (stc w b (o + 14) v14 && (stc w b (o + 15) v15 && (stc w b (o + 16) v16 && (stc w b (o + 17) v17 && (stc w b (o + 18) v18 && (stc w b (o + 19) v19 && (stc w b (o + 20) v20 && (stc w b (o + 21) v21 && (stc w b (o + 22) v22 && (stc w b (o + 23) v23 && (stc w b (o + 24) v24 && (stc w b (o + 25) v25 && (stc w b (o + 26) v26 && (stc w b (o + 27) v27 && (stc w b (o + 28) v28 && (stc w b (o + 29) v29 && (stc w b (o + 30) v30 && (stc w b (o + 31) v31 && (stc w b (o + 32) v32 && (stc w b (o + 33) v33 && (stc w b (o + 34) v34 && (stc w b (o + 35) v35 && (stc w b (o + 36) v36 && true))))))))))))))))))))))))))))))))))))) (.ok () (w.setCells b o [v0, v1, v2, v3, v4, v5, v6, v7, v8, v9, v10, v11, v12, v13, v14, v15, v16, v17, v18, v19, v20, v21, v22, v23, v24, v25, v26, v27, v28, v29, v30, v31, v32, v33, v34, v35, v36])) (slowSt P ⟨b, o, none⟩ [v0, v1, v2, v3, v4, v5, v6, v7, v8, v9, v10, v11, v12, v13, v14, v15, v16, v17, v18, v19, v20, v21, v22, v23, v24, v25, v26, v27, v28, v29, v30, v31, v32, v33, v34, v35, v36] w) :=
  st_all P w b o [v0, v1, v2, v3, v4, v5, v6, v7, v8, v9, v10, v11, v12, v13, v14, v15, v16, v17, v18, v19, v20, v21, v22, v23, v24, v25, v26, v27, v28, v29, v30, v31, v32, v33, v34, v35, v36]
set_option maxRecDepth 100000 in
theorem st39 (P : Program) (w : World) (b o : Nat) (v0 v1 v2 v3 v4 v5 v6 v7 v8 v9 v10 v11 v12 v13 v14 v15 v16 v17 v18 v19 v20 v21 v22 v23 v24 v25 v26 v27 v28 v29 v30 v31 v32 v33 v34 v35 v36 v37 v38 : Value) : (storeCells ⟨b, o, none⟩ [v0, v1, v2, v3, v4, v5, v6, v7, v8, v9, v10, v11, v12, v13, v14, v15, v16, v17, v18, v19, v20, v21, v22, v23, v24, v25, v26, v27, v28, v29, v30, v31, v32, v33, v34, v35, v36, v37, v38] 0).run P w = pick1 (stc w b (o + 0) v0 && (stc w b (o + 1) v1 && (stc w b (o + 2) v2 && (stc w b (o + 3) v3 && (stc w b (o + 4) v4 && (stc w b (o + 5) v5 && (stc w b (o + 6) v6 && (stc w b (o + 7) v7 && (stc w b (o + 8) v8 && (stc w b (o + 9) v9 && (stc w b (o + 10) v10 && (stc w b (o + 11) v11 && (stc w b (o + 12) v12 && (stc w b (o + 13) v13 && (stc w b (o + 14) v14 && (stc w b (o + 15) v15 && (stc w b (o + 16) v16 && (stc w b (o + 17) v17 && (stc w b (o + 18) v18 && (stc w b (o + 19) v19 && (stc w b (o + 20) v20 && (stc w b (o + 21) v21 && (stc w b (o + 22) v22 && (stc w b (o + 23) v23 && (stc w b (o + 24) v24 && (stc w b (o + 25) v25 && (stc w b (o + 26) v26 && (stc w b (o + 27) v27 && (stc w b (o + 28) v28 && (stc w b (o + 29) v29 && (stc w b (o + 30) v30 && (stc w b (o + 31) v31 && (stc w b (o + 32) v32 && (stc w b (o + 33) v33 && (stc w b (o + 34) v34 && (stc w b (o + 35) v35 && (stc w b (o + 36) v36 && (stc w b (o + 37) v37 && (stc w b (o + 38) v38 && true))))))))))))))))))))))))))))))))))))))) (.ok () (w.setCells b o [v0, v1, v2, v3, v4, v5, v6, v7, v8, v9, v10, v11, v12, v13, v14, v15, v16, v17, v18, v19, v20, v21, v22, v23, v24, v25, v26, v27, v28, v29, v30, v31, v32, v33, v34, v35, v36, v37, v38])) (slowSt P ⟨b, o, none⟩ [v0, v1, v2, v3, v4, v5, v6, v7, v8, v9, v10, v11, v12, v13, v14, v15, v16, v17, v18, v19, v20, v21, v22, v23, v24, v25, v26, v27, v28, v29, v30, v31, v32, v33, v34, v35, v36, v37, v38] w) :=
  st_all P w b o [v0, v1, v2, v3, v4, v5, v6, v7, v8, v9, v10, v11, v12, v13, v14, v15, v16, v17, v18, v19, v20, v21, v22, v23, v24, v25, v26, v27, v28, v29, v30, v31, v32, v33, v34, v35, v36, v37, v38]
set_option maxRecDepth 100000 in
theorem st40 (P : Program) (w : World) (b o : Nat) (v0 v1 v2 v3 v4 v5 v6 v7 v8 v9 v10 v11 v12 v13 v14 v15 v16 v17 v18 v19 v20 v21 v22 v23 v24 v25 v26 v27 v28 v29 v30 v31 v32 v33 v34 v35 v36 v37 v38 v39 : Value) : (storeCells ⟨b, o, none⟩ [v0, v1, v2, v3, v4, v5, v6, v7, v8, v9, v10, v11, v12, v13, v14, v15, v16, v17, v18, v19, v20, v21, v22, v23, v24, v25, v26, v27, v28, v29, v30, v31, v32, v33, v34, v35, v36, v37, v38, v39] 0).run P w = pick1 (stc w b (o + 0) v0 && (stc w b (o + 1) v1 && (stc w b (o + 2) v2 && (stc w b (o + 3) v3 && (stc w b (o + 4) v4 && (stc w b (o + 5) v5 && (stc w b (o + 6) v6 && (stc w b (o + 7) v7 && (stc w b (o + 8) v8 && (stc w b (o + 9) v9 && (stc w b (o + 10) v10 && (stc w b (o + 11) v11 && (stc w b (o + 12) v12 && (stc w b (o + 13) v13 && (stc w b (o + 14) v14 && (stc w b (o + 15) v15 && (stc w b (o + 16) v16 && (stc w b (o + 17) v17 && (stc w b (o + 18) v18 && (stc w b (o + 19) v19 && (stc w b (o + 20) v20 && (stc w b (o + 21) v21 && (stc w b (o + 22) v22 && (stc w b (o + 23) v23 && (stc w b (o + 24) v24 && (stc w b (o + 25) v25 && (stc w b (o + 26) v26 && (stc w b (o + 27) v27 && (stc w b (o + 28) v28 && (stc w b (o + 29) v29 && (stc w b (o + 30) v30 && (stc w b (o + 31) v31 && (stc w b (o + 32) v32 && (stc w b (o + 33) v33 && (stc w b (o + 34) v34 && (stc w b (o + 35) v35 && (stc w b (o + 36) v36 && (stc w b (o + 37) v37 && (stc w b (o + 38) v38 && (stc w b (o + 39) v39 && true)))))))))))))))))))))))))))))))))))))))) (.ok () (w.setCells b o [v0, v1, v2, v3, v4, v5, v6, v7, v8, v9, v10, v11, v12, v13, v14, v15, v16, v17, v18, v19, v20, v21, v22, v23, v24, v25, v26, v27, v28, v29, v30, v31, v32, v33, v34, v35, v36, v37, v38, v39])) (slowSt P ⟨b, o, none⟩ [v0, v1, v2, v3, v4, v5, v6, v7, v8, v9, v10, v11, v12, v13, v14, v15, v16, v17, v18, v19, v20, v21, v22, v23, v24, v25, v26, v27, v28, v29, v30, v31, v32, v33, v34, v35, v36, v37, v38, v39] w) :=
  st_all P w b o [v0, v1, v2, v3, v4, v5, v6, v7, v8, v9, v10, v11, v12, v13, v14, v15, v16, v17, v18, v19, v20, v21, v22, v23, v24, v25, v26, v27, v28, v29, v30, v31, v32, v33, v34, v35, v36, v37, v38, v39]
set_option maxRecDepth 100000 in
theorem st42 (P : Program) (w : World) (b o : Nat) (v0 v1 v2 v3 v4 v5 v6 v7 v8 v9 v10 v11 v12 v13 v14 v15 v16 v17 v18 v19 v20 v21 v22 v23 v24 v25 v26 v27 v28 v29 v30 v31 v32 v33 v34 v35 v36 v37 v38 v39 v40 v41 : Value) : (storeCells ⟨b, o, none⟩ [v0, v1, v2, v3, v4, v5, v6, v7, v8, v9, v10, v11, v12, v13, v14, v15, v16, v17, v18, v19, v20, v21, v22, v23, v24, v25, v26, v27, v28, v29, v30, v31, v32, v33, v34, v35, v36, v37, v38, v39, v40, v41] 0).run P w = pick1 (stc w b (o + 0) v0 && (stc w b (o + 1) v1 && (stc w b (o + 2) v2 && (stc w b (o + 3) v3 && (stc w b (o + 4) v4 && (stc w b (o + 5) v5 && (stc w b (o + 6) v6 && (stc w b (o + 7) v7 && (stc w b (o + 8) v8 && (stc w b (o + 9) v9 && (stc w b (o + 10) v10 && (stc w b (o + 11) v11 && (stc w b (o + 12) v12 && (stc w b (o + 13) v13 && (stc w b (o + 14) v14 && (stc w b (o + 15) v15 && (stc w b (o + 16) v16 && (stc w b (o + 17) v17 && (stc w b (o + 18) v18 && (stc w b (o + 19) v19 && (stc w b (o + 20) v20 && (stc w b (o + 21) v21 && (stc w b (o + 22) v22 && (stc w b (o + 23) v23 && (stc w b (o + 24) v24 && (stc w b (o + 25) v25 && (stc w b (o + 26) v26 && (stc w b (o + 27) v27 && (stc w b (o + 28) v28 && (stc w b (o + 29) v29 && (stc w b (o + 30) v30 && (stc w b (o + 31) v31 && (stc w b (o + 32) v32 && (stc w b (o + 33) v33 && (stc w b (o + 34) v34 && (stc w b (o + 35) v35 && (stc w b (o + 36) v36 && (stc w b (o + 37) v37 && (stc w b (o + 38) v38 && (stc w b (o + 39) v39 && (stc w b (o + 40) v40 && (stc w b (o + 41) v41 && true)))))))))))))))))))))))))))))))))))))))))) (.ok () (w.setCells b o [v0, v1, v2, v3, v4, v5, v6, v7, v8, v9, v10, v11, v12, v13, v14, v15, v16, v17, v18, v19, v20, v21, v22, v23, v24, v25, v26, v27, v28, v29, v30, v31, v32, v33, v34, v35, v36, v37, v38, v39, v40, v41])) (slowSt P ⟨b, o, none⟩ [v0, v1, v2, v3, v4, v5, v6, v7, v8, v9, v10, v11, v12, v13, v14, v15, v16, v17, v18, v19, v20, v21, v22, v23, v24, v25, v26, v27, v28, v29, v30, v31, v32, v33, v34, v35, v36, v37, v38, v39, v40, v41] w) :=
  st_all P w b o [v0, v1, v2, v3, v4, v5, v6, v7, v8, v9, v10, v11, v12, v13, v14, v15, v16, v17, v18, v19, v20, v21, v22, v23, v24, v25, v26, v27, v28, v29, v30, v31, v32, v33, v34, v35, v36, v37, v38, v39, v40, v41]
end Go.Proofs.Ytknpaihlnkcpgaa.Own
/- Stores of values of many cells: one rule a type, cheap for the kernel. (written by wip/gen_big.py) -/
set_option linter.unusedVariables false
set_option linter.unusedSimpArgs false
namespace Go.Proofs.Ytknpaihlnkcpgaa.Own
open Go.RowKit Go.Proofs.YtknpaihlnkcpgaaW.PrintWords Go.Proofs.YtknpaihlnkcpgaaW.PrintLast Go.Proofs.YtknpaihlnkcpgaaW.PrintMore

noncomputable def stV (ty : TypeId) (a : Addr) (v : Value) : Sem Unit := storeVar ty a v
noncomputable def slowSV (P : Program) (ty : TypeId) (a : Addr) (v : Value) (w : World) : Result Unit := (storeVar ty a v).run P w
theorem sv_all (P : Program) (w : World) (b o ty : Nat) (cs : Array Value) (hi : (P.info? ty).map (·.size) = some cs.size) :
    (stV ty ⟨b, o, none⟩ (.agg cs)).run P w = pick1 ((stcs w b o cs.toList).all id) (.ok () (w.setCells b o cs.toList)) (slowSV P ty ⟨b, o, none⟩ (.agg cs) w) := by
  cases h : (stcs w b o cs.toList).all id with
  | false => rfl
  | true =>
    have hk : ∀ j (h : j < cs.toList.length), (w.cell? ⟨b, o + j, none⟩).isSome = true ∧ w.frozen? ⟨b, o + j, none⟩ = false ∧ cs.toList[j].oneCell' = true := fun j hj => by
      have hg := stcs_get w b cs.toList o j hj
      have hm := List.mem_of_getElem? hg
      exact stc_spec (by simpa using List.all_eq_true.1 h _ hm)
    exact run_storeVar_mid w b o ty cs (fun j hj => ⟨(hk j (by simpa using hj)).1, (hk j (by simpa using hj)).2.1⟩) hi (Array.all_eq_true_iff_forall_mem.2 fun v hv => by
      obtain ⟨j, hj, rfl⟩ := List.mem_iff_getElem.1 (Array.mem_toList_iff.2 hv)
      exact (hk j hj).2.2)
theorem sv_hd (a : Addr) (v : Value) : storeVar 39 a v = stV 39 a v := rfl
set_option maxRecDepth 100000 in
theorem run_sv_hd (w : World) (b o : Nat) (v0 v1 v2 v3 v4 v5 v6 v7 v8 v9 v10 v11 v12 v13 v14 v15 v16 : Value) : (stV 39 ⟨b, o, none⟩ (.agg #[v0, v1, v2, v3, v4, v5, v6, v7, v8, v9, v10, v11, v12, v13, v14, v15, v16])).run Try.prog w = pick1 (stc w b (o + 0) v0 && (stc w b (o + 1) v1 && (stc w b (o + 2) v2 && (stc w b (o + 3) v3 && (stc w b (o + 4) v4 && (stc w b (o + 5) v5 && (stc w b (o + 6) v6 && (stc w b (o + 7) v7 && (stc w b (o + 8) v8 && (stc w b (o + 9) v9 && (stc w b (o + 10) v10 && (stc w b (o + 11) v11 && (stc w b (o + 12) v12 && (stc w b (o + 13) v13 && (stc w b (o + 14) v14 && (stc w b (o + 15) v15 && (stc w b (o + 16) v16 && true))))))))))))))))) (.ok () (w.setCells b o [v0, v1, v2, v3, v4, v5, v6, v7, v8, v9, v10, v11, v12, v13, v14, v15, v16])) (slowSV Try.prog 39 ⟨b, o, none⟩ (.agg #[v0, v1, v2, v3, v4, v5, v6, v7, v8, v9, v10, v11, v12, v13, v14, v15, v16]) w) :=
  sv_all Try.prog w b o 39 #[v0, v1, v2, v3, v4, v5, v6, v7, v8, v9, v10, v11, v12, v13, v14, v15, v16] (by kernel_rfl)
theorem sv_rh (a : Addr) (v : Value) : storeVar 41 a v = stV 41 a v := rfl
set_option maxRecDepth 100000 in
theorem run_sv_rh (w : World) (b o : Nat) (v0 v1 v2 v3 v4 v5 v6 v7 v8 v9 v10 : Value) : (stV 41 ⟨b, o, none⟩ (.agg #[v0, v1, v2, v3, v4, v5, v6, v7, v8, v9, v10])).run Try.prog w = pick1 (stc w b (o + 0) v0 && (stc w b (o + 1) v1 && (stc w b (o + 2) v2 && (stc w b (o + 3) v3 && (stc w b (o + 4) v4 && (stc w b (o + 5) v5 && (stc w b (o + 6) v6 && (stc w b (o + 7) v7 && (stc w b (o + 8) v8 && (stc w b (o + 9) v9 && (stc w b (o + 10) v10 && true))))))))))) (.ok () (w.setCells b o [v0, v1, v2, v3, v4, v5, v6, v7, v8, v9, v10])) (slowSV Try.prog 41 ⟨b, o, none⟩ (.agg #[v0, v1, v2, v3, v4, v5, v6, v7, v8, v9, v10]) w) :=
  sv_all Try.prog w b o 41 #[v0, v1, v2, v3, v4, v5, v6, v7, v8, v9, v10] (by kernel_rfl)
end Go.Proofs.Ytknpaihlnkcpgaa.Own
/- ip.Header: its 17 cells; length, Right, flag. (written by wip/gen_hd.py) -/
set_option linter.unusedVariables false
set_option linter.unusedSimpArgs false
namespace Go.Proofs.Ytknpaihlnkcpgaa.Own
open Go.RowKit Go.Proofs.YtknpaihlnkcpgaaW.PrintWords Go.Proofs.YtknpaihlnkcpgaaW.PrintLast Go.Proofs.YtknpaihlnkcpgaaW.PrintMore
attribute [local go_sem ↓] ld17 ld4 sv_hd
attribute [local go_sem] run_sv_hd gv_some isV_some pick2_true stc nfz_false oc1_int oc1_bool oc1_string oc1_slice oc1_pointer oc1_func pick1_true setCells_new setCells_past setCells_drew

/-- a header of IPv4; its options lie elsewhere -/
structure Hd where
  tos : Int
  total : Int
  id : Int
  df : Bool
  mf : Bool
  frag : Int
  ttl : Int
  proto : Int
  s0 : Int
  s1 : Int
  s2 : Int
  s3 : Int
  d0 : Int
  d1 : Int
  d2 : Int
  d3 : Int
/-- its cells -/
abbrev hcs (h : Hd) (A : Option Addr) (n c : Nat) : Array Value := #[.int .u8 h.tos, .int .u16 h.total, .int .u16 h.id, .bool h.df, .bool h.mf, .int .u16 h.frag, .int .u8 h.ttl, .int .u8 h.proto, .int .u8 h.s0, .int .u8 h.s1, .int .u8 h.s2, .int .u8 h.s3, .int .u8 h.d0, .int .u8 h.d1, .int .u8 h.d2, .int .u8 h.d3, .slice A n c]
def inB (x m : Int) : Prop := 0 ≤ x ∧ x ≤ m
/-- its numbers are of their kinds -/
def Hd.ok (h : Hd) : Prop := inB h.tos 255 ∧ inB h.total 65535 ∧ inB h.id 65535 ∧ inB h.frag 65535 ∧ inB h.ttl 255 ∧ inB h.proto 255 ∧ inB h.s0 255 ∧ inB h.s1 255 ∧ inB h.s2 255 ∧ inB h.s3 255 ∧ inB h.d0 255 ∧ inB h.d1 255 ∧ inB h.d2 255 ∧ inB h.d3 255
theorem hd_cells {w : World} {g t : Nat} {h : Hd} {A : Option Addr} {n c : Nat} (hb : w.heap[g]? = some (.cells (hcs h A n c) t (0, 0))) :
    w.cell? ⟨g, 0, none⟩ = some (.int .u8 h.tos) ∧ w.cell? ⟨g, 1, none⟩ = some (.int .u16 h.total) ∧ w.cell? ⟨g, 2, none⟩ = some (.int .u16 h.id) ∧ w.cell? ⟨g, 3, none⟩ = some (.bool h.df) ∧ w.cell? ⟨g, 4, none⟩ = some (.bool h.mf) ∧ w.cell? ⟨g, 5, none⟩ = some (.int .u16 h.frag) ∧ w.cell? ⟨g, 6, none⟩ = some (.int .u8 h.ttl) ∧ w.cell? ⟨g, 7, none⟩ = some (.int .u8 h.proto) ∧ w.cell? ⟨g, 8, none⟩ = some (.int .u8 h.s0) ∧ w.cell? ⟨g, 9, none⟩ = some (.int .u8 h.s1) ∧ w.cell? ⟨g, 10, none⟩ = some (.int .u8 h.s2) ∧ w.cell? ⟨g, 11, none⟩ = some (.int .u8 h.s3) ∧ w.cell? ⟨g, 12, none⟩ = some (.int .u8 h.d0) ∧ w.cell? ⟨g, 13, none⟩ = some (.int .u8 h.d1) ∧ w.cell? ⟨g, 14, none⟩ = some (.int .u8 h.d2) ∧ w.cell? ⟨g, 15, none⟩ = some (.int .u8 h.d3) ∧ w.cell? ⟨g, 16, none⟩ = some (.slice A n c) := by refine ⟨?_, ?_, ?_, ?_, ?_, ?_, ?_, ?_, ?_, ?_, ?_, ?_, ?_, ?_, ?_, ?_, ?_⟩ <;> (rw [blk_cell hb]; rfl)
/-- is a header with n bytes of options right? -/
def rightB (h : Hd) (n : Nat) : Bool := decide (h.frag ≤ 8191 ∧ n % 4 = 0 ∧ n ≤ 40 ∧ (20 : Int) + n ≤ h.total)

theorem len_hd (h : Hd) (A : Option Addr) (n c : Nat) (w : World) (hn : n ≤ 1000000) :
    Calls Try.prog 31 #[.agg (hcs h A n c)] w fun e w' => e = .returned (.int .i64 (20 + n)) ∧ Below w.heap.size w w' := by
  obtain ⟨tos, total, id, df, mf, frag, ttl, proto, s0, s1, s2, s3, d0, d1, d2, d3⟩ := h
  go_enter Try.func31, Try.ntmps31
  go_wp2
  go_ret
  exact ⟨rfl, below_alloc1 w _⟩
/-- n, if something holds -/
def fl (b : Bool) (n : Int) : Int := if b then n else 0
theorem flag_any (b : Bool) (f : Int) (w : World) :
    Calls Try.prog 32 #[.bool b, .int .u64 f] w fun e w' => e = .returned (.int .u64 (fl b f)) ∧ w = w' := by
  cases b
  · go_enter Try.func32, Try.ntmps32
    go_wp2
    go_ret
    exact ⟨rfl, rfl⟩
  · go_enter Try.func32, Try.ntmps32
    go_wp2
    go_ret
    exact ⟨rfl, rfl⟩

theorem held17 {a b : World} {g : Nat} {v0 v1 v2 v3 v4 v5 v6 v7 v8 v9 v10 v11 v12 v13 v14 v15 v16 : Value} (hb : Below a.heap.size a b) (h : a.cell? ⟨g, 0, none⟩ = some v0 ∧ a.cell? ⟨g, 1, none⟩ = some v1 ∧ a.cell? ⟨g, 2, none⟩ = some v2 ∧ a.cell? ⟨g, 3, none⟩ = some v3 ∧ a.cell? ⟨g, 4, none⟩ = some v4 ∧ a.cell? ⟨g, 5, none⟩ = some v5 ∧ a.cell? ⟨g, 6, none⟩ = some v6 ∧ a.cell? ⟨g, 7, none⟩ = some v7 ∧ a.cell? ⟨g, 8, none⟩ = some v8 ∧ a.cell? ⟨g, 9, none⟩ = some v9 ∧ a.cell? ⟨g, 10, none⟩ = some v10 ∧ a.cell? ⟨g, 11, none⟩ = some v11 ∧ a.cell? ⟨g, 12, none⟩ = some v12 ∧ a.cell? ⟨g, 13, none⟩ = some v13 ∧ a.cell? ⟨g, 14, none⟩ = some v14 ∧ a.cell? ⟨g, 15, none⟩ = some v15 ∧ a.cell? ⟨g, 16, none⟩ = some v16) : b.cell? ⟨g, 0, none⟩ = some v0 ∧ b.cell? ⟨g, 1, none⟩ = some v1 ∧ b.cell? ⟨g, 2, none⟩ = some v2 ∧ b.cell? ⟨g, 3, none⟩ = some v3 ∧ b.cell? ⟨g, 4, none⟩ = some v4 ∧ b.cell? ⟨g, 5, none⟩ = some v5 ∧ b.cell? ⟨g, 6, none⟩ = some v6 ∧ b.cell? ⟨g, 7, none⟩ = some v7 ∧ b.cell? ⟨g, 8, none⟩ = some v8 ∧ b.cell? ⟨g, 9, none⟩ = some v9 ∧ b.cell? ⟨g, 10, none⟩ = some v10 ∧ b.cell? ⟨g, 11, none⟩ = some v11 ∧ b.cell? ⟨g, 12, none⟩ = some v12 ∧ b.cell? ⟨g, 13, none⟩ = some v13 ∧ b.cell? ⟨g, 14, none⟩ = some v14 ∧ b.cell? ⟨g, 15, none⟩ = some v15 ∧ b.cell? ⟨g, 16, none⟩ = some v16 :=
  ⟨pw_cell_below hb h.1, pw_cell_below hb h.2.1, pw_cell_below hb h.2.2.1, pw_cell_below hb h.2.2.2.1, pw_cell_below hb h.2.2.2.2.1, pw_cell_below hb h.2.2.2.2.2.1, pw_cell_below hb h.2.2.2.2.2.2.1, pw_cell_below hb h.2.2.2.2.2.2.2.1, pw_cell_below hb h.2.2.2.2.2.2.2.2.1, pw_cell_below hb h.2.2.2.2.2.2.2.2.2.1, pw_cell_below hb h.2.2.2.2.2.2.2.2.2.2.1, pw_cell_below hb h.2.2.2.2.2.2.2.2.2.2.2.1, pw_cell_below hb h.2.2.2.2.2.2.2.2.2.2.2.2.1, pw_cell_below hb h.2.2.2.2.2.2.2.2.2.2.2.2.2.1, pw_cell_below hb h.2.2.2.2.2.2.2.2.2.2.2.2.2.2.1, pw_cell_below hb h.2.2.2.2.2.2.2.2.2.2.2.2.2.2.2.1, pw_cell_below hb h.2.2.2.2.2.2.2.2.2.2.2.2.2.2.2.2⟩
set_option maxHeartbeats 8000000 in
theorem right_hd (h : Hd) (A : Option Addr) (n c : Nat) (w : World) (hn : n ≤ 1000000) (ht : inB h.total 65535) :
    Calls Try.prog 15 #[.agg (hcs h A n c)] w fun e w' => e = .returned (.bool (rightB h n)) ∧ Below w.heap.size w w' := by
  have hl := fun W => len_hd h A n c W hn
  obtain ⟨tos, total, id, df, mf, frag, ttl, proto, s0, s1, s2, s3, d0, d1, d2, d3⟩ := h
  have hb := heap_alloc_new w (.cells (hcs ⟨tos, total, id, df, mf, frag, ttl, proto, s0, s1, s2, s3, d0, d1, d2, d3⟩ A n c) 39)
  have hcc := hd_cells hb
  have HB1 := Aside0.mk (below_alloc1 w (.cells (hcs ⟨tos, total, id, df, mf, frag, ttl, proto, s0, s1, s2, s3, d0, d1, d2, d3⟩ A n c) 39))
  clear hb
  dsimp only [hcs] at hcc hl HB1
  obtain ⟨c0, c1, c2, c3, c4, c5, c6, c7, c8, c9, c10, c11, c12, c13, c14, c15, c16⟩ := hcc
  go_enter Try.func15, Try.ntmps15
  go_wp2
  by_cases h1 : frag ≤ 8191
  · by_cases h2 : n % 4 = 0
    · have hq : ((n : Int).tmod 4 == 0) = true := by
        rw [Int.tmod_eq_emod_of_nonneg (by omega)]
        simp
        omega
      by_cases h3 : n ≤ 40
      · have H1 := Aside0.mk (And.intro h1 (And.intro h2 h3))
        have h3' : (n : Int) ≤ 40 := by omega
        have HW : Aside0 (IntKind.i64.wrap total = total) := ⟨by have h0 : 0 ≤ total := ht.1; have h1 : total ≤ 65535 := ht.2; simp [IntKind.wrap, IntKind.bits, IntKind.signed]; omega⟩
        go_region_held3 (fun w' => w'.cell? ⟨w.heap.size, 0, none⟩ = some (.int .u8 tos) ∧ w'.cell? ⟨w.heap.size, 1, none⟩ = some (.int .u16 total) ∧ w'.cell? ⟨w.heap.size, 2, none⟩ = some (.int .u16 id) ∧ w'.cell? ⟨w.heap.size, 3, none⟩ = some (.bool df) ∧ w'.cell? ⟨w.heap.size, 4, none⟩ = some (.bool mf) ∧ w'.cell? ⟨w.heap.size, 5, none⟩ = some (.int .u16 frag) ∧ w'.cell? ⟨w.heap.size, 6, none⟩ = some (.int .u8 ttl) ∧ w'.cell? ⟨w.heap.size, 7, none⟩ = some (.int .u8 proto) ∧ w'.cell? ⟨w.heap.size, 8, none⟩ = some (.int .u8 s0) ∧ w'.cell? ⟨w.heap.size, 9, none⟩ = some (.int .u8 s1) ∧ w'.cell? ⟨w.heap.size, 10, none⟩ = some (.int .u8 s2) ∧ w'.cell? ⟨w.heap.size, 11, none⟩ = some (.int .u8 s3) ∧ w'.cell? ⟨w.heap.size, 12, none⟩ = some (.int .u8 d0) ∧ w'.cell? ⟨w.heap.size, 13, none⟩ = some (.int .u8 d1) ∧ w'.cell? ⟨w.heap.size, 14, none⟩ = some (.int .u8 d2) ∧ w'.cell? ⟨w.heap.size, 15, none⟩ = some (.int .u8 d3) ∧ w'.cell? ⟨w.heap.size, 16, none⟩ = some (.slice A n c)) (first | exact ⟨c0, c1, c2, c3, c4, c5, c6, c7, c8, c9, c10, c11, c12, c13, c14, c15, c16⟩ | exact held17 hb2 ⟨c0, c1, c2, c3, c4, c5, c6, c7, c8, c9, c10, c11, c12, c13, c14, c15, c16⟩) (first | (go_at_call 31; go_must (with_reducible refine (hl _).mono ?_); rintro e w2 ⟨rfl, hb2⟩))
        all_goals (
          go_wp2
          go_ret
          refine ⟨ret_bool ?_, below_tr (below_drew (below_alloc1 w _)) hb2⟩
          have hx := H1.out
          rw [HW.out]
          exact decide_eq_decide.2 ⟨fun hh => ⟨hx.1, hx.2.1, hx.2.2, hh⟩, fun hh => hh.2.2.2⟩)
      · have H3 := Aside0.mk h3
        have hn40 : ¬ (n : Int) ≤ 40 := by omega
        go_quiet (fail)
        go_wp2
        go_ret
        exact ⟨ret_bool (show false = decide (frag ≤ 8191 ∧ n % 4 = 0 ∧ n ≤ 40 ∧ (20 : Int) + n ≤ total) from (decide_eq_false (by have hx := H3.out; intro hh; omega)).symm), pw_below_drewN HB1.out _⟩
    · have H2 := Aside0.mk h2
      have hq : ((n : Int).tmod 4 == 0) = false := by
        rw [Int.tmod_eq_emod_of_nonneg (by omega)]
        simp
        omega
      go_quiet (fail)
      go_wp2
      go_ret
      exact ⟨ret_bool (show false = decide (frag ≤ 8191 ∧ n % 4 = 0 ∧ n ≤ 40 ∧ (20 : Int) + n ≤ total) from (decide_eq_false (by have hx := H2.out; intro hh; omega)).symm), pw_below_drewN HB1.out _⟩
  · have H1 := Aside0.mk h1
    go_quiet (fail)
    go_wp2
    go_ret
    exact ⟨ret_bool (show false = decide (frag ≤ 8191 ∧ n % 4 = 0 ∧ n ≤ 40 ∧ (20 : Int) + n ≤ total) from (decide_eq_false (by have hx := H1.out; intro hh; omega)).symm), pw_below_drewN HB1.out _⟩
end Go.Proofs.Ytknpaihlnkcpgaa.Own
/- ip.Parse on rows that it refuses at once (for the works of chapter 05). -/
set_option linter.unusedVariables false
set_option linter.unusedSimpArgs false
namespace Go.Proofs.Ytknpaihlnkcpgaa.Own
open Go.RowKit Go.Proofs.YtknpaihlnkcpgaaW.PrintWords Go.Proofs.YtknpaihlnkcpgaaW.PrintLast Go.Proofs.YtknpaihlnkcpgaaW.PrintMore
attribute [local go_sem ↓] ld17 ld4 sv_hd
attribute [local go_sem] run_sv_hd gv_some isV_some pick2_true stc nfz_false oc1_int oc1_bool oc1_string oc1_slice oc1_pointer oc1_func pick1_true setCells_new setCells_past setCells_drew

/-- the header that is nothing -/
abbrev noHd : Value := .agg (hcs ⟨0, 0, 0, false, false, 0, 0, 0, 0, 0, 0, 0, 0, 0, 0, 0⟩ none 0 0)
set_option maxRecDepth 100000 in
theorem parse_short (A : Option Addr) (n c : Nat) (w : World) (hn : n < 20) :
    Calls Try.prog 19 #[.slice A n c] w fun e w' => e = .returned (.tuple #[noHd, .int .i64 0, .int .i64 10]) ∧ Below w.heap.size w w' := by
  go_enter Try.func19, Try.ntmps19
  go_wp2
  have hc := hd_cells (heap_alloc_new w (.cells (hcs ⟨0, 0, 0, false, false, 0, 0, 0, 0, 0, 0, 0, 0, 0, 0, 0⟩ none 0 0) 39))
  refine bodyPost_ret (v := .tuple #[noHd, .int .i64 0, .int .i64 10]) ?_ rfl ⟨rfl, below_alloc1 w _⟩
  simp only [hcs] at hc
  simp [results, Try.results19, go_sem, hc]
set_option maxRecDepth 100000 in
theorem parse_version (b : List Int) (A : Option Addr) (n c : Nat) (w : World) (hC : Kd.C (Kd.int .u8) w A n b) (hn : 20 ≤ n) (h0 : b.getD 0 0 = 0) :
    Calls Try.prog 19 #[.slice A n c] w fun e w' => e = .returned (.tuple #[noHd, .int .i64 0, .int .i64 50]) ∧ Below w.heap.size w w' := by
  obtain ⟨ad, rfl, hx⟩ := Kd.at_int hC 0 (by omega) (by omega)
  have e0 : ad.add (0 : Int).toNat = ad := Addr.add_zero' ad
  have hx2 : w.cell? ad = some (.int .u8 (b.getD 0 0)) := by rw [e0] at hx; exact hx
  rw [h0] at hx2
  have hx3 := (below_alloc1 w (.cells (hcs ⟨0, 0, 0, false, false, 0, 0, 0, 0, 0, 0, 0, 0, 0, 0, 0⟩ none 0 0) 39)).cell (p := ad) (World.block_lt_of_cell? w _ hx2)
  rw [hx2] at hx3
  simp only [hcs] at hx3
  clear hC hx e0 h0
  go_enter Try.func19, Try.ntmps19
  go_wp2
  have hc := hd_cells (heap_alloc_new w (.cells (hcs ⟨0, 0, 0, false, false, 0, 0, 0, 0, 0, 0, 0, 0, 0, 0, 0⟩ none 0 0) 39))
  refine bodyPost_ret (v := .tuple #[noHd, .int .i64 0, .int .i64 50]) ?_ rfl ⟨rfl, below_alloc1 w _⟩
  simp only [hcs] at hc
  simp [results, Try.results19, go_sem, hc]
end Go.Proofs.Ytknpaihlnkcpgaa.Own
/- Contracts of sum.Whole and sum.Change. -/
set_option linter.unusedVariables false
set_option linter.unusedSimpArgs false
namespace Go.Proofs.Ytknpaihlnkcpgaa.Own
open Go.RowKit Go.Proofs.YtknpaihlnkcpgaaW.PrintWords Go.Proofs.YtknpaihlnkcpgaaW.PrintLast Go.Proofs.YtknpaihlnkcpgaaW.PrintMore

theorem whole_any (l : List (List Int)) (A : Option Addr) (c : Nat) (w : World) (hr : Kd.C (Kd.slice 5 (Kd.int .u8)) w A l.length l) (hb : ∀ x ∈ l, bytes x) (hn : l.flatten.length ≤ 1152921504606846975) (hn2 : l.length ≤ 1152921504606846975) :
    Calls Try.prog 41 #[.slice A l.length c] w fun e w' => e = .returned (.bool (wholeB l.flatten)) ∧ Below w.heap.size w w' := by
  have HR := Aside0.mk hr
  have HB := Aside0.mk hb
  clear hr hb
  obtain ⟨v, ev⟩ : ∃ v, ck l.flatten = v := ⟨_, rfl⟩
  have HW := Aside0.mk (show wholeB l.flatten = (v == 0 || v == 65535) by simp [wholeB, ev])
  have EV := Aside0.mk ev
  clear ev
  by_cases h0 : (v == 0) = true
  · go_enter Try.func41, Try.ntmps41
    go_wp2_with fail
    refine (of_any l A c _ HR.out HB.out hn hn2).mono ?_
    rintro e w1 ⟨rfl, hb1⟩
    rw [EV.out]
    go_wp2
    go_ret
    exact ⟨ret_bool (by rw [HW.out, h0]; rfl), hb1⟩
  · replace h0 : (v == 0) = false := by simpa using h0
    by_cases h1 : (v == 65535) = true
    all_goals
      try (replace h1 : (v == 65535) = false := by simpa using h1)
      go_enter Try.func41, Try.ntmps41
      go_wp2_with fail
      refine (of_any l A c _ HR.out HB.out hn hn2).mono ?_
      rintro e w1 ⟨rfl, hb1⟩
      rw [EV.out]
      go_wp2
      go_ret
      exact ⟨ret_bool (by rw [HW.out, h0, h1]; rfl), hb1⟩

/-- the same two, at any spelling of the length -/
theorem of_at (l : List (List Int)) (A : Option Addr) (n c : Nat) (w : World) (hr : Kd.C (Kd.slice 5 (Kd.int .u8)) w A n l) (hb : ∀ x ∈ l, bytes x) (hn : l.flatten.length ≤ 1152921504606846975) (hn2 : l.length ≤ 1152921504606846975) :
    Calls Try.prog 36 #[.slice A n c] w fun e w' => e = .returned (.int .u16 (ck l.flatten)) ∧ Below w.heap.size w w' := by
  obtain rfl := hr.1
  exact of_any l A c w hr hb hn hn2
theorem whole_at (l : List (List Int)) (A : Option Addr) (n c : Nat) (w : World) (hr : Kd.C (Kd.slice 5 (Kd.int .u8)) w A n l) (hb : ∀ x ∈ l, bytes x) (hn : l.flatten.length ≤ 1152921504606846975) (hn2 : l.length ≤ 1152921504606846975) :
    Calls Try.prog 41 #[.slice A n c] w fun e w' => e = .returned (.bool (wholeB l.flatten)) ∧ Below w.heap.size w w' := by
  obtain rfl := hr.1
  exact whole_any l A c w hr hb hn hn2

theorem change_any (s f t : Int) (w : World) (s0 : 0 ≤ s) (s1 : s ≤ 65535) (f0 : 0 ≤ f) (f1 : f ≤ 65535) (t0 : 0 ≤ t) (t1 : t ≤ 65535) :
    Calls Try.prog 42 #[.int .u16 s, .int .u16 f, .int .u16 t] w fun e w' => e = .returned (.int .u16 (chg s f t)) ∧ w = w' := by
  have hr := cf_range (65535 - s + (65535 - f) + t) (by omega)
  obtain ⟨r0, r1⟩ := hr
  have e1 : IntKind.u16.wrap (65535 - s) = 65535 - s := wraps_u16 _ (by omega) (by omega)
  have e2 : IntKind.u16.wrap (65535 - f) = 65535 - f := wraps_u16 _ (by omega) (by omega)
  have e3 : IntKind.u64.wrap (65535 - s) = 65535 - s := wraps_u64 _ (by omega) (by omega)
  have e4 : IntKind.u64.wrap (65535 - f) = 65535 - f := wraps_u64 _ (by omega) (by omega)
  go_enter Try.func42, Try.ntmps42
  go_wp2_with fail
  refine (fold_any _ _ (by omega) (by omega)).mono ?_
  rintro e w1 ⟨rfl, rfl⟩
  go_wp2
  go_ret
  exact ⟨ret_u16 (by unfold chg; omega), rfl⟩
end Go.Proofs.Ytknpaihlnkcpgaa.Own
/- ip.Parse. (written by wip/gen_parse.py) -/
set_option linter.unusedVariables false
set_option linter.unusedSimpArgs false
namespace Go.Proofs.Ytknpaihlnkcpgaa.Own
open Go.RowKit Go.Proofs.YtknpaihlnkcpgaaW.PrintWords Go.Proofs.YtknpaihlnkcpgaaW.PrintLast Go.Proofs.YtknpaihlnkcpgaaW.PrintMore

/-- a load of an array of four bytes, kept whole by the walk -/
noncomputable def ldA (ty : TypeId) (a : Addr) : Sem Value := loadVar ty a
theorem lv_a4 (a : Addr) : loadVar 37 a = ldA 37 a := rfl
attribute [local go_sem ↓] lv_a4 sv_hd ld17
attribute [local go_sem] run_sv_hd gv_some isV_some pick2_true stc nfz_false oc1_int oc1_bool oc1_string oc1_slice oc1_pointer oc1_func pick1_true setCells_new setCells_past setCells_drew

theorem size_a4 : (Try.prog.info? 37).map (·.size) = some 4 := by kernel_rfl
theorem ld_a4 {w : World} {ad : Addr} {m : Nat} {T : List Int} (hC : Kd.C (Kd.int .u8) w (some ad) m T) (hm : 4 ≤ m) : (ldA 37 ad).run Try.prog w = .ok (.agg #[.int .u8 (T.getD 0 0), .int .u8 (T.getD 1 0), .int .u8 (T.getD 2 0), .int .u8 (T.getD 3 0)]) w := by
  have hx : ∀ i : Nat, i < 4 → w.cell? (ad.add i) = some (.int .u8 (T.getD i 0)) := fun i hi => by
    obtain ⟨ad', e, hx⟩ := Kd.at_int hC i (by omega) (by omega)
    cases e
    exact hx
  have hl := run_loadCells_list (P := Try.prog) w ad [.int .u8 (T.getD 0 0), .int .u8 (T.getD 1 0), .int .u8 (T.getD 2 0), .int .u8 (T.getD 3 0)] (fun j v hj => by
    match j, hj with
    | 0, hj => cases hj; exact hx 0 (by decide)
    | 1, hj => cases hj; exact hx 1 (by decide)
    | 2, hj => cases hj; exact hx 2 (by decide)
    | 3, hj => cases hj; exact hx 3 (by decide))
  obtain ⟨i, hi, hs⟩ := Option.map_eq_some_iff.1 size_a4
  have hagg : (isAgg 37).run Try.prog w = .ok true w := by
    unfold isAgg
    rw [Sem.run_bind, run_underlying Try.underlying37 w]
    rfl
  unfold ldA
  simp only [List.length_cons, List.length_nil] at hl
  simp [loadVar, Sem.run_bind, hagg, sizeOf, typeInfo, hi, hs, hl]
theorem run_arrayAt4 (ad : Addr) (m c : Nat) (hm : 4 ≤ m) (w : World) : (Instr.arrayAt 37 (.slice (some ad) m c)).run Try.prog w = .ok (.pointer (some ad)) w := by
  have : ¬ m < 4 := by omega
  simp [Instr.arrayAt, Sem.run_bind, run_underlying Try.underlying37 w, this]
theorem R_set {w : World} {g base e : Nat} {ok : Nat → Prop} {v : Value} {xs : List Int} {vs : List Value} (h : Kd.R (Kd.int .u8) e w base ok v xs) (hg : g < base) : Kd.R (Kd.int .u8) e (w.setCells g 0 vs) base ok v xs := by
  have hb := Kd.R_base h
  have ho := h.1
  refine Kd.R_mono (Kd.R_step (Kd.R_tight rfl h) fun k hk _ => heap_setCells_other ?_) (fun k hk => ho k hk.symm)
  have := hb k hk.symm
  omega
def w16 (b : List Int) (i : Nat) : Int := b.getD i 0 * 256 + b.getD (i + 1) 0
/-- the header that stands there -/
def hdOf (b : List Int) : Hd := ⟨b.getD 1 0, w16 b 2, w16 b 4, decide (0 < bits .and .u16 (w16 b 6) 16384), decide (0 < bits .and .u16 (w16 b 6) 8192), bits .and .u16 (w16 b 6) 8191, b.getD 8 0, b.getD 9 0, b.getD 12 0, b.getD 13 0, b.getD 14 0, b.getD 15 0, b.getD 16 0, b.getD 17 0, b.getD 18 0, b.getD 19 0⟩
theorem w16_range {b : List Int} (hb : bytes b) (i : Nat) : 0 ≤ w16 b i ∧ w16 b i ≤ 65535 := by
  have h0 := bytes_getD hb i
  have h1 := bytes_getD hb (i + 1)
  unfold w16
  omega
/-- the cells as a list -/
abbrev hls (h : Hd) (A : Option Addr) (n c : Nat) : List Value := [.int .u8 h.tos, .int .u16 h.total, .int .u16 h.id, .bool h.df, .bool h.mf, .int .u16 h.frag, .int .u8 h.ttl, .int .u8 h.proto, .int .u8 h.s0, .int .u8 h.s1, .int .u8 h.s2, .int .u8 h.s3, .int .u8 h.d0, .int .u8 h.d1, .int .u8 h.d2, .int .u8 h.d3, .slice A n c]
theorem hd_put {w : World} {b t : Nat} {h0 : Hd} {A0 : Option Addr} {n0 c0 : Nat} {h : Hd} {A : Option Addr} {n c : Nat} (hb : w.heap[b]? = some (.cells (hcs h0 A0 n0 c0) t (0, 0))) : (w.setCells b 0 (hls h A n c)).heap[b]? = some (.cells (hcs h A n c) t (0, 0)) := blk_setCells hb rfl
theorem fz_new {w : World} {g t : Nat} {cs : Array Value} (h : w.heap[g]? = some (.cells cs t (0, 0))) (i : Nat) : w.frozen? ⟨g, i, none⟩ = false := by
  simp [World.frozen?, h]
abbrev zHd : Hd := ⟨0, 0, 0, false, false, 0, 0, 0, 0, 0, 0, 0, 0, 0, 0, 0⟩
/-- what ip.Parse answers -/
def ParseR (w : World) (H : Hd) (N C : Int) (O : List Int) (e : Ending) (w' : World) : Prop :=
  ∃ A1 n1 c1, e = .returned (.tuple #[.agg (hcs H A1 n1 c1), .int .i64 N, .int .i64 C]) ∧ Kd.R (Kd.int .u8) 5 w' w.heap.size (fun _ => True) (.slice A1 n1 c1) O ∧ Below w.heap.size w w'
/-- the error of rows that pass the first checks, with a header of N bytes -/
def mainC (b : List Int) (N : Nat) : Int := if 0 < bits .and .u16 (w16 b 6) 32768 ∨ w16 b 2 < N then 51 else if wholeB (b.take N) then 0 else 52
def ParseQ (b : List Int) (w : World) (N : Nat) : Ending → World → Prop := if mainC b N = 0 then ParseR w (hdOf b) N 0 ((b.take N).drop 20) else ParseR w zHd 0 (mainC b N) []
/-- the header is parsed, in a box of its own; the result's box is as it was -/
def PSt (w W : World) (b T : List Int) (q : Value) : Prop :=
  ∃ g A n c, q = .pointer (some ⟨g, 0, none⟩) ∧ w.heap.size < g ∧ W.heap[g]? = some (.cells (hcs (hdOf b) A n c) 39 (0, 0)) ∧ Kd.R (Kd.int .u8) 5 W (w.heap.size + 1) (fun _ => True) (.slice A n c) T ∧
    W.heap[w.heap.size]? = some (.cells (hcs ⟨0, 0, 0, false, false, 0, 0, 0, 0, 0, 0, 0, 0, 0, 0, 0⟩ none 0 0) 39 (0, 0)) ∧ Below w.heap.size w W
set_option maxRecDepth 100000 in
set_option maxHeartbeats 8000000 in
theorem parse_main (b : List Int) (A : Option Addr) (n c N : Nat) (w : World) (hC : Kd.C (Kd.int .u8) w A n b) (hc : n ≤ c) (hb : bytes b) (hn : n ≤ 1000000) (h0 : b.getD 0 0 / 16 = 4) (hN : (N : Int) = b.getD 0 0 % 16 * 4) (hN20 : 20 ≤ N) (hNn : N ≤ n) :
    Calls Try.prog 19 #[.slice A n c] w (ParseQ b w N) := by
  obtain ⟨PO, ePO⟩ : ∃ PO : Ending → World → Prop, PO = ParseQ b w N := ⟨_, rfl⟩
  have hp51 : ∀ e w', (0 < bits .and .u16 (w16 b 6) 32768 ∨ w16 b 2 < N) → ParseR w zHd 0 51 [] e w' → PO e w' := fun e w' h1 h2 => by
    rw [ePO]
    have hm : mainC b N = 51 := by unfold mainC; rw [if_pos h1]
    unfold ParseQ
    rw [hm]
    exact h2
  have hp52 : ∀ e w', ¬ (0 < bits .and .u16 (w16 b 6) 32768 ∨ w16 b 2 < N) → wholeB (b.take N) = false → ParseR w zHd 0 52 [] e w' → PO e w' := fun e w' h1 h3 h2 => by
    rw [ePO]
    have hm : mainC b N = 52 := by unfold mainC; rw [if_neg h1, h3]; rfl
    unfold ParseQ
    rw [hm]
    exact h2
  have hp0 : ∀ e w', ¬ (0 < bits .and .u16 (w16 b 6) 32768 ∨ w16 b 2 < N) → wholeB (b.take N) = true → ParseR w (hdOf b) N 0 ((b.take N).drop 20) e w' → PO e w' := fun e w' h1 h3 h2 => by
    rw [ePO]
    have hm : mainC b N = 0 := by unfold mainC; rw [if_neg h1, h3]; rfl
    unfold ParseQ
    rw [hm]
    exact h2
  rw [← ePO]
  clear ePO
  have hlen := hC.1
  obtain ⟨ad, rfl, hx0⟩ := Kd.at_int hC 0 (by omega) (by omega)
  have e0 : ad.add (0 : Int).toNat = ad := Addr.add_zero' ad
  rw [e0] at hx0
  have hx0' : w.cell? ad = some (.int .u8 (b.getD 0 0)) := hx0
  have hb0 := bytes_getD hb 0
  obtain ⟨x, ex⟩ : ∃ x, b.getD 0 0 = x := ⟨_, rfl⟩
  rw [ex] at hx0' hb0 h0 hN
  obtain ⟨xa, xb⟩ := hb0
  have hx1 := (below_alloc1 w (.cells (hcs ⟨0, 0, 0, false, false, 0, 0, 0, 0, 0, 0, 0, 0, 0, 0, 0⟩ none 0 0) 39)).cell (p := ad) (World.block_lt_of_cell? w _ hx0')
  rw [hx0'] at hx1
  simp only [hcs] at hx1
  have hand := u8_and15 x xa xb
  have hneq : (x / 16 != 4) = false := by rw [h0]; rfl
  have hxN : x % 16 * 4 = (N : Int) := by omega
  have hN1 : ¬ (N : Int) < 20 := by omega
  have hN2 : ¬ (n : Int) < N := by omega
  obtain ⟨fr, efr⟩ : ∃ v, w16 b 6 = v := ⟨_, rfl⟩
  obtain ⟨tt, ett⟩ : ∃ v, w16 b 2 = v := ⟨_, rfl⟩
  obtain ⟨idd, eid⟩ : ∃ v, w16 b 4 = v := ⟨_, rfl⟩
  have hw0 : ∀ W, Below w.heap.size w W → Calls Try.prog 39 #[.slice (some ad) n c, .int .i64 6] W fun e w' => e = .returned (.int .u16 fr) ∧ W = w' := fun W hW => by
    rw [← efr]; exact word_any b (some ad) n c 6 6 rfl W (Kd.C_below hC hW) hc hb (by omega)
  have hw2 : ∀ W, Below w.heap.size w W → Calls Try.prog 39 #[.slice (some ad) n c, .int .i64 2] W fun e w' => e = .returned (.int .u16 tt) ∧ W = w' := fun W hW => by
    rw [← ett]; exact word_any b (some ad) n c 2 2 rfl W (Kd.C_below hC hW) hc hb (by omega)
  have hw4 : ∀ W, Below w.heap.size w W → Calls Try.prog 39 #[.slice (some ad) n c, .int .i64 4] W fun e w' => e = .returned (.int .u16 idd) ∧ W = w' := fun W hW => by
    rw [← eid]; exact word_any b (some ad) n c 4 4 rfl W (Kd.C_below hC hW) hc hb (by omega)
  obtain ⟨T1, A1, m1, c1, hcut1, hrd1, hmc1, hT1, hm1⟩ := cut_drop (some ad) n c b 12 hlen (by omega) (by omega) hc
  obtain ⟨T2, A2, m2, c2, hcut2, hrd2, hmc2, hT2, hm2⟩ := cut_drop (some ad) n c b 16 hlen (by omega) (by omega) hc
  obtain ⟨T3, A3, m3, c3, hcut3, hrd3, hmc3, hT3, hm3⟩ := cut_mid (some ad) n c b 20 N hlen (by omega) (by omega) (by omega) hc
  obtain ⟨T4, m4, hcut4, hrd4, hmc4, hT4, hm4⟩ := cut_take (some ad) n c b N hlen (by omega) (by omega) hc
  have hT4' : T4 = b.take N := by rw [hT4]; rfl
  have hwh : ∀ W, Below w.heap.size w W → Calls Try.prog 41 #[.slice (some ⟨W.heap.size, 0, none⟩) 1 1] (W.alloc (.cells #[.slice (some ad) m4 c] 22)) fun e w' => e = .returned (.bool (wholeB T4)) ∧ Below (W.alloc (.cells #[.slice (some ad) m4 c] 22)).heap.size (W.alloc (.cells #[.slice (some ad) m4 c] 22)) w' := fun W hW => by
    have h4 := Kd.C_below (hrd4 w hC) hW
    have hl4 := h4.1
    refine (whole_at [T4] _ 1 1 _ (C_new_rows1n h4 hmc4) (by intro x hx; simp at hx; subst hx; rw [hT4]; exact bytes_take hb _) (by simp; omega) (by simp)).mono ?_
    rintro e w' ⟨rfl, hb'⟩
    exact ⟨by simp, hb'⟩
  rw [← hT4'] at hp52 hp0
  obtain ⟨ad1, rfl, _⟩ := Kd.at_int (hrd1 w hC) 0 (by omega) (by omega)
  obtain ⟨ad2, rfl, _⟩ := Kd.at_int (hrd2 w hC) 0 (by omega) (by omega)
  have harr1 := run_arrayAt4 ad1 m1 c1 (by omega)
  have harr2 := run_arrayAt4 ad2 m2 c2 (by omega)
  have hg1 : ∀ i, T1.getD i 0 = b.getD (12 + i) 0 := fun i => by rw [hT1]; simp [List.getD_eq_getElem?_getD, List.getElem?_drop]
  have hg2 : ∀ i, T2.getD i 0 = b.getD (16 + i) 0 := fun i => by rw [hT2]; simp [List.getD_eq_getElem?_getD, List.getElem?_drop]
  have hcell : ∀ i : Nat, i < n → w.cell? (ad.add i) = some (.int .u8 (b.getD i 0)) := fun i hi => by
    obtain ⟨ad', e', hx⟩ := Kd.at_int hC i (by omega) (by omega)
    cases e'
    exact hx
  have hmk : ∀ W', Below w.heap.size w W' → Below w.heap.size w W' ∧ W'.cell? { block := ad.block, off := ad.off + 1 } = some (.int .u8 (b.getD 1 0)) ∧ W'.cell? { block := ad.block, off := ad.off + 8 } = some (.int .u8 (b.getD 8 0)) ∧ W'.cell? { block := ad.block, off := ad.off + 9 } = some (.int .u8 (b.getD 9 0)) ∧ (ldA 37 ad1).run Try.prog W' = .ok (.agg #[.int .u8 (b.getD (12 + 0) 0), .int .u8 (b.getD (12 + 1) 0), .int .u8 (b.getD (12 + 2) 0), .int .u8 (b.getD (12 + 3) 0)]) W' ∧ (ldA 37 ad2).run Try.prog W' = .ok (.agg #[.int .u8 (b.getD (16 + 0) 0), .int .u8 (b.getD (16 + 1) 0), .int .u8 (b.getD (16 + 2) 0), .int .u8 (b.getD (16 + 3) 0)]) W' := fun W' hW => by
    have l1 := ld_a4 (Kd.C_below (hrd1 w hC) hW) (by omega)
    have l2 := ld_a4 (Kd.C_below (hrd2 w hC) hW) (by omega)
    rw [hg1, hg1, hg1, hg1] at l1
    rw [hg2, hg2, hg2, hg2] at l2
    exact ⟨hW, pw_cell_below hW (hcell 1 (by omega)), pw_cell_below hW (hcell 8 (by omega)), pw_cell_below hW (hcell 9 (by omega)), l1, l2⟩
  have HD : Aside0 (hdOf b = ⟨b.getD 1 0, tt, idd, decide (0 < bits .and .u16 fr 16384), decide (0 < bits .and .u16 fr 8192), bits .and .u16 fr 8191, b.getD 8 0, b.getD 9 0, b.getD 12 0, b.getD 13 0, b.getD 14 0, b.getD 15 0, b.getD 16 0, b.getD 17 0, b.getD 18 0, b.getD 19 0⟩) := ⟨by unfold hdOf; rw [efr, ett, eid]⟩
  simp only [Nat.add_zero, Nat.reduceAdd] at hmk
  obtain ⟨b1, eb1⟩ : ∃ v, b.getD 1 0 = v := ⟨_, rfl⟩
  obtain ⟨b8, eb8⟩ : ∃ v, b.getD 8 0 = v := ⟨_, rfl⟩
  obtain ⟨b9, eb9⟩ : ∃ v, b.getD 9 0 = v := ⟨_, rfl⟩
  obtain ⟨s0, eb12⟩ : ∃ v, b.getD 12 0 = v := ⟨_, rfl⟩
  obtain ⟨s1, eb13⟩ : ∃ v, b.getD 13 0 = v := ⟨_, rfl⟩
  obtain ⟨s2, eb14⟩ : ∃ v, b.getD 14 0 = v := ⟨_, rfl⟩
  obtain ⟨s3, eb15⟩ : ∃ v, b.getD 15 0 = v := ⟨_, rfl⟩
  obtain ⟨d0, eb16⟩ : ∃ v, b.getD 16 0 = v := ⟨_, rfl⟩
  obtain ⟨d1, eb17⟩ : ∃ v, b.getD 17 0 = v := ⟨_, rfl⟩
  obtain ⟨d2, eb18⟩ : ∃ v, b.getD 18 0 = v := ⟨_, rfl⟩
  obtain ⟨d3, eb19⟩ : ∃ v, b.getD 19 0 = v := ⟨_, rfl⟩
  rw [eb1, eb8, eb9, eb12, eb13, eb14, eb15, eb16, eb17, eb18, eb19] at hmk HD
  have HMK := Aside0.mk hmk
  have HC3 := Aside0.mk (fun W (hW : Below w.heap.size w W) => clone_any T3 A3 m3 c3 W (Kd.C_below (hrd3 w hC) hW) (by omega))
  have HT3 := Aside0.mk hT3
  have HC := Aside0.mk hC
  have HB := Aside0.mk hb
  have hrt := w16_range hb 2
  rw [ett] at hrt
  have HRT := Aside0.mk hrt
  clear hrt
  have HNE := Aside0.mk hN
  have HWH := Aside0.mk hwh
  rw [efr, ett] at hp51 hp52 hp0
  have HP51 := Aside0.mk hp51
  have HP52 := Aside0.mk hp52
  have HP0 := Aside0.mk hp0
  have HT4 := Aside0.mk hT4'
  have EX := Aside0.mk ex
  have HW2 := Aside0.mk hw2
  have HW4 := Aside0.mk hw4
  have HBZ := Aside0.mk (below_alloc1 w (.cells (hcs ⟨0, 0, 0, false, false, 0, 0, 0, 0, 0, 0, 0, 0, 0, 0, 0⟩ none 0 0) 39))
  have HZ := Aside0.mk (heap_alloc_new w (.cells (hcs ⟨0, 0, 0, false, false, 0, 0, 0, 0, 0, 0, 0, 0, 0, 0, 0⟩ none 0 0) 39))
  have HSZ : Aside0 ((w.alloc (.cells (hcs ⟨0, 0, 0, false, false, 0, 0, 0, 0, 0, 0, 0, 0, 0, 0, 0⟩ none 0 0) 39)).heap.size = w.heap.size + 1) := ⟨by simp⟩
  dsimp only [hcs] at HBZ HZ HSZ
  clear hC hb e0 hx0 hx0' ex hlen hg1 hg2 hT1 hT2 hT3 hm1 hm2 hm3 hrd1 hrd2 hrd3 hcell hmk efr ett eid hw2 hw4 hN hwh hp51 hp52 hp0 hT4 hT4' hrd4 hm4 eb1 eb8 eb9 eb12 eb13 eb14 eb15 eb16 eb17 eb18 eb19
  go_enter Try.func19, Try.ntmps19
  go_upto_region 11 with (go_at_call 39; go_must (with_reducible refine (hw0 _ (below_alloc1 w _)).mono ?_); rintro e w1 ⟨rfl, rfl⟩)
  clear hw0 hx1 hand hneq hxN
  generalize w.alloc (.cells #[.int .u8 0, .int .u16 0, .int .u16 0, .bool false, .bool false, .int .u16 0, .int .u8 0, .int .u8 0, .int .u8 0, .int .u8 0, .int .u8 0, .int .u8 0, .int .u8 0, .int .u8 0, .int .u8 0, .int .u8 0, .slice none 0 0] 39) = w0 at HBZ HZ HSZ ⊢
  have HSL : Aside0 (w.heap.size ≤ w0.heap.size) := ⟨by have := HSZ.out; omega⟩
  have HSM : Aside0 (w.heap.size < w0.heap.size) := ⟨by have := HSZ.out; omega⟩
  have hi1 : (1 : Int) < (n : Int) := by omega
  have hi8 : (8 : Int) < (n : Int) := by omega
  have hi9 : (9 : Int) < (n : Int) := by omega
  go_cut [7] (fun q wx => Aside0 (PSt w wx b T3 q))
  case first =>
    refine wp_region_noPanic ?_
    refine wp_region_plan (fun W' => Below w.heap.size w W' ∧ W'.cell? { block := ad.block, off := ad.off + 1 } = some (.int .u8 (b1)) ∧ W'.cell? { block := ad.block, off := ad.off + 8 } = some (.int .u8 (b8)) ∧ W'.cell? { block := ad.block, off := ad.off + 9 } = some (.int .u8 (b9)) ∧ (ldA 37 ad1).run Try.prog W' = .ok (.agg #[.int .u8 (s0), .int .u8 (s1), .int .u8 (s2), .int .u8 (s3)]) W' ∧ (ldA 37 ad2).run Try.prog W' = .ok (.agg #[.int .u8 (d0), .int .u8 (d1), .int .u8 (d2), .int .u8 (d3)]) W') ((.q 0 (.q 1 (.q 2 (.q 3 (.q 4 (.q 5 (.q 6 (.q 7 (.q 8 (.q 9 (.q 10 (.q 11 (.q 12 (.q 13 (.q 14 (.q 15 (.q 16 (.q 17 (.q 18 (.q 19 (.q 20 (.q 21 (.q 22 (.q 23 (.q 24 (.q 25 (.q 26 (.q 27 (.q 28 (.q 29 (.q 30 (.q 31 (.e2 32 (.q 33 (.e 34 (.e 35 .done))) 34 (.e 32 (.q 33 (.e 35 .done))))))))))))))))))))))))))))))))))))) (by kernel_rfl) (by kernel_rfl) (fun _ _ _ _ _ h => h) (by kernel_rfl) (by kernel_rfl) (HMK.out _ (below_drew HBZ.out)) ?_
    refine plan_val (o := ?_) (v := ?_) ?_ ?_ (fun w' hSw => ?_) ?_
    rotate_left 2
    focus ((simp only [List.getElem?_toArray, List.getElem?_cons_succ, List.getElem?_cons_zero]); try with_reducible rfl)
    focus rfl
    focus ((try dsimp only at hSw); go_simp; try with_reducible rfl)
    try simp only [Act.put, List.setIfInBounds_toArray, List.set_cons_zero, List.set_cons_succ]
    refine plan_val (o := ?_) (v := ?_) ?_ ?_ (fun w' hSw => ?_) ?_
    rotate_left 2
    focus ((simp only [List.getElem?_toArray, List.getElem?_cons_succ, List.getElem?_cons_zero]); try with_reducible rfl)
    focus rfl
    focus ((try dsimp only at hSw); go_simp; try with_reducible rfl)
    try simp only [Act.put, List.setIfInBounds_toArray, List.set_cons_zero, List.set_cons_succ]
    refine plan_val (o := ?_) (v := ?_) ?_ ?_ (fun w' hSw => ?_) ?_
    rotate_left 2
    focus ((simp only [List.getElem?_toArray, List.getElem?_cons_succ, List.getElem?_cons_zero]); try with_reducible rfl)
    focus rfl
    focus ((try dsimp only at hSw); go_simp; try with_reducible rfl)
    try simp only [Act.put, List.setIfInBounds_toArray, List.set_cons_zero, List.set_cons_succ]
    refine plan_val (o := ?_) (v := ?_) ?_ ?_ (fun w' hSw => ?_) ?_
    rotate_left 2
    focus ((simp only [List.getElem?_toArray, List.getElem?_cons_succ, List.getElem?_cons_zero]); try with_reducible rfl)
    focus rfl
    focus ((try dsimp only at hSw); go_simp; try with_reducible rfl)
    try simp only [Act.put, List.setIfInBounds_toArray, List.set_cons_zero, List.set_cons_succ]
    refine plan_call (o := ?o4) (v := ?v4) (f := ?f4) (args := ?args4) ?hk4 ?hw4 (fun w' => ?he4) (fun w' hSw => ?hv4) ?h4
    case hk4 => ((simp only [List.getElem?_toArray, List.getElem?_cons_succ, List.getElem?_cons_zero]); try with_reducible rfl)
    case hw4 => rfl
    case he4 => (go_simp; first | (refine And.intro ?_ ?_ <;> with_reducible rfl) | with_reducible rfl)
    case hv4 => (exact HW2.out _ hSw.1)
    try simp only [Act.put, List.setIfInBounds_toArray, List.set_cons_zero, List.set_cons_succ]
    refine plan_val (o := ?_) (v := ?_) ?_ ?_ (fun w' hSw => ?_) ?_
    rotate_left 2
    focus ((simp only [List.getElem?_toArray, List.getElem?_cons_succ, List.getElem?_cons_zero]); try with_reducible rfl)
    focus rfl
    focus ((try dsimp only at hSw); go_simp; try with_reducible rfl)
    try simp only [Act.put, List.setIfInBounds_toArray, List.set_cons_zero, List.set_cons_succ]
    refine plan_call (o := ?o6) (v := ?v6) (f := ?f6) (args := ?args6) ?hk6 ?hw6 (fun w' => ?he6) (fun w' hSw => ?hv6) ?h6
    case hk6 => ((simp only [List.getElem?_toArray, List.getElem?_cons_succ, List.getElem?_cons_zero]); try with_reducible rfl)
    case hw6 => rfl
    case he6 => (go_simp; first | (refine And.intro ?_ ?_ <;> with_reducible rfl) | with_reducible rfl)
    case hv6 => (exact HW4.out _ hSw.1)
    try simp only [Act.put, List.setIfInBounds_toArray, List.set_cons_zero, List.set_cons_succ]
    refine plan_val (o := ?_) (v := ?_) ?_ ?_ (fun w' hSw => ?_) ?_
    rotate_left 2
    focus ((simp only [List.getElem?_toArray, List.getElem?_cons_succ, List.getElem?_cons_zero]); try with_reducible rfl)
    focus rfl
    focus ((try dsimp only at hSw); go_simp; try with_reducible rfl)
    try simp only [Act.put, List.setIfInBounds_toArray, List.set_cons_zero, List.set_cons_succ]
    refine plan_val (o := ?_) (v := ?_) ?_ ?_ (fun w' hSw => ?_) ?_
    rotate_left 2
    focus ((simp only [List.getElem?_toArray, List.getElem?_cons_succ, List.getElem?_cons_zero]); try with_reducible rfl)
    focus rfl
    focus ((try dsimp only at hSw); go_simp; try with_reducible rfl)
    try simp only [Act.put, List.setIfInBounds_toArray, List.set_cons_zero, List.set_cons_succ]
    refine plan_val (o := ?_) (v := ?_) ?_ ?_ (fun w' hSw => ?_) ?_
    rotate_left 2
    focus ((simp only [List.getElem?_toArray, List.getElem?_cons_succ, List.getElem?_cons_zero]); try with_reducible rfl)
    focus rfl
    focus ((try dsimp only at hSw); go_simp; try with_reducible rfl)
    try simp only [Act.put, List.setIfInBounds_toArray, List.set_cons_zero, List.set_cons_succ]
    refine plan_val (o := ?_) (v := ?_) ?_ ?_ (fun w' hSw => ?_) ?_
    rotate_left 2
    focus ((simp only [List.getElem?_toArray, List.getElem?_cons_succ, List.getElem?_cons_zero]); try with_reducible rfl)
    focus rfl
    focus ((try dsimp only at hSw); go_simp; try with_reducible rfl)
    try simp only [Act.put, List.setIfInBounds_toArray, List.set_cons_zero, List.set_cons_succ]
    refine plan_val (o := ?_) (v := ?_) ?_ ?_ (fun w' hSw => ?_) ?_
    rotate_left 2
    focus ((simp only [List.getElem?_toArray, List.getElem?_cons_succ, List.getElem?_cons_zero]); try with_reducible rfl)
    focus rfl
    focus ((try dsimp only at hSw); go_simp; try with_reducible rfl)
    try simp only [Act.put, List.setIfInBounds_toArray, List.set_cons_zero, List.set_cons_succ]
    refine plan_val (o := ?_) (v := ?_) ?_ ?_ (fun w' hSw => ?_) ?_
    rotate_left 2
    focus ((simp only [List.getElem?_toArray, List.getElem?_cons_succ, List.getElem?_cons_zero]); try with_reducible rfl)
    focus rfl
    focus ((try dsimp only at hSw); go_simp; try with_reducible rfl)
    try simp only [Act.put, List.setIfInBounds_toArray, List.set_cons_zero, List.set_cons_succ]
    refine plan_val (o := ?_) (v := ?_) ?_ ?_ (fun w' hSw => ?_) ?_
    rotate_left 2
    focus ((simp only [List.getElem?_toArray, List.getElem?_cons_succ, List.getElem?_cons_zero]); try with_reducible rfl)
    focus rfl
    focus ((try dsimp only at hSw); go_simp; try with_reducible rfl)
    try simp only [Act.put, List.setIfInBounds_toArray, List.set_cons_zero, List.set_cons_succ]
    refine plan_val (o := ?_) (v := ?_) ?_ ?_ (fun w' hSw => ?_) ?_
    rotate_left 2
    focus ((simp only [List.getElem?_toArray, List.getElem?_cons_succ, List.getElem?_cons_zero]); try with_reducible rfl)
    focus rfl
    focus ((try dsimp only at hSw); go_simp; try with_reducible rfl)
    try simp only [Act.put, List.setIfInBounds_toArray, List.set_cons_zero, List.set_cons_succ]
    refine plan_val (o := ?_) (v := ?_) ?_ ?_ (fun w' hSw => ?_) ?_
    rotate_left 2
    focus ((simp only [List.getElem?_toArray, List.getElem?_cons_succ, List.getElem?_cons_zero]); try with_reducible rfl)
    focus rfl
    focus ((try dsimp only at hSw); go_simp; try with_reducible rfl)
    try simp only [Act.put, List.setIfInBounds_toArray, List.set_cons_zero, List.set_cons_succ]
    refine plan_val (o := ?_) (v := ?_) ?_ ?_ (fun w' hSw => ?_) ?_
    rotate_left 2
    focus ((simp only [List.getElem?_toArray, List.getElem?_cons_succ, List.getElem?_cons_zero]); try with_reducible rfl)
    focus rfl
    focus ((try dsimp only at hSw); go_simp; try with_reducible rfl)
    try simp only [Act.put, List.setIfInBounds_toArray, List.set_cons_zero, List.set_cons_succ]
    refine plan_val (o := ?_) (v := ?_) ?_ ?_ (fun w' hSw => ?_) ?_
    rotate_left 2
    focus ((simp only [List.getElem?_toArray, List.getElem?_cons_succ, List.getElem?_cons_zero]); try with_reducible rfl)
    focus rfl
    focus ((try dsimp only at hSw); go_simp; try with_reducible rfl)
    try simp only [Act.put, List.setIfInBounds_toArray, List.set_cons_zero, List.set_cons_succ]
    refine plan_val (o := ?_) (v := ?_) ?_ ?_ (fun w' hSw => ?_) ?_
    rotate_left 2
    focus ((simp only [List.getElem?_toArray, List.getElem?_cons_succ, List.getElem?_cons_zero]); try with_reducible rfl)
    focus rfl
    focus ((try dsimp only at hSw); go_simp; try with_reducible rfl)
    try simp only [Act.put, List.setIfInBounds_toArray, List.set_cons_zero, List.set_cons_succ]
    refine plan_val (o := ?_) (v := ?_) ?_ ?_ (fun w' hSw => ?_) ?_
    rotate_left 2
    focus ((simp only [List.getElem?_toArray, List.getElem?_cons_succ, List.getElem?_cons_zero]); try with_reducible rfl)
    focus rfl
    focus ((try dsimp only at hSw); go_simp; try with_reducible rfl)
    try simp only [Act.put, List.setIfInBounds_toArray, List.set_cons_zero, List.set_cons_succ]
    refine plan_val (o := ?_) (v := ?_) ?_ ?_ (fun w' hSw => ?_) ?_
    rotate_left 2
    focus ((simp only [List.getElem?_toArray, List.getElem?_cons_succ, List.getElem?_cons_zero]); try with_reducible rfl)
    focus rfl
    focus ((try dsimp only at hSw); go_simp; try with_reducible rfl)
    try simp only [Act.put, List.setIfInBounds_toArray, List.set_cons_zero, List.set_cons_succ]
    refine plan_val (o := ?_) (v := ?_) ?_ ?_ (fun w' hSw => ?_) ?_
    rotate_left 2
    focus ((simp only [List.getElem?_toArray, List.getElem?_cons_succ, List.getElem?_cons_zero]); try with_reducible rfl)
    focus rfl
    focus ((try dsimp only at hSw); go_simp; try with_reducible rfl)
    try simp only [Act.put, List.setIfInBounds_toArray, List.set_cons_zero, List.set_cons_succ]
    refine plan_val (o := ?_) (v := ?_) ?_ ?_ (fun w' hSw => ?_) ?_
    rotate_left 2
    focus ((simp only [List.getElem?_toArray, List.getElem?_cons_succ, List.getElem?_cons_zero]); try with_reducible rfl)
    focus rfl
    focus ((try dsimp only at hSw); go_simp; try with_reducible rfl)
    try simp only [Act.put, List.setIfInBounds_toArray, List.set_cons_zero, List.set_cons_succ]
    refine plan_val (o := ?_) (v := ?_) ?_ ?_ (fun w' hSw => ?_) ?_
    rotate_left 2
    focus ((simp only [List.getElem?_toArray, List.getElem?_cons_succ, List.getElem?_cons_zero]); try with_reducible rfl)
    focus rfl
    focus ((try dsimp only at hSw); go_simp; try with_reducible rfl)
    try simp only [Act.put, List.setIfInBounds_toArray, List.set_cons_zero, List.set_cons_succ]
    refine plan_val (o := ?_) (v := ?_) ?_ ?_ (fun w' hSw => ?_) ?_
    rotate_left 2
    focus ((simp only [List.getElem?_toArray, List.getElem?_cons_succ, List.getElem?_cons_zero]); try with_reducible rfl)
    focus rfl
    focus ((try dsimp only at hSw); go_simp; try with_reducible rfl)
    try simp only [Act.put, List.setIfInBounds_toArray, List.set_cons_zero, List.set_cons_succ]
    refine plan_val (o := ?_) (v := ?_) ?_ ?_ (fun w' hSw => ?_) ?_
    rotate_left 2
    focus ((simp only [List.getElem?_toArray, List.getElem?_cons_succ, List.getElem?_cons_zero]); try with_reducible rfl)
    focus rfl
    focus ((try dsimp only at hSw); go_simp; try with_reducible rfl)
    try simp only [Act.put, List.setIfInBounds_toArray, List.set_cons_zero, List.set_cons_succ]
    refine plan_val (o := ?_) (v := ?_) ?_ ?_ (fun w' hSw => ?_) ?_
    rotate_left 2
    focus ((simp only [List.getElem?_toArray, List.getElem?_cons_succ, List.getElem?_cons_zero]); try with_reducible rfl)
    focus rfl
    focus ((try dsimp only at hSw); go_simp; try with_reducible rfl)
    try simp only [Act.put, List.setIfInBounds_toArray, List.set_cons_zero, List.set_cons_succ]
    refine plan_val (o := ?_) (v := ?_) ?_ ?_ (fun w' hSw => ?_) ?_
    rotate_left 2
    focus ((simp only [List.getElem?_toArray, List.getElem?_cons_succ, List.getElem?_cons_zero]); try with_reducible rfl)
    focus rfl
    focus ((try dsimp only at hSw); go_simp; try with_reducible rfl)
    try simp only [Act.put, List.setIfInBounds_toArray, List.set_cons_zero, List.set_cons_succ]
    refine plan_val (o := ?_) (v := ?_) ?_ ?_ (fun w' hSw => ?_) ?_
    rotate_left 2
    focus ((simp only [List.getElem?_toArray, List.getElem?_cons_succ, List.getElem?_cons_zero]); try with_reducible rfl)
    focus rfl
    focus ((try dsimp only at hSw); go_simp; try with_reducible rfl)
    try simp only [Act.put, List.setIfInBounds_toArray, List.set_cons_zero, List.set_cons_succ]
    refine plan_val (o := ?_) (v := ?_) ?_ ?_ (fun w' hSw => ?_) ?_
    rotate_left 2
    focus ((simp only [List.getElem?_toArray, List.getElem?_cons_succ, List.getElem?_cons_zero]); try with_reducible rfl)
    focus rfl
    focus ((try dsimp only at hSw); go_simp; try with_reducible rfl)
    try simp only [Act.put, List.setIfInBounds_toArray, List.set_cons_zero, List.set_cons_succ]
    refine plan_val (o := ?_) (v := ?_) ?_ ?_ (fun w' hSw => ?_) ?_
    rotate_left 2
    focus ((simp only [List.getElem?_toArray, List.getElem?_cons_succ, List.getElem?_cons_zero]); try with_reducible rfl)
    focus rfl
    focus ((try dsimp only at hSw); go_simp; try with_reducible rfl)
    try simp only [Act.put, List.setIfInBounds_toArray, List.set_cons_zero, List.set_cons_succ]
    refine plan_val (o := ?_) (v := ?_) ?_ ?_ (fun w' hSw => ?_) ?_
    rotate_left 2
    focus ((simp only [List.getElem?_toArray, List.getElem?_cons_succ, List.getElem?_cons_zero]); try with_reducible rfl)
    focus rfl
    focus ((try dsimp only at hSw); go_simp; try with_reducible rfl)
    try simp only [Act.put, List.setIfInBounds_toArray, List.set_cons_zero, List.set_cons_succ]
    refine plan_e2 (o := ?oE) (u := ?uE) ?hE1 ?hE2 ?hE3 ?hE4 (fun K hK => ?hE5) (fun K hK => ?hE6)
    case hE1 => ((simp only [List.getElem?_toArray, List.getElem?_cons_succ, List.getElem?_cons_zero]); try with_reducible rfl)
    case hE2 => ((simp only [List.getElem?_toArray, List.getElem?_cons_succ, List.getElem?_cons_zero]); try with_reducible rfl)
    case hE3 => rfl
    case hE4 => rfl
    case hE5 =>
      unfold Oper.wp
      go_simp
      refine (HC3.out _ (below_drew HBZ.out)).mono ?_
      rintro e w2 ⟨v, rfl, hR, hb2⟩
      obtain ⟨A', c', rfl⟩ := Kd.R_slice hR
      have HB2 := Aside0.mk (below_then (below_drew HBZ.out) HSL.out hb2)
      have HR2 := Aside0.mk hR
      have HZ2 := Aside0.mk ((hb2.block w.heap.size HSM.out).trans HZ.out)
      have HS2 := Aside0.mk (show w.heap.size < w2.heap.size from Nat.lt_of_lt_of_le HSM.out hb2.size)
      clear hR hb2
      refine hK _ _ (HMK.out _ HB2.out) ?_
      try simp only [Act.put, List.setIfInBounds_toArray, List.set_cons_zero, List.set_cons_succ]
      refine plan_val (o := ?_) (v := ?_) ?_ ?_ (fun w' hSw => ?_) ?_
      rotate_left 2
      focus ((simp only [List.getElem?_toArray, List.getElem?_cons_succ, List.getElem?_cons_zero]); try with_reducible rfl)
      focus rfl
      focus ((try dsimp only at hSw); go_simp; try with_reducible rfl)
      try simp only [Act.put, List.setIfInBounds_toArray, List.set_cons_zero, List.set_cons_succ]
      refine plan_e (o := ?oF) ?hF1 ?hF2 (fun K2 hK2 => ?hF3)
      case hF1 => ((simp only [List.getElem?_toArray, List.getElem?_cons_succ, List.getElem?_cons_zero]); try with_reducible rfl)
      case hF2 => rfl
      case hF3 =>
        unfold Oper.wp
        go_simp
        refine hK2 _ _ (HMK.out _ (HB2.out.alloc (Nat.le_of_lt HS2.out) _)) ?_
        try simp only [Act.put, List.setIfInBounds_toArray, List.set_cons_zero, List.set_cons_succ]
        refine plan_e (o := ?oG) ?hG1 ?hG2 (fun K3 hK3 => ?hG3)
        case hG1 => ((simp only [List.getElem?_toArray, List.getElem?_cons_succ, List.getElem?_cons_zero]); try with_reducible rfl)
        case hG2 => rfl
        case hG3 =>
          unfold Oper.wp
          go_simp
          refine hK3 _ _ (HMK.out _ (HB2.out.alloc (Nat.le_of_lt HS2.out) _)) (plan_done ?_)
          refine NoPanic.normal ?_
          dsimp only [Exit.then]
          go_step
          go_meet
          case rel =>
            refine ⟨w2.heap.size, A', _, c', rfl, HS2.out, ?_, Kd.R_alloc (Kd.R_lower HR2.out HSM.out) _, ((below_alloc1 w2 _).block _ HS2.out).trans HZ2.out, HB2.out.alloc (Nat.le_of_lt HS2.out) _⟩
            rw [HD.out]
            exact heap_alloc_new w2 _
    case hE6 =>
      unfold Oper.wp
      go_simp
      have HBA := Aside0.mk (below_drew (HBZ.out.alloc HSL.out (.cells (hcs ⟨0, 0, 0, false, false, 0, 0, 0, 0, 0, 0, 0, 0, 0, 0, 0⟩ none 0 0) 39)))
      have HXA := Aside0.mk (show (w0.alloc (.cells (hcs ⟨0, 0, 0, false, false, 0, 0, 0, 0, 0, 0, 0, 0, 0, 0, 0⟩ none 0 0) 39)).drew.heap[w0.heap.size]? = _ from heap_alloc_new w0 (.cells (hcs ⟨0, 0, 0, false, false, 0, 0, 0, 0, 0, 0, 0, 0, 0, 0, 0⟩ none 0 0) 39))
      have HZA := Aside0.mk (show (w0.alloc (.cells (hcs ⟨0, 0, 0, false, false, 0, 0, 0, 0, 0, 0, 0, 0, 0, 0, 0⟩ none 0 0) 39)).drew.heap[w.heap.size]? = _ from ((below_alloc1 w0 (.cells (hcs ⟨0, 0, 0, false, false, 0, 0, 0, 0, 0, 0, 0, 0, 0, 0, 0⟩ none 0 0) 39)).block w.heap.size HSM.out).trans HZ.out)
      have hsz2 : (w0.alloc (.cells (hcs ⟨0, 0, 0, false, false, 0, 0, 0, 0, 0, 0, 0, 0, 0, 0, 0⟩ none 0 0) 39)).drew.heap.size = w0.heap.size + 1 := by simp [World.drew]
      have HSL2 : Aside0 (w.heap.size ≤ (w0.alloc (.cells (hcs ⟨0, 0, 0, false, false, 0, 0, 0, 0, 0, 0, 0, 0, 0, 0, 0⟩ none 0 0) 39)).drew.heap.size) := ⟨by have := HSM.out; omega⟩
      have HSM2 : Aside0 (w.heap.size < (w0.alloc (.cells (hcs ⟨0, 0, 0, false, false, 0, 0, 0, 0, 0, 0, 0, 0, 0, 0, 0⟩ none 0 0) 39)).drew.heap.size) := ⟨by have := HSM.out; omega⟩
      have HSN2 : Aside0 (w0.heap.size < (w0.alloc (.cells (hcs ⟨0, 0, 0, false, false, 0, 0, 0, 0, 0, 0, 0, 0, 0, 0, 0⟩ none 0 0) 39)).drew.heap.size) := ⟨by omega⟩
      clear hsz2
      refine hK _ _ (HMK.out _ HBA.out) ?_
      try simp only [Act.put, List.setIfInBounds_toArray, List.set_cons_zero, List.set_cons_succ]
      refine plan_e (o := ?oH) ?hH1 ?hH2 (fun K2 hK2 => ?hH3)
      case hH1 => ((simp only [List.getElem?_toArray, List.getElem?_cons_succ, List.getElem?_cons_zero]); try with_reducible rfl)
      case hH2 => rfl
      case hH3 =>
        unfold Oper.wp
        go_simp
        refine (HC3.out _ HBA.out).mono ?_
        rintro e w2 ⟨v, rfl, hR, hb2⟩
        obtain ⟨A', c', rfl⟩ := Kd.R_slice hR
        dsimp only
        have HB2 := Aside0.mk (below_then HBA.out HSL2.out hb2)
        have HR2 := Aside0.mk hR
        have HZ2 := Aside0.mk ((hb2.block w.heap.size HSM2.out).trans HZA.out)
        have hx2 := (hb2.block w0.heap.size HSN2.out).trans HXA.out
        have hfz := fz_new hx2
        obtain ⟨c0, c1, c2, c3, c4, c5, c6, c7, c8, c9, c10, c11, c12, c13, c14, c15, c16⟩ := hd_cells hx2
        dsimp only at c0 c1 c2 c3 c4 c5 c6 c7 c8 c9 c10 c11 c12 c13 c14 c15 c16
        have HX2 := Aside0.mk hx2
        clear hR hb2 hx2
        refine hK2 _ _ (HMK.out _ HB2.out) ?_
        try simp only [Act.put, List.setIfInBounds_toArray, List.set_cons_zero, List.set_cons_succ]
        refine plan_val (o := ?_) (v := ?_) ?_ ?_ (fun w' hSw => ?_) ?_
        rotate_left 2
        focus ((simp only [List.getElem?_toArray, List.getElem?_cons_succ, List.getElem?_cons_zero]); try with_reducible rfl)
        focus rfl
        focus ((try dsimp only at hSw); go_simp; try with_reducible rfl)
        try simp only [Act.put, List.setIfInBounds_toArray, List.set_cons_zero, List.set_cons_succ]
        refine plan_e (o := ?oI) ?hI1 ?hI2 (fun K3 hK3 => ?hI3)
        case hI1 => ((simp only [List.getElem?_toArray, List.getElem?_cons_succ, List.getElem?_cons_zero]); try with_reducible rfl)
        case hI2 => rfl
        case hI3 =>
          unfold Oper.wp
          go_simp
          have hB3 : Below w.heap.size w (w2.setCells w0.heap.size 0 (hls ⟨b1, tt, idd, decide (0 < bits .and .u16 fr 16384), decide (0 < bits .and .u16 fr 8192), bits .and .u16 fr 8191, b8, b9, s0, s1, s2, s3, d0, d1, d2, d3⟩ A' T3.length c')) := below_setCells HB2.out HSL.out
          dsimp only [hls] at hB3
          refine hK3 _ _ (HMK.out _ hB3) (plan_done ?_)
          refine NoPanic.normal ?_
          dsimp only [Exit.then]
          go_step
          go_meet
          case rel =>
            have hr := R_set (vs := hls ⟨b1, tt, idd, decide (0 < bits .and .u16 fr 16384), decide (0 < bits .and .u16 fr 8192), bits .and .u16 fr 8191, b8, b9, s0, s1, s2, s3, d0, d1, d2, d3⟩ A' T3.length c') HR2.out HSN2.out
            dsimp only [hls] at hr
            refine ⟨w0.heap.size, A', _, c', rfl, HSM.out, ?_, Kd.R_lower hr (Nat.le_trans HSM.out (Nat.le_of_lt HSN2.out)), (heap_setCells_other (Nat.ne_of_lt HSM.out)).trans HZ2.out, hB3⟩
            rw [HD.out]
            have hx := hd_put (h := ⟨b1, tt, idd, decide (0 < bits .and .u16 fr 16384), decide (0 < bits .and .u16 fr 8192), bits .and .u16 fr 8191, b8, b9, s0, s1, s2, s3, d0, d1, d2, d3⟩) (A := A') (n := T3.length) (c := c') HX2.out
            dsimp only [hls] at hx
            exact hx
  case rest =>
    obtain ⟨g, A', n', c', rfl, hg, hH, hR, hZ, hB⟩ := hcut.out
    obtain ⟨wi, rfl⟩ : ∃ wi : World, wi = wc := ⟨_, rfl⟩
    clear HMK HC3 HW2 HW4 HBZ HZ HSZ HSL HSM hcut hcut1 hcut2 hcut3 harr1 harr2
    have hfz := fz_new hZ
    have htot := (hd_cells hH).2.1
    rw [HD.out] at htot
    dsimp only at htot
    obtain ⟨c0, c1, c2, c3, c4, c5, c6, c7, c8, c9, c10, c11, c12, c13, c14, c15, c16⟩ := hd_cells hZ
    dsimp only at c0 c1 c2 c3 c4 c5 c6 c7 c8 c9 c10 c11 c12 c13 c14 c15 c16
    have HH := Aside0.mk hH
    have HR := Aside0.mk hR
    have HZ := Aside0.mk hZ
    have HB := Aside0.mk hB
    clear hH hR hZ hB
    obtain ⟨ht0, ht1⟩ := HRT.out
    by_cases hbad : 0 < bits .and .u16 fr 32768
    · have HU := Aside0.mk hbad
      go_upto_region 13 with fail
      iterate 6 (first | go_values | go_skip | go_guarded | go_step | go_upon | go_back)
      have hx6 := hd_put (h := ⟨0, 0, 0, false, false, 0, 0, 0, 0, 0, 0, 0, 0, 0, 0, 0⟩) (A := none) (n := 0) (c := 0) HZ.out
      have hb6 := below_setCells (vs := hls ⟨0, 0, 0, false, false, 0, 0, 0, 0, 0, 0, 0, 0, 0, 0, 0⟩ none 0 0) (i := 0) HB.out (Nat.le_refl _)
      dsimp only [hls] at hx6 hb6
      clear c0 c1 c2 c3 c4 c5 c6 c7 c8 c9 c10 c11 c12 c13 c14 c15 c16 hfz htot
      generalize World.setCells _ _ _ _ = w6 at hx6 hb6 ⊢
      have hc6 := hd_cells hx6
      dsimp only at hc6
      go_wp2
      refine bodyPost_ret (v := .tuple #[noHd, .int .i64 0, .int .i64 51]) ?_ rfl (HP51.out _ _ (Or.inl HU.out) ⟨none, 0, 0, rfl, Kd.R_nil _ _ _ _ _, hb6⟩)
      simp [results, Try.results19, go_sem, hc6]
    · by_cases htn : tt < N
      · have HU := Aside0.mk htn
        go_upto_region 13 with fail
        iterate 6 (first | go_values | go_skip | go_guarded | go_step | go_upon | go_back)
        have hx6 := hd_put (h := ⟨0, 0, 0, false, false, 0, 0, 0, 0, 0, 0, 0, 0, 0, 0, 0⟩) (A := none) (n := 0) (c := 0) HZ.out
        have hb6 := below_setCells (vs := hls ⟨0, 0, 0, false, false, 0, 0, 0, 0, 0, 0, 0, 0, 0, 0, 0⟩ none 0 0) (i := 0) HB.out (Nat.le_refl _)
        dsimp only [hls] at hx6 hb6
        clear c0 c1 c2 c3 c4 c5 c6 c7 c8 c9 c10 c11 c12 c13 c14 c15 c16 hfz htot
        generalize World.setCells _ _ _ _ = w6 at hx6 hb6 ⊢
        have hc6 := hd_cells hx6
        dsimp only at hc6
        go_wp2
        refine bodyPost_ret (v := .tuple #[noHd, .int .i64 0, .int .i64 51]) ?_ rfl (HP51.out _ _ (Or.inr HU.out) ⟨none, 0, 0, rfl, Kd.R_nil _ _ _ _ _, hb6⟩)
        simp [results, Try.results19, go_sem, hc6]
      · have HU := Aside0.mk (not_or.2 ⟨hbad, htn⟩)
        go_wp2_with fail
        refine (HWH.out _ HB.out).mono ?_
        rintro e w5 ⟨rfl, hb5⟩
        dsimp only
        have hgi := blk_lt HH.out
        have hwi : w.heap.size < wi.heap.size := by omega
        have hsz : ∀ o : Obj, (wi.alloc o).heap.size = wi.heap.size + 1 := fun o => by simp
        have hZ5 := (hb5.block w.heap.size (by rw [hsz]; omega)).trans (((below_alloc1 wi _).block w.heap.size hwi).trans HZ.out)
        have hH5 := (hb5.block g (by rw [hsz]; omega)).trans (((below_alloc1 wi _).block g hgi).trans HH.out)
        have hR5 := Kd.R_below (Kd.R_alloc HR.out _) hb5
        have HB5 := Aside0.mk (below_then (HB.out.alloc (Nat.le_of_lt hwi) _) (by rw [hsz]; omega) hb5)
        rw [HD.out] at hH5
        have HR5 := Aside0.mk hR5
        have HZ5 := Aside0.mk hZ5
        clear c0 c1 c2 c3 c4 c5 c6 c7 c8 c9 c10 c11 c12 c13 c14 c15 c16 hfz htot hb5 hR5 hsz
        have hfz := fz_new hZ5
        obtain ⟨c0, c1, c2, c3, c4, c5, c6, c7, c8, c9, c10, c11, c12, c13, c14, c15, c16⟩ := hd_cells hZ5
        dsimp only at c0 c1 c2 c3 c4 c5 c6 c7 c8 c9 c10 c11 c12 c13 c14 c15 c16
        obtain ⟨k0, k1, k2, k3, k4, k5, k6, k7, k8, k9, k10, k11, k12, k13, k14, k15, k16⟩ := hd_cells hH5
        dsimp only at k0 k1 k2 k3 k4 k5 k6 k7 k8 k9 k10 k11 k12 k13 k14 k15 k16
        clear hZ5 hH5
        cases hwb : wholeB T4 with
        | false =>
          go_upto_region 15 with fail
          iterate 6 (first | go_values | go_skip | go_guarded | go_step | go_upon | go_back)
          have hx6 := hd_put (h := ⟨0, 0, 0, false, false, 0, 0, 0, 0, 0, 0, 0, 0, 0, 0, 0⟩) (A := none) (n := 0) (c := 0) HZ5.out
          have hb6 := below_setCells (vs := hls ⟨0, 0, 0, false, false, 0, 0, 0, 0, 0, 0, 0, 0, 0, 0, 0⟩ none 0 0) (i := 0) HB5.out (Nat.le_refl _)
          dsimp only [hls] at hx6 hb6
          clear c0 c1 c2 c3 c4 c5 c6 c7 c8 c9 c10 c11 c12 c13 c14 c15 c16 k0 k1 k2 k3 k4 k5 k6 k7 k8 k9 k10 k11 k12 k13 k14 k15 k16 hfz
          generalize World.setCells _ _ _ _ = w6 at hx6 hb6 ⊢
          have hc6 := hd_cells hx6
          dsimp only at hc6
          go_wp2
          refine bodyPost_ret (v := .tuple #[noHd, .int .i64 0, .int .i64 52]) ?_ rfl (HP52.out _ _ HU.out hwb ⟨none, 0, 0, rfl, Kd.R_nil _ _ _ _ _, hb6⟩)
          simp [results, Try.results19, go_sem, hc6]
        | true =>
          go_upto_region 16 with fail
          iterate 9 (first | go_values | go_skip | go_guarded | go_step | go_upon | go_back)
          have hx6 := hd_put (h := ⟨b1, tt, idd, decide (0 < bits .and .u16 fr 16384), decide (0 < bits .and .u16 fr 8192), bits .and .u16 fr 8191, b8, b9, s0, s1, s2, s3, d0, d1, d2, d3⟩) (A := A') (n := n') (c := c') HZ5.out
          have hb6 := below_setCells (vs := hls ⟨b1, tt, idd, decide (0 < bits .and .u16 fr 16384), decide (0 < bits .and .u16 fr 8192), bits .and .u16 fr 8191, b8, b9, s0, s1, s2, s3, d0, d1, d2, d3⟩ A' n' c') (i := 0) HB5.out (Nat.le_refl _)
          have hR6 := R_set (vs := hls ⟨b1, tt, idd, decide (0 < bits .and .u16 fr 16384), decide (0 < bits .and .u16 fr 8192), bits .and .u16 fr 8191, b8, b9, s0, s1, s2, s3, d0, d1, d2, d3⟩ A' n' c') HR5.out (Nat.lt_succ_self _)
          have hT34 : T3 = List.drop 20 T4 := by rw [HT3.out, HT4.out]; rfl
          rw [hT34] at hR6
          dsimp only [hls] at hx6 hb6 hR6
          clear c0 c1 c2 c3 c4 c5 c6 c7 c8 c9 c10 c11 c12 c13 c14 c15 c16 k0 k1 k2 k3 k4 k5 k6 k7 k8 k9 k10 k11 k12 k13 k14 k15 k16 hfz hT34
          generalize World.setCells _ _ _ _ = w6 at hx6 hb6 hR6 ⊢
          have hc6 := hd_cells hx6
          dsimp only at hc6
          go_wp2
          refine bodyPost_ret (v := .tuple #[.agg (hcs ⟨b1, tt, idd, decide (0 < bits .and .u16 fr 16384), decide (0 < bits .and .u16 fr 8192), bits .and .u16 fr 8191, b8, b9, s0, s1, s2, s3, d0, d1, d2, d3⟩ A' n' c'), .int .i64 N, .int .i64 0]) ?_ rfl (HP0.out _ _ HU.out hwb ⟨A', n', c', by rw [HD.out], Kd.R_lower hR6 (Nat.le_succ _), hb6⟩)
          simp [results, Try.results19, go_sem, hc6]
end Go.Proofs.Ytknpaihlnkcpgaa.Own
/- ip.Parse of any row. -/
set_option linter.unusedVariables false
set_option linter.unusedSimpArgs false
namespace Go.Proofs.Ytknpaihlnkcpgaa.Own
open Go.RowKit Go.Proofs.YtknpaihlnkcpgaaW.PrintWords Go.Proofs.YtknpaihlnkcpgaaW.PrintLast Go.Proofs.YtknpaihlnkcpgaaW.PrintMore
attribute [local go_sem ↓] ld17 ld4 sv_hd
attribute [local go_sem] run_sv_hd gv_some isV_some pick2_true stc nfz_false oc1_int oc1_bool oc1_string oc1_slice oc1_pointer oc1_func pick1_true setCells_new setCells_past setCells_drew

set_option maxRecDepth 100000 in
theorem parse_early (b : List Int) (A : Option Addr) (n c : Nat) (w : World) (k : Int) (hC : Kd.C (Kd.int .u8) w A n b) (hb : bytes b) (hn : 20 ≤ n)
    (h : (k = 50 ∧ b.getD 0 0 / 16 ≠ 4) ∨ (k = 51 ∧ b.getD 0 0 / 16 = 4 ∧ b.getD 0 0 % 16 * 4 < 20) ∨ (k = 10 ∧ b.getD 0 0 / 16 = 4 ∧ ¬ b.getD 0 0 % 16 * 4 < 20 ∧ (n : Int) < b.getD 0 0 % 16 * 4)) :
    Calls Try.prog 19 #[.slice A n c] w fun e w' => e = .returned (.tuple #[noHd, .int .i64 0, .int .i64 k]) ∧ Below w.heap.size w w' := by
  obtain ⟨ad, rfl, hx⟩ := Kd.at_int hC 0 (by omega) (by omega)
  have e0 : ad.add (0 : Int).toNat = ad := Addr.add_zero' ad
  have hx2 : w.cell? ad = some (.int .u8 (b.getD 0 0)) := by rw [e0] at hx; exact hx
  have hb0 := bytes_getD hb 0
  obtain ⟨x, ex⟩ : ∃ x, b.getD 0 0 = x := ⟨_, rfl⟩
  rw [ex] at hx2 hb0 h
  obtain ⟨xa, xb⟩ := hb0
  have hx3 := (below_alloc1 w (.cells (hcs ⟨0, 0, 0, false, false, 0, 0, 0, 0, 0, 0, 0, 0, 0, 0, 0⟩ none 0 0) 39)).cell (p := ad) (World.block_lt_of_cell? w _ hx2)
  rw [hx2] at hx3
  simp only [hcs] at hx3
  have hand := u8_and15 x xa xb
  have hc := hd_cells (heap_alloc_new w (.cells (hcs ⟨0, 0, 0, false, false, 0, 0, 0, 0, 0, 0, 0, 0, 0, 0, 0⟩ none 0 0) 39))
  simp only [hcs] at hc
  have HC := Aside0.mk hc
  clear hC hx e0 ex hb hc
  rcases h with ⟨rfl, h⟩ | ⟨rfl, h, h2⟩ | ⟨rfl, h, h2, h3⟩
  · have hneq : (x / 16 != 4) = true := by simpa using h
    clear h
    go_enter Try.func19, Try.ntmps19
    go_wp2
    refine bodyPost_ret (v := .tuple #[noHd, .int .i64 0, .int .i64 50]) ?_ rfl ⟨rfl, below_alloc1 w _⟩
    simp [results, Try.results19, go_sem, HC.out]
  · have hneq : (x / 16 != 4) = false := by rw [h]; rfl
    clear h
    go_enter Try.func19, Try.ntmps19
    go_wp2
    refine bodyPost_ret (v := .tuple #[noHd, .int .i64 0, .int .i64 51]) ?_ rfl ⟨rfl, below_alloc1 w _⟩
    simp [results, Try.results19, go_sem, HC.out]
  · have hneq : (x / 16 != 4) = false := by rw [h]; rfl
    clear h
    go_enter Try.func19, Try.ntmps19
    go_wp2
    refine bodyPost_ret (v := .tuple #[noHd, .int .i64 0, .int .i64 10]) ?_ rfl ⟨rfl, below_alloc1 w _⟩
    simp [results, Try.results19, go_sem, HC.out]
/-- the header's length, as its first byte says it -/
def hlen (b : List Int) : Nat := (b.getD 0 0 % 16 * 4).toNat
/-- the error of any row -/
def parseC (b : List Int) : Int :=
  if b.length < 20 then 10 else if b.getD 0 0 / 16 ≠ 4 then 50 else if hlen b < 20 then 51 else if b.length < hlen b then 10 else mainC b (hlen b)
def parseH (b : List Int) : Hd := if parseC b = 0 then hdOf b else zHd
def parseN (b : List Int) : Nat := if parseC b = 0 then hlen b else 0
def parseO (b : List Int) : List Int := if parseC b = 0 then (b.take (hlen b)).drop 20 else []
theorem parse_all (b : List Int) (A : Option Addr) (n c : Nat) (w : World) (hC : Kd.C (Kd.int .u8) w A n b) (hc : n ≤ c) (hb : bytes b) (hn : n ≤ 1000000) :
    Calls Try.prog 19 #[.slice A n c] w (ParseR w (parseH b) (parseN b) (parseC b) (parseO b)) := by
  have hl := hC.1
  have hh : (hlen b : Int) = b.getD 0 0 % 16 * 4 := by
    have := bytes_getD hb 0
    unfold hlen
    omega
  have bad : ∀ k : Int, k ≠ 0 → parseC b = k → ∀ e w', (e = .returned (.tuple #[noHd, .int .i64 0, .int .i64 k]) ∧ Below w.heap.size w w') → ParseR w (parseH b) (parseN b) (parseC b) (parseO b) e w' := fun k hk0 hk e w' h => by
    have h1 : parseH b = zHd := by unfold parseH; rw [hk, if_neg hk0]
    have h2 : parseN b = 0 := by unfold parseN; rw [hk, if_neg hk0]
    have h3 : parseO b = [] := by unfold parseO; rw [hk, if_neg hk0]
    rw [h1, h2, h3, hk]
    exact ⟨none, 0, 0, h.1, Kd.R_nil _ _ _ _ _, h.2⟩
  by_cases h1 : b.length < 20
  · exact (parse_short A n c w (by omega)).mono (bad 10 (by decide) (by unfold parseC; rw [if_pos h1]))
  by_cases h2 : b.getD 0 0 / 16 ≠ 4
  · exact (parse_early b A n c w 50 hC hb (by omega) (.inl ⟨rfl, h2⟩)).mono (bad 50 (by decide) (by unfold parseC; rw [if_neg h1, if_pos h2]))
  by_cases h3 : hlen b < 20
  · exact (parse_early b A n c w 51 hC hb (by omega) (.inr (.inl ⟨rfl, Classical.not_not.1 h2, by omega⟩))).mono (bad 51 (by decide) (by unfold parseC; rw [if_neg h1, if_neg h2, if_pos h3]))
  by_cases h4 : b.length < hlen b
  · exact (parse_early b A n c w 10 hC hb (by omega) (.inr (.inr ⟨rfl, Classical.not_not.1 h2, by omega, by omega⟩))).mono (bad 10 (by decide) (by unfold parseC; rw [if_neg h1, if_neg h2, if_neg h3, if_pos h4]))
  have hC0 : parseC b = mainC b (hlen b) := by unfold parseC; rw [if_neg h1, if_neg h2, if_neg h3, if_neg h4]
  refine (parse_main b A n c (hlen b) w hC hc hb hn (Classical.not_not.1 h2) hh (by omega) (by omega)).mono fun e w' h => ?_
  unfold ParseQ at h
  rw [← hC0] at h
  unfold parseH parseN parseO
  by_cases h0 : parseC b = 0
  · rw [if_pos h0] at h
    rw [if_pos h0, if_pos h0, if_pos h0, h0]
    exact h
  · rw [if_neg h0] at h
    rw [if_neg h0, if_neg h0, if_neg h0]
    exact h
end Go.Proofs.Ytknpaihlnkcpgaa.Own
/- ip.Body. -/
set_option linter.unusedVariables false
set_option linter.unusedSimpArgs false
namespace Go.Proofs.Ytknpaihlnkcpgaa.Own
open Go.RowKit Go.Proofs.YtknpaihlnkcpgaaW.PrintWords Go.Proofs.YtknpaihlnkcpgaaW.PrintLast Go.Proofs.YtknpaihlnkcpgaaW.PrintMore
attribute [local go_sem ↓] ld17 ld4 sv_hd
attribute [local go_sem] run_sv_hd gv_some isV_some pick2_true stc nfz_false oc1_int oc1_bool oc1_string oc1_slice oc1_pointer oc1_func pick1_true setCells_new setCells_past setCells_drew

theorem parse_ok {b : List Int} (h : parseC b = 0) : 20 ≤ hlen b ∧ hlen b ≤ b.length ∧ parseH b = hdOf b ∧ parseN b = hlen b ∧ (hlen b : Int) ≤ w16 b 2 ∧ wholeB (b.take (hlen b)) = true ∧ b.getD 0 0 / 16 = 4 ∧ ¬ 0 < bits .and .u16 (w16 b 6) 32768 := by
  have hH : parseH b = hdOf b := by unfold parseH; rw [if_pos h]
  have hN : parseN b = hlen b := by unfold parseN; rw [if_pos h]
  unfold parseC at h
  by_cases h1 : b.length < 20
  · rw [if_pos h1] at h; exact absurd h (by decide)
  rw [if_neg h1] at h
  by_cases h2 : b.getD 0 0 / 16 ≠ 4
  · rw [if_pos h2] at h; exact absurd h (by decide)
  rw [if_neg h2] at h
  by_cases h3 : hlen b < 20
  · rw [if_pos h3] at h; exact absurd h (by decide)
  rw [if_neg h3] at h
  by_cases h4 : b.length < hlen b
  · rw [if_pos h4] at h; exact absurd h (by decide)
  rw [if_neg h4] at h
  unfold mainC at h
  by_cases h5 : 0 < bits .and .u16 (w16 b 6) 32768 ∨ w16 b 2 < hlen b
  · rw [if_pos h5] at h; exact absurd h (by decide)
  rw [if_neg h5] at h
  obtain ⟨h6, h7⟩ := not_or.1 h5
  cases h8 : wholeB (b.take (hlen b)) with
  | false => rw [h8] at h; exact absurd h (by decide)
  | true => exact ⟨by omega, by omega, hH, hN, by omega, rfl, Classical.not_not.1 h2, h6⟩

/-- b[a:j], where j is of kind u16 -/
theorem cut_mid16 (A : Option Addr) (n c : Nat) (xs : List Int) (a b : Int) (hn : xs.length = n) (h0 : 0 ≤ a) (h1 : a ≤ b) (hm : b ≤ n) (hc : n ≤ c) :
    ∃ (T : List Int) (A' : Option Addr) (m c' : Nat), (∀ W : World, (Instr.slice 22 (.slice A n c) (some (.int .i64 a)) (some (.int .u16 b)) none).run Try.prog W = .ok (.slice A' m c') W) ∧
      (∀ w : World, Kd.C (Kd.int .u8) w A n xs → Kd.C (Kd.int .u8) w A' m T) ∧ m ≤ c' ∧ T = (xs.take b.toNat).drop a.toNat ∧ (m : Int) = b - a := by
  subst hn
  obtain ⟨i, hi, hz⟩ := Option.map_eq_some_iff.1 info_u8
  simp only [Prod.mk.injEq] at hz
  obtain ⟨A', h1', h2, h3⟩ := print_mid_of (P := Try.prog) (Value.int .u8) (0 : Int) 22 5 .i64 .u16 Try.underlying22 hi hz.2.1 A c xs a b h0 h1 hm hc
  exact ⟨_, _, _, _, h1', fun w h => Kd.C_of_reads (d := (0 : Int)) (h1 := fun _ => rfl) (h2 w (Kd.reads_of_C (enc := Value.int .u8) (d := (0 : Int)) (h1 := fun _ => rfl) h)), h3, rfl, by rw [List.length_drop, List.length_take]; omega⟩
/-- the error, and the row, that ip.Body answers -/
def bodyC (b : List Int) : Int := if parseC b ≠ 0 then parseC b else if (b.length : Int) < w16 b 2 then 10 else 0
def bodyL (b : List Int) : List Int := if bodyC b = 0 then (b.take (w16 b 2).toNat).drop (hlen b) else []
set_option maxRecDepth 100000 in
set_option maxHeartbeats 4000000 in
theorem body_any (b : List Int) (A : Option Addr) (n c : Nat) (w : World) (hC : Kd.C (Kd.int .u8) w A n b) (hc : n ≤ c) (hb : bytes b) (hn : n ≤ 1000000) :
    Calls Try.prog 25 #[.slice A n c] w fun e w' => ∃ A1 n1 c1, e = .returned (.tuple #[.slice A1 n1 c1, .int .i64 (bodyC b)]) ∧ Kd.R (Kd.int .u8) 5 w' w.heap.size (fun _ => True) (.slice A1 n1 c1) (bodyL b) ∧ Below w.heap.size w w' := by
  have hln := hC.1
  by_cases h0 : parseC b = 0
  · obtain ⟨f1, f2, f3, f4, f5, f6, f7, f8⟩ := parse_ok h0
    have hp := parse_all b A n c w hC hc hb hn
    obtain ⟨tr0, tr1⟩ := w16_range hb 2
    obtain ⟨H, eH⟩ : ∃ H, parseH b = H := ⟨_, rfl⟩
    have htt : H.total = w16 b 2 := by rw [← eH, f3]; rfl
    rw [h0, f4, eH] at hp
    obtain ⟨N, eN⟩ : ∃ N, hlen b = N := ⟨_, rfl⟩
    rw [eN] at hp f1 f2 f5
    obtain ⟨tt, ett⟩ : ∃ v, w16 b 2 = v := ⟨_, rfl⟩
    rw [ett] at htt f5 tr0 tr1
    obtain ⟨tos, total, id, df, mf, frag, ttl, proto, s0, s1, s2, s3, d0, d1, d2, d3⟩ := H
    dsimp only at htt
    subst htt
    by_cases hs : (n : Int) < total
    · have e1 : bodyC b = 10 := by unfold bodyC; rw [if_neg (Classical.not_not.2 h0), if_pos (by rw [ett]; omega)]
      have e2 : bodyL b = [] := by unfold bodyL; rw [e1]; rfl
      rw [e1, e2]
      have HP := Aside0.mk hp
      clear hC hp e1 e2 eH f3 f4 f6 f7 f8 h0 hln eN ett
      go_enter Try.func25, Try.ntmps25
      go_wp2_with fail
      refine HP.out.mono ?_
      rintro e w1 ⟨A1, n1, c1, rfl, hR, hb1⟩
      dsimp only
      have HB1 := Aside0.mk hb1
      clear hR hb1
      go_wp2_with fail
      refine bodyPost_ret (results_tmp2 rfl _ _ _) rfl ?_
      exact ⟨none, 0, 0, rfl, Kd.R_nil _ _ _ _ _, HB1.out.alloc HB1.out.size _⟩
    · have e1 : bodyC b = 0 := by unfold bodyC; rw [if_neg (Classical.not_not.2 h0), if_neg (by rw [ett]; omega)]
      have e2 : bodyL b = (b.take total.toNat).drop N := by unfold bodyL; rw [if_pos e1, ett, eN]
      rw [e1, e2]
      obtain ⟨T3, A3, m3, c3, hcut3, hrd3, hmc3, hT3, hm3⟩ := cut_mid16 A n c b N total hln (by omega) (by omega) (by omega) hc
      have hT3' : T3 = (b.take total.toNat).drop N := by rw [hT3]; rfl
      rw [← hT3']
      have HC3 := Aside0.mk (fun W (hW : Below w.heap.size w W) => clone_any T3 A3 m3 c3 W (Kd.C_below (hrd3 w hC) hW) (by omega))
      have HP := Aside0.mk hp
      clear hC hp e1 e2 eH f3 f4 f6 f7 f8 h0 hln eN ett hT3 hT3' hrd3 hm3
      go_enter Try.func25, Try.ntmps25
      go_wp2_with fail
      refine HP.out.mono ?_
      rintro e w1 ⟨A1, n1, c1, rfl, hR, hb1⟩
      dsimp only
      have HB1 := Aside0.mk hb1
      clear hR hb1
      go_wp2_with fail
      refine (HC3.out _ (HB1.out.alloc HB1.out.size _)).mono ?_
      rintro e w2 ⟨v, rfl, hR2, hb2⟩
      obtain ⟨A', c', rfl⟩ := Kd.R_slice hR2
      dsimp only
      have hs1 := HB1.out.size
      have HB2 := Aside0.mk (below_then (HB1.out.alloc HB1.out.size _) (by simp; omega) hb2)
      have HR2 := Aside0.mk (Kd.R_lower hR2 (show w.heap.size ≤ _ by simp; omega))
      clear hR2 hb2 hs1
      go_wp2_with fail
      refine bodyPost_ret (results_tmp2 rfl _ _ _) rfl ?_
      exact ⟨_, _, _, rfl, HR2.out, HB2.out⟩
  · have e1 : bodyC b = parseC b := by unfold bodyC; rw [if_pos h0]
    have e2 : bodyL b = [] := by unfold bodyL; rw [e1, if_neg h0]
    have hp := parse_all b A n c w hC hc hb hn
    obtain ⟨H, eH⟩ : ∃ H, parseH b = H := ⟨_, rfl⟩
    obtain ⟨k, ek⟩ : ∃ k, parseC b = k := ⟨_, rfl⟩
    rw [e1, e2]
    rw [eH] at hp
    rw [ek] at hp h0 ⊢
    obtain ⟨tos, total, id, df, mf, frag, ttl, proto, s0, s1, s2, s3, d0, d1, d2, d3⟩ := H
    have HP := Aside0.mk hp
    clear hC hp e1 e2 eH hln ek
    go_enter Try.func25, Try.ntmps25
    go_wp2_with fail
    refine HP.out.mono ?_
    rintro e w1 ⟨A1, n1, c1, rfl, hR, hb1⟩
    dsimp only
    have HB1 := Aside0.mk hb1
    clear hR hb1
    go_wp2_with fail
    refine bodyPost_ret (results_tmp2 rfl _ _ _) rfl ?_
    exact ⟨none, 0, 0, rfl, Kd.R_nil _ _ _ _ _, HB1.out.alloc HB1.out.size _⟩
end Go.Proofs.Ytknpaihlnkcpgaa.Own
/- ip.Hop. -/
set_option linter.unusedVariables false
set_option linter.unusedSimpArgs false
namespace Go.Proofs.Ytknpaihlnkcpgaa.Own
open Go.RowKit Go.Proofs.YtknpaihlnkcpgaaW.PrintWords Go.Proofs.YtknpaihlnkcpgaaW.PrintLast Go.Proofs.YtknpaihlnkcpgaaW.PrintMore
attribute [local go_sem ↓] ld17 ld4 sv_hd
attribute [local go_sem] run_sv_hd gv_some isV_some pick2_true stc nfz_false oc1_int oc1_bool oc1_string oc1_slice oc1_pointer oc1_func pick1_true setCells_new setCells_past setCells_drew

/-- the error, and the row, that ip.Hop answers -/
def hopC (b : List Int) : Int := if parseC b ≠ 0 then parseC b else if b.getD 8 0 = 0 then 51 else 0
def hopS (b : List Int) : Int := chg (w16 b 10) (w16 b 8) (w16 (b.set 8 (b.getD 8 0 - 1)) 8)
def hopL (b : List Int) : List Int := if hopC b = 0 then ((b.set 8 (b.getD 8 0 - 1)).set 10 (hopS b / 256)).set 11 (hopS b % 256) else []
theorem chg_range (s f t : Int) (s0 : 0 ≤ s) (s1 : s ≤ 65535) (f0 : 0 ≤ f) (f1 : f ≤ 65535) (t0 : 0 ≤ t) (t1 : t ≤ 65535) : 0 ≤ chg s f t ∧ chg s f t ≤ 65535 := by
  obtain ⟨r0, r1⟩ := cf_range (65535 - s + (65535 - f) + t) (by omega)
  unfold chg
  omega
set_option maxRecDepth 100000 in
set_option maxHeartbeats 4000000 in
theorem hop_any (b : List Int) (A : Option Addr) (n c : Nat) (w : World) (hC : Kd.C (Kd.int .u8) w A n b) (hc : n ≤ c) (hb : bytes b) (hn : n ≤ 1000000) :
    Calls Try.prog 21 #[.slice A n c] w fun e w' => ∃ A1 n1 c1, e = .returned (.tuple #[.slice A1 n1 c1, .int .i64 (hopC b)]) ∧ Kd.R (Kd.int .u8) 5 w' w.heap.size (fun _ => True) (.slice A1 n1 c1) (hopL b) ∧ Below w.heap.size w w' := by
  have hln := hC.1
  by_cases h0 : parseC b = 0
  · obtain ⟨f1, f2, f3, f4, f5, f6, f7, f8⟩ := parse_ok h0
    have hp := parse_all b A n c w hC hc hb hn
    obtain ⟨q0, q1⟩ := bytes_getD hb 8
    obtain ⟨H, eH⟩ : ∃ H, parseH b = H := ⟨_, rfl⟩
    have htt : H.ttl = b.getD 8 0 := by rw [← eH, f3]; rfl
    rw [h0, eH] at hp
    obtain ⟨tos, total, id, df, mf, frag, ttl, proto, s0, s1, s2, s3, d0, d1, d2, d3⟩ := H
    dsimp only at htt
    obtain ⟨t8, et8⟩ : ∃ v, b.getD 8 0 = v := ⟨_, rfl⟩
    rw [et8] at htt q0 q1
    subst htt
    by_cases hz : ttl = 0
    · have e1 : hopC b = 51 := by unfold hopC; rw [if_neg (Classical.not_not.2 h0), if_pos (by rw [et8]; exact hz)]
      have e2 : hopL b = [] := by unfold hopL; rw [e1]; rfl
      rw [e1, e2]
      have HP := Aside0.mk hp
      clear hC hp e1 e2 eH f1 f2 f3 f4 f5 f6 f7 f8 h0 hln et8
      go_enter Try.func21, Try.ntmps21
      go_wp2_with fail
      refine HP.out.mono ?_
      rintro e w1 ⟨A1, n1, c1, rfl, hR, hb1⟩
      dsimp only
      have HB1 := Aside0.mk hb1
      clear hR hb1
      go_wp2_with fail
      refine bodyPost_ret (results_tmp2 rfl _ _ _) rfl ?_
      exact ⟨none, 0, 0, rfl, Kd.R_nil _ _ _ _ _, HB1.out.alloc HB1.out.size _⟩
    · have e1 : hopC b = 0 := by unfold hopC; rw [if_neg (Classical.not_not.2 h0), if_neg (by rw [et8]; exact hz)]
      obtain ⟨nn, enn⟩ : ∃ v, hopS b = v := ⟨_, rfl⟩
      have e2 : hopL b = ((b.set 8 (ttl - 1)).set 10 (nn / 256)).set 11 (nn % 256) := by unfold hopL; rw [if_pos e1, et8, enn]
      rw [e1, e2]
      have hbs : bytes (b.set 8 (ttl - 1)) := bytes_set hb 8 (ttl - 1) (by omega) (by omega)
      have hn20 : 20 ≤ n := by omega
      have r10 := w16_range hb 10
      have r8 := w16_range hb 8
      have rb := w16_range hbs 8
      unfold hopS at enn
      rw [et8] at enn
      have HW10 := Aside0.mk (fun W (hW : Below w.heap.size w W) => word_any b A n c 10 10 rfl W (Kd.C_below hC hW) hc hb (by omega))
      have HW8 := Aside0.mk (fun W (hW : Below w.heap.size w W) => word_any b A n c 8 8 rfl W (Kd.C_below hC hW) hc hb (by omega))
      have HWX := Aside0.mk (fun A' c' W (hW : Kd.C (Kd.int .u8) W A' n (b.set 8 (ttl - 1))) (hcc : n ≤ c') => word_any (b.set 8 (ttl - 1)) A' n c' 8 8 rfl W hW hcc hbs (by omega))
      have HCH := Aside0.mk (fun W => change_any (w16 b 10) (w16 b 8) (w16 (b.set 8 (ttl - 1)) 8) W r10.1 r10.2 r8.1 r8.2 rb.1 rb.2)
      have hnr : 0 ≤ nn ∧ nn ≤ 65535 := by rw [← enn]; exact chg_range _ _ _ r10.1 r10.2 r8.1 r8.2 rb.1 rb.2
      rw [enn] at HCH
      obtain ⟨a10, ea10⟩ : ∃ v, w16 b 10 = v := ⟨_, rfl⟩
      obtain ⟨a8, ea8⟩ : ∃ v, w16 b 8 = v := ⟨_, rfl⟩
      obtain ⟨ax, eax⟩ : ∃ v, w16 (b.set 8 (ttl - 1)) 8 = v := ⟨_, rfl⟩
      rw [ea10, ea8, eax] at HCH
      change Aside0 (∀ W, Below w.heap.size w W → Calls Try.prog 39 #[.slice A n c, .int .i64 10] W fun e w' => e = .returned (.int .u16 (w16 b 10)) ∧ W = w') at HW10
      change Aside0 (∀ W, Below w.heap.size w W → Calls Try.prog 39 #[.slice A n c, .int .i64 8] W fun e w' => e = .returned (.int .u16 (w16 b 8)) ∧ W = w') at HW8
      change Aside0 (∀ A' c' W, _ → _ → Calls Try.prog 39 #[.slice A' n c', .int .i64 8] W fun e w' => e = .returned (.int .u16 (w16 (b.set 8 (ttl - 1)) 8)) ∧ W = w') at HWX
      rw [ea10] at HW10
      rw [ea8] at HW8
      rw [eax] at HWX
      obtain ⟨n0, n1'⟩ := hnr
      have HCL := Aside0.mk (fun W (hW : Below w.heap.size w W) => clone_any b A n c W (Kd.C_below hC hW) (by omega))
      have HP := Aside0.mk hp
      have HL := Aside0.mk hln
      have hw1 : IntKind.u8.wrap (ttl - 1) = ttl - 1 := IntWalk.u8_in _ (by omega)
      have E8 := Aside0.mk et8
      clear hC hp e1 e2 eH f1 f2 f3 f4 f5 f6 f7 f8 h0 hln et8 enn ea10 ea8 eax r10 r8 rb hb hbs
      go_enter Try.func21, Try.ntmps21
      go_wp2_with fail
      refine HP.out.mono ?_
      rintro e w1 ⟨A1, n1, c1, rfl, hR, hb1⟩
      dsimp only
      have HB1 := Aside0.mk hb1
      clear hR hb1
      go_wp2_with fail
      refine (HCL.out _ (HB1.out.alloc HB1.out.size _)).mono ?_
      rintro e w2 ⟨v, rfl, hR2, hb2⟩
      obtain ⟨A', c', rfl⟩ := Kd.R_slice hR2
      dsimp only
      rw [HL.out] at hR2 ⊢
      have hs1 := HB1.out.size
      have hb2' := below_then (HB1.out.alloc HB1.out.size _) (by simp; omega) hb2
      have hR2 := Kd.R_lower hR2 (show w.heap.size ≤ _ by simp; omega)
      obtain ⟨ga, capa, e4, hga, _, _⟩ := Kd.R_form hR2 (by have := HL.out; omega)
      obtain rfl : A' = some ⟨ga, 0, none⟩ := by injection e4
      obtain ⟨hcx, hfx⟩ := Kd.R_celln (0 : Int) hR2 8 (by omega) (by omega)
      have ex : (8 : Int).toNat = 8 := rfl
      rw [ex] at hcx hfx
      have e8 : rdOf 0 b 8 = ttl := E8.out
      rw [e8] at hcx
      have HPN := Aside0.mk (fun y => Kd.R_putn hR2 (8 : Int) y)
      have HB2 := Aside0.mk hb2'
      have HGA := Aside0.mk hga
      clear hR2 hb2 hb2' hs1 hga e4 e8 ex
      go_upto_region 8 with fail
      have hR3 := HPN.out (ttl - 1)
      have hB3 := HB2.out.setCell (p := ⟨ga, 8, none⟩) HGA.out (.int .u8 (ttl - 1))
      have ex : (8 : Int).toNat = 8 := rfl
      rw [ex] at hR3
      clear HPN hcx hfx
      generalize w2.setCell ⟨ga, 8, none⟩ (.int .u8 (ttl - 1)) = w3 at hR3 hB3 ⊢
      have hC3 := (C_of_R hR3).1
      have hcc := (C_of_R hR3).2
      have hx10 := Kd.R_celln (0 : Int) hR3 10 (by omega) (by omega)
      have hx11 := Kd.R_celln (0 : Int) hR3 11 (by omega) (by omega)
      have ex1 : (10 : Int).toNat = 10 := rfl
      have ex2 : (11 : Int).toNat = 11 := rfl
      rw [ex1] at hx10
      rw [ex2] at hx11
      obtain ⟨hcx10, hfx10⟩ := hx10
      obtain ⟨hcx11, hfx11⟩ := hx11
      have HR3 := Aside0.mk hR3
      have HC3 := Aside0.mk hC3
      have HCC := Aside0.mk hcc
      have HB3 := Aside0.mk hB3
      have hs8 : IntKind.u8.wrap (nn / 256) = nn / 256 := IntWalk.u8_in _ (by omega)
      have hs9 : IntKind.u8.wrap nn = nn % 256 := by
        rw [IntKind.wrap_u8]
      clear hR3 hC3 hcc hB3 ex ex1 ex2
      go_upto_region 9 with (first | (with_reducible refine (HW10.out _ HB3.out).mono ?_; rintro e w4 ⟨rfl, rfl⟩) | (with_reducible refine (HW8.out _ HB3.out).mono ?_; rintro e w4 ⟨rfl, rfl⟩) | (with_reducible refine (HWX.out _ _ _ HC3.out HCC.out).mono ?_; rintro e w4 ⟨rfl, rfl⟩) | (with_reducible refine (HCH.out _).mono ?_; rintro e w4 ⟨rfl, rfl⟩))
      go_wp2_with fail
      refine bodyPost_ret (results_tmp2 rfl _ _ _) rfl ?_
      exact ⟨_, _, _, rfl, Kd.R_putn (Kd.R_putn HR3.out 10 _) 11 _, (HB3.out.setCell (p := ⟨ga, 10, none⟩) HGA.out _).setCell (p := ⟨ga, 11, none⟩) HGA.out _⟩
  · have e1 : hopC b = parseC b := by unfold hopC; rw [if_pos h0]
    have e2 : hopL b = [] := by unfold hopL; rw [e1, if_neg h0]
    have hp := parse_all b A n c w hC hc hb hn
    obtain ⟨H, eH⟩ : ∃ H, parseH b = H := ⟨_, rfl⟩
    obtain ⟨k, ek⟩ : ∃ k, parseC b = k := ⟨_, rfl⟩
    rw [e1, e2]
    rw [eH] at hp
    rw [ek] at hp h0 ⊢
    obtain ⟨tos, total, id, df, mf, frag, ttl, proto, s0, s1, s2, s3, d0, d1, d2, d3⟩ := H
    have HP := Aside0.mk hp
    clear hC hp e1 e2 eH hln ek
    go_enter Try.func21, Try.ntmps21
    go_wp2_with fail
    refine HP.out.mono ?_
    rintro e w1 ⟨A1, n1, c1, rfl, hR, hb1⟩
    dsimp only
    have HB1 := Aside0.mk hb1
    clear hR hb1
    go_wp2_with fail
    refine bodyPost_ret (results_tmp2 rfl _ _ _) rfl ?_
    exact ⟨none, 0, 0, rfl, Kd.R_nil _ _ _ _ _, HB1.out.alloc HB1.out.size _⟩
end Go.Proofs.Ytknpaihlnkcpgaa.Own
/- octroiref01.Get of two bytes. -/
set_option linter.unusedVariables false
set_option linter.unusedSimpArgs false
namespace Go.Proofs.Ytknpaihlnkcpgaa.Own
open Go.RowKit Go.Proofs.YtknpaihlnkcpgaaW.PrintWords Go.Proofs.YtknpaihlnkcpgaaW.PrintLast Go.Proofs.YtknpaihlnkcpgaaW.PrintMore

/-- what is read of two bytes -/
def part2 (b : List Int) (i k : Nat) : Int := if k = 0 then 0 else if k = 1 then b.getD i 0 else w16 b i
set_option maxRecDepth 100000 in
theorem rget2_any (b : List Int) (A : Option Addr) (n c i : Nat) (w : World) (hC : Kd.C (Kd.int .u8) w A n b) (hb : bytes b) (hn : i + 2 ≤ n) (hn2 : n ≤ 1000000) :
    Calls Try.prog 43 #[.slice A n c, .int .i64 i, .int .i64 2] w fun e w' => e = .returned (.tuple #[.int .u64 (w16 b i), .int .i64 0]) ∧ w = w' := by
  obtain ⟨x0a, x0b⟩ := bytes_getD hb i
  obtain ⟨x1a, x1b⟩ := bytes_getD hb (i + 1)
  have hg0 := Kd.at_int hC i (by omega) (by omega)
  have hg1 := Kd.at_int hC (i + 1) (by omega) (by omega)
  obtain ⟨ad, rfl, hx0⟩ := hg0
  obtain ⟨ad', e', hx1⟩ := hg1
  cases e'
  have e0 : part2 b i 0 = 0 := rfl
  have e1 : part2 b i 1 = b.getD i 0 := rfl
  have e2 : part2 b i 2 = w16 b i := rfl
  have ew : w16 b i = b.getD i 0 * 256 + b.getD (i + 1) 0 := rfl
  have hx0 : w.cell? (ad.add i) = some (.int .u8 (b.getD i 0)) := hx0
  have hx1 : w.cell? ⟨ad.block, ad.off + (i + 1), none⟩ = some (.int .u8 (b.getD (i + 1) 0)) := by
    have e : ad.add ((i : Int) + 1).toNat = ⟨ad.block, ad.off + (i + 1), none⟩ := by
      have : ((i : Int) + 1).toNat = i + 1 := by omega
      rw [this]; unfold Addr.add; rw [if_neg (by omega)]
    rw [e] at hx1
    exact hx1
  obtain ⟨y0, ey0⟩ : ∃ v, b.getD i 0 = v := ⟨_, rfl⟩
  obtain ⟨y1, ey1⟩ : ∃ v, b.getD (i + 1) 0 = v := ⟨_, rfl⟩
  obtain ⟨ws, ews⟩ : ∃ v, w16 b i = v := ⟨_, rfl⟩
  rw [ey0, ey1, ews] at ew
  rw [ey0] at e1 hx0 x0a x0b
  rw [ey1] at hx1 x1a x1b
  rw [ews] at e2 ⊢
  clear ey0 ey1 ews
  have HX0 := Aside0.mk hx0
  have HX1 := Aside0.mk hx1
  clear hC hb hx0 hx1
  go_enter Try.func43, Try.ntmps43
  go_wp2_with fail
  go_loopw [8, 9] (fun q r wr => wr = w ∧ ∃ k : Nat, k ≤ 2 ∧ r = .int .i64 k ∧ q = .int .u64 (part2 b i k)) (fun _ r _ => 2 - (intOf r).toNat)
  case atStart => exact ⟨rfl, 0, by omega, rfl, rfl⟩
  case round =>
    obtain ⟨rfl, k, hk, rfl, rfl⟩ := hrel
    have hx0 := HX0.out
    have hx1 := HX1.out
    rcases (by omega : k = 0 ∨ k = 1 ∨ k = 2) with rfl | rfl | rfl
    · rw [e0]
      have hlt : ¬ (n : Int) ≤ i := by omega
      have hlt2 : ¬ (n : Int) < i := by omega
      have hi : (i : Int) < n := by omega
      go_wp2
      go_roundw
      case rel => exact ⟨trivial, 1, by omega, by go_num, by rw [e1]⟩
      case measure => simp [intOf]
    · rw [e1]
      have hlt2 : ¬ (n : Int) < i := by omega
      have hi : (i : Int) + 1 < n := by omega
      go_wp2
      go_roundw
      case rel => exact ⟨trivial, 2, by omega, by go_num, by rw [e2, ew]⟩
      case measure => simp [intOf]
    · rw [e2]
      go_wp2
      refine bodyPost_ret (results_tmp2 rfl _ _ _) rfl ?_
      exact ⟨rfl, rfl⟩
end Go.Proofs.Ytknpaihlnkcpgaa.Own
/- bits.Writer.Set. -/
set_option linter.unusedVariables false
set_option linter.unusedSimpArgs false
namespace Go.Proofs.Ytknpaihlnkcpgaa.Own
open Go.RowKit Go.Proofs.YtknpaihlnkcpgaaW.PrintWords Go.Proofs.YtknpaihlnkcpgaaW.PrintLast Go.Proofs.YtknpaihlnkcpgaaW.PrintMore

theorem one_u8 : (Try.prog.info? 5).map (·.size) = some 1 := by kernel_rfl
theorem splice_len (L : List Int) (k : Nat) (l : List Int) (h : k + l.length ≤ L.length) : (splice L k l).length = L.length := length_splice L k l h
theorem splice_cells (cur : List Value) (bs l : List Int) (k m c : Nat) (hm : bs.length = m) (hk : k + l.length ≤ m) (htk : cur.take m = encs (Value.int .u8) bs) (hmc : m ≤ cur.length) (hc : c = l.length) :
    (cur.take k ++ (nums .u8 l ++ cur.drop (k + c))).length = cur.length ∧ (cur.take k ++ (nums .u8 l ++ cur.drop (k + c))).take m = encs (Value.int .u8) (splice bs k l) := by
  subst hc
  have hn : (nums .u8 l).length = l.length := nums_length _ _
  refine ⟨by simp [hn]; omega, ?_⟩
  have hcur : cur = encs (Value.int .u8) bs ++ cur.drop m := by rw [← htk, List.take_append_drop]
  have hel : (encs (Value.int .u8) bs).length = m := by simp [encs, hm]
  rw [hcur]
  generalize cur.drop m = R
  have e1 : (encs (Value.int .u8) bs ++ R).take k = (encs (Value.int .u8) bs).take k := List.take_append_of_le_length (by omega)
  have e2 : (encs (Value.int .u8) bs ++ R).drop (k + l.length) = (encs (Value.int .u8) bs).drop (k + l.length) ++ R := List.drop_append_of_le_length (by omega)
  rw [e1, e2, ← List.append_assoc, ← List.append_assoc]
  have hlen : (List.take k (encs (Value.int .u8) bs) ++ nums .u8 l ++ List.drop (k + l.length) (encs (Value.int .u8) bs)).length = m := by
    simp [hn, hel]; omega
  rw [List.take_left' hlen]
  simp [encs, splice, nums, List.map_take, List.map_drop]
set_option maxRecDepth 100000 in
set_option maxHeartbeats 4000000 in
theorem wset_any (base g t : Nat) (bs : List Int) (k : Nat) (v : Int) (n : Nat) (w : World) (hw : WrAt w base g t bs) (hbase : base ≤ g) (ht : t ≠ 5) (hbn : bs.length ≤ 1000000)
    (h0 : 0 ≤ v) (h1 : v < 256 ^ 8) (hn : 1 ≤ n) (hn8 : n ≤ 8) (hv : v < 256 ^ n) (hk : k + n ≤ bs.length) :
    Calls Try.prog 35 #[.pointer (some ⟨g, 0, none⟩), .int .i64 k, .int .u64 v, .int .i64 n] w fun e w' => e = .returned (.int .i64 0) ∧ WrAt w' base g t (splice bs k (be n v)) ∧ Below g w w' := by
  have hf := fits_any v n w h0 h1
  rw [fits_ok v n h0 h1 hn hn8 hv] at hf
  have ho := fun W => num_of v n W h0 h1 hn8
  obtain ⟨x, hg, hR⟩ := hw
  have hown := Kd.own_of_R hR
  obtain ⟨hlen, ⟨_, hz⟩ | ⟨g0, cap, cur, rfl, hgb, hg0, hcap, hmax, hcs, htk⟩⟩ := hown
  · omega
  have hlt := blk_lt hg
  have hg0lt : g < g0 := hR.1 g0 rfl
  obtain ⟨m, hm⟩ : ∃ m, bs.length = m := ⟨_, rfl⟩
  rw [hm] at hg hR hcap htk hk hbn
  have hcell : w.cell? ⟨g, 0, none⟩ = some (.slice (some ⟨g0, 0, none⟩) m cap) := (blk_cell hg 0).trans rfl
  have HN := Aside0.mk (be_length n v)
  have hspl : (splice bs k (be n v)).length = m := by rw [splice_len bs k (be n v) (by rw [be_length]; omega), hm]
  have hml := be_length n v
  have hSC := Aside0.mk (splice_cells cur.toList bs (be n v) k m ((be n v).length.min (m - k)) hm (by rw [hml]; omega) (by simpa using htk) (by simp; omega) (by rw [hml]; exact Nat.min_eq_left (by omega)))
  clear h1 hv hml
  go_enter Try.func35, Try.ntmps35
  have d1 : ¬ (k : Int) < 0 := by omega
  have d2 : ¬ (m : Int) < k := by omega
  have d3 : ¬ (m : Int) - k < n := by omega
  go_wp2_with (go_at_call 52; (with_reducible refine hf.mono ?_); clear hf; rintro e w' ⟨rfl, rfl⟩)
  have hkm : k ≤ m := by omega
  have hkc : k < cap := by omega
  clear d1 d2 d3
  have hg0l := blk_lt hg0
  have hbp : 0 < (be n v).length := by rw [HN.out]; omega
  have hmin : (nums .u8 (be n v)).length = Nat.min (be n v).length (m - k) := by rw [nums_length, HN.out]; exact (Nat.min_eq_left (by omega)).symm
  have hfit : k + (nums .u8 (be n v)).length ≤ cur.size := by rw [nums_length, HN.out]; omega
  have hone : ∀ u ∈ nums .u8 (be n v), u.oneCell' = true := by
    intro u hu
    obtain ⟨z, _, rfl⟩ := List.mem_map.1 hu
    rfl
  go_region_held3 (fun w' => w'.cell? ⟨g, 0, none⟩ = some (.slice (some ⟨g0, 0, none⟩) m cap)) (first | exact hcell | exact pw_cell_below hb1 hcell | exact ((below_setRow (Below.refl g0 w1) (Nat.le_refl _) _).cell (p := ⟨g, 0, none⟩) hg0lt).trans (pw_cell_below hb1 hcell)) (first | (go_at_call 53; (with_reducible refine (ho _).mono ?_); rintro e w1 ⟨x, rfl, hx, hb1⟩; obtain ⟨g1, c1, rfl, _⟩ := Kd.R_form hx hbp; have hcp := run_copy_row (P := Try.prog) w1 22 22 3 5 g0 k (m - k) (cap - k) ⟨g1, 0, none⟩ (be n v).length c1 cur 5 (nums .u8 (be n v)) Try.underlying22 one_u8 ((hb1.block g0 hg0l).trans hg0) hmin ((Kd.own_of_R hx).cells rfl) hfit hone))
  all_goals (
    have hg1 := (hb1.block g (by exact hlt)).trans hg
    have hg01 := (hb1.block g0 hg0l).trans hg0
    clear hcp
    go_wp2
    go_ret
    refine ⟨rfl, ⟨_, (setRow_other _ _ _ _ (by omega)).trans hg1, Kd.R_of_own (h1 := fun _ => rfl) ⟨by simp [encs], .inr ⟨g0, cap, _, by rw [hspl], hgb, setRow_heap _ _ _ _ _ _ hg01, by rw [hspl]; exact hcap, hmax, ?_, ?_⟩⟩ (fun i hi => by cases hi; exact hg0lt)⟩, ?_⟩
    · have h := hSC.out.1
      rw [List.size_toArray, h]
      simpa using hcs
    · have h := hSC.out.2
      rw [hspl, Nat.mul_one]
      exact h
    · exact ((Below.refl g w).drew.trans (hb1.mono (Nat.le_of_lt hlt))).trans (below_setRow (Below.refl g w1) (Nat.le_of_lt hg0lt) _))
end Go.Proofs.Ytknpaihlnkcpgaa.Own
/- slices.Grow of nil, slices.Concat of rows of bytes. -/
set_option linter.unusedVariables false
set_option linter.unusedSimpArgs false
namespace Go.Proofs.Ytknpaihlnkcpgaa.Own
open Go.RowKit Go.Proofs.YtknpaihlnkcpgaaW.PrintWords Go.Proofs.YtknpaihlnkcpgaaW.PrintLast Go.Proofs.YtknpaihlnkcpgaaW.PrintMore

set_option maxRecDepth 100000 in
set_option maxHeartbeats 4000000 in
theorem grow_nil (n : Nat) (w : World) (hn : n ≤ 1000000) :
    Calls Try.prog 51 #[.slice none 0 0, .int .i64 n] w fun e w' => ∃ v, e = .returned v ∧ Kd.R (Kd.int .u8) 5 w' w.heap.size (fun _ => True) v [] ∧ Below w.heap.size w w' := by
  obtain ⟨i0, hi, hzz⟩ := Option.map_eq_some_iff.1 info_u8
  simp only [Prod.mk.injEq] at hzz
  obtain ⟨hz0, hz1, hz2⟩ := hzz
  by_cases h0 : n = 0
  · subst h0
    go_enter Try.func51, Try.ntmps51
    go_wp2
    go_ret
    exact ⟨_, rfl, Kd.R_nil _ _ _ _ _, Below.refl _ _⟩
  · have hpos : 0 < n := by omega
    have hrz := fun ty => Lib.run_append_grow_zeros (P := Try.prog) w 22 3 ty 5 i0 (.int .u8 0) .i64 .i64 Try.underlying22 Try.underlying3 hi hz0 none 0 0 [] (run_firstCells_none w.drew i0.size 0 0 0) n hpos (by omega) (by omega) (by omega) (by rw [hz2]; omega)
      (growslice_fits (by omega) (by rw [hz2]; omega))
    have hG := grownCap_ge w (0 + n) 0 5
    have hG2 := grownCap_le_maxLen w (0 + n) 0 5 (by unfold maxLen; omega)
    obtain ⟨G, eG⟩ : ∃ G, grownCap w (0 + n) 0 5 = G := ⟨_, rfl⟩
    rw [eG] at hrz hG hG2
    have hG63 : G ≤ 9223372036854775807 := by unfold maxLen at hG2; omega
    have HR : Kd.R (Kd.int .u8) 5 (w.drew.alloc (.cells ((([] : List Value).toArray ++ Builtin.zeroCells (Value.int .u8 0).cells n ++ Builtin.zeroCells (Value.int .u8 0).cells (G - (0 + n)))) 5)) w.heap.size (fun _ => True) (.slice (some ⟨w.heap.size, 0, none⟩) 0 G) [] :=
      Kd.R_of_own (h1 := fun _ => rfl) ⟨rfl, .inr ⟨w.heap.size, G, _, rfl, Nat.le_refl _, heap_alloc_new w.drew _, Nat.zero_le _, hG2, by simp [Builtin.zeroCells, Value.cells]; omega, rfl⟩⟩ (fun _ _ => trivial)
    have HB := (Below.refl w.heap.size w).drew.alloc (Nat.le_refl _) (.cells ((([] : List Value).toArray ++ Builtin.zeroCells (Value.int .u8 0).cells n ++ Builtin.zeroCells (Value.int .u8 0).cells (G - (0 + n)))) 5)
    have h63 : n ≤ 9223372036854775807 := by omega
    clear eG hG
    go_enter Try.func51, Try.ntmps51
    go_wp2_with (at_builtin; refine Lib.wpList_append_run _ rfl _ _ _ _ rfl _ _ rfl rfl _ _ (hrz _) ?_)
    go_ret
    exact ⟨_, rfl, by have h := HR; simp [Value.cells] at h; exact h, by have h := HB; simp [Value.cells] at h; exact h⟩

theorem take_flat (l : List (List Int)) (k : Nat) (h : k < l.length) : (l.take (k + 1)).flatten = (l.take k).flatten ++ l.getD k [] := by
  rw [List.take_add_one, List.getD_eq_getElem?_getD, List.getElem?_eq_getElem h, List.flatten_append]
  simp
set_option maxRecDepth 100000 in
set_option maxHeartbeats 4000000 in
/-- slices.Concat of a few rows of bytes, which lie in block b -/
theorem concat_any (l : List (List Int)) (A : Option Addr) (n c : Nat) (w : World) (hC : Kd.C (Kd.slice 5 (Kd.int .u8)) w A n l) (hn : n ≤ 100) (hl : l.flatten.length ≤ 1000000) :
    Calls Try.prog 34 #[.slice A n c] w fun e w' => ∃ v, e = .returned v ∧ Kd.R (Kd.int .u8) 5 w' w.heap.size (fun _ => True) v l.flatten ∧ Below w.heap.size w w' := by
  have HC := Aside0.mk hC
  have hll : l.length = n := hC.1
  have HL := Aside0.mk hll
  have HF := Aside0.mk hl
  clear hC hll hl
  go_enter Try.func34, Try.ntmps34
  go_wp2
  go_loop [3, 5, 11] (fun p _ q => ∃ (k : Nat), k ≤ n ∧ q = .int .i64 k ∧ p = .int .i64 (l.take k).flatten.length) (fun _ _ q => n - (intOf q).toNat)
  case atStart => exact ⟨0, by omega, rfl, rfl⟩
  case round =>
    obtain ⟨k, hk, rfl, rfl⟩ := hrel
    by_cases hkn : k < n
    · obtain ⟨ad, A0, c0, rfl, hcx, hlx, hrx⟩ := at_rows HC.out k hkn
      have hkl : k < l.length := by rw [HL.out]; exact hkn
      have htk : (l.take (k + 1)).flatten.length = (l.take k).flatten.length + (l.getD k []).length := by
        rw [take_flat l k hkl, List.length_append]
      have hle : (l.take (k + 1)).flatten.length ≤ 1000000 := by
        have h := congrArg List.length (congrArg List.flatten (List.take_append_drop (k + 1) l))
        rw [List.flatten_append, List.length_append] at h
        have := HF.out
        omega
      rw [htk] at hle
      obtain ⟨a, ea⟩ : ∃ a, (l.take k).flatten.length = a := ⟨_, rfl⟩
      obtain ⟨m, em⟩ : ∃ m, (l.getD k []).length = m := ⟨_, rfl⟩
      rw [ea, em] at hle htk
      rw [em] at hcx hlx
      rw [ea]
      have HTK := Aside0.mk htk
      clear htk hrx ea em hkl
      go_wp2
      go_round
      case rel => exact ⟨k + 1, by omega, by go_num, by rw [HTK.out]; go_num⟩
      case measure => simp [intOf]; omega
    · have e : k = n := by omega
      subst e
      have hfl : (l.take k).flatten.length = l.flatten.length := by rw [List.take_of_length_le (by rw [HL.out]; exact Nat.le_refl _)]
      rw [hfl]
      obtain ⟨N, eN⟩ : ∃ N, l.flatten.length = N := ⟨_, rfl⟩
      have hN : N ≤ 1000000 := by rw [← eN]; exact HF.out
      rw [eN]
      have hgr := grow_nil N w hN
      go_wp2_with (go_at_call 51; go_must (with_reducible refine hgr.mono ?_); rintro e w1 ⟨v, rfl, hv, hb1⟩)
      have HV : Aside0 (Kd.R (Kd.int .u8) 5 w1 w.heap.size (fun _ => True) v (l.take 0).flatten) := ⟨hv⟩
      have HB1 := Aside0.mk hb1
      have HNN := Aside0.mk eN
      clear hv hb1 hgr hfl eN
      go_loopw [6, 8, 27] (fun v _ q wr => ∃ (j : Nat), j ≤ k ∧ q = .int .i64 j ∧ Aside0 (Kd.R (Kd.int .u8) 5 wr w.heap.size (fun _ => True) v (l.take j).flatten) ∧ Aside0 (Below w.heap.size w wr)) (fun _ _ q _ => k - (intOf q).toNat)
      case atStart => exact ⟨0, by omega, rfl, HV, HB1⟩
      case round =>
        clear HV HB1
        obtain ⟨j, hj, rfl, HV, HB⟩ := hrel
        by_cases hjn : j < k
        · obtain ⟨ad, A0, c0, rfl, hcx, hlx, hrx⟩ := at_rows (Kd.C_below HC.out HB.out) j hjn
          have hjl : j < l.length := by rw [HL.out]; exact hjn
          have HTF := Aside0.mk (take_flat l j hjl)
          have hle : (l.take j).flatten.length + (l.getD j []).length ≤ 1000000 := by
            have h := congrArg List.length (congrArg List.flatten (List.take_append_drop (j + 1) l))
            rw [List.flatten_append, List.length_append, HTF.out, List.length_append] at h
            have := HF.out
            omega
          have HRX := Aside0.mk hrx
          obtain ⟨x, ex⟩ : ∃ x, l.getD j [] = x := ⟨_, rfl⟩
          rw [ex] at hcx hlx HRX HTF hle
          obtain ⟨y, ey⟩ : ∃ y, (l.take j).flatten = y := ⟨_, rfl⟩
          rw [ey] at HV HTF hle
          obtain ⟨A7, c7, rfl⟩ := Kd.R_slice HV.out
          clear hrx ex ey hjl
          go_wp2_with (at_builtin; refine Kd.R_append_rows (Kd.int .u8) (w0 := w) w.heap.size rfl (.tmp 31) (.tmp 32) 22 5 (.int .u8 0) 1 rfl Try.underlying22 info_u8 rfl (by decide) (by decide) _ y x A0 x.length c0 (fun _ => True) (fun _ => False) rfl rfl HV.out HRX.out (fun _ _ h => h) (fun _ h => h.elim) (fun _ _ => trivial) HB.out HB.out.size (by omega) ?_; intro v1 w3 ho1 hb3 _ _)
          go_roundw
          case rel => exact ⟨j + 1, by omega, by go_num, ⟨by rw [HTF.out]; exact ho1⟩, ⟨hb3⟩⟩
          case measure => simp [intOf]; omega
        · have e : j = k := by omega
          subst e
          go_wp2
          go_ret
          exact ⟨_, rfl, by have h := HV.out; rw [List.take_of_length_le (by rw [HL.out]; exact Nat.le_refl _)] at h; exact h, HB.out⟩
end Go.Proofs.Ytknpaihlnkcpgaa.Own
/- ip.Put. (written by wip/gen_put.py) -/
set_option linter.unusedVariables false
set_option linter.unusedSimpArgs false
namespace Go.Proofs.Ytknpaihlnkcpgaa.Own
open Go.RowKit Go.Proofs.YtknpaihlnkcpgaaW.PrintWords Go.Proofs.YtknpaihlnkcpgaaW.PrintLast Go.Proofs.YtknpaihlnkcpgaaW.PrintMore
attribute [local go_sem ↓] ld17 ld4 sv_hd
attribute [local go_sem] run_sv_hd gv_some isV_some pick2_true stc nfz_false oc1_int oc1_bool oc1_string oc1_slice oc1_pointer oc1_func pick1_true setCells_new setCells_past setCells_drew

/-- a header's bytes, with a checksum -/
def stands (h : Hd) (o : List Int) (sum : Int) : List Int :=
  [(64 : Int) + (20 + (o.length : Int)) / 4, h.tos] ++ be 2 h.total ++ be 2 h.id ++ be 2 (fl h.df 16384 + fl h.mf 8192 + h.frag) ++ [h.ttl, h.proto] ++ be 2 sum ++ [h.s0, h.s1, h.s2, h.s3, h.d0, h.d1, h.d2, h.d3] ++ o

set_option maxRecDepth 100000 in
set_option maxHeartbeats 8000000 in
theorem put_wrong (h : Hd) (A : Option Addr) (n c : Nat) (w : World) (ht : inB h.total 65535) (hn : n ≤ 1000000) (hr : rightB h n = false) :
    Calls Try.prog 13 #[.agg (hcs h A n c)] w fun e w' => e = .returned (.tuple #[.slice none 0 0, .int .i64 51]) ∧ Below w.heap.size w w' := by
  have hb := heap_alloc_new w (.cells (hcs h A n c) 39)
  have hcc := hd_cells hb
  have hq := right_hd h A n c (w.alloc (.cells (hcs h A n c) 39)) hn ht
  rw [hr] at hq
  clear hr ht hb
  obtain ⟨tos, total, id, df, mf, frag, ttl, proto, s0, s1, s2, s3, d0, d1, d2, d3⟩ := h
  dsimp only [hcs] at hcc hq
  go_enter Try.func13, Try.ntmps13
  go_wp2_with (go_at_call 15; go_must (with_reducible refine hq.mono ?_); rintro e w1 ⟨rfl, hb1⟩)
  refine bodyPost_ret (results_tmp2 rfl _ _ _) rfl ?_
  exact ⟨rfl, below_tr (below_alloc1 w _) hb1⟩

/-- where ip.Put stands: the header's box lies as it did, the writer g holds bs -/
def PutAt (w W : World) (h : Hd) (A : Option Addr) (n c g : Nat) (bs : List Int) : Prop :=
  Below w.heap.size w W ∧ W.heap[w.heap.size]? = some (.cells (hcs h A n c) 39 (0, 0)) ∧ w.heap.size < g ∧ WrAt W w.heap.size g 68 bs
theorem PutAt.below {w W W2 : World} {h : Hd} {A : Option Addr} {n c g : Nat} {bs : List Int} (hP : PutAt w W h A n c g bs) (hb : Below W.heap.size W W2) : PutAt w W2 h A n c g bs :=
  ⟨below_then hP.1 hP.1.size hb, (hb.block _ (blk_lt hP.2.1)).trans hP.2.1, hP.2.2.1, hP.2.2.2.below hb⟩
theorem PutAt.drew {w W : World} {h : Hd} {A : Option Addr} {n c g : Nat} {bs : List Int} (hP : PutAt w W h A n c g bs) : PutAt w W.drew h A n c g bs := hP.below (below_drew (Below.refl _ _))
theorem PutAt.alloc {w W : World} {h : Hd} {A : Option Addr} {n c g : Nat} {bs : List Int} (hP : PutAt w W h A n c g bs) (o : Obj) : PutAt w (W.alloc o) h A n c g bs := hP.below (below_alloc1 W o)
theorem PutAt.wrote {w W W2 : World} {h : Hd} {A : Option Addr} {n c g : Nat} {bs cs : List Int} (hP : PutAt w W h A n c g bs) (hk : Wrote w.heap.size g W W2) (hw : WrAt W2 w.heap.size g 68 cs) : PutAt w W2 h A n c g cs :=
  ⟨hP.1.trans hk.1, hk.2 _ _ _ _ hP.2.1 (by decide) (Nat.ne_of_lt hP.2.2.1), hP.2.2.1, hw⟩

theorem putAt_new {w w1 : World} {h : Hd} {A : Option Addr} {n c : Nat} (hb : Below (w.alloc (.cells (hcs h A n c) 39)).heap.size (w.alloc (.cells (hcs h A n c) 39)) w1) :
    PutAt w (w1.alloc (.cells #[.slice none 0 0] 68)) h A n c w1.heap.size [] := by
  have h1 := heap_alloc_new w (.cells (hcs h A n c) 39)
  have hs := hb.size
  rw [World.size_alloc] at hs
  refine ⟨below_tr (below_tr (below_alloc1 w _) hb) (below_alloc1 w1 _), ?_, by omega, WrAt.new w1 _ _⟩
  have h2 := (hb.block w.heap.size (by rw [World.size_alloc]; omega)).trans h1
  exact (Below.heap_alloc _ _ _ (by omega)).trans h2
theorem rest_two (a b : Int) : [a, b] = [a] ++ [b] := rfl
/-- a call of put, its numbers in a block of their own -/
theorem PutAt.puts {w W : World} {h : Hd} {A : Option Addr} {n c g : Nat} {bs : List Int} (hP : PutAt w W h A n c g bs) (hl : bs.length ≤ 9000) (l : List Int) (k m : Nat) (hm : l.length = m) (hm1 : m ≤ 1000) (hk : 1 ≤ k) (hk8 : k ≤ 8) (hp : (256 : Int) ^ k ≤ 256 ^ 8) (hv : ∀ x ∈ l, 0 ≤ x ∧ x < 256 ^ k) :
    Calls Try.prog 30 #[.pointer (some ⟨g, 0, none⟩), .int .i64 k, .slice (some ⟨W.heap.size, 0, none⟩) m m] (W.alloc (.cells (nums .u64 l).toArray 70)) fun e w' => e = .returned (.tuple #[]) ∧ PutAt w w' h A n c g (bs ++ bes k l) := by
  have hP1 := hP.alloc (.cells (nums .u64 l).toArray 70)
  have hlt : g < W.heap.size := by obtain ⟨x, hx, _⟩ := hP.2.2.2; exact blk_lt hx
  exact (puts_any w.heap.size g 68 W.heap.size 70 bs l k m _ hP1.2.2.2 (Nat.le_of_lt hP.2.2.1) (by decide) (by omega) hm hm1 (heap_alloc_new W _) (by decide) (by omega) hk hk8 hv hp).mono fun e w' ⟨he, hw, hr⟩ => ⟨he, hP1.wrote hr hw⟩
theorem p256_1 : (256 : Int) ^ 1 ≤ 256 ^ 8 := by decide
theorem p256_2 : (256 : Int) ^ 2 ≤ 256 ^ 8 := by decide
def okN (k : Nat) (x : Int) : Prop := 0 ≤ x ∧ x < 256 ^ k
theorem PutAt.puts1 {w W : World} {h : Hd} {A : Option Addr} {n c g : Nat} {bs : List Int} (hP : PutAt w W h A n c g bs) (hl : bs.length ≤ 9000) (k : Nat) (ki : Int) (hki : (k : Int) = ki) (hk : 1 ≤ k) (hk8 : k ≤ 8) (hp : (256 : Int) ^ k ≤ 256 ^ 8) (x : Int) (hx : okN k x) :
    Calls Try.prog 30 #[.pointer (some ⟨g, 0, none⟩), .int .i64 ki, .slice (some ⟨W.heap.size, 0, none⟩) 1 1] (W.alloc (.cells #[.int .u64 x] 70)) fun e w' => e = .returned (.tuple #[]) ∧ PutAt w w' h A n c g (bs ++ be k x) := by
  subst hki
  have h := hP.puts hl [x] k 1 rfl (by decide) hk hk8 hp (by simpa [okN] using hx)
  simpa [bes, nums] using h
theorem PutAt.puts2 {w W : World} {h : Hd} {A : Option Addr} {n c g : Nat} {bs : List Int} (hP : PutAt w W h A n c g bs) (hl : bs.length ≤ 9000) (k : Nat) (ki : Int) (hki : (k : Int) = ki) (hk : 1 ≤ k) (hk8 : k ≤ 8) (hp : (256 : Int) ^ k ≤ 256 ^ 8) (x y : Int) (hx : okN k x) (hy : okN k y) :
    Calls Try.prog 30 #[.pointer (some ⟨g, 0, none⟩), .int .i64 ki, .slice (some ⟨W.heap.size, 0, none⟩) 2 2] (W.alloc (.cells #[.int .u64 x, .int .u64 y] 70)) fun e w' => e = .returned (.tuple #[]) ∧ PutAt w w' h A n c g (bs ++ (be k x ++ be k y)) := by
  subst hki
  have h := hP.puts hl [x, y] k 2 rfl (by decide) hk hk8 hp (by intro z hz; rcases List.mem_cons.1 hz with rfl | hz; exact hx; rw [List.mem_singleton.1 hz]; exact hy)
  simpa [bes, nums] using h
theorem PutAt.puts3 {w W : World} {h : Hd} {A : Option Addr} {n c g : Nat} {bs : List Int} (hP : PutAt w W h A n c g bs) (hl : bs.length ≤ 9000) (k : Nat) (ki : Int) (hki : (k : Int) = ki) (hk : 1 ≤ k) (hk8 : k ≤ 8) (hp : (256 : Int) ^ k ≤ 256 ^ 8) (x y z : Int) (hx : okN k x) (hy : okN k y) (hz : okN k z) :
    Calls Try.prog 30 #[.pointer (some ⟨g, 0, none⟩), .int .i64 ki, .slice (some ⟨W.heap.size, 0, none⟩) 3 3] (W.alloc (.cells #[.int .u64 x, .int .u64 y, .int .u64 z] 70)) fun e w' => e = .returned (.tuple #[]) ∧ PutAt w w' h A n c g (bs ++ (be k x ++ be k y ++ be k z)) := by
  subst hki
  have h := hP.puts hl [x, y, z] k 3 rfl (by decide) hk hk8 hp (by intro v hv; rcases List.mem_cons.1 hv with rfl | hv; exact hx; rcases List.mem_cons.1 hv with rfl | hv; exact hy; rw [List.mem_singleton.1 hv]; exact hz)
  simpa [bes, nums] using h

theorem PutAt.puts3d {w W : World} {h : Hd} {A : Option Addr} {n c g : Nat} {bs : List Int} (hP : PutAt w W h A n c g bs) (hl : bs.length ≤ 9000) (k : Nat) (ki : Int) (hki : (k : Int) = ki) (hk : 1 ≤ k) (hk8 : k ≤ 8) (hp : (256 : Int) ^ k ≤ 256 ^ 8) (x y z : Int) (hx : okN k x) (hy : okN k y) (hz : okN k z) :
    Calls Try.prog 30 #[.pointer (some ⟨g, 0, none⟩), .int .i64 ki, .slice (some ⟨W.heap.size, 0, none⟩) 3 3] (W.alloc (.cells #[.int .u64 x, .int .u64 y, .int .u64 z] 70)).drew fun e w' => e = .returned (.tuple #[]) ∧ PutAt w w' h A n c g (bs ++ (be k x ++ be k y ++ be k z)) :=
  hP.drew.puts3 hl k ki hki hk hk8 hp x y z hx hy hz
/-- cells that read as a row of bytes -/
theorem C_cells {w : World} {g o : Nat} {xs : List Int} (hm : xs.length ≤ 9223372036854775807) (hc : ∀ j p, xs[j]? = some p → w.cell? ⟨g, o + j, none⟩ = some (.int .u8 p)) : Kd.C (Kd.int .u8) w (some ⟨g, o, none⟩) xs.length xs := by
  refine ⟨rfl, hm, fun _ => ⟨_, rfl, fun j p hj => ⟨[.int .u8 p], rfl, rfl, fun i u hu => ?_⟩⟩⟩
  match i, hu with
  | 0, hu =>
    have hu' : Value.int .u8 p = u := by simpa using hu
    subst hu'
    have hs : (Kd.int IntKind.u8).sz = 1 := rfl
    rw [hs, Nat.mul_one, Nat.add_zero, Addr.add_lit]
    exact hc j p hj
theorem C_new_rows3 {w : World} {A B E : Option Addr} {n1 n2 n3 c1 c2 c3 : Nat} {l m k : List Int} (h1 : Kd.C (Kd.int .u8) w A n1 l) (k1 : n1 ≤ c1) (h2 : Kd.C (Kd.int .u8) w B n2 m) (k2 : n2 ≤ c2) (h3 : Kd.C (Kd.int .u8) w E n3 k) (k3 : n3 ≤ c3) :
    Kd.C (Kd.slice 5 (Kd.int .u8)) (w.alloc (.cells #[.slice A n1 c1, .slice B n2 c2, .slice E n3 c3] 22)) (some ⟨w.heap.size, 0, none⟩) 3 [l, m, k] := by
  have hb := heap_alloc_new w (.cells #[.slice A n1 c1, .slice B n2 c2, .slice E n3 c3] 22)
  obtain rfl := h1.1
  obtain rfl := h2.1
  obtain rfl := h3.1
  have hs : (Kd.slice 5 (Kd.int IntKind.u8)).sz = 1 := rfl
  have g1 := Kd.C_alloc h1 (.cells #[.slice A l.length c1, .slice B m.length c2, .slice E k.length c3] 22)
  have g2 := Kd.C_alloc h2 (.cells #[.slice A l.length c1, .slice B m.length c2, .slice E k.length c3] 22)
  have g3 := Kd.C_alloc h3 (.cells #[.slice A l.length c1, .slice B m.length c2, .slice E k.length c3] 22)
  refine ⟨rfl, by decide, fun _ => ⟨_, rfl, fun j p hj => ?_⟩⟩
  match j, hj with
  | 0, hj =>
    obtain rfl : l = p := by simpa using hj
    refine ⟨[.slice A l.length c1], rfl, ⟨A, c1, rfl, k1, g1⟩, fun i u hu => ?_⟩
    match i, hu with
    | 0, hu =>
      have hu' : Value.slice A l.length c1 = u := by simpa using hu
      subst hu'
      rw [Nat.zero_mul, Nat.add_zero, add_plain, cell_of_row _ _ 0 _ _ _ hb]
      rfl
  | 1, hj =>
    obtain rfl : m = p := by simpa using hj
    refine ⟨[.slice B m.length c2], rfl, ⟨B, c2, rfl, k2, g2⟩, fun i u hu => ?_⟩
    match i, hu with
    | 0, hu =>
      have hu' : Value.slice B m.length c2 = u := by simpa using hu
      subst hu'
      rw [hs, Nat.mul_one, Nat.add_zero, add_plain, cell_of_row _ _ 1 _ _ _ hb]
      rfl
  | 2, hj =>
    obtain rfl : k = p := by simpa using hj
    refine ⟨[.slice E k.length c3], rfl, ⟨E, c3, rfl, k3, g3⟩, fun i u hu => ?_⟩
    match i, hu with
    | 0, hu =>
      have hu' : Value.slice E k.length c3 = u := by simpa using hu
      subst hu'
      rw [hs, Nat.mul_one, Nat.add_zero, add_plain, cell_of_row _ _ 2 _ _ _ hb]
      rfl
/-- the addresses of a header, as rows of bytes in its block -/
theorem hd_src {w : World} {g t : Nat} {h : Hd} {A : Option Addr} {n c : Nat} (hb : w.heap[g]? = some (.cells (hcs h A n c) t (0, 0))) : Kd.C (Kd.int .u8) w (some ⟨g, 8, none⟩) 4 [h.s0, h.s1, h.s2, h.s3] := by
  have hc := hd_cells hb
  refine C_cells (xs := [h.s0, h.s1, h.s2, h.s3]) (by simp) (fun j p hj => ?_)
  match j, hj with
  | 0, hj => cases hj; exact hc.2.2.2.2.2.2.2.2.1
  | 1, hj => cases hj; exact hc.2.2.2.2.2.2.2.2.2.1
  | 2, hj => cases hj; exact hc.2.2.2.2.2.2.2.2.2.2.1
  | 3, hj => cases hj; exact hc.2.2.2.2.2.2.2.2.2.2.2.1
theorem hd_dst {w : World} {g t : Nat} {h : Hd} {A : Option Addr} {n c : Nat} (hb : w.heap[g]? = some (.cells (hcs h A n c) t (0, 0))) : Kd.C (Kd.int .u8) w (some ⟨g, 12, none⟩) 4 [h.d0, h.d1, h.d2, h.d3] := by
  have hc := hd_cells hb
  refine C_cells (xs := [h.d0, h.d1, h.d2, h.d3]) (by simp) (fun j p hj => ?_)
  match j, hj with
  | 0, hj => cases hj; exact hc.2.2.2.2.2.2.2.2.2.2.2.2.1
  | 1, hj => cases hj; exact hc.2.2.2.2.2.2.2.2.2.2.2.2.2.1
  | 2, hj => cases hj; exact hc.2.2.2.2.2.2.2.2.2.2.2.2.2.2.1
  | 3, hj => cases hj; exact hc.2.2.2.2.2.2.2.2.2.2.2.2.2.2.2.1
/-- a row made by the call, its length under a name -/
def OwnB (w0 w : World) (A : Option Addr) (n c : Nat) (l : List Int) : Prop := Kd.R (Kd.int .u8) 5 w w0.heap.size (fun _ => True) (.slice A n c) l
theorem PutAt.concat {w W : World} {h : Hd} {A : Option Addr} {n c g : Nat} {bs o : List Int} (hP : PutAt w W h A n c g bs) (hC : Kd.C (Kd.int .u8) w A n o) (hn : n ≤ 100) (hc : n ≤ c) :
    Calls Try.prog 34 #[.slice (some ⟨W.heap.size, 0, none⟩) 3 3] (W.alloc (.cells #[.slice (some ⟨w.heap.size, 8, none⟩) 4 4, .slice (some ⟨w.heap.size, 12, none⟩) 4 4, .slice A n c] 22)).drew fun e w' => ∃ A2 n2 c2, e = .returned (.slice A2 n2 c2) ∧ Kd.C (Kd.int .u8) w' A2 n2 ([h.s0, h.s1, h.s2, h.s3, h.d0, h.d1, h.d2, h.d3] ++ o) ∧ n2 ≤ c2 ∧ Aside0 (n2 = 8 + n) ∧ PutAt w w' h A n c g bs := by
  have hC1 := Kd.C_drew (C_new_rows3 (hd_src hP.2.1) (Nat.le_refl 4) (hd_dst hP.2.1) (Nat.le_refl 4) (Kd.C_below hC hP.1) hc)
  have hlen := hC.1
  refine (concat_any _ _ 3 3 _ hC1 (by decide) (by simp; omega)).mono ?_
  rintro e w' ⟨v, rfl, hv, hb⟩
  obtain ⟨A2, c2, rfl⟩ := Kd.R_slice hv
  refine ⟨_, _, _, rfl, ?_, ?_, ?_, ((hP.alloc _).drew).below hb⟩
  · have h2 := (C_of_R hv).1
    simpa using h2
  · exact (C_of_R hv).2
  · exact ⟨by simp; omega⟩
theorem PutAt.raw {w W : World} {h : Hd} {A A2 : Option Addr} {n c g n2 c2 : Nat} {bs l : List Int} (hP : PutAt w W h A n c g bs) (hC : Kd.C (Kd.int .u8) W A2 n2 l) (hn : bs.length + n2 ≤ 1000000) :
    Calls Try.prog 33 #[.pointer (some ⟨g, 0, none⟩), .slice A2 n2 c2] W fun e w' => e = .returned (.int .i64 0) ∧ PutAt w w' h A n c g (bs ++ l) :=
  (raw_any w.heap.size g 68 bs l A2 n2 c2 W hP.2.2.2 hC (Nat.le_of_lt hP.2.2.1) (by decide) (by omega)).mono fun e w' ⟨he, hw, hr⟩ => ⟨he, hP.wrote hr hw⟩
theorem PutAt.getb {w W : World} {h : Hd} {A : Option Addr} {n c g : Nat} {bs : List Int} (hP : PutAt w W h A n c g bs) (hn : bs.length ≤ 1000000) :
    Calls Try.prog 37 #[.pointer (some ⟨g, 0, none⟩)] W fun e w' => ∃ A2 n2 c2, e = .returned (.slice A2 n2 c2) ∧ Kd.R (Kd.int .u8) 5 w' W.heap.size (fun _ => True) (.slice A2 n2 c2) bs ∧ n2 ≤ c2 ∧ PutAt w w' h A n c g bs := by
  refine (wbytes_any w.heap.size g 68 bs W hP.2.2.2 hn).mono ?_
  rintro e w' ⟨v, rfl, hv, hb⟩
  obtain ⟨A2, c2, rfl⟩ := Kd.R_slice hv
  exact ⟨_, _, _, rfl, hv, (C_of_R hv).2, hP.below hb⟩
theorem PutAt.sum {w W : World} {h : Hd} {A A2 : Option Addr} {n c g n2 c2 : Nat} {bs l : List Int} (hP : PutAt w W h A n c g bs) (hC : Kd.C (Kd.int .u8) W A2 n2 l) (hc : n2 ≤ c2) (hl : bytes l) (hn : l.length ≤ 1000000) :
    Calls Try.prog 36 #[.slice (some ⟨W.heap.size, 0, none⟩) 1 1] (W.alloc (.cells #[.slice A2 n2 c2] 22)) fun e w' => e = .returned (.int .u16 (ck l)) ∧ PutAt w w' h A n c g bs := by
  refine (of_at [l] _ 1 1 _ (C_new_rows1n hC hc) (by simpa using hl) (by simp; omega) (by simp)).mono ?_
  rintro e w' ⟨rfl, hb⟩
  exact ⟨by simp, (hP.alloc _).below hb⟩
theorem PutAt.set {w W : World} {h : Hd} {A : Option Addr} {n c g : Nat} {bs : List Int} (hP : PutAt w W h A n c g bs) (hn : bs.length ≤ 1000000) (h12 : 12 ≤ bs.length) (v : Int) (hv : okN 2 v) :
    Calls Try.prog 35 #[.pointer (some ⟨g, 0, none⟩), .int .i64 10, .int .u64 v, .int .i64 2] W fun e w' => e = .returned (.int .i64 0) ∧ PutAt w w' h A n c g (splice bs 10 (be 2 v)) := by
  have h3 : v < 65536 := hv.2
  refine (wset_any w.heap.size g 68 bs 10 v 2 W hP.2.2.2 (Nat.le_of_lt hP.2.2.1) (by decide) hn hv.1 (by have e : (256 : Int) ^ 8 = 18446744073709551616 := rfl; omega) (by decide) (by decide) hv.2 (by omega)).mono ?_
  rintro e w' ⟨rfl, hw, hb⟩
  exact ⟨rfl, hP.1.trans (hb.mono (Nat.le_of_lt hP.2.2.1)), (hb.block _ hP.2.2.1).trans hP.2.1, hP.2.2.1, hw⟩
theorem ip_or4 (n : Nat) (hn : n ≤ 40) : bits .or .u64 64 ((20 + (n : Int)) / 4) = 64 + (20 + (n : Int)) / 4 :=
  bits_join .u64 60 (by decide) (fun n h0 h1 => wraps_u64 n h0 (by omega)) 6 64 _ (by decide) (by decide) (by decide) (by omega) (by omega) (by omega)
theorem ip_orF (a b : Bool) (x : Int) (h0 : 0 ≤ x) (h1 : x ≤ 8191) : bits .or .u64 (bits .or .u64 (fl a 16384) (fl b 8192)) x = fl a 16384 + fl b 8192 + x := by
  have e : bits .or .u64 (fl a 16384) (fl b 8192) = fl a 16384 + fl b 8192 := by cases a <;> cases b <;> decide
  rw [e]
  exact bits_join .u64 60 (by decide) (fun n h0 h1 => wraps_u64 n h0 (by omega)) 13 _ x (by cases a <;> cases b <;> decide) (by cases a <;> cases b <;> decide) (by cases a <;> cases b <;> decide) h0 (by omega) (by omega)
theorem w64_of {x m : Int} (h : inB x m) (hm : m ≤ 65535) : IntKind.u64.wrap x = x := wraps_u64 _ h.1 (by have := h.2; omega)
theorem w64_len (n : Nat) (hn : n ≤ 40) : IntKind.u64.wrap (IntKind.i64.wrap ((20 + (n : Int)).tdiv 4)) = (20 + (n : Int)) / 4 := by
  rw [Int.tdiv_eq_ediv_of_nonneg (by omega), IntWalk.i64_in _ (by omega), wraps_u64 _ (by omega) (by omega)]
theorem okN1 {x : Int} (h : inB x 255) : okN 1 x := ⟨h.1, by have := h.2; show x < 256; omega⟩
theorem okN2 {x : Int} (h : inB x 65535) : okN 2 x := ⟨h.1, by have := h.2; show x < 65536; omega⟩
theorem okF (a b : Bool) (x : Int) (h0 : 0 ≤ x) (h1 : x ≤ 8191) : okN 2 (fl a 16384 + fl b 8192 + x) := by
  refine ⟨?_, ?_⟩
  · cases a <;> cases b <;> simp [fl] <;> omega
  · show _ < (65536 : Int)
    cases a <;> cases b <;> simp [fl] <;> omega
theorem be1_of {x : Int} (h : inB x 255) : be 1 x = [x] := by
  rw [be_one]
  have h1 := h.1
  have h2 := h.2
  congr 1
  omega
theorem bytes_two' {a b : Int} (h : inB a 255) (k : inB b 255) : bytes [a, b] := by
  intro x hx
  rcases List.mem_cons.1 hx with rfl | hx
  · exact ⟨h.1, by have := h.2; omega⟩
  · rw [List.mem_singleton.1 hx]; exact ⟨k.1, by have := k.2; omega⟩
theorem bytes_stands {h : Hd} {o : List Int} {n : Nat} (hok : h.ok) (ho : bytes o) (h1 : h.frag ≤ 8191) (h2 : n ≤ 40) (hn : o.length = n) : bytes (stands h o 0) := by
  obtain ⟨a1, a2, a3, a4, a5, a6, a7, a8, a9, a10, a11, a12, a13, a14⟩ := hok
  unfold stands
  simp only [bytes_append]
  refine ⟨⟨⟨⟨⟨⟨⟨bytes_two' ⟨by omega, by omega⟩ a1, bytes_be _ _⟩, bytes_be _ _⟩, bytes_be _ _⟩, bytes_two' a5 a6⟩, bytes_be _ _⟩, ?_⟩, ho⟩
  have e : [h.s0, h.s1, h.s2, h.s3, h.d0, h.d1, h.d2, h.d3] = [h.s0, h.s1] ++ [h.s2, h.s3] ++ [h.d0, h.d1] ++ [h.d2, h.d3] := rfl
  rw [e]
  simp only [bytes_append]
  exact ⟨⟨⟨bytes_two' a7 a8, bytes_two' a9 a10⟩, bytes_two' a11 a12⟩, bytes_two' a13 a14⟩
/-- its whole, once all regions are known -/
theorem splice_stands (h : Hd) (o : List Int) (v : Int) : splice (stands h o 0) 10 (be 2 v) = stands h o v := by
  simp [splice, stands, be_two, List.take, List.drop]
end Go.Proofs.Ytknpaihlnkcpgaa.Own
/- octroiref01.Put, Join; append on rows of bytes of one's own. -/
set_option linter.unusedVariables false
set_option linter.unusedSimpArgs false
namespace Go.Proofs.Ytknpaihlnkcpgaa.Own
open Go.RowKit Go.Proofs.YtknpaihlnkcpgaaW.PrintWords Go.Proofs.YtknpaihlnkcpgaaW.PrintLast Go.Proofs.YtknpaihlnkcpgaaW.PrintMore

/-- append(s, x...) on a row of bytes of the call's own -/
theorem app_bytes {ops : Array Oper} {rest : List Oper} {o : Oper} {a : Act} {W w0 : World} {Q : Exit → Act → World → Prop} (base : Nat) (hgd : o.guard = none) (s x : Operand)
    (ho : o.op = .call { callee := .builtin .append, args := #[s, x], argTypes := #[22, 22] }) (v : Value) (xs ys : List Int) (A : Option Addr) (m c : Nat) (hs : a.eval s = v) (hx : a.eval x = .slice A m c)
    (HO : Kd.R (Kd.int .u8) 5 W base (fun _ => True) v xs) (HC : Kd.C (Kd.int .u8) W A m ys) (HB : Below base w0 W) (hbase : base ≤ W.heap.size) (hl : xs.length + m ≤ 140737488355328)
    (h : ∀ A1 n1 c1 w1, Kd.R (Kd.int .u8) 5 w1 base (fun _ => True) (.slice A1 n1 c1) (xs ++ ys) → Below base w0 w1 → wpList Try.prog ops Q rest (a.put o.dst (.slice A1 n1 c1)) w1) :
    wpList Try.prog ops Q (o :: rest) a W :=
  Kd.R_append_rows (Kd.int .u8) (w0 := w0) base hgd s x 22 5 (.int .u8 0) 1 ho Try.underlying22 info_u8 rfl (by decide) (by decide) v xs ys A m c (fun _ => True) (fun _ => False) hs hx HO HC (fun _ _ h => h) (fun _ h => h.elim) (fun _ _ => trivial) HB hbase (by omega)
    (fun v1 w1 ho1 hb1 _ _ => by
      obtain ⟨A1, c1, rfl⟩ := Kd.R_slice ho1
      exact h _ _ _ _ ho1 hb1)

theorem be_succ (k : Nat) (v : Int) : be (k + 1) v = be k (v / 256) ++ [v % 256] := rfl
theorem p256_8 : (256 : Int) ^ 8 = 18446744073709551616 := rfl
set_option maxRecDepth 100000 in
theorem rput_any : ∀ (k : Nat) (v : Int) (w : World), 0 ≤ v → v < 256 ^ 8 → k ≤ 8 →
    Calls Try.prog 45 #[.int .u64 v, .int .i64 k] w fun e w' => ∃ A n c, e = .returned (.slice A n c) ∧ Kd.R (Kd.int .u8) 5 w' w.heap.size (fun _ => True) (.slice A n c) (be k v) ∧ Below w.heap.size w w' := by
  intro k
  induction k with
  | zero =>
    intro v w h0 h1 hk
    clear h1
    go_enter Try.func45, Try.ntmps45
    go_wp2_with fail
    go_ret
    exact ⟨_, _, _, rfl, Kd.R_nil _ _ _ _ _, Below.refl _ _⟩
  | succ k ih =>
    intro v w h0 h1 hk
    rw [p256_8] at h1
    have hq := ih (v / 256) w (by omega) (by rw [p256_8]; omega) (by omega)
    clear ih
    have HL := Aside0.mk (be_length k (v / 256))
    obtain ⟨L, eL⟩ : ∃ L, be k (v / 256) = L := ⟨_, rfl⟩
    rw [eL] at hq HL
    have HE : Aside0 (be (k + 1) v = L ++ [v % 256]) := ⟨by rw [be_succ, eL]⟩
    have hk1 : ¬ ((k : Int) + 1 = 0) := by omega
    clear eL
    go_enter Try.func45, Try.ntmps45
    go_wp2_with fail
    with_reducible refine hq.mono ?_
    rintro e w1 ⟨A1, n1, c1, rfl, hR1, hb1⟩
    clear hq
    have hlen : L.length + 1 ≤ 140737488355328 := by have := HL.out; omega
    have hc1 := C_new_bytes w1 [v % 256] (by simp)
    go_wp2_with (at_builtin; refine app_bytes w.heap.size rfl (.tmp 11) (.tmp 15) rfl _ L [v % 256] _ 1 1 rfl rfl (Kd.R_alloc hR1 _) hc1 (below_alloc hb1 _) (by simp; have := hb1.size; omega) hlen ?_; intro A2 n2 c2 w2 hR2 hb2)
    go_ret
    exact ⟨_, _, _, rfl, by rw [HE.out]; exact hR2, hb2⟩
theorem rput_at (k : Nat) (ki : Int) (hki : (k : Int) = ki) (v : Int) (w : World) (h0 : 0 ≤ v) (h1 : v ≤ 1099511627775) (hk : k ≤ 8) :
    Calls Try.prog 45 #[.int .u64 v, .int .i64 ki] w fun e w' => ∃ A n c, e = .returned (.slice A n c) ∧ Kd.R (Kd.int .u8) 5 w' w.heap.size (fun _ => True) (.slice A n c) (be k v) ∧ Below w.heap.size w w' := by
  subst hki
  exact rput_any k v w h0 (by rw [p256_8]; omega) hk
set_option maxRecDepth 100000 in
theorem join_any (xs ys : List Int) (A B : Option Addr) (n c m d : Nat) (w : World) (hA : Kd.C (Kd.int .u8) w A n xs) (hB : Kd.C (Kd.int .u8) w B m ys) (hl : n + m ≤ 140737488355328) :
    Calls Try.prog 18 #[.slice A n c, .slice B m d] w fun e w' => ∃ A n c, e = .returned (.slice A n c) ∧ Kd.R (Kd.int .u8) 5 w' w.heap.size (fun _ => True) (.slice A n c) (xs ++ ys) ∧ Below w.heap.size w w' := by
  have HA := Aside0.mk hA
  have HB := Aside0.mk hB
  have HL := Aside0.mk hl
  have HXL := Aside0.mk hA.1
  clear hA hB hl
  go_enter Try.func18, Try.ntmps18
  go_upto_region 3 with (at_builtin; refine app_bytes w.heap.size rfl (.tmp 6) (.tmp 7) rfl _ [] xs A n c rfl rfl (Kd.R_nil _ _ _ _ _) HA.out (Below.refl _ _) (Nat.le_refl _) (by have := HL.out; simp; omega) ?_; intro A2 n2 c2 w2 hR2 hb2)
  go_wp2_with (at_builtin; refine app_bytes w.heap.size rfl (.tmp 9) (.tmp 10) rfl _ ([] ++ xs) ys B m d rfl rfl hR2 (Kd.C_below HB.out hb2) hb2 hb2.size (by have := HL.out; have := HXL.out; simp; omega) ?_; intro A3 n3 c3 w3 hR3 hb3)
  go_ret
  exact ⟨_, _, _, rfl, hR3, hb3⟩
end Go.Proofs.Ytknpaihlnkcpgaa.Own
/- Contracts of the reference of layer 3: Fold, Words, Sum, Of, Whole, Change. -/
set_option linter.unusedVariables false
set_option linter.unusedSimpArgs false
namespace Go.Proofs.Ytknpaihlnkcpgaa.Own
open Go.RowKit Go.Proofs.YtknpaihlnkcpgaaW.PrintWords Go.Proofs.YtknpaihlnkcpgaaW.PrintLast Go.Proofs.YtknpaihlnkcpgaaW.PrintMore

/-- a word, all words -/
def wordAt (b : List Int) (j : Nat) : Int := b.getD (2 * j) 0 * 256 + b.getD (2 * j + 1) 0
def wordsN (b : List Int) (n : Nat) : List Int := (List.range n).map (wordAt b)
def nwords (b : List Int) : Nat := (b.length + 1) / 2
theorem wordsN_succ (b : List Int) (n : Nat) : wordsN b (n + 1) = wordsN b n ++ [wordAt b n] := by simp [wordsN, List.range_succ]
theorem wordsN_length (b : List Int) (n : Nat) : (wordsN b n).length = n := by simp [wordsN]
theorem wordAt_range {b : List Int} (h : bytes b) (j : Nat) : 0 ≤ wordAt b j ∧ wordAt b j ≤ 65535 := by
  have h0 := bytes_getD h (2 * j)
  have h1 := bytes_getD h (2 * j + 1)
  unfold wordAt
  omega
theorem wordAt_cons2 (x y : Int) (l : List Int) (j : Nat) : wordAt (x :: y :: l) (j + 1) = wordAt l j := by
  unfold wordAt
  rw [show 2 * (j + 1) = 2 * j + 1 + 1 from by omega]
  simp
theorem sum_words : ∀ (n : Nat) (b : List Int), b.length ≤ n → (wordsN b (nwords b)).sum = wt 0 b
  | _, [], _ => by simp [wordsN, nwords, wt]
  | _, [x], _ => by simp [wordsN, nwords, wt, wordAt, List.range_succ]
  | 0, x :: y :: l, h => by simp at h
  | n + 1, x :: y :: l, h => by
    have ih := sum_words n l (by simp at h; omega)
    have hn : nwords (x :: y :: l) = nwords l + 1 := by simp [nwords]; omega
    have hw : wordsN (x :: y :: l) (nwords l + 1) = (x * 256 + y) :: wordsN l (nwords l) := by
      unfold wordsN
      rw [List.range_succ_eq_map, List.map_cons, List.map_map]
      have e1 : (List.range (nwords l)).map (wordAt (x :: y :: l) ∘ Nat.succ) = (List.range (nwords l)).map (wordAt l) := List.map_congr_left (fun j _ => wordAt_cons2 x y l j)
      rw [e1]
      rfl
    rw [hn, hw, List.sum_cons, ih]
    rw [wt, wt, wt_par l (0 + 1 + 1) 0 (by decide)]
    simp
    omega
theorem sum_le (l : List Int) (h : ∀ x ∈ l, 0 ≤ x ∧ x ≤ 65535) : 0 ≤ l.sum ∧ l.sum ≤ 65535 * l.length := by
  induction l with
  | nil => simp
  | cons x l ih =>
    have h1 := h x List.mem_cons_self
    have h2 := ih (fun y hy => h y (List.mem_cons_of_mem _ hy))
    simp only [List.sum_cons, List.length_cons]
    omega
theorem sum_take_succ (l : List Int) (k : Nat) (h : k < l.length) : (l.take (k + 1)).sum = (l.take k).sum + l.getD k 0 := by
  rw [List.take_succ_eq_append_getElem h, List.sum_append]
  simp [List.getD_eq_getElem?_getD, List.getElem?_eq_getElem h]
theorem wordsN_mem {b : List Int} (h : bytes b) (n : Nat) : ∀ x ∈ wordsN b n, 0 ≤ x ∧ x ≤ 65535 := by
  intro x hx
  obtain ⟨j, _, rfl⟩ := List.mem_map.1 hx
  exact wordAt_range h j
theorem wt_le (b : List Int) (h : bytes b) : wt 0 b ≤ 65535 * (b.length + 1) := by
  have := sum_le _ (wordsN_mem h (nwords b))
  rw [sum_words b.length b (Nat.le_refl _), wordsN_length] at this
  unfold nwords at this
  omega
theorem getD_mem_range (l : List Int) (k : Nat) (h : ∀ x ∈ l, 0 ≤ x ∧ x ≤ 65535) : 0 ≤ l.getD k 0 ∧ l.getD k 0 ≤ 65535 := by
  rw [List.getD_eq_getElem?_getD]
  by_cases hk : k < l.length
  · rw [List.getElem?_eq_getElem hk]
    exact h _ (List.getElem_mem hk)
  · rw [List.getElem?_eq_none (by omega)]
    simp

theorem info_u64 : (Try.prog.info? 70).map (fun i => (i.zero, i.size, i.bytes)) = some (some (.int .u64 0), 1, 8) := by kernel_rfl
theorem ret_u64 {a b : Int} (h : a = b) : Ending.returned (.int .u64 a) = .returned (.int .u64 b) := by rw [h]

set_option maxHeartbeats 400000 in
theorem rfold_any (a0 : Int) (w : World) (b0 : 0 ≤ a0) (b1 : a0 ≤ 1099511627775) :
    Calls Try.prog 59 #[.int .u64 a0] w fun e w' => e = .returned (.int .u64 (cf a0)) ∧ w = w' := by
  go_enter Try.func59, Try.ntmps59
  go_wp2
  go_loop [0] (fun v => ∃ x : Int, v = .int .u64 x ∧ 0 ≤ x ∧ x ≤ 1099511627775 ∧ Aside0 (cf x = cf a0)) (fun v => (intOf v).toNat)
  case atStart => exact ⟨a0, rfl, b0, b1, Aside0.mk rfl⟩
  case round =>
    obtain ⟨x, rfl, x0, x1, hx⟩ := hrel
    by_cases hlt : 65535 < x
    · go_wp2
      go_round
      case rel => exact ⟨x / 65536 + x % 65536, rfl, by omega, by omega, ⟨by rw [Int.add_comm]; exact (cf_step x hlt).trans hx.out⟩⟩
      case measure => simp [intOf]; omega
    · go_wp2
      go_ret
      exact ⟨ret_u64 (by rw [← hx.out, cf_small x x0 (by omega)]), rfl⟩

set_option maxHeartbeats 1000000 in
theorem rwords_any (b : List Int) (A : Option Addr) (c : Nat) (w : World) (hr : Kd.C (Kd.int .u8) w A b.length b) (hb : bytes b) (hn : b.length ≤ 1048576) :
    Calls Try.prog 60 #[.slice A b.length c] w fun e w' => ∃ v, e = .returned v ∧ Kd.R (Kd.int .u64) 70 w' w.heap.size (fun _ => True) v (wordsN b (nwords b)) ∧ Below w.heap.size w w' := by
  have HR := Aside0.mk hr
  have HBY := Aside0.mk hb
  clear hr hb
  go_enter Try.func60, Try.ntmps60
  go_wp2
  go_loopw [3, 4] (fun vo vi wr => ∃ (j : Nat) (i : Int), vi = .int .i64 i ∧ 0 ≤ i ∧ i ≤ b.length + 1 ∧ Aside0 (i = 2 * (j : Int)) ∧ Aside0 (Kd.R (Kd.int .u64) 70 wr w.heap.size (fun _ => True) vo (wordsN b j)) ∧ Aside0 (Below w.heap.size w wr)) (fun _ vi _ => b.length + 2 - (intOf vi).toNat)
  case atStart => exact ⟨0, 0, rfl, by decide, by omega, ⟨rfl⟩, ⟨Kd.R_nil _ _ _ _ _⟩, ⟨Below.refl _ _⟩⟩
  case round =>
    obtain ⟨j, i, rfl, i0, i1, HI, HO, HB⟩ := hrel
    have EL := Aside0.mk (wordsN_length b j)
    have EJ := Aside0.mk (show j ≤ 1048577 by have := HI.out; omega)
    by_cases hlt : i < b.length
    · obtain ⟨ad, rfl, hx⟩ := byte_at HR.out HB.out i i0 hlt
      have ex0 : i.toNat = 2 * j := by have := HI.out; omega
      have hx0 := bytes_getD HBY.out (2 * j)
      rw [show b.getD i.toNat 0 = b.getD (2 * j) 0 by rw [ex0]] at hx
      clear ex0
      by_cases hlt2 : i + 1 < b.length
      · obtain ⟨ad', e', hy⟩ := byte_at HR.out HB.out (i + 1) (by omega) hlt2
        cases e'
        have ey0 : (i + 1).toNat = 2 * j + 1 := by have := HI.out; omega
        have hy0 := bytes_getD HBY.out (2 * j + 1)
        rw [show b.getD (i + 1).toNat 0 = b.getD (2 * j + 1) 0 by rw [ey0]] at hy
        clear ey0
        have HW := Aside0.mk (show wordAt b j = b.getD (2 * j) 0 * 256 + b.getD (2 * j + 1) 0 from rfl)
        obtain ⟨x, ex⟩ : ∃ x, b.getD (2 * j) 0 = x := ⟨_, rfl⟩
        obtain ⟨y, ey⟩ : ∃ x, b.getD (2 * j + 1) 0 = x := ⟨_, rfl⟩
        rw [ex] at hx0 hx HW
        rw [ey] at hy0 hy HW
        clear ex ey
        obtain ⟨x0, x1⟩ := hx0
        obtain ⟨y0, y1⟩ := hy0
        go_wp2_with (at_builtin; refine Kd.R_append (Kd.int .u64) (w0 := w) w.heap.size rfl (.tmp 31) (.tmp 33) 88 70 (.int .u64 0) 8 rfl Try.underlying88 info_u64 rfl (by decide) (by decide) _ (wordsN b j) (x * 256 + y) [.int .u64 (x * 256 + y)] (fun _ => True) (fun _ => False) rfl rfl rfl (fun _ hk => hk.elim) (fun _ _ => trivial) HO.out HB.out HB.out.size (by have := EL.out; have := EJ.out; omega) ?_; intro v1 w1 ho1 hb1 _ _)
        go_roundw
        case rel => exact ⟨j + 1, i + 2, rfl, by omega, by omega, ⟨by have := HI.out; omega⟩, ⟨by rw [wordsN_succ, HW.out]; exact ho1⟩, ⟨hb1⟩⟩
        case measure => simp [intOf]; omega
      · have HW := Aside0.mk (show wordAt b j = b.getD (2 * j) 0 * 256 by
          unfold wordAt
          have hI := HI.out
          rw [show b.getD (2 * j + 1) 0 = 0 by rw [List.getD_eq_getElem?_getD, List.getElem?_eq_none (by omega)]; rfl]
          omega)
        obtain ⟨x, ex⟩ : ∃ x, b.getD (2 * j) 0 = x := ⟨_, rfl⟩
        rw [ex] at hx0 hx HW
        clear ex
        obtain ⟨x0, x1⟩ := hx0
        go_wp2_with (at_builtin; refine Kd.R_append (Kd.int .u64) (w0 := w) w.heap.size rfl (.tmp 31) (.tmp 33) 88 70 (.int .u64 0) 8 rfl Try.underlying88 info_u64 rfl (by decide) (by decide) _ (wordsN b j) (x * 256) [.int .u64 (x * 256)] (fun _ => True) (fun _ => False) rfl rfl rfl (fun _ hk => hk.elim) (fun _ _ => trivial) HO.out HB.out HB.out.size (by have := EL.out; have := EJ.out; omega) ?_; intro v1 w1 ho1 hb1 _ _)
        go_roundw
        case rel => exact ⟨j + 1, i + 2, rfl, by omega, by omega, ⟨by have := HI.out; omega⟩, ⟨by rw [wordsN_succ, HW.out]; exact ho1⟩, ⟨hb1⟩⟩
        case measure => simp [intOf]; omega
    · have e : j = nwords b := by have := HI.out; unfold nwords; omega
      subst e
      go_wp2
      go_ret
      exact ⟨_, rfl, HO.out, HB.out⟩

set_option maxHeartbeats 1000000 in
theorem rsum_any (b : List Int) (A : Option Addr) (c : Nat) (w : World) (hr : Kd.C (Kd.int .u8) w A b.length b) (hb : bytes b) (hn : b.length ≤ 1048576) :
    Calls Try.prog 49 #[.slice A b.length c] w fun e w' => e = .returned (.int .u64 (cf (wt 0 b))) ∧ Below w.heap.size w w' := by
  have HR := Aside0.mk hr
  have HBY := Aside0.mk hb
  clear hr hb
  go_enter Try.func49, Try.ntmps49
  go_wp2_with fail
  refine (rwords_any b A c w HR.out HBY.out hn).mono ?_
  rintro e w1 ⟨v, rfl, ho, hb1⟩
  obtain ⟨A1, c1, rfl, hl1, hC1⟩ := Kd.R_reads ho
  have HS := Aside0.mk (sum_words b.length b (Nat.le_refl _))
  have HM := Aside0.mk (wordsN_mem HBY.out (nwords b))
  have hwl : (wordsN b (nwords b)).length ≤ 1048576 := by rw [wordsN_length]; unfold nwords; omega
  obtain ⟨ws, ews⟩ : ∃ ws, wordsN b (nwords b) = ws := ⟨_, rfl⟩
  rw [ews] at hl1 hC1 HS HM hwl ho
  rw [ews]
  clear ews
  have HC := Aside0.mk hC1
  have HB := Aside0.mk hb1
  clear ho hC1 hb1
  go_wp2_with fail
  go_loop [3, 5] (fun vn vi => ∃ (k : Nat), k ≤ ws.length ∧ vi = .int .i64 k ∧ vn = .int .u64 (ws.take k).sum) (fun _ vi => ws.length - (intOf vi).toNat)
  case atStart => exact ⟨0, Nat.zero_le _, rfl, rfl⟩
  case round =>
    obtain ⟨k, hk, rfl, rfl⟩ := hrel
    have hsb := sum_le (ws.take k) (fun x hx => HM.out x (List.mem_of_mem_take hx))
    rw [List.length_take, Nat.min_eq_left hk] at hsb
    obtain ⟨sb0, sb1⟩ := hsb
    by_cases hlt : k < ws.length
    · obtain ⟨ad, rfl, hx⟩ := Kd.at_int HC.out (k : Int) (by omega) (by omega)
      have hx0 := getD_mem_range ws k HM.out
      have HT := Aside0.mk (sum_take_succ ws k hlt)
      have hx' : w1.cell? (ad.add k) = some (.int .u64 (ws.getD k 0)) := hx
      clear hx
      obtain ⟨x, ex⟩ : ∃ x, ws.getD k 0 = x := ⟨_, rfl⟩
      rw [ex] at hx0 hx' HT
      clear ex
      obtain ⟨x0, x1⟩ := hx0
      go_wp2
      go_round
      case rel => exact ⟨k + 1, by omega, by go_num, by rw [HT.out]⟩
      case measure => simp [intOf]; omega
    · have e : k = ws.length := by omega
      subst e
      rw [List.take_length] at sb0 sb1
      rw [List.take_length]
      have hs := HS.out
      have hb2 : ws.sum ≤ 1099511627775 := by omega
      clear hs
      go_wp2_with (go_at_call 59; refine (rfold_any _ _ (by omega) (by omega)).mono ?_; rintro e w' ⟨rfl, rfl⟩)
      go_ret
      exact ⟨ret_u64 (by rw [HS.out]), HB.out⟩
theorem rof_any (b : List Int) (A : Option Addr) (c : Nat) (w : World) (hr : Kd.C (Kd.int .u8) w A b.length b) (hb : bytes b) (hn : b.length ≤ 1048576) :
    Calls Try.prog 29 #[.slice A b.length c] w fun e w' => e = .returned (.int .u16 (ck b)) ∧ Below w.heap.size w w' := by
  obtain ⟨r0, r1⟩ := cf_range _ (wt_nonneg b 0 hb)
  have HR := Aside0.mk hr
  have HBY := Aside0.mk hb
  clear hr hb
  go_enter Try.func29, Try.ntmps29
  go_wp2_with fail
  refine (rsum_any b A c w HR.out HBY.out hn).mono ?_
  rintro e w1 ⟨rfl, hb1⟩
  have HB := Aside0.mk hb1
  clear hb1
  go_wp2
  go_ret
  exact ⟨ret_u16 (by unfold ck; omega), HB.out⟩
theorem wholeB_eq (b : List Int) (h : bytes b) : wholeB b = (cf (wt 0 b) == 65535 || cf (wt 0 b) == 0) := by
  rw [Bool.eq_iff_iff]
  simp [wholeB, ck]
  omega
theorem rwhole_any (b : List Int) (A : Option Addr) (c : Nat) (w : World) (hr : Kd.C (Kd.int .u8) w A b.length b) (hb : bytes b) (hn : b.length ≤ 1048576) :
    Calls Try.prog 44 #[.slice A b.length c] w fun e w' => e = .returned (.bool (wholeB b)) ∧ Below w.heap.size w w' := by
  have HE := Aside0.mk (wholeB_eq b hb)
  have HR := Aside0.mk hr
  have HBY := Aside0.mk hb
  clear hr hb
  obtain ⟨v, ev⟩ : ∃ v, cf (wt 0 b) = v := ⟨_, rfl⟩
  rw [ev] at HE
  have EV := Aside0.mk ev
  clear ev
  by_cases h0 : (v == 65535) = true
  · go_enter Try.func44, Try.ntmps44
    go_wp2_with fail
    refine (rsum_any b A c w HR.out HBY.out hn).mono ?_
    rintro e w1 ⟨rfl, hb1⟩
    rw [EV.out]
    have HB := Aside0.mk hb1
    clear hb1
    go_wp2
    go_ret
    exact ⟨ret_bool (by rw [HE.out, h0]; rfl), HB.out⟩
  · replace h0 : (v == 65535) = false := by simpa using h0
    by_cases h1 : (v == 0) = true
    all_goals
      try (replace h1 : (v == 0) = false := by simpa using h1)
      go_enter Try.func44, Try.ntmps44
      go_wp2_with fail
      refine (rsum_any b A c w HR.out HBY.out hn).mono ?_
      rintro e w1 ⟨rfl, hb1⟩
      rw [EV.out]
      have HB := Aside0.mk hb1
      clear hb1
      go_wp2_with fail
      refine (rsum_any b A c w1 (Kd.C_below HR.out HB.out) HBY.out hn).mono ?_
      rintro e w2 ⟨rfl, hb2⟩
      rw [EV.out]
      have HB2 := Aside0.mk hb2
      clear hb2
      go_wp2
      go_ret
      exact ⟨ret_bool (by rw [HE.out, h0, h1]; rfl), below_tr HB.out HB2.out⟩
theorem rchange_any (s f t : Int) (w : World) (s0 : 0 ≤ s) (s1 : s ≤ 65535) (f0 : 0 ≤ f) (f1 : f ≤ 65535) (t0 : 0 ≤ t) (t1 : t ≤ 65535) :
    Calls Try.prog 46 #[.int .u16 s, .int .u16 f, .int .u16 t] w fun e w' => e = .returned (.int .u16 (chg s f t)) ∧ w = w' := by
  have hr := cf_range (65535 - s + (65535 - f) + t) (by omega)
  rw [show 65535 - s + (65535 - f) + t = 65535 - s + 65535 - f + t by omega] at hr
  obtain ⟨r0, r1⟩ := hr
  go_enter Try.func46, Try.ntmps46
  go_wp2_with fail
  refine (rfold_any _ _ (by omega) (by omega)).mono ?_
  rintro e w1 ⟨rfl, rfl⟩
  go_wp2
  go_ret
  exact ⟨ret_u16 (by unfold chg; rw [show 65535 - s + (65535 - f) + t = 65535 - s + 65535 - f + t by omega]), rfl⟩
/-- the same, at any spelling of the length; the words' block, and each word in it -/
theorem rwords_at (b : List Int) (A : Option Addr) (n c : Nat) (w : World) (hr : Kd.C (Kd.int .u8) w A n b) (hb : bytes b) (hn : b.length ≤ 1048576) (hp : 0 < b.length) :
    Calls Try.prog 60 #[.slice A n c] w fun e w' => ∃ g cap : Nat, e = .returned (.slice (some ⟨g, 0, none⟩) (nwords b) cap) ∧ (∀ j : Int, 0 ≤ j → j < (nwords b : Int) → w'.cell? ⟨g, j.toNat, none⟩ = some (.int .u64 (wordAt b j.toNat))) ∧ g < w'.heap.size ∧ Below w.heap.size w w' := by
  obtain rfl := hr.1
  refine (rwords_any b A c w hr hb hn).mono ?_
  rintro e w' ⟨v, rfl, ho, hbl⟩
  have hnw : 0 < nwords b := by unfold nwords; omega
  obtain ⟨g, cap, rfl, _, hg, _⟩ := Kd.R_form ho (by rw [wordsN_length]; exact hnw)
  rw [wordsN_length] at ho
  refine ⟨g, cap, by rw [wordsN_length], fun j j0 j1 => ?_, hg, hbl⟩
  have h := (Kd.R_celln (0 : Int) ho j j0 j1).1
  rw [h]
  have e : rdOf (0 : Int) (wordsN b (nwords b)) j = wordAt b j.toNat := by
    unfold rdOf wordsN
    rw [List.getD_eq_getElem?_getD, List.getElem?_map, List.getElem?_range (by omega)]
    rfl
  rw [e]
end Go.Proofs.Ytknpaihlnkcpgaa.Own
/- The options of bytes, in plain Lean. -/
set_option linter.unusedVariables false
set_option linter.unusedSimpArgs false
namespace Go.Proofs.Ytknpaihlnkcpgaa.Own

/-- the options of bytes; none: there is one that may not be -/
def optsF : Nat → List Int → Option (List (Int × List Int))
  | 0, _ => some []
  | n + 1, l => if l.length = 0 ∨ l.getD 0 0 = 0 then some [] else if l.getD 0 0 = 1 then optsF n (l.drop 1)
    else if l.length < 2 ∨ l.getD 1 0 < 2 ∨ (l.length : Int) < l.getD 1 0 then none
    else (optsF n (l.drop (l.getD 1 0).toNat)).map (fun D => (l.getD 0 0, (l.take (l.getD 1 0).toNat).drop 2) :: D)
def opts (l : List Int) : Option (List (Int × List Int)) := optsF l.length l
theorem optsF_more : ∀ (n m : Nat) (l : List Int), l.length ≤ n → n ≤ m → optsF m l = optsF n l := by
  intro n
  induction n with
  | zero =>
    intro m l h hm
    have : l = [] := List.eq_nil_of_length_eq_zero (by omega)
    subst this
    cases m <;> simp [optsF]
  | succ n ih =>
    intro m l h hm
    obtain ⟨m, rfl⟩ : ∃ k, m = k + 1 := ⟨m - 1, by omega⟩
    unfold optsF
    by_cases h0 : l.length = 0 ∨ l.getD 0 0 = 0
    · rw [if_pos h0, if_pos h0]
    · rw [if_neg h0, if_neg h0]
      by_cases h1 : l.getD 0 0 = 1
      · rw [if_pos h1, if_pos h1, ih m (l.drop 1) (by simp; omega) (by omega)]
      · rw [if_neg h1, if_neg h1]
        by_cases h2 : l.length < 2 ∨ l.getD 1 0 < 2 ∨ (l.length : Int) < l.getD 1 0
        · rw [if_pos h2, if_pos h2]
        · rw [if_neg h2, if_neg h2, ih m (l.drop (l.getD 1 0).toNat) (by rw [List.length_drop]; omega) (by omega)]
theorem opts_nil {l : List Int} (h : l.length = 0 ∨ l.getD 0 0 = 0) : opts l = some [] := by
  unfold opts
  cases hl : l.length with
  | zero => simp [optsF]
  | succ n => unfold optsF; rw [if_pos (by omega)]
theorem opts_one {l : List Int} (h : l.length ≠ 0) (h1 : l.getD 0 0 = 1) : opts l = opts (l.drop 1) := by
  unfold opts
  obtain ⟨n, hn⟩ : ∃ k, l.length = k + 1 := ⟨l.length - 1, by omega⟩
  rw [hn]
  conv => lhs; unfold optsF
  rw [if_neg (by omega), if_pos h1]
  exact optsF_more _ _ _ (Nat.le_refl _) (by simp; omega)
theorem opts_bad {l : List Int} (h : l.length ≠ 0) (h0 : l.getD 0 0 ≠ 0) (h1 : l.getD 0 0 ≠ 1) (h2 : l.length < 2 ∨ l.getD 1 0 < 2 ∨ (l.length : Int) < l.getD 1 0) : opts l = none := by
  unfold opts
  obtain ⟨n, hn⟩ : ∃ k, l.length = k + 1 := ⟨l.length - 1, by omega⟩
  rw [hn]
  unfold optsF
  rw [if_neg (by omega), if_neg h1, if_pos h2]
theorem opts_cons {l : List Int} (h0 : l.getD 0 0 ≠ 0) (h1 : l.getD 0 0 ≠ 1) (h2 : ¬ (l.length < 2 ∨ l.getD 1 0 < 2 ∨ (l.length : Int) < l.getD 1 0)) :
    opts l = (opts (l.drop (l.getD 1 0).toNat)).map (fun D => (l.getD 0 0, (l.take (l.getD 1 0).toNat).drop 2) :: D) := by
  unfold opts
  obtain ⟨n, hn⟩ : ∃ k, l.length = k + 1 := ⟨l.length - 1, by omega⟩
  rw [hn]
  conv => lhs; unfold optsF
  rw [if_neg (by omega), if_neg h1, if_neg h2]
  congr 1
  exact optsF_more _ _ _ (Nat.le_refl _) (by rw [List.length_drop]; omega)
theorem optsF_length : ∀ (n : Nat) (l : List Int) (D : List (Int × List Int)), optsF n l = some D → D.length ≤ n := by
  intro n
  induction n with
  | zero => intro l D h; cases h; exact Nat.le_refl _
  | succ n ih =>
    intro l D h
    unfold optsF at h
    split at h
    · cases h; exact Nat.zero_le _
    · split at h
      · have := ih _ _ h; omega
      · split at h
        · cases h
        · obtain ⟨E, hE, rfl⟩ := Option.map_eq_some_iff.1 h
          have := ih _ _ hE
          simp
          omega
theorem opts_length {l : List Int} {D : List (Int × List Int)} (h : opts l = some D) : D.length ≤ l.length := optsF_length _ _ _ h
end Go.Proofs.Ytknpaihlnkcpgaa.Own
/- Contract of octroiref01.Same; equal bytes, equal texts. -/
set_option linter.unusedVariables false
set_option linter.unusedSimpArgs false
namespace Go.Proofs.Ytknpaihlnkcpgaa.Own
open Go.RowKit Go.Proofs.YtknpaihlnkcpgaaW.PrintWords Go.Proofs.YtknpaihlnkcpgaaW.PrintLast Go.Proofs.YtknpaihlnkcpgaaW.PrintMore

theorem u8_ofNat_inj {x y : Int} (hx : 0 ≤ x ∧ x < 256) (hy : 0 ≤ y ∧ y < 256) (h : UInt8.ofNat x.toNat = UInt8.ofNat y.toNat) : x = y := by
  have h1 : (UInt8.ofNat x.toNat).toNat = (UInt8.ofNat y.toNat).toNat := by rw [h]
  rw [UInt8.toNat_ofNat', UInt8.toNat_ofNat'] at h1
  omega
theorem map_u8_inj : ∀ (xs ys : List Int), bytes xs → bytes ys → (xs.map fun n => UInt8.ofNat n.toNat) = (ys.map fun n => UInt8.ofNat n.toNat) → xs = ys
  | [], [], _, _, _ => rfl
  | [], _ :: _, _, _, h => by simp at h
  | _ :: _, [], _, _, h => by simp at h
  | x :: xs, y :: ys, hx, hy, h => by
    rw [bytes_cons] at hx hy
    simp only [List.map_cons, List.cons.injEq] at h
    rw [u8_ofNat_inj hx.1 hy.1 h.1, map_u8_inj xs ys hx.2 hy.2 h.2]
theorem strOfNums_inj {xs ys : List Int} (hx : bytes xs) (hy : bytes ys) : strOfNums xs = strOfNums ys ↔ xs = ys := by
  constructor
  · intro h
    have h1 : (strOfNums xs).data.toList = (strOfNums ys).data.toList := by rw [h]
    exact map_u8_inj xs ys hx hy h1
  · rintro rfl; rfl

theorem same_any (xs ys : List Int) (A B : Option Addr) (n c m d : Nat) (w : World) (hr : Kd.C (Kd.int .u8) w A n xs) (hs : Kd.C (Kd.int .u8) w B m ys) (hx : bytes xs) (hy : bytes ys) :
    Calls Try.prog 14 #[.slice A n c, .slice B m d] w fun e w' => e = .returned (.bool (decide (xs = ys))) ∧ w = w' := by
  have h1 := Kd.C_string (c := c) Try.underlying22 Try.underlying5 Try.underlying9 hr
  have h2 := Kd.C_string (c := d) Try.underlying22 Try.underlying5 Try.underlying9 hs
  have HI := Aside0.mk (strOfNums_inj hx hy)
  go_enter Try.func14, Try.ntmps14
  go_wp2
  go_ret
  refine ⟨ret_bool ?_, rfl⟩
  rw [Lib.strOfNums_toList, Lib.strOfNums_toList, Bool.eq_iff_iff, beq_iff_eq, decide_eq_true_iff]
  exact ⟨map_u8_inj xs ys hx hy, fun h => by rw [h]⟩
end Go.Proofs.Ytknpaihlnkcpgaa.Own
