/- bytes.Equal, ip.Same; '==' of arrays of four bytes, of the reference's headers. (written by wip/gen_same5.py) -/
import Derived.Test.YtknpaihlnkcpgaaDoc5
import Derived.Test.YtknpaihlnkcpgaaSame
import Derived.ChangeKeysEq
set_option linter.unusedVariables false
set_option linter.unusedSimpArgs false
namespace Go.Proofs.Ytknpaihlnkcpgaa.Own
open Go.RowKit Go.Proofs.YtknpaihlnkcpgaaW.PrintWords Go.Proofs.YtknpaihlnkcpgaaW.PrintLast Go.Proofs.YtknpaihlnkcpgaaW.PrintMore
attribute [local go_sem ↓] ld17 ld4 sv_hd
attribute [local go_sem] run_sv_hd gv_some isV_some pick2_true stc nfz_false oc1_int oc1_bool oc1_string oc1_slice oc1_pointer oc1_func pick1_true setCells_new setCells_past setCells_drew

theorem bytesEqual_any (xs ys : List Int) (A B : Option Addr) (n c m d : Nat) (w : World) (hr : Kd.C (Kd.int .u8) w A n xs) (hs : Kd.C (Kd.int .u8) w B m ys) (hx : bytes xs) (hy : bytes ys) :
    Calls Try.prog 38 #[.slice A n c, .slice B m d] w fun e w' => e = .returned (.bool (decide (xs = ys))) ∧ w = w' := by
  have h1 := Kd.C_string (c := c) Try.underlying22 Try.underlying5 Try.underlying9 hr
  have h2 := Kd.C_string (c := d) Try.underlying22 Try.underlying5 Try.underlying9 hs
  go_enter Try.func38, Try.ntmps38
  go_wp2
  go_ret
  refine ⟨ret_bool ?_, rfl⟩
  rw [Lib.strOfNums_toList, Lib.strOfNums_toList, Bool.eq_iff_iff, beq_iff_eq, decide_eq_true_iff]
  exact ⟨map_u8_inj xs ys hx hy, fun h => by rw [h]⟩

theorem eqItems_nums (P : Program) (w : World) (d e : Nat) (k : IntKind) (he : P.underlying e = some (.int k)) (hcell : P.cellsOf e = 1) (xs ys : List Int) : ∀ (is : List Nat), (∀ i ∈ is, i < xs.length ∧ i < ys.length) →
    (Op.eqItems (d + 1) e (P.cellsOf e) (nums k xs).toArray (nums k ys).toArray is).run P w = .ok (is.all fun i => xs.getD i 0 == ys.getD i 0) w
  | [], _ => rfl
  | i :: is, h => by
    have ih := eqItems_nums P w d e k he hcell xs ys is (fun j hj => h j (List.mem_cons_of_mem _ hj))
    obtain ⟨h1, h2⟩ := h i (List.mem_cons_self ..)
    have hagg : (isAgg e).run P w = .ok false w := by
      unfold isAgg
      rw [Sem.run_bind, run_underlying he w]
      rfl
    have hp : ∀ (zs : List Int) (hz : i < zs.length), (part e (nums k zs).toArray (i * P.cellsOf e)).run P w = .ok (.int k (zs.getD i 0)) w := fun zs hz => by
      unfold part
      simp only [Sem.run_bind, hagg, Result.andThen_ok, hcell, Nat.mul_one, Bool.false_eq_true, if_false]
      simp [nums, hz, List.getD_eq_getElem?_getD, List.getElem?_eq_getElem hz]
    simp only [Op.eqItems, Sem.run_bind, hp xs h1, hp ys h2, Result.andThen_ok, run_equalIn_int (P := P) w d e k k _ _ he, List.all_cons]
    cases hb : (xs.getD i 0 == ys.getD i 0) with
    | false => simp
    | true => simpa using ih
theorem all_range_eq (xs ys : List Int) (n : Nat) (hx : xs.length = n) (hy : ys.length = n) : ((List.range n).all fun i => xs.getD i 0 == ys.getD i 0) = decide (xs = ys) := by
  rw [Bool.eq_iff_iff, List.all_eq_true, decide_eq_true_iff]
  constructor
  · intro h
    apply List.ext_getElem (by omega)
    intro i h1 h2
    have := h i (List.mem_range.2 (by omega))
    rw [beq_iff_eq, List.getD_eq_getElem?_getD, List.getD_eq_getElem?_getD, List.getElem?_eq_getElem h1, List.getElem?_eq_getElem h2] at this
    exact this
  · rintro rfl i _
    simp
/-- '==' of arrays of bytes -/
theorem eqArr (P : Program) (w : World) (d t e n : Nat) (he : P.underlying e = some (.int .u8)) (i0 : TypeInfo) (hi : P.info? e = some i0) (hcell : P.cellsOf e = 1) (ht : P.underlying t = some (.array n e)) (xs ys : List Int) (hx : xs.length = n) (hy : ys.length = n) :
    (Op.equalIn (d + 2) t (.agg (nums .u8 xs).toArray) (.agg (nums .u8 ys).toArray)).run P w = .ok (decide (xs = ys)) w := by
  rw [show d + 2 = (d + 1) + 1 from rfl, run_equalIn_array w (d + 1) _ _ ht hi, eqItems_nums P w d e .u8 he hcell xs ys _ (fun i hi => by have := List.mem_range.1 hi; omega), all_range_eq xs ys n hx hy]
theorem cell_u8 : Try.prog.cellsOf 5 = 1 := by kernel_rfl
/-- '==' of two arrays of four bytes, as the walk meets it -/
theorem eq4 (w : World) (a b c d a' b' c' d' : Int) : (binOp .eql 37 (.agg #[.int .u8 a, .int .u8 b, .int .u8 c, .int .u8 d]) (.agg #[.int .u8 a', .int .u8 b', .int .u8 c', .int .u8 d'])).run Try.prog w = .ok (.bool (decide ([a, b, c, d] = [a', b', c', d']))) w := by
  obtain ⟨i0, hi, _⟩ := Option.map_eq_some_iff.1 info_u8
  rw [run_eql_struct]
  have h := eqArr Try.prog w 9998 37 5 4 Try.underlying5 i0 hi cell_u8 Try.underlying37 [a, b, c, d] [a', b', c', d'] rfl rfl
  simp only [nums, List.map_cons, List.map_nil] at h
  rw [h]
  rfl
/-- are two headers, with their options, the same? -/
def sameB (h k : Hd) (o p : List Int) : Bool :=
  decide (h.tos = k.tos ∧ h.total = k.total ∧ h.id = k.id ∧ h.df = k.df ∧ h.mf = k.mf ∧ h.frag = k.frag ∧ h.ttl = k.ttl ∧ h.proto = k.proto ∧ [h.s0, h.s1, h.s2, h.s3] = [k.s0, k.s1, k.s2, k.s3] ∧ [h.d0, h.d1, h.d2, h.d3] = [k.d0, k.d1, k.d2, k.d3] ∧ o = p)
theorem eq4in (w : World) (a b c d a' b' c' d' : Int) : (Op.equalIn 10000 37 (.agg #[.int .u8 a, .int .u8 b, .int .u8 c, .int .u8 d]) (.agg #[.int .u8 a', .int .u8 b', .int .u8 c', .int .u8 d'])).run Try.prog w = .ok (decide ([a, b, c, d] = [a', b', c', d'])) w := by
  obtain ⟨i0, hi, _⟩ := Option.map_eq_some_iff.1 info_u8
  have h := eqArr Try.prog w 9998 37 5 4 Try.underlying5 i0 hi cell_u8 Try.underlying37 [a, b, c, d] [a', b', c', d'] rfl rfl
  simp only [nums, List.map_cons, List.map_nil] at h
  exact h
attribute [local go_sem] eq4in
set_option maxRecDepth 100000 in
set_option maxHeartbeats 8000000 in
theorem same_hd (h k : Hd) (A B : Option Addr) (n c m d : Nat) (o p : List Int) (w : World) (hC : Kd.C (Kd.int .u8) w A n o) (hD : Kd.C (Kd.int .u8) w B m p) (ho : bytes o) (hp : bytes p) :
    Calls Try.prog 17 #[.agg (hcs h A n c), .agg (hcs k B m d)] w fun e w' => e = .returned (.bool (sameB h k o p)) ∧ Below w.heap.size w w' := by
  have hb0 := heap_alloc_new w (.cells (hcs h A n c) 39)
  have hb1 := heap_alloc_new (w.alloc (.cells (hcs h A n c) 39)) (.cells (hcs k B m d) 39)
  have hb0' := (Below.heap_alloc (w.alloc (.cells (hcs h A n c) 39)) (.cells (hcs k B m d) 39) _ (blk_lt hb0)).trans hb0
  rw [World.size_alloc] at hb1
  obtain ⟨c0, c1, c2, c3, c4, c5, c6, c7, c8, c9, c10, c11, c12, c13, c14, c15, c16⟩ := hd_cells hb0'
  obtain ⟨e0, e1, e2, e3, e4, e5, e6, e7, e8, e9, e10, e11, e12, e13, e14, e15, e16⟩ := hd_cells hb1
  have heq := bytesEqual_any o p A B n c m d _ (Kd.C_alloc (Kd.C_alloc hC (.cells (hcs h A n c) 39)) (.cells (hcs k B m d) 39)) (Kd.C_alloc (Kd.C_alloc hD (.cells (hcs h A n c) 39)) (.cells (hcs k B m d) 39)) ho hp
  have HE := Aside0.mk heq
  have HS := Aside0.mk (show sameB h k o p = decide (h.tos = k.tos ∧ h.total = k.total ∧ h.id = k.id ∧ h.df = k.df ∧ h.mf = k.mf ∧ h.frag = k.frag ∧ h.ttl = k.ttl ∧ h.proto = k.proto ∧ [h.s0, h.s1, h.s2, h.s3] = [k.s0, k.s1, k.s2, k.s3] ∧ [h.d0, h.d1, h.d2, h.d3] = [k.d0, k.d1, k.d2, k.d3] ∧ o = p) from rfl)
  clear hb0 hb1 hb0' hC hD ho hp heq
  go_enter Try.func17, Try.ntmps17
  go_wp2_with (go_at_call 38; (with_reducible refine HE.out.mono ?_); rintro e w' ⟨rfl, rfl⟩)
  all_goals (
    go_ret
    exact ⟨ret_bool (by rw [HS.out]; clear HS HE; simp_all), below_alloc2 w _ _⟩)
end Go.Proofs.Ytknpaihlnkcpgaa.Own
