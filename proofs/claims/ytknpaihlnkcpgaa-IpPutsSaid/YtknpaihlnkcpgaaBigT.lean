/- Stores of values of many cells: one rule a type, cheap for the kernel. (written by wip/gen_big.py) -/
import Derived.Test.YtknpaihlnkcpgaaBig
set_option linter.unusedVariables false
set_option linter.unusedSimpArgs false
namespace Go.Proofs.Ytknpaihlnkcpgaa.Own
open Go.RowKit Go.Proofs.YtknpaihlnkcpgaaW.PrintWords Go.Proofs.YtknpaihlnkcpgaaW.PrintLast Go.Proofs.YtknpaihlnkcpgaaW.PrintMore

noncomputable def stV (ty : TypeId) (a : Addr) (v : Value) : Sem Unit := storeVar ty a v
noncomputable def slowSV (P : Program) (ty : TypeId) (a : Addr) (v : Value) (w : World) : Result Unit := (storeVar ty a v).run P w
theorem sv_all (P : Program) (w : World) (b o ty : Nat) (cs : Array Value) (hi : (P.info? ty).map (·.size) = some cs.size) :
    (stV ty ⟨b, o, none⟩ (.agg cs)).run P w = pick1 ((stcs w b o cs.toList).all id) (.ok () (w.setCells b o cs.toList)) (slowSV P ty ⟨b, o, none⟩ (.agg cs) w) := by
  cases h : (stcs w b o cs.toList).all id with
  | false => rfl
  | true =>
    have hk : ∀ j (h : j < cs.toList.length), (w.cell? ⟨b, o + j, none⟩).isSome = true ∧ w.frozen? ⟨b, o + j, none⟩ = false ∧ cs.toList[j].oneCell' = true := fun j hj => by
      have hg := stcs_get w b cs.toList o j hj
      have hm := List.mem_of_getElem? hg
      exact stc_spec (by simpa using List.all_eq_true.1 h _ hm)
    exact run_storeVar_mid w b o ty cs (fun j hj => ⟨(hk j (by simpa using hj)).1, (hk j (by simpa using hj)).2.1⟩) hi (Array.all_eq_true_iff_forall_mem.2 fun v hv => by
      obtain ⟨j, hj, rfl⟩ := List.mem_iff_getElem.1 (Array.mem_toList_iff.2 hv)
      exact (hk j hj).2.2)
theorem sv_hd (a : Addr) (v : Value) : storeVar 39 a v = stV 39 a v := rfl
set_option maxRecDepth 100000 in
theorem run_sv_hd (w : World) (b o : Nat) (v0 v1 v2 v3 v4 v5 v6 v7 v8 v9 v10 v11 v12 v13 v14 v15 v16 : Value) : (stV 39 ⟨b, o, none⟩ (.agg #[v0, v1, v2, v3, v4, v5, v6, v7, v8, v9, v10, v11, v12, v13, v14, v15, v16])).run Try.prog w = pick1 (stc w b (o + 0) v0 && (stc w b (o + 1) v1 && (stc w b (o + 2) v2 && (stc w b (o + 3) v3 && (stc w b (o + 4) v4 && (stc w b (o + 5) v5 && (stc w b (o + 6) v6 && (stc w b (o + 7) v7 && (stc w b (o + 8) v8 && (stc w b (o + 9) v9 && (stc w b (o + 10) v10 && (stc w b (o + 11) v11 && (stc w b (o + 12) v12 && (stc w b (o + 13) v13 && (stc w b (o + 14) v14 && (stc w b (o + 15) v15 && (stc w b (o + 16) v16 && true))))))))))))))))) (.ok () (w.setCells b o [v0, v1, v2, v3, v4, v5, v6, v7, v8, v9, v10, v11, v12, v13, v14, v15, v16])) (slowSV Try.prog 39 ⟨b, o, none⟩ (.agg #[v0, v1, v2, v3, v4, v5, v6, v7, v8, v9, v10, v11, v12, v13, v14, v15, v16]) w) :=
  sv_all Try.prog w b o 39 #[v0, v1, v2, v3, v4, v5, v6, v7, v8, v9, v10, v11, v12, v13, v14, v15, v16] (by kernel_rfl)
theorem sv_rh (a : Addr) (v : Value) : storeVar 41 a v = stV 41 a v := rfl
set_option maxRecDepth 100000 in
theorem run_sv_rh (w : World) (b o : Nat) (v0 v1 v2 v3 v4 v5 v6 v7 v8 v9 v10 : Value) : (stV 41 ⟨b, o, none⟩ (.agg #[v0, v1, v2, v3, v4, v5, v6, v7, v8, v9, v10])).run Try.prog w = pick1 (stc w b (o + 0) v0 && (stc w b (o + 1) v1 && (stc w b (o + 2) v2 && (stc w b (o + 3) v3 && (stc w b (o + 4) v4 && (stc w b (o + 5) v5 && (stc w b (o + 6) v6 && (stc w b (o + 7) v7 && (stc w b (o + 8) v8 && (stc w b (o + 9) v9 && (stc w b (o + 10) v10 && true))))))))))) (.ok () (w.setCells b o [v0, v1, v2, v3, v4, v5, v6, v7, v8, v9, v10])) (slowSV Try.prog 41 ⟨b, o, none⟩ (.agg #[v0, v1, v2, v3, v4, v5, v6, v7, v8, v9, v10]) w) :=
  sv_all Try.prog w b o 41 #[v0, v1, v2, v3, v4, v5, v6, v7, v8, v9, v10] (by kernel_rfl)
end Go.Proofs.Ytknpaihlnkcpgaa.Own
