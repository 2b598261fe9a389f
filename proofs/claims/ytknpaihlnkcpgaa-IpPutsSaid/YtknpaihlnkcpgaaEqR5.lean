/- '==' of the reference's headers. (written by wip/gen_lawputs.py) -/
import Derived.Test.YtknpaihlnkcpgaaSame5
set_option linter.unusedVariables false
set_option linter.unusedSimpArgs false
namespace Go.Proofs.Ytknpaihlnkcpgaa.Own
open Go.RowKit Go.Proofs.YtknpaihlnkcpgaaW.PrintWords Go.Proofs.YtknpaihlnkcpgaaW.PrintLast Go.Proofs.YtknpaihlnkcpgaaW.PrintMore

theorem eqRH (d : Nat) (w : World) (x0 y0 : Int) (x1 y1 : Int) (x2 y2 : Int) (x3 y3 : Bool) (x4 y4 : Bool) (x5 y5 : Int) (x6 y6 : Int) (x7 y7 : Int) (x8 y8 : ByteArray) (x9 y9 : ByteArray) (x10 y10 : ByteArray) :
    (Op.equalIn (d + 2) 41 (.agg #[.int .u8 x0, .int .u16 x1, .int .u16 x2, .bool x3, .bool x4, .int .u16 x5, .int .u8 x6, .int .u8 x7, .string x8, .string x9, .string x10]) (.agg #[.int .u8 y0, .int .u16 y1, .int .u16 y2, .bool y3, .bool y4, .int .u16 y5, .int .u8 y6, .int .u8 y7, .string y8, .string y9, .string y10])).run Try.prog w = .ok (x0 == y0 && (x1 == y1 && (x2 == y2 && (x3 == y3 && (x4 == y4 && (x5 == y5 && (x6 == y6 && (x7 == y7 && (x8.toList == y8.toList && (x9.toList == y9.toList && (x10.toList == y10.toList))))))))))) w := by
  refine eqA_of Try.underlying41 (by kernel_rfl) ?_
  refine eqf_cons (by rfl) (by go_simp; rfl) (by go_simp; rfl) (by go_simp) ?_
  refine eqf_cons (by rfl) (by go_simp; rfl) (by go_simp; rfl) (by go_simp) ?_
  refine eqf_cons (by rfl) (by go_simp; rfl) (by go_simp; rfl) (by go_simp) ?_
  refine eqf_cons (by rfl) (by go_simp; rfl) (by go_simp; rfl) (by go_simp) ?_
  refine eqf_cons (by rfl) (by go_simp; rfl) (by go_simp; rfl) (by go_simp) ?_
  refine eqf_cons (by rfl) (by go_simp; rfl) (by go_simp; rfl) (by go_simp) ?_
  refine eqf_cons (by rfl) (by go_simp; rfl) (by go_simp; rfl) (by go_simp) ?_
  refine eqf_cons (by rfl) (by go_simp; rfl) (by go_simp; rfl) (by go_simp) ?_
  refine eqf_cons (by rfl) (by go_simp; rfl) (by go_simp; rfl) (by go_simp) ?_
  refine eqf_cons (by rfl) (by go_simp; rfl) (by go_simp; rfl) (by go_simp) ?_
  exact eqf_last (by rfl) (by go_simp; rfl) (by go_simp; rfl) (by go_simp)
theorem streq {xs ys : List Int} (hx : bytes xs) (hy : bytes ys) : ((strOfNums xs).toList == (strOfNums ys).toList) = decide (xs = ys) := by
  rw [Lib.strOfNums_toList, Lib.strOfNums_toList, Bool.eq_iff_iff, beq_iff_eq, decide_eq_true_iff]
  exact ⟨map_u8_inj xs ys hx hy, fun h => by rw [h]⟩
theorem bytes_src {h : Hd} (hok : h.ok) : bytes [h.s0, h.s1, h.s2, h.s3] := by
  obtain ⟨_, _, _, _, _, _, a7, a8, a9, a10, _⟩ := hok
  rw [show [h.s0, h.s1, h.s2, h.s3] = [h.s0, h.s1] ++ [h.s2, h.s3] from rfl, bytes_append]
  exact ⟨bytes_two' a7 a8, bytes_two' a9 a10⟩
theorem bytes_dst {h : Hd} (hok : h.ok) : bytes [h.d0, h.d1, h.d2, h.d3] := by
  obtain ⟨_, _, _, _, _, _, _, _, _, _, a11, a12, a13, a14⟩ := hok
  rw [show [h.d0, h.d1, h.d2, h.d3] = [h.d0, h.d1] ++ [h.d2, h.d3] from rfl, bytes_append]
  exact ⟨bytes_two' a11 a12, bytes_two' a13 a14⟩
set_option maxRecDepth 100000 in
theorem docEq (h k : Hd) (o p : List Int) (hok : h.ok) (kok : k.ok) (ho : bytes o) (hp : bytes p) (w : World) :
    (Op.equalIn 10000 41 (.agg #[.int .u8 h.tos, .int .u16 h.total, .int .u16 h.id, .bool h.df, .bool h.mf, .int .u16 h.frag, .int .u8 h.ttl, .int .u8 h.proto, .string (strOfNums [h.s0, h.s1, h.s2, h.s3]), .string (strOfNums [h.d0, h.d1, h.d2, h.d3]), .string (strOfNums o)]) (.agg #[.int .u8 k.tos, .int .u16 k.total, .int .u16 k.id, .bool k.df, .bool k.mf, .int .u16 k.frag, .int .u8 k.ttl, .int .u8 k.proto, .string (strOfNums [k.s0, k.s1, k.s2, k.s3]), .string (strOfNums [k.d0, k.d1, k.d2, k.d3]), .string (strOfNums p)])).run Try.prog w = .ok (sameB h k o p) w := by
  have e := eqRH 9998 w h.tos k.tos h.total k.total h.id k.id h.df k.df h.mf k.mf h.frag k.frag h.ttl k.ttl h.proto k.proto (strOfNums [h.s0, h.s1, h.s2, h.s3]) (strOfNums [k.s0, k.s1, k.s2, k.s3]) (strOfNums [h.d0, h.d1, h.d2, h.d3]) (strOfNums [k.d0, k.d1, k.d2, k.d3]) (strOfNums o) (strOfNums p)
  rw [streq (bytes_src hok) (bytes_src kok), streq (bytes_dst hok) (bytes_dst kok), streq ho hp] at e
  rw [show (9998 + 2 : Nat) = 10000 from rfl] at e
  rw [e]
  congr 1
  rw [Bool.eq_iff_iff]
  simp only [sameB, Bool.and_eq_true, beq_iff_eq, decide_eq_true_iff]
theorem sameB_self (h : Hd) (o : List Int) : sameB h h o o = true := by simp [sameB]
/-- a load of a header as a whole, kept whole by the walk -/
noncomputable def ldV (ty : TypeId) (a : Addr) : Sem Value := loadVar ty a
theorem lv_hd (a : Addr) : loadVar 39 a = ldV 39 a := rfl
theorem lv_rh (a : Addr) : loadVar 41 a = ldV 41 a := rfl
theorem size_hd : (Try.prog.info? 39).map (·.size) = some 17 := by kernel_rfl
theorem size_rh : (Try.prog.info? 41).map (·.size) = some 11 := by kernel_rfl
theorem ld_hd {w : World} {g t : Nat} {h : Hd} {A : Option Addr} {n c : Nat} (hb : w.heap[g]? = some (.cells (hcs h A n c) t (0, 0))) : (ldV 39 ⟨g, 0, none⟩).run Try.prog w = .ok (.agg (hcs h A n c)) w :=
  run_loadVar_row w g t _ _ _ _ hb Try.underlying39 rfl size_hd
theorem ld_rh {w : World} {g t : Nat} {h : Hd} {S D O : ByteArray} (hb : w.heap[g]? = some (.cells (rcs h S D O) t (0, 0))) : (ldV 41 ⟨g, 0, none⟩).run Try.prog w = .ok (.agg (rcs h S D O)) w :=
  run_loadVar_row w g t _ _ _ _ hb Try.underlying41 rfl size_rh
end Go.Proofs.Ytknpaihlnkcpgaa.Own
