/- A header that came in, opened: its numbers, its addresses, its options. -/
import Derived.Test.YtknpaihlnkcpgaaHd
import Derived.OpenShut
import Derived.WideShapes
import Derived.ChangeSlices
set_option linter.unusedVariables false
set_option linter.unusedSimpArgs false
namespace Go.Proofs.Ytknpaihlnkcpgaa.Own
open Go.RowKit Go.ChangeShapes Go.WideShapes Go.Proofs.YtknpaihlnkcpgaaW.PrintWords Go.Proofs.YtknpaihlnkcpgaaW.PrintLast Go.Proofs.YtknpaihlnkcpgaaW.PrintMore

def RowIn (w : World) (a : Option Addr) (len cap : Nat) (zs : List Int) : Prop :=
  (a = none ∧ len = 0 ∧ cap = 0 ∧ zs = []) ∨
  ∃ x, a = some x ∧ len ≤ cap ∧ cap ≤ maxLen ∧ zs.length = cap ∧ (∀ i, i < zs.length → w.cell? (x.add i) = some (.int .u8 (zs.getD i 0))) ∧ ∀ n ∈ zs, (Lit.int .u8 n).wf = true
theorem row_of_ints {H : Type} {enc : TypeId × Value → H} {W : World} {fuel : Nat} {v : Value} {x : DataW H × List MemPlace}
    (h : DataW.trod enc Try.prog W 0 (fun _ => true) true fuel 22 [v] = some x) : ∃ a n c zs, v = .slice a n c ∧ RowIn W a n c zs := by
  rcases open_ints Try.underlying22 Try.underlying5 (by kernel_rfl) h with ⟨hcs, _⟩ | ⟨ad, l, c, zs, hcs, _, hl, hm, hz, _, hcell, hwz⟩
  · exact ⟨none, 0, 0, [], by simpa using hcs, .inl ⟨rfl, rfl, rfl, rfl⟩⟩
  · exact ⟨some ad, l, c, zs, by simpa using hcs, .inr ⟨ad, rfl, hl, hm, by simpa using hz, hcell, hwz⟩⟩
theorem RowIn.read {w : World} {a : Option Addr} {n c : Nat} {zs : List Int} (h : RowIn w a n c zs) : ∃ l : List Int, Kd.C (Kd.int .u8) w a n l ∧ n ≤ c ∧ bytes l ∧ n ≤ 9223372036854775807 := by
  obtain ⟨l, rfl, hr, hm, hw, hc⟩ := ReadsInt.ofRowC h
  exact ⟨l, Kd.C_of_reads (d := (0 : Int)) (h1 := fun _ => rfl) hr, hc, bytes_of_wf hw, by simpa [maxLen] using hm⟩
theorem cellsOf_hd : Try.prog.cellsOf 39 = 17 := by kernel_rfl
theorem cellsOf_u8 : Try.prog.cellsOf 5 = 1 := by kernel_rfl
theorem cellsOf_u16 : Try.prog.cellsOf 36 = 1 := by kernel_rfl
theorem cellsOf_bool : Try.prog.cellsOf 4 = 1 := by kernel_rfl
theorem cellsOf_arr4 : Try.prog.cellsOf 37 = 4 := by kernel_rfl
theorem cellsOf_sl : Try.prog.cellsOf 22 = 1 := by kernel_rfl
section
variable {H : Type} {enc : TypeId × Value → H} {W : World} {fuel : Nat} {v : Value} {x : Option (DataW H × List MemPlace)}
theorem trod_u8 (h : DataW.trod enc Try.prog W 0 (fun _ => true) true fuel 5 [v] = x) (hx : x ≠ none) : ∃ n, v = .int .u8 n ∧ inB n 255 := by
  obtain ⟨y, rfl⟩ := Option.ne_none_iff_exists'.1 hx
  obtain ⟨n, hn, _, hw⟩ := DataW.trod_int Try.underlying5 h
  exact ⟨n, by simpa using hn, u8_of_wf hw⟩
theorem trod_u16 (h : DataW.trod enc Try.prog W 0 (fun _ => true) true fuel 36 [v] = x) (hx : x ≠ none) : ∃ n, v = .int .u16 n ∧ inB n 65535 := by
  obtain ⟨y, rfl⟩ := Option.ne_none_iff_exists'.1 hx
  obtain ⟨n, hn, _, hw⟩ := DataW.trod_int Try.underlying36 h
  exact ⟨n, by simpa using hn, u16_of_wf hw⟩
theorem trod_bl (h : DataW.trod enc Try.prog W 0 (fun _ => true) true fuel 4 [v] = x) (hx : x ≠ none) : ∃ b, v = .bool b := by
  obtain ⟨y, rfl⟩ := Option.ne_none_iff_exists'.1 hx
  obtain ⟨b, hb, _⟩ := DataW.trod_bool Try.underlying4 h
  exact ⟨b, by simpa using hb⟩
theorem trod_a4 {v0 v1 v2 v3 : Value} (h : DataW.trod enc Try.prog W 0 (fun _ => true) true fuel 37 [v0, v1, v2, v3] = x) (hx : x ≠ none) : ∃ a b c d, v0 = .int .u8 a ∧ v1 = .int .u8 b ∧ v2 = .int .u8 c ∧ v3 = .int .u8 d ∧ inB a 255 ∧ inB b 255 ∧ inB c 255 ∧ inB d 255 := by
  obtain ⟨y, rfl⟩ := Option.ne_none_iff_exists'.1 hx
  obtain ⟨xs, m, _, _, _, hl, each⟩ := DataW.trod_array Try.underlying37 h
  have hn : ∀ i, i < 4 → xs[i]? ≠ none := fun i hi => by rw [List.getElem?_eq_getElem (by omega)]; simp
  have e0 := each 0 (by decide)
  have e1 := each 1 (by decide)
  have e2 := each 2 (by decide)
  have e3 := each 3 (by decide)
  simp only [cellsOf_u8, Nat.mul_one, List.drop_zero, List.drop_succ_cons, List.take_succ_cons, List.take_zero] at e0 e1 e2 e3
  obtain ⟨a, rfl, ha⟩ := trod_u8 e0 (hn 0 (by decide))
  obtain ⟨b, rfl, hb⟩ := trod_u8 e1 (hn 1 (by decide))
  obtain ⟨c, rfl, hc⟩ := trod_u8 e2 (hn 2 (by decide))
  obtain ⟨d, rfl, hd⟩ := trod_u8 e3 (hn 3 (by decide))
  exact ⟨a, b, c, d, rfl, rfl, rfl, rfl, ha, hb, hc, hd⟩
end
set_option maxRecDepth 100000 in
theorem open_hd {H : Type} {enc : TypeId × Value → H} {W : World} {r : Reach} {b0 : Nat} {v : Value} {d : DataW H} {p : List MemPlace} (hv : Value.okWide Try.prog W r b0 39 v)
    (h : DataW.Trod enc Try.prog W 0 (fun _ => true) true 39 v d p) : ∃ (hd : Hd) (A : Option Addr) (n c : Nat) (z : List Int), v = .agg (hcs hd A n c) ∧ hd.ok ∧ RowIn W A n c z := by
  obtain ⟨cs, rfl, hcs⟩ := okWide_struct Try.underlying39 hv
  rw [cellsOf_hd] at hcs
  obtain ⟨fuel, hf⟩ := h
  obtain ⟨xs, m, _, _, _, hl, each⟩ := DataW.trod_struct Try.underlying39 hf
  obtain ⟨l⟩ := cs
  match l, hcs with
  | [v0, v1, v2, v3, v4, v5, v6, v7, v8, v9, v10, v11, v12, v13, v14, v15, v16], _ =>
    have hl' : xs.length = 11 := hl
    have hn : ∀ i, i < 11 → xs[i]? ≠ none := fun i hi => by rw [List.getElem?_eq_getElem (by omega)]; simp
    have e0 := each 0 _ rfl
    have e1 := each 1 _ rfl
    have e2 := each 2 _ rfl
    have e3 := each 3 _ rfl
    have e4 := each 4 _ rfl
    have e5 := each 5 _ rfl
    have e6 := each 6 _ rfl
    have e7 := each 7 _ rfl
    have e8 := each 8 _ rfl
    have e9 := each 9 _ rfl
    have e10 := each 10 _ rfl
    simp only [Value.cells, cellsOf_u8, cellsOf_u16, cellsOf_bool, cellsOf_arr4, cellsOf_sl, List.drop_zero, List.drop_succ_cons, List.take_succ_cons, List.take_zero] at e0 e1 e2 e3 e4 e5 e6 e7 e8 e9 e10
    obtain ⟨a0, rfl, h0⟩ := trod_u8 e0 (hn 0 (by decide))
    obtain ⟨a1, rfl, h1⟩ := trod_u16 e1 (hn 1 (by decide))
    obtain ⟨a2, rfl, h2⟩ := trod_u16 e2 (hn 2 (by decide))
    obtain ⟨a3, rfl⟩ := trod_bl e3 (hn 3 (by decide))
    obtain ⟨a4, rfl⟩ := trod_bl e4 (hn 4 (by decide))
    obtain ⟨a5, rfl, h5⟩ := trod_u16 e5 (hn 5 (by decide))
    obtain ⟨a6, rfl, h6⟩ := trod_u8 e6 (hn 6 (by decide))
    obtain ⟨a7, rfl, h7⟩ := trod_u8 e7 (hn 7 (by decide))
    obtain ⟨s0, s1, s2, s3, rfl, rfl, rfl, rfl, k0, k1, k2, k3⟩ := trod_a4 e8 (hn 8 (by decide))
    obtain ⟨d0, d1, d2, d3, rfl, rfl, rfl, rfl, j0, j1, j2, j3⟩ := trod_a4 e9 (hn 9 (by decide))
    obtain ⟨y, hy⟩ := Option.ne_none_iff_exists'.1 (hn 10 (by decide))
    rw [hy] at e10
    obtain ⟨A, n, c, z, rfl, hz⟩ := row_of_ints e10
    exact ⟨⟨a0, a1, a2, a3, a4, a5, a6, a7, s0, s1, s2, s3, d0, d1, d2, d3⟩, A, n, c, z, rfl, ⟨h0, h1, h2, h5, h6, h7, k0, k1, k2, k3, j0, j1, j2, j3⟩, hz⟩
end Go.Proofs.Ytknpaihlnkcpgaa.Own
