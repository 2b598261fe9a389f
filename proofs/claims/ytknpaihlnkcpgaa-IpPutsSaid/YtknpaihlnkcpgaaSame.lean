/- Contract of octroiref01.Same; equal bytes, equal texts. -/
import Derived.Test.YtknpaihlnkcpgaaHelp
import Derived.Test.YtknpaihlnkcpgaaSumPlain
import Derived.Lib.Bytes
set_option linter.unusedVariables false
set_option linter.unusedSimpArgs false
namespace Go.Proofs.Ytknpaihlnkcpgaa.Own
open Go.RowKit Go.Proofs.YtknpaihlnkcpgaaW.PrintWords Go.Proofs.YtknpaihlnkcpgaaW.PrintLast Go.Proofs.YtknpaihlnkcpgaaW.PrintMore

theorem u8_ofNat_inj {x y : Int} (hx : 0 ≤ x ∧ x < 256) (hy : 0 ≤ y ∧ y < 256) (h : UInt8.ofNat x.toNat = UInt8.ofNat y.toNat) : x = y := by
  have h1 : (UInt8.ofNat x.toNat).toNat = (UInt8.ofNat y.toNat).toNat := by rw [h]
  rw [UInt8.toNat_ofNat', UInt8.toNat_ofNat'] at h1
  omega
theorem map_u8_inj : ∀ (xs ys : List Int), bytes xs → bytes ys → (xs.map fun n => UInt8.ofNat n.toNat) = (ys.map fun n => UInt8.ofNat n.toNat) → xs = ys
  | [], [], _, _, _ => rfl
  | [], _ :: _, _, _, h => by simp at h
  | _ :: _, [], _, _, h => by simp at h
  | x :: xs, y :: ys, hx, hy, h => by
    rw [bytes_cons] at hx hy
    simp only [List.map_cons, List.cons.injEq] at h
    rw [u8_ofNat_inj hx.1 hy.1 h.1, map_u8_inj xs ys hx.2 hy.2 h.2]
theorem strOfNums_inj {xs ys : List Int} (hx : bytes xs) (hy : bytes ys) : strOfNums xs = strOfNums ys ↔ xs = ys := by
  constructor
  · intro h
    have h1 : (strOfNums xs).data.toList = (strOfNums ys).data.toList := by rw [h]
    exact map_u8_inj xs ys hx hy h1
  · rintro rfl; rfl

theorem same_any (xs ys : List Int) (A B : Option Addr) (n c m d : Nat) (w : World) (hr : Kd.C (Kd.int .u8) w A n xs) (hs : Kd.C (Kd.int .u8) w B m ys) (hx : bytes xs) (hy : bytes ys) :
    Calls Try.prog 14 #[.slice A n c, .slice B m d] w fun e w' => e = .returned (.bool (decide (xs = ys))) ∧ w = w' := by
  have h1 := Kd.C_string (c := c) Try.underlying22 Try.underlying5 Try.underlying9 hr
  have h2 := Kd.C_string (c := d) Try.underlying22 Try.underlying5 Try.underlying9 hs
  have HI := Aside0.mk (strOfNums_inj hx hy)
  go_enter Try.func14, Try.ntmps14
  go_wp2
  go_ret
  refine ⟨ret_bool ?_, rfl⟩
  rw [Lib.strOfNums_toList, Lib.strOfNums_toList, Bool.eq_iff_iff, beq_iff_eq, decide_eq_true_iff]
  exact ⟨map_u8_inj xs ys hx hy, fun h => by rw [h]⟩
end Go.Proofs.Ytknpaihlnkcpgaa.Own
