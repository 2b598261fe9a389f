/- A number's bytes, in plain Lean. -/
import Derived.Test.YtknpaihlnkcpgaaSumPlain
set_option linter.unusedVariables false
set_option linter.unusedSimpArgs false
namespace Go.Proofs.Ytknpaihlnkcpgaa.Own

/-- the bytes of a number, the highest first -/
def be : Nat → Int → List Int
  | 0, _ => []
  | n + 1, v => be n (v / 256) ++ [v % 256]
theorem be_length : ∀ (n : Nat) (v : Int), (be n v).length = n := by
  intro n
  induction n with
  | zero => intro v; rfl
  | succ n ih => intro v; simp [be, ih]
theorem bytes_be : ∀ (n : Nat) (v : Int), bytes (be n v) := by
  intro n
  induction n with
  | zero => intro v; exact bytes_nil
  | succ n ih =>
    intro v
    simp only [be]
    rw [bytes_append]
    refine ⟨ih _, fun x hx => ?_⟩
    rw [List.mem_singleton.1 hx]
    omega
theorem be_top : ∀ (n : Nat) (v : Int), be (n + 1) v = (v / 256 ^ n % 256) :: be n v := by
  intro n
  induction n with
  | zero => intro v; simp [be]
  | succ n ih =>
    intro v
    rw [be, ih (v / 256)]
    have e : v / 256 / 256 ^ n = v / 256 ^ (n + 1) := by
      rw [Int.ediv_ediv_of_nonneg (by omega), Int.pow_succ, Int.mul_comm]
    rw [e]
    simp [be]
theorem be_one (v : Int) : be 1 v = [v % 256] := rfl
theorem be_two (v : Int) : be 2 v = [v / 256 % 256, v % 256] := rfl
/-- how many bytes a number wants -/
def lst : Nat → Int → Int
  | 0, _ => 1
  | n + 1, v => if 0 < v / 256 then lst n (v / 256) + 1 else 1
theorem lst_pos : ∀ (n : Nat) (v : Int), 1 ≤ lst n v := by
  intro n
  induction n with
  | zero => intro v; exact Int.le_refl _
  | succ n ih =>
    intro v
    unfold lst
    split
    · have := ih (v / 256); omega
    · exact Int.le_refl _
theorem pow_ge (k : Nat) (hk : 1 ≤ k) : (256 : Int) ≤ 256 ^ k := by
  obtain ⟨j, rfl⟩ : ∃ j, k = j + 1 := ⟨k - 1, by omega⟩
  have h : (0 : Int) < 256 ^ j := Int.pow_pos (by omega)
  rw [Int.pow_succ]
  omega
set_option maxRecDepth 100000 in
theorem lst_le : ∀ (n k : Nat) (v : Int), 0 ≤ v → v < 256 ^ (n + 1) → 1 ≤ k → (lst n v ≤ k ↔ v < 256 ^ k) := by
  intro n
  induction n with
  | zero =>
    intro k v h0 h1 hk
    have h2 := pow_ge k hk
    have h3 : (256 : Int) ^ (0 + 1) = 256 := rfl
    have h4 : lst 0 v = 1 := rfl
    omega
  | succ n ih =>
    intro k v h0 h1 hk
    unfold lst
    have h2 := pow_ge k hk
    split
    · rename_i hp
      rw [Int.pow_succ] at h1
      have hv : v / 256 < 256 ^ (n + 1) := by omega
      have hge := lst_pos n (v / 256)
      rcases Nat.lt_or_ge 1 k with h3 | h3
      · obtain ⟨k, rfl⟩ : ∃ j, k = j + 1 := ⟨k - 1, by omega⟩
        have := ih k (v / 256) (by omega) hv (by omega)
        rw [Int.pow_succ]
        omega
      · have hk1 : k = 1 := by omega
        subst hk1
        have h5 : (256 : Int) ^ 1 = 256 := rfl
        omega
    · rename_i hp
      omega
end Go.Proofs.Ytknpaihlnkcpgaa.Own
