/- The options of bytes, in plain Lean. -/
import Derived.Test.YtknpaihlnkcpgaaSumPlain
set_option linter.unusedVariables false
set_option linter.unusedSimpArgs false
namespace Go.Proofs.Ytknpaihlnkcpgaa.Own

/-- the options of bytes; none: there is one that may not be -/
def optsF : Nat → List Int → Option (List (Int × List Int))
  | 0, _ => some []
  | n + 1, l => if l.length = 0 ∨ l.getD 0 0 = 0 then some [] else if l.getD 0 0 = 1 then optsF n (l.drop 1)
    else if l.length < 2 ∨ l.getD 1 0 < 2 ∨ (l.length : Int) < l.getD 1 0 then none
    else (optsF n (l.drop (l.getD 1 0).toNat)).map (fun D => (l.getD 0 0, (l.take (l.getD 1 0).toNat).drop 2) :: D)
def opts (l : List Int) : Option (List (Int × List Int)) := optsF l.length l
theorem optsF_more : ∀ (n m : Nat) (l : List Int), l.length ≤ n → n ≤ m → optsF m l = optsF n l := by
  intro n
  induction n with
  | zero =>
    intro m l h hm
    have : l = [] := List.eq_nil_of_length_eq_zero (by omega)
    subst this
    cases m <;> simp [optsF]
  | succ n ih =>
    intro m l h hm
    obtain ⟨m, rfl⟩ : ∃ k, m = k + 1 := ⟨m - 1, by omega⟩
    unfold optsF
    by_cases h0 : l.length = 0 ∨ l.getD 0 0 = 0
    · rw [if_pos h0, if_pos h0]
    · rw [if_neg h0, if_neg h0]
      by_cases h1 : l.getD 0 0 = 1
      · rw [if_pos h1, if_pos h1, ih m (l.drop 1) (by simp; omega) (by omega)]
      · rw [if_neg h1, if_neg h1]
        by_cases h2 : l.length < 2 ∨ l.getD 1 0 < 2 ∨ (l.length : Int) < l.getD 1 0
        · rw [if_pos h2, if_pos h2]
        · rw [if_neg h2, if_neg h2, ih m (l.drop (l.getD 1 0).toNat) (by rw [List.length_drop]; omega) (by omega)]
theorem opts_nil {l : List Int} (h : l.length = 0 ∨ l.getD 0 0 = 0) : opts l = some [] := by
  unfold opts
  cases hl : l.length with
  | zero => simp [optsF]
  | succ n => unfold optsF; rw [if_pos (by omega)]
theorem opts_one {l : List Int} (h : l.length ≠ 0) (h1 : l.getD 0 0 = 1) : opts l = opts (l.drop 1) := by
  unfold opts
  obtain ⟨n, hn⟩ : ∃ k, l.length = k + 1 := ⟨l.length - 1, by omega⟩
  rw [hn]
  conv => lhs; unfold optsF
  rw [if_neg (by omega), if_pos h1]
  exact optsF_more _ _ _ (Nat.le_refl _) (by simp; omega)
theorem opts_bad {l : List Int} (h : l.length ≠ 0) (h0 : l.getD 0 0 ≠ 0) (h1 : l.getD 0 0 ≠ 1) (h2 : l.length < 2 ∨ l.getD 1 0 < 2 ∨ (l.length : Int) < l.getD 1 0) : opts l = none := by
  unfold opts
  obtain ⟨n, hn⟩ : ∃ k, l.length = k + 1 := ⟨l.length - 1, by omega⟩
  rw [hn]
  unfold optsF
  rw [if_neg (by omega), if_neg h1, if_pos h2]
theorem opts_cons {l : List Int} (h0 : l.getD 0 0 ≠ 0) (h1 : l.getD 0 0 ≠ 1) (h2 : ¬ (l.length < 2 ∨ l.getD 1 0 < 2 ∨ (l.length : Int) < l.getD 1 0)) :
    opts l = (opts (l.drop (l.getD 1 0).toNat)).map (fun D => (l.getD 0 0, (l.take (l.getD 1 0).toNat).drop 2) :: D) := by
  unfold opts
  obtain ⟨n, hn⟩ : ∃ k, l.length = k + 1 := ⟨l.length - 1, by omega⟩
  rw [hn]
  conv => lhs; unfold optsF
  rw [if_neg (by omega), if_neg h1, if_neg h2]
  congr 1
  exact optsF_more _ _ _ (Nat.le_refl _) (by rw [List.length_drop]; omega)
theorem optsF_length : ∀ (n : Nat) (l : List Int) (D : List (Int × List Int)), optsF n l = some D → D.length ≤ n := by
  intro n
  induction n with
  | zero => intro l D h; cases h; exact Nat.le_refl _
  | succ n ih =>
    intro l D h
    unfold optsF at h
    split at h
    · cases h; exact Nat.zero_le _
    · split at h
      · have := ih _ _ h; omega
      · split at h
        · cases h
        · obtain ⟨E, hE, rfl⟩ := Option.map_eq_some_iff.1 h
          have := ih _ _ hE
          simp
          omega
theorem opts_length {l : List Int} {D : List (Int × List Int)} (h : opts l = some D) : D.length ≤ l.length := optsF_length _ _ _ h
end Go.Proofs.Ytknpaihlnkcpgaa.Own
