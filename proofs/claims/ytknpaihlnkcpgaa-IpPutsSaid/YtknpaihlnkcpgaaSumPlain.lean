/- Plain words on the Internet's checksum: a folded sum, the sum of bytes as words. No program, no memory. -/
set_option linter.unusedVariables false
set_option linter.unusedSimpArgs false
namespace Go.Proofs.Ytknpaihlnkcpgaa.Own

/-- the folded sum: 0 of 0, else the remainder by 65535, from 1 to 65535 -/
def cf (n : Int) : Int := if n = 0 then 0 else (n - 1) % 65535 + 1

theorem cf_small (n : Int) (h0 : 0 ≤ n) (h1 : n ≤ 65535) : cf n = n := by unfold cf; split <;> omega
theorem cf_step (n : Int) (h1 : 65535 < n) : cf (n % 65536 + n / 65536) = cf n := by unfold cf; split <;> split <;> omega
theorem cf_range (n : Int) (h0 : 0 ≤ n) : 0 ≤ cf n ∧ cf n ≤ 65535 := by unfold cf; split <;> omega
theorem cf_cf_add (a b : Int) (ha : 0 ≤ a) (hb : 0 ≤ b) : cf (cf a + b) = cf (a + b) := by unfold cf; split <;> split <;> (try split) <;> omega
theorem cf_mod (n : Int) (h0 : 0 ≤ n) : cf n % 65535 = n % 65535 := by unfold cf; split <;> omega
theorem cf_zero (n : Int) (h0 : 0 ≤ n) : cf n = 0 ↔ n = 0 := by unfold cf; split <;> omega
theorem cf_full (n : Int) (h0 : 0 < n) : cf n = 65535 ↔ n % 65535 = 0 := by unfold cf; split <;> omega
theorem cf_eq (a b : Int) (ha : 0 < a) (hb : 0 < b) (h : a % 65535 = b % 65535) : cf a = cf b := by unfold cf; split <;> split <;> omega

/-- each is a byte -/
def bytes (l : List Int) : Prop := ∀ x ∈ l, 0 ≤ x ∧ x < 256
instance (l : List Int) : Decidable (bytes l) := inferInstanceAs (Decidable (∀ x ∈ l, 0 ≤ x ∧ x < 256))
theorem bytes_nil : bytes [] := fun x h => by cases h
theorem bytes_cons (x : Int) (l : List Int) : bytes (x :: l) ↔ (0 ≤ x ∧ x < 256) ∧ bytes l := by simp [bytes]
theorem bytes_append (a b : List Int) : bytes (a ++ b) ↔ bytes a ∧ bytes b := by
  constructor
  · exact fun h => ⟨fun x hx => h x (List.mem_append_left _ hx), fun x hx => h x (List.mem_append_right _ hx)⟩
  · rintro ⟨h, k⟩ x hx
    rcases List.mem_append.1 hx with hx | hx
    · exact h x hx
    · exact k x hx

/-- what bytes weigh, the first of them at place m -/
def wt (m : Int) : List Int → Int
  | [] => 0
  | x :: l => (if m % 2 = 0 then x * 256 else x) + wt (m + 1) l
theorem wt_nonneg (l : List Int) : ∀ m, bytes l → 0 ≤ wt m l := by
  induction l with
  | nil => intro m _; simp [wt]
  | cons x l ih =>
    intro m h
    rw [bytes_cons] at h
    have := ih (m + 1) h.2
    unfold wt
    split <;> omega
theorem wt_append (a b : List Int) : ∀ m, wt m (a ++ b) = wt m a + wt (m + a.length) b := by
  induction a with
  | nil => intro m; simp [wt]
  | cons x a ih =>
    intro m
    simp only [List.cons_append, wt, ih, List.length_cons]
    rw [show m + 1 + (a.length : Int) = m + ((a.length + 1 : Nat) : Int) from by omega]
    omega
theorem wt_par (l : List Int) : ∀ m k, m % 2 = k % 2 → wt m l = wt k l := by
  induction l with
  | nil => intro m k _; rfl
  | cons x l ih =>
    intro m k h
    unfold wt
    rw [ih (m + 1) (k + 1) (by omega), h]
theorem wt_take_succ (l : List Int) (m : Int) (k : Nat) (h : k < l.length) : wt m (l.take (k + 1)) = wt m (l.take k) + (if (m + k) % 2 = 0 then l.getD k 0 * 256 else l.getD k 0) := by
  rw [List.take_succ_eq_append_getElem h, wt_append, List.length_take, Nat.min_eq_left (Nat.le_of_lt h)]
  simp [wt, List.getD_eq_getElem?_getD, List.getElem?_eq_getElem h]
theorem bytes_take {l : List Int} (h : bytes l) (k : Nat) : bytes (l.take k) := fun x hx => h x (List.mem_of_mem_take hx)
theorem bytes_drop {l : List Int} (h : bytes l) (k : Nat) : bytes (l.drop k) := fun x hx => h x (List.mem_of_mem_drop hx)
theorem bytes_getD {l : List Int} (h : bytes l) (k : Nat) : 0 ≤ l.getD k 0 ∧ l.getD k 0 < 256 := by
  rw [List.getD_eq_getElem?_getD]
  by_cases hk : k < l.length
  · rw [List.getElem?_eq_getElem hk]
    exact h _ (List.getElem_mem hk)
  · rw [List.getElem?_eq_none (by omega)]
    simp
/-- the checksum of bytes -/
def ck (l : List Int) : Int := 65535 - cf (wt 0 l)
theorem ck_range (l : List Int) (h : bytes l) : 0 ≤ ck l ∧ ck l ≤ 65535 := by
  have := cf_range _ (wt_nonneg l 0 h)
  unfold ck
  omega
/-- are bytes whole -/
def wholeB (l : List Int) : Bool := ck l == 0 || ck l == 65535

/-- what Change tells -/
def chg (s f t : Int) : Int := 65535 - cf (65535 - s + (65535 - f) + t)
/-- a number's two bytes -/
def two (n : Int) : List Int := [n / 256, n % 256]
theorem bytes_two (n : Int) (n0 : 0 ≤ n) (n1 : n ≤ 65535) : bytes (two n) := by
  intro x hx
  simp [two] at hx
  omega
theorem wt_two (n : Int) : wt 0 (two n) = n := by
  simp [wt, two]
  omega
theorem whole_iff (l : List Int) (h : bytes l) : wholeB l = true ↔ wt 0 l % 65535 = 0 := by
  have h0 := wt_nonneg l 0 h
  simp only [wholeB, ck, Bool.or_eq_true, beq_iff_eq]
  unfold cf
  split <;> omega
theorem ck_mod (l : List Int) (h : bytes l) : (wt 0 l + ck l) % 65535 = 0 := by
  have h0 := wt_nonneg l 0 h
  have := cf_mod (wt 0 l) h0
  unfold ck
  omega
theorem wt_even_append (a b : List Int) (h : a.length % 2 = 0) : wt 0 (a ++ b) = wt 0 a + wt 0 b := by
  rw [wt_append, wt_par b (0 + (a.length : Int)) 0 (by omega)]
theorem keeps1 (b : List Int) (h : bytes b) (he : b.length % 2 = 0) : wholeB (b ++ two (ck b)) = true := by
  have hr := ck_range b h
  rw [whole_iff _ ((bytes_append _ _).2 ⟨h, bytes_two _ hr.1 hr.2⟩), wt_even_append _ _ he, wt_two]
  exact ck_mod b h
theorem bytes_set {l : List Int} (h : bytes l) (j : Nat) (x : Int) (h0 : 0 ≤ x) (h1 : x < 256) : bytes (l.set j x) := by
  intro y hy
  rcases List.mem_or_eq_of_mem_set hy with hy | rfl
  · exact h y hy
  · exact ⟨h0, h1⟩
theorem wt_set (l : List Int) (x : Int) : ∀ (m : Int) (j : Nat), j < l.length → wt m (l.set j x) = wt m l + (if (m + j) % 2 = 0 then (x - l.getD j 0) * 256 else x - l.getD j 0) := by
  induction l with
  | nil => intro m j h; simp at h
  | cons y l ih =>
    intro m j h
    cases j with
    | zero =>
      simp only [List.set_cons_zero, wt, List.getD_cons_zero]
      rw [show m + ((0 : Nat) : Int) = m from by omega]
      split <;> omega
    | succ j =>
      simp only [List.set_cons_succ, wt, List.getD_cons_succ]
      rw [ih (m + 1) j (by simpa using h), show m + 1 + (j : Int) = m + ((j + 1 : Nat) : Int) from by omega]
      omega
theorem getD_set_ne (l : List Int) (i j : Nat) (x : Int) (h : i ≠ j) : (l.set i x).getD j 0 = l.getD j 0 := by
  simp [List.getD_eq_getElem?_getD, List.getElem?_set_ne h]
theorem getD_set_eq (l : List Int) (i : Nat) (x : Int) (h : i < l.length) : (l.set i x).getD i 0 = x := by
  simp [List.getD_eq_getElem?_getD, List.getElem?_set_self h]
/-- two words, exchanged -/
theorem keeps2 (b : List Int) (i k : Nat) (hi : i % 2 = 0) (hk : k % 2 = 0) (li : i + 1 < b.length) (lk : k + 1 < b.length) :
    wt 0 ((((b.set i (b.getD k 0)).set (i + 1) (b.getD (k + 1) 0)).set k (b.getD i 0)).set (k + 1) (b.getD (i + 1) 0)) = wt 0 b := by
  rw [wt_set _ _ _ _ (by simp; omega), wt_set _ _ _ _ (by simp; omega), wt_set _ _ _ _ (by simp; omega), wt_set _ _ _ _ (by omega)]
  have p1 : (0 + (i : Int)) % 2 = 0 := by omega
  have p2 : ¬ (0 + ((i + 1 : Nat) : Int)) % 2 = 0 := by omega
  have p3 : (0 + (k : Int)) % 2 = 0 := by omega
  have p4 : ¬ (0 + ((k + 1 : Nat) : Int)) % 2 = 0 := by omega
  rw [if_pos p1, if_neg p2, if_pos p3, if_neg p4]
  by_cases e : i = k
  · subst e
    rw [getD_set_ne _ i (i + 1) _ (by omega), getD_set_ne _ i (i + 1) _ (by omega), getD_set_eq _ (i + 1) _ (by simp; omega), getD_set_ne _ (i + 1) i _ (by omega), getD_set_eq _ i _ (by omega)]
    omega
  · rw [getD_set_ne _ i (i + 1) _ (by omega), getD_set_ne _ (i + 1) k _ (by omega), getD_set_ne _ i k _ (by omega), getD_set_ne _ k (k + 1) _ (by omega), getD_set_ne _ (i + 1) (k + 1) _ (by omega), getD_set_ne _ i (k + 1) _ (by omega)]
    omega
/-- another word -/
theorem keeps3 (b : List Int) (i : Nat) (t : Int) (h : bytes b) (he : b.length % 2 = 0) (hi : i % 2 = 0) (li : i + 1 < b.length) (t0 : 0 ≤ t) (t1 : t ≤ 65535) :
    wholeB (((b.set i (t / 256)).set (i + 1) (t % 256)) ++ two (chg (ck b) (b.getD i 0 * 256 + b.getD (i + 1) 0) t)) = true := by
  have h0 := wt_nonneg b 0 h
  have g0 := bytes_getD h i
  have g1 := bytes_getD h (i + 1)
  have hc := ck_range b h
  have hm := ck_mod b h
  have hf := cf_range (65535 - ck b + (65535 - (b.getD i 0 * 256 + b.getD (i + 1) 0)) + t) (by omega)
  have hq := cf_mod (65535 - ck b + (65535 - (b.getD i 0 * 256 + b.getD (i + 1) 0)) + t) (by omega)
  have hb : bytes ((b.set i (t / 256)).set (i + 1) (t % 256)) := bytes_set (bytes_set h i _ (by omega) (by omega)) _ _ (by omega) (by omega)
  have hw : wt 0 ((b.set i (t / 256)).set (i + 1) (t % 256)) = wt 0 b - (b.getD i 0 * 256 + b.getD (i + 1) 0) + t := by
    have p1 : (0 + (i : Int)) % 2 = 0 := by omega
    have p2 : ¬ (0 + ((i + 1 : Nat) : Int)) % 2 = 0 := by omega
    rw [wt_set _ _ _ _ (by simp; omega), wt_set _ _ _ _ (by omega), if_pos p1, if_neg p2, getD_set_ne _ i (i + 1) _ (by omega)]
    omega
  rw [whole_iff _ ((bytes_append _ _).2 ⟨hb, bytes_two _ (by unfold chg; omega) (by unfold chg; omega)⟩), wt_even_append _ _ (by simpa using he), wt_two, hw]
  unfold chg
  omega
end Go.Proofs.Ytknpaihlnkcpgaa.Own
