/- Small laws on rows of bytes that are laid or read: over any world. -/
import Derived.Test.YtknpaihlnkcpgaaBase
import Derived.Handy
set_option linter.unusedVariables false
set_option linter.unusedSimpArgs false
namespace Go.Proofs.Ytknpaihlnkcpgaa.Own
open Go.RowKit Go.Proofs.YtknpaihlnkcpgaaW.PrintWords Go.Proofs.YtknpaihlnkcpgaaW.PrintLast Go.Proofs.YtknpaihlnkcpgaaW.PrintMore

theorem ret_bool {a b : Bool} (h : a = b) : Ending.returned (.bool a) = .returned (.bool b) := by rw [h]

/-- a new block of bytes reads so -/
theorem C_blk_bytes {w : World} {g t : Nat} {fr : Nat × Nat} (cs : List Int) (hm : cs.length ≤ 9223372036854775807) (hb : w.heap[g]? = some (.cells (nums .u8 cs).toArray t fr)) : Kd.C (Kd.int .u8) w (some ⟨g, 0, none⟩) cs.length cs := by
  refine ⟨rfl, hm, fun _ => ⟨_, rfl, fun j p hj => ⟨[.int .u8 p], rfl, rfl, fun i u hu => ?_⟩⟩⟩
  match i, hu with
  | 0, hu =>
    have hu' : Value.int .u8 p = u := by simpa using hu
    subst hu'
    have hs : (Kd.int IntKind.u8).sz = 1 := rfl
    rw [hs, Nat.mul_one, Nat.add_zero, add_plain, cell_of_row w g j _ t fr hb]
    simp [nums, hj]
theorem C_new_bytes (w : World) (cs : List Int) (hm : cs.length ≤ 9223372036854775807) : Kd.C (Kd.int .u8) (w.alloc (.cells (nums .u8 cs).toArray 5)) (some ⟨w.heap.size, 0, none⟩) cs.length cs := C_blk_bytes cs hm (heap_alloc_new w _)
/-- a new block of one row, of two rows of bytes -/
theorem C_blk_rows1 {w : World} {g t : Nat} {fr : Nat × Nat} {A : Option Addr} {c : Nat} {l : List Int} (hb : w.heap[g]? = some (.cells #[.slice A l.length c] t fr)) (h : Kd.C (Kd.int .u8) w A l.length l) (hc : l.length ≤ c) : Kd.C (Kd.slice 5 (Kd.int .u8)) w (some ⟨g, 0, none⟩) 1 [l] := by
  refine ⟨rfl, by decide, fun _ => ⟨_, rfl, fun j p hj => ?_⟩⟩
  match j, hj with
  | 0, hj =>
    obtain rfl : l = p := by simpa using hj
    refine ⟨[.slice A l.length c], rfl, ⟨A, c, rfl, hc, h⟩, fun i u hu => ?_⟩
    match i, hu with
    | 0, hu =>
      have hu' : Value.slice A l.length c = u := by simpa using hu
      subst hu'
      rw [Nat.zero_mul, Nat.add_zero, add_plain, cell_of_row w g 0 _ t fr hb]
      rfl
theorem C_blk_rows2 {w : World} {g t : Nat} {fr : Nat × Nat} {A B : Option Addr} {c d : Nat} {l m : List Int} (hb : w.heap[g]? = some (.cells #[.slice A l.length c, .slice B m.length d] t fr)) (h : Kd.C (Kd.int .u8) w A l.length l) (hc : l.length ≤ c) (k : Kd.C (Kd.int .u8) w B m.length m) (hd : m.length ≤ d) : Kd.C (Kd.slice 5 (Kd.int .u8)) w (some ⟨g, 0, none⟩) 2 [l, m] := by
  refine ⟨rfl, by decide, fun _ => ⟨_, rfl, fun j p hj => ?_⟩⟩
  match j, hj with
  | 0, hj =>
    obtain rfl : l = p := by simpa using hj
    refine ⟨[.slice A l.length c], rfl, ⟨A, c, rfl, hc, h⟩, fun i u hu => ?_⟩
    match i, hu with
    | 0, hu =>
      have hu' : Value.slice A l.length c = u := by simpa using hu
      subst hu'
      rw [Nat.zero_mul, Nat.add_zero, add_plain, cell_of_row w g 0 _ t fr hb]
      rfl
  | 1, hj =>
    obtain rfl : m = p := by simpa using hj
    refine ⟨[.slice B m.length d], rfl, ⟨B, d, rfl, hd, k⟩, fun i u hu => ?_⟩
    match i, hu with
    | 0, hu =>
      have hu' : Value.slice B m.length d = u := by simpa using hu
      subst hu'
      have hs : (Kd.slice 5 (Kd.int IntKind.u8)).sz = 1 := rfl
      rw [hs, Nat.mul_one, Nat.add_zero, add_plain, cell_of_row w g 1 _ t fr hb]
      rfl
theorem C_new_rows1n {w : World} {A : Option Addr} {n c : Nat} {l : List Int} (h : Kd.C (Kd.int .u8) w A n l) (hc : n ≤ c) : Kd.C (Kd.slice 5 (Kd.int .u8)) (w.alloc (.cells #[.slice A n c] 22)) (some ⟨w.heap.size, 0, none⟩) 1 [l] := by
  obtain rfl := h.1
  exact C_blk_rows1 (heap_alloc_new w _) (Kd.C_alloc h _) hc
theorem C_new_rows1 {w : World} {A : Option Addr} {c : Nat} {l : List Int} (h : Kd.C (Kd.int .u8) w A l.length l) (hc : l.length ≤ c) : Kd.C (Kd.slice 5 (Kd.int .u8)) (w.alloc (.cells #[.slice A l.length c] 22)) (some ⟨w.heap.size, 0, none⟩) 1 [l] :=
  C_blk_rows1 (heap_alloc_new w _) (Kd.C_alloc h _) hc
theorem C_new_rows2 {w : World} {A B : Option Addr} {c d : Nat} {l m : List Int} (h : Kd.C (Kd.int .u8) w A l.length l) (hc : l.length ≤ c) (k : Kd.C (Kd.int .u8) w B m.length m) (hd : m.length ≤ d) : Kd.C (Kd.slice 5 (Kd.int .u8)) (w.alloc (.cells #[.slice A l.length c, .slice B m.length d] 22)) (some ⟨w.heap.size, 0, none⟩) 2 [l, m] :=
  C_blk_rows2 (heap_alloc_new w _) (Kd.C_alloc h _) hc (Kd.C_alloc k _) hd
/-- what a call's literals are: one row of bytes; two rows -/
theorem C_lits1 (w : World) (cs : List Int) (hm : cs.length ≤ 9223372036854775807) : Kd.C (Kd.slice 5 (Kd.int .u8)) ((w.alloc (.cells (nums .u8 cs).toArray 5)).alloc (.cells #[.slice (some ⟨w.heap.size, 0, none⟩) cs.length cs.length] 22)) (some ⟨w.heap.size + 1, 0, none⟩) 1 [cs] := by
  have h := C_new_rows1 (C_new_bytes w cs hm) (Nat.le_refl _)
  rwa [World.size_alloc] at h
theorem C_lits2 (w : World) (cs ds : List Int) (hm : cs.length ≤ 9223372036854775807) (hn : ds.length ≤ 9223372036854775807) : Kd.C (Kd.slice 5 (Kd.int .u8)) (((w.alloc (.cells (nums .u8 cs).toArray 5)).alloc (.cells (nums .u8 ds).toArray 5)).alloc (.cells #[.slice (some ⟨w.heap.size, 0, none⟩) cs.length cs.length, .slice (some ⟨w.heap.size + 1, 0, none⟩) ds.length ds.length] 22)) (some ⟨w.heap.size + 2, 0, none⟩) 2 [cs, ds] := by
  have h := C_new_rows2 (Kd.C_alloc (C_new_bytes w cs hm) (.cells (nums .u8 ds).toArray 5)) (Nat.le_refl _) (C_new_bytes (w.alloc (.cells (nums .u8 cs).toArray 5)) ds hn) (Nat.le_refl _)
  simp only [World.size_alloc] at h
  exact h
/-- a row that came, and one of two bytes -/
theorem C_row_two {w : World} {A : Option Addr} {c : Nat} {b : List Int} (h : Kd.C (Kd.int .u8) w A b.length b) (hc : b.length ≤ c) (x y : Int) :
    Kd.C (Kd.slice 5 (Kd.int .u8)) ((w.alloc (.cells #[.int .u8 x, .int .u8 y] 5)).alloc (.cells #[.slice A b.length c, .slice (some ⟨w.heap.size, 0, none⟩) 2 2] 22)) (some ⟨w.heap.size + 1, 0, none⟩) 2 [b, [x, y]] := by
  have h := C_new_rows2 (Kd.C_alloc h (.cells (nums .u8 [x, y]).toArray 5)) hc (C_new_bytes w [x, y] (by simp)) (Nat.le_refl 2)
  rwa [World.size_alloc] at h
theorem C_row_twon {w : World} {A : Option Addr} {n c : Nat} {b : List Int} (h : Kd.C (Kd.int .u8) w A n b) (hc : n ≤ c) (x y : Int) :
    Kd.C (Kd.slice 5 (Kd.int .u8)) ((w.alloc (.cells #[.int .u8 x, .int .u8 y] 5)).alloc (.cells #[.slice A n c, .slice (some ⟨w.heap.size, 0, none⟩) 2 2] 22)) (some ⟨w.heap.size + 1, 0, none⟩) 2 [b, [x, y]] := by
  obtain rfl := h.1
  exact C_row_two h hc x y
/-- a row of one's own, read -/
theorem C_of_R {w : World} {e base : Nat} {ok : Nat → Prop} {A : Option Addr} {n c : Nat} {xs : List Int} (h : Kd.R (Kd.int .u8) e w base ok (.slice A n c) xs) : Kd.C (Kd.int .u8) w A n xs ∧ n ≤ c := by
  obtain ⟨rfl, h2, h3⟩ := Kd.R_reads' h
  exact ⟨h3, h2⟩
theorem below_alloc1 (w : World) (a : Obj) : Below w.heap.size w (w.alloc a) := (Below.refl w.heap.size w).alloc (Nat.le_refl _) _
theorem below_alloc2 (w : World) (a b : Obj) : Below w.heap.size w ((w.alloc a).alloc b) := (below_alloc1 w a).alloc (by simp) _
theorem below_alloc3 (w : World) (a b c : Obj) : Below w.heap.size w (((w.alloc a).alloc b).alloc c) := (below_alloc2 w a b).alloc (by simp; omega) _
theorem below_tr {w a b : World} (h : Below w.heap.size w a) (k : Below a.heap.size a b) : Below w.heap.size w b := below_then h h.size k

theorem info_u8 : (Try.prog.info? 5).map (fun i => (i.zero, i.size, i.bytes)) = some (some (.int .u8 0), 1, 1) := by kernel_rfl
/-- cuts of a row of bytes: what the walk runs, and what they read -/
theorem drop_bytes (A : Option Addr) (c : Nat) (xs : List Int) (j : Int) (h0 : 0 ≤ j) (hm : j ≤ xs.length) (hc : xs.length ≤ c) :
    ∃ A' : Option Addr, (∀ W : World, (Instr.slice 22 (.slice A xs.length c) (some (.int .i64 j)) none none).run Try.prog W = .ok (.slice A' (xs.drop j.toNat).length (c - j.toNat)) W) ∧
      (∀ w : World, Kd.C (Kd.int .u8) w A xs.length xs → Kd.C (Kd.int .u8) w A' (xs.drop j.toNat).length (xs.drop j.toNat)) ∧ (xs.drop j.toNat).length ≤ c - j.toNat := by
  obtain ⟨i, hi, hz⟩ := Option.map_eq_some_iff.1 info_u8
  simp only [Prod.mk.injEq] at hz
  obtain ⟨A', h1, h2, h3⟩ := print_drop_of (P := Try.prog) (Value.int .u8) (0 : Int) 22 5 .i64 Try.underlying22 hi hz.2.1 A c xs j h0 hm hc
  exact ⟨A', h1, fun w h => Kd.C_of_reads (d := (0 : Int)) (h1 := fun _ => rfl) (h2 w (Kd.reads_of_C (enc := Value.int .u8) (d := (0 : Int)) (h1 := fun _ => rfl) h)), h3⟩
theorem take_bytes (A : Option Addr) (c : Nat) (xs : List Int) (j : Int) (h0 : 0 ≤ j) (hm : j ≤ xs.length) (hc : xs.length ≤ c) :
    (∀ W : World, (Instr.slice 22 (.slice A xs.length c) none (some (.int .i64 j)) none).run Try.prog W = .ok (.slice A (xs.take j.toNat).length c) W) ∧
      (∀ w : World, Kd.C (Kd.int .u8) w A xs.length xs → Kd.C (Kd.int .u8) w A (xs.take j.toNat).length (xs.take j.toNat)) ∧ (xs.take j.toNat).length ≤ c := by
  obtain ⟨i, hi, hz⟩ := Option.map_eq_some_iff.1 info_u8
  simp only [Prod.mk.injEq] at hz
  obtain ⟨h1, h2, h3⟩ := print_take_of (P := Try.prog) (Value.int .u8) (0 : Int) 22 5 .i64 Try.underlying22 hi hz.2.1 A c xs j h0 hm hc
  exact ⟨h1, fun w h => Kd.C_of_reads (d := (0 : Int)) (h1 := fun _ => rfl) (h2 w (Kd.reads_of_C (enc := Value.int .u8) (d := (0 : Int)) (h1 := fun _ => rfl) h)), h3⟩
theorem mid_bytes (A : Option Addr) (c : Nat) (xs : List Int) (a b : Int) (h0 : 0 ≤ a) (h1 : a ≤ b) (hm : b ≤ xs.length) (hc : xs.length ≤ c) :
    ∃ A' : Option Addr, (∀ W : World, (Instr.slice 22 (.slice A xs.length c) (some (.int .i64 a)) (some (.int .i64 b)) none).run Try.prog W = .ok (.slice A' ((xs.take b.toNat).drop a.toNat).length (c - a.toNat)) W) ∧
      (∀ w : World, Kd.C (Kd.int .u8) w A xs.length xs → Kd.C (Kd.int .u8) w A' ((xs.take b.toNat).drop a.toNat).length ((xs.take b.toNat).drop a.toNat)) ∧ ((xs.take b.toNat).drop a.toNat).length ≤ c - a.toNat := by
  obtain ⟨i, hi, hz⟩ := Option.map_eq_some_iff.1 info_u8
  simp only [Prod.mk.injEq] at hz
  obtain ⟨A', h1, h2, h3⟩ := print_mid_of (P := Try.prog) (Value.int .u8) (0 : Int) 22 5 .i64 .i64 Try.underlying22 hi hz.2.1 A c xs a b h0 h1 hm hc
  exact ⟨A', h1, fun w h => Kd.C_of_reads (d := (0 : Int)) (h1 := fun _ => rfl) (h2 w (Kd.reads_of_C (enc := Value.int .u8) (d := (0 : Int)) (h1 := fun _ => rfl) h)), h3⟩
/-- the same cuts, their numbers and lists under names -/
theorem cut_take (A : Option Addr) (n c : Nat) (xs : List Int) (j : Int) (hn : xs.length = n) (h0 : 0 ≤ j) (hm : j ≤ n) (hc : n ≤ c) :
    ∃ (T : List Int) (m : Nat), (∀ W : World, (Instr.slice 22 (.slice A n c) none (some (.int .i64 j)) none).run Try.prog W = .ok (.slice A m c) W) ∧
      (∀ w : World, Kd.C (Kd.int .u8) w A n xs → Kd.C (Kd.int .u8) w A m T) ∧ m ≤ c ∧ T = xs.take j.toNat ∧ (m : Int) = j := by
  subst hn
  obtain ⟨h1, h2, h3⟩ := take_bytes A c xs j h0 hm hc
  exact ⟨_, _, h1, h2, h3, rfl, by rw [List.length_take]; omega⟩
theorem cut_drop (A : Option Addr) (n c : Nat) (xs : List Int) (j : Int) (hn : xs.length = n) (h0 : 0 ≤ j) (hm : j ≤ n) (hc : n ≤ c) :
    ∃ (T : List Int) (A' : Option Addr) (m c' : Nat), (∀ W : World, (Instr.slice 22 (.slice A n c) (some (.int .i64 j)) none none).run Try.prog W = .ok (.slice A' m c') W) ∧
      (∀ w : World, Kd.C (Kd.int .u8) w A n xs → Kd.C (Kd.int .u8) w A' m T) ∧ m ≤ c' ∧ T = xs.drop j.toNat ∧ (m : Int) = n - j := by
  subst hn
  obtain ⟨A', h1, h2, h3⟩ := drop_bytes A c xs j h0 hm hc
  exact ⟨_, _, _, _, h1, h2, h3, rfl, by rw [List.length_drop]; omega⟩
theorem cut_mid (A : Option Addr) (n c : Nat) (xs : List Int) (a b : Int) (hn : xs.length = n) (h0 : 0 ≤ a) (h1 : a ≤ b) (hm : b ≤ n) (hc : n ≤ c) :
    ∃ (T : List Int) (A' : Option Addr) (m c' : Nat), (∀ W : World, (Instr.slice 22 (.slice A n c) (some (.int .i64 a)) (some (.int .i64 b)) none).run Try.prog W = .ok (.slice A' m c') W) ∧
      (∀ w : World, Kd.C (Kd.int .u8) w A n xs → Kd.C (Kd.int .u8) w A' m T) ∧ m ≤ c' ∧ T = (xs.take b.toNat).drop a.toNat ∧ (m : Int) = b - a := by
  subst hn
  obtain ⟨A', h2, h3, h4⟩ := mid_bytes A c xs a b h0 h1 hm hc
  exact ⟨_, _, _, _, h2, h3, h4, rfl, by rw [List.length_drop, List.length_take]; omega⟩
/-- a byte of b at i, in another world -/
theorem byte_at {b : List Int} {A : Option Addr} {w wr : World} (hr : Kd.C (Kd.int .u8) w A b.length b) (hb : Below w.heap.size w wr) (i : Int) (h0 : 0 ≤ i) (h1 : i < b.length) : ∃ ad, A = some ad ∧ wr.cell? (ad.add i.toNat) = some (.int .u8 (b.getD i.toNat 0)) := by
  obtain ⟨ad, rfl, hx⟩ := Kd.at_int hr i h0 h1
  exact ⟨ad, rfl, (hb.cell (World.block_lt_of_cell? w _ hx)).trans hx⟩
/-- numbers of their kinds -/
theorem bytes_of_wf {l : List Int} (h : ∀ x ∈ l, (Lit.int .u8 x).wf = true) : ∀ x ∈ l, 0 ≤ x ∧ x < 256 := by
  intro x hx
  have hmin : IntKind.u8.min = 0 := rfl
  have hmax : IntKind.u8.max = 255 := rfl
  have := h x hx
  simp only [Lit.wf, Bool.and_eq_true, decide_eq_true_eq] at this
  omega
theorem i64_of_wf {x : Int} (h : (Lit.int .i64 x).wf = true) : -9223372036854775808 ≤ x ∧ x ≤ 9223372036854775807 := by
  have hmin : IntKind.i64.min = -9223372036854775808 := rfl
  have hmax : IntKind.i64.max = 9223372036854775807 := rfl
  simp only [Lit.wf, Bool.and_eq_true, decide_eq_true_eq] at h
  omega
theorem u16_of_wf {x : Int} (h : (Lit.int .u16 x).wf = true) : 0 ≤ x ∧ x ≤ 65535 := by
  have hmin : IntKind.u16.min = 0 := rfl
  have hmax : IntKind.u16.max = 65535 := rfl
  simp only [Lit.wf, Bool.and_eq_true, decide_eq_true_eq] at h
  omega
theorem u8_of_wf {x : Int} (h : (Lit.int .u8 x).wf = true) : 0 ≤ x ∧ x ≤ 255 := by
  have hmin : IntKind.u8.min = 0 := rfl
  have hmax : IntKind.u8.max = 255 := rfl
  simp only [Lit.wf, Bool.and_eq_true, decide_eq_true_eq] at h
  omega
theorem u32_of_wf {x : Int} (h : (Lit.int .u32 x).wf = true) : 0 ≤ x ∧ x ≤ 4294967295 := by
  have hmin : IntKind.u32.min = 0 := rfl
  have hmax : IntKind.u32.max = 4294967295 := rfl
  simp only [Lit.wf, Bool.and_eq_true, decide_eq_true_eq] at h
  omega
end Go.Proofs.Ytknpaihlnkcpgaa.Own
