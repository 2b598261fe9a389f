/- The walk of the law IpPuts. (written by wip/gen_lawputs.py) -/
import Derived.Test.YtknpaihlnkcpgaaEqR5
import Derived.Test.YtknpaihlnkcpgaaWorks5
set_option linter.unusedVariables false
set_option linter.unusedSimpArgs false
namespace Go.Proofs.Ytknpaihlnkcpgaa.Own
open Go.RowKit Go.Proofs.YtknpaihlnkcpgaaW.PrintWords Go.Proofs.YtknpaihlnkcpgaaW.PrintLast Go.Proofs.YtknpaihlnkcpgaaW.PrintMore
attribute [local go_sem ↓] lv_hd lv_rh sv_rh
attribute [local go_sem] run_sv_rh gv_some isV_some pick2_true stc nfz_false oc1_int oc1_bool oc1_string oc1_slice oc1_pointer oc1_func pick1_true setCells_new setCells_past setCells_drew

theorem inS_append (a b : ByteArray) : inS (a ++ b) = inS a ++ inS b := by simp [inS]
theorem rst_stands {h : Hd} {o : List Int} (hok : h.ok) (ho : bytes o) {n : Nat} (hn : o.length = n) (s : Int) :
    rst h n (inS (strOfNums [h.s0, h.s1, h.s2, h.s3] ++ strOfNums [h.d0, h.d1, h.d2, h.d3] ++ strOfNums o)) s = stands h o s := by
  subst hn
  rw [inS_append, inS_append, inS_str (bytes_src hok), inS_str (bytes_dst hok), inS_str ho]
  simp [rst, stands]
theorem str_size {o : List Int} (ho : bytes o) : (strOfNums o).size = o.length := by rw [← inS_length, inS_str ho]
/-- the document's row of a header that is right, and the code's: the same -/
theorem rput5_doc (h : Hd) (o : List Int) (n : Nat) (w : World) (hok : h.ok) (ho : bytes o) (hn : o.length = n) (hr : rightB h n = true) :
    Calls Try.prog 12 #[.agg (docOf h o)] w fun e w' => ∃ A n c, e = .returned (.tuple #[.slice A n c, .int .i64 0]) ∧ Kd.R (Kd.int .u8) 5 w' w.heap.size (fun _ => True) (.slice A n c) (stands h o (ck (stands h o 0))) ∧ Below w.heap.size w w' := by
  subst hn
  have hq := rput5_right h (strOfNums [h.s0, h.s1, h.s2, h.s3]) (strOfNums [h.d0, h.d1, h.d2, h.d3]) (strOfNums o) w hok (by rw [str_size (bytes_src hok)]; simp) (by rw [str_size (bytes_dst hok)]; simp) (by rw [str_size ho]; exact hr)
  rw [str_size ho, rst_stands hok ho rfl, rst_stands hok ho rfl] at hq
  exact hq
theorem rput5_docW (h : Hd) (o : List Int) (n : Nat) (w : World) (hok : h.ok) (ho : bytes o) (hn : o.length = n) (hn1 : n ≤ 1000) (hr : rightB h n = false) :
    Calls Try.prog 12 #[.agg (docOf h o)] w fun e w' => e = .returned (.tuple #[.slice none 0 0, .int .i64 51]) ∧ Below w.heap.size w w' := by
  subst hn
  exact rput5_wrong h _ _ _ w hok (by rw [str_size ho]; exact hn1) (by rw [str_size ho]; exact hr)
theorem rright_doc (h : Hd) (o : List Int) (n : Nat) (w : World) (hok : h.ok) (ho : bytes o) (hn : o.length = n) (hn1 : n ≤ 1000) :
    Calls Try.prog 16 #[.agg (docOf h o)] w fun e w' => e = .returned (.bool (rightB h n)) ∧ Below w.heap.size w w' := by
  subst hn
  have hq := rright_any h (strOfNums [h.s0, h.s1, h.s2, h.s3]) (strOfNums [h.d0, h.d1, h.d2, h.d3]) (strOfNums o) w hok.2.1 (by rw [str_size ho]; omega)
  rw [str_size ho] at hq
  exact hq
/-- what Put answers: its number, and its row -/
def putF (h : Hd) (n : Nat) : Int := if rightB h n then 0 else 51
def putL (h : Hd) (n : Nat) (o : List Int) : List Int := if rightB h n then stands h o (ck (stands h o 0)) else []
theorem put_all (h : Hd) (A : Option Addr) (n c : Nat) (o : List Int) (w : World) (hok : h.ok) (hn : n ≤ 1000000) (hC : Kd.C (Kd.int .u8) w A n o) (hc : n ≤ c) (ho : bytes o) :
    Calls Try.prog 13 #[.agg (hcs h A n c)] w fun e w' => ∃ A1 n1 c1, e = .returned (.tuple #[.slice A1 n1 c1, .int .i64 (putF h n)]) ∧ Kd.R (Kd.int .u8) 5 w' w.heap.size (fun _ => True) (.slice A1 n1 c1) (putL h n o) ∧ Below w.heap.size w w' := by
  unfold putF putL
  cases hr : rightB h n with
  | false =>
    refine (put_wrong h A n c w hok.2.1 hn hr).mono ?_
    rintro e w' ⟨rfl, hb⟩
    exact ⟨_, _, _, rfl, Kd.R_nil _ _ _ _ _, hb⟩
  | true =>
    refine (put_right h A n c o w hok hn hr hC hc ho).mono ?_
    rintro e w' ⟨x, rfl, hx, hb⟩
    obtain ⟨A1, c1, rfl⟩ := Kd.R_slice hx
    exact ⟨_, _, _, rfl, hx, hb⟩
theorem rput5_all (h : Hd) (o : List Int) (n : Nat) (w : World) (hok : h.ok) (ho : bytes o) (hn : o.length = n) (hn1 : n ≤ 1000) :
    Calls Try.prog 12 #[.agg (docOf h o)] w fun e w' => ∃ A1 n1 c1, e = .returned (.tuple #[.slice A1 n1 c1, .int .i64 (putF h n)]) ∧ Kd.R (Kd.int .u8) 5 w' w.heap.size (fun _ => True) (.slice A1 n1 c1) (putL h n o) ∧ Below w.heap.size w w' := by
  unfold putF putL
  cases hr : rightB h n with
  | false =>
    refine (rput5_docW h o n w hok ho hn hn1 hr).mono ?_
    rintro e w' ⟨rfl, hb⟩
    exact ⟨_, _, _, rfl, Kd.R_nil _ _ _ _ _, hb⟩
  | true =>
    refine (rput5_doc h o n w hok ho hn hr).mono ?_
    rintro e w' ⟨A1, n1, c1, rfl, hx, hb⟩
    exact ⟨_, _, _, rfl, hx, hb⟩
theorem bytes_putL {h : Hd} {n : Nat} {o : List Int} (hok : h.ok) (ho : bytes o) (hn : o.length = n) : bytes (putL h n o) := by
  unfold putL
  cases hr : rightB h n with
  | false => exact bytes_nil
  | true =>
    have hR : h.frag ≤ 8191 ∧ n % 4 = 0 ∧ n ≤ 40 ∧ (20 : Int) + n ≤ h.total := of_decide_eq_true hr
    rw [if_pos rfl, ← rst_stands hok ho hn]
    exact bytes_rst hok hR.2.2.1 (inS_bytes _)
/-- what stays behind the reference's Put: three boxes -/
def LawPuts (w W : World) (h k : Hd) (A B : Option Addr) (n c m d g : Nat) (o : List Int) : Prop :=
  Below w.heap.size w W ∧ W.heap[w.heap.size]? = some (.cells (hcs h A n c) 39 (0, 0)) ∧ W.heap[w.heap.size + 1]? = some (.cells (hcs k B m d) 39 (0, 0)) ∧ W.heap[g]? = some (.cells (docOf h o) 41 (0, 0))
theorem LawPuts.below {w W W' : World} {h k : Hd} {A B : Option Addr} {n c m d g : Nat} {o : List Int} (hL : LawPuts w W h k A B n c m d g o) (hb : Below W.heap.size W W') : LawPuts w W' h k A B n c m d g o :=
  ⟨below_then hL.1 hL.1.size hb, (hb.block _ (blk_lt hL.2.1)).trans hL.2.1, (hb.block _ (blk_lt hL.2.2.1)).trans hL.2.2.1, (hb.block _ (blk_lt hL.2.2.2)).trans hL.2.2.2⟩
end Go.Proofs.Ytknpaihlnkcpgaa.Own
