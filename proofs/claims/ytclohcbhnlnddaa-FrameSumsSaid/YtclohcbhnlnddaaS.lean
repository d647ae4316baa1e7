/-
  The law FrameSums: the walk.
-/
import Derived.Test.YtclohcbhnlnddaaW
import Derived.Deep.RegionWith
import Derived.Lib.QuietBelow
namespace Go.Proofs.Ytclohcbhnlnddaa
open Go.RowKit Go.Shelf

theorem bytes_trim {w : World} {a : Option Addr} {n cap : Nat} {l : List (BitVec 8)} (h : Bytes w (.slice a n cap) l) (m : Nat) (hm : m ≤ l.length) : Bytes w (.slice a m cap) (l.take m) := by
  obtain ⟨a', cap', e, hc, hn, h⟩ := h
  injection e with e1 e2 e3
  subst e1; subst e3
  have hl : (l.take m).length = m := by rw [List.length_take]; omega
  refine ⟨a, cap, by rw [hl], by omega, hn, ?_⟩
  rcases h with rfl | ⟨b, off, e, hb, hcell⟩
  · exact .inl (by simp)
  · refine .inr ⟨b, off, e, hb, fun j u hj => ?_⟩
    have hjm : j < m := by
      rcases Nat.lt_or_ge j m with h | h
      · exact h
      · rw [List.getElem?_eq_none (by omega)] at hj; cases hj
    rw [List.getElem?_take_of_lt hjm] at hj
    exact hcell j u hj
theorem bytes_at_n {w : World} {a : Option Addr} {n cap : Nat} {l : List (BitVec 8)} (h : Bytes w (.slice a n cap) l) {k : Nat} {x : BitVec 8} (hx : l[k]? = some x) :
    ∃ b off, a = Option.some ⟨b, off, none⟩ ∧ w.cell? ⟨b, off + k, none⟩ = Option.some (.int .u8 (x.toNat : Int)) := by
  have hn : n = l.length := by
    obtain ⟨a', cap', e, -⟩ := h
    injection e
  subst hn
  exact h.at hx
/-- What stands in the third row behind k rounds. -/
def xF (l1 l2 l3 : List (BitVec 8)) : List (BitVec 8) := List.zipWith (· ^^^ ·) (List.zipWith (· ^^^ ·) l1 l2) l3
def dF (X : List (BitVec 8)) (n k : Nat) : List (BitVec 8) := X.take k ++ List.replicate (n - k) 0#8
theorem dF_length {X : List (BitVec 8)} {n k : Nat} (hX : X.length = n) (hk : k ≤ n) : (dF X n k).length = n := by
  simp only [dF, List.length_append, List.length_take, List.length_replicate]; omega
theorem dF_set {X : List (BitVec 8)} {n k : Nat} (hX : X.length = n) (hk : k < n) {x : BitVec 8} (hx : X[k]? = some x) : (dF X n k).set k x = dF X n (k + 1) := by
  unfold dF
  rw [List.set_append_right _ _ (by rw [List.length_take]; omega), List.length_take, show k - min k X.length = 0 by omega, show n - k = (n - (k + 1)) + 1 by omega, List.replicate_succ, List.set_cons_zero, List.take_add_one, hx]
  simp
theorem dF_end {X : List (BitVec 8)} {n : Nat} (hX : X.length = n) : dF X n n = X := by
  unfold dF
  rw [List.take_of_length_le (by omega), Nat.sub_self]; simp
theorem xF_at {l1 l2 l3 : List (BitVec 8)} {k : Nat} {x1 x2 x3 : BitVec 8} (h1 : l1[k]? = some x1) (h2 : l2[k]? = some x2) (h3 : l3[k]? = some x3) : (xF l1 l2 l3)[k]? = some ((x1 ^^^ x2) ^^^ x3) := by
  unfold xF
  rw [List.getElem?_zipWith, List.getElem?_zipWith, h1, h2, h3]
theorem made_zero (n : Nat) : madeCells (Value.int IntKind.u8 0).cells n = ((List.replicate n 0#8).map encb).toArray := by
  apply Array.ext
  · simp [madeCells]
  · intro i h1 h2
    simp only [madeCells, Array.size_map, Array.size_range] at h1
    simp only [madeCells, Array.getElem_map, Array.getElem_range, List.getElem_toArray, List.getElem_map, List.getElem_replicate]
    rw [show (Value.int IntKind.u8 0).cells.size = 1 from rfl, Nat.mod_one]
    rfl
theorem make_full (n : Nat) (hn : n ≤ 100000) (w : World) : ∃ vs : Array Value, vs = ((List.replicate n 0#8).map encb).toArray ∧
    (Instr.makeSlice 23 (.int .i64 (n : Int)) (.int .i64 (n : Int))).run Try.prog w = .ok (.slice (some ⟨w.heap.size, 0, none⟩) n n) (w.alloc (.cells vs 5)) := by
  obtain ⟨i0, hi, hz0, hz1, hz2⟩ := info_parts Try.info5
  have := run_make (P := Try.prog) w 23 5 i0 (.int .u8 0) Try.underlying23 hi hz0 .i64 .i64 n n (by omega) (by omega) (by rw [hz2]; omega) (by omega)
  simp only [Int.toNat_natCast, hz1, Nat.mul_one, made_zero] at this
  exact ⟨_, rfl, this⟩
end Go.Proofs.Ytclohcbhnlnddaa
