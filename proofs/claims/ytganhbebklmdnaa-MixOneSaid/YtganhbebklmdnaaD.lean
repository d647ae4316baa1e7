/-
  Rows of keys: what package mix and its reference make of them; and whether two rows of numbers are the same.
-/
import Derived.Test.YtganhbebklmdnaaB
import Derived.Laws.AppendOwn
import Derived.Maps.AppendAt
import Derived.Deep.QuietTactic
import Derived.BigQuiet
namespace Go.Proofs.Ytganhbebklmdnaa
open Go.RowKit Go.Shelf

/-- The slice value v holds the values xs. -/
def Lies (w : World) (v : Value) (xs : List Value) : Prop :=
  ∃ a cap, v = .slice a xs.length cap ∧ (xs = [] ∨ ∃ b off, a = some ⟨b, off, none⟩ ∧ b < w.heap.size ∧ ∀ j u, xs[j]? = some u → w.cell? ⟨b, off + j, none⟩ = some u)
theorem Lies.below {w w' : World} {v : Value} {xs : List Value} (h : Lies w v xs) (hb : Below w.heap.size w w') : Lies w' v xs := by
  obtain ⟨a, cap, hv, h⟩ := h
  refine ⟨a, cap, hv, ?_⟩
  rcases h with h | ⟨b, off, ha, hl, hc⟩
  · exact .inl h
  · exact .inr ⟨b, off, ha, Nat.lt_of_lt_of_le hl hb.size, fun j u hj => (hb.cell (p := ⟨b, off + j, none⟩) hl).trans (hc j u hj)⟩
theorem Lies.owned {w : World} {base : Nat} {e : TypeId} {v : Value} {n : Nat} {xs : List Value} (h : w.ownsRow base e 1 v n xs) : Lies w v xs := by
  have hc := fun g hg => World.ownsRow.cells h (g := g) hg
  have hl := World.ownsRow.lt h
  obtain ⟨h1, h2⟩ := h
  have hn : xs.length = n := by omega
  rcases h2 with ⟨rfl, rfl⟩ | ⟨g, cap, cur, rfl, -, hg, -⟩
  · have : xs = [] := List.length_eq_zero_iff.1 hn
    subst this
    exact ⟨none, 0, rfl, .inl rfl⟩
  · refine ⟨some ⟨g, 0, none⟩, cap, by rw [hn], .inr ⟨g, 0, rfl, (hl g rfl).2, fun j u hj => ?_⟩⟩
    have := hc g rfl j u hj
    rw [Nat.zero_add]
    by_cases h0 : j = 0
    · subst h0; simpa [Addr.add] using this
    · simpa [Addr.add, h0] using this

def fine (s : ByteArray) : Bool := decide (1 ≤ s.size) && decide (s.size ≤ 20)
theorem ofE_fine {s : ByteArray} (h : fine s = true) : ofE s = 0 := by
  unfold fine at h
  simp only [Bool.and_eq_true, decide_eq_true_eq] at h
  unfold ofE
  rw [if_neg (by omega)]
theorem ofE_not {s : ByteArray} (h : fine s = false) : ofE s = 2 := by
  unfold fine at h
  simp only [Bool.and_eq_false_iff, decide_eq_false_iff_not] at h
  unfold ofE
  rw [if_pos (by omega)]
def allFine (ss : List ByteArray) : Bool := ss.all fine
def places (ss : List ByteArray) : List Value := ss.map fun s => .int .i64 (ofP s)
theorem places_length (ss : List ByteArray) : (places ss).length = ss.length := by simp [places]
theorem places_succ (ss : List ByteArray) (k : Nat) (s : ByteArray) (h : ss[k]? = some s) : places (ss.take (k + 1)) = places (ss.take k) ++ [.int .i64 (ofP s)] := by
  rw [List.take_add_one, h]
  simp [places]

theorem Try.info3 : (Try.prog.info? 3).map (fun i => (i.zero, i.size, i.bytes)) = some (some (.int .i64 0), 1, 8) := by kernel_rfl

theorem row_next {w wr w1 : World} {v : Value} {k : Nat} {xs : List Value} (hO : wr.ownsRow w.heap.size 3 1 v k xs) (hB : Below w.heap.size w wr) (o : Obj) (hg : (wr.alloc o).grownBy w1 v.ownBlock) : Below w.heap.size w w1 :=
  (hB.alloc hB.size o).grown hg (by have := hB.size; simp; omega) (fun j hj => (World.ownsRow.lt hO j hj).1)

/-- What only makes memory turns no block. -/
theorem grownBy_of_below {w w' : World} (h : Below w.heap.size w w') : w.grownBy w' none := ⟨h.os, h.tape, h.output, h.size, fun k hk _ => h.block k hk⟩
theorem allFine_succ {ss : List ByteArray} {k : Nat} {s : ByteArray} (h : allFine (ss.take k) = true) (hs : ss[k]? = some s) (hf : fine s = true) : allFine (ss.take (k + 1)) = true := by
  rw [List.take_add_one, hs]
  unfold allFine at *
  simp [List.all_append, h, hf]

set_option maxRecDepth 100000 in
set_option maxHeartbeats 2000000 in
/-- The reference's row, where every key is fine. -/
theorem refrow_fine (b off cap : Nat) (ss : List ByteArray) (hn : ss.length ≤ 1000) (hm : ∀ s ∈ ss, s.size ≤ maxLen) (hf : allFine ss = true) (w : World) (hbl : b < w.heap.size)
    (hc : ∀ j s, ss[j]? = some s → w.cell? ⟨b, off + j, none⟩ = some (.string s)) :
    Calls Try.prog 12 #[.slice (some ⟨b, off, none⟩) ss.length cap] w fun e w' => ∃ v, e = .returned (.tuple #[v, .int .i64 0]) ∧ Lies w' v (places ss) ∧ Below w.heap.size w w' := by
  obtain ⟨i0, hi, hz0, hz1, hz2⟩ := info_parts Try.info3
  have HF := Lib.hid hf
  have HM := Lib.hid hm
  have HC := Lib.hid hc
  clear hf hm hc
  go_enter Try.func12, Try.ntmps12
  go_wp2
  go_loopw [4, 5] (fun v i wr => ∃ k : Nat, k ≤ ss.length ∧ i = .int .i64 k ∧ wr.ownsRow w.heap.size 3 1 v k (places (ss.take k)) ∧ Below w.heap.size w wr) (fun _ i _ => ss.length - (intOf i).toNat)
  case atStart => exact ⟨0, Nat.zero_le _, rfl, World.ownsRow_nil _ _ _ _, Below.refl _ _⟩
  case round =>
    obtain ⟨k, hk, rfl, hown, hb⟩ := hrel
    have HO := Lib.hid hown
    have HB := Lib.hid hb
    clear hown hb
    by_cases hlt : k < ss.length
    · obtain ⟨s, hs⟩ : ∃ s, ss[k]? = some s := ⟨_, List.getElem?_eq_getElem hlt⟩
      have hcell : wr.cell? ⟨b, off + k, none⟩ = some (.string s) := (HB.out.cell (p := ⟨b, off + k, none⟩) hbl).trans (HC.out k s hs)
      have hmem : s ∈ ss := List.mem_of_getElem? hs
      have hfs : fine s = true := List.all_eq_true.1 HF.out s hmem
      have he := ofE_fine hfs
      have hsz := HM.out s hmem
      have HS := Lib.hid hs
      clear hs hfs hmem
      go_wp2_with (first
        | (go_at_call 10; refine (refof_any _ hsz _).mono ?_; rintro e w' ⟨rfl, rfl⟩)
        | (at_builtin; refine wpList_append_own _ rfl _ _ 27 rfl w.heap.size 3 i0 (.int .i64 0) 1 8 Try.underlying27 hi hz0 hz1 hz2 rfl (by decide) _ _ _ rfl (HO.out.alloc _) ⟨wr.heap.size, 0, none⟩ 1 1 [.int .i64 (ofP s)] rfl rfl (cell_one_new _ _ _) (by simp [Value.oneCell']) (by unfold maxLen; omega) (by omega) (by have := HB.out.size; simp; omega) ?_; intro v' w1 hown' hgrow _))
      have hb1 := row_next HO.out HB.out _ hgrow
      rw [← places_succ ss k s HS.out] at hown'
      go_roundw
      case rel => exact ⟨k + 1, by omega, by go_num, hown', hb1⟩
      case measure => simp [intOf]; omega
    · obtain rfl : k = ss.length := by omega
      go_wp2
      go_ret2
      have := HO.out
      rw [List.take_length] at this
      exact ⟨_, rfl, Lies.owned this, HB.out⟩

set_option maxRecDepth 100000 in
set_option maxHeartbeats 2000000 in
/-- The reference's row, where one is not. -/
theorem refrow_bad (b off cap : Nat) (ss : List ByteArray) (hn : ss.length ≤ 1000) (hm : ∀ s ∈ ss, s.size ≤ maxLen) (hf : allFine ss = false) (w : World) (hbl : b < w.heap.size)
    (hc : ∀ j s, ss[j]? = some s → w.cell? ⟨b, off + j, none⟩ = some (.string s)) :
    Calls Try.prog 12 #[.slice (some ⟨b, off, none⟩) ss.length cap] w fun e w' => e = .returned (.tuple #[.slice none 0 0, .int .i64 2]) ∧ Below w.heap.size w w' := by
  obtain ⟨i0, hi, hz0, hz1, hz2⟩ := info_parts Try.info3
  have HF := Lib.hid hf
  have HM := Lib.hid hm
  have HC := Lib.hid hc
  clear hf hm hc
  go_enter Try.func12, Try.ntmps12
  go_wp2
  go_loopw [4, 5] (fun v i wr => ∃ k : Nat, k ≤ ss.length ∧ i = .int .i64 k ∧ wr.ownsRow w.heap.size 3 1 v k (places (ss.take k)) ∧ Below w.heap.size w wr ∧ allFine (ss.take k) = true) (fun _ i _ => ss.length - (intOf i).toNat)
  case atStart => exact ⟨0, Nat.zero_le _, rfl, World.ownsRow_nil _ _ _ _, Below.refl _ _, rfl⟩
  case round =>
    obtain ⟨k, hk, rfl, hown, hb, hfk⟩ := hrel
    have HO := Lib.hid hown
    have HB := Lib.hid hb
    clear hown hb
    have HK := Lib.hid hfk
    clear hfk
    by_cases hlt : k < ss.length
    · obtain ⟨s, hs⟩ : ∃ s, ss[k]? = some s := ⟨_, List.getElem?_eq_getElem hlt⟩
      have hcell : wr.cell? ⟨b, off + k, none⟩ = some (.string s) := (HB.out.cell (p := ⟨b, off + k, none⟩) hbl).trans (HC.out k s hs)
      have hmem : s ∈ ss := List.mem_of_getElem? hs
      have hsz := HM.out s hmem
      have HS := Lib.hid hs
      clear hs hmem
      cases hfs : fine s with
      | true =>
        have he := ofE_fine hfs
        have HFS := Lib.hid hfs
        clear hfs
        go_wp2_with (first
          | (go_at_call 10; refine (refof_any _ hsz _).mono ?_; rintro e w' ⟨rfl, rfl⟩)
          | (at_builtin; refine wpList_append_own _ rfl _ _ 27 rfl w.heap.size 3 i0 (.int .i64 0) 1 8 Try.underlying27 hi hz0 hz1 hz2 rfl (by decide) _ _ _ rfl (HO.out.alloc _) ⟨wr.heap.size, 0, none⟩ 1 1 [.int .i64 (ofP s)] rfl rfl (cell_one_new _ _ _) (by simp [Value.oneCell']) (by unfold maxLen; omega) (by omega) (by have := HB.out.size; simp; omega) ?_; intro v' w1 hown' hgrow _))
        have hb1 := row_next HO.out HB.out _ hgrow
        rw [← places_succ ss k s HS.out] at hown'
        go_roundw
        case rel => exact ⟨k + 1, by omega, by go_num, hown', hb1, allFine_succ HK.out HS.out HFS.out⟩
        case measure => simp [intOf]; omega
      | false =>
        have he := ofE_not hfs
        clear hfs
        go_wp2_with (first
          | (go_at_call 10; refine (refof_any _ hsz _).mono ?_; rintro e w' ⟨rfl, rfl⟩)
          | (at_builtin; refine wpList_append_own _ rfl _ _ 27 rfl w.heap.size 3 i0 (.int .i64 0) 1 8 Try.underlying27 hi hz0 hz1 hz2 rfl (by decide) _ _ _ rfl (HO.out.alloc _) ⟨wr.heap.size, 0, none⟩ 1 1 [.int .i64 (ofP s)] rfl rfl (cell_one_new _ _ _) (by simp [Value.oneCell']) (by unfold maxLen; omega) (by omega) (by have := HB.out.size; simp; omega) ?_; intro v' w1 hown' hgrow _))
        go_ret2
        exact ⟨rfl, HB.out⟩
    · obtain rfl : k = ss.length := by omega
      have := HK.out
      rw [List.take_length, HF.out] at this
      cases this

set_option maxRecDepth 100000 in
set_option maxHeartbeats 2000000 in
/-- The row of package mix, where every key is fine. -/
theorem row_fine (b off cap : Nat) (ss : List ByteArray) (hn : ss.length ≤ 1000) (hm : ∀ s ∈ ss, s.size ≤ maxLen) (hf : allFine ss = true) (w : World) (hbl : b < w.heap.size)
    (hc : ∀ j s, ss[j]? = some s → w.cell? ⟨b, off + j, none⟩ = some (.string s)) :
    Calls Try.prog 11 #[.slice (some ⟨b, off, none⟩) ss.length cap] w fun e w' => ∃ v, e = .returned (.tuple #[v, .int .i64 0]) ∧ Lies w' v (places ss) ∧ Below w.heap.size w w' := by
  obtain ⟨i0, hi, hz0, hz1, hz2⟩ := info_parts Try.info3
  have HF := Lib.hid hf
  have HM := Lib.hid hm
  have HC := Lib.hid hc
  clear hf hm hc
  go_enter Try.func11, Try.ntmps11
  go_wp2
  refine wp_scope_labels (fun _ _ _ => False) (fun _ _ _ => 0) ?first (fun _ _ _ h => h.elim)
  go_wp2
  go_loopw [4, 11] (fun v i wr => ∃ k : Nat, k ≤ ss.length ∧ i = .int .i64 k ∧ wr.ownsRow w.heap.size 3 1 v k (places (ss.take k)) ∧ Below w.heap.size w wr) (fun _ i _ => ss.length - (intOf i).toNat)
  case atStart => exact ⟨0, Nat.zero_le _, rfl, World.ownsRow_nil _ _ _ _, Below.refl _ _⟩
  case round =>
    obtain ⟨k, hk, rfl, hown, hb⟩ := hrel
    have HO := Lib.hid hown
    have HB := Lib.hid hb
    clear hown hb
    by_cases hlt : k < ss.length
    · obtain ⟨s, hs⟩ : ∃ s, ss[k]? = some s := ⟨_, List.getElem?_eq_getElem hlt⟩
      have hcell : wr.cell? ⟨b, off + k, none⟩ = some (.string s) := (HB.out.cell (p := ⟨b, off + k, none⟩) hbl).trans (HC.out k s hs)
      have hmem : s ∈ ss := List.mem_of_getElem? hs
      have hfs : fine s = true := List.all_eq_true.1 HF.out s hmem
      have he := ofE_fine hfs
      have hsz := HM.out s hmem
      have HS := Lib.hid hs
      clear hs hfs hmem
      go_wp2_with (first
        | (go_at_call 9; refine (of_any _ hsz _).mono ?_; rintro e wo ⟨rfl, hbo⟩; have HOo := Lib.hid (HO.out.kept (grownBy_of_below hbo) (Classical.em _)); have HBo := Lib.hid (HB.out.trans (hbo.mono HB.out.size)); clear hbo)
        | (at_builtin; refine wpList_append_own _ rfl _ _ 27 rfl w.heap.size 3 i0 (.int .i64 0) 1 8 Try.underlying27 hi hz0 hz1 hz2 rfl (by decide) _ _ _ rfl (HOo.out.alloc _) ⟨wo.heap.size, 0, none⟩ 1 1 [.int .i64 (ofP s)] rfl rfl (cell_one_new _ _ _) (by simp [Value.oneCell']) (by unfold maxLen; omega) (by omega) (by have := HBo.out.size; simp; omega) ?_; intro v' w1 hown' hgrow _))
      have hb1 := row_next HOo.out HBo.out _ hgrow
      rw [← places_succ ss k s HS.out] at hown'
      go_roundw
      case rel => exact ⟨k + 1, by omega, by go_num, hown', hb1⟩
      case measure => simp [intOf]; omega
    · obtain rfl : k = ss.length := by omega
      go_wp2
      rw [jumps_ret]
      go_ret2
      have := HO.out
      rw [List.take_length] at this
      exact ⟨_, rfl, Lies.owned this, HB.out⟩

set_option maxRecDepth 100000 in
set_option maxHeartbeats 2000000 in
/-- The row of package mix, where one is not. -/
theorem row_bad (b off cap : Nat) (ss : List ByteArray) (hn : ss.length ≤ 1000) (hm : ∀ s ∈ ss, s.size ≤ maxLen) (hf : allFine ss = false) (w : World) (hbl : b < w.heap.size)
    (hc : ∀ j s, ss[j]? = some s → w.cell? ⟨b, off + j, none⟩ = some (.string s)) :
    Calls Try.prog 11 #[.slice (some ⟨b, off, none⟩) ss.length cap] w fun e w' => e = .returned (.tuple #[.slice none 0 0, .int .i64 2]) ∧ Below w.heap.size w w' := by
  obtain ⟨i0, hi, hz0, hz1, hz2⟩ := info_parts Try.info3
  have HF := Lib.hid hf
  have HM := Lib.hid hm
  have HC := Lib.hid hc
  clear hf hm hc
  go_enter Try.func11, Try.ntmps11
  go_wp2
  refine wp_scope_labels (fun l a' w' => l = 0 ∧ Below w.heap.size w w' ∧ ∃ u4 u5 u6 u7 u8 u9 u10 u11 u12 u13 u14 u15 u16 u17 u18 u19 u20 u21 u22 u23 u24 u25 u26 u27 : Value, a' = { tmps := #[.slice (some ⟨b, off, none⟩) ss.length cap, undef, .slice none 0 0, .int .i64 0, u4, u5, u6, u7, u8, u9, u10, u11, u12, u13, u14, u15, u16, u17, u18, u19, u20, u21, u22, u23, u24, u25, u26, u27], defers := [] }) (fun _ _ _ => 0) ?first ?pass
  case pass =>
    rintro l a' w' ⟨rfl, hb, u4, u5, u6, u7, u8, u9, u10, u11, u12, u13, u14, u15, u16, u17, u18, u19, u20, u21, u22, u23, u24, u25, u26, u27, rfl⟩
    refine ⟨_, rfl, ?_⟩
    go_wp2
    rw [jumps_ret]
    go_ret2
    exact ⟨rfl, hb⟩
  go_wp2
  go_loopw [4, 11] (fun v i wr => ∃ k : Nat, k ≤ ss.length ∧ i = .int .i64 k ∧ wr.ownsRow w.heap.size 3 1 v k (places (ss.take k)) ∧ Below w.heap.size w wr ∧ allFine (ss.take k) = true) (fun _ i _ => ss.length - (intOf i).toNat)
  case atStart => exact ⟨0, Nat.zero_le _, rfl, World.ownsRow_nil _ _ _ _, Below.refl _ _, rfl⟩
  case round =>
    obtain ⟨k, hk, rfl, hown, hb, hfk⟩ := hrel
    have HO := Lib.hid hown
    have HB := Lib.hid hb
    clear hown hb
    have HK := Lib.hid hfk
    clear hfk
    by_cases hlt : k < ss.length
    · obtain ⟨s, hs⟩ : ∃ s, ss[k]? = some s := ⟨_, List.getElem?_eq_getElem hlt⟩
      have hcell : wr.cell? ⟨b, off + k, none⟩ = some (.string s) := (HB.out.cell (p := ⟨b, off + k, none⟩) hbl).trans (HC.out k s hs)
      have hmem : s ∈ ss := List.mem_of_getElem? hs
      have hsz := HM.out s hmem
      have HS := Lib.hid hs
      clear hs hmem
      cases hfs : fine s with
      | true =>
        have he := ofE_fine hfs
        have HFS := Lib.hid hfs
        clear hfs
        go_wp2_with (first
          | (go_at_call 9; refine (of_any _ hsz _).mono ?_; rintro e wo ⟨rfl, hbo⟩; have HOo := Lib.hid (HO.out.kept (grownBy_of_below hbo) (Classical.em _)); have HBo := Lib.hid (HB.out.trans (hbo.mono HB.out.size)); clear hbo)
          | (at_builtin; refine wpList_append_own _ rfl _ _ 27 rfl w.heap.size 3 i0 (.int .i64 0) 1 8 Try.underlying27 hi hz0 hz1 hz2 rfl (by decide) _ _ _ rfl (HOo.out.alloc _) ⟨wo.heap.size, 0, none⟩ 1 1 [.int .i64 (ofP s)] rfl rfl (cell_one_new _ _ _) (by simp [Value.oneCell']) (by unfold maxLen; omega) (by omega) (by have := HBo.out.size; simp; omega) ?_; intro v' w1 hown' hgrow _))
        have hb1 := row_next HOo.out HBo.out _ hgrow
        rw [← places_succ ss k s HS.out] at hown'
        go_roundw
        case rel => exact ⟨k + 1, by omega, by go_num, hown', hb1, allFine_succ HK.out HS.out HFS.out⟩
        case measure => simp [intOf]; omega
      | false =>
        have he := ofE_not hfs
        clear hfs
        go_wp2_with (first
          | (go_at_call 9; refine (of_any _ hsz _).mono ?_; rintro e wo ⟨rfl, hbo⟩; have HOo := Lib.hid (HO.out.kept (grownBy_of_below hbo) (Classical.em _)); have HBo := Lib.hid (HB.out.trans (hbo.mono HB.out.size)); clear hbo)
          | (at_builtin; refine wpList_append_own _ rfl _ _ 27 rfl w.heap.size 3 i0 (.int .i64 0) 1 8 Try.underlying27 hi hz0 hz1 hz2 rfl (by decide) _ _ _ rfl (HOo.out.alloc _) ⟨wo.heap.size, 0, none⟩ 1 1 [.int .i64 (ofP s)] rfl rfl (cell_one_new _ _ _) (by simp [Value.oneCell']) (by unfold maxLen; omega) (by omega) (by have := HBo.out.size; simp; omega) ?_; intro v' w1 hown' hgrow _))
        go_step3
        exact ⟨rfl, by exact HBo.out, _, _, _, _, _, _, _, _, _, _, _, _, _, _, _, _, _, _, _, _, _, _, _, _, rfl⟩
    · obtain rfl : k = ss.length := by omega
      have := HK.out
      rw [List.take_length, HF.out] at this
      cases this


theorem refrow_nil (a : Option Addr) (cap : Nat) (w : World) : Calls Try.prog 12 #[.slice a 0 cap] w fun e w' => e = .returned (.tuple #[.slice none 0 0, .int .i64 0]) ∧ w = w' := by
  go_enter Try.func12, Try.ntmps12
  go_wp2
  refine wp_loop_rounds 1 ?_
  rw [rounds_succ]
  go_wp2
  go_ret2
  exact ⟨rfl, rfl⟩
theorem row_nil (a : Option Addr) (cap : Nat) (w : World) : Calls Try.prog 11 #[.slice a 0 cap] w fun e w' => e = .returned (.tuple #[.slice none 0 0, .int .i64 0]) ∧ w = w' := by
  go_enter Try.func11, Try.ntmps11
  go_wp2
  refine wp_scope_labels (fun _ _ _ => False) (fun _ _ _ => 0) ?first (fun _ _ _ h => h.elim)
  go_wp2
  refine wp_loop_rounds 1 ?_
  rw [rounds_succ]
  go_wp2
  rw [jumps_ret]
  go_ret2
  exact ⟨rfl, rfl⟩

/-- The slice value v holds the strings ss. -/
def Keys (w : World) (v : Value) (ss : List ByteArray) : Prop := Lies w v (ss.map .string)
theorem Keys.below {w w' : World} {v : Value} {ss : List ByteArray} (h : Keys w v ss) (hb : Below w.heap.size w w') : Keys w' v ss := Lies.below h hb
theorem Keys.parts {w : World} {v : Value} {ss : List ByteArray} (h : Keys w v ss) : (∃ a cap, v = .slice a 0 cap ∧ ss = []) ∨
    ∃ b off cap, v = .slice (some ⟨b, off, none⟩) ss.length cap ∧ b < w.heap.size ∧ ∀ j s, ss[j]? = some s → w.cell? ⟨b, off + j, none⟩ = some (.string s) := by
  obtain ⟨a, cap, hv, h⟩ := h
  rw [List.length_map] at hv
  rcases h with h | ⟨b, off, rfl, hl, hc⟩
  · have : ss = [] := List.map_eq_nil_iff.1 h
    subst this
    exact .inl ⟨a, cap, hv, rfl⟩
  · exact .inr ⟨b, off, cap, hv, hl, fun j s hs => hc j _ (by rw [List.getElem?_map, hs]; rfl)⟩
theorem Lies.nil (w : World) : Lies w (.slice none 0 0) [] := ⟨none, 0, rfl, .inl rfl⟩

theorem refrow_yes (v : Value) (ss : List ByteArray) (hn : ss.length ≤ 1000) (hm : ∀ s ∈ ss, s.size ≤ maxLen) (hf : allFine ss = true) (w : World) (hk : Keys w v ss) :
    Calls Try.prog 12 #[v] w fun e w' => ∃ v, e = .returned (.tuple #[v, .int .i64 0]) ∧ Lies w' v (places ss) ∧ Below w.heap.size w w' := by
  rcases hk.parts with ⟨a, cap, rfl, rfl⟩ | ⟨b, off, cap, rfl, hl, hc⟩
  · exact (refrow_nil a cap w).mono fun e w' ⟨he, hw⟩ => ⟨_, he, Lies.nil _, hw ▸ Below.refl _ _⟩
  · exact refrow_fine b off cap ss hn hm hf w hl hc
theorem row_yes (v : Value) (ss : List ByteArray) (hn : ss.length ≤ 1000) (hm : ∀ s ∈ ss, s.size ≤ maxLen) (hf : allFine ss = true) (w : World) (hk : Keys w v ss) :
    Calls Try.prog 11 #[v] w fun e w' => ∃ v, e = .returned (.tuple #[v, .int .i64 0]) ∧ Lies w' v (places ss) ∧ Below w.heap.size w w' := by
  rcases hk.parts with ⟨a, cap, rfl, rfl⟩ | ⟨b, off, cap, rfl, hl, hc⟩
  · exact (row_nil a cap w).mono fun e w' ⟨he, hw⟩ => ⟨_, he, Lies.nil _, hw ▸ Below.refl _ _⟩
  · exact row_fine b off cap ss hn hm hf w hl hc
theorem refrow_no (v : Value) (ss : List ByteArray) (hn : ss.length ≤ 1000) (hm : ∀ s ∈ ss, s.size ≤ maxLen) (hf : allFine ss = false) (w : World) (hk : Keys w v ss) :
    Calls Try.prog 12 #[v] w fun e w' => e = .returned (.tuple #[.slice none 0 0, .int .i64 2]) ∧ Below w.heap.size w w' := by
  rcases hk.parts with ⟨a, cap, rfl, rfl⟩ | ⟨b, off, cap, rfl, hl, hc⟩
  · cases hf
  · exact refrow_bad b off cap ss hn hm hf w hl hc
theorem row_no (v : Value) (ss : List ByteArray) (hn : ss.length ≤ 1000) (hm : ∀ s ∈ ss, s.size ≤ maxLen) (hf : allFine ss = false) (w : World) (hk : Keys w v ss) :
    Calls Try.prog 11 #[v] w fun e w' => e = .returned (.tuple #[.slice none 0 0, .int .i64 2]) ∧ Below w.heap.size w w' := by
  rcases hk.parts with ⟨a, cap, rfl, rfl⟩ | ⟨b, off, cap, rfl, hl, hc⟩
  · cases hf
  · exact row_bad b off cap ss hn hm hf w hl hc

set_option maxRecDepth 100000 in
set_option maxHeartbeats 1000000 in
/-- Two rows that hold the same numbers are the same. -/
theorem ints_in (b1 o1 c1 b2 o2 c2 : Nat) (xs : List Value) (zs : List Int) (hz : xs = zs.map (.int .i64 ·)) (hlen : xs.length ≤ 1000) (w : World) (hl1 : b1 < w.heap.size) (hl2 : b2 < w.heap.size)
    (h1 : ∀ j u, xs[j]? = some u → w.cell? ⟨b1, o1 + j, none⟩ = some u) (h2 : ∀ j u, xs[j]? = some u → w.cell? ⟨b2, o2 + j, none⟩ = some u) :
    Calls Try.prog 19 #[.slice (some ⟨b1, o1, none⟩) xs.length c1, .slice (some ⟨b2, o2, none⟩) xs.length c2] w fun e w' => e = .returned (.bool true) ∧ Below w.heap.size w w' := by
  have H1 := Lib.hid h1
  have H2 := Lib.hid h2
  have HZ := Lib.hid hz
  clear h1 h2 hz
  go_enter Try.func19, Try.ntmps19
  go_wp2
  go_loopw [5] (fun i wr => ∃ k : Nat, k ≤ xs.length ∧ i = .int .i64 k ∧ Below w.heap.size w wr) (fun i _ => xs.length - (intOf i).toNat)
  case atStart => exact ⟨0, Nat.zero_le _, rfl, Below.refl _ _⟩
  case round =>
    obtain ⟨k, hk, rfl, hb⟩ := hrel
    have HB := Lib.hid hb
    clear hb
    by_cases hlt : k < xs.length
    · obtain ⟨z, hz⟩ : ∃ z, xs[k]? = some (.int .i64 z) := by
        rw [HZ.out, List.length_map] at hlt
        exact ⟨zs[k], by rw [HZ.out, List.getElem?_map, List.getElem?_eq_getElem hlt]; rfl⟩
      have e1 : wr.cell? ⟨b1, o1 + k, none⟩ = some (.int .i64 z) := (HB.out.cell (p := ⟨b1, o1 + k, none⟩) hl1).trans (H1.out k _ hz)
      have e2 : wr.cell? ⟨b2, o2 + k, none⟩ = some (.int .i64 z) := (HB.out.cell (p := ⟨b2, o2 + k, none⟩) hl2).trans (H2.out k _ hz)
      clear hz
      go_wp2
      go_quiet (fail)
      go_wp2
      go_roundw
      case rel => exact ⟨k + 1, by omega, by go_num, HB.out.trans ⟨rfl, rfl, rfl, Nat.le_refl _, fun _ _ => rfl⟩⟩
      case measure => simp [intOf]; omega
    · obtain rfl : k = xs.length := by omega
      go_wp2
      go_ret
      exact ⟨rfl, HB.out⟩

theorem ints_nil (a1 a2 : Option Addr) (c1 c2 : Nat) (w : World) : Calls Try.prog 19 #[.slice a1 0 c1, .slice a2 0 c2] w fun e w' => e = .returned (.bool true) ∧ w = w' := by
  go_enter Try.func19, Try.ntmps19
  go_wp2
  refine wp_loop_rounds 1 ?_
  rw [rounds_succ]
  go_wp2
  go_ret
  exact ⟨rfl, rfl⟩

theorem ints_same (v1 v2 : Value) (xs : List Value) (zs : List Int) (hz : xs = zs.map (.int .i64 ·)) (hlen : xs.length ≤ 1000) (w : World) (h1 : Lies w v1 xs) (h2 : Lies w v2 xs) :
    Calls Try.prog 19 #[v1, v2] w fun e w' => e = .returned (.bool true) ∧ Below w.heap.size w w' := by
  obtain ⟨a1, c1, rfl, h1⟩ := h1
  obtain ⟨a2, c2, rfl, h2⟩ := h2
  by_cases h0 : xs.length = 0
  · rw [h0]
    exact (ints_nil a1 a2 c1 c2 w).mono fun e w' ⟨he, hw⟩ => ⟨he, hw ▸ Below.refl _ _⟩
  · have hne : xs ≠ [] := fun e => h0 (by rw [e]; rfl)
    rcases h1 with h1 | ⟨b1, o1, rfl, hl1, hc1⟩
    · exact absurd h1 hne
    · rcases h2 with h2 | ⟨b2, o2, rfl, hl2, hc2⟩
      · exact absurd h2 hne
      · exact ints_in b1 o1 c1 b2 o2 c2 xs zs hz hlen w hl1 hl2 hc1 hc2
end Go.Proofs.Ytganhbebklmdnaa
