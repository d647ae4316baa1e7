/-
  Frames closed: package frame's Close and its reference's.
-/
import Derived.Test.YtclohcbhnlnddaaF
namespace Go.Proofs.Ytclohcbhnlnddaa
open Go.RowKit Go.Shelf

theorem make_run (n : Nat) (hn : n ≤ 100000) (w : World) : ∃ vs : Array Value, vs.size = n ∧
    (Instr.makeSlice 23 (.int .i64 0) (.int .i64 (n : Int))).run Try.prog w = .ok (.slice (some ⟨w.heap.size, 0, none⟩) 0 n) (w.alloc (.cells vs 5)) := by
  obtain ⟨i0, hi, hz0, hz1, hz2⟩ := info_parts Try.info5
  have := run_make (P := Try.prog) w 23 5 i0 (.int .u8 0) Try.underlying23 hi hz0 .i64 .i64 0 n (Int.le_refl _) (by omega) (by rw [hz2]; omega) (by omega)
  simp only [Int.toNat_zero, Int.toNat_natCast, hz1, Nat.mul_one] at this
  exact ⟨_, size_madeCells _ _, this⟩

theorem head_cells (n : Nat) (hn : n ≤ 112) : #[Value.int .u8 71, .int .u8 1, .int .u8 ((n : Int) / 256), .int .u8 (n : Int)] = ((headF n).map encb).toArray := by
  have e1 : ((BitVec.ofNat 8 (n / 256)).toNat : Int) = (n : Int) / 256 := by rw [BitVec.toNat_ofNat]; omega
  have e2 : ((BitVec.ofNat 8 n).toNat : Int) = (n : Int) := by rw [BitVec.toNat_ofNat]; omega
  show _ = #[Value.int .u8 71, .int .u8 1, .int .u8 ((BitVec.ofNat 8 (n / 256)).toNat : Int), .int .u8 ((BitVec.ofNat 8 n).toNat : Int)]
  rw [e1, e2]
theorem be_cells (s : BitVec 32) : #[Value.int .u8 ((s.toNat : Int) / 16777216), .int .u8 ((s.toNat : Int) / 65536 % 256), .int .u8 ((s.toNat : Int) / 256 % 256), .int .u8 ((s.toNat : Int) % 256)] = ((be s).map encb).toArray := by
  have hlt := s.isLt
  have e : ∀ k, ((s.extractLsb' k 8).toNat : Int) = ((s.toNat : Int) / ((2 ^ k : Nat) : Int)) % 256 := fun k => by
    rw [BitVec.extractLsb'_toNat, Nat.shiftRight_eq_div_pow]
    omega
  show _ = #[Value.int .u8 ((s.extractLsb' 24 8).toNat : Int), .int .u8 ((s.extractLsb' 16 8).toNat : Int), .int .u8 ((s.extractLsb' 8 8).toNat : Int), .int .u8 ((s.extractLsb' 0 8).toNat : Int)]
  rw [e, e, e, e]
  have h1 : (s.toNat : Int) / ((2 ^ 24 : Nat) : Int) % 256 = (s.toNat : Int) / 16777216 := by omega
  rw [h1]
  simp

set_option maxRecDepth 100000 in
set_option maxHeartbeats 2000000 in
theorem close_yes (a : Option Addr) (cap : Nat) (p : List (BitVec 8)) (hl : p.length ≤ 112) (w : World) (hp : Bytes w (.slice a p.length cap) p) : Calls Try.prog 10 #[.slice a p.length cap] w fun e w' =>
    ∃ v, e = .returned (.tuple #[v, .int .i64 0]) ∧ Bytes w' v (closeF p) ∧ Below w.heap.size w w' := by
  have es : sizeF (p.length : Int) = ((p.length + 8 : Nat) : Int) := by unfold sizeF; rw [if_neg (by omega)]; omega
  have HP := Lib.hid hp
  obtain ⟨vs, hvs, hmk⟩ := make_run (p.length + 8) (by omega) w
  rw [show ((p.length + 8 : Nat) : Int) = (p.length : Int) + 8 by omega] at hmk
  have HO := Lib.hid (OwnB.made (Below.refl _ w) vs (p.length + 8) hvs (by omega))
  have HH := Lib.hid (head_cells p.length hl)
  have hlen : (headF p.length ++ p).length ≤ 1000 := by rw [List.length_append, headF_length]; omega
  obtain ⟨S, hS⟩ : ∃ S, S = sumF (headF p.length ++ p) := ⟨_, rfl⟩
  have HC := Lib.hid (be_cells S)
  have s1 := S.isLt
  have eC : closeF p = ([] ++ headF p.length) ++ p ++ be S := by rw [hS]; rfl
  have HS := Lib.hid hS
  have HEC := Lib.hid eC
  clear hp hvs hS eC
  go_enter Try.func10, Try.ntmps10
  go_wp2
  refine wp_scope_labels (fun _ _ _ => False) (fun _ _ _ => 0) ?first (fun _ _ _ h => h.elim)
  go_wp2_with (first
    | (go_at_call 19; refine (size_any _ _).mono ?_; rintro e w' ⟨rfl, rfl⟩; rw [es])
    | (at_builtin; refine wpList_append_bytes rfl _ _ rfl rfl rfl (HO.out.alloc _) _ (headF p.length) rfl (bytes_new _ _ _ HH.out 4 rfl (by rw [headF_length]; omega) _ (by simp)) (by simp [headF_length]) ?_; intro v1 w1 hO1; have HO1 := Lib.hid hO1; clear hO1)
    | (at_builtin; refine wpList_append_bytes rfl _ _ rfl rfl rfl HO1.out _ p rfl (HP.out.below HO1.out.below) (by simp [headF_length]; omega) ?_; intro v2 w2 hO2; have HO2 := Lib.hid hO2; clear hO2)
    | (go_at_call 16; refine (sum_any _ _ (by simp [headF_length]; omega) _ HO2.out.bytes).mono ?_; rintro e w3 ⟨rfl, hb3⟩; rw [List.nil_append, ← HS.out]; have HO3 := Lib.hid (HO2.out.later hb3); clear hb3)
    | (at_builtin; refine wpList_append_bytes rfl _ _ rfl rfl rfl (HO3.out.alloc _) _ (be S) rfl (bytes_new _ _ _ HC.out 4 rfl (by rw [be_length]; omega) _ (by simp)) (by simp [headF_length, be_length]; omega) ?_; intro v4 w4 hO4; have HO4 := Lib.hid hO4; clear hO4))
  rw [jumps_ret]
  go_ret2
  exact ⟨v4, rfl, by rw [HEC.out]; exact HO4.out.bytes, HO4.out.below⟩

set_option maxRecDepth 100000 in
set_option maxHeartbeats 2000000 in
theorem close_no (a : Option Addr) (cap : Nat) (p : List (BitVec 8)) (hl : 112 < p.length) (w : World) : Calls Try.prog 10 #[.slice a p.length cap] w fun e w' =>
    e = .returned (.tuple #[.slice none 0 0, .int .i64 2]) ∧ w = w' := by
  go_enter Try.func10, Try.ntmps10
  go_wp2
  refine wp_scope_labels (fun l a' w' => l = 0 ∧ w = w' ∧ ∃ u6 u7 u8 u9 u10 : Value, a' = { tmps := #[.slice a p.length cap, undef, .slice none 0 0, .int .i64 0, .slice none 0 0, .int .u32 0, u6, u7, u8, u9, u10, undef, undef, undef, undef, undef, undef, undef, undef, undef, undef, undef, undef, undef, undef, undef, undef, undef, undef, undef, undef, undef, undef, undef, undef, undef, undef, undef, undef, undef, undef], defers := [] }) (fun _ _ _ => 0) ?first ?pass
  case first =>
    go_wp2
    go_step3
    exact ⟨rfl, rfl, _, _, _, _, _, rfl⟩
  case pass =>
    rintro l a' w' ⟨rfl, rfl, u6, u7, u8, u9, u10, rfl⟩
    refine ⟨_, rfl, ?_⟩
    go_wp2
    try rw [jumps_ret]
    go_ret2
    exact ⟨rfl, rfl⟩

theorem refsum_v (v : Value) (bs : List (BitVec 8)) (hmax : bs.length ≤ 100000) (w : World) (hv : Bytes w v bs) : Calls Try.prog 17 #[v] w fun e w' =>
    e = .returned (.int .u32 ((sumF bs).toNat : Int)) ∧ w = w' := by
  obtain ⟨a, cap, rfl, -⟩ := hv.shape
  exact refsum_any a cap bs hmax w hv

set_option maxRecDepth 100000 in
set_option maxHeartbeats 2000000 in
theorem refclose_yes (a : Option Addr) (cap : Nat) (p : List (BitVec 8)) (hl : p.length ≤ 112) (w : World) (hp : Bytes w (.slice a p.length cap) p) : Calls Try.prog 11 #[.slice a p.length cap] w fun e w' =>
    ∃ v, e = .returned (.tuple #[v, .int .i64 0]) ∧ Bytes w' v (closeF p) ∧ Below w.heap.size w w' := by
  have es : sizeF (p.length : Int) = (p.length : Int) + 8 := by unfold sizeF; rw [if_neg (by omega)]
  have es0 : ((p.length : Int) + 8 == 0) = false := by rw [beq_eq_false_iff_ne]; omega
  have HP := Lib.hid hp
  have HH := Lib.hid (head_cells p.length hl)
  obtain ⟨S, hS⟩ : ∃ S, S = sumF (headF p.length ++ p) := ⟨_, rfl⟩
  have HC := Lib.hid (be_cells S)
  have s1 := S.isLt
  have eC : closeF p = headF p.length ++ p ++ be S := by rw [hS]; rfl
  have HS := Lib.hid hS
  have HEC := Lib.hid eC
  have HO1 := Lib.hid (OwnB.lit (Below.refl _ w) (headF p.length) _ (head_cells p.length hl) 4 rfl (by rw [headF_length]; omega))
  clear hp hS eC
  go_enter Try.func11, Try.ntmps11
  go_wp2_with (first
    | (go_at_call 20; refine (refsize_any _ _).mono ?_; rintro e w' ⟨rfl, rfl⟩; rw [es])
    | (at_builtin; refine wpList_append_bytes rfl _ _ rfl rfl rfl HO1.out _ p rfl (HP.out.below HO1.out.below) (by simp [headF_length]; omega) ?_; intro v2 w2 hO2; have HO2 := Lib.hid hO2; clear hO2)
    | (go_at_call 17; refine (refsum_v _ _ (by simp [headF_length]; omega) _ HO2.out.bytes).mono ?_; rintro e w3 ⟨rfl, rfl⟩; rw [← HS.out])
    | (at_builtin; refine wpList_append_bytes rfl _ _ rfl rfl rfl (HO2.out.alloc _) _ (be S) rfl (bytes_new _ _ _ HC.out 4 rfl (by rw [be_length]; omega) _ (by simp)) (by simp [headF_length, be_length]; omega) ?_; intro v4 w4 hO4; have HO4 := Lib.hid hO4; clear hO4))
  go_ret2
  exact ⟨v4, rfl, by rw [HEC.out]; exact HO4.out.bytes, HO4.out.below⟩

set_option maxRecDepth 100000 in
theorem refclose_no (a : Option Addr) (cap : Nat) (p : List (BitVec 8)) (hl : 112 < p.length) (w : World) : Calls Try.prog 11 #[.slice a p.length cap] w fun e w' =>
    e = .returned (.tuple #[.slice none 0 0, .int .i64 2]) ∧ w = w' := by
  have es : sizeF (p.length : Int) = 0 := by unfold sizeF; rw [if_pos (by omega)]
  go_enter Try.func11, Try.ntmps11
  go_wp2_with (first
    | (go_at_call 20; refine (refsize_any _ _).mono ?_; rintro e w' ⟨rfl, rfl⟩; rw [es]))
  go_ret2
  exact ⟨rfl, rfl⟩
end Go.Proofs.Ytclohcbhnlnddaa
