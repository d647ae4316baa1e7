/-
  What 'wakes' answers.
-/
import Derived.Test.YtclohcbhnlnddaaK
import Derived.Deep.RegionWith
namespace Go.Proofs.Ytclohcbhnlnddaa
open Go.RowKit Go.Shelf

theorem step_hi (w : World) : Calls Try.prog 14 #[.int .u32 2147483648, .bool false] w fun e w' => e = .returned (.int .u32 1947962583) ∧ w = w' := by
  have h := step_any 0x80000000#32 false w
  rwa [show (((0x80000000#32 : BitVec 32).toNat : Nat) : Int) = 2147483648 by decide +kernel, show (((stepB 0x80000000#32 false).toNat : Nat) : Int) = 1947962583 by decide +kernel] at h
theorem step_one (w : World) : Calls Try.prog 14 #[.int .u32 1, .bool true] w fun e w' => e = .returned (.int .u32 3) ∧ w = w' := by
  have h := step_any 1#32 true w
  rwa [show (((1#32 : BitVec 32).toNat : Nat) : Int) = 1 by decide +kernel, show (((stepB 1#32 true).toNat : Nat) : Int) = 3 by decide +kernel] at h

theorem make_nine (w : World) : (Instr.makeSlice 23 (.int .i64 9) (.int .i64 9)).run Try.prog w = .ok (.slice (some ⟨w.heap.size, 0, none⟩) 9 9) (w.alloc (.cells ((List.replicate 9 0#8).map encb).toArray 5)) := by
  obtain ⟨i0, hi, hz0, hz1, hz2⟩ := info_parts Try.info5
  have := run_make (P := Try.prog) w 23 5 i0 (.int .u8 0) Try.underlying23 hi hz0 .i64 .i64 9 9 (by omega) (by omega) (by rw [hz2]; omega) (by omega)
  rw [hz1] at this
  have e : madeCells (Value.int IntKind.u8 0).cells (9 * 1) = ((List.replicate 9 0#8).map encb).toArray := by kernel_rfl
  rw [← e]
  exact this
theorem head_four : #[Value.int .u8 71, .int .u8 1, .int .u8 0, .int .u8 0] = (([71#8, 1#8, 0#8, 0#8] : List (BitVec 8)).map encb).toArray := by kernel_rfl
theorem make_big (w : World) : ∃ vs : Array Value, (Instr.makeSlice 23 (.int .i64 120) (.int .i64 120)).run Try.prog w = .ok (.slice (some ⟨w.heap.size, 0, none⟩) 120 120) (w.alloc (.cells vs 5)) := by
  obtain ⟨i0, hi, hz0, hz1, hz2⟩ := info_parts Try.info5
  have := run_make (P := Try.prog) w 23 5 i0 (.int .u8 0) Try.underlying23 hi hz0 .i64 .i64 120 120 (by omega) (by omega) (by rw [hz2]; omega) (by omega)
  exact ⟨_, this⟩
theorem close_big (b : Nat) (w : World) : Calls Try.prog 10 #[.slice (some ⟨b, 0, none⟩) 120 120] w fun e w' => e = .returned (.tuple #[.slice none 0 0, .int .i64 2]) ∧ w = w' :=
  close_no _ _ (List.replicate 120 0#8) (by decide) w

set_option maxRecDepth 100000 in
set_option maxHeartbeats 400000 in
theorem wakes_g (w0 : World) (w : World) (h : Good w0 w) : Calls Try.prog 9 #[] w fun e w' => e = .returned (.bool true) ∧ Good w0 w' := by
  have s0 : sizeF 0 = 8 := by decide
  have s1 : sizeF (-1) = 0 := by decide
  have s2 : sizeF 112 = 120 := by decide
  have c0 : closeE [] = 0 := by decide
  have HN : Hid (∀ w, Bytes w (.slice none 0 0) []) := Lib.hid (fun w => (OwnB.nil w).bytes)
  have HOK := Lib.hid (openE_yes (opens_close (p := []) (by decide)))
  have HS4 := Lib.hid (openE_short (bs := [71#8, 1#8, 0#8, 0#8]) (by decide))
  have HO9 := Lib.hid (openE_no (bs := List.replicate 9 0#8) (by decide) (opens_b0 (x := 0#8) rfl (by decide)))
  have HG := Lib.hid h
  clear h
  go_enter Try.func9, Try.ntmps9
  go_wp2_with fail
  refine (close_any _ [] _ (HN.out _)).mono ?_; rintro e w1 ⟨u1, rfl, hu1, -, hb1⟩
  have hu1 := hu1 c0
  rw [c0]
  have HG1 := Lib.hid (HG.out.below hb1)
  obtain ⟨a1, k1, rfl, hk1⟩ := hu1.shape
  rw [closeF_length] at hk1 hu1
  have HU1 := Lib.hid hu1
  clear hb1 hu1 c0
  have hl1 : (closeF []).length = 8 := closeF_length []
  rw [hl1]
  have HU1' : Hid (Bytes w1 (.slice a1 8 k1) (closeF [])) := HU1
  clear HU1 hl1
  obtain ⟨bb, off, rfl⟩ := HU1'.out.some (by rw [closeF_length]; omega)
  go_wp2_with fail
  refine (open_any _ _ _ HU1'.out).mono ?_; rintro e w2 ⟨u2, rfl, hu2, -, hb2⟩
  rw [HOK.out]
  have hu2 := hu2 HOK.out
  rw [payload_close] at hu2
  have HG2 := Lib.hid (HG1.out.below hb2)
  have HU2 := Lib.hid (HU1'.out.below hb2)
  obtain ⟨a2, k2, rfl, hk2⟩ := hu2.shape
  simp only [List.length_nil] at hu2 ⊢
  clear hb2 hu2 hk2 HU1' HOK
  go_wp2_with fail
  refine (open_any _ [71#8, 1#8, 0#8, 0#8] _ (bytes_new w2 _ _ head_four 4 rfl (by decide) _ rfl)).mono ?_; rintro e w3 ⟨u3, rfl, -, hu3, hb3⟩
  rw [HS4.out]
  obtain rfl := hu3 (by rw [HS4.out]; decide)
  have HG3 := Lib.hid (Good.below (HG2.out.alloc _) hb3)
  have HU3 := Lib.hid ((HU2.out.below ((Below.refl _ w2).alloc (Nat.le_refl _) (.cells #[.int .u8 71, .int .u8 1, .int .u8 0, .int .u8 0] 5))).below hb3)
  have hm9 := make_nine w3
  obtain ⟨vs9, hvs9⟩ : ∃ vs9, vs9 = ((List.replicate 9 0#8).map encb).toArray := ⟨_, rfl⟩
  rw [← hvs9] at hm9
  have HV9 := Lib.hid hvs9
  clear hvs9
  clear hb3 HU2 HS4
  go_wp2_with fail
  refine (open_any _ (List.replicate 9 0#8) _ (bytes_new w3 _ _ HV9.out 9 rfl (by decide) _ rfl)).mono ?_; rintro e w4 ⟨u4, rfl, -, hu4, hb4⟩
  rw [HO9.out]
  obtain rfl := hu4 (by rw [HO9.out]; decide)
  have HG4 := Lib.hid (Good.below (HG3.out.alloc _) hb4)
  have HU4 := Lib.hid ((HU3.out.below ((Below.refl _ w3).alloc (Nat.le_refl _) (.cells vs9 5))).below hb4)
  obtain ⟨vs, hm⟩ := make_big w4
  clear hb4 HU3 HO9 hm9
  have HU5 := Lib.hid (HU4.out.below ((Below.refl _ w4).alloc (Nat.le_refl _) (.cells vs 5)))
  have hcell : ∀ k x, (closeF [])[k]? = some x → (w4.alloc (.cells vs 5)).cell? ⟨bb, off + k, none⟩ = some (.int .u8 (x.toNat : Int)) := fun k x hx => by
    have hu := HU5.out
    obtain ⟨b', off', e, hc⟩ := Bytes.at (l := closeF []) (cap := k1) (by rw [closeF_length]; exact hu) hx
    cases e; exact hc
  have hc0 : (w4.alloc (.cells vs 5)).cell? ⟨bb, off, none⟩ = some (.int .u8 71) := hcell 0 71#8 rfl
  have hc1 : (w4.alloc (.cells vs 5)).cell? ⟨bb, off + 1, none⟩ = some (.int .u8 1) := hcell 1 1#8 rfl
  have hc2 : (w4.alloc (.cells vs 5)).cell? ⟨bb, off + 2, none⟩ = some (.int .u8 0) := hcell 2 0#8 rfl
  have hc3 : (w4.alloc (.cells vs 5)).cell? ⟨bb, off + 3, none⟩ = some (.int .u8 0) := hcell 3 0#8 rfl
  clear hcell
  go_wp2_with (first
    | (go_at_call 10; refine (close_big _ _).mono ?_; rintro e w' ⟨rfl, rfl⟩)
    | (go_at_call 19; refine (size_any _ _).mono ?_; rintro e w' ⟨rfl, rfl⟩)
    | (go_at_call_of 14 (Value.int IntKind.u32 2147483648); refine (step_hi _).mono ?_; rintro e w' ⟨rfl, rfl⟩)
    | (go_at_call 14; refine (step_one _).mono ?_; rintro e w' ⟨rfl, rfl⟩))
  go_ret
  exact ⟨rfl, HG4.out.alloc _⟩
end Go.Proofs.Ytclohcbhnlnddaa
