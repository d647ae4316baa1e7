/-
  The walk of ArcStarts.
-/
import Derived.Test.YtfbkhendpbhfcaaDoorE
namespace Go.Proofs.YtfbkhendpbhfcaaDoor
open Go.RowKit Go.Shelf

theorem far_start (a : Int) (k : Nat) (hk : k < 16) : far a (startF a (k : Int)) = pw k := by
  have hb := pw_bd k (by omega)
  have h2 : pw (k + 1) ≤ 65536 := (pw_bd (k + 1) (by omega)).2
  have h3 : pw (k + 1) = 2 * pw k := rfl
  unfold startF
  rw [if_neg (by omega), Int.toNat_natCast]
  unfold far
  omega
theorem far_moved (a b y : Int) : far (a % 65536 + y % 65536) (b % 65536 + y % 65536) = far a b := by unfold far; omega
theorem inB_moved (a b x y : Int) : inB (a % 65536 + y % 65536) (x % 65536 + y % 65536) (b % 65536 + y % 65536) = inB a x b := by
  unfold inB
  rw [far_moved, far_moved]

set_option maxRecDepth 100000 in
set_option maxHeartbeats 2000000 in
theorem starts_walk (a b x y : Int) (w0 w : World) (h : Good w0 w) :
    Calls Tryd.prog 6 #[.int .i64 a, .int .i64 b, .int .i64 x, .int .i64 y] w fun e w' => e = .returned (.bool true) ∧ Good w0 w' := by
  go_enter Tryd.func6, Tryd.ntmps6
  go_wp2
  go_loopw [9, 10] (fun n i wr => ∃ k : Nat, k ≤ 16 ∧ i = .int .i64 k ∧ n = .int .i64 (pw k) ∧ Good w0 wr) (fun _ i _ => 16 - (intOf i).toNat)
  case atStart => exact ⟨0, Nat.zero_le _, rfl, rfl, h⟩
  case round =>
    obtain ⟨k, hk, rfl, rfl, hg⟩ := hrel
    have hb := pw_bd k (by omega)
    obtain ⟨hb1, hb2⟩ := hb
    by_cases hlt : k < 16
    · have hfs := far_start a k hlt
      have hpw : 2 * pw k = pw (k + 1) := rfl
      go_wp2_with fail
      refine (start_g w0 _ _ _ hg).mono ?_; rintro e w1 ⟨rfl, hb1, h1⟩
      go_wp2_with (go_at_call 14; refine (far_any _ _ _).mono ?_; rintro e w' ⟨rfl, rfl⟩)
      go_roundw
      case rel => exact ⟨k + 1, by omega, by go_num, rfl, h1⟩
      case measure => simp [intOf]; omega
    · obtain rfl : k = 16 := by omega
      have m1 := mod_bd a
      have m2 := mod_bd b
      have m3 := mod_bd x
      have m4 := mod_bd y
      obtain ⟨m11, m12⟩ := m1
      obtain ⟨m21, m22⟩ := m2
      obtain ⟨m31, m32⟩ := m3
      obtain ⟨m41, m42⟩ := m4
      have f1 := far_moved a b y
      have f2 := inB_moved a b x y
      have f3 : startF a (-1) = a % 65536 := by simp [startF]
      go_wp2_with (first
        | (go_at_call 12; refine (place_any _ _).mono ?_; rintro e w' ⟨rfl, rfl⟩)
        | (go_at_call 14; refine (far_any _ _ _).mono ?_; rintro e w' ⟨rfl, rfl⟩)
        | (go_at_call 16; refine (in_any _ _ _ _).mono ?_; rintro e w' ⟨rfl, rfl⟩))
      refine (start_g w0 _ _ _ hg).mono ?_; rintro e w1 ⟨rfl, hb1, h1⟩
      go_wp2_with (first
        | (go_at_call 12; refine (place_any _ _).mono ?_; rintro e w' ⟨rfl, rfl⟩)
        | (go_at_call 9; refine (wakes_g w0 _ (by assumption)).mono ?_; rintro e w' ⟨rfl, hg⟩))
      go_ret
      exact ⟨rfl, by assumption⟩
end Go.Proofs.YtfbkhendpbhfcaaDoor
