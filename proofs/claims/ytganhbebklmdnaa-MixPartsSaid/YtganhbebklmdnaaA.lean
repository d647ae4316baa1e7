/-
  The small functions of package mix and of its reference: what each call returns.
-/
import Derived.Test.YtganhbebklmdnaaChecked
import Derived.WalkKit
import Derived.WalkLawsBesides
import Derived.Lib.Hide
namespace Go.Proofs.Ytganhbebklmdnaa
open Go.RowKit

theorem bits_mask (n : Int) : bits .and .i64 n 65535 = n % 65536 := by
  have h2 : (BitVec.ofInt 64 65535).toNat = 2 ^ 16 - 1 := by decide
  have h1 : (BitVec.ofInt 64 n).toNat = (n % (2 ^ 64 : Nat)).toNat := BitVec.toNat_ofInt n
  show IntKind.i64.wrap ((BitVec.ofInt 64 n &&& BitVec.ofInt 64 65535).toNat : Int) = _
  rw [BitVec.toNat_and, h1, h2, Nat.and_two_pow_sub_one_eq_mod]
  have h3 : (((n % (2 ^ 64 : Nat)).toNat % 2 ^ 16 : Nat) : Int) = n % 65536 := by omega
  rw [h3]
  simp [IntKind.wrap, IntKind.bits, IntKind.signed]
  omega

theorem rest_any (n : Int) (w : World) : Calls Try.prog 20 #[.int .i64 n] w fun e w' => e = .returned (.int .i64 (n % 65536)) ∧ w = w' := by
  have hb := bits_mask n
  go_enter Try.func20, Try.ntmps20
  go_wp2
  go_ret
  exact ⟨rfl, rfl⟩

theorem wrap64_id {x : Int} (h1 : -9223372036854775808 ≤ x) (h2 : x ≤ 9223372036854775807) : wrap64 x = x := by unfold wrap64; omega
theorem wrap64_mod (x : Int) : wrap64 x % 65536 = x % 65536 := by unfold wrap64; omega

theorem place_any (n : Int) (w : World) : Calls Try.prog 21 #[.int .i64 n] w fun e w' => e = .returned (.int .i64 (n % 65536)) ∧ w = w' := by
  have h1 : -65536 < n.tmod 65536 ∧ n.tmod 65536 < 65536 ∧ (n.tmod 65536 + 65536) % 65536 = n % 65536 := by
    have := Int.tmod_add_mul_tdiv n 65536
    have h2 := Int.tmod_lt_of_pos n (show (0 : Int) < 65536 by omega)
    have h3 := Int.lt_tmod_of_pos n (show (0 : Int) < 65536 by omega)
    omega
  obtain ⟨h2, h3, h4⟩ := h1
  rw [← h4]
  clear h4
  go_enter Try.func21, Try.ntmps21
  go_wp2
  go_ret
  exact ⟨rfl, rfl⟩

def nextF (a b : Int) : Int := (40503 * (a % 65536) + b + 1) % 65536
def beforeF (a b : Int) : Int := (30599 * ((a - b - 1) % 65536)) % 65536

theorem mod_bd (a : Int) : 0 ≤ a % 65536 ∧ a % 65536 ≤ 65535 := by omega

theorem next_any (a b : Int) (hb1 : 0 ≤ b) (hb2 : b ≤ 255) (w : World) : Calls Try.prog 13 #[.int .i64 a, .int .u8 b] w fun e w' => e = .returned (.int .i64 (nextF a b)) ∧ w = w' := by
  obtain ⟨h1, h2⟩ := mod_bd a
  unfold nextF
  go_enter Try.func13, Try.ntmps13
  go_wp2_with (go_at_call 20; refine (rest_any _ _).mono ?_; rintro e w' ⟨rfl, rfl⟩)
  go_ret
  exact ⟨rfl, rfl⟩

theorem refnext_any (a b : Int) (hb1 : 0 ≤ b) (hb2 : b ≤ 255) (w : World) : Calls Try.prog 14 #[.int .i64 a, .int .u8 b] w fun e w' => e = .returned (.int .i64 (nextF a b)) ∧ w = w' := by
  obtain ⟨h1, h2⟩ := mod_bd a
  have e : nextF a b = (a % 65536 * 40503 + b + 1) % 65536 := by unfold nextF; rw [Int.mul_comm]
  rw [e]; clear e
  go_enter Try.func14, Try.ntmps14
  go_wp2_with (go_at_call 21; refine (place_any _ _).mono ?_; rintro e w' ⟨rfl, rfl⟩)
  go_ret
  exact ⟨rfl, rfl⟩

theorem before_any (a b : Int) (hb1 : 0 ≤ b) (hb2 : b ≤ 255) (w : World) : Calls Try.prog 15 #[.int .i64 a, .int .u8 b] w fun e w' => e = .returned (.int .i64 (beforeF a b)) ∧ w = w' := by
  have h3 : wrap64 (wrap64 (a - b) - 1) % 65536 = (a - b - 1) % 65536 := by rw [wrap64_mod]; unfold wrap64; omega
  obtain ⟨h1, h2⟩ := mod_bd (wrap64 (wrap64 (a - b) - 1))
  unfold beforeF
  rw [← h3]
  clear h3
  go_enter Try.func15, Try.ntmps15
  go_wp2_with (go_at_call 20; refine (rest_any _ _).mono ?_; rintro e w' ⟨rfl, rfl⟩)
  go_ret
  exact ⟨rfl, rfl⟩

/-- The search of the reference: from 1 on by twos, up to the number which times 40503 leaves 1. -/
theorem no_sooner (n : Int) (h1 : 0 ≤ n) (h2 : n < 30599) : ¬ n * 40503 % 65536 = 1 := by omega
theorem back_any (w : World) : Calls Try.prog 22 #[] w fun e w' => e = .returned (.int .i64 30599) ∧ w = w' := by
  go_enter Try.func22, Try.ntmps22
  go_wp2
  go_loop [1] (fun i => ∃ n : Int, 1 ≤ n ∧ n ≤ 30599 ∧ n % 2 = 1 ∧ i = .int .i64 n) (fun i => (40000 - intOf i).toNat)
  case atStart => exact ⟨1, by omega, by omega, by omega, rfl⟩
  case round =>
    obtain ⟨n, hn1, hn2, hn3, rfl⟩ := hrel
    have HN := Lib.hid hn3
    clear hn3
    by_cases hlt : n < 30599
    · have hn : (n * 40503 % 65536 == 1) = false := by
        have := no_sooner n (by omega) (by omega)
        simpa using this
      go_wp2
      go_round
      case rel => exact ⟨n + 2, by omega, by have := HN.out; omega, by have := HN.out; omega, rfl⟩
      case measure => simp [intOf]; omega
    · obtain rfl : n = 30599 := by omega
      go_wp2
      go_ret
      exact ⟨rfl, rfl⟩

theorem refbefore_any (a b : Int) (hb1 : 0 ≤ b) (hb2 : b ≤ 255) (w : World) : Calls Try.prog 16 #[.int .i64 a, .int .u8 b] w fun e w' => e = .returned (.int .i64 (beforeF a b)) ∧ w = w' := by
  have h3 : (a % 65536 - b - 1) % 65536 = (a - b - 1) % 65536 := by omega
  obtain ⟨h1, h2⟩ := mod_bd (a % 65536 - b - 1)
  obtain ⟨h4, h5⟩ := mod_bd a
  unfold beforeF
  rw [← h3, Int.mul_comm]
  clear h3
  go_enter Try.func16, Try.ntmps16
  go_wp2_with (first | (go_at_call 21; refine (place_any _ _).mono ?_; rintro e w' ⟨rfl, rfl⟩) | (go_at_call 22; refine (back_any _).mono ?_; rintro e w' ⟨rfl, rfl⟩))
  go_ret
  exact ⟨rfl, rfl⟩
end Go.Proofs.Ytganhbebklmdnaa
