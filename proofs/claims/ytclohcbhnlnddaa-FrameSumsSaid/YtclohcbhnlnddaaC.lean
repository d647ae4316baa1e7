/-
  The small functions of package frame and of its reference: what a step, a size returns.
-/
import Derived.Test.YtclohcbhnlnddaaB
import Derived.Test.YtclohcbhnlnddaaChecked
import Derived.WalkKit
import Derived.WalkLawsBesides
namespace Go.Proofs.Ytclohcbhnlnddaa
open Go.RowKit

theorem wrap_u32 (n : Int) : IntKind.u32.wrap n = n % 4294967296 := by simp [IntKind.wrap, IntKind.bits, IntKind.signed]
theorem wrap_u8 (n : Int) : IntKind.u8.wrap n = n % 256 := by simp [IntKind.wrap, IntKind.bits, IntKind.signed]
theorem ofInt_nat (n : Nat) (x : BitVec n) : BitVec.ofInt n (x.toNat : Int) = x := by
  rw [BitVec.ofInt_natCast, BitVec.ofNat_toNat, BitVec.setWidth_eq]
theorem xor32 (x y : BitVec 32) : bits .xor .u32 (x.toNat : Int) (y.toNat : Int) = ((x ^^^ y).toNat : Int) := by
  show IntKind.u32.wrap (((BitVec.ofInt 32 x.toNat ^^^ BitVec.ofInt 32 y.toNat).toNat : Nat) : Int) = _
  rw [ofInt_nat, ofInt_nat, wrap_u32]
  have := (x ^^^ y).isLt
  omega
theorem or32 (x y : BitVec 32) : bits .or .u32 (x.toNat : Int) (y.toNat : Int) = ((x ||| y).toNat : Int) := by
  show IntKind.u32.wrap (((BitVec.ofInt 32 x.toNat ||| BitVec.ofInt 32 y.toNat).toNat : Nat) : Int) = _
  rw [ofInt_nat, ofInt_nat, wrap_u32]
  have := (x ||| y).isLt
  omega
theorem xor8 (x y : BitVec 8) : bits .xor .u8 (x.toNat : Int) (y.toNat : Int) = ((x ^^^ y).toNat : Int) := by
  show IntKind.u8.wrap (((BitVec.ofInt 8 x.toNat ^^^ BitVec.ofInt 8 y.toNat).toNat : Nat) : Int) = _
  rw [ofInt_nat, ofInt_nat, wrap_u8]
  have := (x ^^^ y).isLt
  omega
theorem shl32 (s : BitVec 32) : ((s.toNat : Int) * (2 : Int)) % (4294967296 : Int) = ((s <<< 1).toNat : Int) := by
  rw [BitVec.toNat_shiftLeft, Nat.shiftLeft_eq]; omega
theorem high32 (s : BitVec 32) : ((s.toNat : Int) / 2147483648 == 1) = s.msb := by
  have hlt := s.isLt
  rw [BitVec.msb_eq_decide, Bool.eq_iff_iff]
  simp only [beq_iff_eq, decide_eq_true_eq]
  omega
theorem low_or (s : BitVec 32) : (s <<< 1) ||| 1#32 = (s <<< 1) ^^^ 1#32 := by
  refine BitVec.eq_of_getLsbD_eq fun i hi => ?_
  rw [BitVec.getLsbD_or, BitVec.getLsbD_xor, BitVec.getLsbD_shiftLeft, BitVec.getLsbD_one]
  cases i <;> simp
theorem stepB_cases (s : BitVec 32) : (s.msb = true → stepB s true = ((s <<< 1) ||| 1#32) ^^^ 0x741b8cd7#32 ∧ stepB s false = (s <<< 1) ^^^ 0x741b8cd7#32) ∧
    (s.msb = false → stepB s true = (s <<< 1) ||| 1#32 ∧ stepB s false = s <<< 1) := by
  refine ⟨fun h => ?_, fun h => ?_⟩ <;> simp [stepB, h, low_or, pat]
theorem step_value (s : BitVec 32) (b : Bool) : ((stepB s b).toNat : Int) =
    bif s.msb then bits .xor .u32 (bif b then bits .or .u32 ((s.toNat : Int) * 2 % 4294967296) 1 else (s.toNat : Int) * 2 % 4294967296) 1947962583
    else (bif b then bits .or .u32 ((s.toNat : Int) * 2 % 4294967296) 1 else (s.toNat : Int) * 2 % 4294967296) := by
  have e1 : (1 : Int) = ((1#32 : BitVec 32).toNat : Int) := by decide
  have e2 : (1947962583 : Int) = ((0x741b8cd7#32 : BitVec 32).toNat : Int) := by decide
  have hs := stepB_cases s
  have eo : bits .or .u32 (((s <<< 1).toNat : Nat) : Int) 1 = (((s <<< 1) ||| 1#32).toNat : Int) := or32 (s <<< 1) 1#32
  cases hm : s.msb
  · obtain ⟨h1, h2⟩ := hs.2 hm
    cases b
    · rw [h2, shl32]; rfl
    · rw [h1, shl32, eo]; rfl
  · obtain ⟨h1, h2⟩ := hs.1 hm
    have ex : ∀ x : BitVec 32, bits .xor .u32 (x.toNat : Int) 1947962583 = ((x ^^^ 0x741b8cd7#32).toNat : Int) := fun x => xor32 x 0x741b8cd7#32
    cases b
    · rw [h2, shl32]; exact (ex _).symm
    · rw [h1, shl32, eo]; exact (ex _).symm

theorem step_any (s : BitVec 32) (b : Bool) (w : World) : Calls Try.prog 14 #[.int .u32 (s.toNat : Int), .bool b] w fun e w' => e = .returned (.int .u32 ((stepB s b).toNat : Int)) ∧ w = w' := by
  have hv := step_value s b
  have hm := high32 s
  obtain ⟨x, hx⟩ : ∃ x, x = (s.toNat : Int) := ⟨_, rfl⟩
  have hlt := s.isLt
  rw [hv, ← hx]
  rw [← hx] at hm
  have h1 : 0 ≤ x := by omega
  have h2 : x < 4294967296 := by omega
  rw [← hm]
  clear hv hm hx hlt
  go_enter Try.func14, Try.ntmps14
  go_wp2
  all_goals (rename_i k1 k2; subst k1; simp only [k2, cond_true, cond_false]; go_ret; exact ⟨rfl, rfl⟩)
theorem refstep_any (s : BitVec 32) (b : Bool) (w : World) : Calls Try.prog 15 #[.int .u32 (s.toNat : Int), .bool b] w fun e w' => e = .returned (.int .u32 ((stepB s b).toNat : Int)) ∧ w = w' := by
  have hv := step_value s b
  have hm := high32 s
  obtain ⟨x, hx⟩ : ∃ x, x = (s.toNat : Int) := ⟨_, rfl⟩
  have hlt := s.isLt
  rw [hv, ← hx]
  rw [← hx] at hm
  have h1 : 0 ≤ x := by omega
  have h2 : x < 4294967296 := by omega
  rw [← hm]
  clear hv hm hx hlt
  go_enter Try.func15, Try.ntmps15
  go_wp2
  all_goals (rename_i k1 k2; subst k1; simp only [k2, cond_true, cond_false]; go_ret; exact ⟨rfl, rfl⟩)

def sizeF (n : Int) : Int := if n < 0 ∨ 112 < n then 0 else n + 8
theorem size_any (n : Int) (w : World) : Calls Try.prog 19 #[.int .i64 n] w fun e w' => e = .returned (.int .i64 (sizeF n)) ∧ w = w' := by
  by_cases c1 : n < 0
  · have e : sizeF n = 0 := by simp [sizeF, c1]
    rw [e]; clear e
    go_enter Try.func19, Try.ntmps19
    go_wp2
    go_ret; exact ⟨rfl, rfl⟩
  · by_cases c2 : 112 < n
    · have e : sizeF n = 0 := by simp [sizeF, c2]
      rw [e]; clear e
      go_enter Try.func19, Try.ntmps19
      go_wp2
      go_ret; exact ⟨rfl, rfl⟩
    · have e : sizeF n = 4 + n + 4 := by simp [sizeF, c1, c2]; omega
      rw [e]; clear e
      go_enter Try.func19, Try.ntmps19
      go_wp2
      go_ret; exact ⟨rfl, rfl⟩
theorem refsize_any (n : Int) (w : World) : Calls Try.prog 20 #[.int .i64 n] w fun e w' => e = .returned (.int .i64 (sizeF n)) ∧ w = w' := by
  by_cases c1 : n < 0
  · have e : sizeF n = 0 := by simp [sizeF, c1]
    rw [e]; clear e
    go_enter Try.func20, Try.ntmps20
    go_wp2
    go_ret; exact ⟨rfl, rfl⟩
  · by_cases c2 : 112 < n
    · have e : sizeF n = 0 := by simp [sizeF, c2]
      rw [e]; clear e
      go_enter Try.func20, Try.ntmps20
      go_wp2
      go_ret; exact ⟨rfl, rfl⟩
    · have e : sizeF n = n + 8 := by simp [sizeF, c1, c2]
      rw [e]; clear e
      go_enter Try.func20, Try.ntmps20
      go_wp2
      go_ret; exact ⟨rfl, rfl⟩
end Go.Proofs.Ytclohcbhnlnddaa
