/-
  The law FrameSteps: the walk.
-/
import Derived.Test.YtclohcbhnlnddaaM
namespace Go.Proofs.Ytclohcbhnlnddaa
open Go.RowKit Go.Shelf

theorem toNat_beq {n : Nat} (x y : BitVec n) : ((x.toNat : Int) == (y.toNat : Int)) = decide (x = y) := by
  rw [Bool.eq_iff_iff]
  simp only [beq_iff_eq, decide_eq_true_eq]
  constructor
  · intro h; exact BitVec.eq_of_toNat_eq (by omega)
  · rintro rfl; rfl

set_option maxRecDepth 100000 in
set_option maxHeartbeats 1000000 in
theorem steps_law (s t : BitVec 32) (b : Bool) (w0 : World) (w : World) (h : Good w0 w) : Calls Try.prog 7 #[.int .u32 (s.toNat : Int), .int .u32 (t.toNat : Int), .bool b] w fun e w' => e = .returned (.bool true) ∧ Good w0 w' := by
  have e1 : (((stepB s b).toNat : Int) == ((stepB t b).toNat : Int)) = ((s.toNat : Int) == (t.toNat : Int)) := by
    rw [toNat_beq, toNat_beq, decide_eq_decide]
    exact ⟨stepB_inj, fun h => by rw [h]⟩
  have e2 : (((stepB s true).toNat : Int) == bits .xor .u32 ((stepB s false).toNat : Int) 1) = true := by
    have := xor32 (stepB s false) 1#32
    rw [show (((1#32 : BitVec 32).toNat : Nat) : Int) = 1 by decide] at this
    rw [this, stepB_bits, beq_iff_eq]
  have h1 := s.isLt
  have h2 := t.isLt
  have h3 := (stepB s b).isLt
  have h4 := (stepB t b).isLt
  have h5 := (stepB s true).isLt
  have h6 := (stepB s false).isLt
  go_enter Try.func7, Try.ntmps7
  go_wp2_with (first
    | (go_at_call 14; refine (step_any _ _ _).mono ?_; rintro e w' ⟨rfl, rfl⟩)
    | (go_at_call 9; refine (wakes_g w0 _ h).mono ?_; rintro e w' ⟨rfl, hg⟩))
  go_ret
  exact ⟨rfl, hg⟩

theorem steps_walk (x : Int) (hx1 : 0 ≤ x) (hx2 : x ≤ 4294967295) (y : Int) (hy1 : 0 ≤ y) (hy2 : y ≤ 4294967295) (b : Bool) (w0 : World) (w : World) (h : Good w0 w) :
    Calls Try.prog 7 #[.int .u32 x, .int .u32 y, .bool b] w fun e w' => e = .returned (.bool true) ∧ Good w0 w' := by
  have e1 : x = ((BitVec.ofNat 32 x.toNat).toNat : Int) := by rw [BitVec.toNat_ofNat]; omega
  have e2 : y = ((BitVec.ofNat 32 y.toNat).toNat : Int) := by rw [BitVec.toNat_ofNat]; omega
  rw [e1, e2]
  exact steps_law _ _ b w0 w h
end Go.Proofs.Ytclohcbhnlnddaa
