/-
  What the rows of this seat share.
-/
import Derived.Test.YtaaonafokkdadaaRows
import Derived.Test.YtaaonafokkdadaaT
import Derived.ProofKit
namespace Go.Proofs.Ytaaonafokkdadaa
open Go.ChangeShapes Go.WideShapes Go.ChangeAt Go.RowKit
theorem own : ownKnob Try.prog.godebug = none := by kernel_rfl
theorem laidOut : laidOutB Try.prog = true := by kernel_rfl
theorem word_lt {b : Nat} (h : (Lit.float .f64 b).wf = true) : b < 18446744073709551616 := of_decide_eq_true h
end Go.Proofs.Ytaaonafokkdadaa
