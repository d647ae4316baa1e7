/-
  NARROWER THAN 'FOR EVERY INPUT', by the rows' own cells (each row's printed sentence says how): WaitTells: laid · WaitPlan: laid · WaitLeft: laid · WaitMoved: laid · WaitTries: laid.
  DERIVED. THE GIVEN ROWS OF THIS SEAT. 5 by the template 'for every input the law returns true; each argument reads behind the call as it read before'; 0 by the template 'total and deterministic' (their statements: YtpalgphkpmhpjaaDoorTotals.lean).
  GIVEN WITH THE SEED: the statements are not yours to turn. If you find one false, say at which input.
  Laid BY PROGRAM, IN A SANDBOX (cutbox-rows.mjs): the forced cells as the released guide's own fill.sh prints them over the translation cd203689a66d7bfb… (all of the seat's roots in one cut). By AI agents, Wed Nov 11 2026. No macro, syntax, notation, axiom, sorry.
-/
import Derived.Test.YtpalgphkpmhpjaaDoorChecked
import GoSem.Claim
import GoSem.ClaimJoined
import GoSem.ClaimMapViews
import Derived.JoinedTies
import Derived.KernelRfl
namespace Go.Proofs.YtpalgphkpmhpjaaDoor
/- THE CELL 'sum', in the pinned program and in every row, IS THE sha256 OF THE DUMP (.gsa) THAT YtpalgphkpmhpjaaDoorProg.lean LOADS. Nothing in Lean hashes anything: it is a label: what it is worth is what the hold of that sum in a sandbox is worth. -/
noncomputable def Tryd.pinned : Pinned := { name := "ytpalgphkpmhpjaadoor", sum := "cd203689a66d7bfbab845db2edf3ebf07b410523b9d322ec35ad277dff9e2c47", checked := Tryd.checked }
namespace Rows
def none {H : Type} : Left H := { results := [], args := [] }

/- WHAT THE LISTED PACKAGE-LEVEL VARIABLES READ AS WHEN THE CALL BEGINS. Each datum BY PROGRAM (the guide's laid-datum.mjs) off the statement by which the dump's own 'gosem.cut.vars' lays the variable. In a bare row this is a premise. The card (YtpalgphkpmhpjaaDoorCards.lean) ties it to the program's text. -/
def laid_garland_wait_waits {H : Type} : DataW H := .agg [.lit (.int .i64 1), .lit (.int .i64 2), .lit (.int .i64 4)]

/-- 'garlandlaw09.WaitTells': WHATEVER THE INPUT: true; the input reads as it did. -/
def waitTellsSpec : ChangeSpec := { name := "waitTells", fn := fun _ => fun
  | [d1, d2, d3] => { results := [.lit (.bool true)], args := [d1, d2, d3] }
  | _ => none }
def waitTellsRow : OpenClaim := { program := "ytpalgphkpmhpjaadoor", sum := "cd203689a66d7bfbab845db2edf3ebf07b410523b9d322ec35ad277dff9e2c47", func := "garland/garlandlaw09.WaitTells", spec := "waitTells", unfollowed := true, recurses := true, named := ["garland/wait.waits"], apart := false, laid := [("garland/wait.waits", laid_garland_wait_waits)] }
def WaitTellsSaid : Prop := waitTellsRow.holds Tryd.pinned (OpenSpec.ofChange waitTellsSpec)

/-- ITS FALSE NEIGHBOUR: 'it returns false'. Refute it at one input. -/
def waitTellsWrong : ChangeSpec := { name := "waitTells", fn := fun _ => fun
  | [d1, d2, d3] => { results := [.lit (.bool false)], args := [d1, d2, d3] }
  | _ => none }
def WaitTellsWrongFalsely : Prop := waitTellsRow.holds Tryd.pinned (OpenSpec.ofChange waitTellsWrong)

/-- 'garlandlaw09.WaitPlan': WHATEVER THE INPUT: true; the input reads as it did. -/
def waitPlanSpec : ChangeSpec := { name := "waitPlan", fn := fun _ => fun
  | [d] => { results := [.lit (.bool true)], args := [d] }
  | _ => none }
def waitPlanRow : OpenClaim := { program := "ytpalgphkpmhpjaadoor", sum := "cd203689a66d7bfbab845db2edf3ebf07b410523b9d322ec35ad277dff9e2c47", func := "garland/garlandlaw09.WaitPlan", spec := "waitPlan", unfollowed := true, recurses := true, named := ["garland/wait.waits"], apart := false, laid := [("garland/wait.waits", laid_garland_wait_waits)] }
def WaitPlanSaid : Prop := waitPlanRow.holds Tryd.pinned (OpenSpec.ofChange waitPlanSpec)

/-- ITS FALSE NEIGHBOUR: 'it returns false'. Refute it at one input. -/
def waitPlanWrong : ChangeSpec := { name := "waitPlan", fn := fun _ => fun
  | [d] => { results := [.lit (.bool false)], args := [d] }
  | _ => none }
def WaitPlanWrongFalsely : Prop := waitPlanRow.holds Tryd.pinned (OpenSpec.ofChange waitPlanWrong)

/-- 'garlandlaw09.WaitLeft': WHATEVER THE INPUT: true; the input reads as it did. -/
def waitLeftSpec : ChangeSpec := { name := "waitLeft", fn := fun _ => fun
  | [d1, d2, d3] => { results := [.lit (.bool true)], args := [d1, d2, d3] }
  | _ => none }
def waitLeftRow : OpenClaim := { program := "ytpalgphkpmhpjaadoor", sum := "cd203689a66d7bfbab845db2edf3ebf07b410523b9d322ec35ad277dff9e2c47", func := "garland/garlandlaw09.WaitLeft", spec := "waitLeft", unfollowed := true, recurses := true, named := ["garland/wait.waits"], apart := false, laid := [("garland/wait.waits", laid_garland_wait_waits)] }
def WaitLeftSaid : Prop := waitLeftRow.holds Tryd.pinned (OpenSpec.ofChange waitLeftSpec)

/-- ITS FALSE NEIGHBOUR: 'it returns false'. Refute it at one input. -/
def waitLeftWrong : ChangeSpec := { name := "waitLeft", fn := fun _ => fun
  | [d1, d2, d3] => { results := [.lit (.bool false)], args := [d1, d2, d3] }
  | _ => none }
def WaitLeftWrongFalsely : Prop := waitLeftRow.holds Tryd.pinned (OpenSpec.ofChange waitLeftWrong)

/-- 'garlandlaw09.WaitMoved': WHATEVER THE INPUT: true; the input reads as it did. -/
def waitMovedSpec : ChangeSpec := { name := "waitMoved", fn := fun _ => fun
  | [d1, d2, d3, d4, d5] => { results := [.lit (.bool true)], args := [d1, d2, d3, d4, d5] }
  | _ => none }
def waitMovedRow : OpenClaim := { program := "ytpalgphkpmhpjaadoor", sum := "cd203689a66d7bfbab845db2edf3ebf07b410523b9d322ec35ad277dff9e2c47", func := "garland/garlandlaw09.WaitMoved", spec := "waitMoved", unfollowed := true, recurses := true, named := ["garland/wait.waits"], apart := false, laid := [("garland/wait.waits", laid_garland_wait_waits)] }
def WaitMovedSaid : Prop := waitMovedRow.holds Tryd.pinned (OpenSpec.ofChange waitMovedSpec)

/-- ITS FALSE NEIGHBOUR: 'it returns false'. Refute it at one input. -/
def waitMovedWrong : ChangeSpec := { name := "waitMoved", fn := fun _ => fun
  | [d1, d2, d3, d4, d5] => { results := [.lit (.bool false)], args := [d1, d2, d3, d4, d5] }
  | _ => none }
def WaitMovedWrongFalsely : Prop := waitMovedRow.holds Tryd.pinned (OpenSpec.ofChange waitMovedWrong)

/-- 'garlandlaw09.WaitTries': WHATEVER THE INPUT: true; the input reads as it did. -/
def waitTriesSpec : ChangeSpec := { name := "waitTries", fn := fun _ => fun
  | [d1, d2, d3] => { results := [.lit (.bool true)], args := [d1, d2, d3] }
  | _ => none }
def waitTriesRow : OpenClaim := { program := "ytpalgphkpmhpjaadoor", sum := "cd203689a66d7bfbab845db2edf3ebf07b410523b9d322ec35ad277dff9e2c47", func := "garland/garlandlaw09.WaitTries", spec := "waitTries", unfollowed := true, recurses := true, named := ["garland/wait.waits"], apart := false, laid := [("garland/wait.waits", laid_garland_wait_waits)] }
def WaitTriesSaid : Prop := waitTriesRow.holds Tryd.pinned (OpenSpec.ofChange waitTriesSpec)

/-- ITS FALSE NEIGHBOUR: 'it returns false'. Refute it at one input. -/
def waitTriesWrong : ChangeSpec := { name := "waitTries", fn := fun _ => fun
  | [d1, d2, d3] => { results := [.lit (.bool false)], args := [d1, d2, d3] }
  | _ => none }
def WaitTriesWrongFalsely : Prop := waitTriesRow.holds Tryd.pinned (OpenSpec.ofChange waitTriesWrong)

/- THE SECOND FORM. 'bulk': how many values and letters a reading holds, each counted each time it is reached (what is shared counts as often as it is met; a slice's spare places count too). A statement '..UptoSaid' is the law's where the arguments, and the package variables that the reading takes, are together of bulk at most 1048576: NARROWER than '..Said'. Prove '..Said' where nothing that the law and all that it calls make is longer than what came in: it says more and counts as full. Else prove '..UptoSaid'. A law counts once. -/
mutual
def uptoBulk {H : Type} : DataW H → Nat
  | .lit (.string bytes) => bytes.length + 1
  | .lit _ => 1
  | .nil => 1
  | .ptr d => uptoBulk d + 1
  | .slice elems spare => uptoBulkAll elems + uptoBulkAll spare + 1
  | .agg parts => uptoBulkAll parts + 1
  | .iface _ d => uptoBulk d + 1
  | .map entries => uptoBulkEntries entries + 1
  | .held _ => 1
def uptoBulkAll {H : Type} : List (DataW H) → Nat
  | [] => 0
  | d :: r => uptoBulk d + uptoBulkAll r
def uptoBulkEntries {H : Type} : List (Lit × DataW H) → Nat
  | [] => 0
  | x :: r => uptoBulkEntry x + uptoBulkEntries r
def uptoBulkEntry {H : Type} : Lit × DataW H → Nat
  | (.string bytes, d) => bytes.length + uptoBulk d + 1
  | (_, d) => uptoBulk d + 1
 end
def uptoSmall : (H : Type) → List (DataW H) → Bool := fun _ ds => decide (uptoBulkAll ds ≤ 1048576)
def OpenSpec.upto (s : _root_.Go.ChangeSpec) : _root_.Go.OpenSpec := { _root_.Go.OpenSpec.ofChange s with cond := some uptoSmall }

/-- 'garlandlaw09.WaitTells', WHERE WHAT IT READS IS OF BULK AT MOST 1048576: true; the input reads as it did. -/
def waitTellsUptoRow : OpenClaim := { program := "ytpalgphkpmhpjaadoor", sum := "cd203689a66d7bfbab845db2edf3ebf07b410523b9d322ec35ad277dff9e2c47", func := "garland/garlandlaw09.WaitTells", spec := "waitTells", unfollowed := true, recurses := true, named := ["garland/wait.waits"], apart := false, laid := [("garland/wait.waits", laid_garland_wait_waits)], narrowed := true }
def WaitTellsUptoSaid : Prop := waitTellsUptoRow.holds Tryd.pinned (OpenSpec.upto waitTellsSpec)

/-- 'garlandlaw09.WaitPlan', WHERE WHAT IT READS IS OF BULK AT MOST 1048576: true; the input reads as it did. -/
def waitPlanUptoRow : OpenClaim := { program := "ytpalgphkpmhpjaadoor", sum := "cd203689a66d7bfbab845db2edf3ebf07b410523b9d322ec35ad277dff9e2c47", func := "garland/garlandlaw09.WaitPlan", spec := "waitPlan", unfollowed := true, recurses := true, named := ["garland/wait.waits"], apart := false, laid := [("garland/wait.waits", laid_garland_wait_waits)], narrowed := true }
def WaitPlanUptoSaid : Prop := waitPlanUptoRow.holds Tryd.pinned (OpenSpec.upto waitPlanSpec)

/-- 'garlandlaw09.WaitLeft', WHERE WHAT IT READS IS OF BULK AT MOST 1048576: true; the input reads as it did. -/
def waitLeftUptoRow : OpenClaim := { program := "ytpalgphkpmhpjaadoor", sum := "cd203689a66d7bfbab845db2edf3ebf07b410523b9d322ec35ad277dff9e2c47", func := "garland/garlandlaw09.WaitLeft", spec := "waitLeft", unfollowed := true, recurses := true, named := ["garland/wait.waits"], apart := false, laid := [("garland/wait.waits", laid_garland_wait_waits)], narrowed := true }
def WaitLeftUptoSaid : Prop := waitLeftUptoRow.holds Tryd.pinned (OpenSpec.upto waitLeftSpec)

/-- 'garlandlaw09.WaitMoved', WHERE WHAT IT READS IS OF BULK AT MOST 1048576: true; the input reads as it did. -/
def waitMovedUptoRow : OpenClaim := { program := "ytpalgphkpmhpjaadoor", sum := "cd203689a66d7bfbab845db2edf3ebf07b410523b9d322ec35ad277dff9e2c47", func := "garland/garlandlaw09.WaitMoved", spec := "waitMoved", unfollowed := true, recurses := true, named := ["garland/wait.waits"], apart := false, laid := [("garland/wait.waits", laid_garland_wait_waits)], narrowed := true }
def WaitMovedUptoSaid : Prop := waitMovedUptoRow.holds Tryd.pinned (OpenSpec.upto waitMovedSpec)

/-- 'garlandlaw09.WaitTries', WHERE WHAT IT READS IS OF BULK AT MOST 1048576: true; the input reads as it did. -/
def waitTriesUptoRow : OpenClaim := { program := "ytpalgphkpmhpjaadoor", sum := "cd203689a66d7bfbab845db2edf3ebf07b410523b9d322ec35ad277dff9e2c47", func := "garland/garlandlaw09.WaitTries", spec := "waitTries", unfollowed := true, recurses := true, named := ["garland/wait.waits"], apart := false, laid := [("garland/wait.waits", laid_garland_wait_waits)], narrowed := true }
def WaitTriesUptoSaid : Prop := waitTriesUptoRow.holds Tryd.pinned (OpenSpec.upto waitTriesSpec)

end Rows
end Go.Proofs.YtpalgphkpmhpjaaDoor
