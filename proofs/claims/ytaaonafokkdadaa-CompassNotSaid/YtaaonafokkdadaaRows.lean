/-
  No cell of these rows narrows 'for every input' (looked for: loops, veiled, ifaces, maps, wideKeys, modest, calm, conditions, laid).
  DERIVED. THE GIVEN ROWS OF THIS SEAT. 5 by the template 'for every input the law returns true; each argument reads behind the call as it read before'; 0 by the template 'total and deterministic' (their statements: YtaaonafokkdadaaTotals.lean).
  GIVEN WITH THE SEED: the statements are not yours to turn. If you find one false, say at which input.
  Laid BY PROGRAM, IN A SANDBOX (cutbox-rows.mjs): the forced cells as the released guide's own fill.sh prints them over the translation bcc0f038118e3496… (all of the seat's roots in one cut). By AI agents, Wed Nov 11 2026. No macro, syntax, notation, axiom, sorry.
-/
import Derived.Test.YtaaonafokkdadaaChecked
import GoSem.Claim
import GoSem.ClaimJoined
import GoSem.ClaimMapViews
import Derived.JoinedTies
import Derived.KernelRfl
namespace Go.Proofs.Ytaaonafokkdadaa
/- THE CELL 'sum', in the pinned program and in every row, IS THE sha256 OF THE DUMP (.gsa) THAT YtaaonafokkdadaaProg.lean LOADS. Nothing in Lean hashes anything: it is a label: what it is worth is what the hold of that sum in a sandbox is worth. -/
noncomputable def Try.pinned : Pinned := { name := "ytaaonafokkdadaa", sum := "bcc0f038118e349643af697d54f4e71a0ac828fef343acc7bea56d8152bd667b", checked := Try.checked }
namespace Rows
def none {H : Type} : Left H := { results := [], args := [] }

/-- 'garlandlaw02.CompassTells': WHATEVER THE INPUT: true; the input reads as it did. -/
def compassTellsSpec : ChangeSpec := { name := "compassTells", fn := fun _ => fun
  | [d1, d2, d3, d4] => { results := [.lit (.bool true)], args := [d1, d2, d3, d4] }
  | _ => none }
def compassTellsRow : OpenClaim := { program := "ytaaonafokkdadaa", sum := "bcc0f038118e349643af697d54f4e71a0ac828fef343acc7bea56d8152bd667b", func := "garland/garlandlaw02.CompassTells", spec := "compassTells", inPlace := ["math.Float64bits", "math.Float64frombits", "math.archTrunc"], unfollowed := true, recurses := true, apart := false }
def CompassTellsSaid : Prop := compassTellsRow.holds Try.pinned (OpenSpec.ofChange compassTellsSpec)

/-- ITS FALSE NEIGHBOUR: 'it returns false'. Refute it at one input. -/
def compassTellsWrong : ChangeSpec := { name := "compassTells", fn := fun _ => fun
  | [d1, d2, d3, d4] => { results := [.lit (.bool false)], args := [d1, d2, d3, d4] }
  | _ => none }
def CompassTellsWrongFalsely : Prop := compassTellsRow.holds Try.pinned (OpenSpec.ofChange compassTellsWrong)

/-- 'garlandlaw02.CompassBack': WHATEVER THE INPUT: true; the input reads as it did. -/
def compassBackSpec : ChangeSpec := { name := "compassBack", fn := fun _ => fun
  | [d1, d2, d3, d4] => { results := [.lit (.bool true)], args := [d1, d2, d3, d4] }
  | _ => none }
def compassBackRow : OpenClaim := { program := "ytaaonafokkdadaa", sum := "bcc0f038118e349643af697d54f4e71a0ac828fef343acc7bea56d8152bd667b", func := "garland/garlandlaw02.CompassBack", spec := "compassBack", inPlace := ["math.Float64bits", "math.Float64frombits", "math.archTrunc"], unfollowed := true, recurses := true, apart := false }
def CompassBackSaid : Prop := compassBackRow.holds Try.pinned (OpenSpec.ofChange compassBackSpec)

/-- ITS FALSE NEIGHBOUR: 'it returns false'. Refute it at one input. -/
def compassBackWrong : ChangeSpec := { name := "compassBack", fn := fun _ => fun
  | [d1, d2, d3, d4] => { results := [.lit (.bool false)], args := [d1, d2, d3, d4] }
  | _ => none }
def CompassBackWrongFalsely : Prop := compassBackRow.holds Try.pinned (OpenSpec.ofChange compassBackWrong)

/-- 'garlandlaw02.CompassTurns': WHATEVER THE INPUT: true; the input reads as it did. -/
def compassTurnsSpec : ChangeSpec := { name := "compassTurns", fn := fun _ => fun
  | [d1, d2] => { results := [.lit (.bool true)], args := [d1, d2] }
  | _ => none }
def compassTurnsRow : OpenClaim := { program := "ytaaonafokkdadaa", sum := "bcc0f038118e349643af697d54f4e71a0ac828fef343acc7bea56d8152bd667b", func := "garland/garlandlaw02.CompassTurns", spec := "compassTurns", inPlace := ["math.Float64bits", "math.Float64frombits", "math.archTrunc"], unfollowed := true, recurses := true, apart := false }
def CompassTurnsSaid : Prop := compassTurnsRow.holds Try.pinned (OpenSpec.ofChange compassTurnsSpec)

/-- ITS FALSE NEIGHBOUR: 'it returns false'. Refute it at one input. -/
def compassTurnsWrong : ChangeSpec := { name := "compassTurns", fn := fun _ => fun
  | [d1, d2] => { results := [.lit (.bool false)], args := [d1, d2] }
  | _ => none }
def CompassTurnsWrongFalsely : Prop := compassTurnsRow.holds Try.pinned (OpenSpec.ofChange compassTurnsWrong)

/-- 'garlandlaw02.CompassBeside': WHATEVER THE INPUT: true; the input reads as it did. -/
def compassBesideSpec : ChangeSpec := { name := "compassBeside", fn := fun _ => fun
  | [d1, d2] => { results := [.lit (.bool true)], args := [d1, d2] }
  | _ => none }
def compassBesideRow : OpenClaim := { program := "ytaaonafokkdadaa", sum := "bcc0f038118e349643af697d54f4e71a0ac828fef343acc7bea56d8152bd667b", func := "garland/garlandlaw02.CompassBeside", spec := "compassBeside", inPlace := ["math.Float64bits", "math.Float64frombits", "math.archTrunc"], unfollowed := true, recurses := true, apart := false }
def CompassBesideSaid : Prop := compassBesideRow.holds Try.pinned (OpenSpec.ofChange compassBesideSpec)

/-- ITS FALSE NEIGHBOUR: 'it returns false'. Refute it at one input. -/
def compassBesideWrong : ChangeSpec := { name := "compassBeside", fn := fun _ => fun
  | [d1, d2] => { results := [.lit (.bool false)], args := [d1, d2] }
  | _ => none }
def CompassBesideWrongFalsely : Prop := compassBesideRow.holds Try.pinned (OpenSpec.ofChange compassBesideWrong)

/-- 'garlandlaw02.CompassNot': WHATEVER THE INPUT: true; the input reads as it did. -/
def compassNotSpec : ChangeSpec := { name := "compassNot", fn := fun _ => fun
  | [d1, d2, d3] => { results := [.lit (.bool true)], args := [d1, d2, d3] }
  | _ => none }
def compassNotRow : OpenClaim := { program := "ytaaonafokkdadaa", sum := "bcc0f038118e349643af697d54f4e71a0ac828fef343acc7bea56d8152bd667b", func := "garland/garlandlaw02.CompassNot", spec := "compassNot", inPlace := ["math.Float64bits", "math.Float64frombits", "math.archTrunc"], unfollowed := true, recurses := true, apart := false }
def CompassNotSaid : Prop := compassNotRow.holds Try.pinned (OpenSpec.ofChange compassNotSpec)

/-- ITS FALSE NEIGHBOUR: 'it returns false'. Refute it at one input. -/
def compassNotWrong : ChangeSpec := { name := "compassNot", fn := fun _ => fun
  | [d1, d2, d3] => { results := [.lit (.bool false)], args := [d1, d2, d3] }
  | _ => none }
def CompassNotWrongFalsely : Prop := compassNotRow.holds Try.pinned (OpenSpec.ofChange compassNotWrong)

/- THE SECOND FORM. 'bulk': how many values and letters a reading holds, each counted each time it is reached (what is shared counts as often as it is met; a slice's spare places count too). A statement '..UptoSaid' is the law's where the arguments, and the package variables that the reading takes, are together of bulk at most 1048576: NARROWER than '..Said'. Prove '..Said' where nothing that the law and all that it calls make is longer than what came in: it says more and counts as full. Else prove '..UptoSaid'. A law counts once. -/
mutual
def uptoBulk {H : Type} : DataW H → Nat
  | .lit (.string bytes) => bytes.length + 1
  | .lit _ => 1
  | .nil => 1
  | .ptr d => uptoBulk d + 1
  | .slice elems spare => uptoBulkAll elems + uptoBulkAll spare + 1
  | .agg parts => uptoBulkAll parts + 1
  | .iface _ d => uptoBulk d + 1
  | .map entries => uptoBulkEntries entries + 1
  | .held _ => 1
def uptoBulkAll {H : Type} : List (DataW H) → Nat
  | [] => 0
  | d :: r => uptoBulk d + uptoBulkAll r
def uptoBulkEntries {H : Type} : List (Lit × DataW H) → Nat
  | [] => 0
  | x :: r => uptoBulkEntry x + uptoBulkEntries r
def uptoBulkEntry {H : Type} : Lit × DataW H → Nat
  | (.string bytes, d) => bytes.length + uptoBulk d + 1
  | (_, d) => uptoBulk d + 1
 end
def uptoSmall : (H : Type) → List (DataW H) → Bool := fun _ ds => decide (uptoBulkAll ds ≤ 1048576)
def OpenSpec.upto (s : _root_.Go.ChangeSpec) : _root_.Go.OpenSpec := { _root_.Go.OpenSpec.ofChange s with cond := some uptoSmall }

/-- 'garlandlaw02.CompassTells', WHERE WHAT IT READS IS OF BULK AT MOST 1048576: true; the input reads as it did. -/
def compassTellsUptoRow : OpenClaim := { program := "ytaaonafokkdadaa", sum := "bcc0f038118e349643af697d54f4e71a0ac828fef343acc7bea56d8152bd667b", func := "garland/garlandlaw02.CompassTells", spec := "compassTells", inPlace := ["math.Float64bits", "math.Float64frombits", "math.archTrunc"], unfollowed := true, recurses := true, apart := false, narrowed := true }
def CompassTellsUptoSaid : Prop := compassTellsUptoRow.holds Try.pinned (OpenSpec.upto compassTellsSpec)

/-- 'garlandlaw02.CompassBack', WHERE WHAT IT READS IS OF BULK AT MOST 1048576: true; the input reads as it did. -/
def compassBackUptoRow : OpenClaim := { program := "ytaaonafokkdadaa", sum := "bcc0f038118e349643af697d54f4e71a0ac828fef343acc7bea56d8152bd667b", func := "garland/garlandlaw02.CompassBack", spec := "compassBack", inPlace := ["math.Float64bits", "math.Float64frombits", "math.archTrunc"], unfollowed := true, recurses := true, apart := false, narrowed := true }
def CompassBackUptoSaid : Prop := compassBackUptoRow.holds Try.pinned (OpenSpec.upto compassBackSpec)

/-- 'garlandlaw02.CompassTurns', WHERE WHAT IT READS IS OF BULK AT MOST 1048576: true; the input reads as it did. -/
def compassTurnsUptoRow : OpenClaim := { program := "ytaaonafokkdadaa", sum := "bcc0f038118e349643af697d54f4e71a0ac828fef343acc7bea56d8152bd667b", func := "garland/garlandlaw02.CompassTurns", spec := "compassTurns", inPlace := ["math.Float64bits", "math.Float64frombits", "math.archTrunc"], unfollowed := true, recurses := true, apart := false, narrowed := true }
def CompassTurnsUptoSaid : Prop := compassTurnsUptoRow.holds Try.pinned (OpenSpec.upto compassTurnsSpec)

/-- 'garlandlaw02.CompassBeside', WHERE WHAT IT READS IS OF BULK AT MOST 1048576: true; the input reads as it did. -/
def compassBesideUptoRow : OpenClaim := { program := "ytaaonafokkdadaa", sum := "bcc0f038118e349643af697d54f4e71a0ac828fef343acc7bea56d8152bd667b", func := "garland/garlandlaw02.CompassBeside", spec := "compassBeside", inPlace := ["math.Float64bits", "math.Float64frombits", "math.archTrunc"], unfollowed := true, recurses := true, apart := false, narrowed := true }
def CompassBesideUptoSaid : Prop := compassBesideUptoRow.holds Try.pinned (OpenSpec.upto compassBesideSpec)

/-- 'garlandlaw02.CompassNot', WHERE WHAT IT READS IS OF BULK AT MOST 1048576: true; the input reads as it did. -/
def compassNotUptoRow : OpenClaim := { program := "ytaaonafokkdadaa", sum := "bcc0f038118e349643af697d54f4e71a0ac828fef343acc7bea56d8152bd667b", func := "garland/garlandlaw02.CompassNot", spec := "compassNot", inPlace := ["math.Float64bits", "math.Float64frombits", "math.archTrunc"], unfollowed := true, recurses := true, apart := false, narrowed := true }
def CompassNotUptoSaid : Prop := compassNotUptoRow.holds Try.pinned (OpenSpec.upto compassNotSpec)

end Rows
end Go.Proofs.Ytaaonafokkdadaa
