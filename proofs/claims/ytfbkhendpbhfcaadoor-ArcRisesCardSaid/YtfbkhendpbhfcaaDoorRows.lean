/-
  NARROWER THAN 'FOR EVERY INPUT', by the rows' own cells (each row's printed sentence says how): ArcTells: laid · ArcRound: laid · ArcOwner: laid · ArcStarts: laid · ArcRises: laid · ArcShares: laid.
  DERIVED. THE GIVEN ROWS OF THIS SEAT. 6 by the template 'for every input the law returns true; each argument reads behind the call as it read before'; 0 by the template 'total and deterministic' (their statements: YtfbkhendpbhfcaaDoorTotals.lean).
  GIVEN WITH THE SEED: the statements are not yours to turn. If you find one false, say at which input.
  Laid BY PROGRAM, IN A SANDBOX (cutbox-rows.mjs): the forced cells as the released guide's own fill.sh prints them over the translation 9da52ac9307db32d… (all of the seat's roots in one cut). By AI agents, Wed Nov 11 2026. No macro, syntax, notation, axiom, sorry.
-/
import Derived.Test.YtfbkhendpbhfcaaDoorChecked
import GoSem.Claim
import GoSem.ClaimJoined
import GoSem.ClaimMapViews
import Derived.JoinedTies
import Derived.KernelRfl
namespace Go.Proofs.YtfbkhendpbhfcaaDoor
/- THE CELL 'sum', in the pinned program and in every row, IS THE sha256 OF THE DUMP (.gsa) THAT YtfbkhendpbhfcaaDoorProg.lean LOADS. Nothing in Lean hashes anything: it is a label: what it is worth is what the hold of that sum in a sandbox is worth. -/
noncomputable def Tryd.pinned : Pinned := { name := "ytfbkhendpbhfcaadoor", sum := "9da52ac9307db32d779c4e67f14bfb307cc3aa139874b47bc86305ac09919256", checked := Tryd.checked }
namespace Rows
def none {H : Type} : Left H := { results := [], args := [] }

/- WHAT THE LISTED PACKAGE-LEVEL VARIABLES READ AS WHEN THE CALL BEGINS. Each datum BY PROGRAM (the guide's laid-datum.mjs) off the statement by which the dump's own 'gosem.cut.vars' lays the variable. In a bare row this is a premise. The card (YtfbkhendpbhfcaaDoorCards.lean) ties it to the program's text. -/
def laid_garland_arc_starts {H : Type} : DataW H := .agg [.lit (.int .i64 1), .lit (.int .i64 2), .lit (.int .i64 4), .lit (.int .i64 8), .lit (.int .i64 16), .lit (.int .i64 32), .lit (.int .i64 64), .lit (.int .i64 128), .lit (.int .i64 256), .lit (.int .i64 512), .lit (.int .i64 1024), .lit (.int .i64 2048), .lit (.int .i64 4096), .lit (.int .i64 8192), .lit (.int .i64 16384), .lit (.int .i64 32768)]

/-- 'garlandlaw03.ArcTells': WHATEVER THE INPUT: true; the input reads as it did. -/
def arcTellsSpec : ChangeSpec := { name := "arcTells", fn := fun _ => fun
  | [d1, d2, d3, d4, d5] => { results := [.lit (.bool true)], args := [d1, d2, d3, d4, d5] }
  | _ => none }
def arcTellsRow : OpenClaim := { program := "ytfbkhendpbhfcaadoor", sum := "9da52ac9307db32d779c4e67f14bfb307cc3aa139874b47bc86305ac09919256", func := "garland/garlandlaw03.ArcTells", spec := "arcTells", unfollowed := true, recurses := true, named := ["garland/arc.starts"], apart := false, laid := [("garland/arc.starts", laid_garland_arc_starts)] }
def ArcTellsSaid : Prop := arcTellsRow.holds Tryd.pinned (OpenSpec.ofChange arcTellsSpec)

/-- ITS FALSE NEIGHBOUR: 'it returns false'. Refute it at one input. -/
def arcTellsWrong : ChangeSpec := { name := "arcTells", fn := fun _ => fun
  | [d1, d2, d3, d4, d5] => { results := [.lit (.bool false)], args := [d1, d2, d3, d4, d5] }
  | _ => none }
def ArcTellsWrongFalsely : Prop := arcTellsRow.holds Tryd.pinned (OpenSpec.ofChange arcTellsWrong)

/-- 'garlandlaw03.ArcRound': WHATEVER THE INPUT: true; the input reads as it did. -/
def arcRoundSpec : ChangeSpec := { name := "arcRound", fn := fun _ => fun
  | [d1, d2, d3] => { results := [.lit (.bool true)], args := [d1, d2, d3] }
  | _ => none }
def arcRoundRow : OpenClaim := { program := "ytfbkhendpbhfcaadoor", sum := "9da52ac9307db32d779c4e67f14bfb307cc3aa139874b47bc86305ac09919256", func := "garland/garlandlaw03.ArcRound", spec := "arcRound", unfollowed := true, recurses := true, named := ["garland/arc.starts"], apart := false, laid := [("garland/arc.starts", laid_garland_arc_starts)] }
def ArcRoundSaid : Prop := arcRoundRow.holds Tryd.pinned (OpenSpec.ofChange arcRoundSpec)

/-- ITS FALSE NEIGHBOUR: 'it returns false'. Refute it at one input. -/
def arcRoundWrong : ChangeSpec := { name := "arcRound", fn := fun _ => fun
  | [d1, d2, d3] => { results := [.lit (.bool false)], args := [d1, d2, d3] }
  | _ => none }
def ArcRoundWrongFalsely : Prop := arcRoundRow.holds Tryd.pinned (OpenSpec.ofChange arcRoundWrong)

/-- 'garlandlaw03.ArcOwner': WHATEVER THE INPUT: true; the input reads as it did. -/
def arcOwnerSpec : ChangeSpec := { name := "arcOwner", fn := fun _ => fun
  | [d1, d2] => { results := [.lit (.bool true)], args := [d1, d2] }
  | _ => none }
def arcOwnerRow : OpenClaim := { program := "ytfbkhendpbhfcaadoor", sum := "9da52ac9307db32d779c4e67f14bfb307cc3aa139874b47bc86305ac09919256", func := "garland/garlandlaw03.ArcOwner", spec := "arcOwner", unfollowed := true, recurses := true, named := ["garland/arc.starts"], apart := false, laid := [("garland/arc.starts", laid_garland_arc_starts)] }
def ArcOwnerSaid : Prop := arcOwnerRow.holds Tryd.pinned (OpenSpec.ofChange arcOwnerSpec)

/-- ITS FALSE NEIGHBOUR: 'it returns false'. Refute it at one input. -/
def arcOwnerWrong : ChangeSpec := { name := "arcOwner", fn := fun _ => fun
  | [d1, d2] => { results := [.lit (.bool false)], args := [d1, d2] }
  | _ => none }
def ArcOwnerWrongFalsely : Prop := arcOwnerRow.holds Tryd.pinned (OpenSpec.ofChange arcOwnerWrong)

/-- 'garlandlaw03.ArcStarts': WHATEVER THE INPUT: true; the input reads as it did. -/
def arcStartsSpec : ChangeSpec := { name := "arcStarts", fn := fun _ => fun
  | [d1, d2, d3, d4] => { results := [.lit (.bool true)], args := [d1, d2, d3, d4] }
  | _ => none }
def arcStartsRow : OpenClaim := { program := "ytfbkhendpbhfcaadoor", sum := "9da52ac9307db32d779c4e67f14bfb307cc3aa139874b47bc86305ac09919256", func := "garland/garlandlaw03.ArcStarts", spec := "arcStarts", unfollowed := true, recurses := true, named := ["garland/arc.starts"], apart := false, laid := [("garland/arc.starts", laid_garland_arc_starts)] }
def ArcStartsSaid : Prop := arcStartsRow.holds Tryd.pinned (OpenSpec.ofChange arcStartsSpec)

/-- ITS FALSE NEIGHBOUR: 'it returns false'. Refute it at one input. -/
def arcStartsWrong : ChangeSpec := { name := "arcStarts", fn := fun _ => fun
  | [d1, d2, d3, d4] => { results := [.lit (.bool false)], args := [d1, d2, d3, d4] }
  | _ => none }
def ArcStartsWrongFalsely : Prop := arcStartsRow.holds Tryd.pinned (OpenSpec.ofChange arcStartsWrong)

/-- 'garlandlaw03.ArcRises': WHATEVER THE INPUT: true; the input reads as it did. -/
def arcRisesSpec : ChangeSpec := { name := "arcRises", fn := fun _ => fun
  | [d1, d2] => { results := [.lit (.bool true)], args := [d1, d2] }
  | _ => none }
def arcRisesRow : OpenClaim := { program := "ytfbkhendpbhfcaadoor", sum := "9da52ac9307db32d779c4e67f14bfb307cc3aa139874b47bc86305ac09919256", func := "garland/garlandlaw03.ArcRises", spec := "arcRises", unfollowed := true, recurses := true, named := ["garland/arc.starts"], apart := false, laid := [("garland/arc.starts", laid_garland_arc_starts)] }
def ArcRisesSaid : Prop := arcRisesRow.holds Tryd.pinned (OpenSpec.ofChange arcRisesSpec)

/-- ITS FALSE NEIGHBOUR: 'it returns false'. Refute it at one input. -/
def arcRisesWrong : ChangeSpec := { name := "arcRises", fn := fun _ => fun
  | [d1, d2] => { results := [.lit (.bool false)], args := [d1, d2] }
  | _ => none }
def ArcRisesWrongFalsely : Prop := arcRisesRow.holds Tryd.pinned (OpenSpec.ofChange arcRisesWrong)

/-- 'garlandlaw03.ArcShares': WHATEVER THE INPUT: true; the input reads as it did. -/
def arcSharesSpec : ChangeSpec := { name := "arcShares", fn := fun _ => fun
  | [d1, d2] => { results := [.lit (.bool true)], args := [d1, d2] }
  | _ => none }
def arcSharesRow : OpenClaim := { program := "ytfbkhendpbhfcaadoor", sum := "9da52ac9307db32d779c4e67f14bfb307cc3aa139874b47bc86305ac09919256", func := "garland/garlandlaw03.ArcShares", spec := "arcShares", unfollowed := true, recurses := true, named := ["garland/arc.starts"], apart := false, laid := [("garland/arc.starts", laid_garland_arc_starts)] }
def ArcSharesSaid : Prop := arcSharesRow.holds Tryd.pinned (OpenSpec.ofChange arcSharesSpec)

/-- ITS FALSE NEIGHBOUR: 'it returns false'. Refute it at one input. -/
def arcSharesWrong : ChangeSpec := { name := "arcShares", fn := fun _ => fun
  | [d1, d2] => { results := [.lit (.bool false)], args := [d1, d2] }
  | _ => none }
def ArcSharesWrongFalsely : Prop := arcSharesRow.holds Tryd.pinned (OpenSpec.ofChange arcSharesWrong)

/- THE SECOND FORM. 'bulk': how many values and letters a reading holds, each counted each time it is reached (what is shared counts as often as it is met; a slice's spare places count too). A statement '..UptoSaid' is the law's where the arguments, and the package variables that the reading takes, are together of bulk at most 1048576: NARROWER than '..Said'. Prove '..Said' where nothing that the law and all that it calls make is longer than what came in: it says more and counts as full. Else prove '..UptoSaid'. A law counts once. -/
mutual
def uptoBulk {H : Type} : DataW H → Nat
  | .lit (.string bytes) => bytes.length + 1
  | .lit _ => 1
  | .nil => 1
  | .ptr d => uptoBulk d + 1
  | .slice elems spare => uptoBulkAll elems + uptoBulkAll spare + 1
  | .agg parts => uptoBulkAll parts + 1
  | .iface _ d => uptoBulk d + 1
  | .map entries => uptoBulkEntries entries + 1
  | .held _ => 1
def uptoBulkAll {H : Type} : List (DataW H) → Nat
  | [] => 0
  | d :: r => uptoBulk d + uptoBulkAll r
def uptoBulkEntries {H : Type} : List (Lit × DataW H) → Nat
  | [] => 0
  | x :: r => uptoBulkEntry x + uptoBulkEntries r
def uptoBulkEntry {H : Type} : Lit × DataW H → Nat
  | (.string bytes, d) => bytes.length + uptoBulk d + 1
  | (_, d) => uptoBulk d + 1
 end
def uptoSmall : (H : Type) → List (DataW H) → Bool := fun _ ds => decide (uptoBulkAll ds ≤ 1048576)
def OpenSpec.upto (s : _root_.Go.ChangeSpec) : _root_.Go.OpenSpec := { _root_.Go.OpenSpec.ofChange s with cond := some uptoSmall }

/-- 'garlandlaw03.ArcTells', WHERE WHAT IT READS IS OF BULK AT MOST 1048576: true; the input reads as it did. -/
def arcTellsUptoRow : OpenClaim := { program := "ytfbkhendpbhfcaadoor", sum := "9da52ac9307db32d779c4e67f14bfb307cc3aa139874b47bc86305ac09919256", func := "garland/garlandlaw03.ArcTells", spec := "arcTells", unfollowed := true, recurses := true, named := ["garland/arc.starts"], apart := false, laid := [("garland/arc.starts", laid_garland_arc_starts)], narrowed := true }
def ArcTellsUptoSaid : Prop := arcTellsUptoRow.holds Tryd.pinned (OpenSpec.upto arcTellsSpec)

/-- 'garlandlaw03.ArcRound', WHERE WHAT IT READS IS OF BULK AT MOST 1048576: true; the input reads as it did. -/
def arcRoundUptoRow : OpenClaim := { program := "ytfbkhendpbhfcaadoor", sum := "9da52ac9307db32d779c4e67f14bfb307cc3aa139874b47bc86305ac09919256", func := "garland/garlandlaw03.ArcRound", spec := "arcRound", unfollowed := true, recurses := true, named := ["garland/arc.starts"], apart := false, laid := [("garland/arc.starts", laid_garland_arc_starts)], narrowed := true }
def ArcRoundUptoSaid : Prop := arcRoundUptoRow.holds Tryd.pinned (OpenSpec.upto arcRoundSpec)

/-- 'garlandlaw03.ArcOwner', WHERE WHAT IT READS IS OF BULK AT MOST 1048576: true; the input reads as it did. -/
def arcOwnerUptoRow : OpenClaim := { program := "ytfbkhendpbhfcaadoor", sum := "9da52ac9307db32d779c4e67f14bfb307cc3aa139874b47bc86305ac09919256", func := "garland/garlandlaw03.ArcOwner", spec := "arcOwner", unfollowed := true, recurses := true, named := ["garland/arc.starts"], apart := false, laid := [("garland/arc.starts", laid_garland_arc_starts)], narrowed := true }
def ArcOwnerUptoSaid : Prop := arcOwnerUptoRow.holds Tryd.pinned (OpenSpec.upto arcOwnerSpec)

/-- 'garlandlaw03.ArcStarts', WHERE WHAT IT READS IS OF BULK AT MOST 1048576: true; the input reads as it did. -/
def arcStartsUptoRow : OpenClaim := { program := "ytfbkhendpbhfcaadoor", sum := "9da52ac9307db32d779c4e67f14bfb307cc3aa139874b47bc86305ac09919256", func := "garland/garlandlaw03.ArcStarts", spec := "arcStarts", unfollowed := true, recurses := true, named := ["garland/arc.starts"], apart := false, laid := [("garland/arc.starts", laid_garland_arc_starts)], narrowed := true }
def ArcStartsUptoSaid : Prop := arcStartsUptoRow.holds Tryd.pinned (OpenSpec.upto arcStartsSpec)

/-- 'garlandlaw03.ArcRises', WHERE WHAT IT READS IS OF BULK AT MOST 1048576: true; the input reads as it did. -/
def arcRisesUptoRow : OpenClaim := { program := "ytfbkhendpbhfcaadoor", sum := "9da52ac9307db32d779c4e67f14bfb307cc3aa139874b47bc86305ac09919256", func := "garland/garlandlaw03.ArcRises", spec := "arcRises", unfollowed := true, recurses := true, named := ["garland/arc.starts"], apart := false, laid := [("garland/arc.starts", laid_garland_arc_starts)], narrowed := true }
def ArcRisesUptoSaid : Prop := arcRisesUptoRow.holds Tryd.pinned (OpenSpec.upto arcRisesSpec)

/-- 'garlandlaw03.ArcShares', WHERE WHAT IT READS IS OF BULK AT MOST 1048576: true; the input reads as it did. -/
def arcSharesUptoRow : OpenClaim := { program := "ytfbkhendpbhfcaadoor", sum := "9da52ac9307db32d779c4e67f14bfb307cc3aa139874b47bc86305ac09919256", func := "garland/garlandlaw03.ArcShares", spec := "arcShares", unfollowed := true, recurses := true, named := ["garland/arc.starts"], apart := false, laid := [("garland/arc.starts", laid_garland_arc_starts)], narrowed := true }
def ArcSharesUptoSaid : Prop := arcSharesUptoRow.holds Tryd.pinned (OpenSpec.upto arcSharesSpec)

end Rows
end Go.Proofs.YtfbkhendpbhfcaaDoor
