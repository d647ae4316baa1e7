/-
  No cell of these rows narrows 'for every input' (looked for: loops, veiled, ifaces, maps, wideKeys, modest, calm, conditions, laid).
  DERIVED. THE GIVEN ROWS OF THIS SEAT. 5 by the template 'for every input the law returns true; each argument reads behind the call as it read before'; 0 by the template 'total and deterministic' (their statements: YtganhbebklmdnaaTotals.lean).
  GIVEN WITH THE SEED: the statements are not yours to turn. If you find one false, say at which input.
  Laid BY PROGRAM, IN A SANDBOX (cutbox-rows.mjs): the forced cells as the released guide's own fill.sh prints them over the translation 1793f104b35fbc40… (all of the seat's roots in one cut). By AI agents, Wed Nov 11 2026. No macro, syntax, notation, axiom, sorry.
-/
import Derived.Test.YtganhbebklmdnaaChecked
import GoSem.Claim
import GoSem.ClaimJoined
import GoSem.ClaimMapViews
import Derived.JoinedTies
import Derived.KernelRfl
namespace Go.Proofs.Ytganhbebklmdnaa
/- THE CELL 'sum', in the pinned program and in every row, IS THE sha256 OF THE DUMP (.gsa) THAT YtganhbebklmdnaaProg.lean LOADS. Nothing in Lean hashes anything: it is a label: what it is worth is what the hold of that sum in a sandbox is worth. -/
noncomputable def Try.pinned : Pinned := { name := "ytganhbebklmdnaa", sum := "1793f104b35fbc40cf76c287f801f67804c70a9ff8ad4cd37b70d736d54489d4", checked := Try.checked }
namespace Rows
def none {H : Type} : Left H := { results := [], args := [] }

/-- 'garlandlaw04.MixTells': WHATEVER THE INPUT: true; the input reads as it did. -/
def mixTellsSpec : ChangeSpec := { name := "mixTells", fn := fun _ => fun
  | [d1, d2, d3, d4] => { results := [.lit (.bool true)], args := [d1, d2, d3, d4] }
  | _ => none }
def mixTellsRow : OpenClaim := { program := "ytganhbebklmdnaa", sum := "1793f104b35fbc40cf76c287f801f67804c70a9ff8ad4cd37b70d736d54489d4", func := "garland/garlandlaw04.MixTells", spec := "mixTells", unfollowed := true, recurses := true, apart := false }
def MixTellsSaid : Prop := mixTellsRow.holds Try.pinned (OpenSpec.ofChange mixTellsSpec)

/-- ITS FALSE NEIGHBOUR: 'it returns false'. Refute it at one input. -/
def mixTellsWrong : ChangeSpec := { name := "mixTells", fn := fun _ => fun
  | [d1, d2, d3, d4] => { results := [.lit (.bool false)], args := [d1, d2, d3, d4] }
  | _ => none }
def MixTellsWrongFalsely : Prop := mixTellsRow.holds Try.pinned (OpenSpec.ofChange mixTellsWrong)

/-- 'garlandlaw04.MixBack': WHATEVER THE INPUT: true; the input reads as it did. -/
def mixBackSpec : ChangeSpec := { name := "mixBack", fn := fun _ => fun
  | [d1, d2] => { results := [.lit (.bool true)], args := [d1, d2] }
  | _ => none }
def mixBackRow : OpenClaim := { program := "ytganhbebklmdnaa", sum := "1793f104b35fbc40cf76c287f801f67804c70a9ff8ad4cd37b70d736d54489d4", func := "garland/garlandlaw04.MixBack", spec := "mixBack", unfollowed := true, recurses := true, apart := false }
def MixBackSaid : Prop := mixBackRow.holds Try.pinned (OpenSpec.ofChange mixBackSpec)

/-- ITS FALSE NEIGHBOUR: 'it returns false'. Refute it at one input. -/
def mixBackWrong : ChangeSpec := { name := "mixBack", fn := fun _ => fun
  | [d1, d2] => { results := [.lit (.bool false)], args := [d1, d2] }
  | _ => none }
def MixBackWrongFalsely : Prop := mixBackRow.holds Try.pinned (OpenSpec.ofChange mixBackWrong)

/-- 'garlandlaw04.MixOne': WHATEVER THE INPUT: true; the input reads as it did. -/
def mixOneSpec : ChangeSpec := { name := "mixOne", fn := fun _ => fun
  | [d1, d2, d3, d4, d5] => { results := [.lit (.bool true)], args := [d1, d2, d3, d4, d5] }
  | _ => none }
def mixOneRow : OpenClaim := { program := "ytganhbebklmdnaa", sum := "1793f104b35fbc40cf76c287f801f67804c70a9ff8ad4cd37b70d736d54489d4", func := "garland/garlandlaw04.MixOne", spec := "mixOne", unfollowed := true, recurses := true, apart := false }
def MixOneSaid : Prop := mixOneRow.holds Try.pinned (OpenSpec.ofChange mixOneSpec)

/-- ITS FALSE NEIGHBOUR: 'it returns false'. Refute it at one input. -/
def mixOneWrong : ChangeSpec := { name := "mixOne", fn := fun _ => fun
  | [d1, d2, d3, d4, d5] => { results := [.lit (.bool false)], args := [d1, d2, d3, d4, d5] }
  | _ => none }
def MixOneWrongFalsely : Prop := mixOneRow.holds Try.pinned (OpenSpec.ofChange mixOneWrong)

/-- 'garlandlaw04.MixParts': WHATEVER THE INPUT: true; the input reads as it did. -/
def mixPartsSpec : ChangeSpec := { name := "mixParts", fn := fun _ => fun
  | [d1, d2, d3] => { results := [.lit (.bool true)], args := [d1, d2, d3] }
  | _ => none }
def mixPartsRow : OpenClaim := { program := "ytganhbebklmdnaa", sum := "1793f104b35fbc40cf76c287f801f67804c70a9ff8ad4cd37b70d736d54489d4", func := "garland/garlandlaw04.MixParts", spec := "mixParts", unfollowed := true, recurses := true, apart := false }
def MixPartsSaid : Prop := mixPartsRow.holds Try.pinned (OpenSpec.ofChange mixPartsSpec)

/-- ITS FALSE NEIGHBOUR: 'it returns false'. Refute it at one input. -/
def mixPartsWrong : ChangeSpec := { name := "mixParts", fn := fun _ => fun
  | [d1, d2, d3] => { results := [.lit (.bool false)], args := [d1, d2, d3] }
  | _ => none }
def MixPartsWrongFalsely : Prop := mixPartsRow.holds Try.pinned (OpenSpec.ofChange mixPartsWrong)

/-- 'garlandlaw04.MixBeside': WHATEVER THE INPUT: true; the input reads as it did. -/
def mixBesideSpec : ChangeSpec := { name := "mixBeside", fn := fun _ => fun
  | [d1, d2, d3] => { results := [.lit (.bool true)], args := [d1, d2, d3] }
  | _ => none }
def mixBesideRow : OpenClaim := { program := "ytganhbebklmdnaa", sum := "1793f104b35fbc40cf76c287f801f67804c70a9ff8ad4cd37b70d736d54489d4", func := "garland/garlandlaw04.MixBeside", spec := "mixBeside", unfollowed := true, recurses := true, apart := false }
def MixBesideSaid : Prop := mixBesideRow.holds Try.pinned (OpenSpec.ofChange mixBesideSpec)

/-- ITS FALSE NEIGHBOUR: 'it returns false'. Refute it at one input. -/
def mixBesideWrong : ChangeSpec := { name := "mixBeside", fn := fun _ => fun
  | [d1, d2, d3] => { results := [.lit (.bool false)], args := [d1, d2, d3] }
  | _ => none }
def MixBesideWrongFalsely : Prop := mixBesideRow.holds Try.pinned (OpenSpec.ofChange mixBesideWrong)

/- THE SECOND FORM. 'bulk': how many values and letters a reading holds, each counted each time it is reached (what is shared counts as often as it is met; a slice's spare places count too). A statement '..UptoSaid' is the law's where the arguments, and the package variables that the reading takes, are together of bulk at most 1048576: NARROWER than '..Said'. Prove '..Said' where nothing that the law and all that it calls make is longer than what came in: it says more and counts as full. Else prove '..UptoSaid'. A law counts once. -/
mutual
def uptoBulk {H : Type} : DataW H → Nat
  | .lit (.string bytes) => bytes.length + 1
  | .lit _ => 1
  | .nil => 1
  | .ptr d => uptoBulk d + 1
  | .slice elems spare => uptoBulkAll elems + uptoBulkAll spare + 1
  | .agg parts => uptoBulkAll parts + 1
  | .iface _ d => uptoBulk d + 1
  | .map entries => uptoBulkEntries entries + 1
  | .held _ => 1
def uptoBulkAll {H : Type} : List (DataW H) → Nat
  | [] => 0
  | d :: r => uptoBulk d + uptoBulkAll r
def uptoBulkEntries {H : Type} : List (Lit × DataW H) → Nat
  | [] => 0
  | x :: r => uptoBulkEntry x + uptoBulkEntries r
def uptoBulkEntry {H : Type} : Lit × DataW H → Nat
  | (.string bytes, d) => bytes.length + uptoBulk d + 1
  | (_, d) => uptoBulk d + 1
 end
def uptoSmall : (H : Type) → List (DataW H) → Bool := fun _ ds => decide (uptoBulkAll ds ≤ 1048576)
def OpenSpec.upto (s : _root_.Go.ChangeSpec) : _root_.Go.OpenSpec := { _root_.Go.OpenSpec.ofChange s with cond := some uptoSmall }

/-- 'garlandlaw04.MixTells', WHERE WHAT IT READS IS OF BULK AT MOST 1048576: true; the input reads as it did. -/
def mixTellsUptoRow : OpenClaim := { program := "ytganhbebklmdnaa", sum := "1793f104b35fbc40cf76c287f801f67804c70a9ff8ad4cd37b70d736d54489d4", func := "garland/garlandlaw04.MixTells", spec := "mixTells", unfollowed := true, recurses := true, apart := false, narrowed := true }
def MixTellsUptoSaid : Prop := mixTellsUptoRow.holds Try.pinned (OpenSpec.upto mixTellsSpec)

/-- 'garlandlaw04.MixBack', WHERE WHAT IT READS IS OF BULK AT MOST 1048576: true; the input reads as it did. -/
def mixBackUptoRow : OpenClaim := { program := "ytganhbebklmdnaa", sum := "1793f104b35fbc40cf76c287f801f67804c70a9ff8ad4cd37b70d736d54489d4", func := "garland/garlandlaw04.MixBack", spec := "mixBack", unfollowed := true, recurses := true, apart := false, narrowed := true }
def MixBackUptoSaid : Prop := mixBackUptoRow.holds Try.pinned (OpenSpec.upto mixBackSpec)

/-- 'garlandlaw04.MixOne', WHERE WHAT IT READS IS OF BULK AT MOST 1048576: true; the input reads as it did. -/
def mixOneUptoRow : OpenClaim := { program := "ytganhbebklmdnaa", sum := "1793f104b35fbc40cf76c287f801f67804c70a9ff8ad4cd37b70d736d54489d4", func := "garland/garlandlaw04.MixOne", spec := "mixOne", unfollowed := true, recurses := true, apart := false, narrowed := true }
def MixOneUptoSaid : Prop := mixOneUptoRow.holds Try.pinned (OpenSpec.upto mixOneSpec)

/-- 'garlandlaw04.MixParts', WHERE WHAT IT READS IS OF BULK AT MOST 1048576: true; the input reads as it did. -/
def mixPartsUptoRow : OpenClaim := { program := "ytganhbebklmdnaa", sum := "1793f104b35fbc40cf76c287f801f67804c70a9ff8ad4cd37b70d736d54489d4", func := "garland/garlandlaw04.MixParts", spec := "mixParts", unfollowed := true, recurses := true, apart := false, narrowed := true }
def MixPartsUptoSaid : Prop := mixPartsUptoRow.holds Try.pinned (OpenSpec.upto mixPartsSpec)

/-- 'garlandlaw04.MixBeside', WHERE WHAT IT READS IS OF BULK AT MOST 1048576: true; the input reads as it did. -/
def mixBesideUptoRow : OpenClaim := { program := "ytganhbebklmdnaa", sum := "1793f104b35fbc40cf76c287f801f67804c70a9ff8ad4cd37b70d736d54489d4", func := "garland/garlandlaw04.MixBeside", spec := "mixBeside", unfollowed := true, recurses := true, apart := false, narrowed := true }
def MixBesideUptoSaid : Prop := mixBesideUptoRow.holds Try.pinned (OpenSpec.upto mixBesideSpec)

end Rows
end Go.Proofs.Ytganhbebklmdnaa
