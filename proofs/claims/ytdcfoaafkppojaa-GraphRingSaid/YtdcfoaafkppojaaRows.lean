/-
  No cell of these rows narrows 'for every input' (looked for: loops, veiled, ifaces, maps, wideKeys, modest, calm, conditions, laid).
  DERIVED. THE GIVEN ROWS OF THIS SEAT. 13 by the template 'for every input the law returns true; each argument reads behind the call as it read before'; 0 by the template 'total and deterministic' (their statements: YtdcfoaafkppojaaTotals.lean).
  GIVEN WITH THE SEED: the statements are not yours to turn. If you find one false, say at which input.
  Laid BY PROGRAM, IN A SANDBOX (cutbox-rows.mjs): the forced cells as the released guide's own fill.sh prints them over the translation 110d441357eb5422… (all of the seat's roots in one cut). By AI agents, Wed Nov 11 2026. No macro, syntax, notation, axiom, sorry.
-/
import Derived.Test.YtdcfoaafkppojaaChecked
import GoSem.Claim
import GoSem.ClaimJoined
import GoSem.ClaimMapViews
import Derived.JoinedTies
import Derived.KernelRfl
namespace Go.Proofs.Ytdcfoaafkppojaa
/- THE CELL 'sum', in the pinned program and in every row, IS THE sha256 OF THE DUMP (.gsa) THAT YtdcfoaafkppojaaProg.lean LOADS. Nothing in Lean hashes anything: it is a label: what it is worth is what the hold of that sum in a sandbox is worth. -/
noncomputable def Try.pinned : Pinned := { name := "ytdcfoaafkppojaa", sum := "110d441357eb54224f7572533d93fd715ca9accdfeeba0a78d481857f818e353", checked := Try.checked }
namespace Rows
def none {H : Type} : Left H := { results := [], args := [] }

/-- 'handsellaw06.WhenAll': WHATEVER THE INPUT: true; the input reads as it did. -/
def whenAllSpec : ChangeSpec := { name := "whenAll", fn := fun _ => fun
  | [d1, d2] => { results := [.lit (.bool true)], args := [d1, d2] }
  | _ => none }
def whenAllRow : OpenClaim := { program := "ytdcfoaafkppojaa", sum := "110d441357eb54224f7572533d93fd715ca9accdfeeba0a78d481857f818e353", func := "handsel/handsellaw06.WhenAll", spec := "whenAll", unfollowed := true, recurses := true, plainKeys := false, apart := false }
def WhenAllSaid : Prop := whenAllRow.holds Try.pinned (OpenSpec.ofChange whenAllSpec)

/-- ITS FALSE NEIGHBOUR: 'it returns false'. Refute it at one input. -/
def whenAllWrong : ChangeSpec := { name := "whenAll", fn := fun _ => fun
  | [d1, d2] => { results := [.lit (.bool false)], args := [d1, d2] }
  | _ => none }
def WhenAllWrongFalsely : Prop := whenAllRow.holds Try.pinned (OpenSpec.ofChange whenAllWrong)

/-- 'handsellaw06.WhenSteps': WHATEVER THE INPUT: true; the input reads as it did. -/
def whenStepsSpec : ChangeSpec := { name := "whenSteps", fn := fun _ => fun
  | [d1, d2, d3] => { results := [.lit (.bool true)], args := [d1, d2, d3] }
  | _ => none }
def whenStepsRow : OpenClaim := { program := "ytdcfoaafkppojaa", sum := "110d441357eb54224f7572533d93fd715ca9accdfeeba0a78d481857f818e353", func := "handsel/handsellaw06.WhenSteps", spec := "whenSteps", unfollowed := true, recurses := true, plainKeys := false, apart := false }
def WhenStepsSaid : Prop := whenStepsRow.holds Try.pinned (OpenSpec.ofChange whenStepsSpec)

/-- ITS FALSE NEIGHBOUR: 'it returns false'. Refute it at one input. -/
def whenStepsWrong : ChangeSpec := { name := "whenSteps", fn := fun _ => fun
  | [d1, d2, d3] => { results := [.lit (.bool false)], args := [d1, d2, d3] }
  | _ => none }
def WhenStepsWrongFalsely : Prop := whenStepsRow.holds Try.pinned (OpenSpec.ofChange whenStepsWrong)

/-- 'handsellaw06.WhenNone': WHATEVER THE INPUT: true; the input reads as it did. -/
def whenNoneSpec : ChangeSpec := { name := "whenNone", fn := fun _ => fun
  | [d1, d2, d3] => { results := [.lit (.bool true)], args := [d1, d2, d3] }
  | _ => none }
def whenNoneRow : OpenClaim := { program := "ytdcfoaafkppojaa", sum := "110d441357eb54224f7572533d93fd715ca9accdfeeba0a78d481857f818e353", func := "handsel/handsellaw06.WhenNone", spec := "whenNone", unfollowed := true, recurses := true, plainKeys := false, apart := false }
def WhenNoneSaid : Prop := whenNoneRow.holds Try.pinned (OpenSpec.ofChange whenNoneSpec)

/-- ITS FALSE NEIGHBOUR: 'it returns false'. Refute it at one input. -/
def whenNoneWrong : ChangeSpec := { name := "whenNone", fn := fun _ => fun
  | [d1, d2, d3] => { results := [.lit (.bool false)], args := [d1, d2, d3] }
  | _ => none }
def WhenNoneWrongFalsely : Prop := whenNoneRow.holds Try.pinned (OpenSpec.ofChange whenNoneWrong)

/-- 'handsellaw05.GraphAll': WHATEVER THE INPUT: true; the input reads as it did. -/
def graphAllSpec : ChangeSpec := { name := "graphAll", fn := fun _ => fun
  | [d1, d2, d3] => { results := [.lit (.bool true)], args := [d1, d2, d3] }
  | _ => none }
def graphAllRow : OpenClaim := { program := "ytdcfoaafkppojaa", sum := "110d441357eb54224f7572533d93fd715ca9accdfeeba0a78d481857f818e353", func := "handsel/handsellaw05.GraphAll", spec := "graphAll", unfollowed := true, recurses := true, plainKeys := false, apart := false }
def GraphAllSaid : Prop := graphAllRow.holds Try.pinned (OpenSpec.ofChange graphAllSpec)

/-- ITS FALSE NEIGHBOUR: 'it returns false'. Refute it at one input. -/
def graphAllWrong : ChangeSpec := { name := "graphAll", fn := fun _ => fun
  | [d1, d2, d3] => { results := [.lit (.bool false)], args := [d1, d2, d3] }
  | _ => none }
def GraphAllWrongFalsely : Prop := graphAllRow.holds Try.pinned (OpenSpec.ofChange graphAllWrong)

/-- 'handsellaw05.GraphNumbers': WHATEVER THE INPUT: true; the input reads as it did. -/
def graphNumbersSpec : ChangeSpec := { name := "graphNumbers", fn := fun _ => fun
  | [d1, d2, d3] => { results := [.lit (.bool true)], args := [d1, d2, d3] }
  | _ => none }
def graphNumbersRow : OpenClaim := { program := "ytdcfoaafkppojaa", sum := "110d441357eb54224f7572533d93fd715ca9accdfeeba0a78d481857f818e353", func := "handsel/handsellaw05.GraphNumbers", spec := "graphNumbers", unfollowed := true, recurses := true, plainKeys := false, apart := false }
def GraphNumbersSaid : Prop := graphNumbersRow.holds Try.pinned (OpenSpec.ofChange graphNumbersSpec)

/-- ITS FALSE NEIGHBOUR: 'it returns false'. Refute it at one input. -/
def graphNumbersWrong : ChangeSpec := { name := "graphNumbers", fn := fun _ => fun
  | [d1, d2, d3] => { results := [.lit (.bool false)], args := [d1, d2, d3] }
  | _ => none }
def GraphNumbersWrongFalsely : Prop := graphNumbersRow.holds Try.pinned (OpenSpec.ofChange graphNumbersWrong)

/-- 'handsellaw05.GraphRing': WHATEVER THE INPUT: true; the input reads as it did. -/
def graphRingSpec : ChangeSpec := { name := "graphRing", fn := fun _ => fun
  | [d1, d2, d3] => { results := [.lit (.bool true)], args := [d1, d2, d3] }
  | _ => none }
def graphRingRow : OpenClaim := { program := "ytdcfoaafkppojaa", sum := "110d441357eb54224f7572533d93fd715ca9accdfeeba0a78d481857f818e353", func := "handsel/handsellaw05.GraphRing", spec := "graphRing", unfollowed := true, recurses := true, plainKeys := false, apart := false }
def GraphRingSaid : Prop := graphRingRow.holds Try.pinned (OpenSpec.ofChange graphRingSpec)

/-- ITS FALSE NEIGHBOUR: 'it returns false'. Refute it at one input. -/
def graphRingWrong : ChangeSpec := { name := "graphRing", fn := fun _ => fun
  | [d1, d2, d3] => { results := [.lit (.bool false)], args := [d1, d2, d3] }
  | _ => none }
def GraphRingWrongFalsely : Prop := graphRingRow.holds Try.pinned (OpenSpec.ofChange graphRingWrong)

/-- 'handsellaw05.GraphFull': WHATEVER THE INPUT: true; the input reads as it did. -/
def graphFullSpec : ChangeSpec := { name := "graphFull", fn := fun _ => fun
  | [d1, d2] => { results := [.lit (.bool true)], args := [d1, d2] }
  | _ => none }
def graphFullRow : OpenClaim := { program := "ytdcfoaafkppojaa", sum := "110d441357eb54224f7572533d93fd715ca9accdfeeba0a78d481857f818e353", func := "handsel/handsellaw05.GraphFull", spec := "graphFull", unfollowed := true, recurses := true, plainKeys := false, apart := false }
def GraphFullSaid : Prop := graphFullRow.holds Try.pinned (OpenSpec.ofChange graphFullSpec)

/-- ITS FALSE NEIGHBOUR: 'it returns false'. Refute it at one input. -/
def graphFullWrong : ChangeSpec := { name := "graphFull", fn := fun _ => fun
  | [d1, d2] => { results := [.lit (.bool false)], args := [d1, d2] }
  | _ => none }
def GraphFullWrongFalsely : Prop := graphFullRow.holds Try.pinned (OpenSpec.ofChange graphFullWrong)

/-- 'handsellaw05.GraphApart': WHATEVER THE INPUT: true; the input reads as it did. -/
def graphApartSpec : ChangeSpec := { name := "graphApart", fn := fun _ => fun
  | [d] => { results := [.lit (.bool true)], args := [d] }
  | _ => none }
def graphApartRow : OpenClaim := { program := "ytdcfoaafkppojaa", sum := "110d441357eb54224f7572533d93fd715ca9accdfeeba0a78d481857f818e353", func := "handsel/handsellaw05.GraphApart", spec := "graphApart", unfollowed := true, recurses := true, plainKeys := false, apart := false }
def GraphApartSaid : Prop := graphApartRow.holds Try.pinned (OpenSpec.ofChange graphApartSpec)

/-- ITS FALSE NEIGHBOUR: 'it returns false'. Refute it at one input. -/
def graphApartWrong : ChangeSpec := { name := "graphApart", fn := fun _ => fun
  | [d] => { results := [.lit (.bool false)], args := [d] }
  | _ => none }
def GraphApartWrongFalsely : Prop := graphApartRow.holds Try.pinned (OpenSpec.ofChange graphApartWrong)

/-- 'handsellaw04.SpecAll': WHATEVER THE INPUT: true; the input reads as it did. -/
def specAllSpec : ChangeSpec := { name := "specAll", fn := fun _ => fun
  | [d1, d2, d3] => { results := [.lit (.bool true)], args := [d1, d2, d3] }
  | _ => none }
def specAllRow : OpenClaim := { program := "ytdcfoaafkppojaa", sum := "110d441357eb54224f7572533d93fd715ca9accdfeeba0a78d481857f818e353", func := "handsel/handsellaw04.SpecAll", spec := "specAll", inPlace := ["internal/abi.NoEscape"], unfollowed := true, recurses := true, plainKeys := false, apart := false }
def SpecAllSaid : Prop := specAllRow.holds Try.pinned (OpenSpec.ofChange specAllSpec)

/-- ITS FALSE NEIGHBOUR: 'it returns false'. Refute it at one input. -/
def specAllWrong : ChangeSpec := { name := "specAll", fn := fun _ => fun
  | [d1, d2, d3] => { results := [.lit (.bool false)], args := [d1, d2, d3] }
  | _ => none }
def SpecAllWrongFalsely : Prop := specAllRow.holds Try.pinned (OpenSpec.ofChange specAllWrong)

/-- 'handsellaw04.SpecBack': WHATEVER THE INPUT: true; the input reads as it did. -/
def specBackSpec : ChangeSpec := { name := "specBack", fn := fun _ => fun
  | [d1, d2, d3] => { results := [.lit (.bool true)], args := [d1, d2, d3] }
  | _ => none }
def specBackRow : OpenClaim := { program := "ytdcfoaafkppojaa", sum := "110d441357eb54224f7572533d93fd715ca9accdfeeba0a78d481857f818e353", func := "handsel/handsellaw04.SpecBack", spec := "specBack", inPlace := ["internal/abi.NoEscape"], unfollowed := true, recurses := true, plainKeys := false, apart := false }
def SpecBackSaid : Prop := specBackRow.holds Try.pinned (OpenSpec.ofChange specBackSpec)

/-- ITS FALSE NEIGHBOUR: 'it returns false'. Refute it at one input. -/
def specBackWrong : ChangeSpec := { name := "specBack", fn := fun _ => fun
  | [d1, d2, d3] => { results := [.lit (.bool false)], args := [d1, d2, d3] }
  | _ => none }
def SpecBackWrongFalsely : Prop := specBackRow.holds Try.pinned (OpenSpec.ofChange specBackWrong)

/-- 'handsellaw04.SpecWrong': WHATEVER THE INPUT: true; the input reads as it did. -/
def specWrongSpec : ChangeSpec := { name := "specWrong", fn := fun _ => fun
  | [d1, d2, d3] => { results := [.lit (.bool true)], args := [d1, d2, d3] }
  | _ => none }
def specWrongRow : OpenClaim := { program := "ytdcfoaafkppojaa", sum := "110d441357eb54224f7572533d93fd715ca9accdfeeba0a78d481857f818e353", func := "handsel/handsellaw04.SpecWrong", spec := "specWrong", inPlace := ["internal/abi.NoEscape"], unfollowed := true, recurses := true, plainKeys := false, apart := false }
def SpecWrongSaid : Prop := specWrongRow.holds Try.pinned (OpenSpec.ofChange specWrongSpec)

/-- ITS FALSE NEIGHBOUR: 'it returns false'. Refute it at one input. -/
def specWrongWrong : ChangeSpec := { name := "specWrong", fn := fun _ => fun
  | [d1, d2, d3] => { results := [.lit (.bool false)], args := [d1, d2, d3] }
  | _ => none }
def SpecWrongWrongFalsely : Prop := specWrongRow.holds Try.pinned (OpenSpec.ofChange specWrongWrong)

/-- 'handsellaw04.SpecSame': WHATEVER THE INPUT: true; the input reads as it did. -/
def specSameSpec : ChangeSpec := { name := "specSame", fn := fun _ => fun
  | [d1, d2] => { results := [.lit (.bool true)], args := [d1, d2] }
  | _ => none }
def specSameRow : OpenClaim := { program := "ytdcfoaafkppojaa", sum := "110d441357eb54224f7572533d93fd715ca9accdfeeba0a78d481857f818e353", func := "handsel/handsellaw04.SpecSame", spec := "specSame", inPlace := ["internal/abi.NoEscape"], unfollowed := true, recurses := true, plainKeys := false, apart := false }
def SpecSameSaid : Prop := specSameRow.holds Try.pinned (OpenSpec.ofChange specSameSpec)

/-- ITS FALSE NEIGHBOUR: 'it returns false'. Refute it at one input. -/
def specSameWrong : ChangeSpec := { name := "specSame", fn := fun _ => fun
  | [d1, d2] => { results := [.lit (.bool false)], args := [d1, d2] }
  | _ => none }
def SpecSameWrongFalsely : Prop := specSameRow.holds Try.pinned (OpenSpec.ofChange specSameWrong)

/-- 'handsellaw04.SpecSizes': WHATEVER THE INPUT: true; the input reads as it did. -/
def specSizesSpec : ChangeSpec := { name := "specSizes", fn := fun _ => fun
  | [d1, d2, d3] => { results := [.lit (.bool true)], args := [d1, d2, d3] }
  | _ => none }
def specSizesRow : OpenClaim := { program := "ytdcfoaafkppojaa", sum := "110d441357eb54224f7572533d93fd715ca9accdfeeba0a78d481857f818e353", func := "handsel/handsellaw04.SpecSizes", spec := "specSizes", inPlace := ["internal/abi.NoEscape"], unfollowed := true, recurses := true, plainKeys := false, apart := false }
def SpecSizesSaid : Prop := specSizesRow.holds Try.pinned (OpenSpec.ofChange specSizesSpec)

/-- ITS FALSE NEIGHBOUR: 'it returns false'. Refute it at one input. -/
def specSizesWrong : ChangeSpec := { name := "specSizes", fn := fun _ => fun
  | [d1, d2, d3] => { results := [.lit (.bool false)], args := [d1, d2, d3] }
  | _ => none }
def SpecSizesWrongFalsely : Prop := specSizesRow.holds Try.pinned (OpenSpec.ofChange specSizesWrong)

/- THE SECOND FORM. 'bulk': how many values and letters a reading holds, each counted each time it is reached (what is shared counts as often as it is met; a slice's spare places count too). A statement '..UptoSaid' is the law's where the arguments, and the package variables that the reading takes, are together of bulk at most 1048576: NARROWER than '..Said'. Prove '..Said' where nothing that the law and all that it calls make is longer than what came in: it says more and counts as full. Else prove '..UptoSaid'. A law counts once. -/
mutual
def uptoBulk {H : Type} : DataW H → Nat
  | .lit (.string bytes) => bytes.length + 1
  | .lit _ => 1
  | .nil => 1
  | .ptr d => uptoBulk d + 1
  | .slice elems spare => uptoBulkAll elems + uptoBulkAll spare + 1
  | .agg parts => uptoBulkAll parts + 1
  | .iface _ d => uptoBulk d + 1
  | .map entries => uptoBulkEntries entries + 1
  | .held _ => 1
def uptoBulkAll {H : Type} : List (DataW H) → Nat
  | [] => 0
  | d :: r => uptoBulk d + uptoBulkAll r
def uptoBulkEntries {H : Type} : List (Lit × DataW H) → Nat
  | [] => 0
  | x :: r => uptoBulkEntry x + uptoBulkEntries r
def uptoBulkEntry {H : Type} : Lit × DataW H → Nat
  | (.string bytes, d) => bytes.length + uptoBulk d + 1
  | (_, d) => uptoBulk d + 1
 end
def uptoSmall : (H : Type) → List (DataW H) → Bool := fun _ ds => decide (uptoBulkAll ds ≤ 1048576)
def OpenSpec.upto (s : _root_.Go.ChangeSpec) : _root_.Go.OpenSpec := { _root_.Go.OpenSpec.ofChange s with cond := some uptoSmall }

/-- 'handsellaw06.WhenAll', WHERE WHAT IT READS IS OF BULK AT MOST 1048576: true; the input reads as it did. -/
def whenAllUptoRow : OpenClaim := { program := "ytdcfoaafkppojaa", sum := "110d441357eb54224f7572533d93fd715ca9accdfeeba0a78d481857f818e353", func := "handsel/handsellaw06.WhenAll", spec := "whenAll", unfollowed := true, recurses := true, plainKeys := false, apart := false, narrowed := true }
def WhenAllUptoSaid : Prop := whenAllUptoRow.holds Try.pinned (OpenSpec.upto whenAllSpec)

/-- 'handsellaw06.WhenSteps', WHERE WHAT IT READS IS OF BULK AT MOST 1048576: true; the input reads as it did. -/
def whenStepsUptoRow : OpenClaim := { program := "ytdcfoaafkppojaa", sum := "110d441357eb54224f7572533d93fd715ca9accdfeeba0a78d481857f818e353", func := "handsel/handsellaw06.WhenSteps", spec := "whenSteps", unfollowed := true, recurses := true, plainKeys := false, apart := false, narrowed := true }
def WhenStepsUptoSaid : Prop := whenStepsUptoRow.holds Try.pinned (OpenSpec.upto whenStepsSpec)

/-- 'handsellaw06.WhenNone', WHERE WHAT IT READS IS OF BULK AT MOST 1048576: true; the input reads as it did. -/
def whenNoneUptoRow : OpenClaim := { program := "ytdcfoaafkppojaa", sum := "110d441357eb54224f7572533d93fd715ca9accdfeeba0a78d481857f818e353", func := "handsel/handsellaw06.WhenNone", spec := "whenNone", unfollowed := true, recurses := true, plainKeys := false, apart := false, narrowed := true }
def WhenNoneUptoSaid : Prop := whenNoneUptoRow.holds Try.pinned (OpenSpec.upto whenNoneSpec)

/-- 'handsellaw05.GraphAll', WHERE WHAT IT READS IS OF BULK AT MOST 1048576: true; the input reads as it did. -/
def graphAllUptoRow : OpenClaim := { program := "ytdcfoaafkppojaa", sum := "110d441357eb54224f7572533d93fd715ca9accdfeeba0a78d481857f818e353", func := "handsel/handsellaw05.GraphAll", spec := "graphAll", unfollowed := true, recurses := true, plainKeys := false, apart := false, narrowed := true }
def GraphAllUptoSaid : Prop := graphAllUptoRow.holds Try.pinned (OpenSpec.upto graphAllSpec)

/-- 'handsellaw05.GraphNumbers', WHERE WHAT IT READS IS OF BULK AT MOST 1048576: true; the input reads as it did. -/
def graphNumbersUptoRow : OpenClaim := { program := "ytdcfoaafkppojaa", sum := "110d441357eb54224f7572533d93fd715ca9accdfeeba0a78d481857f818e353", func := "handsel/handsellaw05.GraphNumbers", spec := "graphNumbers", unfollowed := true, recurses := true, plainKeys := false, apart := false, narrowed := true }
def GraphNumbersUptoSaid : Prop := graphNumbersUptoRow.holds Try.pinned (OpenSpec.upto graphNumbersSpec)

/-- 'handsellaw05.GraphRing', WHERE WHAT IT READS IS OF BULK AT MOST 1048576: true; the input reads as it did. -/
def graphRingUptoRow : OpenClaim := { program := "ytdcfoaafkppojaa", sum := "110d441357eb54224f7572533d93fd715ca9accdfeeba0a78d481857f818e353", func := "handsel/handsellaw05.GraphRing", spec := "graphRing", unfollowed := true, recurses := true, plainKeys := false, apart := false, narrowed := true }
def GraphRingUptoSaid : Prop := graphRingUptoRow.holds Try.pinned (OpenSpec.upto graphRingSpec)

/-- 'handsellaw05.GraphFull', WHERE WHAT IT READS IS OF BULK AT MOST 1048576: true; the input reads as it did. -/
def graphFullUptoRow : OpenClaim := { program := "ytdcfoaafkppojaa", sum := "110d441357eb54224f7572533d93fd715ca9accdfeeba0a78d481857f818e353", func := "handsel/handsellaw05.GraphFull", spec := "graphFull", unfollowed := true, recurses := true, plainKeys := false, apart := false, narrowed := true }
def GraphFullUptoSaid : Prop := graphFullUptoRow.holds Try.pinned (OpenSpec.upto graphFullSpec)

/-- 'handsellaw05.GraphApart', WHERE WHAT IT READS IS OF BULK AT MOST 1048576: true; the input reads as it did. -/
def graphApartUptoRow : OpenClaim := { program := "ytdcfoaafkppojaa", sum := "110d441357eb54224f7572533d93fd715ca9accdfeeba0a78d481857f818e353", func := "handsel/handsellaw05.GraphApart", spec := "graphApart", unfollowed := true, recurses := true, plainKeys := false, apart := false, narrowed := true }
def GraphApartUptoSaid : Prop := graphApartUptoRow.holds Try.pinned (OpenSpec.upto graphApartSpec)

/-- 'handsellaw04.SpecAll', WHERE WHAT IT READS IS OF BULK AT MOST 1048576: true; the input reads as it did. -/
def specAllUptoRow : OpenClaim := { program := "ytdcfoaafkppojaa", sum := "110d441357eb54224f7572533d93fd715ca9accdfeeba0a78d481857f818e353", func := "handsel/handsellaw04.SpecAll", spec := "specAll", inPlace := ["internal/abi.NoEscape"], unfollowed := true, recurses := true, plainKeys := false, apart := false, narrowed := true }
def SpecAllUptoSaid : Prop := specAllUptoRow.holds Try.pinned (OpenSpec.upto specAllSpec)

/-- 'handsellaw04.SpecBack', WHERE WHAT IT READS IS OF BULK AT MOST 1048576: true; the input reads as it did. -/
def specBackUptoRow : OpenClaim := { program := "ytdcfoaafkppojaa", sum := "110d441357eb54224f7572533d93fd715ca9accdfeeba0a78d481857f818e353", func := "handsel/handsellaw04.SpecBack", spec := "specBack", inPlace := ["internal/abi.NoEscape"], unfollowed := true, recurses := true, plainKeys := false, apart := false, narrowed := true }
def SpecBackUptoSaid : Prop := specBackUptoRow.holds Try.pinned (OpenSpec.upto specBackSpec)

/-- 'handsellaw04.SpecWrong', WHERE WHAT IT READS IS OF BULK AT MOST 1048576: true; the input reads as it did. -/
def specWrongUptoRow : OpenClaim := { program := "ytdcfoaafkppojaa", sum := "110d441357eb54224f7572533d93fd715ca9accdfeeba0a78d481857f818e353", func := "handsel/handsellaw04.SpecWrong", spec := "specWrong", inPlace := ["internal/abi.NoEscape"], unfollowed := true, recurses := true, plainKeys := false, apart := false, narrowed := true }
def SpecWrongUptoSaid : Prop := specWrongUptoRow.holds Try.pinned (OpenSpec.upto specWrongSpec)

/-- 'handsellaw04.SpecSame', WHERE WHAT IT READS IS OF BULK AT MOST 1048576: true; the input reads as it did. -/
def specSameUptoRow : OpenClaim := { program := "ytdcfoaafkppojaa", sum := "110d441357eb54224f7572533d93fd715ca9accdfeeba0a78d481857f818e353", func := "handsel/handsellaw04.SpecSame", spec := "specSame", inPlace := ["internal/abi.NoEscape"], unfollowed := true, recurses := true, plainKeys := false, apart := false, narrowed := true }
def SpecSameUptoSaid : Prop := specSameUptoRow.holds Try.pinned (OpenSpec.upto specSameSpec)

/-- 'handsellaw04.SpecSizes', WHERE WHAT IT READS IS OF BULK AT MOST 1048576: true; the input reads as it did. -/
def specSizesUptoRow : OpenClaim := { program := "ytdcfoaafkppojaa", sum := "110d441357eb54224f7572533d93fd715ca9accdfeeba0a78d481857f818e353", func := "handsel/handsellaw04.SpecSizes", spec := "specSizes", inPlace := ["internal/abi.NoEscape"], unfollowed := true, recurses := true, plainKeys := false, apart := false, narrowed := true }
def SpecSizesUptoSaid : Prop := specSizesUptoRow.holds Try.pinned (OpenSpec.upto specSizesSpec)

end Rows
end Go.Proofs.Ytdcfoaafkppojaa
