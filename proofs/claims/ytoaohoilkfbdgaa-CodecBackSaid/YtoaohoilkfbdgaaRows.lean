/-
  No cell of these rows narrows 'for every input' (looked for: loops, veiled, ifaces, maps, wideKeys, modest, calm, conditions, laid).
  DERIVED. THE GIVEN ROWS OF THIS SEAT. 11 by the template 'for every input the law returns true; each argument reads behind the call as it read before'; 0 by the template 'total and deterministic' (their statements: YtoaohoilkfbdgaaTotals.lean).
  GIVEN WITH THE SEED: the statements are not yours to turn. If you find one false, say at which input.
  Laid BY PROGRAM, IN A SANDBOX (cutbox-rows.mjs): the forced cells as the released guide's own fill.sh prints them over the translation a36273cdfc4b9044… (all of the seat's roots in one cut). By AI agents, Wed Nov 11 2026. No macro, syntax, notation, axiom, sorry.
-/
import Derived.Test.YtoaohoilkfbdgaaChecked
import GoSem.Claim
import GoSem.ClaimJoined
import GoSem.ClaimMapViews
import Derived.JoinedTies
import Derived.KernelRfl
namespace Go.Proofs.Ytoaohoilkfbdgaa
/- THE CELL 'sum', in the pinned program and in every row, IS THE sha256 OF THE DUMP (.gsa) THAT YtoaohoilkfbdgaaProg.lean LOADS. Nothing in Lean hashes anything: it is a label: what it is worth is what the hold of that sum in a sandbox is worth. -/
noncomputable def Try.pinned : Pinned := { name := "ytoaohoilkfbdgaa", sum := "a36273cdfc4b904450680679d0317db76ad43b27ec91d564eec598997a117fa6", checked := Try.checked }
namespace Rows
def none {H : Type} : Left H := { results := [], args := [] }

/-- 'handsellaw15.DiskFull': WHATEVER THE INPUT: true; the input reads as it did. -/
def diskFullSpec : ChangeSpec := { name := "diskFull", fn := fun _ => fun
  | [d1, d2] => { results := [.lit (.bool true)], args := [d1, d2] }
  | _ => none }
def diskFullRow : OpenClaim := { program := "ytoaohoilkfbdgaa", sum := "a36273cdfc4b904450680679d0317db76ad43b27ec91d564eec598997a117fa6", func := "handsel/handsellaw15.DiskFull", spec := "diskFull", plainKeys := false, apart := false }
def DiskFullSaid : Prop := diskFullRow.holds Try.pinned (OpenSpec.ofChange diskFullSpec)

/-- ITS FALSE NEIGHBOUR: 'it returns false'. Refute it at one input. -/
def diskFullWrong : ChangeSpec := { name := "diskFull", fn := fun _ => fun
  | [d1, d2] => { results := [.lit (.bool false)], args := [d1, d2] }
  | _ => none }
def DiskFullWrongFalsely : Prop := diskFullRow.holds Try.pinned (OpenSpec.ofChange diskFullWrong)

/-- 'handsellaw15.DiskPlays': WHATEVER THE INPUT: true; the input reads as it did. -/
def diskPlaysSpec : ChangeSpec := { name := "diskPlays", fn := fun _ => fun
  | [d1, d2] => { results := [.lit (.bool true)], args := [d1, d2] }
  | _ => none }
def diskPlaysRow : OpenClaim := { program := "ytoaohoilkfbdgaa", sum := "a36273cdfc4b904450680679d0317db76ad43b27ec91d564eec598997a117fa6", func := "handsel/handsellaw15.DiskPlays", spec := "diskPlays", plainKeys := false, apart := false }
def DiskPlaysSaid : Prop := diskPlaysRow.holds Try.pinned (OpenSpec.ofChange diskPlaysSpec)

/-- ITS FALSE NEIGHBOUR: 'it returns false'. Refute it at one input. -/
def diskPlaysWrong : ChangeSpec := { name := "diskPlays", fn := fun _ => fun
  | [d1, d2] => { results := [.lit (.bool false)], args := [d1, d2] }
  | _ => none }
def DiskPlaysWrongFalsely : Prop := diskPlaysRow.holds Try.pinned (OpenSpec.ofChange diskPlaysWrong)

/-- 'handsellaw15.DiskLasts': WHATEVER THE INPUT: true; the input reads as it did. -/
def diskLastsSpec : ChangeSpec := { name := "diskLasts", fn := fun _ => fun
  | [d1, d2, d3] => { results := [.lit (.bool true)], args := [d1, d2, d3] }
  | _ => none }
def diskLastsRow : OpenClaim := { program := "ytoaohoilkfbdgaa", sum := "a36273cdfc4b904450680679d0317db76ad43b27ec91d564eec598997a117fa6", func := "handsel/handsellaw15.DiskLasts", spec := "diskLasts", plainKeys := false, apart := false }
def DiskLastsSaid : Prop := diskLastsRow.holds Try.pinned (OpenSpec.ofChange diskLastsSpec)

/-- ITS FALSE NEIGHBOUR: 'it returns false'. Refute it at one input. -/
def diskLastsWrong : ChangeSpec := { name := "diskLasts", fn := fun _ => fun
  | [d1, d2, d3] => { results := [.lit (.bool false)], args := [d1, d2, d3] }
  | _ => none }
def DiskLastsWrongFalsely : Prop := diskLastsRow.holds Try.pinned (OpenSpec.ofChange diskLastsWrong)

/-- 'handsellaw15.DiskTwice': WHATEVER THE INPUT: true; the input reads as it did. -/
def diskTwiceSpec : ChangeSpec := { name := "diskTwice", fn := fun _ => fun
  | [d1, d2, d3, d4] => { results := [.lit (.bool true)], args := [d1, d2, d3, d4] }
  | _ => none }
def diskTwiceRow : OpenClaim := { program := "ytoaohoilkfbdgaa", sum := "a36273cdfc4b904450680679d0317db76ad43b27ec91d564eec598997a117fa6", func := "handsel/handsellaw15.DiskTwice", spec := "diskTwice", plainKeys := false, apart := false }
def DiskTwiceSaid : Prop := diskTwiceRow.holds Try.pinned (OpenSpec.ofChange diskTwiceSpec)

/-- ITS FALSE NEIGHBOUR: 'it returns false'. Refute it at one input. -/
def diskTwiceWrong : ChangeSpec := { name := "diskTwice", fn := fun _ => fun
  | [d1, d2, d3, d4] => { results := [.lit (.bool false)], args := [d1, d2, d3, d4] }
  | _ => none }
def DiskTwiceWrongFalsely : Prop := diskTwiceRow.holds Try.pinned (OpenSpec.ofChange diskTwiceWrong)

/-- 'handsellaw03.CodecReads': WHATEVER THE INPUT: true; the input reads as it did. -/
def codecReadsSpec : ChangeSpec := { name := "codecReads", fn := fun _ => fun
  | [d1, d2, d3] => { results := [.lit (.bool true)], args := [d1, d2, d3] }
  | _ => none }
def codecReadsRow : OpenClaim := { program := "ytoaohoilkfbdgaa", sum := "a36273cdfc4b904450680679d0317db76ad43b27ec91d564eec598997a117fa6", func := "handsel/handsellaw03.CodecReads", spec := "codecReads", unfollowed := true, recurses := true, plainKeys := false, apart := false }
def CodecReadsSaid : Prop := codecReadsRow.holds Try.pinned (OpenSpec.ofChange codecReadsSpec)

/-- ITS FALSE NEIGHBOUR: 'it returns false'. Refute it at one input. -/
def codecReadsWrong : ChangeSpec := { name := "codecReads", fn := fun _ => fun
  | [d1, d2, d3] => { results := [.lit (.bool false)], args := [d1, d2, d3] }
  | _ => none }
def CodecReadsWrongFalsely : Prop := codecReadsRow.holds Try.pinned (OpenSpec.ofChange codecReadsWrong)

/-- 'handsellaw03.CodecBack': WHATEVER THE INPUT: true; the input reads as it did. -/
def codecBackSpec : ChangeSpec := { name := "codecBack", fn := fun _ => fun
  | [d1, d2, d3] => { results := [.lit (.bool true)], args := [d1, d2, d3] }
  | _ => none }
def codecBackRow : OpenClaim := { program := "ytoaohoilkfbdgaa", sum := "a36273cdfc4b904450680679d0317db76ad43b27ec91d564eec598997a117fa6", func := "handsel/handsellaw03.CodecBack", spec := "codecBack", unfollowed := true, recurses := true, plainKeys := false, apart := false }
def CodecBackSaid : Prop := codecBackRow.holds Try.pinned (OpenSpec.ofChange codecBackSpec)

/-- ITS FALSE NEIGHBOUR: 'it returns false'. Refute it at one input. -/
def codecBackWrong : ChangeSpec := { name := "codecBack", fn := fun _ => fun
  | [d1, d2, d3] => { results := [.lit (.bool false)], args := [d1, d2, d3] }
  | _ => none }
def CodecBackWrongFalsely : Prop := codecBackRow.holds Try.pinned (OpenSpec.ofChange codecBackWrong)

/-- 'handsellaw03.CodecBounds': WHATEVER THE INPUT: true; the input reads as it did. -/
def codecBoundsSpec : ChangeSpec := { name := "codecBounds", fn := fun _ => fun
  | [d1, d2] => { results := [.lit (.bool true)], args := [d1, d2] }
  | _ => none }
def codecBoundsRow : OpenClaim := { program := "ytoaohoilkfbdgaa", sum := "a36273cdfc4b904450680679d0317db76ad43b27ec91d564eec598997a117fa6", func := "handsel/handsellaw03.CodecBounds", spec := "codecBounds", unfollowed := true, recurses := true, plainKeys := false, apart := false }
def CodecBoundsSaid : Prop := codecBoundsRow.holds Try.pinned (OpenSpec.ofChange codecBoundsSpec)

/-- ITS FALSE NEIGHBOUR: 'it returns false'. Refute it at one input. -/
def codecBoundsWrong : ChangeSpec := { name := "codecBounds", fn := fun _ => fun
  | [d1, d2] => { results := [.lit (.bool false)], args := [d1, d2] }
  | _ => none }
def CodecBoundsWrongFalsely : Prop := codecBoundsRow.holds Try.pinned (OpenSpec.ofChange codecBoundsWrong)

/-- 'handsellaw03.CodecNums': WHATEVER THE INPUT: true; the input reads as it did. -/
def codecNumsSpec : ChangeSpec := { name := "codecNums", fn := fun _ => fun
  | [d] => { results := [.lit (.bool true)], args := [d] }
  | _ => none }
def codecNumsRow : OpenClaim := { program := "ytoaohoilkfbdgaa", sum := "a36273cdfc4b904450680679d0317db76ad43b27ec91d564eec598997a117fa6", func := "handsel/handsellaw03.CodecNums", spec := "codecNums", unfollowed := true, recurses := true, plainKeys := false, apart := false }
def CodecNumsSaid : Prop := codecNumsRow.holds Try.pinned (OpenSpec.ofChange codecNumsSpec)

/-- ITS FALSE NEIGHBOUR: 'it returns false'. Refute it at one input. -/
def codecNumsWrong : ChangeSpec := { name := "codecNums", fn := fun _ => fun
  | [d] => { results := [.lit (.bool false)], args := [d] }
  | _ => none }
def CodecNumsWrongFalsely : Prop := codecNumsRow.holds Try.pinned (OpenSpec.ofChange codecNumsWrong)

/-- 'handsellaw06.WhenAll': WHATEVER THE INPUT: true; the input reads as it did. -/
def whenAllSpec : ChangeSpec := { name := "whenAll", fn := fun _ => fun
  | [d1, d2] => { results := [.lit (.bool true)], args := [d1, d2] }
  | _ => none }
def whenAllRow : OpenClaim := { program := "ytoaohoilkfbdgaa", sum := "a36273cdfc4b904450680679d0317db76ad43b27ec91d564eec598997a117fa6", func := "handsel/handsellaw06.WhenAll", spec := "whenAll", unfollowed := true, recurses := true, plainKeys := false, apart := false }
def WhenAllSaid : Prop := whenAllRow.holds Try.pinned (OpenSpec.ofChange whenAllSpec)

/-- ITS FALSE NEIGHBOUR: 'it returns false'. Refute it at one input. -/
def whenAllWrong : ChangeSpec := { name := "whenAll", fn := fun _ => fun
  | [d1, d2] => { results := [.lit (.bool false)], args := [d1, d2] }
  | _ => none }
def WhenAllWrongFalsely : Prop := whenAllRow.holds Try.pinned (OpenSpec.ofChange whenAllWrong)

/-- 'handsellaw06.WhenSteps': WHATEVER THE INPUT: true; the input reads as it did. -/
def whenStepsSpec : ChangeSpec := { name := "whenSteps", fn := fun _ => fun
  | [d1, d2, d3] => { results := [.lit (.bool true)], args := [d1, d2, d3] }
  | _ => none }
def whenStepsRow : OpenClaim := { program := "ytoaohoilkfbdgaa", sum := "a36273cdfc4b904450680679d0317db76ad43b27ec91d564eec598997a117fa6", func := "handsel/handsellaw06.WhenSteps", spec := "whenSteps", unfollowed := true, recurses := true, plainKeys := false, apart := false }
def WhenStepsSaid : Prop := whenStepsRow.holds Try.pinned (OpenSpec.ofChange whenStepsSpec)

/-- ITS FALSE NEIGHBOUR: 'it returns false'. Refute it at one input. -/
def whenStepsWrong : ChangeSpec := { name := "whenSteps", fn := fun _ => fun
  | [d1, d2, d3] => { results := [.lit (.bool false)], args := [d1, d2, d3] }
  | _ => none }
def WhenStepsWrongFalsely : Prop := whenStepsRow.holds Try.pinned (OpenSpec.ofChange whenStepsWrong)

/-- 'handsellaw06.WhenNone': WHATEVER THE INPUT: true; the input reads as it did. -/
def whenNoneSpec : ChangeSpec := { name := "whenNone", fn := fun _ => fun
  | [d1, d2, d3] => { results := [.lit (.bool true)], args := [d1, d2, d3] }
  | _ => none }
def whenNoneRow : OpenClaim := { program := "ytoaohoilkfbdgaa", sum := "a36273cdfc4b904450680679d0317db76ad43b27ec91d564eec598997a117fa6", func := "handsel/handsellaw06.WhenNone", spec := "whenNone", unfollowed := true, recurses := true, plainKeys := false, apart := false }
def WhenNoneSaid : Prop := whenNoneRow.holds Try.pinned (OpenSpec.ofChange whenNoneSpec)

/-- ITS FALSE NEIGHBOUR: 'it returns false'. Refute it at one input. -/
def whenNoneWrong : ChangeSpec := { name := "whenNone", fn := fun _ => fun
  | [d1, d2, d3] => { results := [.lit (.bool false)], args := [d1, d2, d3] }
  | _ => none }
def WhenNoneWrongFalsely : Prop := whenNoneRow.holds Try.pinned (OpenSpec.ofChange whenNoneWrong)

/- THE SECOND FORM. 'bulk': how many values and letters a reading holds, each counted each time it is reached (what is shared counts as often as it is met; a slice's spare places count too). A statement '..UptoSaid' is the law's where the arguments, and the package variables that the reading takes, are together of bulk at most 1048576: NARROWER than '..Said'. Prove '..Said' where nothing that the law and all that it calls make is longer than what came in: it says more and counts as full. Else prove '..UptoSaid'. A law counts once. -/
mutual
def uptoBulk {H : Type} : DataW H → Nat
  | .lit (.string bytes) => bytes.length + 1
  | .lit _ => 1
  | .nil => 1
  | .ptr d => uptoBulk d + 1
  | .slice elems spare => uptoBulkAll elems + uptoBulkAll spare + 1
  | .agg parts => uptoBulkAll parts + 1
  | .iface _ d => uptoBulk d + 1
  | .map entries => uptoBulkEntries entries + 1
  | .held _ => 1
def uptoBulkAll {H : Type} : List (DataW H) → Nat
  | [] => 0
  | d :: r => uptoBulk d + uptoBulkAll r
def uptoBulkEntries {H : Type} : List (Lit × DataW H) → Nat
  | [] => 0
  | x :: r => uptoBulkEntry x + uptoBulkEntries r
def uptoBulkEntry {H : Type} : Lit × DataW H → Nat
  | (.string bytes, d) => bytes.length + uptoBulk d + 1
  | (_, d) => uptoBulk d + 1
 end
def uptoSmall : (H : Type) → List (DataW H) → Bool := fun _ ds => decide (uptoBulkAll ds ≤ 1048576)
def OpenSpec.upto (s : _root_.Go.ChangeSpec) : _root_.Go.OpenSpec := { _root_.Go.OpenSpec.ofChange s with cond := some uptoSmall }

/-- 'handsellaw15.DiskFull', WHERE WHAT IT READS IS OF BULK AT MOST 1048576: true; the input reads as it did. -/
def diskFullUptoRow : OpenClaim := { program := "ytoaohoilkfbdgaa", sum := "a36273cdfc4b904450680679d0317db76ad43b27ec91d564eec598997a117fa6", func := "handsel/handsellaw15.DiskFull", spec := "diskFull", plainKeys := false, apart := false, narrowed := true }
def DiskFullUptoSaid : Prop := diskFullUptoRow.holds Try.pinned (OpenSpec.upto diskFullSpec)

/-- 'handsellaw15.DiskPlays', WHERE WHAT IT READS IS OF BULK AT MOST 1048576: true; the input reads as it did. -/
def diskPlaysUptoRow : OpenClaim := { program := "ytoaohoilkfbdgaa", sum := "a36273cdfc4b904450680679d0317db76ad43b27ec91d564eec598997a117fa6", func := "handsel/handsellaw15.DiskPlays", spec := "diskPlays", plainKeys := false, apart := false, narrowed := true }
def DiskPlaysUptoSaid : Prop := diskPlaysUptoRow.holds Try.pinned (OpenSpec.upto diskPlaysSpec)

/-- 'handsellaw15.DiskLasts', WHERE WHAT IT READS IS OF BULK AT MOST 1048576: true; the input reads as it did. -/
def diskLastsUptoRow : OpenClaim := { program := "ytoaohoilkfbdgaa", sum := "a36273cdfc4b904450680679d0317db76ad43b27ec91d564eec598997a117fa6", func := "handsel/handsellaw15.DiskLasts", spec := "diskLasts", plainKeys := false, apart := false, narrowed := true }
def DiskLastsUptoSaid : Prop := diskLastsUptoRow.holds Try.pinned (OpenSpec.upto diskLastsSpec)

/-- 'handsellaw15.DiskTwice', WHERE WHAT IT READS IS OF BULK AT MOST 1048576: true; the input reads as it did. -/
def diskTwiceUptoRow : OpenClaim := { program := "ytoaohoilkfbdgaa", sum := "a36273cdfc4b904450680679d0317db76ad43b27ec91d564eec598997a117fa6", func := "handsel/handsellaw15.DiskTwice", spec := "diskTwice", plainKeys := false, apart := false, narrowed := true }
def DiskTwiceUptoSaid : Prop := diskTwiceUptoRow.holds Try.pinned (OpenSpec.upto diskTwiceSpec)

/-- 'handsellaw03.CodecReads', WHERE WHAT IT READS IS OF BULK AT MOST 1048576: true; the input reads as it did. -/
def codecReadsUptoRow : OpenClaim := { program := "ytoaohoilkfbdgaa", sum := "a36273cdfc4b904450680679d0317db76ad43b27ec91d564eec598997a117fa6", func := "handsel/handsellaw03.CodecReads", spec := "codecReads", unfollowed := true, recurses := true, plainKeys := false, apart := false, narrowed := true }
def CodecReadsUptoSaid : Prop := codecReadsUptoRow.holds Try.pinned (OpenSpec.upto codecReadsSpec)

/-- 'handsellaw03.CodecBack', WHERE WHAT IT READS IS OF BULK AT MOST 1048576: true; the input reads as it did. -/
def codecBackUptoRow : OpenClaim := { program := "ytoaohoilkfbdgaa", sum := "a36273cdfc4b904450680679d0317db76ad43b27ec91d564eec598997a117fa6", func := "handsel/handsellaw03.CodecBack", spec := "codecBack", unfollowed := true, recurses := true, plainKeys := false, apart := false, narrowed := true }
def CodecBackUptoSaid : Prop := codecBackUptoRow.holds Try.pinned (OpenSpec.upto codecBackSpec)

/-- 'handsellaw03.CodecBounds', WHERE WHAT IT READS IS OF BULK AT MOST 1048576: true; the input reads as it did. -/
def codecBoundsUptoRow : OpenClaim := { program := "ytoaohoilkfbdgaa", sum := "a36273cdfc4b904450680679d0317db76ad43b27ec91d564eec598997a117fa6", func := "handsel/handsellaw03.CodecBounds", spec := "codecBounds", unfollowed := true, recurses := true, plainKeys := false, apart := false, narrowed := true }
def CodecBoundsUptoSaid : Prop := codecBoundsUptoRow.holds Try.pinned (OpenSpec.upto codecBoundsSpec)

/-- 'handsellaw03.CodecNums', WHERE WHAT IT READS IS OF BULK AT MOST 1048576: true; the input reads as it did. -/
def codecNumsUptoRow : OpenClaim := { program := "ytoaohoilkfbdgaa", sum := "a36273cdfc4b904450680679d0317db76ad43b27ec91d564eec598997a117fa6", func := "handsel/handsellaw03.CodecNums", spec := "codecNums", unfollowed := true, recurses := true, plainKeys := false, apart := false, narrowed := true }
def CodecNumsUptoSaid : Prop := codecNumsUptoRow.holds Try.pinned (OpenSpec.upto codecNumsSpec)

/-- 'handsellaw06.WhenAll', WHERE WHAT IT READS IS OF BULK AT MOST 1048576: true; the input reads as it did. -/
def whenAllUptoRow : OpenClaim := { program := "ytoaohoilkfbdgaa", sum := "a36273cdfc4b904450680679d0317db76ad43b27ec91d564eec598997a117fa6", func := "handsel/handsellaw06.WhenAll", spec := "whenAll", unfollowed := true, recurses := true, plainKeys := false, apart := false, narrowed := true }
def WhenAllUptoSaid : Prop := whenAllUptoRow.holds Try.pinned (OpenSpec.upto whenAllSpec)

/-- 'handsellaw06.WhenSteps', WHERE WHAT IT READS IS OF BULK AT MOST 1048576: true; the input reads as it did. -/
def whenStepsUptoRow : OpenClaim := { program := "ytoaohoilkfbdgaa", sum := "a36273cdfc4b904450680679d0317db76ad43b27ec91d564eec598997a117fa6", func := "handsel/handsellaw06.WhenSteps", spec := "whenSteps", unfollowed := true, recurses := true, plainKeys := false, apart := false, narrowed := true }
def WhenStepsUptoSaid : Prop := whenStepsUptoRow.holds Try.pinned (OpenSpec.upto whenStepsSpec)

/-- 'handsellaw06.WhenNone', WHERE WHAT IT READS IS OF BULK AT MOST 1048576: true; the input reads as it did. -/
def whenNoneUptoRow : OpenClaim := { program := "ytoaohoilkfbdgaa", sum := "a36273cdfc4b904450680679d0317db76ad43b27ec91d564eec598997a117fa6", func := "handsel/handsellaw06.WhenNone", spec := "whenNone", unfollowed := true, recurses := true, plainKeys := false, apart := false, narrowed := true }
def WhenNoneUptoSaid : Prop := whenNoneUptoRow.holds Try.pinned (OpenSpec.upto whenNoneSpec)

end Rows
end Go.Proofs.Ytoaohoilkfbdgaa
