/-
  No cell of these rows narrows 'for every input' (looked for: loops, veiled, ifaces, maps, wideKeys, modest, calm, conditions, laid).
  DERIVED. THE GIVEN ROWS OF THIS SEAT. 5 by the template 'for every input the law returns true; each argument reads behind the call as it read before'; 0 by the template 'total and deterministic' (their statements: YtjgpklmkdkkooaaTotals.lean).
  GIVEN WITH THE SEED: the statements are not yours to turn. If you find one false, say at which input.
  Laid BY PROGRAM, IN A SANDBOX (cutbox-rows.mjs): the forced cells as the released guide's own fill.sh prints them over the translation 48372df4944405ed… (all of the seat's roots in one cut). By AI agents, Wed Nov 11 2026. No macro, syntax, notation, axiom, sorry.
-/
import Derived.Test.YtjgpklmkdkkooaaChecked
import GoSem.Claim
import GoSem.ClaimJoined
import GoSem.ClaimMapViews
import Derived.JoinedTies
import Derived.KernelRfl
namespace Go.Proofs.Ytjgpklmkdkkooaa
/- THE CELL 'sum', in the pinned program and in every row, IS THE sha256 OF THE DUMP (.gsa) THAT YtjgpklmkdkkooaaProg.lean LOADS. Nothing in Lean hashes anything: it is a label: what it is worth is what the hold of that sum in a sandbox is worth. -/
noncomputable def Try.pinned : Pinned := { name := "ytjgpklmkdkkooaa", sum := "48372df4944405edc600827f537efeebf201a22ebf95221f834638b3ab9fff51", checked := Try.checked }
namespace Rows
def none {H : Type} : Left H := { results := [], args := [] }

/-- 'handsellaw07.HashkeyWrong': WHATEVER THE INPUT: true; the input reads as it did. -/
def hashkeyWrongSpec : ChangeSpec := { name := "hashkeyWrong", fn := fun _ => fun
  | [d1, d2, d3, d4] => { results := [.lit (.bool true)], args := [d1, d2, d3, d4] }
  | _ => none }
def hashkeyWrongRow : OpenClaim := { program := "ytjgpklmkdkkooaa", sum := "48372df4944405edc600827f537efeebf201a22ebf95221f834638b3ab9fff51", func := "handsel/handsellaw07.HashkeyWrong", spec := "hashkeyWrong", inPlace := ["internal/abi.NoEscape"], unfollowed := true, recurses := true, plainKeys := false, apart := false }
def HashkeyWrongSaid : Prop := hashkeyWrongRow.holds Try.pinned (OpenSpec.ofChange hashkeyWrongSpec)

/-- ITS FALSE NEIGHBOUR: 'it returns false'. Refute it at one input. -/
def hashkeyWrongWrong : ChangeSpec := { name := "hashkeyWrong", fn := fun _ => fun
  | [d1, d2, d3, d4] => { results := [.lit (.bool false)], args := [d1, d2, d3, d4] }
  | _ => none }
def HashkeyWrongWrongFalsely : Prop := hashkeyWrongRow.holds Try.pinned (OpenSpec.ofChange hashkeyWrongWrong)

/-- 'handsellaw07.HashkeyRing': WHATEVER THE INPUT: true; the input reads as it did. -/
def hashkeyRingSpec : ChangeSpec := { name := "hashkeyRing", fn := fun _ => fun
  | [d] => { results := [.lit (.bool true)], args := [d] }
  | _ => none }
def hashkeyRingRow : OpenClaim := { program := "ytjgpklmkdkkooaa", sum := "48372df4944405edc600827f537efeebf201a22ebf95221f834638b3ab9fff51", func := "handsel/handsellaw07.HashkeyRing", spec := "hashkeyRing", inPlace := ["internal/abi.NoEscape"], unfollowed := true, recurses := true, plainKeys := false, apart := false }
def HashkeyRingSaid : Prop := hashkeyRingRow.holds Try.pinned (OpenSpec.ofChange hashkeyRingSpec)

/-- ITS FALSE NEIGHBOUR: 'it returns false'. Refute it at one input. -/
def hashkeyRingWrong : ChangeSpec := { name := "hashkeyRing", fn := fun _ => fun
  | [d] => { results := [.lit (.bool false)], args := [d] }
  | _ => none }
def HashkeyRingWrongFalsely : Prop := hashkeyRingRow.holds Try.pinned (OpenSpec.ofChange hashkeyRingWrong)

/-- 'handsellaw07.HashkeyNone': WHATEVER THE INPUT: true; the input reads as it did. -/
def hashkeyNoneSpec : ChangeSpec := { name := "hashkeyNone", fn := fun _ => fun
  | [d1, d2] => { results := [.lit (.bool true)], args := [d1, d2] }
  | _ => none }
def hashkeyNoneRow : OpenClaim := { program := "ytjgpklmkdkkooaa", sum := "48372df4944405edc600827f537efeebf201a22ebf95221f834638b3ab9fff51", func := "handsel/handsellaw07.HashkeyNone", spec := "hashkeyNone", inPlace := ["internal/abi.NoEscape"], unfollowed := true, recurses := true, plainKeys := false, apart := false }
def HashkeyNoneSaid : Prop := hashkeyNoneRow.holds Try.pinned (OpenSpec.ofChange hashkeyNoneSpec)

/-- ITS FALSE NEIGHBOUR: 'it returns false'. Refute it at one input. -/
def hashkeyNoneWrong : ChangeSpec := { name := "hashkeyNone", fn := fun _ => fun
  | [d1, d2] => { results := [.lit (.bool false)], args := [d1, d2] }
  | _ => none }
def HashkeyNoneWrongFalsely : Prop := hashkeyNoneRow.holds Try.pinned (OpenSpec.ofChange hashkeyNoneWrong)

/-- 'handsellaw08.CmdForms': WHATEVER THE INPUT: true; the input reads as it did. -/
def cmdFormsSpec : ChangeSpec := { name := "cmdForms", fn := fun _ => fun
  | [d1, d2, d3] => { results := [.lit (.bool true)], args := [d1, d2, d3] }
  | _ => none }
def cmdFormsRow : OpenClaim := { program := "ytjgpklmkdkkooaa", sum := "48372df4944405edc600827f537efeebf201a22ebf95221f834638b3ab9fff51", func := "handsel/handsellaw08.CmdForms", spec := "cmdForms", inPlace := ["internal/abi.NoEscape"], unfollowed := true, recurses := true, plainKeys := false, apart := false }
def CmdFormsSaid : Prop := cmdFormsRow.holds Try.pinned (OpenSpec.ofChange cmdFormsSpec)

/-- ITS FALSE NEIGHBOUR: 'it returns false'. Refute it at one input. -/
def cmdFormsWrong : ChangeSpec := { name := "cmdForms", fn := fun _ => fun
  | [d1, d2, d3] => { results := [.lit (.bool false)], args := [d1, d2, d3] }
  | _ => none }
def CmdFormsWrongFalsely : Prop := cmdFormsRow.holds Try.pinned (OpenSpec.ofChange cmdFormsWrong)

/-- 'handsellaw08.CmdUnlocks': WHATEVER THE INPUT: true; the input reads as it did. -/
def cmdUnlocksSpec : ChangeSpec := { name := "cmdUnlocks", fn := fun _ => fun
  | [d1, d2] => { results := [.lit (.bool true)], args := [d1, d2] }
  | _ => none }
def cmdUnlocksRow : OpenClaim := { program := "ytjgpklmkdkkooaa", sum := "48372df4944405edc600827f537efeebf201a22ebf95221f834638b3ab9fff51", func := "handsel/handsellaw08.CmdUnlocks", spec := "cmdUnlocks", inPlace := ["internal/abi.NoEscape"], unfollowed := true, recurses := true, plainKeys := false, apart := false }
def CmdUnlocksSaid : Prop := cmdUnlocksRow.holds Try.pinned (OpenSpec.ofChange cmdUnlocksSpec)

/-- ITS FALSE NEIGHBOUR: 'it returns false'. Refute it at one input. -/
def cmdUnlocksWrong : ChangeSpec := { name := "cmdUnlocks", fn := fun _ => fun
  | [d1, d2] => { results := [.lit (.bool false)], args := [d1, d2] }
  | _ => none }
def CmdUnlocksWrongFalsely : Prop := cmdUnlocksRow.holds Try.pinned (OpenSpec.ofChange cmdUnlocksWrong)

/- THE SECOND FORM. 'bulk': how many values and letters a reading holds, each counted each time it is reached (what is shared counts as often as it is met; a slice's spare places count too). A statement '..UptoSaid' is the law's where the arguments, and the package variables that the reading takes, are together of bulk at most 1048576: NARROWER than '..Said'. Prove '..Said' where nothing that the law and all that it calls make is longer than what came in: it says more and counts as full. Else prove '..UptoSaid'. A law counts once. -/
mutual
def uptoBulk {H : Type} : DataW H → Nat
  | .lit (.string bytes) => bytes.length + 1
  | .lit _ => 1
  | .nil => 1
  | .ptr d => uptoBulk d + 1
  | .slice elems spare => uptoBulkAll elems + uptoBulkAll spare + 1
  | .agg parts => uptoBulkAll parts + 1
  | .iface _ d => uptoBulk d + 1
  | .map entries => uptoBulkEntries entries + 1
  | .held _ => 1
def uptoBulkAll {H : Type} : List (DataW H) → Nat
  | [] => 0
  | d :: r => uptoBulk d + uptoBulkAll r
def uptoBulkEntries {H : Type} : List (Lit × DataW H) → Nat
  | [] => 0
  | x :: r => uptoBulkEntry x + uptoBulkEntries r
def uptoBulkEntry {H : Type} : Lit × DataW H → Nat
  | (.string bytes, d) => bytes.length + uptoBulk d + 1
  | (_, d) => uptoBulk d + 1
 end
def uptoSmall : (H : Type) → List (DataW H) → Bool := fun _ ds => decide (uptoBulkAll ds ≤ 1048576)
def OpenSpec.upto (s : _root_.Go.ChangeSpec) : _root_.Go.OpenSpec := { _root_.Go.OpenSpec.ofChange s with cond := some uptoSmall }

/-- 'handsellaw07.HashkeyWrong', WHERE WHAT IT READS IS OF BULK AT MOST 1048576: true; the input reads as it did. -/
def hashkeyWrongUptoRow : OpenClaim := { program := "ytjgpklmkdkkooaa", sum := "48372df4944405edc600827f537efeebf201a22ebf95221f834638b3ab9fff51", func := "handsel/handsellaw07.HashkeyWrong", spec := "hashkeyWrong", inPlace := ["internal/abi.NoEscape"], unfollowed := true, recurses := true, plainKeys := false, apart := false, narrowed := true }
def HashkeyWrongUptoSaid : Prop := hashkeyWrongUptoRow.holds Try.pinned (OpenSpec.upto hashkeyWrongSpec)

/-- 'handsellaw07.HashkeyRing', WHERE WHAT IT READS IS OF BULK AT MOST 1048576: true; the input reads as it did. -/
def hashkeyRingUptoRow : OpenClaim := { program := "ytjgpklmkdkkooaa", sum := "48372df4944405edc600827f537efeebf201a22ebf95221f834638b3ab9fff51", func := "handsel/handsellaw07.HashkeyRing", spec := "hashkeyRing", inPlace := ["internal/abi.NoEscape"], unfollowed := true, recurses := true, plainKeys := false, apart := false, narrowed := true }
def HashkeyRingUptoSaid : Prop := hashkeyRingUptoRow.holds Try.pinned (OpenSpec.upto hashkeyRingSpec)

/-- 'handsellaw07.HashkeyNone', WHERE WHAT IT READS IS OF BULK AT MOST 1048576: true; the input reads as it did. -/
def hashkeyNoneUptoRow : OpenClaim := { program := "ytjgpklmkdkkooaa", sum := "48372df4944405edc600827f537efeebf201a22ebf95221f834638b3ab9fff51", func := "handsel/handsellaw07.HashkeyNone", spec := "hashkeyNone", inPlace := ["internal/abi.NoEscape"], unfollowed := true, recurses := true, plainKeys := false, apart := false, narrowed := true }
def HashkeyNoneUptoSaid : Prop := hashkeyNoneUptoRow.holds Try.pinned (OpenSpec.upto hashkeyNoneSpec)

/-- 'handsellaw08.CmdForms', WHERE WHAT IT READS IS OF BULK AT MOST 1048576: true; the input reads as it did. -/
def cmdFormsUptoRow : OpenClaim := { program := "ytjgpklmkdkkooaa", sum := "48372df4944405edc600827f537efeebf201a22ebf95221f834638b3ab9fff51", func := "handsel/handsellaw08.CmdForms", spec := "cmdForms", inPlace := ["internal/abi.NoEscape"], unfollowed := true, recurses := true, plainKeys := false, apart := false, narrowed := true }
def CmdFormsUptoSaid : Prop := cmdFormsUptoRow.holds Try.pinned (OpenSpec.upto cmdFormsSpec)

/-- 'handsellaw08.CmdUnlocks', WHERE WHAT IT READS IS OF BULK AT MOST 1048576: true; the input reads as it did. -/
def cmdUnlocksUptoRow : OpenClaim := { program := "ytjgpklmkdkkooaa", sum := "48372df4944405edc600827f537efeebf201a22ebf95221f834638b3ab9fff51", func := "handsel/handsellaw08.CmdUnlocks", spec := "cmdUnlocks", inPlace := ["internal/abi.NoEscape"], unfollowed := true, recurses := true, plainKeys := false, apart := false, narrowed := true }
def CmdUnlocksUptoSaid : Prop := cmdUnlocksUptoRow.holds Try.pinned (OpenSpec.upto cmdUnlocksSpec)

end Rows
end Go.Proofs.Ytjgpklmkdkkooaa
