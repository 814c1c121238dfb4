/-
  No cell of these rows narrows 'for every input' (looked for: loops, veiled, ifaces, maps, wideKeys, modest, calm, conditions, laid).
  DERIVED. THE GIVEN ROWS OF THIS SEAT. 12 by the template 'for every input the law returns true; each argument reads behind the call as it read before'; 0 by the template 'total and deterministic' (their statements: YtnimkejbeogciaaTotals.lean).
  GIVEN WITH THE SEED: the statements are not yours to turn. If you find one false, say at which input.
  Laid BY PROGRAM, IN A SANDBOX (cutbox-rows.mjs): the forced cells as the released guide's own fill.sh prints them over the translation 249aa4079cc1461d… (all of the seat's roots in one cut). By AI agents, Wed Nov 11 2026. No macro, syntax, notation, axiom, sorry.
-/
import Derived.Test.YtnimkejbeogciaaChecked
import GoSem.Claim
import GoSem.ClaimJoined
import GoSem.ClaimMapViews
import Derived.JoinedTies
import Derived.KernelRfl
namespace Go.Proofs.Ytnimkejbeogciaa
/- THE CELL 'sum', in the pinned program and in every row, IS THE sha256 OF THE DUMP (.gsa) THAT YtnimkejbeogciaaProg.lean LOADS. Nothing in Lean hashes anything: it is a label: what it is worth is what the hold of that sum in a sandbox is worth. -/
noncomputable def Try.pinned : Pinned := { name := "ytnimkejbeogciaa", sum := "249aa4079cc1461d4acbc8649af777a8dee6c703d17515c5dcf4d4b15ef6c13e", checked := Try.checked }
namespace Rows
def none {H : Type} : Left H := { results := [], args := [] }

/-- 'handsellaw01.ShaAll': WHATEVER THE INPUT: true; the input reads as it did. -/
def shaAllSpec : ChangeSpec := { name := "shaAll", fn := fun _ => fun
  | [d] => { results := [.lit (.bool true)], args := [d] }
  | _ => none }
def shaAllRow : OpenClaim := { program := "ytnimkejbeogciaa", sum := "249aa4079cc1461d4acbc8649af777a8dee6c703d17515c5dcf4d4b15ef6c13e", func := "handsel/handsellaw01.ShaAll", spec := "shaAll", inPlace := ["internal/abi.NoEscape"], apart := false }
def ShaAllSaid : Prop := shaAllRow.holds Try.pinned (OpenSpec.ofChange shaAllSpec)

/-- ITS FALSE NEIGHBOUR: 'it returns false'. Refute it at one input. -/
def shaAllWrong : ChangeSpec := { name := "shaAll", fn := fun _ => fun
  | [d] => { results := [.lit (.bool false)], args := [d] }
  | _ => none }
def ShaAllWrongFalsely : Prop := shaAllRow.holds Try.pinned (OpenSpec.ofChange shaAllWrong)

/-- 'handsellaw01.ShaKnown': WHATEVER THE INPUT: true; the input reads as it did. -/
def shaKnownSpec : ChangeSpec := { name := "shaKnown", fn := fun _ => fun
  | [d] => { results := [.lit (.bool true)], args := [d] }
  | _ => none }
def shaKnownRow : OpenClaim := { program := "ytnimkejbeogciaa", sum := "249aa4079cc1461d4acbc8649af777a8dee6c703d17515c5dcf4d4b15ef6c13e", func := "handsel/handsellaw01.ShaKnown", spec := "shaKnown", inPlace := ["internal/abi.NoEscape"], apart := false }
def ShaKnownSaid : Prop := shaKnownRow.holds Try.pinned (OpenSpec.ofChange shaKnownSpec)

/-- ITS FALSE NEIGHBOUR: 'it returns false'. Refute it at one input. -/
def shaKnownWrong : ChangeSpec := { name := "shaKnown", fn := fun _ => fun
  | [d] => { results := [.lit (.bool false)], args := [d] }
  | _ => none }
def ShaKnownWrongFalsely : Prop := shaKnownRow.holds Try.pinned (OpenSpec.ofChange shaKnownWrong)

/-- 'handsellaw01.ShaLengths': WHATEVER THE INPUT: true; the input reads as it did. -/
def shaLengthsSpec : ChangeSpec := { name := "shaLengths", fn := fun _ => fun
  | [d1, d2] => { results := [.lit (.bool true)], args := [d1, d2] }
  | _ => none }
def shaLengthsRow : OpenClaim := { program := "ytnimkejbeogciaa", sum := "249aa4079cc1461d4acbc8649af777a8dee6c703d17515c5dcf4d4b15ef6c13e", func := "handsel/handsellaw01.ShaLengths", spec := "shaLengths", inPlace := ["internal/abi.NoEscape"], apart := false }
def ShaLengthsSaid : Prop := shaLengthsRow.holds Try.pinned (OpenSpec.ofChange shaLengthsSpec)

/-- ITS FALSE NEIGHBOUR: 'it returns false'. Refute it at one input. -/
def shaLengthsWrong : ChangeSpec := { name := "shaLengths", fn := fun _ => fun
  | [d1, d2] => { results := [.lit (.bool false)], args := [d1, d2] }
  | _ => none }
def ShaLengthsWrongFalsely : Prop := shaLengthsRow.holds Try.pinned (OpenSpec.ofChange shaLengthsWrong)

/-- 'handsellaw01.ShaTexts': WHATEVER THE INPUT: true; the input reads as it did. -/
def shaTextsSpec : ChangeSpec := { name := "shaTexts", fn := fun _ => fun
  | [d] => { results := [.lit (.bool true)], args := [d] }
  | _ => none }
def shaTextsRow : OpenClaim := { program := "ytnimkejbeogciaa", sum := "249aa4079cc1461d4acbc8649af777a8dee6c703d17515c5dcf4d4b15ef6c13e", func := "handsel/handsellaw01.ShaTexts", spec := "shaTexts", inPlace := ["internal/abi.NoEscape"], apart := false }
def ShaTextsSaid : Prop := shaTextsRow.holds Try.pinned (OpenSpec.ofChange shaTextsSpec)

/-- ITS FALSE NEIGHBOUR: 'it returns false'. Refute it at one input. -/
def shaTextsWrong : ChangeSpec := { name := "shaTexts", fn := fun _ => fun
  | [d] => { results := [.lit (.bool false)], args := [d] }
  | _ => none }
def ShaTextsWrongFalsely : Prop := shaTextsRow.holds Try.pinned (OpenSpec.ofChange shaTextsWrong)

/-- 'handsellaw02.OtsAll': WHATEVER THE INPUT: true; the input reads as it did. -/
def otsAllSpec : ChangeSpec := { name := "otsAll", fn := fun _ => fun
  | [d1, d2, d3, d4, d5, d6, d7] => { results := [.lit (.bool true)], args := [d1, d2, d3, d4, d5, d6, d7] }
  | _ => none }
def otsAllRow : OpenClaim := { program := "ytnimkejbeogciaa", sum := "249aa4079cc1461d4acbc8649af777a8dee6c703d17515c5dcf4d4b15ef6c13e", func := "handsel/handsellaw02.OtsAll", spec := "otsAll", inPlace := ["internal/abi.NoEscape"], unfollowed := true, recurses := true, apart := false }
def OtsAllSaid : Prop := otsAllRow.holds Try.pinned (OpenSpec.ofChange otsAllSpec)

/-- ITS FALSE NEIGHBOUR: 'it returns false'. Refute it at one input. -/
def otsAllWrong : ChangeSpec := { name := "otsAll", fn := fun _ => fun
  | [d1, d2, d3, d4, d5, d6, d7] => { results := [.lit (.bool false)], args := [d1, d2, d3, d4, d5, d6, d7] }
  | _ => none }
def OtsAllWrongFalsely : Prop := otsAllRow.holds Try.pinned (OpenSpec.ofChange otsAllWrong)

/-- 'handsellaw02.OtsVerifies': WHATEVER THE INPUT: true; the input reads as it did. -/
def otsVerifiesSpec : ChangeSpec := { name := "otsVerifies", fn := fun _ => fun
  | [d1, d2, d3] => { results := [.lit (.bool true)], args := [d1, d2, d3] }
  | _ => none }
def otsVerifiesRow : OpenClaim := { program := "ytnimkejbeogciaa", sum := "249aa4079cc1461d4acbc8649af777a8dee6c703d17515c5dcf4d4b15ef6c13e", func := "handsel/handsellaw02.OtsVerifies", spec := "otsVerifies", inPlace := ["internal/abi.NoEscape"], unfollowed := true, recurses := true, apart := false }
def OtsVerifiesSaid : Prop := otsVerifiesRow.holds Try.pinned (OpenSpec.ofChange otsVerifiesSpec)

/-- ITS FALSE NEIGHBOUR: 'it returns false'. Refute it at one input. -/
def otsVerifiesWrong : ChangeSpec := { name := "otsVerifies", fn := fun _ => fun
  | [d1, d2, d3] => { results := [.lit (.bool false)], args := [d1, d2, d3] }
  | _ => none }
def OtsVerifiesWrongFalsely : Prop := otsVerifiesRow.holds Try.pinned (OpenSpec.ofChange otsVerifiesWrong)

/-- 'handsellaw02.OtsTurned': WHATEVER THE INPUT: true; the input reads as it did. -/
def otsTurnedSpec : ChangeSpec := { name := "otsTurned", fn := fun _ => fun
  | [d1, d2, d3, d4, d5] => { results := [.lit (.bool true)], args := [d1, d2, d3, d4, d5] }
  | _ => none }
def otsTurnedRow : OpenClaim := { program := "ytnimkejbeogciaa", sum := "249aa4079cc1461d4acbc8649af777a8dee6c703d17515c5dcf4d4b15ef6c13e", func := "handsel/handsellaw02.OtsTurned", spec := "otsTurned", inPlace := ["internal/abi.NoEscape"], unfollowed := true, recurses := true, apart := false }
def OtsTurnedSaid : Prop := otsTurnedRow.holds Try.pinned (OpenSpec.ofChange otsTurnedSpec)

/-- ITS FALSE NEIGHBOUR: 'it returns false'. Refute it at one input. -/
def otsTurnedWrong : ChangeSpec := { name := "otsTurned", fn := fun _ => fun
  | [d1, d2, d3, d4, d5] => { results := [.lit (.bool false)], args := [d1, d2, d3, d4, d5] }
  | _ => none }
def OtsTurnedWrongFalsely : Prop := otsTurnedRow.holds Try.pinned (OpenSpec.ofChange otsTurnedWrong)

/-- 'handsellaw02.OtsPieces': WHATEVER THE INPUT: true; the input reads as it did. -/
def otsPiecesSpec : ChangeSpec := { name := "otsPieces", fn := fun _ => fun
  | [d1, d2, d3] => { results := [.lit (.bool true)], args := [d1, d2, d3] }
  | _ => none }
def otsPiecesRow : OpenClaim := { program := "ytnimkejbeogciaa", sum := "249aa4079cc1461d4acbc8649af777a8dee6c703d17515c5dcf4d4b15ef6c13e", func := "handsel/handsellaw02.OtsPieces", spec := "otsPieces", inPlace := ["internal/abi.NoEscape"], unfollowed := true, recurses := true, apart := false }
def OtsPiecesSaid : Prop := otsPiecesRow.holds Try.pinned (OpenSpec.ofChange otsPiecesSpec)

/-- ITS FALSE NEIGHBOUR: 'it returns false'. Refute it at one input. -/
def otsPiecesWrong : ChangeSpec := { name := "otsPieces", fn := fun _ => fun
  | [d1, d2, d3] => { results := [.lit (.bool false)], args := [d1, d2, d3] }
  | _ => none }
def OtsPiecesWrongFalsely : Prop := otsPiecesRow.holds Try.pinned (OpenSpec.ofChange otsPiecesWrong)

/-- 'handsellaw02.OtsNone': WHATEVER THE INPUT: true; the input reads as it did. -/
def otsNoneSpec : ChangeSpec := { name := "otsNone", fn := fun _ => fun
  | [d1, d2, d3] => { results := [.lit (.bool true)], args := [d1, d2, d3] }
  | _ => none }
def otsNoneRow : OpenClaim := { program := "ytnimkejbeogciaa", sum := "249aa4079cc1461d4acbc8649af777a8dee6c703d17515c5dcf4d4b15ef6c13e", func := "handsel/handsellaw02.OtsNone", spec := "otsNone", inPlace := ["internal/abi.NoEscape"], unfollowed := true, recurses := true, apart := false }
def OtsNoneSaid : Prop := otsNoneRow.holds Try.pinned (OpenSpec.ofChange otsNoneSpec)

/-- ITS FALSE NEIGHBOUR: 'it returns false'. Refute it at one input. -/
def otsNoneWrong : ChangeSpec := { name := "otsNone", fn := fun _ => fun
  | [d1, d2, d3] => { results := [.lit (.bool false)], args := [d1, d2, d3] }
  | _ => none }
def OtsNoneWrongFalsely : Prop := otsNoneRow.holds Try.pinned (OpenSpec.ofChange otsNoneWrong)

/-- 'handsellaw16.WalScans': WHATEVER THE INPUT: true; the input reads as it did. -/
def walScansSpec : ChangeSpec := { name := "walScans", fn := fun _ => fun
  | [d1, d2] => { results := [.lit (.bool true)], args := [d1, d2] }
  | _ => none }
def walScansRow : OpenClaim := { program := "ytnimkejbeogciaa", sum := "249aa4079cc1461d4acbc8649af777a8dee6c703d17515c5dcf4d4b15ef6c13e", func := "handsel/handsellaw16.WalScans", spec := "walScans", inPlace := ["internal/abi.NoEscape"], unfollowed := true, recurses := true, apart := false }
def WalScansSaid : Prop := walScansRow.holds Try.pinned (OpenSpec.ofChange walScansSpec)

/-- ITS FALSE NEIGHBOUR: 'it returns false'. Refute it at one input. -/
def walScansWrong : ChangeSpec := { name := "walScans", fn := fun _ => fun
  | [d1, d2] => { results := [.lit (.bool false)], args := [d1, d2] }
  | _ => none }
def WalScansWrongFalsely : Prop := walScansRow.holds Try.pinned (OpenSpec.ofChange walScansWrong)

/-- 'handsellaw16.WalPrefix': WHATEVER THE INPUT: true; the input reads as it did. -/
def walPrefixSpec : ChangeSpec := { name := "walPrefix", fn := fun _ => fun
  | [d1, d2] => { results := [.lit (.bool true)], args := [d1, d2] }
  | _ => none }
def walPrefixRow : OpenClaim := { program := "ytnimkejbeogciaa", sum := "249aa4079cc1461d4acbc8649af777a8dee6c703d17515c5dcf4d4b15ef6c13e", func := "handsel/handsellaw16.WalPrefix", spec := "walPrefix", inPlace := ["internal/abi.NoEscape"], unfollowed := true, recurses := true, apart := false }
def WalPrefixSaid : Prop := walPrefixRow.holds Try.pinned (OpenSpec.ofChange walPrefixSpec)

/-- ITS FALSE NEIGHBOUR: 'it returns false'. Refute it at one input. -/
def walPrefixWrong : ChangeSpec := { name := "walPrefix", fn := fun _ => fun
  | [d1, d2] => { results := [.lit (.bool false)], args := [d1, d2] }
  | _ => none }
def WalPrefixWrongFalsely : Prop := walPrefixRow.holds Try.pinned (OpenSpec.ofChange walPrefixWrong)

/-- 'handsellaw16.WalForms': WHATEVER THE INPUT: true; the input reads as it did. -/
def walFormsSpec : ChangeSpec := { name := "walForms", fn := fun _ => fun
  | [d1, d2, d3] => { results := [.lit (.bool true)], args := [d1, d2, d3] }
  | _ => none }
def walFormsRow : OpenClaim := { program := "ytnimkejbeogciaa", sum := "249aa4079cc1461d4acbc8649af777a8dee6c703d17515c5dcf4d4b15ef6c13e", func := "handsel/handsellaw16.WalForms", spec := "walForms", inPlace := ["internal/abi.NoEscape"], unfollowed := true, recurses := true, apart := false }
def WalFormsSaid : Prop := walFormsRow.holds Try.pinned (OpenSpec.ofChange walFormsSpec)

/-- ITS FALSE NEIGHBOUR: 'it returns false'. Refute it at one input. -/
def walFormsWrong : ChangeSpec := { name := "walForms", fn := fun _ => fun
  | [d1, d2, d3] => { results := [.lit (.bool false)], args := [d1, d2, d3] }
  | _ => none }
def WalFormsWrongFalsely : Prop := walFormsRow.holds Try.pinned (OpenSpec.ofChange walFormsWrong)

/- THE SECOND FORM. 'bulk': how many values and letters a reading holds, each counted each time it is reached (what is shared counts as often as it is met; a slice's spare places count too). A statement '..UptoSaid' is the law's where the arguments, and the package variables that the reading takes, are together of bulk at most 1048576: NARROWER than '..Said'. Prove '..Said' where nothing that the law and all that it calls make is longer than what came in: it says more and counts as full. Else prove '..UptoSaid'. A law counts once. -/
mutual
def uptoBulk {H : Type} : DataW H → Nat
  | .lit (.string bytes) => bytes.length + 1
  | .lit _ => 1
  | .nil => 1
  | .ptr d => uptoBulk d + 1
  | .slice elems spare => uptoBulkAll elems + uptoBulkAll spare + 1
  | .agg parts => uptoBulkAll parts + 1
  | .iface _ d => uptoBulk d + 1
  | .map entries => uptoBulkEntries entries + 1
  | .held _ => 1
def uptoBulkAll {H : Type} : List (DataW H) → Nat
  | [] => 0
  | d :: r => uptoBulk d + uptoBulkAll r
def uptoBulkEntries {H : Type} : List (Lit × DataW H) → Nat
  | [] => 0
  | x :: r => uptoBulkEntry x + uptoBulkEntries r
def uptoBulkEntry {H : Type} : Lit × DataW H → Nat
  | (.string bytes, d) => bytes.length + uptoBulk d + 1
  | (_, d) => uptoBulk d + 1
 end
def uptoSmall : (H : Type) → List (DataW H) → Bool := fun _ ds => decide (uptoBulkAll ds ≤ 1048576)
def OpenSpec.upto (s : _root_.Go.ChangeSpec) : _root_.Go.OpenSpec := { _root_.Go.OpenSpec.ofChange s with cond := some uptoSmall }

/-- 'handsellaw01.ShaAll', WHERE WHAT IT READS IS OF BULK AT MOST 1048576: true; the input reads as it did. -/
def shaAllUptoRow : OpenClaim := { program := "ytnimkejbeogciaa", sum := "249aa4079cc1461d4acbc8649af777a8dee6c703d17515c5dcf4d4b15ef6c13e", func := "handsel/handsellaw01.ShaAll", spec := "shaAll", inPlace := ["internal/abi.NoEscape"], apart := false, narrowed := true }
def ShaAllUptoSaid : Prop := shaAllUptoRow.holds Try.pinned (OpenSpec.upto shaAllSpec)

/-- 'handsellaw01.ShaKnown', WHERE WHAT IT READS IS OF BULK AT MOST 1048576: true; the input reads as it did. -/
def shaKnownUptoRow : OpenClaim := { program := "ytnimkejbeogciaa", sum := "249aa4079cc1461d4acbc8649af777a8dee6c703d17515c5dcf4d4b15ef6c13e", func := "handsel/handsellaw01.ShaKnown", spec := "shaKnown", inPlace := ["internal/abi.NoEscape"], apart := false, narrowed := true }
def ShaKnownUptoSaid : Prop := shaKnownUptoRow.holds Try.pinned (OpenSpec.upto shaKnownSpec)

/-- 'handsellaw01.ShaLengths', WHERE WHAT IT READS IS OF BULK AT MOST 1048576: true; the input reads as it did. -/
def shaLengthsUptoRow : OpenClaim := { program := "ytnimkejbeogciaa", sum := "249aa4079cc1461d4acbc8649af777a8dee6c703d17515c5dcf4d4b15ef6c13e", func := "handsel/handsellaw01.ShaLengths", spec := "shaLengths", inPlace := ["internal/abi.NoEscape"], apart := false, narrowed := true }
def ShaLengthsUptoSaid : Prop := shaLengthsUptoRow.holds Try.pinned (OpenSpec.upto shaLengthsSpec)

/-- 'handsellaw01.ShaTexts', WHERE WHAT IT READS IS OF BULK AT MOST 1048576: true; the input reads as it did. -/
def shaTextsUptoRow : OpenClaim := { program := "ytnimkejbeogciaa", sum := "249aa4079cc1461d4acbc8649af777a8dee6c703d17515c5dcf4d4b15ef6c13e", func := "handsel/handsellaw01.ShaTexts", spec := "shaTexts", inPlace := ["internal/abi.NoEscape"], apart := false, narrowed := true }
def ShaTextsUptoSaid : Prop := shaTextsUptoRow.holds Try.pinned (OpenSpec.upto shaTextsSpec)

/-- 'handsellaw02.OtsAll', WHERE WHAT IT READS IS OF BULK AT MOST 1048576: true; the input reads as it did. -/
def otsAllUptoRow : OpenClaim := { program := "ytnimkejbeogciaa", sum := "249aa4079cc1461d4acbc8649af777a8dee6c703d17515c5dcf4d4b15ef6c13e", func := "handsel/handsellaw02.OtsAll", spec := "otsAll", inPlace := ["internal/abi.NoEscape"], unfollowed := true, recurses := true, apart := false, narrowed := true }
def OtsAllUptoSaid : Prop := otsAllUptoRow.holds Try.pinned (OpenSpec.upto otsAllSpec)

/-- 'handsellaw02.OtsVerifies', WHERE WHAT IT READS IS OF BULK AT MOST 1048576: true; the input reads as it did. -/
def otsVerifiesUptoRow : OpenClaim := { program := "ytnimkejbeogciaa", sum := "249aa4079cc1461d4acbc8649af777a8dee6c703d17515c5dcf4d4b15ef6c13e", func := "handsel/handsellaw02.OtsVerifies", spec := "otsVerifies", inPlace := ["internal/abi.NoEscape"], unfollowed := true, recurses := true, apart := false, narrowed := true }
def OtsVerifiesUptoSaid : Prop := otsVerifiesUptoRow.holds Try.pinned (OpenSpec.upto otsVerifiesSpec)

/-- 'handsellaw02.OtsTurned', WHERE WHAT IT READS IS OF BULK AT MOST 1048576: true; the input reads as it did. -/
def otsTurnedUptoRow : OpenClaim := { program := "ytnimkejbeogciaa", sum := "249aa4079cc1461d4acbc8649af777a8dee6c703d17515c5dcf4d4b15ef6c13e", func := "handsel/handsellaw02.OtsTurned", spec := "otsTurned", inPlace := ["internal/abi.NoEscape"], unfollowed := true, recurses := true, apart := false, narrowed := true }
def OtsTurnedUptoSaid : Prop := otsTurnedUptoRow.holds Try.pinned (OpenSpec.upto otsTurnedSpec)

/-- 'handsellaw02.OtsPieces', WHERE WHAT IT READS IS OF BULK AT MOST 1048576: true; the input reads as it did. -/
def otsPiecesUptoRow : OpenClaim := { program := "ytnimkejbeogciaa", sum := "249aa4079cc1461d4acbc8649af777a8dee6c703d17515c5dcf4d4b15ef6c13e", func := "handsel/handsellaw02.OtsPieces", spec := "otsPieces", inPlace := ["internal/abi.NoEscape"], unfollowed := true, recurses := true, apart := false, narrowed := true }
def OtsPiecesUptoSaid : Prop := otsPiecesUptoRow.holds Try.pinned (OpenSpec.upto otsPiecesSpec)

/-- 'handsellaw02.OtsNone', WHERE WHAT IT READS IS OF BULK AT MOST 1048576: true; the input reads as it did. -/
def otsNoneUptoRow : OpenClaim := { program := "ytnimkejbeogciaa", sum := "249aa4079cc1461d4acbc8649af777a8dee6c703d17515c5dcf4d4b15ef6c13e", func := "handsel/handsellaw02.OtsNone", spec := "otsNone", inPlace := ["internal/abi.NoEscape"], unfollowed := true, recurses := true, apart := false, narrowed := true }
def OtsNoneUptoSaid : Prop := otsNoneUptoRow.holds Try.pinned (OpenSpec.upto otsNoneSpec)

/-- 'handsellaw16.WalScans', WHERE WHAT IT READS IS OF BULK AT MOST 1048576: true; the input reads as it did. -/
def walScansUptoRow : OpenClaim := { program := "ytnimkejbeogciaa", sum := "249aa4079cc1461d4acbc8649af777a8dee6c703d17515c5dcf4d4b15ef6c13e", func := "handsel/handsellaw16.WalScans", spec := "walScans", inPlace := ["internal/abi.NoEscape"], unfollowed := true, recurses := true, apart := false, narrowed := true }
def WalScansUptoSaid : Prop := walScansUptoRow.holds Try.pinned (OpenSpec.upto walScansSpec)

/-- 'handsellaw16.WalPrefix', WHERE WHAT IT READS IS OF BULK AT MOST 1048576: true; the input reads as it did. -/
def walPrefixUptoRow : OpenClaim := { program := "ytnimkejbeogciaa", sum := "249aa4079cc1461d4acbc8649af777a8dee6c703d17515c5dcf4d4b15ef6c13e", func := "handsel/handsellaw16.WalPrefix", spec := "walPrefix", inPlace := ["internal/abi.NoEscape"], unfollowed := true, recurses := true, apart := false, narrowed := true }
def WalPrefixUptoSaid : Prop := walPrefixUptoRow.holds Try.pinned (OpenSpec.upto walPrefixSpec)

/-- 'handsellaw16.WalForms', WHERE WHAT IT READS IS OF BULK AT MOST 1048576: true; the input reads as it did. -/
def walFormsUptoRow : OpenClaim := { program := "ytnimkejbeogciaa", sum := "249aa4079cc1461d4acbc8649af777a8dee6c703d17515c5dcf4d4b15ef6c13e", func := "handsel/handsellaw16.WalForms", spec := "walForms", inPlace := ["internal/abi.NoEscape"], unfollowed := true, recurses := true, apart := false, narrowed := true }
def WalFormsUptoSaid : Prop := walFormsUptoRow.holds Try.pinned (OpenSpec.upto walFormsSpec)

end Rows
end Go.Proofs.Ytnimkejbeogciaa
