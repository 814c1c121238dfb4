/-
  No cell of these rows narrows 'for every input' (looked for: loops, veiled, ifaces, maps, wideKeys, modest, calm, conditions, laid).
  DERIVED. THE GIVEN ROWS OF THIS SEAT. 3 by the template 'for every input the law returns true; each argument reads behind the call as it read before'; 0 by the template 'total and deterministic' (their statements: YtgkkienmocpnbaaTotals.lean).
  GIVEN WITH THE SEED: the statements are not yours to turn. If you find one false, say at which input.
  Laid BY PROGRAM, IN A SANDBOX (cutbox-rows.mjs): the forced cells as the released guide's own fill.sh prints them over the translation cc7c3e79fa54eaf8… (all of the seat's roots in one cut). By AI agents, Wed Nov 11 2026. No macro, syntax, notation, axiom, sorry.
-/
import Derived.Test.YtgkkienmocpnbaaChecked
import GoSem.Claim
import GoSem.ClaimJoined
import GoSem.ClaimMapViews
import Derived.JoinedTies
import Derived.KernelRfl
namespace Go.Proofs.Ytgkkienmocpnbaa
/- THE CELL 'sum', in the pinned program and in every row, IS THE sha256 OF THE DUMP (.gsa) THAT YtgkkienmocpnbaaProg.lean LOADS. Nothing in Lean hashes anything: it is a label: what it is worth is what the hold of that sum in a sandbox is worth. -/
noncomputable def Try.pinned : Pinned := { name := "ytgkkienmocpnbaa", sum := "cc7c3e79fa54eaf88977c9e363872a98bdabf80b82ecff146e0d937d3cfe9542", checked := Try.checked }
namespace Rows
def none {H : Type} : Left H := { results := [], args := [] }

/-- 'handsellaw16.WalScans': WHATEVER THE INPUT: true; the input reads as it did. -/
def walScansSpec : ChangeSpec := { name := "walScans", fn := fun _ => fun
  | [d1, d2] => { results := [.lit (.bool true)], args := [d1, d2] }
  | _ => none }
def walScansRow : OpenClaim := { program := "ytgkkienmocpnbaa", sum := "cc7c3e79fa54eaf88977c9e363872a98bdabf80b82ecff146e0d937d3cfe9542", func := "handsel/handsellaw16.WalScans", spec := "walScans", inPlace := ["internal/abi.NoEscape"], unfollowed := true, recurses := true, apart := false }
def WalScansSaid : Prop := walScansRow.holds Try.pinned (OpenSpec.ofChange walScansSpec)

/-- ITS FALSE NEIGHBOUR: 'it returns false'. Refute it at one input. -/
def walScansWrong : ChangeSpec := { name := "walScans", fn := fun _ => fun
  | [d1, d2] => { results := [.lit (.bool false)], args := [d1, d2] }
  | _ => none }
def WalScansWrongFalsely : Prop := walScansRow.holds Try.pinned (OpenSpec.ofChange walScansWrong)

/-- 'handsellaw16.WalPrefix': WHATEVER THE INPUT: true; the input reads as it did. -/
def walPrefixSpec : ChangeSpec := { name := "walPrefix", fn := fun _ => fun
  | [d1, d2] => { results := [.lit (.bool true)], args := [d1, d2] }
  | _ => none }
def walPrefixRow : OpenClaim := { program := "ytgkkienmocpnbaa", sum := "cc7c3e79fa54eaf88977c9e363872a98bdabf80b82ecff146e0d937d3cfe9542", func := "handsel/handsellaw16.WalPrefix", spec := "walPrefix", inPlace := ["internal/abi.NoEscape"], unfollowed := true, recurses := true, apart := false }
def WalPrefixSaid : Prop := walPrefixRow.holds Try.pinned (OpenSpec.ofChange walPrefixSpec)

/-- ITS FALSE NEIGHBOUR: 'it returns false'. Refute it at one input. -/
def walPrefixWrong : ChangeSpec := { name := "walPrefix", fn := fun _ => fun
  | [d1, d2] => { results := [.lit (.bool false)], args := [d1, d2] }
  | _ => none }
def WalPrefixWrongFalsely : Prop := walPrefixRow.holds Try.pinned (OpenSpec.ofChange walPrefixWrong)

/-- 'handsellaw16.WalForms': WHATEVER THE INPUT: true; the input reads as it did. -/
def walFormsSpec : ChangeSpec := { name := "walForms", fn := fun _ => fun
  | [d1, d2, d3] => { results := [.lit (.bool true)], args := [d1, d2, d3] }
  | _ => none }
def walFormsRow : OpenClaim := { program := "ytgkkienmocpnbaa", sum := "cc7c3e79fa54eaf88977c9e363872a98bdabf80b82ecff146e0d937d3cfe9542", func := "handsel/handsellaw16.WalForms", spec := "walForms", inPlace := ["internal/abi.NoEscape"], unfollowed := true, recurses := true, apart := false }
def WalFormsSaid : Prop := walFormsRow.holds Try.pinned (OpenSpec.ofChange walFormsSpec)

/-- ITS FALSE NEIGHBOUR: 'it returns false'. Refute it at one input. -/
def walFormsWrong : ChangeSpec := { name := "walForms", fn := fun _ => fun
  | [d1, d2, d3] => { results := [.lit (.bool false)], args := [d1, d2, d3] }
  | _ => none }
def WalFormsWrongFalsely : Prop := walFormsRow.holds Try.pinned (OpenSpec.ofChange walFormsWrong)

/- THE SECOND FORM. 'bulk': how many values and letters a reading holds, each counted each time it is reached (what is shared counts as often as it is met; a slice's spare places count too). A statement '..UptoSaid' is the law's where the arguments, and the package variables that the reading takes, are together of bulk at most 1048576: NARROWER than '..Said'. Prove '..Said' where nothing that the law and all that it calls make is longer than what came in: it says more and counts as full. Else prove '..UptoSaid'. A law counts once. -/
mutual
def uptoBulk {H : Type} : DataW H → Nat
  | .lit (.string bytes) => bytes.length + 1
  | .lit _ => 1
  | .nil => 1
  | .ptr d => uptoBulk d + 1
  | .slice elems spare => uptoBulkAll elems + uptoBulkAll spare + 1
  | .agg parts => uptoBulkAll parts + 1
  | .iface _ d => uptoBulk d + 1
  | .map entries => uptoBulkEntries entries + 1
  | .held _ => 1
def uptoBulkAll {H : Type} : List (DataW H) → Nat
  | [] => 0
  | d :: r => uptoBulk d + uptoBulkAll r
def uptoBulkEntries {H : Type} : List (Lit × DataW H) → Nat
  | [] => 0
  | x :: r => uptoBulkEntry x + uptoBulkEntries r
def uptoBulkEntry {H : Type} : Lit × DataW H → Nat
  | (.string bytes, d) => bytes.length + uptoBulk d + 1
  | (_, d) => uptoBulk d + 1
 end
def uptoSmall : (H : Type) → List (DataW H) → Bool := fun _ ds => decide (uptoBulkAll ds ≤ 1048576)
def OpenSpec.upto (s : _root_.Go.ChangeSpec) : _root_.Go.OpenSpec := { _root_.Go.OpenSpec.ofChange s with cond := some uptoSmall }

/-- 'handsellaw16.WalScans', WHERE WHAT IT READS IS OF BULK AT MOST 1048576: true; the input reads as it did. -/
def walScansUptoRow : OpenClaim := { program := "ytgkkienmocpnbaa", sum := "cc7c3e79fa54eaf88977c9e363872a98bdabf80b82ecff146e0d937d3cfe9542", func := "handsel/handsellaw16.WalScans", spec := "walScans", inPlace := ["internal/abi.NoEscape"], unfollowed := true, recurses := true, apart := false, narrowed := true }
def WalScansUptoSaid : Prop := walScansUptoRow.holds Try.pinned (OpenSpec.upto walScansSpec)

/-- 'handsellaw16.WalPrefix', WHERE WHAT IT READS IS OF BULK AT MOST 1048576: true; the input reads as it did. -/
def walPrefixUptoRow : OpenClaim := { program := "ytgkkienmocpnbaa", sum := "cc7c3e79fa54eaf88977c9e363872a98bdabf80b82ecff146e0d937d3cfe9542", func := "handsel/handsellaw16.WalPrefix", spec := "walPrefix", inPlace := ["internal/abi.NoEscape"], unfollowed := true, recurses := true, apart := false, narrowed := true }
def WalPrefixUptoSaid : Prop := walPrefixUptoRow.holds Try.pinned (OpenSpec.upto walPrefixSpec)

/-- 'handsellaw16.WalForms', WHERE WHAT IT READS IS OF BULK AT MOST 1048576: true; the input reads as it did. -/
def walFormsUptoRow : OpenClaim := { program := "ytgkkienmocpnbaa", sum := "cc7c3e79fa54eaf88977c9e363872a98bdabf80b82ecff146e0d937d3cfe9542", func := "handsel/handsellaw16.WalForms", spec := "walForms", inPlace := ["internal/abi.NoEscape"], unfollowed := true, recurses := true, apart := false, narrowed := true }
def WalFormsUptoSaid : Prop := walFormsUptoRow.holds Try.pinned (OpenSpec.upto walFormsSpec)

end Rows
end Go.Proofs.Ytgkkienmocpnbaa
