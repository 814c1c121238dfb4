/- Functions of numbers and lists, printed by a program of ours out of the code for the tree level, with their proofs. -/
import Derived.Test.YtdcfoaafkppojaaDc
import Derived.Test.YtdcfoaafkppojaaTcG
set_option linter.unusedVariables false
set_option linter.unusedSimpArgs false
set_option linter.unusedSectionVars false
namespace Go.Proofs.Ytdcfoaafkppojaa
open Go Go.RowKit Sh Ic
structure da where
  e0 : Int
  e1 : Int
def da.cells (x : da) : List TV := [.int .i64 x.e0,.int .i64 x.e1]
def da.tv (x : da) : TV := .agg x.cells
instance : Inhabited da := ⟨⟨default,default⟩⟩
structure af where
  From : Int
  To : Int
  Ledger : Int
  Asset : ByteArray
  Amount : Int
def af.cells (x : af) : List TV := [.int .i64 x.From,.int .i64 x.To,.int .i64 x.Ledger,.str x.Asset,.int .i64 x.Amount]
def af.tv (x : af) : TV := .agg x.cells
instance : Inhabited af := ⟨⟨default,default,default,default,default⟩⟩
structure ac where
  Account : ByteArray
  Keys : (List ByteArray)
def ac.cells (x : ac) : List TV := [.str x.Account,.sl (List.map TV.str x.Keys)]
def ac.tv (x : ac) : TV := .agg x.cells
instance : Inhabited ac := ⟨⟨default,default⟩⟩
structure aa where
  ID : ByteArray
  Parties : (List ac)
  Arcs : (List af)
  Leaders : (List Int)
  Locks : (List ByteArray)
  Start : Int
  Delta : Int
def aa.cells (x : aa) : List TV := [.str x.ID,.sl (List.map ac.tv x.Parties),.sl (List.map af.tv x.Arcs),.sl (List.map (TV.int .i64) x.Leaders),.sl (List.map TV.str x.Locks),.int .i64 x.Start,.int .i64 x.Delta]
def aa.tv (x : aa) : TV := .agg x.cells
instance : Inhabited aa := ⟨⟨default,default,default,default,default,default,default⟩⟩
theorem CL : ((((∀ x : da,da.cells x = [.int .i64 x.e0,.int .i64 x.e1]) ∧ (∀ x : da,da.tv x = .agg x.cells)) ∧ ((∀ x : af,af.cells x = [.int .i64 x.From,.int .i64 x.To,.int .i64 x.Ledger,.str x.Asset,.int .i64 x.Amount]) ∧ (∀ x : af,af.tv x = .agg x.cells))) ∧ (((∀ x : ac,ac.cells x = [.str x.Account,.sl (List.map TV.str x.Keys)]) ∧ (∀ x : ac,ac.tv x = .agg x.cells)) ∧ ((∀ x : aa,aa.cells x = [.str x.ID,.sl (List.map ac.tv x.Parties),.sl (List.map af.tv x.Arcs),.sl (List.map (TV.int .i64) x.Leaders),.sl (List.map TV.str x.Locks),.int .i64 x.Start,.int .i64 x.Delta]) ∧ ((∀ x : aa,aa.tv x = .agg x.cells) ∧ (∀ x : ByteArray,ej x = List.map (TV.int .u8) (rv x)))))) := ⟨⟨⟨(fun _ => rfl),(fun _ => rfl)⟩,⟨(fun _ => rfl),(fun _ => rfl)⟩⟩,⟨⟨(fun _ => rfl),(fun _ => rfl)⟩,⟨(fun _ => rfl),⟨(fun _ => rfl),bytesTV_L⟩⟩⟩⟩
end Go.Proofs.Ytdcfoaafkppojaa
