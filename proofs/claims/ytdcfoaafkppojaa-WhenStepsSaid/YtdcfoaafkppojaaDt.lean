/- Functions of numbers and lists, printed by a program of ours out of the code for the tree level, with their proofs. -/
import Derived.Test.YtdcfoaafkppojaaDc
import Derived.Test.YtdcfoaafkppojaaTcG
set_option linter.unusedVariables false
set_option linter.unusedSimpArgs false
set_option linter.unusedSectionVars false
namespace Go.Proofs.Ytdcfoaafkppojaa
open Go Go.RowKit Sh Ic
structure A_2_Int where
  e0 : Int
  e1 : Int
def A_2_Int.cells (x : A_2_Int) : List TV := [.int .i64 x.e0,.int .i64 x.e1]
def A_2_Int.tv (x : A_2_Int) : TV := .agg x.cells
instance : Inhabited A_2_Int := ⟨⟨default,default⟩⟩
structure S_api_Arc where
  From : Int
  To : Int
  Ledger : Int
  Asset : ByteArray
  Amount : Int
def S_api_Arc.cells (x : S_api_Arc) : List TV := [.int .i64 x.From,.int .i64 x.To,.int .i64 x.Ledger,.str x.Asset,.int .i64 x.Amount]
def S_api_Arc.tv (x : S_api_Arc) : TV := .agg x.cells
instance : Inhabited S_api_Arc := ⟨⟨default,default,default,default,default⟩⟩
structure S_api_Party where
  Account : ByteArray
  Keys : (List ByteArray)
def S_api_Party.cells (x : S_api_Party) : List TV := [.str x.Account,.sl (List.map TV.str x.Keys)]
def S_api_Party.tv (x : S_api_Party) : TV := .agg x.cells
instance : Inhabited S_api_Party := ⟨⟨default,default⟩⟩
structure S_api_Spec where
  ID : ByteArray
  Parties : (List S_api_Party)
  Arcs : (List S_api_Arc)
  Leaders : (List Int)
  Locks : (List ByteArray)
  Start : Int
  Delta : Int
def S_api_Spec.cells (x : S_api_Spec) : List TV := [.str x.ID,.sl (List.map S_api_Party.tv x.Parties),.sl (List.map S_api_Arc.tv x.Arcs),.sl (List.map (TV.int .i64) x.Leaders),.sl (List.map TV.str x.Locks),.int .i64 x.Start,.int .i64 x.Delta]
def S_api_Spec.tv (x : S_api_Spec) : TV := .agg x.cells
instance : Inhabited S_api_Spec := ⟨⟨default,default,default,default,default,default,default⟩⟩
theorem CL : ((((∀ x : A_2_Int,A_2_Int.cells x = [.int .i64 x.e0,.int .i64 x.e1]) ∧ (∀ x : A_2_Int,A_2_Int.tv x = .agg x.cells)) ∧ ((∀ x : S_api_Arc,S_api_Arc.cells x = [.int .i64 x.From,.int .i64 x.To,.int .i64 x.Ledger,.str x.Asset,.int .i64 x.Amount]) ∧ (∀ x : S_api_Arc,S_api_Arc.tv x = .agg x.cells))) ∧ (((∀ x : S_api_Party,S_api_Party.cells x = [.str x.Account,.sl (List.map TV.str x.Keys)]) ∧ (∀ x : S_api_Party,S_api_Party.tv x = .agg x.cells)) ∧ ((∀ x : S_api_Spec,S_api_Spec.cells x = [.str x.ID,.sl (List.map S_api_Party.tv x.Parties),.sl (List.map S_api_Arc.tv x.Arcs),.sl (List.map (TV.int .i64) x.Leaders),.sl (List.map TV.str x.Locks),.int .i64 x.Start,.int .i64 x.Delta]) ∧ ((∀ x : S_api_Spec,S_api_Spec.tv x = .agg x.cells) ∧ (∀ x : ByteArray,bytesTV x = List.map (TV.int .u8) (bytesL x)))))) := ⟨⟨⟨(fun _ => rfl),(fun _ => rfl)⟩,⟨(fun _ => rfl),(fun _ => rfl)⟩⟩,⟨⟨(fun _ => rfl),(fun _ => rfl)⟩,⟨(fun _ => rfl),⟨(fun _ => rfl),bytesTV_L⟩⟩⟩⟩
end Go.Proofs.Ytdcfoaafkppojaa
