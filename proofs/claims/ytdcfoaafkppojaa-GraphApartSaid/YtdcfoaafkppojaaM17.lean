import Derived.Test.YtdcfoaafkppojaaM13
import Derived.Test.YtdcfoaafkppojaaTcG
import Derived.IntWalk
set_option linter.unusedVariables false
set_option linter.unusedSimpArgs false
set_option linter.unusedSectionVars false
namespace Go.Proofs.Ytdcfoaafkppojaa
open Go Go.RowKit Sh Ic
structure dk where
 e0 : Int
 e1 : Int
def dk.cells (x : dk) : List TV := [.int .i64 x.e0,.int .i64 x.e1]
def dk.tv (x : dk) : TV := .agg x.cells
instance : Inhabited dk := ⟨⟨default,default⟩⟩
structure aa where
 From : Int
 To : Int
 Ledger : Int
 Asset : ByteArray
 Amount : Int
def aa.cells (x : aa) : List TV := [.int .i64 x.From,.int .i64 x.To,.int .i64 x.Ledger,.str x.Asset,.int .i64 x.Amount]
def aa.tv (x : aa) : TV := .agg x.cells
instance : Inhabited aa := ⟨⟨default,default,default,default,default⟩⟩
structure af where
 Account : ByteArray
 Keys : (List ByteArray)
def af.cells (x : af) : List TV := [.str x.Account,.sl (List.map TV.str x.Keys)]
def af.tv (x : af) : TV := .agg x.cells
instance : Inhabited af := ⟨⟨default,default⟩⟩
structure ac where
 ID : ByteArray
 Parties : (List af)
 Arcs : (List aa)
 Leaders : (List Int)
 Locks : (List ByteArray)
 Start : Int
 Delta : Int
def ac.cells (x : ac) : List TV := [.str x.ID,.sl (List.map af.tv x.Parties),.sl (List.map aa.tv x.Arcs),.sl (List.map (TV.int .i64) x.Leaders),.sl (List.map TV.str x.Locks),.int .i64 x.Start,.int .i64 x.Delta]
def ac.tv (x : ac) : TV := .agg x.cells
instance : Inhabited ac := ⟨⟨default,default,default,default,default,default,default⟩⟩
theorem CL : ((((∀ x : dk,dk.cells x = [.int .i64 x.e0,.int .i64 x.e1]) ∧ (∀ x : dk,dk.tv x = .agg x.cells)) ∧ ((∀ x : aa,aa.cells x = [.int .i64 x.From,.int .i64 x.To,.int .i64 x.Ledger,.str x.Asset,.int .i64 x.Amount]) ∧ (∀ x : aa,aa.tv x = .agg x.cells))) ∧ (((∀ x : af,af.cells x = [.str x.Account,.sl (List.map TV.str x.Keys)]) ∧ (∀ x : af,af.tv x = .agg x.cells)) ∧ ((∀ x : ac,ac.cells x = [.str x.ID,.sl (List.map af.tv x.Parties),.sl (List.map aa.tv x.Arcs),.sl (List.map (TV.int .i64) x.Leaders),.sl (List.map TV.str x.Locks),.int .i64 x.Start,.int .i64 x.Delta]) ∧ ((∀ x : ac,ac.tv x = .agg x.cells) ∧ (∀ x : ByteArray,ew x = List.map (TV.int .u8) (vu x)))))) := ⟨⟨⟨(fun _ => rfl),(fun _ => rfl)⟩,⟨(fun _ => rfl),(fun _ => rfl)⟩⟩,⟨⟨(fun _ => rfl),(fun _ => rfl)⟩,⟨(fun _ => rfl),⟨(fun _ => rfl),zbj1⟩⟩⟩⟩
open Go Go.RowKit Sh Ic
def vc (v : Int) : Option ByteArray := if 0 ≤ v ∧ v < 10 then some ((⟨#[48,49,50,51,52,53,54,55,56,57]⟩ : ByteArray).extract v.toNat (v.toNat + 1)) else none
theorem zbjp (v : Int) (h0 : 0 ≤ v) (h9 : v < 10) (τ : TH) (hl : τ.lock ≤ τ.next) : Ru G kq [.int .i64 v] τ (.str ((⟨#[48,49,50,51,52,53,54,55,56,57]⟩ : ByteArray).extract v.toNat (v.toNat + 1))) τ := by
 refine kb fun K hK => ?_
 rw [cb zcv8 (Nat.le_of_ble_eq_true rfl)]
 have c1 : ¬ v ≤ -10 := by omega
 have c2 : ¬ v < 0 := by omega
 have w1 : IntKind.i64.wrap (v + 1) = v + 1 := IntWalk.i64_in _ ⟨by omega,by omega⟩
 have t1 : (v + 1).toNat = v.toNat + 1 := by omega
 have b1 : 0 ≤ v + 1 := by omega
 have b2 : v + 1 ≤ 10 := by omega
 have b3 : v ≤ v + 1 := by omega
 have z : ((ByteArray.size ⟨#[48,49,50,51,52,53,54,55,56,57]⟩ : Nat) : Int) = 10 := rfl
 simp only [zcvn,TT,Ic.t,Ic.ci,Nat.reduceEqDiff,reduceIte,Nat.reduceAdd,Nat.reduceLT,reduceCtorEq,Int.reduceToNat,c1,c2,h9,w1,t1,h0,b1,b2,b3,hl,z,j8,tHi,tLo,Option.map_some,Option.bind_some]
 exact ⟨by omega,hK⟩
theorem zb2s (p1 : Int) (r : ByteArray) (h : vc p1 = some r) (lk : Bool) (d : Option Nat) (K : ap) (fr : TF) (tk : TK) (τ : TH) (hl : τ.lock ≤ τ.next) : fj G lk kq [.int .i64 p1] d K fr tk τ = K (eo fr d (.str r)) tk τ := by
 obtain ⟨⟨h1,h2⟩,h⟩ := ifS h
 injection h with h
 subst h
 have hr := fun τ hl => zbjp p1 h1 h2 τ hl
 exact av (hr _ hl) (hr _ (Nat.le_refl _)) (by simp only [TT,Ic.t,Ic.ci,Nat.reduceEqDiff,reduceIte,Nat.reduceAdd,Nat.reduceLT,reduceCtorEq,Int.reduceToNat])
end Go.Proofs.Ytdcfoaafkppojaa
