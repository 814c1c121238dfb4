import Derived.Test.YtjgpklmkdkkooaaM13
import Derived.Test.YtjgpklmkdkkooaaTcG
import Derived.IntWalk
set_option linter.unusedVariables false
set_option linter.unusedSimpArgs false
set_option linter.unusedSectionVars false
namespace Go.Proofs.Ytjgpklmkdkkooaa
open Go Go.RowKit Sh Ic
structure gj where
 e0:Int
 e1:Int
abbrev gj.cells (x:gj):List TV:=[.int .i64 x.e0,.int .i64 x.e1]
def gj.tv (x:gj):TV:=.agg x.cells
instance:Inhabited gj:=⟨⟨default,default⟩⟩
structure ac where
 From:Int
 To:Int
 Ledger:Int
 Asset:ByteArray
 Amount:Int
abbrev ac.cells (x:ac):List TV:=[.int .i64 x.From,.int .i64 x.To,.int .i64 x.Ledger,.str x.Asset,.int .i64 x.Amount]
def ac.tv (x:ac):TV:=.agg x.cells
instance:Inhabited ac:=⟨⟨default,default,default,default,default⟩⟩
structure aj where
 Account:ByteArray
 Keys:(List ByteArray)
abbrev aj.cells (x:aj):List TV:=[.str x.Account,.sl (List.map TV.str x.Keys)]
def aj.tv (x:aj):TV:=.agg x.cells
instance:Inhabited aj:=⟨⟨default,default⟩⟩
structure af where
 ID:ByteArray
 Parties:(List aj)
 Arcs:(List ac)
 Leaders:(List Int)
 Locks:(List ByteArray)
 Start:Int
 Delta:Int
abbrev af.cells (x:af):List TV:=[.str x.ID,.sl (List.map aj.tv x.Parties),.sl (List.map ac.tv x.Arcs),.sl (List.map (TV.int .i64) x.Leaders),.sl (List.map TV.str x.Locks),.int .i64 x.Start,.int .i64 x.Delta]
def af.tv (x:af):TV:=.agg x.cells
instance:Inhabited af:=⟨⟨default,default,default,default,default,default,default⟩⟩
structure ah where
 Lock:Int
 Secret:ByteArray
 Path:(List Int)
 Sigs:(List ByteArray)
abbrev ah.cells (x:ah):List TV:=[.int .i64 x.Lock,.str x.Secret,.sl (List.map (TV.int .i64) x.Path),.sl (List.map TV.str x.Sigs)]
def ah.tv (x:ah):TV:=.agg x.cells
instance:Inhabited ah:=⟨⟨default,default,default,default⟩⟩
theorem CL:((((∀ x:gj,gj.cells x = [.int .i64 x.e0,.int .i64 x.e1]) ∧ (∀ x:gj,gj.tv x = .agg x.cells)) ∧ ((∀ x:ac,ac.cells x = [.int .i64 x.From,.int .i64 x.To,.int .i64 x.Ledger,.str x.Asset,.int .i64 x.Amount]) ∧ ((∀ x:ac,ac.tv x = .agg x.cells) ∧ (∀ x:aj,aj.cells x = [.str x.Account,.sl (List.map TV.str x.Keys)])))) ∧ (((∀ x:aj,aj.tv x = .agg x.cells) ∧ ((∀ x:af,af.cells x = [.str x.ID,.sl (List.map aj.tv x.Parties),.sl (List.map ac.tv x.Arcs),.sl (List.map (TV.int .i64) x.Leaders),.sl (List.map TV.str x.Locks),.int .i64 x.Start,.int .i64 x.Delta]) ∧ (∀ x:af,af.tv x = .agg x.cells))) ∧ ((∀ x:ah,ah.cells x = [.int .i64 x.Lock,.str x.Secret,.sl (List.map (TV.int .i64) x.Path),.sl (List.map TV.str x.Sigs)]) ∧ ((∀ x:ah,ah.tv x = .agg x.cells) ∧ (∀ x:ByteArray,dd x = List.map (TV.int .u8) (wv x)))))):=⟨⟨⟨(fun _ => rfl),(fun _ => rfl)⟩,⟨(fun _ => rfl),⟨(fun _ => rfl),(fun _ => rfl)⟩⟩⟩,⟨⟨(fun _ => rfl),⟨(fun _ => rfl),(fun _ => rfl)⟩⟩,⟨(fun _ => rfl),⟨(fun _ => rfl),zbv0⟩⟩⟩⟩
open Go Go.RowKit Sh Ic
def zb8j (v:Int):Option ByteArray:=if 0 ≤ v ∧ v < 10 then some ((⟨#[48,49,50,51,52,53,54,55,56,57]⟩:ByteArray).extract v.toNat (v.toNat + 1)) else none
theorem zbvj (v:Int) (h0:0 ≤ v) (h9:v < 10) (τ:TH) (hl:τ.lock ≤ τ.next):Ru G po [.int .i64 v] τ (.str ((⟨#[48,49,50,51,52,53,54,55,56,57]⟩:ByteArray).extract v.toNat (v.toNat + 1))) τ:=by
 refine gp fun K hK => ?_
 rw [bc zdd6 (Nat.le_of_ble_eq_true rfl)]
 have c1:¬ v ≤ -10:=by omega
 have c2:¬ v < 0:=by omega
 have w1:IntKind.i64.wrap (v + 1) = v + 1:=IntWalk.i64_in _ ⟨by omega,by omega⟩
 have t1:(v + 1).toNat = v.toNat + 1:=by omega
 have b1:0 ≤ v + 1:=by omega
 have b2:v + 1 ≤ 10:=by omega
 have b3:v ≤ v + 1:=by omega
 have z:((ByteArray.size ⟨#[48,49,50,51,52,53,54,55,56,57]⟩:Nat):Int) = 10:=rfl
 simp only [zddo,TT,Ic.t,Ic.ci,Nat.reduceEqDiff,reduceCtorEq,c1,c2,h9,w1,t1,h0,b1,b2,z,oo,tHi,tLo]
 exact ⟨by omega,hK⟩
theorem zckk (p1:Int) (r:ByteArray) (h:zb8j p1 = some r) (lk:Bool) (d:Option Nat) (K:ap) (fr:TF) (tk:TK) (τ:TH) (hl:τ.lock ≤ τ.next):du G lk po [.int .i64 p1] d K fr tk τ = K (fp fr d (.str r)) tk τ:=by
 obtain ⟨⟨h1,h2⟩,h⟩:=ifS h
 injection h with h
 subst h
 have hr:=fun τ hl => zbvj p1 h1 h2 τ hl
 exact au (hr _ hl) (hr _ (Nat.le_refl _)) (by simp only [TT])
end Go.Proofs.Ytjgpklmkdkkooaa
