import Derived.Test.YtdcfoaafkppojaaM13
import Derived.Test.YtdcfoaafkppojaaTcG
import Derived.IntWalk
set_option linter.unusedVariables false
set_option linter.unusedSimpArgs false
set_option linter.unusedSectionVars false
namespace Go.Proofs.Ytdcfoaafkppojaa
open Go Go.RowKit Sh Ic
structure fo where
 e0 : Int
 e1 : Int
def fo.cells (x : fo) : List TV := [.int .i64 x.e0,.int .i64 x.e1]
def fo.tv (x : fo) : TV := .agg x.cells
instance : Inhabited fo := ⟨⟨default,default⟩⟩
structure af where
 From : Int
 To : Int
 Ledger : Int
 Asset : ByteArray
 Amount : Int
def af.cells (x : af) : List TV := [.int .i64 x.From,.int .i64 x.To,.int .i64 x.Ledger,.str x.Asset,.int .i64 x.Amount]
def af.tv (x : af) : TV := .agg x.cells
instance : Inhabited af := ⟨⟨default,default,default,default,default⟩⟩
structure ac where
 Account : ByteArray
 Keys : (List ByteArray)
def ac.cells (x : ac) : List TV := [.str x.Account,.sl (List.map TV.str x.Keys)]
def ac.tv (x : ac) : TV := .agg x.cells
instance : Inhabited ac := ⟨⟨default,default⟩⟩
structure aq where
 ID : ByteArray
 Parties : (List ac)
 Arcs : (List af)
 Leaders : (List Int)
 Locks : (List ByteArray)
 Start : Int
 Delta : Int
def aq.cells (x : aq) : List TV := [.str x.ID,.sl (List.map ac.tv x.Parties),.sl (List.map af.tv x.Arcs),.sl (List.map (TV.int .i64) x.Leaders),.sl (List.map TV.str x.Locks),.int .i64 x.Start,.int .i64 x.Delta]
def aq.tv (x : aq) : TV := .agg x.cells
instance : Inhabited aq := ⟨⟨default,default,default,default,default,default,default⟩⟩
structure aa where
 s_ : ByteArray
 bad_ : Bool
def aa.cells (x : aa) : List TV := [.str x.s_,.bool x.bad_]
def aa.tv (x : aa) : TV := .agg x.cells
instance : Inhabited aa := ⟨⟨default,default⟩⟩
theorem CL : ((((∀ x : fo,fo.cells x = [.int .i64 x.e0,.int .i64 x.e1]) ∧ (∀ x : fo,fo.tv x = .agg x.cells)) ∧ ((∀ x : af,af.cells x = [.int .i64 x.From,.int .i64 x.To,.int .i64 x.Ledger,.str x.Asset,.int .i64 x.Amount]) ∧ ((∀ x : af,af.tv x = .agg x.cells) ∧ (∀ x : ac,ac.cells x = [.str x.Account,.sl (List.map TV.str x.Keys)])))) ∧ (((∀ x : ac,ac.tv x = .agg x.cells) ∧ ((∀ x : aq,aq.cells x = [.str x.ID,.sl (List.map ac.tv x.Parties),.sl (List.map af.tv x.Arcs),.sl (List.map (TV.int .i64) x.Leaders),.sl (List.map TV.str x.Locks),.int .i64 x.Start,.int .i64 x.Delta]) ∧ (∀ x : aq,aq.tv x = .agg x.cells))) ∧ ((∀ x : aa,aa.cells x = [.str x.s_,.bool x.bad_]) ∧ ((∀ x : aa,aa.tv x = .agg x.cells) ∧ (∀ x : ByteArray,ce x = List.map (TV.int .u8) (qt x)))))) := ⟨⟨⟨(fun _ => rfl),(fun _ => rfl)⟩,⟨(fun _ => rfl),⟨(fun _ => rfl),(fun _ => rfl)⟩⟩⟩,⟨⟨(fun _ => rfl),⟨(fun _ => rfl),(fun _ => rfl)⟩⟩,⟨(fun _ => rfl),⟨(fun _ => rfl),zbsf⟩⟩⟩⟩
open Go Go.RowKit Sh Ic
noncomputable def uk (p1 : Int) (p2 : Int) : Option Int :=
 if ¬ p2 = 0 then
  if (Int.tmod p1 p2) < (0 : Int) then
   some (IntKind.i64.wrap ((Int.tmod p1 p2) + p2))
  else
  some (Int.tmod p1 p2)
 else
  none
theorem zcn5 (p1 : Int) (p2 : Int) (r : Int) (h : uk p1 p2 = some r) (τ : TH) (hl : τ.lock ≤ τ.next) : Ru G up [.int .i64 p1,.int .i64 p2] τ (.int .i64 r) τ := by
 refine jv fun K hK => ?_
 rw [bx zc4j (Nat.le_of_ble_eq_true rfl)]
 unfold uk at h
 obtain ⟨c1,h⟩ := ifS h
 by_cases c2 : (Int.tmod p1 p2) < (0 : Int)
 · rw [if_pos c2] at h
   injection h with h; subst h
   simp -implicitDefEqProofs only [zc2r,TT,Ic.t,Ic.ci,Nat.reduceEqDiff,reduceIte,Nat.reduceAdd,Nat.reduceLT,reduceCtorEq,Int.reduceToNat,hl,c1,c2,CL,LTN]
   exact hK
 rw [if_neg c2] at h
 injection h with h; subst h
 simp -implicitDefEqProofs only [zc2r,TT,Ic.t,Ic.ci,Nat.reduceEqDiff,reduceIte,Nat.reduceAdd,Nat.reduceLT,reduceCtorEq,Int.reduceToNat,hl,c1,c2,CL,LTN]
 exact hK
theorem zcc0 (p1 : Int) (p2 : Int) (r : Int) (h : uk p1 p2 = some r) (lk : Bool) (d : Option Nat) (K : av) (fr : TF) (tk : TK) (τ : TH) (hl : τ.lock ≤ τ.next) : fp G lk up [.int .i64 p1,.int .i64 p2] d K fr tk τ = K (gg fr d (.int .i64 r)) tk τ :=
 bn (zcn5 p1 p2 r h τ  hl) (zcn5 p1 p2 r h (τ.locked τ.next)  (Nat.le_refl _) ) (by simp -implicitDefEqProofs only [TT,Ic.t,Ic.ci,Nat.reduceEqDiff,reduceIte,Nat.reduceAdd,Nat.reduceLT,reduceCtorEq,Int.reduceToNat,hl,CL,LTN])
open Go Go.RowKit Sh Ic
def zb3o (v : Int) : Option ByteArray := if 0 ≤ v ∧ v < 10 then some ((⟨#[48,49,50,51,52,53,54,55,56,57]⟩ : ByteArray).extract v.toNat (v.toNat + 1)) else none
theorem zbr2 (v : Int) (h0 : 0 ≤ v) (h9 : v < 10) (τ : TH) (hl : τ.lock ≤ τ.next) : Ru G nk [.int .i64 v] τ (.str ((⟨#[48,49,50,51,52,53,54,55,56,57]⟩ : ByteArray).extract v.toNat (v.toNat + 1))) τ := by
 refine jv fun K hK => ?_
 rw [bx zc9o (Nat.le_of_ble_eq_true rfl)]
 have c1 : ¬ v ≤ -10 := by omega
 have c2 : ¬ v < 0 := by omega
 have w1 : IntKind.i64.wrap (v + 1) = v + 1 := IntWalk.i64_in _ ⟨by omega,by omega⟩
 have t1 : (v + 1).toNat = v.toNat + 1 := by omega
 have b1 : 0 ≤ v + 1 := by omega
 have b2 : v + 1 ≤ 10 := by omega
 have b3 : v ≤ v + 1 := by omega
 have z : ((ByteArray.size ⟨#[48,49,50,51,52,53,54,55,56,57]⟩ : Nat) : Int) = 10 := rfl
 simp -implicitDefEqProofs only [zc5k,TT,Ic.t,Ic.ci,Nat.reduceEqDiff,reduceIte,Nat.reduceAdd,Nat.reduceLT,reduceCtorEq,Int.reduceToNat,c1,c2,h9,w1,t1,h0,b1,b2,b3,hl,z,my,tHi,tLo,Option.map_some,Option.bind_some]
 exact ⟨by omega,hK⟩
theorem zcdk (p1 : Int) (r : ByteArray) (h : zb3o p1 = some r) (lk : Bool) (d : Option Nat) (K : av) (fr : TF) (tk : TK) (τ : TH) (hl : τ.lock ≤ τ.next) : fp G lk nk [.int .i64 p1] d K fr tk τ = K (gg fr d (.str r)) tk τ := by
 obtain ⟨⟨h1,h2⟩,h⟩ := ifS h
 injection h with h
 subst h
 have hr := fun τ hl => zbr2 p1 h1 h2 τ hl
 exact bn (hr _ hl) (hr _ (Nat.le_refl _)) (by simp -implicitDefEqProofs only [TT,Ic.t,Ic.ci,Nat.reduceEqDiff,reduceIte,Nat.reduceAdd,Nat.reduceLT,reduceCtorEq,Int.reduceToNat])
end Go.Proofs.Ytdcfoaafkppojaa
