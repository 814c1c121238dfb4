import Derived.Test.YtdcfoaafkppojaaD4
set_option linter.unusedVariables false
set_option linter.unusedSectionVars false
set_option linter.unusedSimpArgs false
/- strings.Builder at the tree level: what its methods make of the bytes that it holds. -/
namespace Go.Proofs.Ytdcfoaafkppojaa
open Go Go.RowKit Sh Ic
def oc (id : Nat) (u : Bool) (b : ByteArray) : Ob := ⟨bq,bif u then [.ptr id 0,.slo fj (ce b)] else [.nilP,.slz]⟩
theorem zdbf (a b : ByteArray) : ce (a ++ b) = ce a ++ ce b := by
 unfold ce
 rw [ByteArray.data_append]
 simp
theorem zb83 (a : ByteArray) : (ce a).length = a.size := by unfold ce; simp
theorem zc39 (a : ByteArray) : ((ce a).all fun e => e.cells.length == 1 && e.pure) = true := by
 unfold ce; rw [List.all_map,List.all_eq_true]; intro x _; rfl
theorem zc5a (a : ByteArray) : ((ce a).all fun e => e.cells.length == 1) = true := by
 unfold ce; rw [List.all_map,List.all_eq_true]; intro x _; rfl
theorem zbln (a : ByteArray) : (ce a).all okB = true := by
 unfold ce; rw [List.all_map,List.all_eq_true]; intro x _
 have := x.toNat_lt
 simp only [Function.comp,okB,Bool.and_eq_true,decide_eq_true_eq]
 omega
theorem zc98 (a : ByteArray) : wg (ce a) = some a.data.toList := by
 have : ∀ l : List UInt8,wg (l.map fun b => TV.int .u8 b.toNat) = some l := fun l => by
  induction l with
  | nil => rfl
  | cons b r ih => simp only [List.map_cons,wg,ih,Option.map_some]; simp
 exact this _
theorem zc2t {a : ByteArray} (h : a.size = 0) : ce a = [] := List.eq_nil_of_length_eq_zero (by rw [zb83,h])
theorem zby9 (id : Nat) (c0 c1 : TV) (d : Option Nat) (K : av) (fr : TF) (tk : TK) (τ : TH) (ha : τ.at id = some ⟨bq,[c0,c1]⟩) (hi : id < τ.next) (hw : τ.lock ≤ id) (hc : c0 = .nilP ∨ c0 = .ptr id 0) :
 fp G false dx [.ptr id 0] d K fr tk τ = K (gg fr d (.tup [])) tk (τ.put id ⟨bq,[.ptr id 0,c1]⟩) := by
 refine n7 (zb5d zc8z ?_) (by simp -implicitDefEqProofs only [TT,Ic.t,Ic.ci,Nat.reduceEqDiff,reduceIte,Nat.reduceAdd,Nat.reduceLT,reduceCtorEq,Int.reduceToNat,hi])
 rcases hc with rfl | rfl
 · simp only [zb2v,ha,Option.bind_some,true_and,if_true,hw]
 · simp only [zb2v,ha,Option.bind_some,true_and,if_true,mi ha]
theorem zb7s (id : Nat) (b : ByteArray) : oc id true b = ⟨bq,[.ptr id 0,.slo fj (ce b)]⟩ := rfl
theorem gm (id : Nat) (b : ByteArray) : oc id false b = ⟨bq,[.nilP,.slz]⟩ := rfl
section
variable (b : ByteArray) (id : Nat) (u : Bool) (d : Option Nat) (K : av) (fr : TF) (tk : TK) (τ : TH) (ha : τ.at id = some (oc id u b)) (hi : id < τ.next) (hw : τ.lock ≤ id) (hl : τ.lock ≤ τ.next) (hu : u = true ∨ b.size = 0)
include ha hi hw hl hu
theorem zb44 (s : ByteArray) (hb : b.size + s.size ≤ 140737488355328) : fp G false a9 [.ptr id 0,.str s] d K fr tk τ = K (gg fr d (.tup [.int .i64 ((s.size : Nat) : Int),.nilI])) tk (τ.put id (oc id true (b ++ s))) := by
 refine n7 (jv fun K hK => ?_) (by simp -implicitDefEqProofs only [TT,Ic.t,Ic.ci,Nat.reduceEqDiff,reduceIte,Nat.reduceAdd,Nat.reduceLT,reduceCtorEq,Int.reduceToNat,hi])
 rw [bx zc88 (Nat.le_of_ble_eq_true rfl)]
 have m1 : s.size ≤ 140737488355328 := by omega
 have m2 : s.size ≤ maxLen := by unfold maxLen; omega
 have m4 : b.size + s.size ≤ maxLen := by unfold maxLen; omega
 have al := zc39 s
 have al1 := zc5a b
 have bl := zb83
 rw [zb7s,zdbf] at hK
 cases u with
 | true =>
  rw [zb7s] at ha
  have ck := fun (c0 c1 : TV) (d : Option Nat) (K : av) (fr : TF) (tk : TK) (h : c0 = .nilP ∨ c0 = .ptr id 0) (h2 : τ.at id = some ⟨bq,[c0,c1]⟩) => zby9 id c0 c1 d K fr tk τ h2 hi hw h
  have ck := fun (d : Option Nat) (K : av) (fr : TF) (tk : TK) => ck _ _ d K fr tk (.inr rfl) ha
  simp -implicitDefEqProofs only [sg,TT,Ic.t,Ic.ci,Nat.reduceEqDiff,reduceIte,Nat.reduceAdd,Nat.reduceLT,reduceCtorEq,Int.reduceToNat,ha,hi,hw,hl,ck,al,al1,bl,m1,m2,hb,m4,or_true,true_or]
  exact hK
 | false =>
  rw [gm] at ha
  have hb0 : b.size = 0 := hu.resolve_left (by simp)
  rw [zc2t hb0,List.nil_append] at hK
  have ck := fun (c0 c1 : TV) (d : Option Nat) (K : av) (fr : TF) (tk : TK) (h : c0 = .nilP ∨ c0 = .ptr id 0) (h2 : τ.at id = some ⟨bq,[c0,c1]⟩) => zby9 id c0 c1 d K fr tk τ h2 hi hw h
  have ck := fun (d : Option Nat) (K : av) (fr : TF) (tk : TK) => ck _ _ d K fr tk (.inl rfl) ha
  simp -implicitDefEqProofs only [sg,TT,Ic.t,Ic.ci,Nat.reduceEqDiff,reduceIte,Nat.reduceAdd,Nat.reduceLT,reduceCtorEq,Int.reduceToNat,ha,hi,hw,hl,ck,al,al1,bl,m1,m2,hb,m4,or_true,true_or]
  exact hK
def zc24 (id : Nat) (u : Bool) (b : ByteArray) : Ob := if b.size = 0 then oc id u b else ⟨bq,[.ptr id 0,.sl (ce b)]⟩
theorem zb8h (hb : b.size ≤ 140737488355328) : fp G false bu [.ptr id 0] d K fr tk τ = K (gg fr d (.str b)) tk (τ.put id (zc24 id u b)) := by
 refine n7 (zb5d zc8k ?_) (by simp -implicitDefEqProofs only [TT,Ic.t,Ic.ci,Nat.reduceEqDiff,reduceIte,Nat.reduceAdd,Nat.reduceLT,reduceCtorEq,Int.reduceToNat,hi])
 have hm : (ce b).length ≤ maxLen := by rw [zb83]; unfold maxLen; omega
 have e0 : b.size = 0 → b = ⟨#[]⟩ := fun h => by
  cases b with
  | mk a => congr 1; exact Array.eq_empty_of_size_eq_zero h
 unfold zc24
 cases u with
 | true =>
  rw [zb7s] at ha
  by_cases h0 : b.size = 0
  · rw [if_pos h0,mi (by rw [ha,zb7s]),e0 h0]
    rw [zc2t h0] at ha
    simp only [zb0b,ha,Option.bind_some,true_and,if_true,hw]
    try rfl
  · have hne : ¬ ce b = [] := fun h => h0 (by rw [← zb83,h]; rfl)
    rw [if_neg h0]
    simp only [zb0b,ha,Option.bind_some,and_self,if_true,hw,hm,zbln,if_neg hne,zc98,Option.map_some]
    try rfl
 | false =>
  have hb0 : b.size = 0 := hu.resolve_left (by simp)
  rw [if_pos hb0,mi ha,e0 hb0]
  rw [gm] at ha
  simp only [zb0b,ha,Option.bind_some,true_and,if_true]
  try rfl
end
section
variable (id : Nat) (d : Option Nat) (K : av) (fr : TF) (tk : TK) (τ : TH) (ha : τ.at id = some (oc id false ⟨#[]⟩)) (hi : id < τ.next) (hw : τ.lock ≤ id) (hl : τ.lock ≤ τ.next)
include ha hi hw hl
theorem zb9m (s : ByteArray) (hb : s.size ≤ 140737488355328) : fp G false a9 [.ptr id 0,.str s] d K fr tk τ = K (gg fr d (.tup [.int .i64 ((s.size : Nat) : Int),.nilI])) tk (τ.put id (oc id true s)) := by
 have h := zb44 ⟨#[]⟩ id false d K fr tk τ ha hi hw hl (.inr rfl) s (by show 0 + s.size ≤ _; omega)
 have e : (⟨#[]⟩ : ByteArray) ++ s = s := ByteArray.empty_append
 rwa [e] at h
end
end Go.Proofs.Ytdcfoaafkppojaa
