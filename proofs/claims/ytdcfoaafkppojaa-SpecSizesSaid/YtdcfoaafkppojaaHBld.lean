import Derived.Test.YtdcfoaafkppojaaD4
set_option linter.unusedVariables false
set_option linter.unusedSectionVars false
set_option linter.unusedSimpArgs false
/- strings.Builder at the tree level: what its methods make of the bytes that it holds. -/
namespace Go.Proofs.Ytdcfoaafkppojaa
open Go Go.RowKit Sh Ic
def zaqf (id : Nat) (u : Bool) (b : ByteArray) : Ob := ⟨bq,bif u then [.ptr id 0,.slo fi (ce b)] else [.nilP,.slz]⟩
theorem za0u (a b : ByteArray) : ce (a ++ b) = ce a ++ ce b := by
 unfold ce
 rw [ByteArray.data_append]
 simp
theorem zajg (a : ByteArray) : (ce a).length = a.size := by unfold ce; simp
theorem zbcg (a : ByteArray) : ((ce a).all fun e => e.cells.length == 1 && e.pure) = true := by
 unfold ce; rw [List.all_map,List.all_eq_true]; intro x _; rfl
theorem za9u (a : ByteArray) : ((ce a).all fun e => e.cells.length == 1) = true := by
 unfold ce; rw [List.all_map,List.all_eq_true]; intro x _; rfl
theorem bytesTV_ok (a : ByteArray) : (ce a).all okB = true := by
 unfold ce; rw [List.all_map,List.all_eq_true]; intro x _
 have := x.toNat_lt
 simp only [Function.comp,okB,Bool.and_eq_true,decide_eq_true_eq]
 omega
theorem za5x (a : ByteArray) : vr (ce a) = some a.data.toList := by
 have : ∀ l : List UInt8,vr (l.map fun b => TV.int .u8 b.toNat) = some l := fun l => by
  induction l with
  | nil => rfl
  | cons b r ih => simp only [List.map_cons,vr,ih,Option.map_some]; simp
 exact this _
theorem zazx {a : ByteArray} (h : a.size = 0) : ce a = [] := List.eq_nil_of_length_eq_zero (by rw [zajg,h])
theorem copy_k (id : Nat) (c0 c1 : TV) (d : Option Nat) (K : aw) (fr : TF) (tk : TK) (τ : TH) (ha : τ.at id = some ⟨bq,[c0,c1]⟩) (hi : id < τ.next) (hw : τ.lock ≤ id) (hc : c0 = .nilP ∨ c0 = .ptr id 0) :
 fo G false dx [.ptr id 0] d K fr tk τ = K (gc fr d (.tup [])) tk (τ.put id ⟨bq,[.ptr id 0,c1]⟩) := by
 refine nw (zaz5 zafm ?_) (by simp -implicitDefEqProofs only [TT,Ic.t,Ic.ci,Nat.reduceEqDiff,reduceIte,Nat.reduceAdd,Nat.reduceLT,reduceCtorEq,Int.reduceToNat,hi])
 rcases hc with rfl | rfl
 · simp only [zamn,ha,Option.bind_some,true_and,if_true,hw]
 · simp only [zamn,ha,Option.bind_some,true_and,if_true,me ha]
theorem zbhm (id : Nat) (b : ByteArray) : zaqf id true b = ⟨bq,[.ptr id 0,.slo fi (ce b)]⟩ := rfl
theorem gi (id : Nat) (b : ByteArray) : zaqf id false b = ⟨bq,[.nilP,.slz]⟩ := rfl
section
variable (b : ByteArray) (id : Nat) (u : Bool) (d : Option Nat) (K : aw) (fr : TF) (tk : TK) (τ : TH) (ha : τ.at id = some (zaqf id u b)) (hi : id < τ.next) (hw : τ.lock ≤ id) (hl : τ.lock ≤ τ.next) (hu : u = true ∨ b.size = 0)
include ha hi hw hl hu
theorem zaaq (s : ByteArray) (hb : b.size + s.size ≤ 140737488355328) : fo G false a9 [.ptr id 0,.str s] d K fr tk τ = K (gc fr d (.tup [.int .i64 ((s.size : Nat) : Int),.nilI])) tk (τ.put id (zaqf id true (b ++ s))) := by
 refine nw (jt fun K hK => ?_) (by simp -implicitDefEqProofs only [TT,Ic.t,Ic.ci,Nat.reduceEqDiff,reduceIte,Nat.reduceAdd,Nat.reduceLT,reduceCtorEq,Int.reduceToNat,hi])
 rw [bx zadi (Nat.le_of_ble_eq_true rfl)]
 have m1 : s.size ≤ 140737488355328 := by omega
 have m2 : s.size ≤ maxLen := by unfold maxLen; omega
 have m4 : b.size + s.size ≤ maxLen := by unfold maxLen; omega
 have al := zbcg s
 have al1 := za9u b
 have bl := zajg
 rw [zbhm,za0u] at hK
 cases u with
 | true =>
  rw [zbhm] at ha
  have ck := fun (c0 c1 : TV) (d : Option Nat) (K : aw) (fr : TF) (tk : TK) (h : c0 = .nilP ∨ c0 = .ptr id 0) (h2 : τ.at id = some ⟨bq,[c0,c1]⟩) => copy_k id c0 c1 d K fr tk τ h2 hi hw h
  have ck := fun (d : Option Nat) (K : aw) (fr : TF) (tk : TK) => ck _ _ d K fr tk (.inr rfl) ha
  simp -implicitDefEqProofs only [r7,TT,Ic.t,Ic.ci,Nat.reduceEqDiff,reduceIte,Nat.reduceAdd,Nat.reduceLT,reduceCtorEq,Int.reduceToNat,ha,hi,hw,hl,ck,al,al1,bl,m1,m2,hb,m4,or_true,true_or]
  exact hK
 | false =>
  rw [gi] at ha
  have hb0 : b.size = 0 := hu.resolve_left (by simp)
  rw [zazx hb0,List.nil_append] at hK
  have ck := fun (c0 c1 : TV) (d : Option Nat) (K : aw) (fr : TF) (tk : TK) (h : c0 = .nilP ∨ c0 = .ptr id 0) (h2 : τ.at id = some ⟨bq,[c0,c1]⟩) => copy_k id c0 c1 d K fr tk τ h2 hi hw h
  have ck := fun (d : Option Nat) (K : aw) (fr : TF) (tk : TK) => ck _ _ d K fr tk (.inl rfl) ha
  simp -implicitDefEqProofs only [r7,TT,Ic.t,Ic.ci,Nat.reduceEqDiff,reduceIte,Nat.reduceAdd,Nat.reduceLT,reduceCtorEq,Int.reduceToNat,ha,hi,hw,hl,ck,al,al1,bl,m1,m2,hb,m4,or_true,true_or]
  exact hK
def bldR (id : Nat) (u : Bool) (b : ByteArray) : Ob := if b.size = 0 then zaqf id u b else ⟨bq,[.ptr id 0,.sl (ce b)]⟩
theorem zat0 (hb : b.size ≤ 140737488355328) : fo G false bu [.ptr id 0] d K fr tk τ = K (gc fr d (.str b)) tk (τ.put id (bldR id u b)) := by
 refine nw (zaz5 zah3 ?_) (by simp -implicitDefEqProofs only [TT,Ic.t,Ic.ci,Nat.reduceEqDiff,reduceIte,Nat.reduceAdd,Nat.reduceLT,reduceCtorEq,Int.reduceToNat,hi])
 have hm : (ce b).length ≤ maxLen := by rw [zajg]; unfold maxLen; omega
 have e0 : b.size = 0 → b = ⟨#[]⟩ := fun h => by
  cases b with
  | mk a => congr 1; exact Array.eq_empty_of_size_eq_zero h
 unfold bldR
 cases u with
 | true =>
  rw [zbhm] at ha
  by_cases h0 : b.size = 0
  · rw [if_pos h0,me (by rw [ha,zbhm]),e0 h0]
    rw [zazx h0] at ha
    simp only [zaqe,ha,Option.bind_some,true_and,if_true,hw]
    try rfl
  · have hne : ¬ ce b = [] := fun h => h0 (by rw [← zajg,h]; rfl)
    rw [if_neg h0]
    simp only [zaqe,ha,Option.bind_some,and_self,if_true,hw,hm,bytesTV_ok,if_neg hne,za5x,Option.map_some]
    try rfl
 | false =>
  have hb0 : b.size = 0 := hu.resolve_left (by simp)
  rw [if_pos hb0,me ha,e0 hb0]
  rw [gi] at ha
  simp only [zaqe,ha,Option.bind_some,true_and,if_true]
  try rfl
end
section
variable (id : Nat) (d : Option Nat) (K : aw) (fr : TF) (tk : TK) (τ : TH) (ha : τ.at id = some (zaqf id false ⟨#[]⟩)) (hi : id < τ.next) (hw : τ.lock ≤ id) (hl : τ.lock ≤ τ.next)
include ha hi hw hl
theorem zab1 (s : ByteArray) (hb : s.size ≤ 140737488355328) : fo G false a9 [.ptr id 0,.str s] d K fr tk τ = K (gc fr d (.tup [.int .i64 ((s.size : Nat) : Int),.nilI])) tk (τ.put id (zaqf id true s)) := by
 have h := zaaq ⟨#[]⟩ id false d K fr tk τ ha hi hw hl (.inr rfl) s (by show 0 + s.size ≤ _; omega)
 have e : (⟨#[]⟩ : ByteArray) ++ s = s := ByteArray.empty_append
 rwa [e] at h
end
end Go.Proofs.Ytdcfoaafkppojaa
