/- strings.Builder at the tree level: what its methods make of the bytes that it holds. -/
import Derived.Test.YtnimkejbeogciaaDt
set_option linter.unusedVariables false
set_option linter.unusedSectionVars false
set_option linter.unusedSimpArgs false
namespace Go.Proofs.Ytnimkejbeogciaa
open Go Go.RowKit Sh Ic
def bldO (id : Nat) (u : Bool) (b : ByteArray) : Ob := ⟨T_strings_Builder,bif u then [.ptr id 0,.slo T_uint8 (bytesTV b)] else [.nilP,.slz]⟩
theorem bytesTV_append (a b : ByteArray) : bytesTV (a ++ b) = bytesTV a ++ bytesTV b := by
  unfold bytesTV
  rw [ByteArray.data_append]
  simp
theorem bytesTV_len (a : ByteArray) : (bytesTV a).length = a.size := by unfold bytesTV; simp
theorem bytesTV_all (a : ByteArray) : ((bytesTV a).all fun e => e.cells.length == 1 && e.pure) = true := by
  unfold bytesTV; rw [List.all_map,List.all_eq_true]; intro x _; rfl
theorem bytesTV_all1 (a : ByteArray) : ((bytesTV a).all fun e => e.cells.length == 1) = true := by
  unfold bytesTV; rw [List.all_map,List.all_eq_true]; intro x _; rfl
theorem bytesTV_ok (a : ByteArray) : (bytesTV a).all okB = true := by
  unfold bytesTV; rw [List.all_map,List.all_eq_true]; intro x _
  have := x.toNat_lt
  simp only [Function.comp,okB,Bool.and_eq_true,decide_eq_true_eq]
  omega
theorem tbytes_bytes (a : ByteArray) : tbytes (bytesTV a) = some a.data.toList := by
  have : ∀ l : List UInt8,tbytes (l.map fun b => TV.int .u8 b.toNat) = some l := fun l => by
    induction l with
    | nil => rfl
    | cons b r ih => simp only [List.map_cons,tbytes,ih,Option.map_some]; simp
  exact this _
theorem bytesTV_nil {a : ByteArray} (h : a.size = 0) : bytesTV a = [] := List.eq_nil_of_length_eq_zero (by rw [bytesTV_len,h])
theorem copy_k (id : Nat) (c0 c1 : TV) (d : Option Nat) (K : TCont) (fr : TF) (tk : TK) (τ : TH) (ha : τ.at id = some ⟨T_strings_Builder,[c0,c1]⟩) (hi : id < τ.next) (hw : τ.lock ≤ id) (hc : c0 = .nilP ∨ c0 = .ptr id 0) :
    callK G false F_strings_Builder_copyCheck [.ptr id 0] d K fr tk τ = K (tput fr d (.tup [])) tk (τ.put id ⟨T_strings_Builder,[.ptr id 0,c1]⟩) := by
  refine callK_wr (Ru_prim g_strings_Builder_copyCheck ?_) (by simp -implicitDefEqProofs only [TT,Ic.t,Ic.ci,Nat.reduceEqDiff,reduceIte,Nat.reduceAdd,Nat.reduceMul,Nat.reduceLT,Nat.reduceLeDiff,Nat.reduceSub,reduceCtorEq,Int.reduceEq,Int.reduceNe,Int.reduceToNat,Int.reduceLT,Int.reduceLE,Int.reduceNeg,hi])
  rcases hc with rfl | rfl
  · simp only [bldCheck,ha,Option.bind_some,true_and,if_true,hw]
  · simp only [bldCheck,ha,Option.bind_some,true_and,if_true,put_same ha]
theorem bldO_t (id : Nat) (b : ByteArray) : bldO id true b = ⟨T_strings_Builder,[.ptr id 0,.slo T_uint8 (bytesTV b)]⟩ := rfl
theorem bldO_f (id : Nat) (b : ByteArray) : bldO id false b = ⟨T_strings_Builder,[.nilP,.slz]⟩ := rfl
section
variable (b : ByteArray) (id : Nat) (u : Bool) (d : Option Nat) (K : TCont) (fr : TF) (tk : TK) (τ : TH) (ha : τ.at id = some (bldO id u b)) (hi : id < τ.next) (hw : τ.lock ≤ id) (hl : τ.lock ≤ τ.next) (hu : u = true ∨ b.size = 0)
include ha hi hw hl hu
theorem WriteString_k (s : ByteArray) (hb : b.size + s.size ≤ 140737488355328) : callK G false F_strings_Builder_WriteString [.ptr id 0,.str s] d K fr tk τ = K (tput fr d (.tup [.int .i64 ((s.size : Nat) : Int),.nilI])) tk (τ.put id (bldO id true (b ++ s))) := by
  refine callK_wr (Ru_of fun K hK => ?_) (by simp -implicitDefEqProofs only [TT,Ic.t,Ic.ci,Nat.reduceEqDiff,reduceIte,Nat.reduceAdd,Nat.reduceMul,Nat.reduceLT,Nat.reduceLeDiff,Nat.reduceSub,reduceCtorEq,Int.reduceEq,Int.reduceNe,Int.reduceToNat,Int.reduceLT,Int.reduceLE,Int.reduceNeg,hi])
  rw [tC_code g_strings_Builder_WriteString (Nat.le_of_ble_eq_true rfl)]
  have m1 : s.size ≤ 140737488355328 := by omega
  have m2 : s.size ≤ maxLen := by unfold maxLen; omega
  have m4 : b.size + s.size ≤ maxLen := by unfold maxLen; omega
  have al := bytesTV_all s
  have al1 := bytesTV_all1 b
  have bl := bytesTV_len
  rw [bldO_t,bytesTV_append] at hK
  cases u with
  | true =>
    rw [bldO_t] at ha
    have ck := fun (c0 c1 : TV) (d : Option Nat) (K : TCont) (fr : TF) (tk : TK) (h : c0 = .nilP ∨ c0 = .ptr id 0) (h2 : τ.at id = some ⟨T_strings_Builder,[c0,c1]⟩) => copy_k id c0 c1 d K fr tk τ h2 hi hw h
    have ck := fun (d : Option Nat) (K : TCont) (fr : TF) (tk : TK) => ck _ _ d K fr tk (.inr rfl) ha
    simp -implicitDefEqProofs only [U_strings_Builder_WriteString,TT,Ic.t,Ic.ci,Nat.reduceEqDiff,reduceIte,Nat.reduceAdd,Nat.reduceMul,Nat.reduceLT,Nat.reduceLeDiff,Nat.reduceSub,reduceCtorEq,Int.reduceEq,Int.reduceNe,Int.reduceToNat,Int.reduceLT,Int.reduceLE,Int.reduceNeg,ha,hi,hw,hl,ck,al,al1,bl,m1,m2,hb,m4,or_true,true_or]
    exact hK
  | false =>
    rw [bldO_f] at ha
    have hb0 : b.size = 0 := hu.resolve_left (by simp)
    rw [bytesTV_nil hb0,List.nil_append] at hK
    have ck := fun (c0 c1 : TV) (d : Option Nat) (K : TCont) (fr : TF) (tk : TK) (h : c0 = .nilP ∨ c0 = .ptr id 0) (h2 : τ.at id = some ⟨T_strings_Builder,[c0,c1]⟩) => copy_k id c0 c1 d K fr tk τ h2 hi hw h
    have ck := fun (d : Option Nat) (K : TCont) (fr : TF) (tk : TK) => ck _ _ d K fr tk (.inl rfl) ha
    simp -implicitDefEqProofs only [U_strings_Builder_WriteString,TT,Ic.t,Ic.ci,Nat.reduceEqDiff,reduceIte,Nat.reduceAdd,Nat.reduceMul,Nat.reduceLT,Nat.reduceLeDiff,Nat.reduceSub,reduceCtorEq,Int.reduceEq,Int.reduceNe,Int.reduceToNat,Int.reduceLT,Int.reduceLE,Int.reduceNeg,ha,hi,hw,hl,ck,al,al1,bl,m1,m2,hb,m4,or_true,true_or]
    exact hK
theorem push_TV (c : Int) (h0 : 0 ≤ c) (h1 : c < 256) : bytesTV (b.push (UInt8.ofNat c.toNat)) = bytesTV b ++ [.int .u8 c] := by
  unfold bytesTV
  have e : ((UInt8.ofNat c.toNat).toNat : Int) = c := by rw [UInt8.toNat_ofNat']; omega
  simp only [ByteArray.push,Array.toList_push,List.map_append,List.map_cons,List.map_nil,e]
omit ha hi hw hl hu in
theorem one_all (c : Int) : ([TV.int .u8 c].all fun e => e.cells.length == 1 && e.pure) = true := rfl
theorem WriteByte_k (c : Int) (h0 : 0 ≤ c) (h1 : c < 256) (hb : b.size + 1 ≤ 140737488355328) : callK G false F_strings_Builder_WriteByte [.ptr id 0,.int .u8 c] d K fr tk τ = K (tput fr d .nilI) tk (τ.put id (bldO id true (b.push (UInt8.ofNat c.toNat)))) := by
  refine callK_wr (Ru_of fun K hK => ?_) (by simp -implicitDefEqProofs only [TT,Ic.t,Ic.ci,Nat.reduceEqDiff,reduceIte,Nat.reduceAdd,Nat.reduceMul,Nat.reduceLT,Nat.reduceLeDiff,Nat.reduceSub,reduceCtorEq,Int.reduceEq,Int.reduceNe,Int.reduceToNat,Int.reduceLT,Int.reduceLE,Int.reduceNeg,hi])
  rw [tC_code g_strings_Builder_WriteByte (Nat.le_of_ble_eq_true rfl)]
  have m2 : 1 ≤ maxLen := by unfold maxLen; omega
  have m4 : b.size + 1 ≤ maxLen := by unfold maxLen; omega
  have al1 := bytesTV_all1 b
  have bl := bytesTV_len
  rw [bldO_t,push_TV b id u τ ha hi hw hl hu c h0 h1] at hK
  cases u with
  | true =>
    rw [bldO_t] at ha
    have ck := fun (d : Option Nat) (K : TCont) (fr : TF) (tk : TK) => copy_k id _ _ d K fr tk τ ha hi hw (.inr rfl)
    simp -implicitDefEqProofs only [U_strings_Builder_WriteByte,TT,Ic.t,Ic.ci,Nat.reduceEqDiff,reduceIte,Nat.reduceAdd,Nat.reduceMul,Nat.reduceLT,Nat.reduceLeDiff,Nat.reduceSub,reduceCtorEq,Int.reduceEq,Int.reduceNe,Int.reduceToNat,Int.reduceLT,Int.reduceLE,Int.reduceNeg,ha,hi,hw,hl,ck,al1,bl,m2,hb,m4,or_true,true_or]
    exact hK
  | false =>
    rw [bldO_f] at ha
    have hb0 : b.size = 0 := hu.resolve_left (by simp)
    rw [bytesTV_nil hb0,List.nil_append] at hK
    have ck := fun (d : Option Nat) (K : TCont) (fr : TF) (tk : TK) => copy_k id _ _ d K fr tk τ ha hi hw (.inl rfl)
    simp -implicitDefEqProofs only [U_strings_Builder_WriteByte,TT,Ic.t,Ic.ci,Nat.reduceEqDiff,reduceIte,Nat.reduceAdd,Nat.reduceMul,Nat.reduceLT,Nat.reduceLeDiff,Nat.reduceSub,reduceCtorEq,Int.reduceEq,Int.reduceNe,Int.reduceToNat,Int.reduceLT,Int.reduceLE,Int.reduceNeg,ha,hi,hw,hl,ck,al1,bl,m2,hb,m4,or_true,true_or]
    exact hK
omit hw in
theorem Len_k (lk : Bool) : callK G lk F_strings_Builder_Len [.ptr id 0] d K fr tk τ = K (tput fr d (.int .i64 ((b.size : Nat) : Int))) tk τ := by
  have run : ∀ τ : TH,τ.at id = some (bldO id u b) → τ.lock ≤ τ.next → id < τ.next → Ru G F_strings_Builder_Len [.ptr id 0] τ (.int .i64 ((b.size : Nat) : Int)) τ := fun τ ha hl hi => by
    refine Ru_of fun K hK => ?_
    rw [tC_code g_strings_Builder_Len (Nat.le_of_ble_eq_true rfl)]
    have bl := bytesTV_len
    cases u with
    | true =>
      rw [bldO_t] at ha
      simp -implicitDefEqProofs only [U_strings_Builder_Len,TT,Ic.t,Ic.ci,Nat.reduceEqDiff,reduceIte,Nat.reduceAdd,Nat.reduceMul,Nat.reduceLT,Nat.reduceLeDiff,Nat.reduceSub,reduceCtorEq,Int.reduceEq,Int.reduceNe,Int.reduceToNat,Int.reduceLT,Int.reduceLE,Int.reduceNeg,ha,hi,hl,bl]
      exact hK
    | false =>
      rw [bldO_f] at ha
      have hb0 : b.size = 0 := hu.resolve_left (by simp)
      rw [hb0] at hK
      simp -implicitDefEqProofs only [U_strings_Builder_Len,TT,Ic.t,Ic.ci,Nat.reduceEqDiff,reduceIte,Nat.reduceAdd,Nat.reduceMul,Nat.reduceLT,Nat.reduceLeDiff,Nat.reduceSub,reduceCtorEq,Int.reduceEq,Int.reduceNe,Int.reduceToNat,Int.reduceLT,Int.reduceLE,Int.reduceNeg,ha,hi,hl,bl]
      exact hK
  exact callK_rdo (run τ ha hl hi) (run _ (by rw [at_lk]; exact ha) (Nat.le_refl _) hi) (by simp -implicitDefEqProofs only [TT,Ic.t,Ic.ci,Nat.reduceEqDiff,reduceIte,Nat.reduceAdd,Nat.reduceMul,Nat.reduceLT,Nat.reduceLeDiff,Nat.reduceSub,reduceCtorEq,Int.reduceEq,Int.reduceNe,Int.reduceToNat,Int.reduceLT,Int.reduceLE,Int.reduceNeg,hi])
def bldR (id : Nat) (u : Bool) (b : ByteArray) : Ob := if b.size = 0 then bldO id u b else ⟨T_strings_Builder,[.ptr id 0,.sl (bytesTV b)]⟩
theorem String_k (hb : b.size ≤ 140737488355328) : callK G false F_strings_Builder_String [.ptr id 0] d K fr tk τ = K (tput fr d (.str b)) tk (τ.put id (bldR id u b)) := by
  refine callK_wr (Ru_prim g_strings_Builder_String ?_) (by simp -implicitDefEqProofs only [TT,Ic.t,Ic.ci,Nat.reduceEqDiff,reduceIte,Nat.reduceAdd,Nat.reduceMul,Nat.reduceLT,Nat.reduceLeDiff,Nat.reduceSub,reduceCtorEq,Int.reduceEq,Int.reduceNe,Int.reduceToNat,Int.reduceLT,Int.reduceLE,Int.reduceNeg,hi])
  have hm : (bytesTV b).length ≤ maxLen := by rw [bytesTV_len]; unfold maxLen; omega
  have e0 : b.size = 0 → b = ⟨#[]⟩ := fun h => by
    cases b with
    | mk a => congr 1; exact Array.eq_empty_of_size_eq_zero h
  unfold bldR
  cases u with
  | true =>
    rw [bldO_t] at ha
    by_cases h0 : b.size = 0
    · rw [if_pos h0,put_same (by rw [ha,bldO_t]),e0 h0]
      rw [bytesTV_nil h0] at ha
      simp only [bldText,ha,Option.bind_some,true_and,if_true,hw]
      try rfl
    · have hne : ¬ bytesTV b = [] := fun h => h0 (by rw [← bytesTV_len,h]; rfl)
      rw [if_neg h0]
      simp only [bldText,ha,Option.bind_some,and_self,if_true,hw,hm,bytesTV_ok,if_neg hne,tbytes_bytes,Option.map_some]
      try rfl
  | false =>
    have hb0 : b.size = 0 := hu.resolve_left (by simp)
    rw [if_pos hb0,put_same ha,e0 hb0]
    rw [bldO_f] at ha
    simp only [bldText,ha,Option.bind_some,true_and,if_true]
    try rfl
end
section
variable (id : Nat) (d : Option Nat) (K : TCont) (fr : TF) (tk : TK) (τ : TH) (ha : τ.at id = some (bldO id false ⟨#[]⟩)) (hi : id < τ.next) (hw : τ.lock ≤ id) (hl : τ.lock ≤ τ.next)
include ha hi hw hl
theorem WriteString_k0 (s : ByteArray) (hb : s.size ≤ 140737488355328) : callK G false F_strings_Builder_WriteString [.ptr id 0,.str s] d K fr tk τ = K (tput fr d (.tup [.int .i64 ((s.size : Nat) : Int),.nilI])) tk (τ.put id (bldO id true s)) := by
  have h := WriteString_k ⟨#[]⟩ id false d K fr tk τ ha hi hw hl (.inr rfl) s (by show 0 + s.size ≤ _; omega)
  have e : (⟨#[]⟩ : ByteArray) ++ s = s := ByteArray.empty_append
  rwa [e] at h
theorem WriteByte_k0 (c : Int) (h0 : 0 ≤ c) (h1 : c < 256) : callK G false F_strings_Builder_WriteByte [.ptr id 0,.int .u8 c] d K fr tk τ = K (tput fr d .nilI) tk (τ.put id (bldO id true (strL [c]))) :=
  WriteByte_k ⟨#[]⟩ id false d K fr tk τ ha hi hw hl (.inr rfl) c h0 h1 (by show 0 + 1 ≤ _; omega)
theorem String_k0 : callK G false F_strings_Builder_String [.ptr id 0] d K fr tk τ = K (tput fr d (.str ⟨#[]⟩)) tk (τ.put id (bldR id false ⟨#[]⟩)) :=
  String_k ⟨#[]⟩ id false d K fr tk τ ha hi hw hl (.inr rfl) (by show 0 ≤ _; omega)
end
end Go.Proofs.Ytnimkejbeogciaa
