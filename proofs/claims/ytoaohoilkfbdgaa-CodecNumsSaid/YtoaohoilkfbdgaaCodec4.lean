/- The document's reader. -/
import Derived.Test.YtoaohoilkfbdgaaCodec3
set_option linter.unusedSimpArgs false
set_option linter.unusedVariables false
set_option linter.unusedSectionVars false
namespace Go.Proofs.Ytoaohoilkfbdgaa
open Go Go.RowKit Sh Ic
def rfOb (r : Rd) : Ob := ⟨T_handselref03_R, [.str r.s, .bool r.bad]⟩
/-- A bad one has nothing left. -/
def Rd.Inv (r : Rd) : Prop := r.bad = true → r.s = ⟨#[]⟩
theorem Rd.Inv.fail : Rd.fail.Inv := fun _ => rfl
theorem Rd.Inv.take {r : Rd} (n : Int) : (r.take n).2.Inv := by
  unfold Rd.take
  split
  · intro h; cases h
  · exact .fail
theorem Rd.Inv.num {r : Rd} : r.num.2.Inv := .take 8
theorem Rd.Inv.count {r : Rd} (m : Int) : (r.count m).2.Inv := by
  unfold Rd.count
  split
  · exact .fail
  · exact .num
theorem Rd.Inv.text {r : Rd} (m : Int) : (r.text m).2.Inv := .take _
def pushU (v : Int) (c : UInt8) : Int := IntKind.u64.wrap (v * 256 + c.toNat)
theorem wrap_u64 (n : Int) : IntKind.u64.wrap n = n % 18446744073709551616 := by simp [IntKind.wrap, IntKind.bits, IntKind.signed]
theorem wrap_ubv (n : Int) : IntKind.u64.wrap n = ((BitVec.ofInt 64 n).toNat : Int) := by
  rw [wrap_u64, BitVec.toNat_ofInt]
  omega
theorem wrap_uwrap (n : Int) : BitVec.ofInt 64 (IntKind.u64.wrap n) = BitVec.ofInt 64 n := by
  rw [wrap_ubv, BitVec.ofInt_natCast, BitVec.ofNat_toNat, BitVec.setWidth_eq]
theorem pushU_eq (v : Int) (c : UInt8) : IntKind.u64.wrap ((BitVec.ofInt IntKind.u64.bits (IntKind.u64.wrap (v * 2 ^ Nat.min 8 IntKind.u64.bits)) ||| BitVec.ofInt IntKind.u64.bits (IntKind.u64.wrap (c.toNat : Int))).toNat) = pushU v c := by
  show IntKind.u64.wrap ((BitVec.ofInt 64 (IntKind.u64.wrap (v * 2 ^ 8)) ||| BitVec.ofInt 64 (IntKind.u64.wrap (c.toNat : Int))).toNat) = pushU v c
  rw [wrap_uwrap, wrap_uwrap]
  have h1 : BitVec.ofInt 64 (v * 2 ^ 8) = (BitVec.ofInt 64 v) <<< 8 := by
    rw [BitVec.ofInt_mul, BitVec.shiftLeft_eq_mul_twoPow]; rfl
  have h2 : BitVec.ofInt 64 (c.toNat : Int) = BitVec.ofNat 64 c.toNat := BitVec.ofInt_natCast ..
  rw [h1, h2, bv_shl_or _ _ c.toNat_lt, ← h1, ← h2, ← BitVec.ofInt_add]
  unfold pushU
  rw [wrap_ubv, wrap_ubv]
  congr 1
  rw [BitVec.ofInt_natCast, BitVec.ofNat_toNat, BitVec.setWidth_eq]
  congr 1
theorem fold_u (l : List UInt8) : ∀ (u v : Int), IntKind.i64.wrap u = IntKind.i64.wrap v → IntKind.i64.wrap (l.foldl pushU u) = IntKind.i64.wrap (numOf v l) := by
  induction l with
  | nil => exact fun u v h => h
  | cons c r ih =>
    intro u v h
    refine ih (pushU u c) (pushB v c) ?_
    unfold pushU pushB
    rw [IntKind.wrap_i64] at h ⊢
    rw [IntKind.wrap_i64] at h ⊢
    rw [wrap_u64, IntKind.wrap_i64]
    omega
theorem numOf_wrap (l : List UInt8) : IntKind.i64.wrap (numOf 0 l) = numOf 0 l := by
  have key : ∀ (l : List UInt8) (v : Int), IntKind.i64.wrap v = v → IntKind.i64.wrap (numOf v l) = numOf v l := by
    intro l
    induction l with
    | nil => exact fun v h => h
    | cons c r ih =>
      intro v h
      refine ih (pushB v c) ?_
      unfold pushB
      rw [IntKind.wrap_i64, IntKind.wrap_i64]
      omega
  exact key l 0 (by decide)
theorem rNum_loop (r : Rd) (id : Nat) (τ : TH) (h : τ.at id = some (rfOb r)) (hid : id < τ.next) (h8 : 8 ≤ r.s.size) (Q : TEx → TCont) (n : Nat) : ∀ (i : Nat) (u : Int), n + i = 8 →
    Q (.exit 0) [(0, .ptr id 0), (3, .int .u64 (((r.s.data.toList.take 8).drop i).foldl pushU u)), (4, .int .i64 8), (20, .bool false)] [] τ →
    tW G (.loop [0, 3, 4] l_handselref03_R_Num_1) Q [(0, .ptr id 0), (3, .int .u64 u), (4, .int .i64 (i : Int))] [] τ := by
  induction n with
  | zero =>
    intro i u hi hQ
    obtain rfl : i = 8 := by omega
    refine tW_lp fun LQ hn hr he => ?_
    have c : ¬ (((8 : Nat) : Int) < 8) := by decide
    simp -implicitDefEqProofs only [fn_handselref03_R_Num, o_handselref03_R_Num_0, o_handselref03_R_Num_1, o_handselref03_R_Num_10, o_handselref03_R_Num_2, o_handselref03_R_Num_3, o_handselref03_R_Num_4, o_handselref03_R_Num_5, o_handselref03_R_Num_6, o_handselref03_R_Num_7, o_handselref03_R_Num_8, o_handselref03_R_Num_9, tc_handselref03_R_Num, l_handselref03_R_Num_1, TT, Ic.t, Ic.ci, ne_eq, eq_self, not_true_eq_false, Nat.reduceEqDiff, reduceIte, Nat.reduceAdd, Nat.reduceMul, Nat.reduceLT, Nat.reduceLeDiff, Nat.reduceSub, reduceCtorEq, Int.reduceEq, Int.reduceNe, decide_eq_true_eq, bne_self_eq_false, beq_self_eq_true, Int.reduceToNat, Int.reduceLT, Int.reduceLE, Int.reduceNeg, c, he]
    have e : (r.s.data.toList.take 8).drop 8 = [] := List.drop_eq_nil_of_le (by simp; omega)
    rw [e] at hQ
    exact hQ
  | succ n ih =>
    intro i u hi hQ
    refine tW_lp fun LQ hn hr he => ?_
    have c : (i : Int) < 8 := by omega
    have c0 : (0 : Int) ≤ (i : Int) := by omega
    have c1 : (i : Int) < (r.s.size : Int) := by omega
    have w1 : IntKind.i64.wrap ((i : Int) + 1) = ((i + 1 : Nat) : Int) := by rw [w64 (by omega) (by omega)]; omega
    simp -implicitDefEqProofs only [fn_handselref03_R_Num, o_handselref03_R_Num_0, o_handselref03_R_Num_1, o_handselref03_R_Num_10, o_handselref03_R_Num_2, o_handselref03_R_Num_3, o_handselref03_R_Num_4, o_handselref03_R_Num_5, o_handselref03_R_Num_6, o_handselref03_R_Num_7, o_handselref03_R_Num_8, o_handselref03_R_Num_9, tc_handselref03_R_Num, l_handselref03_R_Num_1, TT, Ic.t, Ic.ci, ne_eq, eq_self, not_true_eq_false, Nat.reduceEqDiff, reduceIte, Nat.reduceAdd, Nat.reduceMul, Nat.reduceLT, Nat.reduceLeDiff, Nat.reduceSub, reduceCtorEq, Int.reduceEq, Int.reduceNe, decide_eq_true_eq, bne_self_eq_false, beq_self_eq_true, Int.reduceToNat, Int.reduceLT, Int.reduceLE, Int.reduceNeg, c, c0, c1, w1, h, hid, rfOb, pushU_eq, he]
    rw [hn]
    simp -implicitDefEqProofs only [TT, Ic.t, Ic.ci, ne_eq, eq_self, not_true_eq_false, Nat.reduceEqDiff, reduceIte, Nat.reduceAdd, Nat.reduceMul, Nat.reduceLT, Nat.reduceLeDiff, Nat.reduceSub, reduceCtorEq, Int.reduceEq, Int.reduceNe, decide_eq_true_eq, bne_self_eq_false, beq_self_eq_true, Int.reduceToNat, Int.reduceLT, Int.reduceLE, Int.reduceNeg, hid]
    refine ih (i + 1) _ (by omega) ?_
    have e : (r.s.data.toList.take 8).drop i = r.s.data.getD i 0 :: (r.s.data.toList.take 8).drop (i + 1) := by
      have h' : i < (r.s.data.toList.take 8).length := by simp; omega
      have h2 : i < r.s.data.size := by show i < r.s.size; omega
      rw [List.drop_eq_getElem_cons h', List.getElem_take, Array.getD_eq_getD_getElem?, Array.getElem?_eq_getElem h2, Option.getD_some, Array.getElem_toList]
    rw [e] at hQ
    exact hQ
section
variable (r : Rd) (id : Nat) (τ : TH) (h : τ.at id = some (rfOb r)) (hi : id < τ.next) (hl : τ.lock ≤ id)
include h hi hl
theorem rFail_ok : Ru G F_handselref03_R_Fail [.ptr id 0] τ (.tup []) (τ.put id (rfOb .fail)) := by
  refine Ru_of fun K hK => ?_
  rw [tC_code g_handselref03_R_Fail (Nat.le_of_ble_eq_true rfl)]
  simp -implicitDefEqProofs only [fn_handselref03_R_Fail, o_handselref03_R_Fail_0, tc_handselref03_R_Fail, TT, Ic.t, Ic.ci, ne_eq, eq_self, not_true_eq_false, Nat.reduceEqDiff, reduceIte, Nat.reduceAdd, Nat.reduceMul, Nat.reduceLT, Nat.reduceLeDiff, Nat.reduceSub, reduceCtorEq, Int.reduceEq, Int.reduceNe, decide_eq_true_eq, bne_self_eq_false, beq_self_eq_true, Int.reduceToNat, Int.reduceLT, Int.reduceLE, Int.reduceNeg, h, hi, hl, rfOb]
  exact hK
theorem rFail_k (d : Option Nat) (K : TCont) (fr : TF) (tk : TK) : callK G false F_handselref03_R_Fail [.ptr id 0] d K fr tk τ = K (tput fr d (.tup [])) tk (τ.put id (rfOb .fail)) :=
  callK_of (rFail_ok r id τ h hi hl) (by simp -implicitDefEqProofs only [TT, Ic.t, Ic.ci, ne_eq, eq_self, not_true_eq_false, Nat.reduceEqDiff, reduceIte, Nat.reduceAdd, Nat.reduceMul, Nat.reduceLT, Nat.reduceLeDiff, Nat.reduceSub, reduceCtorEq, Int.reduceEq, Int.reduceNe, decide_eq_true_eq, bne_self_eq_false, beq_self_eq_true, Int.reduceToNat, Int.reduceLT, Int.reduceLE, Int.reduceNeg, hi])
theorem rNum_ok (hv : r.Inv) : Ru G F_handselref03_R_Num [.ptr id 0] τ (.int .i64 r.num.1) (τ.put id (rfOb r.num.2)) := by
  refine Ru_of fun K hK => ?_
  rw [tC_code g_handselref03_R_Num (Nat.le_of_ble_eq_true rfl)]
  by_cases hc : r.can 8
  · have hc' := hc
    obtain ⟨h1, h2, h3⟩ := hc'
    have hs : 8 ≤ r.s.size := by omega
    have c : ¬ ((r.s.size : Int) < 8) := by omega
    simp -implicitDefEqProofs only [fn_handselref03_R_Num, o_handselref03_R_Num_0, o_handselref03_R_Num_1, o_handselref03_R_Num_10, o_handselref03_R_Num_2, o_handselref03_R_Num_3, o_handselref03_R_Num_4, o_handselref03_R_Num_5, o_handselref03_R_Num_6, o_handselref03_R_Num_7, o_handselref03_R_Num_8, o_handselref03_R_Num_9, tc_handselref03_R_Num, TT, Ic.t, Ic.ci, ne_eq, eq_self, not_true_eq_false, Nat.reduceEqDiff, reduceIte, Nat.reduceAdd, Nat.reduceMul, Nat.reduceLT, Nat.reduceLeDiff, Nat.reduceSub, reduceCtorEq, Int.reduceEq, Int.reduceNe, decide_eq_true_eq, bne_self_eq_false, beq_self_eq_true, Int.reduceToNat, Int.reduceLT, Int.reduceLE, Int.reduceNeg, h, hi, hl, rfOb, h1, c]
    have e1 : (⟨r.s, false⟩ : Rd) = r := by cases r; simp only at h1; rw [h1]
    refine rNum_loop r id τ h hi hs _ 8 0 0 rfl ?_
    have c1 : (0 : Int) ≤ 8 ∧ (8 : Int) ≤ (r.s.size : Nat) := by omega
    simp -implicitDefEqProofs only [fn_handselref03_R_Num, o_handselref03_R_Num_0, o_handselref03_R_Num_1, o_handselref03_R_Num_10, o_handselref03_R_Num_2, o_handselref03_R_Num_3, o_handselref03_R_Num_4, o_handselref03_R_Num_5, o_handselref03_R_Num_6, o_handselref03_R_Num_7, o_handselref03_R_Num_8, o_handselref03_R_Num_9, tc_handselref03_R_Num, TT, Ic.t, Ic.ci, ne_eq, eq_self, not_true_eq_false, Nat.reduceEqDiff, reduceIte, Nat.reduceAdd, Nat.reduceMul, Nat.reduceLT, Nat.reduceLeDiff, Nat.reduceSub, reduceCtorEq, Int.reduceEq, Int.reduceNe, decide_eq_true_eq, bne_self_eq_false, beq_self_eq_true, Int.reduceToNat, Int.reduceLT, Int.reduceLE, Int.reduceNeg, h, hi, hl, rfOb, h1, c, c1, List.drop_zero]
    have e2 : r.num = (numOf 0 (r.s.data.toList.take 8), ⟨r.s.extract 8 r.s.size, false⟩) := by
      unfold Rd.num Rd.take
      rw [if_pos hc]
      simp only [ByteArray.data_extract, Array.toList_extract, List.extract_eq_take_drop, Int.reduceToNat]
      rfl
    rw [e2] at hK
    have e3 := fold_u (r.s.data.toList.take 8) 0 0 rfl
    rw [numOf_wrap] at e3
    rw [e3]
    exact hK
  · have e2 : r.num = (0, .fail) := by
      unfold Rd.num Rd.take
      rw [if_neg hc]; rfl
    rw [e2] at hK
    have fk := rFail_k r id τ h hi hl
    cases hb : r.bad with
    | true =>
      simp -implicitDefEqProofs only [fn_handselref03_R_Num, o_handselref03_R_Num_0, o_handselref03_R_Num_1, o_handselref03_R_Num_10, o_handselref03_R_Num_2, o_handselref03_R_Num_3, o_handselref03_R_Num_4, o_handselref03_R_Num_5, o_handselref03_R_Num_6, o_handselref03_R_Num_7, o_handselref03_R_Num_8, o_handselref03_R_Num_9, tc_handselref03_R_Num, TT, Ic.t, Ic.ci, ne_eq, eq_self, not_true_eq_false, Nat.reduceEqDiff, reduceIte, Nat.reduceAdd, Nat.reduceMul, Nat.reduceLT, Nat.reduceLeDiff, Nat.reduceSub, reduceCtorEq, Int.reduceEq, Int.reduceNe, decide_eq_true_eq, bne_self_eq_false, beq_self_eq_true, Int.reduceToNat, Int.reduceLT, Int.reduceLE, Int.reduceNeg, h, hi, hl, rfOb, hb]
      rw [fk]
      simp -implicitDefEqProofs only [fn_handselref03_R_Num, o_handselref03_R_Num_0, o_handselref03_R_Num_1, o_handselref03_R_Num_10, o_handselref03_R_Num_2, o_handselref03_R_Num_3, o_handselref03_R_Num_4, o_handselref03_R_Num_5, o_handselref03_R_Num_6, o_handselref03_R_Num_7, o_handselref03_R_Num_8, o_handselref03_R_Num_9, tc_handselref03_R_Num, TT, Ic.t, Ic.ci, ne_eq, eq_self, not_true_eq_false, Nat.reduceEqDiff, reduceIte, Nat.reduceAdd, Nat.reduceMul, Nat.reduceLT, Nat.reduceLeDiff, Nat.reduceSub, reduceCtorEq, Int.reduceEq, Int.reduceNe, decide_eq_true_eq, bne_self_eq_false, beq_self_eq_true, Int.reduceToNat, Int.reduceLT, Int.reduceLE, Int.reduceNeg, hi]
      exact hK
    | false =>
      have c : (r.s.size : Int) < 8 := Classical.byContradiction fun e => hc ⟨hb, by decide, by omega⟩
      simp -implicitDefEqProofs only [fn_handselref03_R_Num, o_handselref03_R_Num_0, o_handselref03_R_Num_1, o_handselref03_R_Num_10, o_handselref03_R_Num_2, o_handselref03_R_Num_3, o_handselref03_R_Num_4, o_handselref03_R_Num_5, o_handselref03_R_Num_6, o_handselref03_R_Num_7, o_handselref03_R_Num_8, o_handselref03_R_Num_9, tc_handselref03_R_Num, TT, Ic.t, Ic.ci, ne_eq, eq_self, not_true_eq_false, Nat.reduceEqDiff, reduceIte, Nat.reduceAdd, Nat.reduceMul, Nat.reduceLT, Nat.reduceLeDiff, Nat.reduceSub, reduceCtorEq, Int.reduceEq, Int.reduceNe, decide_eq_true_eq, bne_self_eq_false, beq_self_eq_true, Int.reduceToNat, Int.reduceLT, Int.reduceLE, Int.reduceNeg, h, hi, hl, rfOb, hb, c]
      rw [fk]
      simp -implicitDefEqProofs only [fn_handselref03_R_Num, o_handselref03_R_Num_0, o_handselref03_R_Num_1, o_handselref03_R_Num_10, o_handselref03_R_Num_2, o_handselref03_R_Num_3, o_handselref03_R_Num_4, o_handselref03_R_Num_5, o_handselref03_R_Num_6, o_handselref03_R_Num_7, o_handselref03_R_Num_8, o_handselref03_R_Num_9, tc_handselref03_R_Num, TT, Ic.t, Ic.ci, ne_eq, eq_self, not_true_eq_false, Nat.reduceEqDiff, reduceIte, Nat.reduceAdd, Nat.reduceMul, Nat.reduceLT, Nat.reduceLeDiff, Nat.reduceSub, reduceCtorEq, Int.reduceEq, Int.reduceNe, decide_eq_true_eq, bne_self_eq_false, beq_self_eq_true, Int.reduceToNat, Int.reduceLT, Int.reduceLE, Int.reduceNeg, hi]
      exact hK
theorem rNum_k (hv : r.Inv) (d : Option Nat) (K : TCont) (fr : TF) (tk : TK) : callK G false F_handselref03_R_Num [.ptr id 0] d K fr tk τ = K (tput fr d (.int .i64 r.num.1)) tk (τ.put id (rfOb r.num.2)) :=
  callK_of (rNum_ok r id τ h hi hl hv) (by simp -implicitDefEqProofs only [TT, Ic.t, Ic.ci, ne_eq, eq_self, not_true_eq_false, Nat.reduceEqDiff, reduceIte, Nat.reduceAdd, Nat.reduceMul, Nat.reduceLT, Nat.reduceLeDiff, Nat.reduceSub, reduceCtorEq, Int.reduceEq, Int.reduceNe, decide_eq_true_eq, bne_self_eq_false, beq_self_eq_true, Int.reduceToNat, Int.reduceLT, Int.reduceLE, Int.reduceNeg, hi])
theorem rCount_ok (hv : r.Inv) (most : Int) : Ru G F_handselref03_R_Count [.ptr id 0, .int .i64 most] τ (.int .i64 (r.count most).1) (τ.put id (rfOb (r.count most).2)) := by
  refine Ru_of fun K hK => ?_
  rw [tC_code g_handselref03_R_Count (Nat.le_of_ble_eq_true rfl)]
  simp -implicitDefEqProofs only [fn_handselref03_R_Count, o_handselref03_R_Count_0, o_handselref03_R_Count_1, o_handselref03_R_Count_2, o_handselref03_R_Count_3, o_handselref03_R_Count_4, o_handselref03_R_Count_5, tc_handselref03_R_Count, TT, Ic.t, Ic.ci, ne_eq, eq_self, not_true_eq_false, Nat.reduceEqDiff, reduceIte, Nat.reduceAdd, Nat.reduceMul, Nat.reduceLT, Nat.reduceLeDiff, Nat.reduceSub, reduceCtorEq, Int.reduceEq, Int.reduceNe, decide_eq_true_eq, bne_self_eq_false, beq_self_eq_true, Int.reduceToNat, Int.reduceLT, Int.reduceLE, Int.reduceNeg]
  rw [rNum_k r id τ h hi hl hv]
  unfold Rd.count at hK
  have hb : r.num.2.bad = true → r.num = (0, .fail) := fun hb => by
    unfold Rd.num at hb ⊢
    unfold Rd.take at hb ⊢
    split at hb
    · cases hb
    · rename_i hc; rw [if_neg hc]; rfl
  generalize r.num = q at hK hb ⊢
  have ha := at_pt τ (rfOb q.2) id hi
  have fk := rFail_k q.2 id (τ.put id (rfOb q.2)) ha (by rw [next_pt]; exact hi) (by rw [lock_pt]; exact hl)
  cases hb2 : q.2.bad with
  | true =>
    have hq := hb hb2
    simp -implicitDefEqProofs only [fn_handselref03_R_Count, o_handselref03_R_Count_0, o_handselref03_R_Count_1, o_handselref03_R_Count_2, o_handselref03_R_Count_3, o_handselref03_R_Count_4, o_handselref03_R_Count_5, tc_handselref03_R_Count, TT, Ic.t, Ic.ci, ne_eq, eq_self, not_true_eq_false, Nat.reduceEqDiff, reduceIte, Nat.reduceAdd, Nat.reduceMul, Nat.reduceLT, Nat.reduceLeDiff, Nat.reduceSub, reduceCtorEq, Int.reduceEq, Int.reduceNe, decide_eq_true_eq, bne_self_eq_false, beq_self_eq_true, Int.reduceToNat, Int.reduceLT, Int.reduceLE, Int.reduceNeg, ha, hi, hl, rfOb, hb2]
    have fk' := fk
    simp only [rfOb, hb2] at fk'
    rw [fk']
    simp -implicitDefEqProofs only [fn_handselref03_R_Count, o_handselref03_R_Count_0, o_handselref03_R_Count_1, o_handselref03_R_Count_2, o_handselref03_R_Count_3, o_handselref03_R_Count_4, o_handselref03_R_Count_5, tc_handselref03_R_Count, TT, Ic.t, Ic.ci, ne_eq, eq_self, not_true_eq_false, Nat.reduceEqDiff, reduceIte, Nat.reduceAdd, Nat.reduceMul, Nat.reduceLT, Nat.reduceLeDiff, Nat.reduceSub, reduceCtorEq, Int.reduceEq, Int.reduceNe, decide_eq_true_eq, bne_self_eq_false, beq_self_eq_true, Int.reduceToNat, Int.reduceLT, Int.reduceLE, Int.reduceNeg, hi]
    rw [hq] at hK
    split at hK
    · exact hK
    · exact hK
  | false =>
    by_cases h1 : q.1 < 0
    · rw [if_pos (.inl h1)] at hK
      simp -implicitDefEqProofs only [fn_handselref03_R_Count, o_handselref03_R_Count_0, o_handselref03_R_Count_1, o_handselref03_R_Count_2, o_handselref03_R_Count_3, o_handselref03_R_Count_4, o_handselref03_R_Count_5, tc_handselref03_R_Count, TT, Ic.t, Ic.ci, ne_eq, eq_self, not_true_eq_false, Nat.reduceEqDiff, reduceIte, Nat.reduceAdd, Nat.reduceMul, Nat.reduceLT, Nat.reduceLeDiff, Nat.reduceSub, reduceCtorEq, Int.reduceEq, Int.reduceNe, decide_eq_true_eq, bne_self_eq_false, beq_self_eq_true, Int.reduceToNat, Int.reduceLT, Int.reduceLE, Int.reduceNeg, h1, ha, hi, hl, rfOb, hb2]
      have fk' := fk
      simp only [rfOb, hb2] at fk'
      rw [fk']
      simp -implicitDefEqProofs only [fn_handselref03_R_Count, o_handselref03_R_Count_0, o_handselref03_R_Count_1, o_handselref03_R_Count_2, o_handselref03_R_Count_3, o_handselref03_R_Count_4, o_handselref03_R_Count_5, tc_handselref03_R_Count, TT, Ic.t, Ic.ci, ne_eq, eq_self, not_true_eq_false, Nat.reduceEqDiff, reduceIte, Nat.reduceAdd, Nat.reduceMul, Nat.reduceLT, Nat.reduceLeDiff, Nat.reduceSub, reduceCtorEq, Int.reduceEq, Int.reduceNe, decide_eq_true_eq, bne_self_eq_false, beq_self_eq_true, Int.reduceToNat, Int.reduceLT, Int.reduceLE, Int.reduceNeg, hi]
      exact hK
    · by_cases h2 : most < q.1
      · rw [if_pos (.inr h2)] at hK
        simp -implicitDefEqProofs only [fn_handselref03_R_Count, o_handselref03_R_Count_0, o_handselref03_R_Count_1, o_handselref03_R_Count_2, o_handselref03_R_Count_3, o_handselref03_R_Count_4, o_handselref03_R_Count_5, tc_handselref03_R_Count, TT, Ic.t, Ic.ci, ne_eq, eq_self, not_true_eq_false, Nat.reduceEqDiff, reduceIte, Nat.reduceAdd, Nat.reduceMul, Nat.reduceLT, Nat.reduceLeDiff, Nat.reduceSub, reduceCtorEq, Int.reduceEq, Int.reduceNe, decide_eq_true_eq, bne_self_eq_false, beq_self_eq_true, Int.reduceToNat, Int.reduceLT, Int.reduceLE, Int.reduceNeg, h1, h2, ha, hi, hl, rfOb, hb2]
        have fk' := fk
        simp only [rfOb, hb2] at fk'
        rw [fk']
        simp -implicitDefEqProofs only [fn_handselref03_R_Count, o_handselref03_R_Count_0, o_handselref03_R_Count_1, o_handselref03_R_Count_2, o_handselref03_R_Count_3, o_handselref03_R_Count_4, o_handselref03_R_Count_5, tc_handselref03_R_Count, TT, Ic.t, Ic.ci, ne_eq, eq_self, not_true_eq_false, Nat.reduceEqDiff, reduceIte, Nat.reduceAdd, Nat.reduceMul, Nat.reduceLT, Nat.reduceLeDiff, Nat.reduceSub, reduceCtorEq, Int.reduceEq, Int.reduceNe, decide_eq_true_eq, bne_self_eq_false, beq_self_eq_true, Int.reduceToNat, Int.reduceLT, Int.reduceLE, Int.reduceNeg, hi]
        exact hK
      · rw [if_neg (by omega)] at hK
        simp -implicitDefEqProofs only [fn_handselref03_R_Count, o_handselref03_R_Count_0, o_handselref03_R_Count_1, o_handselref03_R_Count_2, o_handselref03_R_Count_3, o_handselref03_R_Count_4, o_handselref03_R_Count_5, tc_handselref03_R_Count, TT, Ic.t, Ic.ci, ne_eq, eq_self, not_true_eq_false, Nat.reduceEqDiff, reduceIte, Nat.reduceAdd, Nat.reduceMul, Nat.reduceLT, Nat.reduceLeDiff, Nat.reduceSub, reduceCtorEq, Int.reduceEq, Int.reduceNe, decide_eq_true_eq, bne_self_eq_false, beq_self_eq_true, Int.reduceToNat, Int.reduceLT, Int.reduceLE, Int.reduceNeg, h1, h2, ha, hi, hl, rfOb, hb2]
        simp only [rfOb, hb2] at hK
        exact hK
theorem rCount_k (hv : r.Inv) (most : Int) (d : Option Nat) (K : TCont) (fr : TF) (tk : TK) : callK G false F_handselref03_R_Count [.ptr id 0, .int .i64 most] d K fr tk τ = K (tput fr d (.int .i64 (r.count most).1)) tk (τ.put id (rfOb (r.count most).2)) :=
  callK_of (rCount_ok r id τ h hi hl hv most) (by simp -implicitDefEqProofs only [TT, Ic.t, Ic.ci, ne_eq, eq_self, not_true_eq_false, Nat.reduceEqDiff, reduceIte, Nat.reduceAdd, Nat.reduceMul, Nat.reduceLT, Nat.reduceLeDiff, Nat.reduceSub, reduceCtorEq, Int.reduceEq, Int.reduceNe, decide_eq_true_eq, bne_self_eq_false, beq_self_eq_true, Int.reduceToNat, Int.reduceLT, Int.reduceLE, Int.reduceNeg, hi])
theorem rText_ok (hv : r.Inv) (most : Int) : Ru G F_handselref03_R_Text [.ptr id 0, .int .i64 most] τ (.str (r.text most).1) (τ.put id (rfOb (r.text most).2)) := by
  refine Ru_of fun K hK => ?_
  rw [tC_code g_handselref03_R_Text (Nat.le_of_ble_eq_true rfl)]
  simp -implicitDefEqProofs only [fn_handselref03_R_Text, o_handselref03_R_Text_0, o_handselref03_R_Text_1, o_handselref03_R_Text_2, o_handselref03_R_Text_3, o_handselref03_R_Text_4, o_handselref03_R_Text_5, o_handselref03_R_Text_6, o_handselref03_R_Text_7, tc_handselref03_R_Text, TT, Ic.t, Ic.ci, ne_eq, eq_self, not_true_eq_false, Nat.reduceEqDiff, reduceIte, Nat.reduceAdd, Nat.reduceMul, Nat.reduceLT, Nat.reduceLeDiff, Nat.reduceSub, reduceCtorEq, Int.reduceEq, Int.reduceNe, decide_eq_true_eq, bne_self_eq_false, beq_self_eq_true, Int.reduceToNat, Int.reduceLT, Int.reduceLE, Int.reduceNeg]
  rw [rCount_k r id τ h hi hl hv]
  unfold Rd.text at hK
  have h0 : 0 ≤ (r.count most).1 := by
    unfold Rd.count
    split
    · exact Int.le_refl _
    · rename_i hc; exact Int.not_lt.1 fun h => hc (.inl h)
  generalize r.count most = q at hK h0 ⊢
  have ha := at_pt τ (rfOb q.2) id hi
  have fk := rFail_k q.2 id (τ.put id (rfOb q.2)) ha (by rw [next_pt]; exact hi) (by rw [lock_pt]; exact hl)
  cases hb2 : q.2.bad with
  | true =>
    simp -implicitDefEqProofs only [fn_handselref03_R_Text, o_handselref03_R_Text_0, o_handselref03_R_Text_1, o_handselref03_R_Text_2, o_handselref03_R_Text_3, o_handselref03_R_Text_4, o_handselref03_R_Text_5, o_handselref03_R_Text_6, o_handselref03_R_Text_7, tc_handselref03_R_Text, TT, Ic.t, Ic.ci, ne_eq, eq_self, not_true_eq_false, Nat.reduceEqDiff, reduceIte, Nat.reduceAdd, Nat.reduceMul, Nat.reduceLT, Nat.reduceLeDiff, Nat.reduceSub, reduceCtorEq, Int.reduceEq, Int.reduceNe, decide_eq_true_eq, bne_self_eq_false, beq_self_eq_true, Int.reduceToNat, Int.reduceLT, Int.reduceLE, Int.reduceNeg, ha, hi, hl, rfOb, hb2]
    simp only [rfOb, hb2] at fk
    rw [fk]
    simp -implicitDefEqProofs only [fn_handselref03_R_Text, o_handselref03_R_Text_0, o_handselref03_R_Text_1, o_handselref03_R_Text_2, o_handselref03_R_Text_3, o_handselref03_R_Text_4, o_handselref03_R_Text_5, o_handselref03_R_Text_6, o_handselref03_R_Text_7, tc_handselref03_R_Text, TT, Ic.t, Ic.ci, ne_eq, eq_self, not_true_eq_false, Nat.reduceEqDiff, reduceIte, Nat.reduceAdd, Nat.reduceMul, Nat.reduceLT, Nat.reduceLeDiff, Nat.reduceSub, reduceCtorEq, Int.reduceEq, Int.reduceNe, decide_eq_true_eq, bne_self_eq_false, beq_self_eq_true, Int.reduceToNat, Int.reduceLT, Int.reduceLE, Int.reduceNeg, hi]
    unfold Rd.take at hK
    rw [if_neg (fun hc => by have := hc.1; rw [hb2] at this; cases this)] at hK
    exact hK
  | false =>
    by_cases h1 : (q.2.s.size : Int) < q.1
    · simp -implicitDefEqProofs only [fn_handselref03_R_Text, o_handselref03_R_Text_0, o_handselref03_R_Text_1, o_handselref03_R_Text_2, o_handselref03_R_Text_3, o_handselref03_R_Text_4, o_handselref03_R_Text_5, o_handselref03_R_Text_6, o_handselref03_R_Text_7, tc_handselref03_R_Text, TT, Ic.t, Ic.ci, ne_eq, eq_self, not_true_eq_false, Nat.reduceEqDiff, reduceIte, Nat.reduceAdd, Nat.reduceMul, Nat.reduceLT, Nat.reduceLeDiff, Nat.reduceSub, reduceCtorEq, Int.reduceEq, Int.reduceNe, decide_eq_true_eq, bne_self_eq_false, beq_self_eq_true, Int.reduceToNat, Int.reduceLT, Int.reduceLE, Int.reduceNeg, h1, ha, hi, hl, rfOb, hb2]
      simp only [rfOb, hb2] at fk
      rw [fk]
      simp -implicitDefEqProofs only [fn_handselref03_R_Text, o_handselref03_R_Text_0, o_handselref03_R_Text_1, o_handselref03_R_Text_2, o_handselref03_R_Text_3, o_handselref03_R_Text_4, o_handselref03_R_Text_5, o_handselref03_R_Text_6, o_handselref03_R_Text_7, tc_handselref03_R_Text, TT, Ic.t, Ic.ci, ne_eq, eq_self, not_true_eq_false, Nat.reduceEqDiff, reduceIte, Nat.reduceAdd, Nat.reduceMul, Nat.reduceLT, Nat.reduceLeDiff, Nat.reduceSub, reduceCtorEq, Int.reduceEq, Int.reduceNe, decide_eq_true_eq, bne_self_eq_false, beq_self_eq_true, Int.reduceToNat, Int.reduceLT, Int.reduceLE, Int.reduceNeg, hi]
      unfold Rd.take at hK
      rw [if_neg (fun hc => by have := hc.2.2; omega)] at hK
      exact hK
    · have h2 : q.1 ≤ (q.2.s.size : Int) := by omega
      simp -implicitDefEqProofs only [fn_handselref03_R_Text, o_handselref03_R_Text_0, o_handselref03_R_Text_1, o_handselref03_R_Text_2, o_handselref03_R_Text_3, o_handselref03_R_Text_4, o_handselref03_R_Text_5, o_handselref03_R_Text_6, o_handselref03_R_Text_7, tc_handselref03_R_Text, TT, Ic.t, Ic.ci, ne_eq, eq_self, not_true_eq_false, Nat.reduceEqDiff, reduceIte, Nat.reduceAdd, Nat.reduceMul, Nat.reduceLT, Nat.reduceLeDiff, Nat.reduceSub, reduceCtorEq, Int.reduceEq, Int.reduceNe, decide_eq_true_eq, bne_self_eq_false, beq_self_eq_true, Int.reduceToNat, Int.reduceLT, Int.reduceLE, Int.reduceNeg, h1, h2, h0, ha, hi, hl, rfOb, hb2]
      unfold Rd.take at hK
      rw [if_pos ⟨hb2, h0, h2⟩] at hK
      exact hK
theorem rText_k (hv : r.Inv) (most : Int) (d : Option Nat) (K : TCont) (fr : TF) (tk : TK) : callK G false F_handselref03_R_Text [.ptr id 0, .int .i64 most] d K fr tk τ = K (tput fr d (.str (r.text most).1)) tk (τ.put id (rfOb (r.text most).2)) :=
  callK_of (rText_ok r id τ h hi hl hv most) (by simp -implicitDefEqProofs only [TT, Ic.t, Ic.ci, ne_eq, eq_self, not_true_eq_false, Nat.reduceEqDiff, reduceIte, Nat.reduceAdd, Nat.reduceMul, Nat.reduceLT, Nat.reduceLeDiff, Nat.reduceSub, reduceCtorEq, Int.reduceEq, Int.reduceNe, decide_eq_true_eq, bne_self_eq_false, beq_self_eq_true, Int.reduceToNat, Int.reduceLT, Int.reduceLE, Int.reduceNeg, hi])
end
end Go.Proofs.Ytoaohoilkfbdgaa
