/- The law CodecNums: its walk. -/
import Derived.Test.YtoaohoilkfbdgaaCodec7
set_option linter.unusedSimpArgs false
set_option linter.unusedVariables false
set_option linter.unusedSectionVars false
namespace Go.Proofs.Ytoaohoilkfbdgaa
open Go Go.RowKit Sh Ic
open ArgT (enc)
def hor (u : Int) (l : List UInt8) : Int := l.foldl (fun v c => IntKind.u64.wrap (IntKind.u64.wrap (256 * v) + IntKind.u64.wrap (c.toNat : Int))) u
theorem hor_num (l : List UInt8) : ∀ (u v : Int), IntKind.i64.wrap u = IntKind.i64.wrap v → IntKind.i64.wrap (hor u l) = IntKind.i64.wrap (numOf v l) := by
  induction l with
  | nil => exact fun u v h => h
  | cons c r ih =>
    intro u v h
    refine ih _ (pushB v c) ?_
    show IntKind.i64.wrap (IntKind.u64.wrap (IntKind.u64.wrap (256 * u) + IntKind.u64.wrap (c.toNat : Int))) = IntKind.i64.wrap (pushB v c)
    unfold pushB
    rw [IntKind.wrap_i64] at h ⊢
    rw [IntKind.wrap_i64] at h ⊢
    rw [wrap_u64, wrap_u64, wrap_u64, IntKind.wrap_i64]
    omega
theorem Nums_loop (v : Int) (s : ByteArray) (hs : s.size = 8) (Q : TEx → TCont) (τ : TH) (tk : TK) (n : Nat) : ∀ (i : Nat) (u : Int), n + i = 8 →
    Q (.exit 0) [(0, .int .i64 v), (3, .str s), (4, .int .u64 (hor u (s.data.toList.drop i))), (5, .int .i64 8), (13, .bool false)] tk τ →
    tW G (.loop [0, 3, 4, 5] l_handsellaw03_CodecNums_1) Q [(0, .int .i64 v), (3, .str s), (4, .int .u64 u), (5, .int .i64 (i : Int))] tk τ := by
  induction n with
  | zero =>
    intro i u hi hQ
    obtain rfl : i = 8 := by omega
    refine tW_lp fun LQ hn hr he => ?_
    have c : ¬ (((8 : Nat) : Int) < 8) := by decide
    simp -implicitDefEqProofs only [l_handsellaw03_CodecNums_1, fn_handsellaw03_CodecNums, o_handsellaw03_CodecNums_0, o_handsellaw03_CodecNums_1, o_handsellaw03_CodecNums_10, o_handsellaw03_CodecNums_2, o_handsellaw03_CodecNums_3, o_handsellaw03_CodecNums_4, o_handsellaw03_CodecNums_5, o_handsellaw03_CodecNums_6, o_handsellaw03_CodecNums_7, o_handsellaw03_CodecNums_8, o_handsellaw03_CodecNums_9, tc_handsellaw03_CodecNums, TT, Ic.t, Ic.ci, ne_eq, eq_self, not_true_eq_false, Nat.reduceEqDiff, reduceIte, Nat.reduceAdd, Nat.reduceMul, Nat.reduceLT, Nat.reduceLeDiff, Nat.reduceSub, reduceCtorEq, Int.reduceEq, Int.reduceNe, decide_eq_true_eq, bne_self_eq_false, beq_self_eq_true, Int.reduceToNat, Int.reduceLT, Int.reduceLE, Int.reduceNeg, c, he]
    have e : s.data.toList.drop 8 = [] := List.drop_eq_nil_of_le (by show s.data.size ≤ 8; exact Nat.le_of_eq hs)
    rw [e] at hQ
    exact hQ
  | succ n ih =>
    intro i u hi hQ
    refine tW_lp fun LQ hn hr he => ?_
    have c : (i : Int) < 8 := by omega
    have c0 : (0 : Int) ≤ (i : Int) := by omega
    have c1 : (i : Int) < (s.size : Int) := by omega
    have w1 : IntKind.i64.wrap ((i : Int) + 1) = ((i + 1 : Nat) : Int) := by rw [w64 (by omega) (by omega)]; omega
    simp -implicitDefEqProofs only [l_handsellaw03_CodecNums_1, fn_handsellaw03_CodecNums, o_handsellaw03_CodecNums_0, o_handsellaw03_CodecNums_1, o_handsellaw03_CodecNums_10, o_handsellaw03_CodecNums_2, o_handsellaw03_CodecNums_3, o_handsellaw03_CodecNums_4, o_handsellaw03_CodecNums_5, o_handsellaw03_CodecNums_6, o_handsellaw03_CodecNums_7, o_handsellaw03_CodecNums_8, o_handsellaw03_CodecNums_9, tc_handsellaw03_CodecNums, TT, Ic.t, Ic.ci, ne_eq, eq_self, not_true_eq_false, Nat.reduceEqDiff, reduceIte, Nat.reduceAdd, Nat.reduceMul, Nat.reduceLT, Nat.reduceLeDiff, Nat.reduceSub, reduceCtorEq, Int.reduceEq, Int.reduceNe, decide_eq_true_eq, bne_self_eq_false, beq_self_eq_true, Int.reduceToNat, Int.reduceLT, Int.reduceLE, Int.reduceNeg, c, c0, c1, w1]
    rw [hn]
    simp -implicitDefEqProofs only [TT, Ic.t, Ic.ci, ne_eq, eq_self, not_true_eq_false, Nat.reduceEqDiff, reduceIte, Nat.reduceAdd, Nat.reduceMul, Nat.reduceLT, Nat.reduceLeDiff, Nat.reduceSub, reduceCtorEq, Int.reduceEq, Int.reduceNe, decide_eq_true_eq, bne_self_eq_false, beq_self_eq_true, Int.reduceToNat, Int.reduceLT, Int.reduceLE, Int.reduceNeg]
    refine ih (i + 1) _ (by omega) ?_
    rw [drop_cons s i (by omega)] at hQ
    exact hQ
theorem codecNums_run (v : Int) (hv : I64 v) : Lw G F_handsellaw03_CodecNums [.int .i64 v] := by
  refine Lw_of fun K hK => ?_
  rw [tC_code g_handsellaw03_CodecNums (Nat.le_of_ble_eq_true rfl)]
  have hlk : (⟨[], 0⟩ : TH).lock ≤ (⟨[], 0⟩ : TH).next := Nat.le_refl 0
  generalize (⟨[], 0⟩ : TH) = τ at hlk
  have s8 : (((encNum v).size : Nat) : Int) = 8 := rfl
  simp -implicitDefEqProofs only [fn_handsellaw03_CodecNums, o_handsellaw03_CodecNums_0, o_handsellaw03_CodecNums_1, o_handsellaw03_CodecNums_10, o_handsellaw03_CodecNums_2, o_handsellaw03_CodecNums_3, o_handsellaw03_CodecNums_4, o_handsellaw03_CodecNums_5, o_handsellaw03_CodecNums_6, o_handsellaw03_CodecNums_7, o_handsellaw03_CodecNums_8, o_handsellaw03_CodecNums_9, tc_handsellaw03_CodecNums, TT, Ic.t, Ic.ci, ne_eq, eq_self, not_true_eq_false, Nat.reduceEqDiff, reduceIte, Nat.reduceAdd, Nat.reduceMul, Nat.reduceLT, Nat.reduceLeDiff, Nat.reduceSub, reduceCtorEq, Int.reduceEq, Int.reduceNe, decide_eq_true_eq, bne_self_eq_false, beq_self_eq_true, Int.reduceToNat, Int.reduceLT, Int.reduceLE, Int.reduceNeg, cNum_k, hlk, s8]
  refine Nums_loop v (encNum v) rfl _ _ _ 8 0 0 rfl ?_
  have e1 : IntKind.i64.wrap (hor 0 (encNum v).data.toList) = v := by
    rw [hor_num _ 0 0 rfl, numOf_wrap, num_enc v hv]
  have e2 : (((encText (encNum v)).size : Nat) : Int) = 16 := by
    unfold encText; rw [ByteArray.size_append]; rfl
  have e4 : (encText (encNum v)).data.getD 7 0 = 8 := by
    have : (encText (encNum v)).data = (encNum 8).data ++ (encNum v).data := ByteArray.data_append
    rw [this, Array.getD_eq_getD_getElem?, Array.getElem?_append_left (by decide)]
    decide
  have e3 : (encText (encNum v)).extract 8 (encText (encNum v)).size = encNum v := ext1 (encNum (encNum v).size) (encNum v)
  have e5 : (((encNum (v % 100)).data.getD 7 0).toNat : Int) = v % 100 := by
    have e : (encNum (v % 100)).data.getD 7 0 = UInt8.ofNat (byteP (v % 100) 7).toNat := rfl
    rw [e, ofNat_byteP, byteP_eq]
    have p7 : Nat.min (8 * (7 - 7)) 64 = 0 := rfl
    rw [p7]
    simp only [Nat.reducePow, Int.cast_ofNat_Int]
    omega
  have e6 : IntKind.u8.wrap (v % 100) = v % 100 := by
    have e : IntKind.u8.wrap (v % 100) = (v % 100) % 256 := by simp [IntKind.wrap, IntKind.bits, IntKind.signed]
    omega
  have e7 : ((8 : UInt8).toNat : Int) = 8 := rfl
  have e8 : (0 : Int) ≤ 8 ∧ (8 : Int) ≤ 16 := by decide
  have pk := Place_k v 100 hv (by decide) (by decide)
  have s9 : (((encNum (v % 100)).size : Nat) : Int) = 8 := rfl
  simp -implicitDefEqProofs only [fn_handsellaw03_CodecNums, o_handsellaw03_CodecNums_0, o_handsellaw03_CodecNums_1, o_handsellaw03_CodecNums_10, o_handsellaw03_CodecNums_2, o_handsellaw03_CodecNums_3, o_handsellaw03_CodecNums_4, o_handsellaw03_CodecNums_5, o_handsellaw03_CodecNums_6, o_handsellaw03_CodecNums_7, o_handsellaw03_CodecNums_8, o_handsellaw03_CodecNums_9, tc_handsellaw03_CodecNums, TT, Ic.t, Ic.ci, ne_eq, eq_self, not_true_eq_false, Nat.reduceEqDiff, reduceIte, Nat.reduceAdd, Nat.reduceMul, Nat.reduceLT, Nat.reduceLeDiff, Nat.reduceSub, reduceCtorEq, Int.reduceEq, Int.reduceNe, decide_eq_true_eq, bne_self_eq_false, beq_self_eq_true, Int.reduceToNat, Int.reduceLT, Int.reduceLE, Int.reduceNeg, List.drop_zero, e1, e2, e3, e4, e5, e6, e7, pk, s8, s9, hlk, cNum_k, cText_k _ (Nat.le_of_ble_eq_true (show Nat.ble (encNum v).size 140737488355328 = true from rfl)), awake03_k]
  exact hK _
theorem codecNums_ok (v : Int) (h : Arg.ok v) : Lw G F_handsellaw03_CodecNums [enc v] := codecNums_run v h
end Go.Proofs.Ytoaohoilkfbdgaa
