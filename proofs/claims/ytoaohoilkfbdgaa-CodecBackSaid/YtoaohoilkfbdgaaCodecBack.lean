/- The law CodecBack: its walk. -/
import Derived.Test.YtoaohoilkfbdgaaCodecBack2
set_option linter.unusedSimpArgs false
set_option linter.unusedVariables false
set_option linter.unusedSectionVars false
namespace Go.Proofs.Ytoaohoilkfbdgaa
open Go Go.RowKit Sh Ic
open ArgT (enc)
theorem wr_len (nums : List Int) (texts : List ByteArray) : 0 < nums.length + texts.length → 8 ≤ (wr nums texts).size := by
  intro h
  cases nums with
  | nil =>
    cases texts with
    | nil => cases h
    | cons t ts => rw [wr, ByteArray.size_append, encText_size]; omega
  | cons v vs =>
    cases texts with
    | nil => rw [wr, ByteArray.size_append, encNum_size]; omega
    | cons t ts => rw [wr, ByteArray.size_append, encNum_size]; omega
theorem wr_most (m : Nat) : ∀ (nums : List Int) (texts : List ByteArray), nums.length ≤ m → texts.length ≤ m → (∀ j (h : j < texts.length), texts[j].size ≤ 100) → (wr nums texts).size ≤ 200 * m := by
  induction m with
  | zero =>
    intro nums texts h1 h2 _
    rw [List.length_eq_zero_iff.1 (by omega : nums.length = 0), List.length_eq_zero_iff.1 (by omega : texts.length = 0), wr]
    decide
  | succ m ih =>
    intro nums texts h1 h2 h3
    have hl := wr_drop nums texts 0
    rw [List.drop_zero, List.drop_zero] at hl
    have := ih (nums.drop (0 + 1)) (texts.drop (0 + 1)) (by simp; omega) (by simp; omega) (fun j h => by
      rw [List.getElem_drop]; exact h3 _ _)
    rw [hl, ByteArray.size_append, ByteArray.size_append]
    have e1 : (wrN 0 nums).size ≤ 8 := by unfold wrN; split <;> first | exact Nat.le_refl _ | decide
    have e2 : (wrT 0 texts).size ≤ 108 := by
      unfold wrT; split
      · rename_i h; rw [encText_size]; have := h3 0 h; omega
      · decide
    omega
theorem cut_at (s : ByteArray) (n : Nat) (h : n ≤ s.size) : s.extract 0 n ++ s.extract n s.size = s := by
  apply ba_toList
  rw [ByteArray.data_append, Array.toList_append, ByteArray.data_extract, ByteArray.data_extract, Array.toList_extract, Array.toList_extract, List.extract_eq_take_drop, List.extract_eq_take_drop, List.drop_zero, Nat.sub_zero]
  rw [List.take_of_length_le (l := s.data.toList.drop n) (by simp), List.take_append_drop]
theorem codecBack_run (nums : List Int) (texts : List ByteArray) (cut : Int) (hv : ∀ v ∈ nums, I64 v) (hc : I64 cut) : Lw G F_handsellaw03_CodecBack [.sl (nums.map enc), .sl (texts.map enc), .int .i64 cut] := by
  refine Lw_of fun K hK => ?_
  rw [tC_code g_handsellaw03_CodecBack (Nat.le_of_ble_eq_true rfl)]
  have hlk : (⟨[], 0⟩ : TH).lock ≤ (⟨[], 0⟩ : TH).next := Nat.le_refl 0
  generalize (⟨[], 0⟩ : TH) = τ at hlk
  by_cases c1 : (30 : Int) < (nums.length : Int)
  · simp -implicitDefEqProofs only [fn_handsellaw03_CodecBack, o_handsellaw03_CodecBack_0, o_handsellaw03_CodecBack_1, o_handsellaw03_CodecBack_10, o_handsellaw03_CodecBack_11, o_handsellaw03_CodecBack_12, o_handsellaw03_CodecBack_13, o_handsellaw03_CodecBack_14, o_handsellaw03_CodecBack_15, o_handsellaw03_CodecBack_16, o_handsellaw03_CodecBack_17, o_handsellaw03_CodecBack_18, o_handsellaw03_CodecBack_19, o_handsellaw03_CodecBack_2, o_handsellaw03_CodecBack_20, o_handsellaw03_CodecBack_21, o_handsellaw03_CodecBack_22, o_handsellaw03_CodecBack_23, o_handsellaw03_CodecBack_24, o_handsellaw03_CodecBack_25, o_handsellaw03_CodecBack_26, o_handsellaw03_CodecBack_27, o_handsellaw03_CodecBack_28, o_handsellaw03_CodecBack_29, o_handsellaw03_CodecBack_3, o_handsellaw03_CodecBack_4, o_handsellaw03_CodecBack_5, o_handsellaw03_CodecBack_6, o_handsellaw03_CodecBack_7, o_handsellaw03_CodecBack_8, o_handsellaw03_CodecBack_9, tc_handsellaw03_CodecBack, TT, Ic.t, Ic.ci, ne_eq, eq_self, not_true_eq_false, Nat.reduceEqDiff, reduceIte, Nat.reduceAdd, Nat.reduceMul, Nat.reduceLT, Nat.reduceLeDiff, Nat.reduceSub, reduceCtorEq, Int.reduceEq, Int.reduceNe, decide_eq_true_eq, bne_self_eq_false, beq_self_eq_true, Int.reduceToNat, Int.reduceLT, Int.reduceLE, Int.reduceNeg, c1, enc_len, awake03_k, hlk]
    exact hK _
  by_cases c2 : (30 : Int) < (texts.length : Int)
  · simp -implicitDefEqProofs only [fn_handsellaw03_CodecBack, o_handsellaw03_CodecBack_0, o_handsellaw03_CodecBack_1, o_handsellaw03_CodecBack_10, o_handsellaw03_CodecBack_11, o_handsellaw03_CodecBack_12, o_handsellaw03_CodecBack_13, o_handsellaw03_CodecBack_14, o_handsellaw03_CodecBack_15, o_handsellaw03_CodecBack_16, o_handsellaw03_CodecBack_17, o_handsellaw03_CodecBack_18, o_handsellaw03_CodecBack_19, o_handsellaw03_CodecBack_2, o_handsellaw03_CodecBack_20, o_handsellaw03_CodecBack_21, o_handsellaw03_CodecBack_22, o_handsellaw03_CodecBack_23, o_handsellaw03_CodecBack_24, o_handsellaw03_CodecBack_25, o_handsellaw03_CodecBack_26, o_handsellaw03_CodecBack_27, o_handsellaw03_CodecBack_28, o_handsellaw03_CodecBack_29, o_handsellaw03_CodecBack_3, o_handsellaw03_CodecBack_4, o_handsellaw03_CodecBack_5, o_handsellaw03_CodecBack_6, o_handsellaw03_CodecBack_7, o_handsellaw03_CodecBack_8, o_handsellaw03_CodecBack_9, tc_handsellaw03_CodecBack, TT, Ic.t, Ic.ci, ne_eq, eq_self, not_true_eq_false, Nat.reduceEqDiff, reduceIte, Nat.reduceAdd, Nat.reduceMul, Nat.reduceLT, Nat.reduceLeDiff, Nat.reduceSub, reduceCtorEq, Int.reduceEq, Int.reduceNe, decide_eq_true_eq, bne_self_eq_false, beq_self_eq_true, Int.reduceToNat, Int.reduceLT, Int.reduceLE, Int.reduceNeg, c1, c2, enc_len, awake03_k, hlk]
    exact hK _
  simp -implicitDefEqProofs only [fn_handsellaw03_CodecBack, o_handsellaw03_CodecBack_0, o_handsellaw03_CodecBack_1, o_handsellaw03_CodecBack_10, o_handsellaw03_CodecBack_11, o_handsellaw03_CodecBack_12, o_handsellaw03_CodecBack_13, o_handsellaw03_CodecBack_14, o_handsellaw03_CodecBack_15, o_handsellaw03_CodecBack_16, o_handsellaw03_CodecBack_17, o_handsellaw03_CodecBack_18, o_handsellaw03_CodecBack_19, o_handsellaw03_CodecBack_2, o_handsellaw03_CodecBack_20, o_handsellaw03_CodecBack_21, o_handsellaw03_CodecBack_22, o_handsellaw03_CodecBack_23, o_handsellaw03_CodecBack_24, o_handsellaw03_CodecBack_25, o_handsellaw03_CodecBack_26, o_handsellaw03_CodecBack_27, o_handsellaw03_CodecBack_28, o_handsellaw03_CodecBack_29, o_handsellaw03_CodecBack_3, o_handsellaw03_CodecBack_4, o_handsellaw03_CodecBack_5, o_handsellaw03_CodecBack_6, o_handsellaw03_CodecBack_7, o_handsellaw03_CodecBack_8, o_handsellaw03_CodecBack_9, tc_handsellaw03_CodecBack, TT, Ic.t, Ic.ci, ne_eq, eq_self, not_true_eq_false, Nat.reduceEqDiff, reduceIte, Nat.reduceAdd, Nat.reduceMul, Nat.reduceLT, Nat.reduceLeDiff, Nat.reduceSub, reduceCtorEq, Int.reduceEq, Int.reduceNe, decide_eq_true_eq, bne_self_eq_false, beq_self_eq_true, Int.reduceToNat, Int.reduceLT, Int.reduceLE, Int.reduceNeg, c1, c2, enc_len, awake03_k, hlk]
  have hm : max nums.length texts.length = nums.length ∨ max nums.length texts.length = texts.length := by omega
  refine Back_loop1 nums texts cut (max nums.length texts.length) (by omega) (by omega) hm (by omega) _ _ hlk ?_ _ 0 ⟨#[]⟩ rfl (by decide) fun h100 => ?_
  · simp -implicitDefEqProofs only [fn_handsellaw03_CodecBack, o_handsellaw03_CodecBack_0, o_handsellaw03_CodecBack_1, o_handsellaw03_CodecBack_10, o_handsellaw03_CodecBack_11, o_handsellaw03_CodecBack_12, o_handsellaw03_CodecBack_13, o_handsellaw03_CodecBack_14, o_handsellaw03_CodecBack_15, o_handsellaw03_CodecBack_16, o_handsellaw03_CodecBack_17, o_handsellaw03_CodecBack_18, o_handsellaw03_CodecBack_19, o_handsellaw03_CodecBack_2, o_handsellaw03_CodecBack_20, o_handsellaw03_CodecBack_21, o_handsellaw03_CodecBack_22, o_handsellaw03_CodecBack_23, o_handsellaw03_CodecBack_24, o_handsellaw03_CodecBack_25, o_handsellaw03_CodecBack_26, o_handsellaw03_CodecBack_27, o_handsellaw03_CodecBack_28, o_handsellaw03_CodecBack_29, o_handsellaw03_CodecBack_3, o_handsellaw03_CodecBack_4, o_handsellaw03_CodecBack_5, o_handsellaw03_CodecBack_6, o_handsellaw03_CodecBack_7, o_handsellaw03_CodecBack_8, o_handsellaw03_CodecBack_9, tc_handsellaw03_CodecBack, TT, Ic.t, Ic.ci, ne_eq, eq_self, not_true_eq_false, Nat.reduceEqDiff, reduceIte, Nat.reduceAdd, Nat.reduceMul, Nat.reduceLT, Nat.reduceLeDiff, Nat.reduceSub, reduceCtorEq, Int.reduceEq, Int.reduceNe, decide_eq_true_eq, bne_self_eq_false, beq_self_eq_true, Int.reduceToNat, Int.reduceLT, Int.reduceLE, Int.reduceNeg, hlk]
    exact hK _
  rw [nil_app, List.drop_zero, List.drop_zero]
  have h100 : ∀ j (h : j < texts.length), texts[j].size ≤ 100 := fun j h => h100 j h (Nat.zero_le _)
  have hmost := wr_most (max nums.length texts.length) nums texts (by omega) (by omega) h100
  have hlen := wr_len nums texts
  generalize hs : wr nums texts = s at hmost hlen
  by_cases c3 : s = ⟨#[]⟩
  · have : nums.length + texts.length = 0 := by
      refine Classical.byContradiction fun h => ?_
      have := hlen (by omega)
      rw [c3] at this
      exact absurd this (by decide)
    have w0 : IntKind.i64.wrap ((nums.length : Int) + (texts.length : Int)) = 0 := by rw [w64 (by omega) (by omega)]; omega
    simp -implicitDefEqProofs only [fn_handsellaw03_CodecBack, o_handsellaw03_CodecBack_0, o_handsellaw03_CodecBack_1, o_handsellaw03_CodecBack_10, o_handsellaw03_CodecBack_11, o_handsellaw03_CodecBack_12, o_handsellaw03_CodecBack_13, o_handsellaw03_CodecBack_14, o_handsellaw03_CodecBack_15, o_handsellaw03_CodecBack_16, o_handsellaw03_CodecBack_17, o_handsellaw03_CodecBack_18, o_handsellaw03_CodecBack_19, o_handsellaw03_CodecBack_2, o_handsellaw03_CodecBack_20, o_handsellaw03_CodecBack_21, o_handsellaw03_CodecBack_22, o_handsellaw03_CodecBack_23, o_handsellaw03_CodecBack_24, o_handsellaw03_CodecBack_25, o_handsellaw03_CodecBack_26, o_handsellaw03_CodecBack_27, o_handsellaw03_CodecBack_28, o_handsellaw03_CodecBack_29, o_handsellaw03_CodecBack_3, o_handsellaw03_CodecBack_4, o_handsellaw03_CodecBack_5, o_handsellaw03_CodecBack_6, o_handsellaw03_CodecBack_7, o_handsellaw03_CodecBack_8, o_handsellaw03_CodecBack_9, tc_handsellaw03_CodecBack, TT, Ic.t, Ic.ci, ne_eq, eq_self, not_true_eq_false, Nat.reduceEqDiff, reduceIte, Nat.reduceAdd, Nat.reduceMul, Nat.reduceLT, Nat.reduceLeDiff, Nat.reduceSub, reduceCtorEq, Int.reduceEq, Int.reduceNe, decide_eq_true_eq, bne_self_eq_false, beq_self_eq_true, Int.reduceToNat, Int.reduceLT, Int.reduceLE, Int.reduceNeg, hlk, c3, w0, enc_len, awake03_k]
    exact hK _
  have hpos : 0 < s.size := by
    refine Nat.pos_of_ne_zero fun h => c3 (ba_empty h)
  have pk := Place_k cut (s.size : Int) hc (by omega) (by omega)
  obtain ⟨x, hx⟩ : ∃ x : Nat, cut % (s.size : Int) = (x : Int) := ⟨(cut % (s.size : Int)).toNat, by have := Int.emod_nonneg cut (show (s.size : Int) ≠ 0 by omega); omega⟩
  have hxs : (x : Int) < s.size := by rw [← hx]; exact Int.emod_lt_of_pos _ (by omega)
  rw [hx] at pk
  have cx : (0 : Int) ≤ (x : Int) ∧ (x : Int) ≤ (s.size : Int) := by omega
  simp -implicitDefEqProofs only [fn_handsellaw03_CodecBack, o_handsellaw03_CodecBack_0, o_handsellaw03_CodecBack_1, o_handsellaw03_CodecBack_10, o_handsellaw03_CodecBack_11, o_handsellaw03_CodecBack_12, o_handsellaw03_CodecBack_13, o_handsellaw03_CodecBack_14, o_handsellaw03_CodecBack_15, o_handsellaw03_CodecBack_16, o_handsellaw03_CodecBack_17, o_handsellaw03_CodecBack_18, o_handsellaw03_CodecBack_19, o_handsellaw03_CodecBack_2, o_handsellaw03_CodecBack_20, o_handsellaw03_CodecBack_21, o_handsellaw03_CodecBack_22, o_handsellaw03_CodecBack_23, o_handsellaw03_CodecBack_24, o_handsellaw03_CodecBack_25, o_handsellaw03_CodecBack_26, o_handsellaw03_CodecBack_27, o_handsellaw03_CodecBack_28, o_handsellaw03_CodecBack_29, o_handsellaw03_CodecBack_3, o_handsellaw03_CodecBack_4, o_handsellaw03_CodecBack_5, o_handsellaw03_CodecBack_6, o_handsellaw03_CodecBack_7, o_handsellaw03_CodecBack_8, o_handsellaw03_CodecBack_9, tc_handsellaw03_CodecBack, TT, Ic.t, Ic.ci, ne_eq, eq_self, not_true_eq_false, Nat.reduceEqDiff, reduceIte, Nat.reduceAdd, Nat.reduceMul, Nat.reduceLT, Nat.reduceLeDiff, Nat.reduceSub, reduceCtorEq, Int.reduceEq, Int.reduceNe, decide_eq_true_eq, bne_self_eq_false, beq_self_eq_true, Int.reduceToNat, Int.reduceLT, Int.reduceLE, Int.reduceNeg, hlk, c3, pk, cx, codec_New_k]
  have n1 : (τ.next = τ.next + 1) = False := eq_false (by omega)
  have n2 : (τ.next + 1 = τ.next) = False := eq_false (by omega)
  have l1 : τ.lock ≤ τ.next + 1 := by omega
  refine Back_loop2 nums texts (max nums.length texts.length) (by omega) (by omega) (by omega) hv hm h100 τ.next (τ.next + 1) n1 n2 _ _ 0 ⟨s.extract 0 x, false⟩ _ rfl ?_ ?_ ?_ ?_ ?_ ?_ ?_ ?_ ?_
  · simp -implicitDefEqProofs only [TT, Ic.t, Ic.ci, ne_eq, eq_self, not_true_eq_false, Nat.reduceEqDiff, reduceIte, Nat.reduceAdd, Nat.reduceMul, Nat.reduceLT, Nat.reduceLeDiff, Nat.reduceSub, reduceCtorEq, Int.reduceEq, Int.reduceNe, decide_eq_true_eq, bne_self_eq_false, beq_self_eq_true, Int.reduceToNat, Int.reduceLT, Int.reduceLE, Int.reduceNeg, hs, List.drop_zero]
  · simp -implicitDefEqProofs only [TT, Ic.t, Ic.ci, ne_eq, eq_self, not_true_eq_false, Nat.reduceEqDiff, reduceIte, Nat.reduceAdd, Nat.reduceMul, Nat.reduceLT, Nat.reduceLeDiff, Nat.reduceSub, reduceCtorEq, Int.reduceEq, Int.reduceNe, decide_eq_true_eq, bne_self_eq_false, beq_self_eq_true, Int.reduceToNat, Int.reduceLT, Int.reduceLE, Int.reduceNeg, n1, n2]
  · rw [List.drop_zero, List.drop_zero, hs]
    exact .inr ⟨_, s.extract x s.size, rfl, cut_at s x (by omega), by rw [ByteArray.size_extract]; omega⟩
  · simp -implicitDefEqProofs only [TT, Ic.t, Ic.ci, ne_eq, eq_self, not_true_eq_false, Nat.reduceEqDiff, reduceIte, Nat.reduceAdd, Nat.reduceMul, Nat.reduceLT, Nat.reduceLeDiff, Nat.reduceSub, reduceCtorEq, Int.reduceEq, Int.reduceNe, decide_eq_true_eq, bne_self_eq_false, beq_self_eq_true, Int.reduceToNat, Int.reduceLT, Int.reduceLE, Int.reduceNeg]
  · simp -implicitDefEqProofs only [TT, Ic.t, Ic.ci, ne_eq, eq_self, not_true_eq_false, Nat.reduceEqDiff, reduceIte, Nat.reduceAdd, Nat.reduceMul, Nat.reduceLT, Nat.reduceLeDiff, Nat.reduceSub, reduceCtorEq, Int.reduceEq, Int.reduceNe, decide_eq_true_eq, bne_self_eq_false, beq_self_eq_true, Int.reduceToNat, Int.reduceLT, Int.reduceLE, Int.reduceNeg]
  · simp -implicitDefEqProofs only [TT, Ic.t, Ic.ci, ne_eq, eq_self, not_true_eq_false, Nat.reduceEqDiff, reduceIte, Nat.reduceAdd, Nat.reduceMul, Nat.reduceLT, Nat.reduceLeDiff, Nat.reduceSub, reduceCtorEq, Int.reduceEq, Int.reduceNe, decide_eq_true_eq, bne_self_eq_false, beq_self_eq_true, Int.reduceToNat, Int.reduceLT, Int.reduceLE, Int.reduceNeg, hlk]
  · simp -implicitDefEqProofs only [TT, Ic.t, Ic.ci, ne_eq, eq_self, not_true_eq_false, Nat.reduceEqDiff, reduceIte, Nat.reduceAdd, Nat.reduceMul, Nat.reduceLT, Nat.reduceLeDiff, Nat.reduceSub, reduceCtorEq, Int.reduceEq, Int.reduceNe, decide_eq_true_eq, bne_self_eq_false, beq_self_eq_true, Int.reduceToNat, Int.reduceLT, Int.reduceLE, Int.reduceNeg, l1]
  · simp -implicitDefEqProofs only [TT, Ic.t, Ic.ci, ne_eq, eq_self, not_true_eq_false, Nat.reduceEqDiff, reduceIte, Nat.reduceAdd, Nat.reduceMul, Nat.reduceLT, Nat.reduceLeDiff, Nat.reduceSub, reduceCtorEq, Int.reduceEq, Int.reduceNe, decide_eq_true_eq, bne_self_eq_false, beq_self_eq_true, Int.reduceToNat, Int.reduceLT, Int.reduceLE, Int.reduceNeg, Nat.le_succ_of_le l1]
  · intro τ' hl' hn' a0 a1
    simp only [lock_pu, next_pu] at hl' hn'
    have i0 : τ.next < τ'.next := by omega
    have i1 : τ.next + 1 < τ'.next := by omega
    have k0 : τ'.lock ≤ τ.next := by omega
    have k1 : τ'.lock ≤ τ.next + 1 := by omega
    have k2 : τ'.lock ≤ τ'.next := by omega
    have hcut : τ.next + 2 = τ'.next := by omega
    have f1 : Rd.fail.bad = true := rfl
    have f2 : Rd.fail.s = ⟨#[]⟩ := rfl
    have f3 : ((ByteArray.size ⟨#[]⟩ : Nat) : Int) = 0 := by decide
    simp -implicitDefEqProofs only [fn_handsellaw03_CodecBack, o_handsellaw03_CodecBack_0, o_handsellaw03_CodecBack_1, o_handsellaw03_CodecBack_10, o_handsellaw03_CodecBack_11, o_handsellaw03_CodecBack_12, o_handsellaw03_CodecBack_13, o_handsellaw03_CodecBack_14, o_handsellaw03_CodecBack_15, o_handsellaw03_CodecBack_16, o_handsellaw03_CodecBack_17, o_handsellaw03_CodecBack_18, o_handsellaw03_CodecBack_19, o_handsellaw03_CodecBack_2, o_handsellaw03_CodecBack_20, o_handsellaw03_CodecBack_21, o_handsellaw03_CodecBack_22, o_handsellaw03_CodecBack_23, o_handsellaw03_CodecBack_24, o_handsellaw03_CodecBack_25, o_handsellaw03_CodecBack_26, o_handsellaw03_CodecBack_27, o_handsellaw03_CodecBack_28, o_handsellaw03_CodecBack_29, o_handsellaw03_CodecBack_3, o_handsellaw03_CodecBack_4, o_handsellaw03_CodecBack_5, o_handsellaw03_CodecBack_6, o_handsellaw03_CodecBack_7, o_handsellaw03_CodecBack_8, o_handsellaw03_CodecBack_9, tc_handsellaw03_CodecBack, TT, Ic.t, Ic.ci, ne_eq, eq_self, not_true_eq_false, Nat.reduceEqDiff, reduceIte, Nat.reduceAdd, Nat.reduceMul, Nat.reduceLT, Nat.reduceLeDiff, Nat.reduceSub, reduceCtorEq, Int.reduceEq, Int.reduceNe, decide_eq_true_eq, bne_self_eq_false, beq_self_eq_true, Int.reduceToNat, Int.reduceLT, Int.reduceLE, Int.reduceNeg, hcut, a0, a1, i0, i1, k0, k1, k2, f1, f2, f3, Left_s, Bad_s, asRd_rd, isRd_rd, awake03_k]
    exact hK _
theorem codecBack_ok (nums : List Int) (texts : List ByteArray) (cut : Int) (h1 : Arg.ok nums) (_ : Arg.ok texts) (h3 : Arg.ok cut) : Lw G F_handsellaw03_CodecBack [enc nums, enc texts, enc cut] := codecBack_run nums texts cut h1.2 h3
end Go.Proofs.Ytoaohoilkfbdgaa
