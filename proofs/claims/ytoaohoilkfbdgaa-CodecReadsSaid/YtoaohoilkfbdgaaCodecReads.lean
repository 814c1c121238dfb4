/- The law CodecReads: its walk. -/
import Derived.Test.YtoaohoilkfbdgaaCodec7
set_option linter.unusedSimpArgs false
set_option linter.unusedVariables false
set_option linter.unusedSectionVars false
namespace Go.Proofs.Ytoaohoilkfbdgaa
open Go Go.RowKit Sh Ic
open ArgT (enc)
theorem codecReads_run (s : ByteArray) (script most : List Int) (hs : ∀ v ∈ script, I64 v) : Lw G F_handsellaw03_CodecReads [.str s, .sl (script.map enc), .sl (most.map enc)] := by
  refine Lw_of fun K hK => ?_
  rw [tC_code g_handsellaw03_CodecReads (Nat.le_of_ble_eq_true rfl)]
  have hlk : (⟨[], 0⟩ : TH).lock ≤ (⟨[], 0⟩ : TH).next := Nat.le_refl 0
  generalize (⟨[], 0⟩ : TH) = τ at hlk
  by_cases c1 : (2000 : Int) < (s.size : Int)
  · simp -implicitDefEqProofs only [fn_handsellaw03_CodecReads, o_handsellaw03_CodecReads_0, o_handsellaw03_CodecReads_1, o_handsellaw03_CodecReads_10, o_handsellaw03_CodecReads_11, o_handsellaw03_CodecReads_12, o_handsellaw03_CodecReads_13, o_handsellaw03_CodecReads_14, o_handsellaw03_CodecReads_15, o_handsellaw03_CodecReads_16, o_handsellaw03_CodecReads_17, o_handsellaw03_CodecReads_18, o_handsellaw03_CodecReads_19, o_handsellaw03_CodecReads_2, o_handsellaw03_CodecReads_20, o_handsellaw03_CodecReads_21, o_handsellaw03_CodecReads_3, o_handsellaw03_CodecReads_4, o_handsellaw03_CodecReads_5, o_handsellaw03_CodecReads_6, o_handsellaw03_CodecReads_7, o_handsellaw03_CodecReads_8, o_handsellaw03_CodecReads_9, tc_handsellaw03_CodecReads, TT, Ic.t, Ic.ci, ne_eq, eq_self, not_true_eq_false, Nat.reduceEqDiff, reduceIte, Nat.reduceAdd, Nat.reduceMul, Nat.reduceLT, Nat.reduceLeDiff, Nat.reduceSub, reduceCtorEq, Int.reduceEq, Int.reduceNe, decide_eq_true_eq, bne_self_eq_false, beq_self_eq_true, Int.reduceToNat, Int.reduceLT, Int.reduceLE, Int.reduceNeg, c1, awake03_k, hlk]
    exact hK _
  · by_cases c2 : (50 : Int) < (script.length : Int)
    · simp -implicitDefEqProofs only [fn_handsellaw03_CodecReads, o_handsellaw03_CodecReads_0, o_handsellaw03_CodecReads_1, o_handsellaw03_CodecReads_10, o_handsellaw03_CodecReads_11, o_handsellaw03_CodecReads_12, o_handsellaw03_CodecReads_13, o_handsellaw03_CodecReads_14, o_handsellaw03_CodecReads_15, o_handsellaw03_CodecReads_16, o_handsellaw03_CodecReads_17, o_handsellaw03_CodecReads_18, o_handsellaw03_CodecReads_19, o_handsellaw03_CodecReads_2, o_handsellaw03_CodecReads_20, o_handsellaw03_CodecReads_21, o_handsellaw03_CodecReads_3, o_handsellaw03_CodecReads_4, o_handsellaw03_CodecReads_5, o_handsellaw03_CodecReads_6, o_handsellaw03_CodecReads_7, o_handsellaw03_CodecReads_8, o_handsellaw03_CodecReads_9, tc_handsellaw03_CodecReads, TT, Ic.t, Ic.ci, ne_eq, eq_self, not_true_eq_false, Nat.reduceEqDiff, reduceIte, Nat.reduceAdd, Nat.reduceMul, Nat.reduceLT, Nat.reduceLeDiff, Nat.reduceSub, reduceCtorEq, Int.reduceEq, Int.reduceNe, decide_eq_true_eq, bne_self_eq_false, beq_self_eq_true, Int.reduceToNat, Int.reduceLT, Int.reduceLE, Int.reduceNeg, c1, c2, enc_len, awake03_k, hlk]
      exact hK _
    · simp -implicitDefEqProofs only [fn_handsellaw03_CodecReads, o_handsellaw03_CodecReads_0, o_handsellaw03_CodecReads_1, o_handsellaw03_CodecReads_10, o_handsellaw03_CodecReads_11, o_handsellaw03_CodecReads_12, o_handsellaw03_CodecReads_13, o_handsellaw03_CodecReads_14, o_handsellaw03_CodecReads_15, o_handsellaw03_CodecReads_16, o_handsellaw03_CodecReads_17, o_handsellaw03_CodecReads_18, o_handsellaw03_CodecReads_19, o_handsellaw03_CodecReads_2, o_handsellaw03_CodecReads_20, o_handsellaw03_CodecReads_21, o_handsellaw03_CodecReads_3, o_handsellaw03_CodecReads_4, o_handsellaw03_CodecReads_5, o_handsellaw03_CodecReads_6, o_handsellaw03_CodecReads_7, o_handsellaw03_CodecReads_8, o_handsellaw03_CodecReads_9, tc_handsellaw03_CodecReads, TT, Ic.t, Ic.ci, ne_eq, eq_self, not_true_eq_false, Nat.reduceEqDiff, reduceIte, Nat.reduceAdd, Nat.reduceMul, Nat.reduceLT, Nat.reduceLeDiff, Nat.reduceSub, reduceCtorEq, Int.reduceEq, Int.reduceNe, decide_eq_true_eq, bne_self_eq_false, beq_self_eq_true, Int.reduceToNat, Int.reduceLT, Int.reduceLE, Int.reduceNeg, c1, c2, enc_len, codec_New_k, hlk]
      refine Reads_loop script most (by omega) hs τ.next (τ.next + 1) _ script.length 0 _ ⟨s, false⟩ (fun h => by cases h) rfl ?_ ?_ ?_ ?_ ?_ ?_ ?_ ?_ ?_ ?_
      any_goals (simp -implicitDefEqProofs only [TT, Ic.t, Ic.ci, ne_eq, eq_self, not_true_eq_false, Nat.reduceEqDiff, reduceIte, Nat.reduceAdd, Nat.reduceMul, Nat.reduceLT, Nat.reduceLeDiff, Nat.reduceSub, reduceCtorEq, Int.reduceEq, Int.reduceNe, decide_eq_true_eq, bne_self_eq_false, beq_self_eq_true, Int.reduceToNat, Int.reduceLT, Int.reduceLE, Int.reduceNeg, hlk, rfOb]; done)
      intro τ' hl' hn'
      rw [lock_pu, lock_pu] at hl'
      rw [next_pu, next_pu] at hn'
      have hl2 : τ'.lock ≤ τ'.next := by omega
      have hc : τ.next + 2 = τ'.next := by omega
      simp -implicitDefEqProofs only [fn_handsellaw03_CodecReads, o_handsellaw03_CodecReads_0, o_handsellaw03_CodecReads_1, o_handsellaw03_CodecReads_10, o_handsellaw03_CodecReads_11, o_handsellaw03_CodecReads_12, o_handsellaw03_CodecReads_13, o_handsellaw03_CodecReads_14, o_handsellaw03_CodecReads_15, o_handsellaw03_CodecReads_16, o_handsellaw03_CodecReads_17, o_handsellaw03_CodecReads_18, o_handsellaw03_CodecReads_19, o_handsellaw03_CodecReads_2, o_handsellaw03_CodecReads_20, o_handsellaw03_CodecReads_21, o_handsellaw03_CodecReads_3, o_handsellaw03_CodecReads_4, o_handsellaw03_CodecReads_5, o_handsellaw03_CodecReads_6, o_handsellaw03_CodecReads_7, o_handsellaw03_CodecReads_8, o_handsellaw03_CodecReads_9, tc_handsellaw03_CodecReads, TT, Ic.t, Ic.ci, ne_eq, eq_self, not_true_eq_false, Nat.reduceEqDiff, reduceIte, Nat.reduceAdd, Nat.reduceMul, Nat.reduceLT, Nat.reduceLeDiff, Nat.reduceSub, reduceCtorEq, Int.reduceEq, Int.reduceNe, decide_eq_true_eq, bne_self_eq_false, beq_self_eq_true, Int.reduceToNat, Int.reduceLT, Int.reduceLE, Int.reduceNeg, hc, awake03_k, hl2]
      exact hK _
theorem codecReads_ok (s : ByteArray) (script most : List Int) (_ : Arg.ok s) (h : Arg.ok script) (_ : Arg.ok most) : Lw G F_handsellaw03_CodecReads [enc s, enc script, enc most] := codecReads_run s script most h.2
end Go.Proofs.Ytoaohoilkfbdgaa
