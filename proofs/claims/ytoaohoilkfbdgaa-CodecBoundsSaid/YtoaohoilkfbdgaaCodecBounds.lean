/- The law CodecBounds: its walk. -/
import Derived.Test.YtoaohoilkfbdgaaCodec7
set_option linter.unusedSimpArgs false
set_option linter.unusedVariables false
set_option linter.unusedSectionVars false
namespace Go.Proofs.Ytoaohoilkfbdgaa
open Go Go.RowKit Sh Ic
open ArgT (enc)
def zeros (k : Nat) : ByteArray := ⟨(List.replicate k (0 : UInt8)).toArray⟩
theorem tbytes_zeros (k : Nat) : tbytes (List.replicate k (elem [.int .u8 0])) = some (List.replicate k 0) := by
  induction k with
  | zero => rfl
  | succ k ih => rw [List.replicate_succ, List.replicate_succ]; show (tbytes (List.replicate k (elem [.int .u8 0]))).map _ = _; rw [ih]; rfl
theorem zeros_size (k : Nat) : (zeros k).size = k := by simp [zeros, ByteArray.size]
theorem zeros_mk (k : Nat) : ByteArray.mk (List.replicate k (0 : UInt8)).toArray = zeros k := rfl
theorem codecBounds_run (n most : Int) (hn : I64 n) (hm : I64 most) : Lw G F_handsellaw03_CodecBounds [.int .i64 n, .int .i64 most] := by
  refine Lw_of fun K hK => ?_
  rw [tC_code g_handsellaw03_CodecBounds (Nat.le_of_ble_eq_true rfl)]
  have hlk : (⟨[], 0⟩ : TH).lock ≤ (⟨[], 0⟩ : TH).next := Nat.le_refl 0
  generalize (⟨[], 0⟩ : TH) = τ at hlk
  have p1 := Place_k n 60 hn (by decide) (by decide)
  have p2 := Place_k most 60 hm (by decide) (by decide)
  obtain ⟨k, hk⟩ : ∃ k : Nat, n % 60 = (k : Int) := ⟨(n % 60).toNat, by omega⟩
  obtain ⟨m, hm⟩ : ∃ m : Nat, most % 60 = (m : Int) := ⟨(most % 60).toNat, by omega⟩
  rw [hk] at p1
  rw [hm] at p2
  have k60 : k < 60 := by omega
  have m60 : m < 60 := by omega
  have c1 : (0 : Int) ≤ k ∧ (k : Int) * (1 : Nat) ≤ 140737488355328 ∧ (k : Int) ≤ 9223372036854775807 := by omega
  have z1 : (encText (zeros k)).size = 8 + k := by unfold encText; rw [ByteArray.size_append, zeros_size]; rfl
  have z2 : ((encText (zeros k)).size + (encNum 5).size : Nat) = 16 + k := by rw [z1, encNum_size]; omega
  have z3 : (encText (zeros k) ++ encNum 5).size = 16 + k := by rw [ByteArray.size_append, z2]
  have c2 : ¬ ((9223372036854775807 : Int) < ((16 + k : Nat) : Int)) := by omega
  have c3 : ¬ ((9223372036854775807 : Int) < ((8 + 8 : Nat) : Int)) := by decide
  have c4 : ¬ ((9223372036854775807 : Int) < ((8 + (k + 8) : Nat) : Int)) := by omega
  have c5 : (k : Int) ≤ k := Int.le_refl _
  have c6 : (((8 + (k + 8) : Nat) : Int) = ((16 + k : Nat) : Int)) = True := eq_true (by omega)
  have f1 : Rd.fail.bad = true := rfl
  have f2 : Rd.fail.s = ⟨#[]⟩ := rfl
  have f3 : ((ByteArray.size ⟨#[]⟩ : Nat) : Int) = 0 := by decide
  have w1 : IntKind.i64.wrap (16 + (k : Int)) = ((16 + k : Nat) : Int) := by rw [w64 (by omega) (by omega)]; omega
  have w2 : IntKind.i64.wrap (-1 - (k : Int)) = -1 - (k : Int) := w64 (by omega) (by omega)
  have t5 : Rd.num ⟨encNum 5, false⟩ = (5, ⟨⟨#[]⟩, false⟩) := by have := num_app 5 ⟨by decide, by decide⟩ ⟨#[]⟩; rwa [app_nil] at this
  have t1 := text_app (zeros k) m (by rw [zeros_size]; omega) (encNum 5)
  have t2 := count_app k m ⟨by omega, by omega⟩ (encNum 5)
  have t3 : Rd.count ⟨encNum (-1 - (k : Int)), false⟩ m = (0, .fail) := by have := count_app (-1 - (k : Int)) m ⟨by omega, by omega⟩ ⟨#[]⟩; rwa [app_nil, if_pos (by omega)] at this
  have k0 := cText_k (zeros k) (by rw [zeros_size]; omega)
  have n1 : (τ.next = τ.next + 1) = False := eq_false (by omega)
  have n2 : (τ.next = τ.next + 2) = False := eq_false (by omega)
  have n3 : (τ.next + 1 = τ.next) = False := eq_false (by omega)
  have n4 : (τ.next + 2 = τ.next) = False := eq_false (by omega)
  have n5 : (τ.next + 1 = τ.next + 2) = False := eq_false (by omega)
  have n6 : (τ.next + 2 = τ.next + 1) = False := eq_false (by omega)
  have l1 : τ.lock ≤ τ.next + 1 := by omega
  have l2 : τ.lock ≤ τ.next + 2 := by omega
  by_cases hc : (m : Int) < (k : Int)
  · rw [zeros_size, if_pos hc] at t1
    rw [if_pos (.inr hc)] at t2
    simp -implicitDefEqProofs only [fn_handsellaw03_CodecBounds, o_handsellaw03_CodecBounds_0, o_handsellaw03_CodecBounds_1, o_handsellaw03_CodecBounds_10, o_handsellaw03_CodecBounds_2, o_handsellaw03_CodecBounds_3, o_handsellaw03_CodecBounds_4, o_handsellaw03_CodecBounds_5, o_handsellaw03_CodecBounds_6, o_handsellaw03_CodecBounds_7, o_handsellaw03_CodecBounds_8, o_handsellaw03_CodecBounds_9, tc_handsellaw03_CodecBounds, TT, Ic.t, Ic.ci, ne_eq, eq_self, not_true_eq_false, Nat.reduceEqDiff, reduceIte, Nat.reduceAdd, Nat.reduceMul, Nat.reduceLT, Nat.reduceLeDiff, Nat.reduceSub, reduceCtorEq, Int.reduceEq, Int.reduceNe, decide_eq_true_eq, bne_self_eq_false, beq_self_eq_true, Int.reduceToNat, Int.reduceLT, Int.reduceLE, Int.reduceNeg, p1, p2, hlk, cNum_k, awake03_k, c1, c4, c5, f1, f2, f3, tbytes_zeros, zeros_mk, zeros_size, k0, z1, z2, z3, encNum_size, c2, c3, w1, w2, codec_New_k, Text_s, Count_s, Num_s, Left_s, Bad_s, asRd_rd, isRd_rd, t1, t2, t3, t5, hc, n1, n2, n3, n4, n5, n6, l1, l2, num_fail]
    exact hK _
  · rw [zeros_size, if_neg hc] at t1
    rw [if_neg (by omega)] at t2
    simp -implicitDefEqProofs only [fn_handsellaw03_CodecBounds, o_handsellaw03_CodecBounds_0, o_handsellaw03_CodecBounds_1, o_handsellaw03_CodecBounds_10, o_handsellaw03_CodecBounds_2, o_handsellaw03_CodecBounds_3, o_handsellaw03_CodecBounds_4, o_handsellaw03_CodecBounds_5, o_handsellaw03_CodecBounds_6, o_handsellaw03_CodecBounds_7, o_handsellaw03_CodecBounds_8, o_handsellaw03_CodecBounds_9, tc_handsellaw03_CodecBounds, TT, Ic.t, Ic.ci, ne_eq, eq_self, not_true_eq_false, Nat.reduceEqDiff, reduceIte, Nat.reduceAdd, Nat.reduceMul, Nat.reduceLT, Nat.reduceLeDiff, Nat.reduceSub, reduceCtorEq, Int.reduceEq, Int.reduceNe, decide_eq_true_eq, bne_self_eq_false, beq_self_eq_true, Int.reduceToNat, Int.reduceLT, Int.reduceLE, Int.reduceNeg, p1, p2, hlk, cNum_k, awake03_k, c1, c4, c5, f1, f2, f3, tbytes_zeros, zeros_mk, zeros_size, k0, z1, z2, z3, encNum_size, c2, c3, w1, w2, codec_New_k, Text_s, Count_s, Num_s, Left_s, Bad_s, asRd_rd, isRd_rd, t1, t2, t3, t5, hc, n1, n2, n3, n4, n5, n6, l1, l2, num_fail]
    exact hK _
theorem codecBounds_ok (n most : Int) (h1 : Arg.ok n) (h2 : Arg.ok most) : Lw G F_handsellaw03_CodecBounds [enc n, enc most] := codecBounds_run n most h1 h2
end Go.Proofs.Ytoaohoilkfbdgaa
