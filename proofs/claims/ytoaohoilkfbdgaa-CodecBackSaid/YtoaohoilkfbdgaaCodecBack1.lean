/- What is written one behind the other. -/
import Derived.Test.YtoaohoilkfbdgaaCodec7
set_option linter.unusedSimpArgs false
set_option linter.unusedVariables false
set_option linter.unusedSectionVars false
namespace Go.Proofs.Ytoaohoilkfbdgaa
open Go Go.RowKit Sh Ic
open ArgT (enc)
/-- What is written: a number, a text, by turns, as long as there are any. -/
def wr : List Int → List ByteArray → ByteArray
  | [], [] => ⟨#[]⟩
  | v :: vs, [] => encNum v ++ wr vs []
  | [], t :: ts => encText t ++ wr [] ts
  | v :: vs, t :: ts => encNum v ++ (encText t ++ wr vs ts)
def wrN (i : Nat) (l : List Int) : ByteArray := if h : i < l.length then encNum l[i] else ⟨#[]⟩
def wrT (i : Nat) (l : List ByteArray) : ByteArray := if h : i < l.length then encText l[i] else ⟨#[]⟩
theorem nil_app (a : ByteArray) : (⟨#[]⟩ : ByteArray) ++ a = a := ByteArray.empty_append
theorem wr_drop (nums : List Int) (texts : List ByteArray) (i : Nat) : wr (nums.drop i) (texts.drop i) = wrN i nums ++ (wrT i texts ++ wr (nums.drop (i + 1)) (texts.drop (i + 1))) := by
  unfold wrN wrT
  by_cases h1 : i < nums.length
  · rw [dif_pos h1, List.drop_eq_getElem_cons h1]
    by_cases h2 : i < texts.length
    · rw [dif_pos h2, List.drop_eq_getElem_cons h2, wr]
    · rw [dif_neg h2, List.drop_eq_nil_of_le (by omega : texts.length ≤ i), List.drop_eq_nil_of_le (by omega : texts.length ≤ i + 1), nil_app, wr]
  · rw [dif_neg h1, List.drop_eq_nil_of_le (by omega : nums.length ≤ i), List.drop_eq_nil_of_le (by omega : nums.length ≤ i + 1), nil_app]
    by_cases h2 : i < texts.length
    · rw [dif_pos h2, List.drop_eq_getElem_cons h2, wr]
    · rw [dif_neg h2, List.drop_eq_nil_of_le (by omega : texts.length ≤ i), List.drop_eq_nil_of_le (by omega : texts.length ≤ i + 1), nil_app]
theorem enc_str (l : List ByteArray) (i : Nat) (h : i < l.length) : (l.map enc).getD i .undef = .str l[i] := encL_get l i h
theorem encText_size (s : ByteArray) : (encText s).size = 8 + s.size := by unfold encText; rw [ByteArray.size_append]; rfl
theorem Back_loop1 (nums : List Int) (texts : List ByteArray) (cut : Int) (m : Nat) (hn : nums.length ≤ m) (ht : texts.length ≤ m) (hm : m = nums.length ∨ m = texts.length) (h30 : m ≤ 30) (Q : TEx → TCont) (τ : TH) (hlk : τ.lock ≤ τ.next) (hR : Q .ret [(6, .bool true)] [] τ) (n : Nat) : ∀ (i : Nat) (s : ByteArray), n + i = m → s.size ≤ i * 200 →
    ((∀ j (h : j < texts.length), i ≤ j → texts[j].size ≤ 100) → Q (.exit 0) [(0, .sl (nums.map enc)), (1, .sl (texts.map enc)), (2, .int .i64 cut), (7, .str (s ++ wr (nums.drop i) (texts.drop i))), (8, .int .i64 m), (30, .bool false)] [] τ) → 
    tW G (.loop [0, 1, 2, 7, 8] l_handsellaw03_CodecBack_1) Q [(0, .sl (nums.map enc)), (1, .sl (texts.map enc)), (2, .int .i64 cut), (7, .str s), (8, .int .i64 (i : Int))] [] τ := by
  induction n with
  | zero =>
    intro i s hi hs hQ
    obtain rfl : i = m := by omega
    refine tW_lp fun LQ hnx hr he => ?_
    have h1 : ¬ (i : Int) < (nums.length : Int) := by omega
    have h2 : ¬ (i : Int) < (texts.length : Int) := by omega
    rw [List.drop_eq_nil_of_le hn, List.drop_eq_nil_of_le ht, wr, app_nil] at hQ
    simp -implicitDefEqProofs only [l_handsellaw03_CodecBack_1, fn_handsellaw03_CodecBack, o_handsellaw03_CodecBack_0, o_handsellaw03_CodecBack_1, o_handsellaw03_CodecBack_10, o_handsellaw03_CodecBack_11, o_handsellaw03_CodecBack_12, o_handsellaw03_CodecBack_13, o_handsellaw03_CodecBack_14, o_handsellaw03_CodecBack_15, o_handsellaw03_CodecBack_16, o_handsellaw03_CodecBack_17, o_handsellaw03_CodecBack_18, o_handsellaw03_CodecBack_19, o_handsellaw03_CodecBack_2, o_handsellaw03_CodecBack_20, o_handsellaw03_CodecBack_21, o_handsellaw03_CodecBack_22, o_handsellaw03_CodecBack_23, o_handsellaw03_CodecBack_24, o_handsellaw03_CodecBack_25, o_handsellaw03_CodecBack_26, o_handsellaw03_CodecBack_27, o_handsellaw03_CodecBack_28, o_handsellaw03_CodecBack_29, o_handsellaw03_CodecBack_3, o_handsellaw03_CodecBack_4, o_handsellaw03_CodecBack_5, o_handsellaw03_CodecBack_6, o_handsellaw03_CodecBack_7, o_handsellaw03_CodecBack_8, o_handsellaw03_CodecBack_9, tc_handsellaw03_CodecBack, TT, Ic.t, Ic.ci, ne_eq, eq_self, not_true_eq_false, Nat.reduceEqDiff, reduceIte, Nat.reduceAdd, Nat.reduceMul, Nat.reduceLT, Nat.reduceLeDiff, Nat.reduceSub, reduceCtorEq, Int.reduceEq, Int.reduceNe, decide_eq_true_eq, bne_self_eq_false, beq_self_eq_true, Int.reduceToNat, Int.reduceLT, Int.reduceLE, Int.reduceNeg, h1, h2, enc_len, he]
    exact hQ (fun j h hj => by omega)
  | succ n ih =>
    intro i s hi hs hQ
    refine tW_lp fun LQ hnx hr he => ?_
    have c0 : (0 : Int) ≤ (i : Int) := by omega
    have w1 : IntKind.i64.wrap ((i : Int) + 1) = ((i + 1 : Nat) : Int) := by rw [w64 (by omega) (by omega)]; omega
    have ml : ¬ ((9223372036854775807 : Int) < ((s.size + 8 : Nat) : Int)) := by omega
    rw [wr_drop] at hQ
    by_cases h1 : (i : Int) < (nums.length : Int)
    · have g1 := enc_int nums i (by omega)
      have u1 : wrN i nums = encNum (nums[i]'(by omega)) := dif_pos (by omega)
      rw [u1] at hQ
      by_cases h2 : (i : Int) < (texts.length : Int)
      · have g2 := enc_str texts i (by omega)
        have u2 : wrT i texts = encText (texts[i]'(by omega)) := dif_pos (by omega)
        rw [u2] at hQ
        by_cases h3 : (100 : Int) < ((texts[i]'(by omega)).size : Int)
        · simp -implicitDefEqProofs only [l_handsellaw03_CodecBack_1, fn_handsellaw03_CodecBack, o_handsellaw03_CodecBack_0, o_handsellaw03_CodecBack_1, o_handsellaw03_CodecBack_10, o_handsellaw03_CodecBack_11, o_handsellaw03_CodecBack_12, o_handsellaw03_CodecBack_13, o_handsellaw03_CodecBack_14, o_handsellaw03_CodecBack_15, o_handsellaw03_CodecBack_16, o_handsellaw03_CodecBack_17, o_handsellaw03_CodecBack_18, o_handsellaw03_CodecBack_19, o_handsellaw03_CodecBack_2, o_handsellaw03_CodecBack_20, o_handsellaw03_CodecBack_21, o_handsellaw03_CodecBack_22, o_handsellaw03_CodecBack_23, o_handsellaw03_CodecBack_24, o_handsellaw03_CodecBack_25, o_handsellaw03_CodecBack_26, o_handsellaw03_CodecBack_27, o_handsellaw03_CodecBack_28, o_handsellaw03_CodecBack_29, o_handsellaw03_CodecBack_3, o_handsellaw03_CodecBack_4, o_handsellaw03_CodecBack_5, o_handsellaw03_CodecBack_6, o_handsellaw03_CodecBack_7, o_handsellaw03_CodecBack_8, o_handsellaw03_CodecBack_9, tc_handsellaw03_CodecBack, TT, Ic.t, Ic.ci, ne_eq, eq_self, not_true_eq_false, Nat.reduceEqDiff, reduceIte, Nat.reduceAdd, Nat.reduceMul, Nat.reduceLT, Nat.reduceLeDiff, Nat.reduceSub, reduceCtorEq, Int.reduceEq, Int.reduceNe, decide_eq_true_eq, bne_self_eq_false, beq_self_eq_true, Int.reduceToNat, Int.reduceLT, Int.reduceLE, Int.reduceNeg, h1, h2, h3, g1, g2, c0, w1, ml, encNum_size, cNum_k, awake03_k, hlk, enc_len, hr]
          exact hR
        · have ml2 : ¬ ((9223372036854775807 : Int) < ((s.size + (8 + (8 + (texts[i]'(by omega)).size)) : Nat) : Int)) := by omega
          have ck := cText_k (texts[i]'(by omega)) (by omega)
          simp -implicitDefEqProofs only [l_handsellaw03_CodecBack_1, fn_handsellaw03_CodecBack, o_handsellaw03_CodecBack_0, o_handsellaw03_CodecBack_1, o_handsellaw03_CodecBack_10, o_handsellaw03_CodecBack_11, o_handsellaw03_CodecBack_12, o_handsellaw03_CodecBack_13, o_handsellaw03_CodecBack_14, o_handsellaw03_CodecBack_15, o_handsellaw03_CodecBack_16, o_handsellaw03_CodecBack_17, o_handsellaw03_CodecBack_18, o_handsellaw03_CodecBack_19, o_handsellaw03_CodecBack_2, o_handsellaw03_CodecBack_20, o_handsellaw03_CodecBack_21, o_handsellaw03_CodecBack_22, o_handsellaw03_CodecBack_23, o_handsellaw03_CodecBack_24, o_handsellaw03_CodecBack_25, o_handsellaw03_CodecBack_26, o_handsellaw03_CodecBack_27, o_handsellaw03_CodecBack_28, o_handsellaw03_CodecBack_29, o_handsellaw03_CodecBack_3, o_handsellaw03_CodecBack_4, o_handsellaw03_CodecBack_5, o_handsellaw03_CodecBack_6, o_handsellaw03_CodecBack_7, o_handsellaw03_CodecBack_8, o_handsellaw03_CodecBack_9, tc_handsellaw03_CodecBack, TT, Ic.t, Ic.ci, ne_eq, eq_self, not_true_eq_false, Nat.reduceEqDiff, reduceIte, Nat.reduceAdd, Nat.reduceMul, Nat.reduceLT, Nat.reduceLeDiff, Nat.reduceSub, reduceCtorEq, Int.reduceEq, Int.reduceNe, decide_eq_true_eq, bne_self_eq_false, beq_self_eq_true, Int.reduceToNat, Int.reduceLT, Int.reduceLE, Int.reduceNeg, h1, h2, h3, g1, g2, c0, w1, ml, ml2, encNum_size, encText_size, ByteArray.size_append, cNum_k, ck, awake03_k, hlk, enc_len, hr]
          rw [hnx]
          simp -implicitDefEqProofs only [TT, Ic.t, Ic.ci, ne_eq, eq_self, not_true_eq_false, Nat.reduceEqDiff, reduceIte, Nat.reduceAdd, Nat.reduceMul, Nat.reduceLT, Nat.reduceLeDiff, Nat.reduceSub, reduceCtorEq, Int.reduceEq, Int.reduceNe, decide_eq_true_eq, bne_self_eq_false, beq_self_eq_true, Int.reduceToNat, Int.reduceLT, Int.reduceLE, Int.reduceNeg]
          refine ih (i + 1) _ (by omega) ?_ fun hj => ?_
          · simp only [ByteArray.size_append, encNum_size, encText_size]; omega
          try simp only [ByteArray.append_assoc]
          exact hQ fun j h hij => by
            by_cases e : j = i
            · subst e; omega
            · exact hj j h (by omega)
      · have u2 : wrT i texts = ⟨#[]⟩ := dif_neg (by omega)
        rw [u2, nil_app] at hQ
        simp -implicitDefEqProofs only [l_handsellaw03_CodecBack_1, fn_handsellaw03_CodecBack, o_handsellaw03_CodecBack_0, o_handsellaw03_CodecBack_1, o_handsellaw03_CodecBack_10, o_handsellaw03_CodecBack_11, o_handsellaw03_CodecBack_12, o_handsellaw03_CodecBack_13, o_handsellaw03_CodecBack_14, o_handsellaw03_CodecBack_15, o_handsellaw03_CodecBack_16, o_handsellaw03_CodecBack_17, o_handsellaw03_CodecBack_18, o_handsellaw03_CodecBack_19, o_handsellaw03_CodecBack_2, o_handsellaw03_CodecBack_20, o_handsellaw03_CodecBack_21, o_handsellaw03_CodecBack_22, o_handsellaw03_CodecBack_23, o_handsellaw03_CodecBack_24, o_handsellaw03_CodecBack_25, o_handsellaw03_CodecBack_26, o_handsellaw03_CodecBack_27, o_handsellaw03_CodecBack_28, o_handsellaw03_CodecBack_29, o_handsellaw03_CodecBack_3, o_handsellaw03_CodecBack_4, o_handsellaw03_CodecBack_5, o_handsellaw03_CodecBack_6, o_handsellaw03_CodecBack_7, o_handsellaw03_CodecBack_8, o_handsellaw03_CodecBack_9, tc_handsellaw03_CodecBack, TT, Ic.t, Ic.ci, ne_eq, eq_self, not_true_eq_false, Nat.reduceEqDiff, reduceIte, Nat.reduceAdd, Nat.reduceMul, Nat.reduceLT, Nat.reduceLeDiff, Nat.reduceSub, reduceCtorEq, Int.reduceEq, Int.reduceNe, decide_eq_true_eq, bne_self_eq_false, beq_self_eq_true, Int.reduceToNat, Int.reduceLT, Int.reduceLE, Int.reduceNeg, h1, h2, g1, c0, w1, ml, encNum_size, cNum_k, awake03_k, hlk, enc_len, hr]
        rw [hnx]
        simp -implicitDefEqProofs only [TT, Ic.t, Ic.ci, ne_eq, eq_self, not_true_eq_false, Nat.reduceEqDiff, reduceIte, Nat.reduceAdd, Nat.reduceMul, Nat.reduceLT, Nat.reduceLeDiff, Nat.reduceSub, reduceCtorEq, Int.reduceEq, Int.reduceNe, decide_eq_true_eq, bne_self_eq_false, beq_self_eq_true, Int.reduceToNat, Int.reduceLT, Int.reduceLE, Int.reduceNeg]
        refine ih (i + 1) _ (by omega) ?_ fun hj => ?_
        · simp only [ByteArray.size_append, encNum_size, encText_size]; omega
        try simp only [ByteArray.append_assoc]
        exact hQ fun j h hij => hj j h (by omega)
    · have u1 : wrN i nums = ⟨#[]⟩ := dif_neg (by omega)
      rw [u1, nil_app] at hQ
      have h2 : (i : Int) < (texts.length : Int) := by omega
      have g2 := enc_str texts i (by omega)
      have u2 : wrT i texts = encText (texts[i]'(by omega)) := dif_pos (by omega)
      rw [u2] at hQ
      by_cases h3 : (100 : Int) < ((texts[i]'(by omega)).size : Int)
      · simp -implicitDefEqProofs only [l_handsellaw03_CodecBack_1, fn_handsellaw03_CodecBack, o_handsellaw03_CodecBack_0, o_handsellaw03_CodecBack_1, o_handsellaw03_CodecBack_10, o_handsellaw03_CodecBack_11, o_handsellaw03_CodecBack_12, o_handsellaw03_CodecBack_13, o_handsellaw03_CodecBack_14, o_handsellaw03_CodecBack_15, o_handsellaw03_CodecBack_16, o_handsellaw03_CodecBack_17, o_handsellaw03_CodecBack_18, o_handsellaw03_CodecBack_19, o_handsellaw03_CodecBack_2, o_handsellaw03_CodecBack_20, o_handsellaw03_CodecBack_21, o_handsellaw03_CodecBack_22, o_handsellaw03_CodecBack_23, o_handsellaw03_CodecBack_24, o_handsellaw03_CodecBack_25, o_handsellaw03_CodecBack_26, o_handsellaw03_CodecBack_27, o_handsellaw03_CodecBack_28, o_handsellaw03_CodecBack_29, o_handsellaw03_CodecBack_3, o_handsellaw03_CodecBack_4, o_handsellaw03_CodecBack_5, o_handsellaw03_CodecBack_6, o_handsellaw03_CodecBack_7, o_handsellaw03_CodecBack_8, o_handsellaw03_CodecBack_9, tc_handsellaw03_CodecBack, TT, Ic.t, Ic.ci, ne_eq, eq_self, not_true_eq_false, Nat.reduceEqDiff, reduceIte, Nat.reduceAdd, Nat.reduceMul, Nat.reduceLT, Nat.reduceLeDiff, Nat.reduceSub, reduceCtorEq, Int.reduceEq, Int.reduceNe, decide_eq_true_eq, bne_self_eq_false, beq_self_eq_true, Int.reduceToNat, Int.reduceLT, Int.reduceLE, Int.reduceNeg, h1, h2, h3, g2, c0, w1, ml, encNum_size, cNum_k, awake03_k, hlk, enc_len, hr]
        exact hR
      · have ml2 : ¬ ((9223372036854775807 : Int) < ((s.size + (8 + (texts[i]'(by omega)).size) : Nat) : Int)) := by omega
        have ck := cText_k (texts[i]'(by omega)) (by omega)
        simp -implicitDefEqProofs only [l_handsellaw03_CodecBack_1, fn_handsellaw03_CodecBack, o_handsellaw03_CodecBack_0, o_handsellaw03_CodecBack_1, o_handsellaw03_CodecBack_10, o_handsellaw03_CodecBack_11, o_handsellaw03_CodecBack_12, o_handsellaw03_CodecBack_13, o_handsellaw03_CodecBack_14, o_handsellaw03_CodecBack_15, o_handsellaw03_CodecBack_16, o_handsellaw03_CodecBack_17, o_handsellaw03_CodecBack_18, o_handsellaw03_CodecBack_19, o_handsellaw03_CodecBack_2, o_handsellaw03_CodecBack_20, o_handsellaw03_CodecBack_21, o_handsellaw03_CodecBack_22, o_handsellaw03_CodecBack_23, o_handsellaw03_CodecBack_24, o_handsellaw03_CodecBack_25, o_handsellaw03_CodecBack_26, o_handsellaw03_CodecBack_27, o_handsellaw03_CodecBack_28, o_handsellaw03_CodecBack_29, o_handsellaw03_CodecBack_3, o_handsellaw03_CodecBack_4, o_handsellaw03_CodecBack_5, o_handsellaw03_CodecBack_6, o_handsellaw03_CodecBack_7, o_handsellaw03_CodecBack_8, o_handsellaw03_CodecBack_9, tc_handsellaw03_CodecBack, TT, Ic.t, Ic.ci, ne_eq, eq_self, not_true_eq_false, Nat.reduceEqDiff, reduceIte, Nat.reduceAdd, Nat.reduceMul, Nat.reduceLT, Nat.reduceLeDiff, Nat.reduceSub, reduceCtorEq, Int.reduceEq, Int.reduceNe, decide_eq_true_eq, bne_self_eq_false, beq_self_eq_true, Int.reduceToNat, Int.reduceLT, Int.reduceLE, Int.reduceNeg, h1, h2, h3, g2, c0, w1, ml, ml2, encNum_size, encText_size, ByteArray.size_append, cNum_k, ck, awake03_k, hlk, enc_len, hr]
        rw [hnx]
        simp -implicitDefEqProofs only [TT, Ic.t, Ic.ci, ne_eq, eq_self, not_true_eq_false, Nat.reduceEqDiff, reduceIte, Nat.reduceAdd, Nat.reduceMul, Nat.reduceLT, Nat.reduceLeDiff, Nat.reduceSub, reduceCtorEq, Int.reduceEq, Int.reduceNe, decide_eq_true_eq, bne_self_eq_false, beq_self_eq_true, Int.reduceToNat, Int.reduceLT, Int.reduceLE, Int.reduceNeg]
        refine ih (i + 1) _ (by omega) ?_ fun hj => ?_
        · simp only [ByteArray.size_append, encNum_size, encText_size]; omega
        try simp only [ByteArray.append_assoc]
        exact hQ fun j h hij => by
          by_cases e : j = i
          · subst e; omega
          · exact hj j h (by omega)
end Go.Proofs.Ytoaohoilkfbdgaa
