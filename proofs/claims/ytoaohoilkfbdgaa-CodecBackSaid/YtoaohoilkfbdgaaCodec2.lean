/- Numbers, texts, as bytes and out of bytes. -/
import Derived.Test.YtoaohoilkfbdgaaCodec1
set_option linter.unusedSimpArgs false
set_option linter.unusedVariables false
set_option linter.unusedSectionVars false
namespace Go.Proofs.Ytoaohoilkfbdgaa
open Go Go.RowKit Sh Ic
/-! ### Bits -/
theorem wrap_bv (n : Int) : IntKind.i64.wrap n = (BitVec.ofInt 64 n).toInt := by
  rw [IntKind.wrap_i64, BitVec.toInt_ofInt]
  simp only [Int.bmod]
  split <;> omega
theorem wrap_wrap (n : Int) : BitVec.ofInt 64 (IntKind.i64.wrap n) = BitVec.ofInt 64 n := by rw [wrap_bv, BitVec.ofInt_toInt]
/-- A number's next byte. -/
def pushB (v : Int) (c : UInt8) : Int := IntKind.i64.wrap (v * 256 + c.toNat)
theorem bv_shl_or (x : BitVec 64) (c : Nat) (hc : c < 256) : (x <<< 8) ||| BitVec.ofNat 64 c = x <<< 8 + BitVec.ofNat 64 c := by
  rw [BitVec.add_eq_or_of_and_eq_zero]
  apply BitVec.eq_of_getLsbD_eq
  intro i hi
  simp only [BitVec.getLsbD_and, BitVec.getLsbD_shiftLeft, BitVec.getLsbD_ofNat, BitVec.getLsbD_zero]
  by_cases h : i < 8
  · simp [h]
  · have : c.testBit i = false := Nat.testBit_lt_two_pow (Nat.lt_of_lt_of_le hc (Nat.pow_le_pow_right (by decide) (by omega) : 2 ^ 8 ≤ 2 ^ i))
    simp [this]
theorem push_eq (v : Int) (c : UInt8) : IntKind.i64.wrap ((BitVec.ofInt IntKind.i64.bits (IntKind.i64.wrap (v * 2 ^ Nat.min 8 IntKind.i64.bits)) ||| BitVec.ofInt IntKind.i64.bits (IntKind.i64.wrap (c.toNat : Int))).toNat) = pushB v c := by
  show IntKind.i64.wrap ((BitVec.ofInt 64 (IntKind.i64.wrap (v * 2 ^ 8)) ||| BitVec.ofInt 64 (IntKind.i64.wrap (c.toNat : Int))).toNat) = pushB v c
  rw [wrap_wrap, wrap_wrap]
  have h1 : BitVec.ofInt 64 (v * 2 ^ 8) = (BitVec.ofInt 64 v) <<< 8 := by
    rw [BitVec.ofInt_mul, BitVec.shiftLeft_eq_mul_twoPow]; rfl
  have h2 : BitVec.ofInt 64 (c.toNat : Int) = BitVec.ofNat 64 c.toNat := BitVec.ofInt_natCast ..
  rw [h1, h2, bv_shl_or _ _ c.toNat_lt, ← h1, ← h2, ← BitVec.ofInt_add]
  unfold pushB
  rw [wrap_bv, wrap_bv]
  congr 1
  rw [BitVec.ofInt_natCast, BitVec.ofNat_toNat, BitVec.setWidth_eq]
  congr 1
theorem bytesTV_len (s : ByteArray) : (bytesTV s).length = s.size := by simp [bytesTV]
theorem bytesTV_get (s : ByteArray) (i : Nat) (h : i < s.size) : (bytesTV s).getD i .undef = .int .u8 (s.data.getD i 0).toNat := by
  have h' : i < s.data.toList.length := by simpa using h
  have h2 : i < s.data.size := h
  simp only [bytesTV, List.getD_eq_getElem?_getD, List.getElem?_map, List.getElem?_eq_getElem h', Option.map_some, Option.getD_some, Array.getD_eq_getD_getElem?, Array.getElem?_eq_getElem h2, Array.getElem_toList]
/-- The number of bytes. -/
def numOf (v : Int) (l : List UInt8) : Int := l.foldl pushB v
theorem drop_cons (s : ByteArray) (i : Nat) (h : i < s.size) : s.data.toList.drop i = s.data.getD i 0 :: s.data.toList.drop (i + 1) := by
  have h' : i < s.data.toList.length := by simpa using h
  have h2 : i < s.data.size := h
  rw [List.drop_eq_getElem_cons h', Array.getD_eq_getD_getElem?, Array.getElem?_eq_getElem h2, Option.getD_some, Array.getElem_toList]
theorem Num_loop (s : ByteArray) (hs : s.size ≤ 1000000000) (Q : TEx → TCont) (τ : TH) (tk : TK) (n : Nat) : ∀ (i : Nat) (v : Int), n + i = s.size →
    Q (.exit 0) [(3, .int .i64 (numOf v (s.data.toList.drop i))), (8, .sl (bytesTV s)), (9, .int .i64 s.size), (10, .int .i64 s.size), (11, .bool false)] tk τ →
    tW G (.loop [3, 8, 9, 10] l_codec_Reader_Num_1) Q [(3, .int .i64 v), (8, .sl (bytesTV s)), (9, .int .i64 s.size), (10, .int .i64 i)] tk τ := by
  induction n with
  | zero =>
    intro i v hi hQ
    obtain rfl : i = s.size := by omega
    refine tW_lp fun LQ hn hr he => ?_
    have c : ¬ ((s.size : Int) < (s.size : Int)) := by omega
    simp -implicitDefEqProofs only [fn_codec_Reader_Num, o_codec_Reader_Num_0, o_codec_Reader_Num_1, o_codec_Reader_Num_2, o_codec_Reader_Num_3, o_codec_Reader_Num_4, o_codec_Reader_Num_5, o_codec_Reader_Num_6, o_codec_Reader_Num_7, tc_codec_Reader_Num, l_codec_Reader_Num_1, TT, Ic.t, Ic.ci, ne_eq, eq_self, not_true_eq_false, Nat.reduceEqDiff, reduceIte, Nat.reduceAdd, Nat.reduceMul, Nat.reduceLT, Nat.reduceLeDiff, Nat.reduceSub, reduceCtorEq, Int.reduceEq, Int.reduceNe, decide_eq_true_eq, bne_self_eq_false, beq_self_eq_true, Int.reduceToNat, Int.reduceLT, Int.reduceLE, Int.reduceNeg, c, he]
    have e : s.data.toList.drop s.size = [] := List.drop_eq_nil_of_le (by simp)
    rw [e] at hQ
    exact hQ
  | succ n ih =>
    intro i v hi hQ
    refine tW_lp fun LQ hn hr he => ?_
    have hlt : i < s.size := by omega
    have c : (i : Int) < (s.size : Int) := by omega
    have c0 : (0 : Int) ≤ (i : Int) := by omega
    have w1 : IntKind.i64.wrap ((i : Int) + 1) = ((i + 1 : Nat) : Int) := by rw [w64 (by omega) (by omega)]; omega
    simp -implicitDefEqProofs only [fn_codec_Reader_Num, o_codec_Reader_Num_0, o_codec_Reader_Num_1, o_codec_Reader_Num_2, o_codec_Reader_Num_3, o_codec_Reader_Num_4, o_codec_Reader_Num_5, o_codec_Reader_Num_6, o_codec_Reader_Num_7, tc_codec_Reader_Num, l_codec_Reader_Num_1, TT, Ic.t, Ic.ci, ne_eq, eq_self, not_true_eq_false, Nat.reduceEqDiff, reduceIte, Nat.reduceAdd, Nat.reduceMul, Nat.reduceLT, Nat.reduceLeDiff, Nat.reduceSub, reduceCtorEq, Int.reduceEq, Int.reduceNe, decide_eq_true_eq, bne_self_eq_false, beq_self_eq_true, Int.reduceToNat, Int.reduceLT, Int.reduceLE, Int.reduceNeg, c, c0, bytesTV_len, bytesTV_get s i hlt, w1, push_eq]
    rw [hn]
    simp -implicitDefEqProofs only [TT, Ic.t, Ic.ci, ne_eq, eq_self, not_true_eq_false, Nat.reduceEqDiff, reduceIte, Nat.reduceAdd, Nat.reduceMul, Nat.reduceLT, Nat.reduceLeDiff, Nat.reduceSub, reduceCtorEq, Int.reduceEq, Int.reduceNe, decide_eq_true_eq, bne_self_eq_false, beq_self_eq_true, Int.reduceToNat, Int.reduceLT, Int.reduceLE, Int.reduceNeg]
    refine ih (i + 1) _ (by omega) ?_
    rw [drop_cons s i hlt] at hQ
    exact hQ
def Rd.num (r : Rd) : Int × Rd := (numOf 0 (r.take 8).1.data.toList, (r.take 8).2)
def Rd.count (r : Rd) (most : Int) : Int × Rd := if r.num.1 < 0 ∨ most < r.num.1 then (0, .fail) else r.num
def Rd.text (r : Rd) (most : Int) : ByteArray × Rd := (r.count most).2.take (r.count most).1
theorem take_size (r : Rd) (n : Int) (hn : n ≤ 1000000000) : (r.take n).1.size ≤ 1000000000 := by
  unfold Rd.take
  split
  · simp only [ByteArray.size_extract]; omega
  · decide
section
variable (r : Rd) (id : Nat) (τ : TH) (h : τ.at id = some (rdOb r)) (hi : id < τ.next) (hl : τ.lock ≤ id)
include h hi hl
theorem take_k (n : Int) (d : Option Nat) (K : TCont) (fr : TF) (tk : TK) : callK G false F_codec_Reader_take [.ptr id 0, .int .i64 n] d K fr tk τ = K (tput fr d (.str (r.take n).1)) tk (τ.put id (rdOb (r.take n).2)) :=
  callK_of (take_ok r id τ h hi hl n) (by simp -implicitDefEqProofs only [TT, Ic.t, Ic.ci, ne_eq, eq_self, not_true_eq_false, Nat.reduceEqDiff, reduceIte, Nat.reduceAdd, Nat.reduceMul, Nat.reduceLT, Nat.reduceLeDiff, Nat.reduceSub, reduceCtorEq, Int.reduceEq, Int.reduceNe, decide_eq_true_eq, bne_self_eq_false, beq_self_eq_true, Int.reduceToNat, Int.reduceLT, Int.reduceLE, Int.reduceNeg, hi])
theorem Num_ok : Ru G F_codec_Reader_Num [.ptr id 0] τ (.int .i64 r.num.1) (τ.put id (rdOb r.num.2)) := by
  refine Ru_of fun K hK => ?_
  rw [tC_code g_codec_Reader_Num (Nat.le_of_ble_eq_true rfl)]
  simp -implicitDefEqProofs only [fn_codec_Reader_Num, o_codec_Reader_Num_0, o_codec_Reader_Num_1, o_codec_Reader_Num_2, o_codec_Reader_Num_3, o_codec_Reader_Num_4, o_codec_Reader_Num_5, o_codec_Reader_Num_6, o_codec_Reader_Num_7, tc_codec_Reader_Num, TT, Ic.t, Ic.ci, ne_eq, eq_self, not_true_eq_false, Nat.reduceEqDiff, reduceIte, Nat.reduceAdd, Nat.reduceMul, Nat.reduceLT, Nat.reduceLeDiff, Nat.reduceSub, reduceCtorEq, Int.reduceEq, Int.reduceNe, decide_eq_true_eq, bne_self_eq_false, beq_self_eq_true, Int.reduceToNat, Int.reduceLT, Int.reduceLE, Int.reduceNeg]
  rw [take_k r id τ h hi hl]
  unfold Rd.num at hK
  have hs := take_size r 8 (by decide)
  generalize r.take 8 = q at hK hs ⊢
  simp -implicitDefEqProofs only [fn_codec_Reader_Num, o_codec_Reader_Num_0, o_codec_Reader_Num_1, o_codec_Reader_Num_2, o_codec_Reader_Num_3, o_codec_Reader_Num_4, o_codec_Reader_Num_5, o_codec_Reader_Num_6, o_codec_Reader_Num_7, tc_codec_Reader_Num, TT, Ic.t, Ic.ci, ne_eq, eq_self, not_true_eq_false, Nat.reduceEqDiff, reduceIte, Nat.reduceAdd, Nat.reduceMul, Nat.reduceLT, Nat.reduceLeDiff, Nat.reduceSub, reduceCtorEq, Int.reduceEq, Int.reduceNe, decide_eq_true_eq, bne_self_eq_false, beq_self_eq_true, Int.reduceToNat, Int.reduceLT, Int.reduceLE, Int.reduceNeg, bytesTV_len]
  refine Num_loop q.1 hs _ _ _ q.1.size 0 0 (by omega) ?_
  simp -implicitDefEqProofs only [fn_codec_Reader_Num, o_codec_Reader_Num_0, o_codec_Reader_Num_1, o_codec_Reader_Num_2, o_codec_Reader_Num_3, o_codec_Reader_Num_4, o_codec_Reader_Num_5, o_codec_Reader_Num_6, o_codec_Reader_Num_7, tc_codec_Reader_Num, TT, Ic.t, Ic.ci, ne_eq, eq_self, not_true_eq_false, Nat.reduceEqDiff, reduceIte, Nat.reduceAdd, Nat.reduceMul, Nat.reduceLT, Nat.reduceLeDiff, Nat.reduceSub, reduceCtorEq, Int.reduceEq, Int.reduceNe, decide_eq_true_eq, bne_self_eq_false, beq_self_eq_true, Int.reduceToNat, Int.reduceLT, Int.reduceLE, Int.reduceNeg, hi]
  exact hK
theorem Num_k (d : Option Nat) (K : TCont) (fr : TF) (tk : TK) : callK G false F_codec_Reader_Num [.ptr id 0] d K fr tk τ = K (tput fr d (.int .i64 r.num.1)) tk (τ.put id (rdOb r.num.2)) :=
  callK_of (Num_ok r id τ h hi hl) (by simp -implicitDefEqProofs only [TT, Ic.t, Ic.ci, ne_eq, eq_self, not_true_eq_false, Nat.reduceEqDiff, reduceIte, Nat.reduceAdd, Nat.reduceMul, Nat.reduceLT, Nat.reduceLeDiff, Nat.reduceSub, reduceCtorEq, Int.reduceEq, Int.reduceNe, decide_eq_true_eq, bne_self_eq_false, beq_self_eq_true, Int.reduceToNat, Int.reduceLT, Int.reduceLE, Int.reduceNeg, hi])
theorem in_ok (most : Int) : Ru G F_codec_Reader_in [.ptr id 0, .func F_codec_Reader_Num [.ptr id 0] [], .int .i64 most] τ (.int .i64 (r.count most).1) (τ.put id (rdOb (r.count most).2)) := by
  refine Ru_of fun K hK => ?_
  rw [tC_code g_codec_Reader_in (Nat.le_of_ble_eq_true rfl)]
  simp -implicitDefEqProofs only [fn_codec_Reader_in, o_codec_Reader_in_0, o_codec_Reader_in_1, o_codec_Reader_in_2, o_codec_Reader_in_3, o_codec_Reader_in_4, o_codec_Reader_in_5, tc_codec_Reader_in, TT, Ic.t, Ic.ci, ne_eq, eq_self, not_true_eq_false, Nat.reduceEqDiff, reduceIte, Nat.reduceAdd, Nat.reduceMul, Nat.reduceLT, Nat.reduceLeDiff, Nat.reduceSub, reduceCtorEq, Int.reduceEq, Int.reduceNe, decide_eq_true_eq, bne_self_eq_false, beq_self_eq_true, Int.reduceToNat, Int.reduceLT, Int.reduceLE, Int.reduceNeg]
  rw [Num_k r id τ h hi hl]
  unfold Rd.count at hK
  generalize r.num = q at hK ⊢
  have fk := fail_k q.2 id (τ.put id (rdOb q.2)) (at_pt _ _ _ hi) (by rw [next_pt]; exact hi) (by rw [lock_pt]; exact hl)
  by_cases h1 : q.1 < 0
  · rw [if_pos (.inl h1)] at hK
    simp -implicitDefEqProofs only [fn_codec_Reader_in, o_codec_Reader_in_0, o_codec_Reader_in_1, o_codec_Reader_in_2, o_codec_Reader_in_3, o_codec_Reader_in_4, o_codec_Reader_in_5, tc_codec_Reader_in, TT, Ic.t, Ic.ci, ne_eq, eq_self, not_true_eq_false, Nat.reduceEqDiff, reduceIte, Nat.reduceAdd, Nat.reduceMul, Nat.reduceLT, Nat.reduceLeDiff, Nat.reduceSub, reduceCtorEq, Int.reduceEq, Int.reduceNe, decide_eq_true_eq, bne_self_eq_false, beq_self_eq_true, Int.reduceToNat, Int.reduceLT, Int.reduceLE, Int.reduceNeg, h1]
    rw [fk]
    simp -implicitDefEqProofs only [fn_codec_Reader_in, o_codec_Reader_in_0, o_codec_Reader_in_1, o_codec_Reader_in_2, o_codec_Reader_in_3, o_codec_Reader_in_4, o_codec_Reader_in_5, tc_codec_Reader_in, TT, Ic.t, Ic.ci, ne_eq, eq_self, not_true_eq_false, Nat.reduceEqDiff, reduceIte, Nat.reduceAdd, Nat.reduceMul, Nat.reduceLT, Nat.reduceLeDiff, Nat.reduceSub, reduceCtorEq, Int.reduceEq, Int.reduceNe, decide_eq_true_eq, bne_self_eq_false, beq_self_eq_true, Int.reduceToNat, Int.reduceLT, Int.reduceLE, Int.reduceNeg, hi]
    exact hK
  · by_cases h2 : most < q.1
    · rw [if_pos (.inr h2)] at hK
      simp -implicitDefEqProofs only [fn_codec_Reader_in, o_codec_Reader_in_0, o_codec_Reader_in_1, o_codec_Reader_in_2, o_codec_Reader_in_3, o_codec_Reader_in_4, o_codec_Reader_in_5, tc_codec_Reader_in, TT, Ic.t, Ic.ci, ne_eq, eq_self, not_true_eq_false, Nat.reduceEqDiff, reduceIte, Nat.reduceAdd, Nat.reduceMul, Nat.reduceLT, Nat.reduceLeDiff, Nat.reduceSub, reduceCtorEq, Int.reduceEq, Int.reduceNe, decide_eq_true_eq, bne_self_eq_false, beq_self_eq_true, Int.reduceToNat, Int.reduceLT, Int.reduceLE, Int.reduceNeg, h1, h2]
      rw [fk]
      simp -implicitDefEqProofs only [fn_codec_Reader_in, o_codec_Reader_in_0, o_codec_Reader_in_1, o_codec_Reader_in_2, o_codec_Reader_in_3, o_codec_Reader_in_4, o_codec_Reader_in_5, tc_codec_Reader_in, TT, Ic.t, Ic.ci, ne_eq, eq_self, not_true_eq_false, Nat.reduceEqDiff, reduceIte, Nat.reduceAdd, Nat.reduceMul, Nat.reduceLT, Nat.reduceLeDiff, Nat.reduceSub, reduceCtorEq, Int.reduceEq, Int.reduceNe, decide_eq_true_eq, bne_self_eq_false, beq_self_eq_true, Int.reduceToNat, Int.reduceLT, Int.reduceLE, Int.reduceNeg, hi]
      exact hK
    · rw [if_neg (by omega)] at hK
      simp -implicitDefEqProofs only [fn_codec_Reader_in, o_codec_Reader_in_0, o_codec_Reader_in_1, o_codec_Reader_in_2, o_codec_Reader_in_3, o_codec_Reader_in_4, o_codec_Reader_in_5, tc_codec_Reader_in, TT, Ic.t, Ic.ci, ne_eq, eq_self, not_true_eq_false, Nat.reduceEqDiff, reduceIte, Nat.reduceAdd, Nat.reduceMul, Nat.reduceLT, Nat.reduceLeDiff, Nat.reduceSub, reduceCtorEq, Int.reduceEq, Int.reduceNe, decide_eq_true_eq, bne_self_eq_false, beq_self_eq_true, Int.reduceToNat, Int.reduceLT, Int.reduceLE, Int.reduceNeg, h1, h2, hi]
      exact hK
theorem in_k (most : Int) (d : Option Nat) (K : TCont) (fr : TF) (tk : TK) : callK G false F_codec_Reader_in [.ptr id 0, .func F_codec_Reader_Num [.ptr id 0] [], .int .i64 most] d K fr tk τ = K (tput fr d (.int .i64 (r.count most).1)) tk (τ.put id (rdOb (r.count most).2)) :=
  callK_of (in_ok r id τ h hi hl most) (by simp -implicitDefEqProofs only [TT, Ic.t, Ic.ci, ne_eq, eq_self, not_true_eq_false, Nat.reduceEqDiff, reduceIte, Nat.reduceAdd, Nat.reduceMul, Nat.reduceLT, Nat.reduceLeDiff, Nat.reduceSub, reduceCtorEq, Int.reduceEq, Int.reduceNe, decide_eq_true_eq, bne_self_eq_false, beq_self_eq_true, Int.reduceToNat, Int.reduceLT, Int.reduceLE, Int.reduceNeg, hi])
theorem Count_ok (most : Int) : Ru G F_codec_Reader_Count [.ptr id 0, .int .i64 most] τ (.int .i64 (r.count most).1) (τ.put id (rdOb (r.count most).2)) := by
  refine Ru_of fun K hK => ?_
  rw [tC_code g_codec_Reader_Count (Nat.le_of_ble_eq_true rfl)]
  simp -implicitDefEqProofs only [fn_codec_Reader_Count, o_codec_Reader_Count_0, o_codec_Reader_Count_1, tc_codec_Reader_Count, TT, Ic.t, Ic.ci, ne_eq, eq_self, not_true_eq_false, Nat.reduceEqDiff, reduceIte, Nat.reduceAdd, Nat.reduceMul, Nat.reduceLT, Nat.reduceLeDiff, Nat.reduceSub, reduceCtorEq, Int.reduceEq, Int.reduceNe, decide_eq_true_eq, bne_self_eq_false, beq_self_eq_true, Int.reduceToNat, Int.reduceLT, Int.reduceLE, Int.reduceNeg]
  rw [in_k r id τ h hi hl]
  simp -implicitDefEqProofs only [fn_codec_Reader_Count, o_codec_Reader_Count_0, o_codec_Reader_Count_1, tc_codec_Reader_Count, TT, Ic.t, Ic.ci, ne_eq, eq_self, not_true_eq_false, Nat.reduceEqDiff, reduceIte, Nat.reduceAdd, Nat.reduceMul, Nat.reduceLT, Nat.reduceLeDiff, Nat.reduceSub, reduceCtorEq, Int.reduceEq, Int.reduceNe, decide_eq_true_eq, bne_self_eq_false, beq_self_eq_true, Int.reduceToNat, Int.reduceLT, Int.reduceLE, Int.reduceNeg, hi]
  exact hK
theorem Count_k (most : Int) (d : Option Nat) (K : TCont) (fr : TF) (tk : TK) : callK G false F_codec_Reader_Count [.ptr id 0, .int .i64 most] d K fr tk τ = K (tput fr d (.int .i64 (r.count most).1)) tk (τ.put id (rdOb (r.count most).2)) :=
  callK_of (Count_ok r id τ h hi hl most) (by simp -implicitDefEqProofs only [TT, Ic.t, Ic.ci, ne_eq, eq_self, not_true_eq_false, Nat.reduceEqDiff, reduceIte, Nat.reduceAdd, Nat.reduceMul, Nat.reduceLT, Nat.reduceLeDiff, Nat.reduceSub, reduceCtorEq, Int.reduceEq, Int.reduceNe, decide_eq_true_eq, bne_self_eq_false, beq_self_eq_true, Int.reduceToNat, Int.reduceLT, Int.reduceLE, Int.reduceNeg, hi])
theorem Text_ok (most : Int) : Ru G F_codec_Reader_Text [.ptr id 0, .int .i64 most] τ (.str (r.text most).1) (τ.put id (rdOb (r.text most).2)) := by
  refine Ru_of fun K hK => ?_
  rw [tC_code g_codec_Reader_Text (Nat.le_of_ble_eq_true rfl)]
  simp -implicitDefEqProofs only [fn_codec_Reader_Text, o_codec_Reader_Text_0, o_codec_Reader_Text_1, o_codec_Reader_Text_2, tc_codec_Reader_Text, TT, Ic.t, Ic.ci, ne_eq, eq_self, not_true_eq_false, Nat.reduceEqDiff, reduceIte, Nat.reduceAdd, Nat.reduceMul, Nat.reduceLT, Nat.reduceLeDiff, Nat.reduceSub, reduceCtorEq, Int.reduceEq, Int.reduceNe, decide_eq_true_eq, bne_self_eq_false, beq_self_eq_true, Int.reduceToNat, Int.reduceLT, Int.reduceLE, Int.reduceNeg]
  rw [Count_k r id τ h hi hl]
  unfold Rd.text at hK
  generalize r.count most = q at hK ⊢
  simp -implicitDefEqProofs only [fn_codec_Reader_Text, o_codec_Reader_Text_0, o_codec_Reader_Text_1, o_codec_Reader_Text_2, tc_codec_Reader_Text, TT, Ic.t, Ic.ci, ne_eq, eq_self, not_true_eq_false, Nat.reduceEqDiff, reduceIte, Nat.reduceAdd, Nat.reduceMul, Nat.reduceLT, Nat.reduceLeDiff, Nat.reduceSub, reduceCtorEq, Int.reduceEq, Int.reduceNe, decide_eq_true_eq, bne_self_eq_false, beq_self_eq_true, Int.reduceToNat, Int.reduceLT, Int.reduceLE, Int.reduceNeg]
  rw [take_k q.2 id _ (at_pt _ _ _ hi) (by rw [next_pt]; exact hi) (by rw [lock_pt]; exact hl)]
  simp -implicitDefEqProofs only [fn_codec_Reader_Text, o_codec_Reader_Text_0, o_codec_Reader_Text_1, o_codec_Reader_Text_2, tc_codec_Reader_Text, TT, Ic.t, Ic.ci, ne_eq, eq_self, not_true_eq_false, Nat.reduceEqDiff, reduceIte, Nat.reduceAdd, Nat.reduceMul, Nat.reduceLT, Nat.reduceLeDiff, Nat.reduceSub, reduceCtorEq, Int.reduceEq, Int.reduceNe, decide_eq_true_eq, bne_self_eq_false, beq_self_eq_true, Int.reduceToNat, Int.reduceLT, Int.reduceLE, Int.reduceNeg, hi]
  exact hK
theorem Text_k (most : Int) (d : Option Nat) (K : TCont) (fr : TF) (tk : TK) : callK G false F_codec_Reader_Text [.ptr id 0, .int .i64 most] d K fr tk τ = K (tput fr d (.str (r.text most).1)) tk (τ.put id (rdOb (r.text most).2)) :=
  callK_of (Text_ok r id τ h hi hl most) (by simp -implicitDefEqProofs only [TT, Ic.t, Ic.ci, ne_eq, eq_self, not_true_eq_false, Nat.reduceEqDiff, reduceIte, Nat.reduceAdd, Nat.reduceMul, Nat.reduceLT, Nat.reduceLeDiff, Nat.reduceSub, reduceCtorEq, Int.reduceEq, Int.reduceNe, decide_eq_true_eq, bne_self_eq_false, beq_self_eq_true, Int.reduceToNat, Int.reduceLT, Int.reduceLE, Int.reduceNeg, hi])
omit hl in
theorem Left_k (lk : Bool) (d : Option Nat) (K : TCont) (fr : TF) (tk : TK) : callK G lk F_codec_Reader_Left [.ptr id 0] d K fr tk τ = K (tput fr d (.int .i64 r.s.size)) tk τ := by
  exact callK_rd (Left_ok r id τ h hi) (Left_ok r id (τ.locked τ.next) h hi) (by simp -implicitDefEqProofs only [TT, Ic.t, Ic.ci, ne_eq, eq_self, not_true_eq_false, Nat.reduceEqDiff, reduceIte, Nat.reduceAdd, Nat.reduceMul, Nat.reduceLT, Nat.reduceLeDiff, Nat.reduceSub, reduceCtorEq, Int.reduceEq, Int.reduceNe, decide_eq_true_eq, bne_self_eq_false, beq_self_eq_true, Int.reduceToNat, Int.reduceLT, Int.reduceLE, Int.reduceNeg, hi])
omit hl in
theorem Bad_k (lk : Bool) (d : Option Nat) (K : TCont) (fr : TF) (tk : TK) : callK G lk F_codec_Reader_Bad [.ptr id 0] d K fr tk τ = K (tput fr d (.bool r.bad)) tk τ := by
  exact callK_rd (Bad_ok r id τ h hi) (Bad_ok r id (τ.locked τ.next) h hi) (by simp -implicitDefEqProofs only [TT, Ic.t, Ic.ci, ne_eq, eq_self, not_true_eq_false, Nat.reduceEqDiff, reduceIte, Nat.reduceAdd, Nat.reduceMul, Nat.reduceLT, Nat.reduceLeDiff, Nat.reduceSub, reduceCtorEq, Int.reduceEq, Int.reduceNe, decide_eq_true_eq, bne_self_eq_false, beq_self_eq_true, Int.reduceToNat, Int.reduceLT, Int.reduceLE, Int.reduceNeg, hi])
end
theorem codec_New_k (s : ByteArray) (τ : TH) (d : Option Nat) (K : TCont) (fr : TF) (tk : TK) : callK G false F_codec_New [.str s] d K fr tk τ = K (tput fr d (.ptr τ.next 0)) tk (τ.push (rdOb ⟨s, false⟩)) :=
  callK_of (codec_New_ok s τ) (by simp -implicitDefEqProofs only [TT, Ic.t, Ic.ci, ne_eq, eq_self, not_true_eq_false, Nat.reduceEqDiff, reduceIte, Nat.reduceAdd, Nat.reduceMul, Nat.reduceLT, Nat.reduceLeDiff, Nat.reduceSub, reduceCtorEq, Int.reduceEq, Int.reduceNe, decide_eq_true_eq, bne_self_eq_false, beq_self_eq_true, Int.reduceToNat, Int.reduceLT, Int.reduceLE, Int.reduceNeg])
end Go.Proofs.Ytoaohoilkfbdgaa
