/- What goes in comes out; the laws' own readers are awake. -/
import Derived.Test.YtoaohoilkfbdgaaCodec4
set_option linter.unusedSimpArgs false
set_option linter.unusedVariables false
set_option linter.unusedSectionVars false
namespace Go.Proofs.Ytoaohoilkfbdgaa
open Go Go.RowKit Sh Ic
def I64 (v : Int) : Prop := -9223372036854775808 ≤ v ∧ v ≤ 9223372036854775807
theorem byteP_eq (v : Int) (i : Nat) : byteP v i = (v / ((2 ^ Nat.min (8 * (7 - i)) 64 : Nat) : Int)) % 256 := by
  unfold byteP
  rw [Int.fdiv_eq_ediv_of_nonneg _ (by exact Int.le_of_lt (Int.pow_pos (by decide)))]
  simp [IntKind.wrap, IntKind.bits, IntKind.signed]
theorem ofNat_byteP (v : Int) (i : Nat) : ((UInt8.ofNat (byteP v i).toNat).toNat : Int) = byteP v i := by
  have := byteP_eq v i
  have h1 : 0 ≤ byteP v i := by rw [this]; exact Int.emod_nonneg _ (by decide)
  have h2 : byteP v i < 256 := by rw [this]; exact Int.emod_lt_of_pos _ (by decide)
  rw [UInt8.toNat_ofNat']
  omega
theorem fold_h (l : List UInt8) : ∀ (u v : Int), IntKind.i64.wrap u = IntKind.i64.wrap v → IntKind.i64.wrap (l.foldl (fun v c => v * 256 + (c.toNat : Int)) u) = IntKind.i64.wrap (numOf v l) := by
  induction l with
  | nil => exact fun u v h => h
  | cons c r ih =>
    intro u v h
    refine ih _ (pushB v c) ?_
    show IntKind.i64.wrap (u * 256 + (c.toNat : Int)) = IntKind.i64.wrap (pushB v c)
    unfold pushB
    rw [IntKind.wrap_i64] at h ⊢
    rw [IntKind.wrap_i64] at h ⊢
    rw [IntKind.wrap_i64]
    omega
theorem num_enc (v : Int) (hv : I64 v) : numOf 0 (encNum v).data.toList = v := by
  have e := fold_h (encNum v).data.toList 0 0 rfl
  rw [numOf_wrap] at e
  rw [← e]
  simp only [encNum, List.foldl_cons, List.foldl_nil, ofNat_byteP]
  simp only [byteP_eq]
  have p0 : Nat.min (8 * (7 - 0)) 64 = 56 := rfl
  have p1 : Nat.min (8 * (7 - 1)) 64 = 48 := rfl
  have p2 : Nat.min (8 * (7 - 2)) 64 = 40 := rfl
  have p3 : Nat.min (8 * (7 - 3)) 64 = 32 := rfl
  have p4 : Nat.min (8 * (7 - 4)) 64 = 24 := rfl
  have p5 : Nat.min (8 * (7 - 5)) 64 = 16 := rfl
  have p6 : Nat.min (8 * (7 - 6)) 64 = 8 := rfl
  have p7 : Nat.min (8 * (7 - 7)) 64 = 0 := rfl
  rw [p0, p1, p2, p3, p4, p5, p6, p7]
  obtain ⟨h1, h2⟩ := hv
  rw [IntKind.wrap_i64]
  simp only [Nat.reducePow, Int.cast_ofNat_Int]
  omega
theorem ext0 (a b : ByteArray) : (a ++ b).extract 0 a.size = a := by
  apply ByteArray.ext
  simp
theorem ext1 (a b : ByteArray) : (a ++ b).extract a.size (a ++ b).size = b := by
  apply ByteArray.ext
  apply Array.ext'
  rw [ByteArray.data_extract, Array.toList_extract, ByteArray.data_append, Array.toList_append, ByteArray.size_append, List.extract_eq_take_drop]
  rw [List.drop_append_of_le_length (by simp), List.drop_eq_nil_of_le (by simp), List.nil_append, List.take_of_length_le (by simp)]
theorem take_app (a t : ByteArray) (n : Nat) (hn : a.size = n) : Rd.take ⟨a ++ t, false⟩ (n : Int) = (a, ⟨t, false⟩) := by
  unfold Rd.take
  have hc : Rd.can ⟨a ++ t, false⟩ (n : Int) := ⟨rfl, by omega, by simp only [ByteArray.size_append]; omega⟩
  rw [if_pos hc]
  simp only [Int.toNat_natCast]
  rw [← hn, ext0, ext1]
theorem num_app (v : Int) (hv : I64 v) (t : ByteArray) : Rd.num ⟨encNum v ++ t, false⟩ = (v, ⟨t, false⟩) := by
  unfold Rd.num
  rw [show (8 : Int) = ((8 : Nat) : Int) from rfl, take_app _ _ 8 rfl, num_enc v hv]
theorem count_app (v most : Int) (hv : I64 v) (t : ByteArray) : Rd.count ⟨encNum v ++ t, false⟩ most = if v < 0 ∨ most < v then (0, .fail) else (v, ⟨t, false⟩) := by
  unfold Rd.count
  rw [num_app v hv]
theorem text_app (s : ByteArray) (most : Int) (hs : s.size ≤ 140737488355328) (t : ByteArray) : Rd.text ⟨encText s ++ t, false⟩ most = if most < s.size then (⟨#[]⟩, .fail) else (s, ⟨t, false⟩) := by
  unfold Rd.text encText
  rw [ByteArray.append_assoc, count_app _ _ ⟨by omega, by omega⟩]
  by_cases h : most < (s.size : Int)
  · rw [if_pos (.inr h), if_pos h]
    unfold Rd.take
    rw [if_neg (fun hc => by cases hc.1)]
  · rw [if_neg (by omega), if_neg h]
    exact take_app _ _ _ rfl
theorem num_fail : Rd.fail.num = (0, Rd.fail) := rfl
theorem count_fail (m : Int) (hm : 0 ≤ m) : Rd.fail.count m = (0, Rd.fail) := by
  unfold Rd.count
  split
  · rfl
  · rfl
theorem app_nil (a : ByteArray) : a ++ ⟨#[]⟩ = a := ByteArray.append_empty
/-- A number's place. -/
theorem Place_ok (v n : Int) (hv : I64 v) (hn : 0 < n) (hn2 : n ≤ 9223372036854775807) : Pu G F_handsellaw00_Place [.int .i64 v, .int .i64 n] (.int .i64 (v % n)) := by
  intro τ hlk
  refine Ru_of fun K hK => ?_
  rw [tC_code g_handsellaw00_Place (Nat.le_of_ble_eq_true rfl)]
  obtain ⟨h1, h2⟩ := hv
  have e0 := Int.tmod_def v n
  have e1 : v % n = if 0 ≤ v ∨ n ∣ v then v.tmod n else v.tmod n + n := by
    rw [Int.emod_eq_tmod]
    split
    · simp
    · rw [Int.natAbs_of_nonneg (by omega)]
  have b1 : -n < v.tmod n := by
    have := Int.lt_tmod_of_pos v hn
    exact this
  have b2 : v.tmod n < n := Int.tmod_lt_of_pos v hn
  have w1 : IntKind.i64.wrap (v.tmod n) = v.tmod n := w64 (by omega) (by omega)
  have w2 : v.tmod n < 0 → IntKind.i64.wrap (v.tmod n + n) = v.tmod n + n := fun h => w64 (by omega) (by omega)
  have n0 : ¬ n = 0 := by omega
  by_cases hc : v.tmod n < 0
  · have := w2 hc
    have e2 : v % n = v.tmod n + n := by
      rw [e1, if_neg]
      intro h
      rcases h with h | h
      · have := Int.tmod_nonneg n h; omega
      · have := Int.tmod_eq_zero_of_dvd h; omega
    rw [e2] at hK
    simp -implicitDefEqProofs only [fn_handsellaw00_Place, o_handsellaw00_Place_0, o_handsellaw00_Place_1, o_handsellaw00_Place_2, o_handsellaw00_Place_3, o_handsellaw00_Place_4, tc_handsellaw00_Place, TT, Ic.t, Ic.ci, ne_eq, eq_self, not_true_eq_false, Nat.reduceEqDiff, reduceIte, Nat.reduceAdd, Nat.reduceMul, Nat.reduceLT, Nat.reduceLeDiff, Nat.reduceSub, reduceCtorEq, Int.reduceEq, Int.reduceNe, decide_eq_true_eq, bne_self_eq_false, beq_self_eq_true, Int.reduceToNat, Int.reduceLT, Int.reduceLE, Int.reduceNeg, hc, w1, this, n0]
    exact hK
  · have e2 : v % n = v.tmod n := by
      have h3 : 0 ≤ v % n := Int.emod_nonneg _ (by omega)
      have h4 : v % n < n := Int.emod_lt_of_pos _ hn
      rw [e1] at h3 h4 ⊢
      split
      · rfl
      · rename_i h
        rw [if_neg h] at h3 h4
        omega
    rw [e2] at hK
    simp -implicitDefEqProofs only [fn_handsellaw00_Place, o_handsellaw00_Place_0, o_handsellaw00_Place_1, o_handsellaw00_Place_2, o_handsellaw00_Place_3, o_handsellaw00_Place_4, tc_handsellaw00_Place, TT, Ic.t, Ic.ci, ne_eq, eq_self, not_true_eq_false, Nat.reduceEqDiff, reduceIte, Nat.reduceAdd, Nat.reduceMul, Nat.reduceLT, Nat.reduceLeDiff, Nat.reduceSub, reduceCtorEq, Int.reduceEq, Int.reduceNe, decide_eq_true_eq, bne_self_eq_false, beq_self_eq_true, Int.reduceToNat, Int.reduceLT, Int.reduceLE, Int.reduceNeg, hc, w1, n0]
    exact hK
theorem Place_k (v n : Int) (hv : I64 v) (hn : 0 < n) (hn2 : n ≤ 9223372036854775807) (lk : Bool) (d : Option Nat) (K : TCont) (fr : TF) (tk : TK) (τ : TH) (hl : τ.lock ≤ τ.next) : callK G lk F_handsellaw00_Place [.int .i64 v, .int .i64 n] d K fr tk τ = K (tput fr d (.int .i64 (v % n))) tk τ :=
  callK_pure (Place_ok v n hv hn hn2) lk d K fr tk τ (by simp -implicitDefEqProofs only [TT, Ic.t, Ic.ci, ne_eq, eq_self, not_true_eq_false, Nat.reduceEqDiff, reduceIte, Nat.reduceAdd, Nat.reduceMul, Nat.reduceLT, Nat.reduceLeDiff, Nat.reduceSub, reduceCtorEq, Int.reduceEq, Int.reduceNe, decide_eq_true_eq, bne_self_eq_false, beq_self_eq_true, Int.reduceToNat, Int.reduceLT, Int.reduceLE, Int.reduceNeg]) hl
end Go.Proofs.Ytoaohoilkfbdgaa
