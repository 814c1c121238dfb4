/- DiskTwice's walk. -/
import Derived.Test.YtoaohoilkfbdgaaDisk2
set_option linter.unusedSimpArgs false
set_option linter.unusedVariables false
namespace Go.Proofs.Ytoaohoilkfbdgaa
open Go Go.RowKit Sh Ic

theorem extract_append (b c : ByteArray) (k : Nat) (hk : k ≤ c.size) : (b ++ c).extract 0 (b.size + k) = b ++ c.extract 0 k := by
  rw [ByteArray.extract_append]
  congr 1
  · have e : b.size + k = max (b.size + k) b.size := by omega
    rw [e, ByteArray.extract_zero_max_size]
  · congr 1 <;> omega

theorem DiskTwice_ok (a b c : ByteArray) (keep : Int) (ha : a.size ≤ 140737488351232) (hb : b.size ≤ 140737488351232) (hc : c.size ≤ 140737488351232) (σ : Heap) (Post : Value → Heap → Prop) (h : ∀ σ', σ.le σ' → Post (.bool true) σ') :
    CallOK Try.prog F_handsellaw15_DiskTwice [.string a, .string b, .string c, .int .i64 keep] σ Post := by
  refine callOK_fn c_handsellaw15_DiskTwice (by simp) ?_
  have w1 : IntKind.i64.wrap ((a.size : Int) + b.size) = (a.size : Int) + b.size := w64 (by omega) (by omega)
  have w2 : IntKind.i64.wrap ((a.size : Int) + b.size + c.size) = (a.size : Int) + b.size + c.size := w64 (by omega) (by omega)
  simp -implicitDefEqProofs only [ic_handsellaw15_DiskTwice, o_handsellaw15_DiskTwice_0, o_handsellaw15_DiskTwice_1, o_handsellaw15_DiskTwice_10, o_handsellaw15_DiskTwice_11, o_handsellaw15_DiskTwice_12, o_handsellaw15_DiskTwice_13, o_handsellaw15_DiskTwice_14, o_handsellaw15_DiskTwice_15, o_handsellaw15_DiskTwice_16, o_handsellaw15_DiskTwice_17, o_handsellaw15_DiskTwice_18, o_handsellaw15_DiskTwice_19, o_handsellaw15_DiskTwice_2, o_handsellaw15_DiskTwice_3, o_handsellaw15_DiskTwice_4, o_handsellaw15_DiskTwice_5, o_handsellaw15_DiskTwice_6, o_handsellaw15_DiskTwice_7, o_handsellaw15_DiskTwice_8, o_handsellaw15_DiskTwice_9, VV, Ic.t, Ic.ci, ne_eq, eq_self, not_true_eq_false, bd_both, Nat.reduceEqDiff, reduceIte, Nat.reduceAdd, Nat.reduceMul, Nat.reduceLT, Nat.reduceLeDiff, Nat.reduceSub, reduceCtorEq, Int.reduceToNat, Int.reduceLT, Int.reduceLE, Int.reduceNeg, argFr_at, w1, w2]
  refine cK_dec _ _ _ _ _ _ _ (fun hl => ?_) fun hl => ?_
  · simp -implicitDefEqProofs only [VV, Ic.t, Ic.ci, ne_eq, eq_self, not_true_eq_false, bd_both, Nat.reduceEqDiff, reduceIte, Nat.reduceAdd, Nat.reduceMul, Nat.reduceLT, Nat.reduceLeDiff, Nat.reduceSub, reduceCtorEq, Int.reduceToNat, Int.reduceLT, Int.reduceLE, Int.reduceNeg, argFr_at]
    refine awake_ok _ _ fun σ' hle => ?_
    simp -implicitDefEqProofs only [VV, Ic.t, Ic.ci, ne_eq, eq_self, not_true_eq_false, bd_both, Nat.reduceEqDiff, reduceIte, Nat.reduceAdd, Nat.reduceMul, Nat.reduceLT, Nat.reduceLeDiff, Nat.reduceSub, reduceCtorEq, Int.reduceToNat, Int.reduceLT, Int.reduceLE, Int.reduceNeg]
    exact h _ hle
  have w3 : IntKind.i64.wrap ((c.size : Int) + 2) = (c.size : Int) + 2 := w64 (by omega) (by omega)
  have w4 : IntKind.i64.wrap ((c.size : Int) + 1) = (c.size : Int) + 1 := w64 (by omega) (by omega)
  simp -implicitDefEqProofs only [VV, Ic.t, Ic.ci, ne_eq, eq_self, not_true_eq_false, bd_both, Nat.reduceEqDiff, reduceIte, Nat.reduceAdd, Nat.reduceMul, Nat.reduceLT, Nat.reduceLeDiff, Nat.reduceSub, reduceCtorEq, Int.reduceToNat, Int.reduceLT, Int.reduceLE, Int.reduceNeg, argFr_at]
  refine New_ok _ _ _ ?_
  have e0 : Dk.new 2000 = ⟨2000, 0, ⟨#[]⟩, ⟨#[]⟩, false⟩ := rfl
  have ea : (⟨#[]⟩ : ByteArray) ++ a = a := ByteArray.empty_append
  simp -implicitDefEqProofs only [VV, Ic.t, Ic.ci, ne_eq, eq_self, not_true_eq_false, bd_both, Nat.reduceEqDiff, reduceIte, Nat.reduceAdd, Nat.reduceMul, Nat.reduceLT, Nat.reduceLeDiff, Nat.reduceSub, reduceCtorEq, Int.reduceToNat, Int.reduceLT, Int.reduceLE, Int.reduceNeg, argFr_at, e0]
  have ok0 : Dk.OK ⟨2000, 0, ⟨#[]⟩, ⟨#[]⟩, false⟩ := .new 2000
  refine Append_yes σ.next ⟨2000, 0, ⟨#[]⟩, ⟨#[]⟩, false⟩ _ (by simp -implicitDefEqProofs only [at_push_is, at_push_old, put_push_is, put_push_old, push_next, put_next, at_put, at_put_ne, lt_more, lt_self, lt_left, eq_left, eq_self_add, add_eq_self', add_lit, Nat.reduceAdd, Nat.reduceLT, Nat.reduceEqDiff, ne_eq, not_false_eq_true]) _ ok0 _ (decide_eq_true (by show a.size + 0 ≤ 2000; omega)) ?_
  simp -implicitDefEqProofs only [VV, Ic.t, Ic.ci, ne_eq, eq_self, not_true_eq_false, bd_both, Nat.reduceEqDiff, reduceIte, Nat.reduceAdd, Nat.reduceMul, Nat.reduceLT, Nat.reduceLeDiff, Nat.reduceSub, reduceCtorEq, Int.reduceToNat, Int.reduceLT, Int.reduceLE, Int.reduceNeg, argFr_at, ea]
  have ok1 : Dk.OK ⟨2000, 0, ⟨#[]⟩, a, false⟩ := ⟨by simp only; omega, by simp only; omega, Nat.zero_le _, Nat.zero_le _⟩
  refine Sync_ok σ.next ⟨2000, 0, ⟨#[]⟩, a, false⟩ _ (by simp -implicitDefEqProofs only [at_push_is, at_push_old, put_push_is, put_push_old, push_next, put_next, at_put, at_put_ne, lt_more, lt_self, lt_left, eq_left, eq_self_add, add_eq_self', add_lit, Nat.reduceAdd, Nat.reduceLT, Nat.reduceEqDiff, ne_eq, not_false_eq_true]) _ ?_
  simp -implicitDefEqProofs only [VV, Ic.t, Ic.ci, ne_eq, eq_self, not_true_eq_false, bd_both, Nat.reduceEqDiff, reduceIte, Nat.reduceAdd, Nat.reduceMul, Nat.reduceLT, Nat.reduceLeDiff, Nat.reduceSub, reduceCtorEq, Int.reduceToNat, Int.reduceLT, Int.reduceLE, Int.reduceNeg, argFr_at, Dk.settle]
  have ok2 : Dk.OK ⟨2000, a.size, a, a, false⟩ := ok1.settle
  refine Append_yes σ.next ⟨2000, a.size, a, a, false⟩ _ (by simp -implicitDefEqProofs only [at_push_is, at_push_old, put_push_is, put_push_old, push_next, put_next, at_put, at_put_ne, lt_more, lt_self, lt_left, eq_left, eq_self_add, add_eq_self', add_lit, Nat.reduceAdd, Nat.reduceLT, Nat.reduceEqDiff, ne_eq, not_false_eq_true]) _ ok2 _ (decide_eq_true (by show 4 + a.size ≤ 2000; omega)) ?_
  simp -implicitDefEqProofs only [VV, Ic.t, Ic.ci, ne_eq, eq_self, not_true_eq_false, bd_both, Nat.reduceEqDiff, reduceIte, Nat.reduceAdd, Nat.reduceMul, Nat.reduceLT, Nat.reduceLeDiff, Nat.reduceSub, reduceCtorEq, Int.reduceToNat, Int.reduceLT, Int.reduceLE, Int.reduceNeg, argFr_at]
  have s1 : (a ++ ⟨#[108, 111, 115, 116]⟩).size = a.size + 4 := by rw [ByteArray.size_append]; rfl
  have ok3 : Dk.OK ⟨2000, a.size, a, a ++ ⟨#[108, 111, 115, 116]⟩, false⟩ := ⟨by simp only; omega, by simp only; omega, by simp only; omega, by simp only; omega⟩
  refine Replace_yes σ.next ⟨2000, a.size, a, a ++ ⟨#[108, 111, 115, 116]⟩, false⟩ _ (by simp -implicitDefEqProofs only [at_push_is, at_push_old, put_push_is, put_push_old, push_next, put_next, at_put, at_put_ne, lt_more, lt_self, lt_left, eq_left, eq_self_add, add_eq_self', add_lit, Nat.reduceAdd, Nat.reduceLT, Nat.reduceEqDiff, ne_eq, not_false_eq_true]) _ ok3 _ (decide_eq_true (by show 5 ≤ 2000; omega)) ?_
  have s5 : (⟨#[102, 105, 114, 115, 116]⟩ : ByteArray).size = 5 := rfl
  simp -implicitDefEqProofs only [VV, Ic.t, Ic.ci, ne_eq, eq_self, not_true_eq_false, bd_both, Nat.reduceEqDiff, reduceIte, Nat.reduceAdd, Nat.reduceMul, Nat.reduceLT, Nat.reduceLeDiff, Nat.reduceSub, reduceCtorEq, Int.reduceToNat, Int.reduceLT, Int.reduceLE, Int.reduceNeg, argFr_at, s5]
  have ok4 : Dk.OK ⟨2000, 5, a, ⟨#[102, 105, 114, 115, 116]⟩, true⟩ := ⟨by simp only; omega, by simp only [s5]; omega, by simp only [s5]; omega, by simp only; omega⟩
  refine Append_yes σ.next ⟨2000, 5, a, ⟨#[102, 105, 114, 115, 116]⟩, true⟩ _ (by simp -implicitDefEqProofs only [at_push_is, at_push_old, put_push_is, put_push_old, push_next, put_next, at_put, at_put_ne, lt_more, lt_self, lt_left, eq_left, eq_self_add, add_eq_self', add_lit, Nat.reduceAdd, Nat.reduceLT, Nat.reduceEqDiff, ne_eq, not_false_eq_true]) _ ok4 _ (decide_eq_true (by show 4 + 5 ≤ 2000; omega)) ?_
  simp -implicitDefEqProofs only [VV, Ic.t, Ic.ci, ne_eq, eq_self, not_true_eq_false, bd_both, Nat.reduceEqDiff, reduceIte, Nat.reduceAdd, Nat.reduceMul, Nat.reduceLT, Nat.reduceLeDiff, Nat.reduceSub, reduceCtorEq, Int.reduceToNat, Int.reduceLT, Int.reduceLE, Int.reduceNeg, argFr_at]
  have ok5 : Dk.OK ⟨2000, 5, a, ⟨#[102, 105, 114, 115, 116]⟩ ++ ⟨#[108, 111, 115, 116]⟩, true⟩ := ⟨by simp only; omega, by show 9 ≤ 2000; omega, by show 5 ≤ 9; omega, by simp only; omega⟩
  refine Replace_yes σ.next ⟨2000, 5, a, ⟨#[102, 105, 114, 115, 116]⟩ ++ ⟨#[108, 111, 115, 116]⟩, true⟩ _ (by simp -implicitDefEqProofs only [at_push_is, at_push_old, put_push_is, put_push_old, push_next, put_next, at_put, at_put_ne, lt_more, lt_self, lt_left, eq_left, eq_self_add, add_eq_self', add_lit, Nat.reduceAdd, Nat.reduceLT, Nat.reduceEqDiff, ne_eq, not_false_eq_true]) _ ok5 _ (decide_eq_true (by show b.size ≤ 2000; omega)) ?_
  simp -implicitDefEqProofs only [VV, Ic.t, Ic.ci, ne_eq, eq_self, not_true_eq_false, bd_both, Nat.reduceEqDiff, reduceIte, Nat.reduceAdd, Nat.reduceMul, Nat.reduceLT, Nat.reduceLeDiff, Nat.reduceSub, reduceCtorEq, Int.reduceToNat, Int.reduceLT, Int.reduceLE, Int.reduceNeg, argFr_at]
  have ok6 : Dk.OK ⟨2000, b.size, a, b, true⟩ := ⟨by simp only; omega, by simp only; omega, Nat.le_refl _, by simp only; omega⟩
  refine Append_yes σ.next ⟨2000, b.size, a, b, true⟩ _ (by simp -implicitDefEqProofs only [at_push_is, at_push_old, put_push_is, put_push_old, push_next, put_next, at_put, at_put_ne, lt_more, lt_self, lt_left, eq_left, eq_self_add, add_eq_self', add_lit, Nat.reduceAdd, Nat.reduceLT, Nat.reduceEqDiff, ne_eq, not_false_eq_true]) _ ok6 _ (decide_eq_true (by show c.size + b.size ≤ 2000; omega)) ?_
  simp -implicitDefEqProofs only [VV, Ic.t, Ic.ci, ne_eq, eq_self, not_true_eq_false, bd_both, Nat.reduceEqDiff, reduceIte, Nat.reduceAdd, Nat.reduceMul, Nat.reduceLT, Nat.reduceLeDiff, Nat.reduceSub, reduceCtorEq, Int.reduceToNat, Int.reduceLT, Int.reduceLE, Int.reduceNeg, argFr_at, w3]
  have sbc := ByteArray.size_append (a := b) (b := c)
  have ok7 : Dk.OK ⟨2000, b.size, a, b ++ c, true⟩ := ⟨by simp only; omega, by simp only; omega, by simp only; omega, by simp only; omega⟩
  have k0 := Int.emod_nonneg keep (show (c.size : Int) + 2 ≠ 0 by omega)
  have k1 := Int.emod_lt_of_pos keep (show (0 : Int) < (c.size : Int) + 2 by omega)
  refine Place_ok _ _ (by omega) (by omega) _ _ ?_
  generalize hk : keep % ((c.size : Int) + 2) = kI at k0 k1 ⊢
  obtain ⟨k, rfl⟩ := Int.eq_ofNat_of_zero_le k0
  have hlt : ¬ ((9223372036854775807 : Int) < ((b.size + c.size : Nat) : Int)) := by omega
  simp -implicitDefEqProofs only [VV, Ic.t, Ic.ci, ne_eq, eq_self, not_true_eq_false, bd_both, Nat.reduceEqDiff, reduceIte, Nat.reduceAdd, Nat.reduceMul, Nat.reduceLT, Nat.reduceLeDiff, Nat.reduceSub, reduceCtorEq, Int.reduceToNat, Int.reduceLT, Int.reduceLE, Int.reduceNeg, argFr_at]
  refine Text_ok σ.next ⟨2000, b.size, a, b ++ c, true⟩ _ (by simp -implicitDefEqProofs only [at_push_is, at_push_old, put_push_is, put_push_old, push_next, put_next, at_put, at_put_ne, lt_more, lt_self, lt_left, eq_left, eq_self_add, add_eq_self', add_lit, Nat.reduceAdd, Nat.reduceLT, Nat.reduceEqDiff, ne_eq, not_false_eq_true]) _ ?_
  simp -implicitDefEqProofs only [VV, Ic.t, Ic.ci, ne_eq, eq_self, not_true_eq_false, bd_both, Nat.reduceEqDiff, reduceIte, Nat.reduceAdd, Nat.reduceMul, Nat.reduceLT, Nat.reduceLeDiff, Nat.reduceSub, reduceCtorEq, Int.reduceToNat, Int.reduceLT, Int.reduceLE, Int.reduceNeg, argFr_at, hlt, w4]
  refine Waits_ok σ.next ⟨2000, b.size, a, b ++ c, true⟩ _ (by simp -implicitDefEqProofs only [at_push_is, at_push_old, put_push_is, put_push_old, push_next, put_next, at_put, at_put_ne, lt_more, lt_self, lt_left, eq_left, eq_self_add, add_eq_self', add_lit, Nat.reduceAdd, Nat.reduceLT, Nat.reduceEqDiff, ne_eq, not_false_eq_true]) _ ok7 ?_
  have ew : Dk.waits ⟨2000, b.size, a, b ++ c, true⟩ = c.size + 1 := by
    show (b ++ c).size - b.size + 1 = _
    omega
  have ew' : ((c.size + 1 : Nat) : Int) = (c.size : Int) + 1 := by omega
  simp -implicitDefEqProofs only [VV, Ic.t, Ic.ci, ne_eq, eq_self, not_true_eq_false, bd_both, Nat.reduceEqDiff, reduceIte, Nat.reduceAdd, Nat.reduceMul, Nat.reduceLT, Nat.reduceLeDiff, Nat.reduceSub, reduceCtorEq, Int.reduceToNat, Int.reduceLT, Int.reduceLE, Int.reduceNeg, argFr_at, ew, ew', w4]
  refine Crash_ok σ.next ⟨2000, b.size, a, b ++ c, true⟩ _ (by simp -implicitDefEqProofs only [at_push_is, at_push_old, put_push_is, put_push_old, push_next, put_next, at_put, at_put_ne, lt_more, lt_self, lt_left, eq_left, eq_self_add, add_eq_self', add_lit, Nat.reduceAdd, Nat.reduceLT, Nat.reduceEqDiff, ne_eq, not_false_eq_true]) _ ok7 k ?_
  have ec : Dk.cut ⟨2000, b.size, a, b ++ c, true⟩ k = k := by
    unfold Dk.cut
    rw [if_neg (by omega), ew]
    omega
  have hcr := ok7.crash k
  have hcw : (Dk.crash ⟨2000, b.size, a, b ++ c, true⟩ k).waits = 0 := by
    unfold Dk.crash
    split <;> (simp only [Dk.waits, Dk.settle, Dk.one]; simp)
  by_cases hz : k = 0
  · have en : (Dk.crash ⟨2000, b.size, a, b ++ c, true⟩ k).now = a := by
      unfold Dk.crash
      rw [ec]
      simp [hz, Dk.settle]
    generalize Dk.crash ⟨2000, b.size, a, b ++ c, true⟩ k = d at hcr hcw en ⊢
    have kz : ¬ ((0 : Int) < k) := by omega
    simp -implicitDefEqProofs only [VV, Ic.t, Ic.ci, ne_eq, eq_self, not_true_eq_false, bd_both, Nat.reduceEqDiff, reduceIte, Nat.reduceAdd, Nat.reduceMul, Nat.reduceLT, Nat.reduceLeDiff, Nat.reduceSub, reduceCtorEq, Int.reduceToNat, Int.reduceLT, Int.reduceLE, Int.reduceNeg, argFr_at, kz]
    refine Text_ok σ.next d _ (by simp -implicitDefEqProofs only [at_push_is, at_push_old, put_push_is, put_push_old, push_next, put_next, at_put, at_put_ne, lt_more, lt_self, lt_left, eq_left, eq_self_add, add_eq_self', add_lit, Nat.reduceAdd, Nat.reduceLT, Nat.reduceEqDiff, ne_eq, not_false_eq_true]) _ ?_
    simp -implicitDefEqProofs only [VV, Ic.t, Ic.ci, ne_eq, eq_self, not_true_eq_false, bd_both, Nat.reduceEqDiff, reduceIte, Nat.reduceAdd, Nat.reduceMul, Nat.reduceLT, Nat.reduceLeDiff, Nat.reduceSub, reduceCtorEq, Int.reduceToNat, Int.reduceLT, Int.reduceLE, Int.reduceNeg, argFr_at, en]
    refine Waits_ok σ.next d _ (by simp -implicitDefEqProofs only [at_push_is, at_push_old, put_push_is, put_push_old, push_next, put_next, at_put, at_put_ne, lt_more, lt_self, lt_left, eq_left, eq_self_add, add_eq_self', add_lit, Nat.reduceAdd, Nat.reduceLT, Nat.reduceEqDiff, ne_eq, not_false_eq_true]) _ hcr ?_
    simp -implicitDefEqProofs only [VV, Ic.t, Ic.ci, ne_eq, eq_self, not_true_eq_false, bd_both, Nat.reduceEqDiff, reduceIte, Nat.reduceAdd, Nat.reduceMul, Nat.reduceLT, Nat.reduceLeDiff, Nat.reduceSub, reduceCtorEq, Int.reduceToNat, Int.reduceLT, Int.reduceLE, Int.reduceNeg, argFr_at, hcw, Int.natCast_zero]
    refine awake_ok _ _ fun σ' hle => ?_
    simp -implicitDefEqProofs only [VV, Ic.t, Ic.ci, ne_eq, eq_self, not_true_eq_false, bd_both, Nat.reduceEqDiff, reduceIte, Nat.reduceAdd, Nat.reduceMul, Nat.reduceLT, Nat.reduceLeDiff, Nat.reduceSub, reduceCtorEq, Int.reduceToNat, Int.reduceLT, Int.reduceLE, Int.reduceNeg]
    exact h _ (.trans (σ.le_push _) hle)
  · have en : (Dk.crash ⟨2000, b.size, a, b ++ c, true⟩ k).now = b ++ c.extract 0 (k - 1) := by
      unfold Dk.crash
      rw [ec]
      have : ¬ ((true && k == 0) = true) := by simpa using hz
      rw [if_neg this]
      show (b ++ c).extract 0 (b.size + k - 1) = _
      rw [← extract_append b c (k - 1) (by omega)]
      congr 1
      omega
    generalize Dk.crash ⟨2000, b.size, a, b ++ c, true⟩ k = d at hcr hcw en ⊢
    have kz : (0 : Int) < k := by omega
    have w5 : IntKind.i64.wrap ((k : Int) - 1) = ((k - 1 : Nat) : Int) := by rw [w64 (by omega) (by omega)]; omega
    have r1 : (0 : Int) ≤ ((k - 1 : Nat) : Int) ∧ ((k - 1 : Nat) : Int) ≤ (c.size : Nat) := by omega
    have hle : ¬ ((9223372036854775807 : Int) < ((b.size + (c.extract 0 (k - 1)).size : Nat) : Int)) := by rw [ByteArray.size_extract]; omega
    simp -implicitDefEqProofs only [VV, Ic.t, Ic.ci, ne_eq, eq_self, not_true_eq_false, bd_both, Nat.reduceEqDiff, reduceIte, Nat.reduceAdd, Nat.reduceMul, Nat.reduceLT, Nat.reduceLeDiff, Nat.reduceSub, reduceCtorEq, Int.reduceToNat, Int.reduceLT, Int.reduceLE, Int.reduceNeg, argFr_at, kz, w5, r1, hle]
    refine Text_ok σ.next d _ (by simp -implicitDefEqProofs only [at_push_is, at_push_old, put_push_is, put_push_old, push_next, put_next, at_put, at_put_ne, lt_more, lt_self, lt_left, eq_left, eq_self_add, add_eq_self', add_lit, Nat.reduceAdd, Nat.reduceLT, Nat.reduceEqDiff, ne_eq, not_false_eq_true]) _ ?_
    simp -implicitDefEqProofs only [VV, Ic.t, Ic.ci, ne_eq, eq_self, not_true_eq_false, bd_both, Nat.reduceEqDiff, reduceIte, Nat.reduceAdd, Nat.reduceMul, Nat.reduceLT, Nat.reduceLeDiff, Nat.reduceSub, reduceCtorEq, Int.reduceToNat, Int.reduceLT, Int.reduceLE, Int.reduceNeg, argFr_at, en]
    refine Waits_ok σ.next d _ (by simp -implicitDefEqProofs only [at_push_is, at_push_old, put_push_is, put_push_old, push_next, put_next, at_put, at_put_ne, lt_more, lt_self, lt_left, eq_left, eq_self_add, add_eq_self', add_lit, Nat.reduceAdd, Nat.reduceLT, Nat.reduceEqDiff, ne_eq, not_false_eq_true]) _ hcr ?_
    simp -implicitDefEqProofs only [VV, Ic.t, Ic.ci, ne_eq, eq_self, not_true_eq_false, bd_both, Nat.reduceEqDiff, reduceIte, Nat.reduceAdd, Nat.reduceMul, Nat.reduceLT, Nat.reduceLeDiff, Nat.reduceSub, reduceCtorEq, Int.reduceToNat, Int.reduceLT, Int.reduceLE, Int.reduceNeg, argFr_at, hcw, Int.natCast_zero]
    refine awake_ok _ _ fun σ' hle => ?_
    simp -implicitDefEqProofs only [VV, Ic.t, Ic.ci, ne_eq, eq_self, not_true_eq_false, bd_both, Nat.reduceEqDiff, reduceIte, Nat.reduceAdd, Nat.reduceMul, Nat.reduceLT, Nat.reduceLeDiff, Nat.reduceSub, reduceCtorEq, Int.reduceToNat, Int.reduceLT, Int.reduceLE, Int.reduceNeg]
    exact h _ (.trans (σ.le_push _) hle)
end Go.Proofs.Ytoaohoilkfbdgaa
