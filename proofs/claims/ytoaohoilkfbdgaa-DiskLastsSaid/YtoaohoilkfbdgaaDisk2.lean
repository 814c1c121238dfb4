/- The disk's first sentences, and DiskFull. -/
import Derived.Test.YtoaohoilkfbdgaaDisk1
set_option linter.unusedSimpArgs false
set_option linter.unusedVariables false
namespace Go.Proofs.Ytoaohoilkfbdgaa
open Go Go.RowKit Sh Ic

theorem Dk.OK.append {d : Dk} (h : d.OK) (s : ByteArray) : (d.append s).OK := by
  unfold Dk.append
  split
  · rename_i c
    have := of_decide_eq_true c
    exact ⟨h.size, by simp only [ByteArray.size_append]; omega, by have := h.f; simp only [ByteArray.size_append]; omega, h.lasts⟩
  · exact h
theorem Dk.OK.replace {d : Dk} (h : d.OK) (s : ByteArray) : (d.replace s).OK := by
  unfold Dk.replace
  split
  · rename_i c
    have := of_decide_eq_true c
    exact ⟨h.size, this, Nat.le_refl _, h.lasts⟩
  · exact h
theorem Dk.OK.settle {d : Dk} (h : d.OK) : d.settle.OK := ⟨h.size, h.now, Nat.le_refl _, h.now⟩
theorem Dk.OK.new (size : Int) : (Dk.new size).OK := ⟨by unfold Dk.new; simp only; omega, Nat.zero_le _, Nat.le_refl _, Nat.zero_le _⟩
theorem Dk.OK.crash {d : Dk} (h : d.OK) (k : Int) : (d.crash k).OK := by
  unfold Dk.crash
  split
  · exact ⟨h.size, h.lasts, Nat.le_refl _, h.lasts⟩
  · have : (d.now.extract 0 (d.f + d.cut k - d.one)).size ≤ d.size := by have := h.now; simp only [ByteArray.size_extract]; omega
    exact ⟨h.size, this, Nat.le_refl _, this⟩
theorem awake_ok (σ : Heap) (Post : Value → Heap → Prop) (h : ∀ σ', σ.le σ' → Post (.bool true) σ') : CallOK Try.prog F_handsellaw15_awake [] σ Post := by
  refine callOK_fn c_handsellaw15_awake (by simp) ?_
  simp -implicitDefEqProofs only [ic_handsellaw15_awake, o_handsellaw15_awake_0, o_handsellaw15_awake_1, o_handsellaw15_awake_2, o_handsellaw15_awake_3, o_handsellaw15_awake_4, o_handsellaw15_awake_5, VV, Ic.t, Ic.ci, ne_eq, eq_self, not_true_eq_false, bd_both, Nat.reduceEqDiff, reduceIte, Nat.reduceAdd, Nat.reduceMul, Nat.reduceLT, Nat.reduceLeDiff, Nat.reduceSub, reduceCtorEq, Int.reduceToNat, Int.reduceLT, Int.reduceLE, Int.reduceNeg, argFr_at]
  refine New_ok _ _ _ ?_
  simp -implicitDefEqProofs only [ic_handsellaw15_awake, o_handsellaw15_awake_0, o_handsellaw15_awake_1, o_handsellaw15_awake_2, o_handsellaw15_awake_3, o_handsellaw15_awake_4, o_handsellaw15_awake_5, VV, Ic.t, Ic.ci, ne_eq, eq_self, not_true_eq_false, bd_both, Nat.reduceEqDiff, reduceIte, Nat.reduceAdd, Nat.reduceMul, Nat.reduceLT, Nat.reduceLeDiff, Nat.reduceSub, reduceCtorEq, Int.reduceToNat, Int.reduceLT, Int.reduceLE, Int.reduceNeg, argFr_at]
  refine Append_yes σ.next (Dk.new 10) _ (σ.at_push_new _) _ (.new _) _ rfl ?_
  simp -implicitDefEqProofs only [ic_handsellaw15_awake, o_handsellaw15_awake_0, o_handsellaw15_awake_1, o_handsellaw15_awake_2, o_handsellaw15_awake_3, o_handsellaw15_awake_4, o_handsellaw15_awake_5, VV, Ic.t, Ic.ci, ne_eq, eq_self, not_true_eq_false, bd_both, Nat.reduceEqDiff, reduceIte, Nat.reduceAdd, Nat.reduceMul, Nat.reduceLT, Nat.reduceLeDiff, Nat.reduceSub, reduceCtorEq, Int.reduceToNat, Int.reduceLT, Int.reduceLE, Int.reduceNeg, argFr_at]
  have d1 : Dk.OK { Dk.new 10 with now := (Dk.new 10).now ++ ⟨#[97, 98]⟩ } := (Dk.OK.new 10).append ⟨#[97, 98]⟩
  generalize hd : ({ Dk.new 10 with now := (Dk.new 10).now ++ ⟨#[97, 98]⟩ } : Dk) = d at d1 ⊢
  refine Append_no σ.next d _ (σ.at_push_new _) _ d1 _ (by subst hd; rfl) ?_
  simp -implicitDefEqProofs only [ic_handsellaw15_awake, o_handsellaw15_awake_0, o_handsellaw15_awake_1, o_handsellaw15_awake_2, o_handsellaw15_awake_3, o_handsellaw15_awake_4, o_handsellaw15_awake_5, VV, Ic.t, Ic.ci, ne_eq, eq_self, not_true_eq_false, bd_both, Nat.reduceEqDiff, reduceIte, Nat.reduceAdd, Nat.reduceMul, Nat.reduceLT, Nat.reduceLeDiff, Nat.reduceSub, reduceCtorEq, Int.reduceToNat, Int.reduceLT, Int.reduceLE, Int.reduceNeg, argFr_at]
  refine Crash_ok σ.next d _ (σ.at_push_new _) _ d1 1 ?_
  simp -implicitDefEqProofs only [ic_handsellaw15_awake, o_handsellaw15_awake_0, o_handsellaw15_awake_1, o_handsellaw15_awake_2, o_handsellaw15_awake_3, o_handsellaw15_awake_4, o_handsellaw15_awake_5, VV, Ic.t, Ic.ci, ne_eq, eq_self, not_true_eq_false, bd_both, Nat.reduceEqDiff, reduceIte, Nat.reduceAdd, Nat.reduceMul, Nat.reduceLT, Nat.reduceLeDiff, Nat.reduceSub, reduceCtorEq, Int.reduceToNat, Int.reduceLT, Int.reduceLE, Int.reduceNeg, argFr_at]
  refine Text_ok σ.next (d.crash 1) _ (σ.at_push_new _) _ ?_
  have e1 : (d.crash 1).now = ⟨#[97]⟩ := by subst hd; rfl
  simp -implicitDefEqProofs only [ic_handsellaw15_awake, o_handsellaw15_awake_0, o_handsellaw15_awake_1, o_handsellaw15_awake_2, o_handsellaw15_awake_3, o_handsellaw15_awake_4, o_handsellaw15_awake_5, VV, Ic.t, Ic.ci, ne_eq, eq_self, not_true_eq_false, bd_both, Nat.reduceEqDiff, reduceIte, Nat.reduceAdd, Nat.reduceMul, Nat.reduceLT, Nat.reduceLeDiff, Nat.reduceSub, reduceCtorEq, Int.reduceToNat, Int.reduceLT, Int.reduceLE, Int.reduceNeg, argFr_at, e1]
  refine Waits_ok σ.next (d.crash 1) _ (σ.at_push_new _) _ (d1.crash 1) ?_
  have e2 : (d.crash 1).waits = 0 := by subst hd; rfl
  simp -implicitDefEqProofs only [ic_handsellaw15_awake, o_handsellaw15_awake_0, o_handsellaw15_awake_1, o_handsellaw15_awake_2, o_handsellaw15_awake_3, o_handsellaw15_awake_4, o_handsellaw15_awake_5, VV, Ic.t, Ic.ci, ne_eq, eq_self, not_true_eq_false, bd_both, Nat.reduceEqDiff, reduceIte, Nat.reduceAdd, Nat.reduceMul, Nat.reduceLT, Nat.reduceLeDiff, Nat.reduceSub, reduceCtorEq, Int.reduceToNat, Int.reduceLT, Int.reduceLE, Int.reduceNeg, argFr_at, e2, Int.natCast_zero]
  exact h _ (σ.le_push _)

theorem DiskFull_ok (size n : Int) (σ : Heap) (Post : Value → Heap → Prop) (h : ∀ σ', σ.le σ' → Post (.bool true) σ') : CallOK Try.prog F_handsellaw15_DiskFull [.int .i64 size, .int .i64 n] σ Post := by
  refine callOK_fn c_handsellaw15_DiskFull (by simp) ?_
  simp -implicitDefEqProofs only [ic_handsellaw15_DiskFull, o_handsellaw15_DiskFull_0, o_handsellaw15_DiskFull_1, o_handsellaw15_DiskFull_2, o_handsellaw15_DiskFull_3, o_handsellaw15_DiskFull_4, o_handsellaw15_DiskFull_5, o_handsellaw15_DiskFull_6, VV, Ic.t, Ic.ci, ne_eq, eq_self, not_true_eq_false, bd_both, Nat.reduceEqDiff, reduceIte, Nat.reduceAdd, Nat.reduceMul, Nat.reduceLT, Nat.reduceLeDiff, Nat.reduceSub, reduceCtorEq, Int.reduceToNat, Int.reduceLT, Int.reduceLE, Int.reduceNeg, argFr_at]
  have k0 := Int.emod_nonneg size (show (200 : Int) ≠ 0 by decide)
  have k1 := Int.emod_lt_of_pos size (show (0 : Int) < 200 by decide)
  refine Place_ok _ _ (by decide) (by decide) _ _ ?_
  generalize hk : size % 200 = kI at k0 k1 ⊢
  obtain ⟨k, rfl⟩ := Int.eq_ofNat_of_zero_le k0
  simp -implicitDefEqProofs only [ic_handsellaw15_DiskFull, o_handsellaw15_DiskFull_0, o_handsellaw15_DiskFull_1, o_handsellaw15_DiskFull_2, o_handsellaw15_DiskFull_3, o_handsellaw15_DiskFull_4, o_handsellaw15_DiskFull_5, o_handsellaw15_DiskFull_6, VV, Ic.t, Ic.ci, ne_eq, eq_self, not_true_eq_false, bd_both, Nat.reduceEqDiff, reduceIte, Nat.reduceAdd, Nat.reduceMul, Nat.reduceLT, Nat.reduceLeDiff, Nat.reduceSub, reduceCtorEq, Int.reduceToNat, Int.reduceLT, Int.reduceLE, Int.reduceNeg, argFr_at]
  refine New_ok _ _ _ ?_
  have ek : Dk.new k = ⟨k, 0, ⟨#[]⟩, ⟨#[]⟩, false⟩ := by unfold Dk.new; congr 1; omega
  have w1 : IntKind.i64.wrap ((k : Int) + 1) = (k : Int) + 1 := w64 (by omega) (by omega)
  simp -implicitDefEqProofs only [ic_handsellaw15_DiskFull, o_handsellaw15_DiskFull_0, o_handsellaw15_DiskFull_1, o_handsellaw15_DiskFull_2, o_handsellaw15_DiskFull_3, o_handsellaw15_DiskFull_4, o_handsellaw15_DiskFull_5, o_handsellaw15_DiskFull_6, VV, Ic.t, Ic.ci, ne_eq, eq_self, not_true_eq_false, bd_both, Nat.reduceEqDiff, reduceIte, Nat.reduceAdd, Nat.reduceMul, Nat.reduceLT, Nat.reduceLeDiff, Nat.reduceSub, reduceCtorEq, Int.reduceToNat, Int.reduceLT, Int.reduceLE, Int.reduceNeg, argFr_at, ek, w1]
  have m0 := Int.emod_nonneg n (show (k : Int) + 1 ≠ 0 by omega)
  have m1 := Int.emod_lt_of_pos n (show (0 : Int) < (k : Int) + 1 by omega)
  refine Place_ok _ _ (by omega) (by omega) _ _ ?_
  generalize hm : n % ((k : Int) + 1) = mI at m0 m1 ⊢
  obtain ⟨m, rfl⟩ := Int.eq_ofNat_of_zero_le m0
  simp -implicitDefEqProofs only [ic_handsellaw15_DiskFull, o_handsellaw15_DiskFull_0, o_handsellaw15_DiskFull_1, o_handsellaw15_DiskFull_2, o_handsellaw15_DiskFull_3, o_handsellaw15_DiskFull_4, o_handsellaw15_DiskFull_5, o_handsellaw15_DiskFull_6, VV, Ic.t, Ic.ci, ne_eq, eq_self, not_true_eq_false, bd_both, Nat.reduceEqDiff, reduceIte, Nat.reduceAdd, Nat.reduceMul, Nat.reduceLT, Nat.reduceLeDiff, Nat.reduceSub, reduceCtorEq, Int.reduceToNat, Int.reduceLT, Int.reduceLE, Int.reduceNeg, argFr_at]
  refine ⟨by omega, ?_⟩
  have z0 : (0 : Nat) ≤ 1048576 := by decide
  have f1 : Dk.fits ⟨k, 0, ⟨#[]⟩, ⟨#[]⟩, false⟩ (zeros m) = true := by
    refine decide_eq_true ?_
    rw [zeros_size]
    show m + 0 ≤ k
    omega
  have ok0 : Dk.OK ⟨k, 0, ⟨#[]⟩, ⟨#[]⟩, false⟩ := ⟨by show k ≤ 1048576; omega, Nat.zero_le _, Nat.le_refl _, Nat.zero_le _⟩
  refine Append_yes σ.next _ _ (by simp -implicitDefEqProofs only [at_push_is, at_push_old, put_push_is, put_push_old, push_next, put_next, at_put, at_put_ne, lt_more, lt_self, lt_left, eq_left, eq_self_add, add_eq_self', add_lit, Nat.reduceAdd, Nat.reduceLT, Nat.reduceEqDiff, ne_eq, not_false_eq_true]) _ ok0 _ f1 ?_
  have ea : (⟨#[]⟩ : ByteArray) ++ zeros m = zeros m := ByteArray.empty_append
  have ok1 : Dk.OK ⟨k, 0, ⟨#[]⟩, zeros m, false⟩ := ⟨by show k ≤ 1048576; omega, by show (zeros m).size ≤ k; rw [zeros_size]; omega, Nat.zero_le _, Nat.zero_le _⟩
  have w2 : IntKind.i64.wrap ((k : Int) - m) = ((k - m : Nat) : Int) := by rw [w64 (by omega) (by omega)]; omega
  have w3 : IntKind.i64.wrap (((k - m : Nat) : Int) + 1) = ((k - m + 1 : Nat) : Int) := by rw [w64 (by omega) (by omega)]; omega
  simp -implicitDefEqProofs only [VV, Ic.t, Ic.ci, ne_eq, eq_self, not_true_eq_false, bd_both, Nat.reduceEqDiff, reduceIte, Nat.reduceAdd, Nat.reduceMul, Nat.reduceLT, Nat.reduceLeDiff, Nat.reduceSub, reduceCtorEq, Int.reduceToNat, Int.reduceLT, Int.reduceLE, Int.reduceNeg, ea, w2, w3]
  refine ⟨by omega, ?_⟩
  have f2 : Dk.fits ⟨k, 0, ⟨#[]⟩, zeros m, false⟩ (zeros (k - m + 1)) = false := by
    refine decide_eq_false ?_
    rw [zeros_size]
    show ¬ (k - m + 1 + (zeros m).size ≤ k)
    rw [zeros_size]
    omega
  refine Append_no σ.next _ _ (by simp -implicitDefEqProofs only [at_push_is, at_push_old, put_push_is, put_push_old, push_next, put_next, at_put, at_put_ne, lt_more, lt_self, lt_left, eq_left, eq_self_add, add_eq_self', add_lit, Nat.reduceAdd, Nat.reduceLT, Nat.reduceEqDiff, ne_eq, not_false_eq_true]) _ ok1 _ f2 ?_
  simp -implicitDefEqProofs only [VV, Ic.t, Ic.ci, ne_eq, eq_self, not_true_eq_false, bd_both, Nat.reduceEqDiff, reduceIte, Nat.reduceAdd, Nat.reduceMul, Nat.reduceLT, Nat.reduceLeDiff, Nat.reduceSub, reduceCtorEq, Int.reduceToNat, Int.reduceLT, Int.reduceLE, Int.reduceNeg, w2]
  refine ⟨by omega, ?_⟩
  have f3 : Dk.fits ⟨k, 0, ⟨#[]⟩, zeros m, false⟩ (zeros (k - m)) = true := by
    refine decide_eq_true ?_
    rw [zeros_size]
    show (k - m) + (zeros m).size ≤ k
    rw [zeros_size]
    omega
  refine Append_yes σ.next _ _ (by simp -implicitDefEqProofs only [at_push_is, at_push_old, put_push_is, put_push_old, push_next, put_next, at_put, at_put_ne, lt_more, lt_self, lt_left, eq_left, eq_self_add, add_eq_self', add_lit, Nat.reduceAdd, Nat.reduceLT, Nat.reduceEqDiff, ne_eq, not_false_eq_true]) _ ok1 _ f3 ?_
  have ez : ∀ a b, zeros a ++ zeros b = zeros (a + b) := fun a b => by
    apply ByteArray.ext
    simp [zeros]
  have ez1 : zeros m ++ zeros (k - m) = zeros k := by rw [ez]; congr 1; omega
  have ok2 : Dk.OK ⟨k, 0, ⟨#[]⟩, zeros k, false⟩ := ⟨by show k ≤ 1048576; omega, by show (zeros k).size ≤ k; rw [zeros_size]; omega, Nat.zero_le _, Nat.zero_le _⟩
  simp -implicitDefEqProofs only [VV, Ic.t, Ic.ci, ne_eq, eq_self, not_true_eq_false, bd_both, Nat.reduceEqDiff, reduceIte, Nat.reduceAdd, Nat.reduceMul, Nat.reduceLT, Nat.reduceLeDiff, Nat.reduceSub, reduceCtorEq, Int.reduceToNat, Int.reduceLT, Int.reduceLE, Int.reduceNeg, ez1]
  have f4 : Dk.fits ⟨k, 0, ⟨#[]⟩, zeros k, false⟩ ⟨#[120]⟩ = false := by
    refine decide_eq_false ?_
    show ¬ (1 + (zeros k).size ≤ k)
    rw [zeros_size]
    omega
  refine Append_no σ.next _ _ (by simp -implicitDefEqProofs only [at_push_is, at_push_old, put_push_is, put_push_old, push_next, put_next, at_put, at_put_ne, lt_more, lt_self, lt_left, eq_left, eq_self_add, add_eq_self', add_lit, Nat.reduceAdd, Nat.reduceLT, Nat.reduceEqDiff, ne_eq, not_false_eq_true]) _ ok2 _ f4 ?_
  simp -implicitDefEqProofs only [VV, Ic.t, Ic.ci, ne_eq, eq_self, not_true_eq_false, bd_both, Nat.reduceEqDiff, reduceIte, Nat.reduceAdd, Nat.reduceMul, Nat.reduceLT, Nat.reduceLeDiff, Nat.reduceSub, reduceCtorEq, Int.reduceToNat, Int.reduceLT, Int.reduceLE, Int.reduceNeg]
  refine Text_ok σ.next ⟨k, 0, ⟨#[]⟩, zeros k, false⟩ _ (by simp -implicitDefEqProofs only [at_push_is, at_push_old, put_push_is, put_push_old, push_next, put_next, at_put, at_put_ne, lt_more, lt_self, lt_left, eq_left, eq_self_add, add_eq_self', add_lit, Nat.reduceAdd, Nat.reduceLT, Nat.reduceEqDiff, ne_eq, not_false_eq_true]) _ ?_
  simp -implicitDefEqProofs only [ic_handsellaw15_DiskFull, o_handsellaw15_DiskFull_0, o_handsellaw15_DiskFull_1, o_handsellaw15_DiskFull_2, o_handsellaw15_DiskFull_3, o_handsellaw15_DiskFull_4, o_handsellaw15_DiskFull_5, o_handsellaw15_DiskFull_6, VV, Ic.t, Ic.ci, ne_eq, eq_self, not_true_eq_false, bd_both, Nat.reduceEqDiff, reduceIte, Nat.reduceAdd, Nat.reduceMul, Nat.reduceLT, Nat.reduceLeDiff, Nat.reduceSub, reduceCtorEq, Int.reduceToNat, Int.reduceLT, Int.reduceLE, Int.reduceNeg, zeros_size]
  refine ⟨by omega, ?_⟩
  have f5 : Dk.room ⟨k, 0, ⟨#[]⟩, zeros k, false⟩ (zeros k) = true := by
    refine decide_eq_true ?_
    rw [zeros_size]
    exact Nat.le_refl _
  refine Replace_yes σ.next _ _ (by simp -implicitDefEqProofs only [at_push_is, at_push_old, put_push_is, put_push_old, push_next, put_next, at_put, at_put_ne, lt_more, lt_self, lt_left, eq_left, eq_self_add, add_eq_self', add_lit, Nat.reduceAdd, Nat.reduceLT, Nat.reduceEqDiff, ne_eq, not_false_eq_true]) _ ok2 _ f5 ?_
  have w4 : IntKind.i64.wrap ((k : Int) + 1) = ((k + 1 : Nat) : Int) := by rw [w64 (by omega) (by omega)]; omega
  have ok3 : Dk.OK ⟨k, k, ⟨#[]⟩, zeros k, true⟩ := ⟨by show k ≤ 1048576; omega, by show (zeros k).size ≤ k; rw [zeros_size]; omega, by show k ≤ (zeros k).size; rw [zeros_size]; omega, Nat.zero_le _⟩
  simp -implicitDefEqProofs only [VV, Ic.t, Ic.ci, ne_eq, eq_self, not_true_eq_false, bd_both, Nat.reduceEqDiff, reduceIte, Nat.reduceAdd, Nat.reduceMul, Nat.reduceLT, Nat.reduceLeDiff, Nat.reduceSub, reduceCtorEq, Int.reduceToNat, Int.reduceLT, Int.reduceLE, Int.reduceNeg, w4, zeros_size]
  refine ⟨by omega, ?_⟩
  have f6 : Dk.room ⟨k, k, ⟨#[]⟩, zeros k, true⟩ (zeros (k + 1)) = false := by
    refine decide_eq_false ?_
    rw [zeros_size]
    show ¬ (k + 1 ≤ k)
    omega
  refine Replace_no σ.next _ _ (by simp -implicitDefEqProofs only [at_push_is, at_push_old, put_push_is, put_push_old, push_next, put_next, at_put, at_put_ne, lt_more, lt_self, lt_left, eq_left, eq_self_add, add_eq_self', add_lit, Nat.reduceAdd, Nat.reduceLT, Nat.reduceEqDiff, ne_eq, not_false_eq_true]) _ ok3 _ f6 ?_
  simp -implicitDefEqProofs only [VV, Ic.t, Ic.ci, ne_eq, eq_self, not_true_eq_false, bd_both, Nat.reduceEqDiff, reduceIte, Nat.reduceAdd, Nat.reduceMul, Nat.reduceLT, Nat.reduceLeDiff, Nat.reduceSub, reduceCtorEq, Int.reduceToNat, Int.reduceLT, Int.reduceLE, Int.reduceNeg]
  refine Text_ok σ.next ⟨k, k, ⟨#[]⟩, zeros k, true⟩ _ (by simp -implicitDefEqProofs only [at_push_is, at_push_old, put_push_is, put_push_old, push_next, put_next, at_put, at_put_ne, lt_more, lt_self, lt_left, eq_left, eq_self_add, add_eq_self', add_lit, Nat.reduceAdd, Nat.reduceLT, Nat.reduceEqDiff, ne_eq, not_false_eq_true]) _ ?_
  simp -implicitDefEqProofs only [VV, Ic.t, Ic.ci, ne_eq, eq_self, not_true_eq_false, bd_both, Nat.reduceEqDiff, reduceIte, Nat.reduceAdd, Nat.reduceMul, Nat.reduceLT, Nat.reduceLeDiff, Nat.reduceSub, reduceCtorEq, Int.reduceToNat, Int.reduceLT, Int.reduceLE, Int.reduceNeg, zeros_size]
  refine New_ok _ _ _ ?_
  simp -implicitDefEqProofs only [VV, Ic.t, Ic.ci, ne_eq, eq_self, not_true_eq_false, bd_both, Nat.reduceEqDiff, reduceIte, Nat.reduceAdd, Nat.reduceMul, Nat.reduceLT, Nat.reduceLeDiff, Nat.reduceSub, reduceCtorEq, Int.reduceToNat, Int.reduceLT, Int.reduceLE, Int.reduceNeg]
  refine New_ok _ _ _ ?_
  simp -implicitDefEqProofs only [VV, Ic.t, Ic.ci, ne_eq, eq_self, not_true_eq_false, bd_both, Nat.reduceEqDiff, reduceIte, Nat.reduceAdd, Nat.reduceMul, Nat.reduceLT, Nat.reduceLeDiff, Nat.reduceSub, reduceCtorEq, Int.reduceToNat, Int.reduceLT, Int.reduceLE, Int.reduceNeg]
  refine Append_no _ (Dk.new (-5)) _ (by simp -implicitDefEqProofs only [at_push_is, at_push_old, put_push_is, put_push_old, push_next, put_next, at_put, at_put_ne, lt_more, lt_self, lt_left, eq_left, eq_self_add, add_eq_self', add_lit, Nat.reduceAdd, Nat.reduceLT, Nat.reduceEqDiff, ne_eq, not_false_eq_true]) _ (.new _) _ rfl ?_
  simp -implicitDefEqProofs only [VV, Ic.t, Ic.ci, ne_eq, eq_self, not_true_eq_false, bd_both, Nat.reduceEqDiff, reduceIte, Nat.reduceAdd, Nat.reduceMul, Nat.reduceLT, Nat.reduceLeDiff, Nat.reduceSub, reduceCtorEq, Int.reduceToNat, Int.reduceLT, Int.reduceLE, Int.reduceNeg]
  refine New_ok _ _ _ ?_
  simp -implicitDefEqProofs only [VV, Ic.t, Ic.ci, ne_eq, eq_self, not_true_eq_false, bd_both, Nat.reduceEqDiff, reduceIte, Nat.reduceAdd, Nat.reduceMul, Nat.reduceLT, Nat.reduceLeDiff, Nat.reduceSub, reduceCtorEq, Int.reduceToNat, Int.reduceLT, Int.reduceLE, Int.reduceNeg]
  refine Append_yes _ (Dk.new (-5)) _ (by simp -implicitDefEqProofs only [at_push_is, at_push_old, put_push_is, put_push_old, push_next, put_next, at_put, at_put_ne, lt_more, lt_self, lt_left, eq_left, eq_self_add, add_eq_self', add_lit, Nat.reduceAdd, Nat.reduceLT, Nat.reduceEqDiff, ne_eq, not_false_eq_true]) _ (.new _) _ rfl ?_
  simp -implicitDefEqProofs only [VV, Ic.t, Ic.ci, ne_eq, eq_self, not_true_eq_false, bd_both, Nat.reduceEqDiff, reduceIte, Nat.reduceAdd, Nat.reduceMul, Nat.reduceLT, Nat.reduceLeDiff, Nat.reduceSub, reduceCtorEq, Int.reduceToNat, Int.reduceLT, Int.reduceLE, Int.reduceNeg]
  refine awake_ok _ _ fun σ' hle => ?_
  simp -implicitDefEqProofs only [VV, Ic.t, Ic.ci, ne_eq, eq_self, not_true_eq_false, bd_both, Nat.reduceEqDiff, reduceIte, Nat.reduceAdd, Nat.reduceMul, Nat.reduceLT, Nat.reduceLeDiff, Nat.reduceSub, reduceCtorEq, Int.reduceToNat, Int.reduceLT, Int.reduceLE, Int.reduceNeg]
  refine h _ (.trans ?_ hle)
  exact .trans (.trans (.trans (.trans (.trans (.trans (.trans (.trans (σ.le_push _) (Heap.le_push _ _)) (Heap.le_push _ _)) (Heap.le_push _ _)) (Heap.le_push _ _)) (Heap.le_push _ _)) (Heap.le_push _ _)) (Heap.le_push _ _)) (Heap.le_push _ _)
end Go.Proofs.Ytoaohoilkfbdgaa
