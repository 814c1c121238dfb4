/- DiskLasts's walk. -/
import Derived.Test.YtoaohoilkfbdgaaDisk5
set_option linter.unusedSimpArgs false
set_option linter.unusedVariables false
namespace Go.Proofs.Ytoaohoilkfbdgaa
open Go Go.RowKit Sh Ic

structure LInv1 (σ0 : Heap) (v0 v1 : Value) (keep : Int) (g i : Nat) (fr : Fr) (σ : Heap) : Prop where
  le : σ0.le σ
  s : ∃ s : ByteArray, s.size ≤ 100 * i ∧ fr 8 = .string s ∧ σ.at g = .cells T_disk_Disk (Dk.cells ⟨10000, 0, ⟨#[]⟩, s, false⟩) true
  f0 : fr 0 = v0
  f1 : fr 1 = v1
  f2 : fr 2 = .int .i64 keep
  f7 : fr 7 = .pointer (some ⟨g, 0, none⟩)
  f9 : fr 9 = .string ⟨#[]⟩
  f10 : fr 10 = .int .i64 i
  hi : i ≤ 20
structure LInv2 (σ0 : Heap) (v1 : Value) (keep : Int) (s : ByteArray) (g i : Nat) (fr : Fr) (σ : Heap) : Prop where
  le : σ0.le σ
  t : ∃ t : ByteArray, t.size ≤ 100 * i ∧ fr 9 = .string t ∧ σ.at g = .cells T_disk_Disk (Dk.cells ⟨10000, s.size, s, s ++ t, false⟩) true
  f1 : fr 1 = v1
  f2 : fr 2 = .int .i64 keep
  f7 : fr 7 = .pointer (some ⟨g, 0, none⟩)
  f8 : fr 8 = .string s
  f11 : fr 11 = .int .i64 i
  hi : i ≤ 20
theorem relSl_lt {α : Type} [Arg α] {σ : Heap} {v : Value} {l : List α} (h : relSl σ [v] l) {i : Nat} (hi : i < l.length) {g off n s : Nat} (hv : v = .slice (some ⟨g, off, none⟩) n s) : g < σ.next := by
  obtain ⟨g', off', vs, e, _, _, hlt⟩ := relSl_at h hi
  rw [hv] at e
  injection e with e
  injection e with e
  injection e with e
  rw [e]; exact hlt
theorem str_rel {σ : Heap} {vs : List Value} {s : ByteArray} (h : Arg.rel σ vs s) : vs = [.string s] := h
theorem row_load {σ : Heap} {g o : Nat} {v : Value} (h : σ.row g o 1 = some [v]) : σ.load g o = some v := by
  have := (Heap.row_load h).2 0 (by omega)
  simpa using this

theorem DiskLasts_ok (a b : List ByteArray) (keep : Int) (v0 v1 v2 : Value) (σ : Heap) (h0 : ArgV σ v0 a) (h1 : ArgV σ v1 b) (h2 : ArgV σ v2 keep) (ka : Arg.ok a) (kb : Arg.ok b) (_ : Arg.ok keep) :
    CallOK Try.prog F_handsellaw15_DiskLasts [v0, v1, v2] σ (fun v _ => v = .bool true) := by
  obtain rfl := argV_int.1 h2
  have ha := argV_sl.1 h0
  have hb := argV_sl.1 h1
  obtain ⟨aa, asz, hva⟩ := relSl_len ha
  obtain ⟨ba, bsz, hvb⟩ := relSl_len hb
  refine callOK_fn c_handsellaw15_DiskLasts (by simp) ?_
  by_cases hla : a.length ≤ 20
  rotate_left
  · have c1 : (20 : Int) < (a.length : Int) := by omega
    simp -implicitDefEqProofs only [ic_handsellaw15_DiskLasts, o_handsellaw15_DiskLasts_0, o_handsellaw15_DiskLasts_1, o_handsellaw15_DiskLasts_10, o_handsellaw15_DiskLasts_11, o_handsellaw15_DiskLasts_12, o_handsellaw15_DiskLasts_13, o_handsellaw15_DiskLasts_14, o_handsellaw15_DiskLasts_15, o_handsellaw15_DiskLasts_16, o_handsellaw15_DiskLasts_17, o_handsellaw15_DiskLasts_18, o_handsellaw15_DiskLasts_19, o_handsellaw15_DiskLasts_2, o_handsellaw15_DiskLasts_20, o_handsellaw15_DiskLasts_21, o_handsellaw15_DiskLasts_22, o_handsellaw15_DiskLasts_23, o_handsellaw15_DiskLasts_24, o_handsellaw15_DiskLasts_25, o_handsellaw15_DiskLasts_26, o_handsellaw15_DiskLasts_27, o_handsellaw15_DiskLasts_28, o_handsellaw15_DiskLasts_29, o_handsellaw15_DiskLasts_3, o_handsellaw15_DiskLasts_30, o_handsellaw15_DiskLasts_4, o_handsellaw15_DiskLasts_5, o_handsellaw15_DiskLasts_6, o_handsellaw15_DiskLasts_7, o_handsellaw15_DiskLasts_8, o_handsellaw15_DiskLasts_9, VV, Ic.t, Ic.ci, ne_eq, eq_self, not_true_eq_false, bd_both, Nat.reduceEqDiff, reduceIte, Nat.reduceAdd, Nat.reduceMul, Nat.reduceLT, Nat.reduceLeDiff, Nat.reduceSub, reduceCtorEq, Int.reduceToNat, Int.reduceLT, Int.reduceLE, Int.reduceNeg, argFr_at, hva, c1]
    refine awake_ok _ _ fun σ' _ => ?_
    simp -implicitDefEqProofs only [VV, Ic.t, Ic.ci, ne_eq, eq_self, not_true_eq_false, bd_both, Nat.reduceEqDiff, reduceIte, Nat.reduceAdd, Nat.reduceMul, Nat.reduceLT, Nat.reduceLeDiff, Nat.reduceSub, reduceCtorEq, Int.reduceToNat, Int.reduceLT, Int.reduceLE, Int.reduceNeg]
  by_cases hlb : b.length ≤ 20
  rotate_left
  · have c1 : ¬ ((20 : Int) < (a.length : Int)) := by omega
    have c2 : (20 : Int) < (b.length : Int) := by omega
    simp -implicitDefEqProofs only [ic_handsellaw15_DiskLasts, o_handsellaw15_DiskLasts_0, o_handsellaw15_DiskLasts_1, o_handsellaw15_DiskLasts_10, o_handsellaw15_DiskLasts_11, o_handsellaw15_DiskLasts_12, o_handsellaw15_DiskLasts_13, o_handsellaw15_DiskLasts_14, o_handsellaw15_DiskLasts_15, o_handsellaw15_DiskLasts_16, o_handsellaw15_DiskLasts_17, o_handsellaw15_DiskLasts_18, o_handsellaw15_DiskLasts_19, o_handsellaw15_DiskLasts_2, o_handsellaw15_DiskLasts_20, o_handsellaw15_DiskLasts_21, o_handsellaw15_DiskLasts_22, o_handsellaw15_DiskLasts_23, o_handsellaw15_DiskLasts_24, o_handsellaw15_DiskLasts_25, o_handsellaw15_DiskLasts_26, o_handsellaw15_DiskLasts_27, o_handsellaw15_DiskLasts_28, o_handsellaw15_DiskLasts_29, o_handsellaw15_DiskLasts_3, o_handsellaw15_DiskLasts_30, o_handsellaw15_DiskLasts_4, o_handsellaw15_DiskLasts_5, o_handsellaw15_DiskLasts_6, o_handsellaw15_DiskLasts_7, o_handsellaw15_DiskLasts_8, o_handsellaw15_DiskLasts_9, VV, Ic.t, Ic.ci, ne_eq, eq_self, not_true_eq_false, bd_both, Nat.reduceEqDiff, reduceIte, Nat.reduceAdd, Nat.reduceMul, Nat.reduceLT, Nat.reduceLeDiff, Nat.reduceSub, reduceCtorEq, Int.reduceToNat, Int.reduceLT, Int.reduceLE, Int.reduceNeg, argFr_at, hva, hvb, c1, c2]
    refine awake_ok _ _ fun σ' _ => ?_
    simp -implicitDefEqProofs only [VV, Ic.t, Ic.ci, ne_eq, eq_self, not_true_eq_false, bd_both, Nat.reduceEqDiff, reduceIte, Nat.reduceAdd, Nat.reduceMul, Nat.reduceLT, Nat.reduceLeDiff, Nat.reduceSub, reduceCtorEq, Int.reduceToNat, Int.reduceLT, Int.reduceLE, Int.reduceNeg]
  have c1 : ¬ ((20 : Int) < (a.length : Int)) := by omega
  have c2 : ¬ ((20 : Int) < (b.length : Int)) := by omega
  simp -implicitDefEqProofs only [ic_handsellaw15_DiskLasts, o_handsellaw15_DiskLasts_0, o_handsellaw15_DiskLasts_1, o_handsellaw15_DiskLasts_10, o_handsellaw15_DiskLasts_11, o_handsellaw15_DiskLasts_12, o_handsellaw15_DiskLasts_13, o_handsellaw15_DiskLasts_14, o_handsellaw15_DiskLasts_15, o_handsellaw15_DiskLasts_16, o_handsellaw15_DiskLasts_17, o_handsellaw15_DiskLasts_18, o_handsellaw15_DiskLasts_19, o_handsellaw15_DiskLasts_2, o_handsellaw15_DiskLasts_20, o_handsellaw15_DiskLasts_21, o_handsellaw15_DiskLasts_22, o_handsellaw15_DiskLasts_23, o_handsellaw15_DiskLasts_24, o_handsellaw15_DiskLasts_25, o_handsellaw15_DiskLasts_26, o_handsellaw15_DiskLasts_27, o_handsellaw15_DiskLasts_28, o_handsellaw15_DiskLasts_29, o_handsellaw15_DiskLasts_3, o_handsellaw15_DiskLasts_30, o_handsellaw15_DiskLasts_4, o_handsellaw15_DiskLasts_5, o_handsellaw15_DiskLasts_6, o_handsellaw15_DiskLasts_7, o_handsellaw15_DiskLasts_8, o_handsellaw15_DiskLasts_9, VV, Ic.t, Ic.ci, ne_eq, eq_self, not_true_eq_false, bd_both, Nat.reduceEqDiff, reduceIte, Nat.reduceAdd, Nat.reduceMul, Nat.reduceLT, Nat.reduceLeDiff, Nat.reduceSub, reduceCtorEq, Int.reduceToNat, Int.reduceLT, Int.reduceLE, Int.reduceNeg, argFr_at, hva, hvb, c1, c2]
  refine New_ok _ _ _ ?_
  have e0 : Dk.new 10000 = ⟨10000, 0, ⟨#[]⟩, ⟨#[]⟩, false⟩ := rfl
  simp -implicitDefEqProofs only [ic_handsellaw15_DiskLasts, o_handsellaw15_DiskLasts_0, o_handsellaw15_DiskLasts_1, o_handsellaw15_DiskLasts_10, o_handsellaw15_DiskLasts_11, o_handsellaw15_DiskLasts_12, o_handsellaw15_DiskLasts_13, o_handsellaw15_DiskLasts_14, o_handsellaw15_DiskLasts_15, o_handsellaw15_DiskLasts_16, o_handsellaw15_DiskLasts_17, o_handsellaw15_DiskLasts_18, o_handsellaw15_DiskLasts_19, o_handsellaw15_DiskLasts_2, o_handsellaw15_DiskLasts_20, o_handsellaw15_DiskLasts_21, o_handsellaw15_DiskLasts_22, o_handsellaw15_DiskLasts_23, o_handsellaw15_DiskLasts_24, o_handsellaw15_DiskLasts_25, o_handsellaw15_DiskLasts_26, o_handsellaw15_DiskLasts_27, o_handsellaw15_DiskLasts_28, o_handsellaw15_DiskLasts_29, o_handsellaw15_DiskLasts_3, o_handsellaw15_DiskLasts_30, o_handsellaw15_DiskLasts_4, o_handsellaw15_DiskLasts_5, o_handsellaw15_DiskLasts_6, o_handsellaw15_DiskLasts_7, o_handsellaw15_DiskLasts_8, o_handsellaw15_DiskLasts_9, VV, Ic.t, Ic.ci, ne_eq, eq_self, not_true_eq_false, bd_both, Nat.reduceEqDiff, reduceIte, Nat.reduceAdd, Nat.reduceMul, Nat.reduceLT, Nat.reduceLeDiff, Nat.reduceSub, reduceCtorEq, Int.reduceToNat, Int.reduceLT, Int.reduceLE, Int.reduceNeg, argFr_at, hva, hvb, e0, evC_loop]
  rw [← hva, ← hvb]
  refine swpI_loop (LInv1 σ v0 v1 keep σ.next) (fun i => 20 - i) 0 ⟨σ.le_push _, ⟨⟨#[]⟩, Nat.zero_le _, rfl, (by simp -implicitDefEqProofs only [at_push_is, at_push_old, put_push_is, put_push_old, push_next, put_next, at_put, at_put_ne, lt_more, lt_self, lt_left, eq_left, eq_self_add, add_eq_self', add_lit, Nat.reduceAdd, Nat.reduceLT, Nat.reduceEqDiff, ne_eq, not_false_eq_true])⟩, rfl, rfl, rfl, rfl, rfl, rfl, by omega⟩ ?_
  rintro i fr σ1 ⟨hle, ⟨s, hs, f8, hg⟩, f0, f1, f2, f7, f9, f10, hi⟩
  have ha1 := relSl_mono hle ha
  have w1 : IntKind.i64.wrap ((i : Int) + 1) = ((i + 1 : Nat) : Int) := by rw [w64 (by omega) (by omega)]; omega
  have okd : Dk.OK ⟨10000, 0, ⟨#[]⟩, s, false⟩ := ⟨by simp only; omega, by simp only; omega, Nat.zero_le _, Nat.zero_le _⟩
  by_cases hlt : i < a.length
  · have d1 : (i : Int) < (a.length : Int) := by omega
    have d0 : (0 : Int) ≤ (i : Int) := by omega
    obtain ⟨gs, off, ws, hv, hrow, hrel, hgs⟩ := relSl_at ha1 hlt
    rw [str_rel hrel] at hrow
    have hsz : Arg.sz ByteArray = 1 := rfl
    rw [hsz] at hv hrow
    have hld := row_load hrow
    rw [load_at, Nat.mul_one] at hld
    have hbig : a[i].size ≤ 140737488351232 := ka.2 _ (List.getElem_mem hlt)
    generalize a[i] = x at hld hbig
    by_cases hx : x.size ≤ 100
    rotate_left
    · have x1 : (100 : Int) < (x.size : Int) := by omega
      simp -implicitDefEqProofs only [ic_handsellaw15_DiskLasts, o_handsellaw15_DiskLasts_0, o_handsellaw15_DiskLasts_1, o_handsellaw15_DiskLasts_10, o_handsellaw15_DiskLasts_11, o_handsellaw15_DiskLasts_12, o_handsellaw15_DiskLasts_13, o_handsellaw15_DiskLasts_14, o_handsellaw15_DiskLasts_15, o_handsellaw15_DiskLasts_16, o_handsellaw15_DiskLasts_17, o_handsellaw15_DiskLasts_18, o_handsellaw15_DiskLasts_19, o_handsellaw15_DiskLasts_2, o_handsellaw15_DiskLasts_20, o_handsellaw15_DiskLasts_21, o_handsellaw15_DiskLasts_22, o_handsellaw15_DiskLasts_23, o_handsellaw15_DiskLasts_24, o_handsellaw15_DiskLasts_25, o_handsellaw15_DiskLasts_26, o_handsellaw15_DiskLasts_27, o_handsellaw15_DiskLasts_28, o_handsellaw15_DiskLasts_29, o_handsellaw15_DiskLasts_3, o_handsellaw15_DiskLasts_30, o_handsellaw15_DiskLasts_4, o_handsellaw15_DiskLasts_5, o_handsellaw15_DiskLasts_6, o_handsellaw15_DiskLasts_7, o_handsellaw15_DiskLasts_8, o_handsellaw15_DiskLasts_9, l_handsellaw15_DiskLasts_1, VV, Ic.t, Ic.ci, ne_eq, eq_self, not_true_eq_false, bd_both, Nat.reduceEqDiff, reduceIte, Nat.reduceAdd, Nat.reduceMul, Nat.reduceLT, Nat.reduceLeDiff, Nat.reduceSub, reduceCtorEq, Int.reduceToNat, Int.reduceLT, Int.reduceLE, Int.reduceNeg, f0, f10, hv, d0, d1, hld, x1]
      refine awake_ok _ _ fun σ' _ => ?_
      simp -implicitDefEqProofs only [VV, Ic.t, Ic.ci, ne_eq, eq_self, not_true_eq_false, bd_both, Nat.reduceEqDiff, reduceIte, Nat.reduceAdd, Nat.reduceMul, Nat.reduceLT, Nat.reduceLeDiff, Nat.reduceSub, reduceCtorEq, Int.reduceToNat, Int.reduceLT, Int.reduceLE, Int.reduceNeg]
    · have x1 : ¬ ((100 : Int) < (x.size : Int)) := by omega
      simp -implicitDefEqProofs only [ic_handsellaw15_DiskLasts, o_handsellaw15_DiskLasts_0, o_handsellaw15_DiskLasts_1, o_handsellaw15_DiskLasts_10, o_handsellaw15_DiskLasts_11, o_handsellaw15_DiskLasts_12, o_handsellaw15_DiskLasts_13, o_handsellaw15_DiskLasts_14, o_handsellaw15_DiskLasts_15, o_handsellaw15_DiskLasts_16, o_handsellaw15_DiskLasts_17, o_handsellaw15_DiskLasts_18, o_handsellaw15_DiskLasts_19, o_handsellaw15_DiskLasts_2, o_handsellaw15_DiskLasts_20, o_handsellaw15_DiskLasts_21, o_handsellaw15_DiskLasts_22, o_handsellaw15_DiskLasts_23, o_handsellaw15_DiskLasts_24, o_handsellaw15_DiskLasts_25, o_handsellaw15_DiskLasts_26, o_handsellaw15_DiskLasts_27, o_handsellaw15_DiskLasts_28, o_handsellaw15_DiskLasts_29, o_handsellaw15_DiskLasts_3, o_handsellaw15_DiskLasts_30, o_handsellaw15_DiskLasts_4, o_handsellaw15_DiskLasts_5, o_handsellaw15_DiskLasts_6, o_handsellaw15_DiskLasts_7, o_handsellaw15_DiskLasts_8, o_handsellaw15_DiskLasts_9, l_handsellaw15_DiskLasts_1, VV, Ic.t, Ic.ci, ne_eq, eq_self, not_true_eq_false, bd_both, Nat.reduceEqDiff, reduceIte, Nat.reduceAdd, Nat.reduceMul, Nat.reduceLT, Nat.reduceLeDiff, Nat.reduceSub, reduceCtorEq, Int.reduceToNat, Int.reduceLT, Int.reduceLE, Int.reduceNeg, f0, f7, f10, hv, d0, d1, hld, x1]
      refine Append_yes σ.next ⟨10000, 0, ⟨#[]⟩, s, false⟩ σ1 hg _ okd x (decide_eq_true (by show x.size + s.size ≤ 10000; omega)) ?_
      have hne : gs ≠ σ.next := Nat.ne_of_lt (relSl_lt ha hlt hv)
      have hadd : ¬ ((9223372036854775807 : Int) < ((s.size + x.size : Nat) : Int)) := by omega
      simp -implicitDefEqProofs only [VV, Ic.t, Ic.ci, ne_eq, eq_self, not_true_eq_false, bd_both, Nat.reduceEqDiff, reduceIte, Nat.reduceAdd, Nat.reduceMul, Nat.reduceLT, Nat.reduceLeDiff, Nat.reduceSub, reduceCtorEq, Int.reduceToNat, Int.reduceLT, Int.reduceLE, Int.reduceNeg, f0, f7, f8, f10, hv, d0, d1, at_put_ne hne, hld, w1, hadd]
      refine ⟨i + 1, by omega, Heap.le_put hle (Nat.le_refl _) _ _, ⟨s ++ x, by rw [ByteArray.size_append]; omega, rfl, ?_⟩, ?_, ?_, ?_, ?_, ?_, rfl, by omega⟩
      · exact at_put (loc_lt hg)
      all_goals (simp -implicitDefEqProofs only [VV, Ic.t, Ic.ci, ne_eq, eq_self, not_true_eq_false, bd_both, Nat.reduceEqDiff, reduceIte, Nat.reduceAdd, Nat.reduceMul, Nat.reduceLT, Nat.reduceLeDiff, Nat.reduceSub, reduceCtorEq, Int.reduceToNat, Int.reduceLT, Int.reduceLE, Int.reduceNeg, f0, f1, f2, f7, f9, f10, hv])
  · have d1 : ¬ ((i : Int) < (a.length : Int)) := by omega
    obtain ⟨aa, asz, hva⟩ := relSl_len ha
    simp -implicitDefEqProofs only [ic_handsellaw15_DiskLasts, o_handsellaw15_DiskLasts_0, o_handsellaw15_DiskLasts_1, o_handsellaw15_DiskLasts_10, o_handsellaw15_DiskLasts_11, o_handsellaw15_DiskLasts_12, o_handsellaw15_DiskLasts_13, o_handsellaw15_DiskLasts_14, o_handsellaw15_DiskLasts_15, o_handsellaw15_DiskLasts_16, o_handsellaw15_DiskLasts_17, o_handsellaw15_DiskLasts_18, o_handsellaw15_DiskLasts_19, o_handsellaw15_DiskLasts_2, o_handsellaw15_DiskLasts_20, o_handsellaw15_DiskLasts_21, o_handsellaw15_DiskLasts_22, o_handsellaw15_DiskLasts_23, o_handsellaw15_DiskLasts_24, o_handsellaw15_DiskLasts_25, o_handsellaw15_DiskLasts_26, o_handsellaw15_DiskLasts_27, o_handsellaw15_DiskLasts_28, o_handsellaw15_DiskLasts_29, o_handsellaw15_DiskLasts_3, o_handsellaw15_DiskLasts_30, o_handsellaw15_DiskLasts_4, o_handsellaw15_DiskLasts_5, o_handsellaw15_DiskLasts_6, o_handsellaw15_DiskLasts_7, o_handsellaw15_DiskLasts_8, o_handsellaw15_DiskLasts_9, l_handsellaw15_DiskLasts_1, VV, Ic.t, Ic.ci, ne_eq, eq_self, not_true_eq_false, bd_both, Nat.reduceEqDiff, reduceIte, Nat.reduceAdd, Nat.reduceMul, Nat.reduceLT, Nat.reduceLeDiff, Nat.reduceSub, reduceCtorEq, Int.reduceToNat, Int.reduceLT, Int.reduceLE, Int.reduceNeg, f0, f1, f7, f10, hva, d1, evC_loop]
    refine Sync_ok σ.next ⟨10000, 0, ⟨#[]⟩, s, false⟩ σ1 hg _ ?_
    simp -implicitDefEqProofs only [VV, Ic.t, Ic.ci, ne_eq, eq_self, not_true_eq_false, bd_both, Nat.reduceEqDiff, reduceIte, Nat.reduceAdd, Nat.reduceMul, Nat.reduceLT, Nat.reduceLeDiff, Nat.reduceSub, reduceCtorEq, Int.reduceToNat, Int.reduceLT, Int.reduceLE, Int.reduceNeg, f0, f1, f2, f7, f8, f9, f10, hva, d1, evC_loop, Dk.settle]
    have okd := okd.settle
    refine swpI_loop (LInv2 σ v1 keep s σ.next) (fun i => 20 - i) 0 ⟨Heap.le_put hle (Nat.le_refl _) _ _, ⟨⟨#[]⟩, Nat.zero_le _, ?_, ?_⟩, ?_, ?_, ?_, ?_, ?_, by omega⟩ ?_
    · simp -implicitDefEqProofs only [VV, Ic.t, Ic.ci, ne_eq, eq_self, not_true_eq_false, bd_both, Nat.reduceEqDiff, reduceIte, Nat.reduceAdd, Nat.reduceMul, Nat.reduceLT, Nat.reduceLeDiff, Nat.reduceSub, reduceCtorEq, Int.reduceToNat, Int.reduceLT, Int.reduceLE, Int.reduceNeg, f9]
    · rw [at_put (loc_lt hg), app_nil]
    · simp -implicitDefEqProofs only [VV, Ic.t, Ic.ci, ne_eq, eq_self, not_true_eq_false, bd_both, Nat.reduceEqDiff, reduceIte, Nat.reduceAdd, Nat.reduceMul, Nat.reduceLT, Nat.reduceLeDiff, Nat.reduceSub, reduceCtorEq, Int.reduceToNat, Int.reduceLT, Int.reduceLE, Int.reduceNeg, f1]
    · simp -implicitDefEqProofs only [VV, Ic.t, Ic.ci, ne_eq, eq_self, not_true_eq_false, bd_both, Nat.reduceEqDiff, reduceIte, Nat.reduceAdd, Nat.reduceMul, Nat.reduceLT, Nat.reduceLeDiff, Nat.reduceSub, reduceCtorEq, Int.reduceToNat, Int.reduceLT, Int.reduceLE, Int.reduceNeg, f2]
    · simp -implicitDefEqProofs only [VV, Ic.t, Ic.ci, ne_eq, eq_self, not_true_eq_false, bd_both, Nat.reduceEqDiff, reduceIte, Nat.reduceAdd, Nat.reduceMul, Nat.reduceLT, Nat.reduceLeDiff, Nat.reduceSub, reduceCtorEq, Int.reduceToNat, Int.reduceLT, Int.reduceLE, Int.reduceNeg, f7]
    · simp -implicitDefEqProofs only [VV, Ic.t, Ic.ci, ne_eq, eq_self, not_true_eq_false, bd_both, Nat.reduceEqDiff, reduceIte, Nat.reduceAdd, Nat.reduceMul, Nat.reduceLT, Nat.reduceLeDiff, Nat.reduceSub, reduceCtorEq, Int.reduceToNat, Int.reduceLT, Int.reduceLE, Int.reduceNeg, f8]
    · rfl
    rintro j fr σ2 ⟨hle2, ⟨t, ht, f9, hg⟩, f1, f2, f7, f8, f11, hj⟩
    clear okd
    have hb1 := relSl_mono hle2 hb
    have hsj : s.size ≤ 2000 := by omega
    have w1 : IntKind.i64.wrap ((j : Int) + 1) = ((j + 1 : Nat) : Int) := by rw [w64 (by omega) (by omega)]; omega
    have sst := ByteArray.size_append (a := s) (b := t)
    have okd : Dk.OK ⟨10000, s.size, s, s ++ t, false⟩ := ⟨by simp only; omega, by simp only; omega, by simp only; omega, by simp only; omega⟩
    by_cases hlt : j < b.length
    · have d1 : (j : Int) < (b.length : Int) := by omega
      have d0 : (0 : Int) ≤ (j : Int) := by omega
      obtain ⟨gs, off, ws, hv, hrow, hrel, hgs⟩ := relSl_at hb1 hlt
      rw [str_rel hrel] at hrow
      have hsz : Arg.sz ByteArray = 1 := rfl
      rw [hsz] at hv hrow
      have hld := row_load hrow
      rw [load_at, Nat.mul_one] at hld
      have hbig : b[j].size ≤ 140737488351232 := kb.2 _ (List.getElem_mem hlt)
      generalize b[j] = x at hld hbig
      by_cases hx : x.size ≤ 100
      rotate_left
      · have x1 : (100 : Int) < (x.size : Int) := by omega
        simp -implicitDefEqProofs only [ic_handsellaw15_DiskLasts, o_handsellaw15_DiskLasts_0, o_handsellaw15_DiskLasts_1, o_handsellaw15_DiskLasts_10, o_handsellaw15_DiskLasts_11, o_handsellaw15_DiskLasts_12, o_handsellaw15_DiskLasts_13, o_handsellaw15_DiskLasts_14, o_handsellaw15_DiskLasts_15, o_handsellaw15_DiskLasts_16, o_handsellaw15_DiskLasts_17, o_handsellaw15_DiskLasts_18, o_handsellaw15_DiskLasts_19, o_handsellaw15_DiskLasts_2, o_handsellaw15_DiskLasts_20, o_handsellaw15_DiskLasts_21, o_handsellaw15_DiskLasts_22, o_handsellaw15_DiskLasts_23, o_handsellaw15_DiskLasts_24, o_handsellaw15_DiskLasts_25, o_handsellaw15_DiskLasts_26, o_handsellaw15_DiskLasts_27, o_handsellaw15_DiskLasts_28, o_handsellaw15_DiskLasts_29, o_handsellaw15_DiskLasts_3, o_handsellaw15_DiskLasts_30, o_handsellaw15_DiskLasts_4, o_handsellaw15_DiskLasts_5, o_handsellaw15_DiskLasts_6, o_handsellaw15_DiskLasts_7, o_handsellaw15_DiskLasts_8, o_handsellaw15_DiskLasts_9, l_handsellaw15_DiskLasts_2, VV, Ic.t, Ic.ci, ne_eq, eq_self, not_true_eq_false, bd_both, Nat.reduceEqDiff, reduceIte, Nat.reduceAdd, Nat.reduceMul, Nat.reduceLT, Nat.reduceLeDiff, Nat.reduceSub, reduceCtorEq, Int.reduceToNat, Int.reduceLT, Int.reduceLE, Int.reduceNeg, f1, f11, hv, d0, d1, hld, x1]
        refine awake_ok _ _ fun σ' _ => ?_
        simp -implicitDefEqProofs only [VV, Ic.t, Ic.ci, ne_eq, eq_self, not_true_eq_false, bd_both, Nat.reduceEqDiff, reduceIte, Nat.reduceAdd, Nat.reduceMul, Nat.reduceLT, Nat.reduceLeDiff, Nat.reduceSub, reduceCtorEq, Int.reduceToNat, Int.reduceLT, Int.reduceLE, Int.reduceNeg]
      · have x1 : ¬ ((100 : Int) < (x.size : Int)) := by omega
        simp -implicitDefEqProofs only [ic_handsellaw15_DiskLasts, o_handsellaw15_DiskLasts_0, o_handsellaw15_DiskLasts_1, o_handsellaw15_DiskLasts_10, o_handsellaw15_DiskLasts_11, o_handsellaw15_DiskLasts_12, o_handsellaw15_DiskLasts_13, o_handsellaw15_DiskLasts_14, o_handsellaw15_DiskLasts_15, o_handsellaw15_DiskLasts_16, o_handsellaw15_DiskLasts_17, o_handsellaw15_DiskLasts_18, o_handsellaw15_DiskLasts_19, o_handsellaw15_DiskLasts_2, o_handsellaw15_DiskLasts_20, o_handsellaw15_DiskLasts_21, o_handsellaw15_DiskLasts_22, o_handsellaw15_DiskLasts_23, o_handsellaw15_DiskLasts_24, o_handsellaw15_DiskLasts_25, o_handsellaw15_DiskLasts_26, o_handsellaw15_DiskLasts_27, o_handsellaw15_DiskLasts_28, o_handsellaw15_DiskLasts_29, o_handsellaw15_DiskLasts_3, o_handsellaw15_DiskLasts_30, o_handsellaw15_DiskLasts_4, o_handsellaw15_DiskLasts_5, o_handsellaw15_DiskLasts_6, o_handsellaw15_DiskLasts_7, o_handsellaw15_DiskLasts_8, o_handsellaw15_DiskLasts_9, l_handsellaw15_DiskLasts_2, VV, Ic.t, Ic.ci, ne_eq, eq_self, not_true_eq_false, bd_both, Nat.reduceEqDiff, reduceIte, Nat.reduceAdd, Nat.reduceMul, Nat.reduceLT, Nat.reduceLeDiff, Nat.reduceSub, reduceCtorEq, Int.reduceToNat, Int.reduceLT, Int.reduceLE, Int.reduceNeg, f1, f7, f11, hv, d0, d1, hld, x1]
        refine Append_yes σ.next ⟨10000, s.size, s, s ++ t, false⟩ σ2 hg _ okd x (decide_eq_true (by show x.size + (s ++ t).size ≤ 10000; omega)) ?_
        have hne : gs ≠ σ.next := Nat.ne_of_lt (relSl_lt hb hlt hv)
        have hadd : ¬ ((9223372036854775807 : Int) < ((t.size + x.size : Nat) : Int)) := by omega
        simp -implicitDefEqProofs only [VV, Ic.t, Ic.ci, ne_eq, eq_self, not_true_eq_false, bd_both, Nat.reduceEqDiff, reduceIte, Nat.reduceAdd, Nat.reduceMul, Nat.reduceLT, Nat.reduceLeDiff, Nat.reduceSub, reduceCtorEq, Int.reduceToNat, Int.reduceLT, Int.reduceLE, Int.reduceNeg, f1, f7, f8, f9, f11, hv, d0, d1, at_put_ne hne, hld, w1, hadd]
        refine ⟨j + 1, by omega, Heap.le_put hle2 (Nat.le_refl _) _ _, ⟨t ++ x, by rw [ByteArray.size_append]; omega, rfl, ?_⟩, ?_, ?_, ?_, ?_, rfl, by omega⟩
        · rw [at_put (loc_lt hg), ByteArray.append_assoc]
        all_goals (simp -implicitDefEqProofs only [VV, Ic.t, Ic.ci, ne_eq, eq_self, not_true_eq_false, bd_both, Nat.reduceEqDiff, reduceIte, Nat.reduceAdd, Nat.reduceMul, Nat.reduceLT, Nat.reduceLeDiff, Nat.reduceSub, reduceCtorEq, Int.reduceToNat, Int.reduceLT, Int.reduceLE, Int.reduceNeg, f1, f2, f7, f8, hv])
    · have d1 : ¬ ((j : Int) < (b.length : Int)) := by omega
      obtain ⟨ba, bsz, hvb⟩ := relSl_len hb
      have w2 : IntKind.i64.wrap ((t.size : Int) + 1) = (t.size : Int) + 1 := w64 (by omega) (by omega)
      simp -implicitDefEqProofs only [ic_handsellaw15_DiskLasts, o_handsellaw15_DiskLasts_0, o_handsellaw15_DiskLasts_1, o_handsellaw15_DiskLasts_10, o_handsellaw15_DiskLasts_11, o_handsellaw15_DiskLasts_12, o_handsellaw15_DiskLasts_13, o_handsellaw15_DiskLasts_14, o_handsellaw15_DiskLasts_15, o_handsellaw15_DiskLasts_16, o_handsellaw15_DiskLasts_17, o_handsellaw15_DiskLasts_18, o_handsellaw15_DiskLasts_19, o_handsellaw15_DiskLasts_2, o_handsellaw15_DiskLasts_20, o_handsellaw15_DiskLasts_21, o_handsellaw15_DiskLasts_22, o_handsellaw15_DiskLasts_23, o_handsellaw15_DiskLasts_24, o_handsellaw15_DiskLasts_25, o_handsellaw15_DiskLasts_26, o_handsellaw15_DiskLasts_27, o_handsellaw15_DiskLasts_28, o_handsellaw15_DiskLasts_29, o_handsellaw15_DiskLasts_3, o_handsellaw15_DiskLasts_30, o_handsellaw15_DiskLasts_4, o_handsellaw15_DiskLasts_5, o_handsellaw15_DiskLasts_6, o_handsellaw15_DiskLasts_7, o_handsellaw15_DiskLasts_8, o_handsellaw15_DiskLasts_9, l_handsellaw15_DiskLasts_2, VV, Ic.t, Ic.ci, ne_eq, eq_self, not_true_eq_false, bd_both, Nat.reduceEqDiff, reduceIte, Nat.reduceAdd, Nat.reduceMul, Nat.reduceLT, Nat.reduceLeDiff, Nat.reduceSub, reduceCtorEq, Int.reduceToNat, Int.reduceLT, Int.reduceLE, Int.reduceNeg, f1, f2, f7, f9, f11, hvb, d1, w2]
      have k0 := Int.emod_nonneg keep (show (t.size : Int) + 1 ≠ 0 by omega)
      have k1 := Int.emod_lt_of_pos keep (show (0 : Int) < (t.size : Int) + 1 by omega)
      refine Place_ok _ _ (by omega) (by omega) _ _ ?_
      generalize hk : keep % ((t.size : Int) + 1) = kI at k0 k1 ⊢
      obtain ⟨k, rfl⟩ := Int.eq_ofNat_of_zero_le k0
      have hadd : ¬ ((9223372036854775807 : Int) < ((s.size + t.size : Nat) : Int)) := by omega
      simp -implicitDefEqProofs only [VV, Ic.t, Ic.ci, ne_eq, eq_self, not_true_eq_false, bd_both, Nat.reduceEqDiff, reduceIte, Nat.reduceAdd, Nat.reduceMul, Nat.reduceLT, Nat.reduceLeDiff, Nat.reduceSub, reduceCtorEq, Int.reduceToNat, Int.reduceLT, Int.reduceLE, Int.reduceNeg, f7, f8, f9, hadd]
      refine Text_ok σ.next ⟨10000, s.size, s, s ++ t, false⟩ _ hg _ ?_
      simp -implicitDefEqProofs only [VV, Ic.t, Ic.ci, ne_eq, eq_self, not_true_eq_false, bd_both, Nat.reduceEqDiff, reduceIte, Nat.reduceAdd, Nat.reduceMul, Nat.reduceLT, Nat.reduceLeDiff, Nat.reduceSub, reduceCtorEq, Int.reduceToNat, Int.reduceLT, Int.reduceLE, Int.reduceNeg, f7, f8, f9, hadd]
      refine Waits_ok σ.next ⟨10000, s.size, s, s ++ t, false⟩ _ hg _ okd ?_
      have ew : Dk.waits ⟨10000, s.size, s, s ++ t, false⟩ = t.size := by
        show (s ++ t).size - s.size + 0 = _
        omega
      simp -implicitDefEqProofs only [VV, Ic.t, Ic.ci, ne_eq, eq_self, not_true_eq_false, bd_both, Nat.reduceEqDiff, reduceIte, Nat.reduceAdd, Nat.reduceMul, Nat.reduceLT, Nat.reduceLeDiff, Nat.reduceSub, reduceCtorEq, Int.reduceToNat, Int.reduceLT, Int.reduceLE, Int.reduceNeg, f7, f8, f9, ew]
      refine Crash_ok σ.next ⟨10000, s.size, s, s ++ t, false⟩ _ hg _ okd k ?_
      have ec : Dk.cut ⟨10000, s.size, s, s ++ t, false⟩ k = k := by
        unfold Dk.cut
        rw [if_neg (by omega), ew]
        omega
      have ecr : Dk.crash ⟨10000, s.size, s, s ++ t, false⟩ k = ⟨10000, (s ++ t.extract 0 k).size, s ++ t.extract 0 k, s ++ t.extract 0 k, false⟩ := by
        unfold Dk.crash
        rw [ec]
        simp only [Bool.false_and, Bool.false_eq_true, if_false]
        show Dk.settle ⟨10000, s.size, s, (s ++ t).extract 0 (s.size + k - 0), false⟩ = _
        rw [Nat.sub_zero, extract_append _ _ _ (by omega)]
        rfl
      have ok1 := okd.crash k
      rw [ecr] at ok1 ⊢
      have r1 : (0 : Int) ≤ (k : Int) ∧ (k : Int) ≤ (t.size : Nat) := by omega
      have hadd2 : ¬ ((9223372036854775807 : Int) < ((s.size + (t.extract 0 k).size : Nat) : Int)) := by rw [ByteArray.size_extract]; omega
      generalize hu : s ++ t.extract 0 k = u at ok1 ⊢
      have hus : u.size ≤ 10000 := ok1.now
      have l2 := loc_lt hg
      simp -implicitDefEqProofs only [VV, Ic.t, Ic.ci, ne_eq, eq_self, not_true_eq_false, bd_both, Nat.reduceEqDiff, reduceIte, Nat.reduceAdd, Nat.reduceMul, Nat.reduceLT, Nat.reduceLeDiff, Nat.reduceSub, reduceCtorEq, Int.reduceToNat, Int.reduceLT, Int.reduceLE, Int.reduceNeg, f7, f8, f9, r1, hadd2, hu]
      refine Text_ok σ.next ⟨10000, u.size, u, u, false⟩ _ (at_put l2) _ ?_
      simp -implicitDefEqProofs only [VV, Ic.t, Ic.ci, ne_eq, eq_self, not_true_eq_false, bd_both, Nat.reduceEqDiff, reduceIte, Nat.reduceAdd, Nat.reduceMul, Nat.reduceLT, Nat.reduceLeDiff, Nat.reduceSub, reduceCtorEq, Int.reduceToNat, Int.reduceLT, Int.reduceLE, Int.reduceNeg, f7, f8, f9, r1, hadd2, hu]
      refine Waits_ok σ.next ⟨10000, u.size, u, u, false⟩ _ (at_put l2) _ ok1 ?_
      have ew2 : Dk.waits ⟨10000, u.size, u, u, false⟩ = 0 := by show u.size - u.size + 0 = 0; omega
      simp -implicitDefEqProofs only [VV, Ic.t, Ic.ci, ne_eq, eq_self, not_true_eq_false, bd_both, Nat.reduceEqDiff, reduceIte, Nat.reduceAdd, Nat.reduceMul, Nat.reduceLT, Nat.reduceLeDiff, Nat.reduceSub, reduceCtorEq, Int.reduceToNat, Int.reduceLT, Int.reduceLE, Int.reduceNeg, f7, ew2, Int.natCast_zero]
      refine Replace_yes σ.next ⟨10000, u.size, u, u, false⟩ _ (at_put l2) _ ok1 _ (decide_eq_true (by show 3 ≤ 10000; omega)) ?_
      have s3 : (⟨#[110, 101, 119]⟩ : ByteArray).size = 3 := rfl
      have ok2 : Dk.OK ⟨10000, 3, u, ⟨#[110, 101, 119]⟩, true⟩ := ⟨by simp only; omega, by simp only [s3]; omega, by simp only [s3]; omega, by simp only; omega⟩
      simp -implicitDefEqProofs only [VV, Ic.t, Ic.ci, ne_eq, eq_self, not_true_eq_false, bd_both, Nat.reduceEqDiff, reduceIte, Nat.reduceAdd, Nat.reduceMul, Nat.reduceLT, Nat.reduceLeDiff, Nat.reduceSub, reduceCtorEq, Int.reduceToNat, Int.reduceLT, Int.reduceLE, Int.reduceNeg, f7, put_put, s3]
      refine Append_yes σ.next ⟨10000, 3, u, ⟨#[110, 101, 119]⟩, true⟩ _ (at_put l2) _ ok2 _ (decide_eq_true (by show 2 + 3 ≤ 10000; omega)) ?_
      have ok3 : Dk.OK ⟨10000, 3, u, ⟨#[110, 101, 119]⟩ ++ ⟨#[101, 114]⟩, true⟩ := ok2.append ⟨#[101, 114]⟩
      simp -implicitDefEqProofs only [VV, Ic.t, Ic.ci, ne_eq, eq_self, not_true_eq_false, bd_both, Nat.reduceEqDiff, reduceIte, Nat.reduceAdd, Nat.reduceMul, Nat.reduceLT, Nat.reduceLeDiff, Nat.reduceSub, reduceCtorEq, Int.reduceToNat, Int.reduceLT, Int.reduceLE, Int.reduceNeg, f2, f7, put_put]
      have p0 := Int.emod_nonneg keep (show (4 : Int) ≠ 0 by decide)
      have p1 := Int.emod_lt_of_pos keep (show (0 : Int) < 4 by decide)
      refine Place_ok _ _ (by decide) (by decide) _ _ ?_
      generalize hp : keep % 4 = pI at p0 p1 ⊢
      simp -implicitDefEqProofs only [VV, Ic.t, Ic.ci, ne_eq, eq_self, not_true_eq_false, bd_both, Nat.reduceEqDiff, reduceIte, Nat.reduceAdd, Nat.reduceMul, Nat.reduceLT, Nat.reduceLeDiff, Nat.reduceSub, reduceCtorEq, Int.reduceToNat, Int.reduceLT, Int.reduceLE, Int.reduceNeg, f7, put_put]
      refine Crash_ok σ.next ⟨10000, 3, u, ⟨#[110, 101, 119]⟩ ++ ⟨#[101, 114]⟩, true⟩ _ (at_put l2) _ ok3 pI ?_
      have ok4 := ok3.crash pI
      have en : (Dk.crash ⟨10000, 3, u, ⟨#[110, 101, 119]⟩ ++ ⟨#[101, 114]⟩, true⟩ pI).now = if pI = 0 then u else if pI = 1 then ⟨#[110, 101, 119]⟩ else if pI = 2 then ⟨#[110, 101, 119, 101]⟩ else ⟨#[110, 101, 119, 101, 114]⟩ := by
        have : pI = 0 ∨ pI = 1 ∨ pI = 2 ∨ pI = 3 := by omega
        rcases this with rfl | rfl | rfl | rfl <;> rfl
      generalize Dk.crash ⟨10000, 3, u, ⟨#[110, 101, 119]⟩ ++ ⟨#[101, 114]⟩, true⟩ pI = d at ok4 en ⊢
      simp -implicitDefEqProofs only [VV, Ic.t, Ic.ci, ne_eq, eq_self, not_true_eq_false, bd_both, Nat.reduceEqDiff, reduceIte, Nat.reduceAdd, Nat.reduceMul, Nat.reduceLT, Nat.reduceLeDiff, Nat.reduceSub, reduceCtorEq, Int.reduceToNat, Int.reduceLT, Int.reduceLE, Int.reduceNeg, f2, f7, f8, f9, put_put, r1, hadd2, hu]
      refine Place_ok _ _ (by decide) (by decide) _ _ ?_
      rw [hp]
      have p2 : 0 ≤ pI ∧ pI < (4 : Nat) := by omega
      have cases4 : pI = 0 ∨ pI = 1 ∨ pI = 2 ∨ pI = 3 := by omega
      rcases cases4 with rfl | rfl | rfl | rfl
      all_goals
        simp -implicitDefEqProofs only [VV, Ic.t, Ic.ci, ne_eq, eq_self, not_true_eq_false, bd_both, Nat.reduceEqDiff, reduceIte, Nat.reduceAdd, Nat.reduceMul, Nat.reduceLT, Nat.reduceLeDiff, Nat.reduceSub, reduceCtorEq, Int.reduceToNat, Int.reduceLT, Int.reduceLE, Int.reduceNeg, f7, put_put]
        refine ⟨by omega, ?_⟩
        refine Text_ok σ.next d _ (at_put l2) _ ?_
        rw [en]
        simp -implicitDefEqProofs only [VV, Ic.t, Ic.ci, ne_eq, eq_self, not_true_eq_false, bd_both, Nat.reduceEqDiff, reduceIte, Nat.reduceAdd, Nat.reduceMul, Nat.reduceLT, Nat.reduceLeDiff, Nat.reduceSub, reduceCtorEq, Int.reduceToNat, Int.reduceLT, Int.reduceLE, Int.reduceNeg, Int.reduceEq]
        refine awake_ok _ _ fun σ' _ => ?_
        simp -implicitDefEqProofs only [VV, Ic.t, Ic.ci, ne_eq, eq_self, not_true_eq_false, bd_both, Nat.reduceEqDiff, reduceIte, Nat.reduceAdd, Nat.reduceMul, Nat.reduceLT, Nat.reduceLeDiff, Nat.reduceSub, reduceCtorEq, Int.reduceToNat, Int.reduceLT, Int.reduceLE, Int.reduceNeg]
end Go.Proofs.Ytoaohoilkfbdgaa
