/- DiskPlays's walk. -/
import Derived.Test.YtoaohoilkfbdgaaDisk4
set_option linter.unusedSimpArgs false
set_option linter.unusedVariables false
namespace Go.Proofs.Ytoaohoilkfbdgaa
open Go Go.RowKit Sh Ic

abbrev OpT := Rec (Int × Int × ByteArray × Unit)
theorem op_rel {σ : Heap} {vs : List Value} {o : OpT} (h : Arg.rel σ vs o) : vs = [.int .i64 o.val.1, .int .i64 o.val.2.1, .string o.val.2.2.1] := by
  obtain ⟨v1, v2, rfl, _, h1, v3, v4, rfl, _, h2, v5, v6, rfl, _, h3, h4⟩ := h
  have e1 : v1 = [.int .i64 o.val.1] := h1
  have e2 : v3 = [.int .i64 o.val.2.1] := h2
  have e3 : v5 = [.string o.val.2.2.1] := h3
  have e4 : v6 = [] := h4
  rw [e1, e2, e3, e4]; rfl

structure PInv (σ0 : Heap) (v1 : Value) (g1 g2 : Nat) (i : Nat) (fr : Fr) (σ : Heap) : Prop where
  le : σ0.le σ
  r : ∃ r : Rf, r.OK ∧ σ.at g1 = .cells T_disk_Disk r.dk.cells true ∧ σ.at g2 = .cells T_handselref15_D r.cells true
  f1 : fr 1 = v1
  f5 : fr 5 = .pointer (some ⟨g1, 0, none⟩)
  f6 : fr 6 = .pointer (some ⟨g2, 0, none⟩)
  f7 : fr 7 = .int .i64 i
  hi : i ≤ 80

theorem DiskPlays_ok (size : Int) (l : List OpT) (v0 v1 : Value) (σ : Heap) (h0 : ArgV σ v0 size) (h1 : ArgV σ v1 l) (_ : Arg.ok size) (_ : Arg.ok l) :
    CallOK Try.prog F_handsellaw15_DiskPlays [v0, v1] σ (fun v _ => v = .bool true) := by
  obtain rfl := argV_int.1 h0
  have hl := argV_sl.1 h1
  refine callOK_fn c_handsellaw15_DiskPlays (by simp) ?_
  simp -implicitDefEqProofs only [ic_handsellaw15_DiskPlays, o_handsellaw15_DiskPlays_0, o_handsellaw15_DiskPlays_1, o_handsellaw15_DiskPlays_10, o_handsellaw15_DiskPlays_11, o_handsellaw15_DiskPlays_12, o_handsellaw15_DiskPlays_13, o_handsellaw15_DiskPlays_14, o_handsellaw15_DiskPlays_15, o_handsellaw15_DiskPlays_16, o_handsellaw15_DiskPlays_17, o_handsellaw15_DiskPlays_18, o_handsellaw15_DiskPlays_19, o_handsellaw15_DiskPlays_2, o_handsellaw15_DiskPlays_20, o_handsellaw15_DiskPlays_21, o_handsellaw15_DiskPlays_22, o_handsellaw15_DiskPlays_23, o_handsellaw15_DiskPlays_24, o_handsellaw15_DiskPlays_3, o_handsellaw15_DiskPlays_4, o_handsellaw15_DiskPlays_5, o_handsellaw15_DiskPlays_6, o_handsellaw15_DiskPlays_7, o_handsellaw15_DiskPlays_8, o_handsellaw15_DiskPlays_9, VV, Ic.t, Ic.ci, ne_eq, eq_self, not_true_eq_false, bd_both, Nat.reduceEqDiff, reduceIte, Nat.reduceAdd, Nat.reduceMul, Nat.reduceLT, Nat.reduceLeDiff, Nat.reduceSub, reduceCtorEq, Int.reduceToNat, Int.reduceLT, Int.reduceLE, Int.reduceNeg, argFr_at]
  refine New_ok _ _ _ ?_
  simp -implicitDefEqProofs only [ic_handsellaw15_DiskPlays, o_handsellaw15_DiskPlays_0, o_handsellaw15_DiskPlays_1, o_handsellaw15_DiskPlays_10, o_handsellaw15_DiskPlays_11, o_handsellaw15_DiskPlays_12, o_handsellaw15_DiskPlays_13, o_handsellaw15_DiskPlays_14, o_handsellaw15_DiskPlays_15, o_handsellaw15_DiskPlays_16, o_handsellaw15_DiskPlays_17, o_handsellaw15_DiskPlays_18, o_handsellaw15_DiskPlays_19, o_handsellaw15_DiskPlays_2, o_handsellaw15_DiskPlays_20, o_handsellaw15_DiskPlays_21, o_handsellaw15_DiskPlays_22, o_handsellaw15_DiskPlays_23, o_handsellaw15_DiskPlays_24, o_handsellaw15_DiskPlays_3, o_handsellaw15_DiskPlays_4, o_handsellaw15_DiskPlays_5, o_handsellaw15_DiskPlays_6, o_handsellaw15_DiskPlays_7, o_handsellaw15_DiskPlays_8, o_handsellaw15_DiskPlays_9, VV, Ic.t, Ic.ci, ne_eq, eq_self, not_true_eq_false, bd_both, Nat.reduceEqDiff, reduceIte, Nat.reduceAdd, Nat.reduceMul, Nat.reduceLT, Nat.reduceLeDiff, Nat.reduceSub, reduceCtorEq, Int.reduceToNat, Int.reduceLT, Int.reduceLE, Int.reduceNeg, argFr_at]
  refine NewR_ok _ _ _ ?_
  simp -implicitDefEqProofs only [ic_handsellaw15_DiskPlays, o_handsellaw15_DiskPlays_0, o_handsellaw15_DiskPlays_1, o_handsellaw15_DiskPlays_10, o_handsellaw15_DiskPlays_11, o_handsellaw15_DiskPlays_12, o_handsellaw15_DiskPlays_13, o_handsellaw15_DiskPlays_14, o_handsellaw15_DiskPlays_15, o_handsellaw15_DiskPlays_16, o_handsellaw15_DiskPlays_17, o_handsellaw15_DiskPlays_18, o_handsellaw15_DiskPlays_19, o_handsellaw15_DiskPlays_2, o_handsellaw15_DiskPlays_20, o_handsellaw15_DiskPlays_21, o_handsellaw15_DiskPlays_22, o_handsellaw15_DiskPlays_23, o_handsellaw15_DiskPlays_24, o_handsellaw15_DiskPlays_3, o_handsellaw15_DiskPlays_4, o_handsellaw15_DiskPlays_5, o_handsellaw15_DiskPlays_6, o_handsellaw15_DiskPlays_7, o_handsellaw15_DiskPlays_8, o_handsellaw15_DiskPlays_9, VV, Ic.t, Ic.ci, ne_eq, eq_self, not_true_eq_false, bd_both, Nat.reduceEqDiff, reduceIte, Nat.reduceAdd, Nat.reduceMul, Nat.reduceLT, Nat.reduceLeDiff, Nat.reduceSub, reduceCtorEq, Int.reduceToNat, Int.reduceLT, Int.reduceLE, Int.reduceNeg, argFr_at, evC_loop]
  generalize hr0 : (⟨(min size 1048576).toNat, ⟨#[]⟩, false, ⟨#[]⟩, ⟨#[]⟩⟩ : Rf) = r0
  have edk : Dk.new size = r0.dk := by subst hr0; rfl
  have rok : r0.OK := by unfold Rf.OK; rw [← edk]; exact .new size
  rw [edk]
  refine swpI_loop (PInv σ v1 σ.next (σ.next + 1)) (fun i => 80 - i) 0 ⟨Heap.le_push' (σ.le_push _) _, ⟨r0, rok, (by simp -implicitDefEqProofs only [at_push_is, at_push_old, put_push_is, put_push_old, push_next, put_next, at_put, at_put_ne, lt_more, lt_self, lt_left, eq_left, eq_self_add, add_eq_self', add_lit, Nat.reduceAdd, Nat.reduceLT, Nat.reduceEqDiff, ne_eq, not_false_eq_true]), (by simp -implicitDefEqProofs only [at_push_is, at_push_old, put_push_is, put_push_old, push_next, put_next, at_put, at_put_ne, lt_more, lt_self, lt_left, eq_left, eq_self_add, add_eq_self', add_lit, Nat.reduceAdd, Nat.reduceLT, Nat.reduceEqDiff, ne_eq, not_false_eq_true])⟩, rfl, rfl, rfl, rfl, by omega⟩ ?_
  rintro i fr σ1 ⟨hle, ⟨r, rok, hg1, hg2⟩, f1, f5, f6, f7, hi⟩
  have hl1 := relSl_mono hle hl
  obtain ⟨va, vs, hv⟩ := relSl_len hl1
  by_cases hlt : i < l.length
  rotate_left
  · have c1 : ¬ ((i : Int) < (l.length : Int)) := by omega
    simp -implicitDefEqProofs only [ic_handsellaw15_DiskPlays, o_handsellaw15_DiskPlays_0, o_handsellaw15_DiskPlays_1, o_handsellaw15_DiskPlays_10, o_handsellaw15_DiskPlays_11, o_handsellaw15_DiskPlays_12, o_handsellaw15_DiskPlays_13, o_handsellaw15_DiskPlays_14, o_handsellaw15_DiskPlays_15, o_handsellaw15_DiskPlays_16, o_handsellaw15_DiskPlays_17, o_handsellaw15_DiskPlays_18, o_handsellaw15_DiskPlays_19, o_handsellaw15_DiskPlays_2, o_handsellaw15_DiskPlays_20, o_handsellaw15_DiskPlays_21, o_handsellaw15_DiskPlays_22, o_handsellaw15_DiskPlays_23, o_handsellaw15_DiskPlays_24, o_handsellaw15_DiskPlays_3, o_handsellaw15_DiskPlays_4, o_handsellaw15_DiskPlays_5, o_handsellaw15_DiskPlays_6, o_handsellaw15_DiskPlays_7, o_handsellaw15_DiskPlays_8, o_handsellaw15_DiskPlays_9, l_handsellaw15_DiskPlays_1, VV, Ic.t, Ic.ci, ne_eq, eq_self, not_true_eq_false, bd_both, Nat.reduceEqDiff, reduceIte, Nat.reduceAdd, Nat.reduceMul, Nat.reduceLT, Nat.reduceLeDiff, Nat.reduceSub, reduceCtorEq, Int.reduceToNat, Int.reduceLT, Int.reduceLE, Int.reduceNeg, f1, f5, f6, f7, hv, c1]
    refine awake_ok _ _ fun σ' _ => ?_
    simp -implicitDefEqProofs only [VV, Ic.t, Ic.ci, ne_eq, eq_self, not_true_eq_false, bd_both, Nat.reduceEqDiff, reduceIte, Nat.reduceAdd, Nat.reduceMul, Nat.reduceLT, Nat.reduceLeDiff, Nat.reduceSub, reduceCtorEq, Int.reduceToNat, Int.reduceLT, Int.reduceLE, Int.reduceNeg]
  by_cases h80 : i < 80
  rotate_left
  · have c1 : (i : Int) < (l.length : Int) := by omega
    have c2 : ¬ ((i : Int) < 80) := by omega
    simp -implicitDefEqProofs only [ic_handsellaw15_DiskPlays, o_handsellaw15_DiskPlays_0, o_handsellaw15_DiskPlays_1, o_handsellaw15_DiskPlays_10, o_handsellaw15_DiskPlays_11, o_handsellaw15_DiskPlays_12, o_handsellaw15_DiskPlays_13, o_handsellaw15_DiskPlays_14, o_handsellaw15_DiskPlays_15, o_handsellaw15_DiskPlays_16, o_handsellaw15_DiskPlays_17, o_handsellaw15_DiskPlays_18, o_handsellaw15_DiskPlays_19, o_handsellaw15_DiskPlays_2, o_handsellaw15_DiskPlays_20, o_handsellaw15_DiskPlays_21, o_handsellaw15_DiskPlays_22, o_handsellaw15_DiskPlays_23, o_handsellaw15_DiskPlays_24, o_handsellaw15_DiskPlays_3, o_handsellaw15_DiskPlays_4, o_handsellaw15_DiskPlays_5, o_handsellaw15_DiskPlays_6, o_handsellaw15_DiskPlays_7, o_handsellaw15_DiskPlays_8, o_handsellaw15_DiskPlays_9, l_handsellaw15_DiskPlays_1, VV, Ic.t, Ic.ci, ne_eq, eq_self, not_true_eq_false, bd_both, Nat.reduceEqDiff, reduceIte, Nat.reduceAdd, Nat.reduceMul, Nat.reduceLT, Nat.reduceLeDiff, Nat.reduceSub, reduceCtorEq, Int.reduceToNat, Int.reduceLT, Int.reduceLE, Int.reduceNeg, f1, f5, f6, f7, hv, c1, c2]
    refine awake_ok _ _ fun σ' _ => ?_
    simp -implicitDefEqProofs only [VV, Ic.t, Ic.ci, ne_eq, eq_self, not_true_eq_false, bd_both, Nat.reduceEqDiff, reduceIte, Nat.reduceAdd, Nat.reduceMul, Nat.reduceLT, Nat.reduceLeDiff, Nat.reduceSub, reduceCtorEq, Int.reduceToNat, Int.reduceLT, Int.reduceLE, Int.reduceNeg]
  have c1 : (i : Int) < (l.length : Int) := by omega
  have c2 : (i : Int) < 80 := by omega
  have c3 : (0 : Int) ≤ (i : Int) := by omega
  obtain ⟨gs, off, ws, hv, hrow, hrel, hgs⟩ := relSl_at hl1 hlt
  have hws := op_rel hrel
  have hsz : Arg.sz OpT = 3 := rfl
  rw [hsz] at hv hrow
  rw [hws] at hrow
  generalize hkind : (l[i]).val.1 = kind at hrow
  generalize hn : (l[i]).val.2.1 = n at hrow
  generalize hs : (l[i]).val.2.2.1 = s at hrow
  rw [row_at] at hrow
  have k1 := loc_lt hg1
  have k2 := loc_lt hg2
  simp -implicitDefEqProofs only [ic_handsellaw15_DiskPlays, o_handsellaw15_DiskPlays_0, o_handsellaw15_DiskPlays_1, o_handsellaw15_DiskPlays_10, o_handsellaw15_DiskPlays_11, o_handsellaw15_DiskPlays_12, o_handsellaw15_DiskPlays_13, o_handsellaw15_DiskPlays_14, o_handsellaw15_DiskPlays_15, o_handsellaw15_DiskPlays_16, o_handsellaw15_DiskPlays_17, o_handsellaw15_DiskPlays_18, o_handsellaw15_DiskPlays_19, o_handsellaw15_DiskPlays_2, o_handsellaw15_DiskPlays_20, o_handsellaw15_DiskPlays_21, o_handsellaw15_DiskPlays_22, o_handsellaw15_DiskPlays_23, o_handsellaw15_DiskPlays_24, o_handsellaw15_DiskPlays_3, o_handsellaw15_DiskPlays_4, o_handsellaw15_DiskPlays_5, o_handsellaw15_DiskPlays_6, o_handsellaw15_DiskPlays_7, o_handsellaw15_DiskPlays_8, o_handsellaw15_DiskPlays_9, l_handsellaw15_DiskPlays_1, VV, Ic.t, Ic.ci, ne_eq, eq_self, not_true_eq_false, bd_both, Nat.reduceEqDiff, reduceIte, Nat.reduceAdd, Nat.reduceMul, Nat.reduceLT, Nat.reduceLeDiff, Nat.reduceSub, reduceCtorEq, Int.reduceToNat, Int.reduceLT, Int.reduceLE, Int.reduceNeg, f1, f5, f6, f7, hv, c1, c2, c3, hrow, boxK_agg']
  refine cK_dec _ _ _ _ _ _ _ (fun hc => ?_) fun hc => ?_
  · simp -implicitDefEqProofs only [VV, Ic.t, Ic.ci, ne_eq, eq_self, not_true_eq_false, bd_both, Nat.reduceEqDiff, reduceIte, Nat.reduceAdd, Nat.reduceMul, Nat.reduceLT, Nat.reduceLeDiff, Nat.reduceSub, reduceCtorEq, Int.reduceToNat, Int.reduceLT, Int.reduceLE, Int.reduceNeg]
    refine awake_ok _ _ fun σ' _ => ?_
    simp -implicitDefEqProofs only [VV, Ic.t, Ic.ci, ne_eq, eq_self, not_true_eq_false, bd_both, Nat.reduceEqDiff, reduceIte, Nat.reduceAdd, Nat.reduceMul, Nat.reduceLT, Nat.reduceLeDiff, Nat.reduceSub, reduceCtorEq, Int.reduceToNat, Int.reduceLT, Int.reduceLE, Int.reduceNeg]
  simp -implicitDefEqProofs only [VV, Ic.t, Ic.ci, ne_eq, eq_self, not_true_eq_false, bd_both, Nat.reduceEqDiff, reduceIte, Nat.reduceAdd, Nat.reduceMul, Nat.reduceLT, Nat.reduceLeDiff, Nat.reduceSub, reduceCtorEq, Int.reduceToNat, Int.reduceLT, Int.reduceLE, Int.reduceNeg, f5, f6]
  refine Place_ok _ _ (by decide) (by decide) _ _ ?_
  generalize kind % 9 = k
  have g1' : (σ1.push (.cells T_handsellaw15_Op [.int .i64 kind, .int .i64 n, .string s] true)).at σ.next = .cells T_disk_Disk r.dk.cells true := by rw [at_push_old k1]; exact hg1
  have g2' : (σ1.push (.cells T_handsellaw15_Op [.int .i64 kind, .int .i64 n, .string s] true)).at (σ.next + 1) = .cells T_handselref15_D r.cells true := by rw [at_push_old k2]; exact hg2
  have g3' : (σ1.push (.cells T_handsellaw15_Op [.int .i64 kind, .int .i64 n, .string s] true)).at σ1.next = .cells T_handsellaw15_Op [.int .i64 kind, .int .i64 n, .string s] true := σ1.at_push_new _
  have le' : σ.le (σ1.push (.cells T_handsellaw15_Op [.int .i64 kind, .int .i64 n, .string s] true)) := Heap.le_push' hle _
  have hnx : (σ1.push (.cells T_handsellaw15_Op [.int .i64 kind, .int .i64 n, .string s] true)).next = σ1.next + 1 := rfl
  have kk1 : σ.next < σ1.next := k1
  generalize (σ1.push (.cells T_handsellaw15_Op [.int .i64 kind, .int .i64 n, .string s] true)) = σ2 at *
  generalize hq : σ1.next = q at *
  have w1 : IntKind.i64.wrap ((i : Int) + 1) = ((i + 1 : Nat) : Int) := by rw [w64 (by omega) (by omega)]; omega
  have f1' : (Value.slice (some ⟨gs, off, none⟩) l.length 3) = v1 := hv.symm
  simp -implicitDefEqProofs only [VV, Ic.t, Ic.ci, ne_eq, eq_self, not_true_eq_false, bd_both, Nat.reduceEqDiff, reduceIte, Nat.reduceAdd, Nat.reduceMul, Nat.reduceLT, Nat.reduceLeDiff, Nat.reduceSub, reduceCtorEq, Int.reduceToNat, Int.reduceLT, Int.reduceLE, Int.reduceNeg, f5, f6, g3']
  generalize hQ2 : blockK 2 (thenK _ _) = Q2
  have tail : ∀ (fr' : Fr) (r' : Rf) (σ3 : Heap), r'.OK → σ3.at σ.next = .cells T_disk_Disk r'.dk.cells true → σ3.at (σ.next + 1) = .cells T_handselref15_D r'.cells true → σ.le σ3 → fr' 1 = .slice (some ⟨gs, off, none⟩) l.length 3 →
      fr' 5 = .pointer (some ⟨σ.next, 0, none⟩) → fr' 6 = .pointer (some ⟨σ.next + 1, 0, none⟩) → fr' 7 = .int .i64 i → Q2 .normal fr' σ3 := by
    intro fr' r' σ3 rok' hd hr' hle' e1 e5 e6 e7
    subst hQ2
    have et : r'.dk.now = r'.text := rfl
    simp -implicitDefEqProofs only [ic_handselref15_D_Text, o_handselref15_D_Text_0, o_handselref15_D_Text_1, o_handselref15_D_Text_2, o_handselref15_D_Text_3, VV, Ic.t, Ic.ci, ne_eq, eq_self, not_true_eq_false, bd_both, Nat.reduceEqDiff, reduceIte, Nat.reduceAdd, Nat.reduceMul, Nat.reduceLT, Nat.reduceLeDiff, Nat.reduceSub, reduceCtorEq, Int.reduceToNat, Int.reduceLT, Int.reduceLE, Int.reduceNeg, e1, e5, e6, e7]
    refine Text_ok σ.next r'.dk σ3 hd _ ?_
    simp -implicitDefEqProofs only [VV, Ic.t, Ic.ci, ne_eq, eq_self, not_true_eq_false, bd_both, Nat.reduceEqDiff, reduceIte, Nat.reduceAdd, Nat.reduceMul, Nat.reduceLT, Nat.reduceLeDiff, Nat.reduceSub, reduceCtorEq, Int.reduceToNat, Int.reduceLT, Int.reduceLE, Int.reduceNeg, e1, e5, e6, e7]
    refine TextR_ok (σ.next + 1) r' σ3 hr' _ rok' ?_
    simp -implicitDefEqProofs only [VV, Ic.t, Ic.ci, ne_eq, eq_self, not_true_eq_false, bd_both, Nat.reduceEqDiff, reduceIte, Nat.reduceAdd, Nat.reduceMul, Nat.reduceLT, Nat.reduceLeDiff, Nat.reduceSub, reduceCtorEq, Int.reduceToNat, Int.reduceLT, Int.reduceLE, Int.reduceNeg, e1, e5, e6, e7, et]
    refine Waits_ok σ.next r'.dk σ3 hd _ rok' ?_
    simp -implicitDefEqProofs only [VV, Ic.t, Ic.ci, ne_eq, eq_self, not_true_eq_false, bd_both, Nat.reduceEqDiff, reduceIte, Nat.reduceAdd, Nat.reduceMul, Nat.reduceLT, Nat.reduceLeDiff, Nat.reduceSub, reduceCtorEq, Int.reduceToNat, Int.reduceLT, Int.reduceLE, Int.reduceNeg, e1, e5, e6, e7]
    refine WaitsR_ok (σ.next + 1) r' σ3 hr' _ rok' ?_
    simp -implicitDefEqProofs only [VV, Ic.t, Ic.ci, ne_eq, eq_self, not_true_eq_false, bd_both, Nat.reduceEqDiff, reduceIte, Nat.reduceAdd, Nat.reduceMul, Nat.reduceLT, Nat.reduceLeDiff, Nat.reduceSub, reduceCtorEq, Int.reduceToNat, Int.reduceLT, Int.reduceLE, Int.reduceNeg, e1, e5, e6, e7, w1]
    exact ⟨i + 1, by omega, hle', ⟨r', rok', hd, hr'⟩, e1, e5, e6, rfl, by omega⟩
  clear hQ2
  have n1 : q ≠ σ.next := by omega
  have n2 : q ≠ σ.next + 1 := by omega
  have n3 : σ.next ≠ σ.next + 1 := by omega
  have n4 : σ.next + 1 ≠ σ.next := by omega
  have b1 := loc_lt g1'
  have b2 := loc_lt g2'
  have okA : (r.append s).OK := by unfold Rf.OK; rw [Rf.dk_append]; exact Dk.OK.append rok s
  have okR : (r.replace s).OK := by unfold Rf.OK; rw [Rf.dk_replace]; exact Dk.OK.replace rok s
  have okS : r.sync.OK := by unfold Rf.OK; rw [Rf.dk_sync]; exact Dk.OK.settle rok
  have okC : (r.crash n).OK := by unfold Rf.OK; rw [Rf.dk_crash r rok]; exact Dk.OK.crash rok n
  have two : ∀ (r' : Rf) (cs : List Value), cs = r'.dk.cells → ((σ2.put σ.next T_disk_Disk cs).put (σ.next + 1) T_handselref15_D r'.cells).at σ.next = .cells T_disk_Disk r'.dk.cells true ∧
      ((σ2.put σ.next T_disk_Disk cs).put (σ.next + 1) T_handselref15_D r'.cells).at (σ.next + 1) = .cells T_handselref15_D r'.cells true ∧ σ.le ((σ2.put σ.next T_disk_Disk cs).put (σ.next + 1) T_handselref15_D r'.cells) := by
    rintro r' _ rfl
    refine ⟨?_, ?_, ?_⟩
    · rw [at_put_ne n3, at_put b1]
    · rw [at_put (by exact b2)]
    · exact Heap.le_put (Heap.le_put le' (Nat.le_refl _) _ _) (by omega) _ _
  have gA : ∀ cs, (σ2.put σ.next T_disk_Disk cs).at (σ.next + 1) = .cells T_handselref15_D r.cells true := fun cs => by rw [at_put_ne n4]; exact g2'
  refine cK_dec _ _ _ _ _ _ _ (fun h4 => ?_) fun h4 => ?_
  · simp -implicitDefEqProofs only [VV, Ic.t, Ic.ci, ne_eq, eq_self, not_true_eq_false, bd_both, Nat.reduceEqDiff, reduceIte, Nat.reduceAdd, Nat.reduceMul, Nat.reduceLT, Nat.reduceLeDiff, Nat.reduceSub, reduceCtorEq, Int.reduceToNat, Int.reduceLT, Int.reduceLE, Int.reduceNeg, f5, f6, g3']
    cases hf : r.dk.fits s
    · refine Append_no σ.next r.dk σ2 g1' _ rok s hf ?_
      simp -implicitDefEqProofs only [VV, Ic.t, Ic.ci, ne_eq, eq_self, not_true_eq_false, bd_both, Nat.reduceEqDiff, reduceIte, Nat.reduceAdd, Nat.reduceMul, Nat.reduceLT, Nat.reduceLeDiff, Nat.reduceSub, reduceCtorEq, Int.reduceToNat, Int.reduceLT, Int.reduceLE, Int.reduceNeg, f5, f6, g3']
      refine AppendR_ok (σ.next + 1) r σ2 g2' _ rok s ?_
      simp -implicitDefEqProofs only [VV, Ic.t, Ic.ci, ne_eq, eq_self, not_true_eq_false, bd_both, Nat.reduceEqDiff, reduceIte, Nat.reduceAdd, Nat.reduceMul, Nat.reduceLT, Nat.reduceLeDiff, Nat.reduceSub, reduceCtorEq, Int.reduceToNat, Int.reduceLT, Int.reduceLE, Int.reduceNeg, hf, Bool.false_eq_true, bne_self_eq_false]
      exact tail _ r σ2 rok g1' g2' le' (by simp -implicitDefEqProofs only [VV, Ic.t, Ic.ci, ne_eq, eq_self, not_true_eq_false, bd_both, Nat.reduceEqDiff, reduceIte, Nat.reduceAdd, Nat.reduceMul, Nat.reduceLT, Nat.reduceLeDiff, Nat.reduceSub, reduceCtorEq, Int.reduceToNat, Int.reduceLT, Int.reduceLE, Int.reduceNeg, f1, hv]) (by simp -implicitDefEqProofs only [VV, Ic.t, Ic.ci, ne_eq, eq_self, not_true_eq_false, bd_both, Nat.reduceEqDiff, reduceIte, Nat.reduceAdd, Nat.reduceMul, Nat.reduceLT, Nat.reduceLeDiff, Nat.reduceSub, reduceCtorEq, Int.reduceToNat, Int.reduceLT, Int.reduceLE, Int.reduceNeg, f5]) (by simp -implicitDefEqProofs only [VV, Ic.t, Ic.ci, ne_eq, eq_self, not_true_eq_false, bd_both, Nat.reduceEqDiff, reduceIte, Nat.reduceAdd, Nat.reduceMul, Nat.reduceLT, Nat.reduceLeDiff, Nat.reduceSub, reduceCtorEq, Int.reduceToNat, Int.reduceLT, Int.reduceLE, Int.reduceNeg, f6]) (by simp -implicitDefEqProofs only [VV, Ic.t, Ic.ci, ne_eq, eq_self, not_true_eq_false, bd_both, Nat.reduceEqDiff, reduceIte, Nat.reduceAdd, Nat.reduceMul, Nat.reduceLT, Nat.reduceLeDiff, Nat.reduceSub, reduceCtorEq, Int.reduceToNat, Int.reduceLT, Int.reduceLE, Int.reduceNeg, f7])
    · refine Append_yes σ.next r.dk σ2 g1' _ rok s hf ?_
      simp -implicitDefEqProofs only [VV, Ic.t, Ic.ci, ne_eq, eq_self, not_true_eq_false, bd_both, Nat.reduceEqDiff, reduceIte, Nat.reduceAdd, Nat.reduceMul, Nat.reduceLT, Nat.reduceLeDiff, Nat.reduceSub, reduceCtorEq, Int.reduceToNat, Int.reduceLT, Int.reduceLE, Int.reduceNeg, f5, f6, g3', n1, at_put_ne n1]
      refine AppendR_ok (σ.next + 1) r _ (gA _) _ rok s ?_
      simp -implicitDefEqProofs only [VV, Ic.t, Ic.ci, ne_eq, eq_self, not_true_eq_false, bd_both, Nat.reduceEqDiff, reduceIte, Nat.reduceAdd, Nat.reduceMul, Nat.reduceLT, Nat.reduceLeDiff, Nat.reduceSub, reduceCtorEq, Int.reduceToNat, Int.reduceLT, Int.reduceLE, Int.reduceNeg, hf, bne_self_eq_false]
      have ed : ({ r.dk with now := r.dk.now ++ s } : Dk) = (r.append s).dk := by rw [Rf.dk_append]; unfold Dk.append; rw [if_pos hf]
      obtain ⟨t1, t2, t3⟩ := two (r.append s) _ (congrArg Dk.cells ed)
      exact tail _ (r.append s) _ okA t1 t2 t3 (by simp -implicitDefEqProofs only [VV, Ic.t, Ic.ci, ne_eq, eq_self, not_true_eq_false, bd_both, Nat.reduceEqDiff, reduceIte, Nat.reduceAdd, Nat.reduceMul, Nat.reduceLT, Nat.reduceLeDiff, Nat.reduceSub, reduceCtorEq, Int.reduceToNat, Int.reduceLT, Int.reduceLE, Int.reduceNeg, f1, hv]) (by simp -implicitDefEqProofs only [VV, Ic.t, Ic.ci, ne_eq, eq_self, not_true_eq_false, bd_both, Nat.reduceEqDiff, reduceIte, Nat.reduceAdd, Nat.reduceMul, Nat.reduceLT, Nat.reduceLeDiff, Nat.reduceSub, reduceCtorEq, Int.reduceToNat, Int.reduceLT, Int.reduceLE, Int.reduceNeg, f5]) (by simp -implicitDefEqProofs only [VV, Ic.t, Ic.ci, ne_eq, eq_self, not_true_eq_false, bd_both, Nat.reduceEqDiff, reduceIte, Nat.reduceAdd, Nat.reduceMul, Nat.reduceLT, Nat.reduceLeDiff, Nat.reduceSub, reduceCtorEq, Int.reduceToNat, Int.reduceLT, Int.reduceLE, Int.reduceNeg, f6]) (by simp -implicitDefEqProofs only [VV, Ic.t, Ic.ci, ne_eq, eq_self, not_true_eq_false, bd_both, Nat.reduceEqDiff, reduceIte, Nat.reduceAdd, Nat.reduceMul, Nat.reduceLT, Nat.reduceLeDiff, Nat.reduceSub, reduceCtorEq, Int.reduceToNat, Int.reduceLT, Int.reduceLE, Int.reduceNeg, f7])
  simp -implicitDefEqProofs only [VV, Ic.t, Ic.ci, ne_eq, eq_self, not_true_eq_false, bd_both, Nat.reduceEqDiff, reduceIte, Nat.reduceAdd, Nat.reduceMul, Nat.reduceLT, Nat.reduceLeDiff, Nat.reduceSub, reduceCtorEq, Int.reduceToNat, Int.reduceLT, Int.reduceLE, Int.reduceNeg]
  refine cK_dec _ _ _ _ _ _ _ (fun h6 => ?_) fun h6 => ?_
  · simp -implicitDefEqProofs only [VV, Ic.t, Ic.ci, ne_eq, eq_self, not_true_eq_false, bd_both, Nat.reduceEqDiff, reduceIte, Nat.reduceAdd, Nat.reduceMul, Nat.reduceLT, Nat.reduceLeDiff, Nat.reduceSub, reduceCtorEq, Int.reduceToNat, Int.reduceLT, Int.reduceLE, Int.reduceNeg, f5, f6, g3']
    cases hf : r.dk.room s
    · refine Replace_no σ.next r.dk σ2 g1' _ rok s hf ?_
      simp -implicitDefEqProofs only [VV, Ic.t, Ic.ci, ne_eq, eq_self, not_true_eq_false, bd_both, Nat.reduceEqDiff, reduceIte, Nat.reduceAdd, Nat.reduceMul, Nat.reduceLT, Nat.reduceLeDiff, Nat.reduceSub, reduceCtorEq, Int.reduceToNat, Int.reduceLT, Int.reduceLE, Int.reduceNeg, f5, f6, g3']
      refine ReplaceR_ok (σ.next + 1) r σ2 g2' _ s ?_
      simp -implicitDefEqProofs only [VV, Ic.t, Ic.ci, ne_eq, eq_self, not_true_eq_false, bd_both, Nat.reduceEqDiff, reduceIte, Nat.reduceAdd, Nat.reduceMul, Nat.reduceLT, Nat.reduceLeDiff, Nat.reduceSub, reduceCtorEq, Int.reduceToNat, Int.reduceLT, Int.reduceLE, Int.reduceNeg, hf, Bool.false_eq_true, bne_self_eq_false]
      exact tail _ r σ2 rok g1' g2' le' (by simp -implicitDefEqProofs only [VV, Ic.t, Ic.ci, ne_eq, eq_self, not_true_eq_false, bd_both, Nat.reduceEqDiff, reduceIte, Nat.reduceAdd, Nat.reduceMul, Nat.reduceLT, Nat.reduceLeDiff, Nat.reduceSub, reduceCtorEq, Int.reduceToNat, Int.reduceLT, Int.reduceLE, Int.reduceNeg, f1, hv]) (by simp -implicitDefEqProofs only [VV, Ic.t, Ic.ci, ne_eq, eq_self, not_true_eq_false, bd_both, Nat.reduceEqDiff, reduceIte, Nat.reduceAdd, Nat.reduceMul, Nat.reduceLT, Nat.reduceLeDiff, Nat.reduceSub, reduceCtorEq, Int.reduceToNat, Int.reduceLT, Int.reduceLE, Int.reduceNeg, f5]) (by simp -implicitDefEqProofs only [VV, Ic.t, Ic.ci, ne_eq, eq_self, not_true_eq_false, bd_both, Nat.reduceEqDiff, reduceIte, Nat.reduceAdd, Nat.reduceMul, Nat.reduceLT, Nat.reduceLeDiff, Nat.reduceSub, reduceCtorEq, Int.reduceToNat, Int.reduceLT, Int.reduceLE, Int.reduceNeg, f6]) (by simp -implicitDefEqProofs only [VV, Ic.t, Ic.ci, ne_eq, eq_self, not_true_eq_false, bd_both, Nat.reduceEqDiff, reduceIte, Nat.reduceAdd, Nat.reduceMul, Nat.reduceLT, Nat.reduceLeDiff, Nat.reduceSub, reduceCtorEq, Int.reduceToNat, Int.reduceLT, Int.reduceLE, Int.reduceNeg, f7])
    · refine Replace_yes σ.next r.dk σ2 g1' _ rok s hf ?_
      simp -implicitDefEqProofs only [VV, Ic.t, Ic.ci, ne_eq, eq_self, not_true_eq_false, bd_both, Nat.reduceEqDiff, reduceIte, Nat.reduceAdd, Nat.reduceMul, Nat.reduceLT, Nat.reduceLeDiff, Nat.reduceSub, reduceCtorEq, Int.reduceToNat, Int.reduceLT, Int.reduceLE, Int.reduceNeg, f5, f6, g3', n1, at_put_ne n1]
      refine ReplaceR_ok (σ.next + 1) r _ (gA _) _ s ?_
      simp -implicitDefEqProofs only [VV, Ic.t, Ic.ci, ne_eq, eq_self, not_true_eq_false, bd_both, Nat.reduceEqDiff, reduceIte, Nat.reduceAdd, Nat.reduceMul, Nat.reduceLT, Nat.reduceLeDiff, Nat.reduceSub, reduceCtorEq, Int.reduceToNat, Int.reduceLT, Int.reduceLE, Int.reduceNeg, hf, bne_self_eq_false]
      have ed : ({ r.dk with now := s, f := s.size, rep := true } : Dk) = (r.replace s).dk := by rw [Rf.dk_replace]; unfold Dk.replace; rw [if_pos hf]
      obtain ⟨t1, t2, t3⟩ := two (r.replace s) _ (congrArg Dk.cells ed)
      exact tail _ (r.replace s) _ okR t1 t2 t3 (by simp -implicitDefEqProofs only [VV, Ic.t, Ic.ci, ne_eq, eq_self, not_true_eq_false, bd_both, Nat.reduceEqDiff, reduceIte, Nat.reduceAdd, Nat.reduceMul, Nat.reduceLT, Nat.reduceLeDiff, Nat.reduceSub, reduceCtorEq, Int.reduceToNat, Int.reduceLT, Int.reduceLE, Int.reduceNeg, f1, hv]) (by simp -implicitDefEqProofs only [VV, Ic.t, Ic.ci, ne_eq, eq_self, not_true_eq_false, bd_both, Nat.reduceEqDiff, reduceIte, Nat.reduceAdd, Nat.reduceMul, Nat.reduceLT, Nat.reduceLeDiff, Nat.reduceSub, reduceCtorEq, Int.reduceToNat, Int.reduceLT, Int.reduceLE, Int.reduceNeg, f5]) (by simp -implicitDefEqProofs only [VV, Ic.t, Ic.ci, ne_eq, eq_self, not_true_eq_false, bd_both, Nat.reduceEqDiff, reduceIte, Nat.reduceAdd, Nat.reduceMul, Nat.reduceLT, Nat.reduceLeDiff, Nat.reduceSub, reduceCtorEq, Int.reduceToNat, Int.reduceLT, Int.reduceLE, Int.reduceNeg, f6]) (by simp -implicitDefEqProofs only [VV, Ic.t, Ic.ci, ne_eq, eq_self, not_true_eq_false, bd_both, Nat.reduceEqDiff, reduceIte, Nat.reduceAdd, Nat.reduceMul, Nat.reduceLT, Nat.reduceLeDiff, Nat.reduceSub, reduceCtorEq, Int.reduceToNat, Int.reduceLT, Int.reduceLE, Int.reduceNeg, f7])
  simp -implicitDefEqProofs only [VV, Ic.t, Ic.ci, ne_eq, eq_self, not_true_eq_false, bd_both, Nat.reduceEqDiff, reduceIte, Nat.reduceAdd, Nat.reduceMul, Nat.reduceLT, Nat.reduceLeDiff, Nat.reduceSub, reduceCtorEq, Int.reduceToNat, Int.reduceLT, Int.reduceLE, Int.reduceNeg]
  refine cK_dec _ _ _ _ _ _ _ (fun h8 => ?_) fun h8 => ?_
  · simp -implicitDefEqProofs only [VV, Ic.t, Ic.ci, ne_eq, eq_self, not_true_eq_false, bd_both, Nat.reduceEqDiff, reduceIte, Nat.reduceAdd, Nat.reduceMul, Nat.reduceLT, Nat.reduceLeDiff, Nat.reduceSub, reduceCtorEq, Int.reduceToNat, Int.reduceLT, Int.reduceLE, Int.reduceNeg, f5, f6, g3']
    refine Sync_ok σ.next r.dk σ2 g1' _ ?_
    simp -implicitDefEqProofs only [VV, Ic.t, Ic.ci, ne_eq, eq_self, not_true_eq_false, bd_both, Nat.reduceEqDiff, reduceIte, Nat.reduceAdd, Nat.reduceMul, Nat.reduceLT, Nat.reduceLeDiff, Nat.reduceSub, reduceCtorEq, Int.reduceToNat, Int.reduceLT, Int.reduceLE, Int.reduceNeg, f5, f6, g3']
    refine SyncR_ok (σ.next + 1) r _ (gA _) _ rok ?_
    obtain ⟨t1, t2, t3⟩ := two r.sync _ (congrArg Dk.cells (Rf.dk_sync r).symm)
    exact tail _ r.sync _ okS t1 t2 t3 (by simp -implicitDefEqProofs only [VV, Ic.t, Ic.ci, ne_eq, eq_self, not_true_eq_false, bd_both, Nat.reduceEqDiff, reduceIte, Nat.reduceAdd, Nat.reduceMul, Nat.reduceLT, Nat.reduceLeDiff, Nat.reduceSub, reduceCtorEq, Int.reduceToNat, Int.reduceLT, Int.reduceLE, Int.reduceNeg, f1, hv]) (by simp -implicitDefEqProofs only [VV, Ic.t, Ic.ci, ne_eq, eq_self, not_true_eq_false, bd_both, Nat.reduceEqDiff, reduceIte, Nat.reduceAdd, Nat.reduceMul, Nat.reduceLT, Nat.reduceLeDiff, Nat.reduceSub, reduceCtorEq, Int.reduceToNat, Int.reduceLT, Int.reduceLE, Int.reduceNeg, f5]) (by simp -implicitDefEqProofs only [VV, Ic.t, Ic.ci, ne_eq, eq_self, not_true_eq_false, bd_both, Nat.reduceEqDiff, reduceIte, Nat.reduceAdd, Nat.reduceMul, Nat.reduceLT, Nat.reduceLeDiff, Nat.reduceSub, reduceCtorEq, Int.reduceToNat, Int.reduceLT, Int.reduceLE, Int.reduceNeg, f6]) (by simp -implicitDefEqProofs only [VV, Ic.t, Ic.ci, ne_eq, eq_self, not_true_eq_false, bd_both, Nat.reduceEqDiff, reduceIte, Nat.reduceAdd, Nat.reduceMul, Nat.reduceLT, Nat.reduceLeDiff, Nat.reduceSub, reduceCtorEq, Int.reduceToNat, Int.reduceLT, Int.reduceLE, Int.reduceNeg, f7])
  · simp -implicitDefEqProofs only [VV, Ic.t, Ic.ci, ne_eq, eq_self, not_true_eq_false, bd_both, Nat.reduceEqDiff, reduceIte, Nat.reduceAdd, Nat.reduceMul, Nat.reduceLT, Nat.reduceLeDiff, Nat.reduceSub, reduceCtorEq, Int.reduceToNat, Int.reduceLT, Int.reduceLE, Int.reduceNeg, f5, f6, g3']
    refine Crash_ok σ.next r.dk σ2 g1' _ rok n ?_
    simp -implicitDefEqProofs only [VV, Ic.t, Ic.ci, ne_eq, eq_self, not_true_eq_false, bd_both, Nat.reduceEqDiff, reduceIte, Nat.reduceAdd, Nat.reduceMul, Nat.reduceLT, Nat.reduceLeDiff, Nat.reduceSub, reduceCtorEq, Int.reduceToNat, Int.reduceLT, Int.reduceLE, Int.reduceNeg, f5, f6, g3', n1, at_put_ne n1]
    refine CrashR_ok (σ.next + 1) r _ (gA _) _ rok n ?_
    obtain ⟨t1, t2, t3⟩ := two (r.crash n) _ (congrArg Dk.cells (Rf.dk_crash r rok n).symm)
    exact tail _ (r.crash n) _ okC t1 t2 t3 (by simp -implicitDefEqProofs only [VV, Ic.t, Ic.ci, ne_eq, eq_self, not_true_eq_false, bd_both, Nat.reduceEqDiff, reduceIte, Nat.reduceAdd, Nat.reduceMul, Nat.reduceLT, Nat.reduceLeDiff, Nat.reduceSub, reduceCtorEq, Int.reduceToNat, Int.reduceLT, Int.reduceLE, Int.reduceNeg, f1, hv]) (by simp -implicitDefEqProofs only [VV, Ic.t, Ic.ci, ne_eq, eq_self, not_true_eq_false, bd_both, Nat.reduceEqDiff, reduceIte, Nat.reduceAdd, Nat.reduceMul, Nat.reduceLT, Nat.reduceLeDiff, Nat.reduceSub, reduceCtorEq, Int.reduceToNat, Int.reduceLT, Int.reduceLE, Int.reduceNeg, f5]) (by simp -implicitDefEqProofs only [VV, Ic.t, Ic.ci, ne_eq, eq_self, not_true_eq_false, bd_both, Nat.reduceEqDiff, reduceIte, Nat.reduceAdd, Nat.reduceMul, Nat.reduceLT, Nat.reduceLeDiff, Nat.reduceSub, reduceCtorEq, Int.reduceToNat, Int.reduceLT, Int.reduceLE, Int.reduceNeg, f6]) (by simp -implicitDefEqProofs only [VV, Ic.t, Ic.ci, ne_eq, eq_self, not_true_eq_false, bd_both, Nat.reduceEqDiff, reduceIte, Nat.reduceAdd, Nat.reduceMul, Nat.reduceLT, Nat.reduceLeDiff, Nat.reduceSub, reduceCtorEq, Int.reduceToNat, Int.reduceLT, Int.reduceLE, Int.reduceNeg, f7])
end Go.Proofs.Ytoaohoilkfbdgaa
