/- What the document's disk does: as the program's. -/
import Derived.Test.YtoaohoilkfbdgaaDisk3
import Derived.Test.YtoaohoilkfbdgaaShI
set_option linter.unusedSimpArgs false
set_option linter.unusedVariables false
namespace Go.Proofs.Ytoaohoilkfbdgaa
open Go Go.RowKit Sh Ic

structure Rf where
  size : Nat
  last : ByteArray
  new : Bool
  put : ByteArray
  more : ByteArray
def Rf.cells (r : Rf) : List Value := [.int .i64 r.size, .string r.last, .bool r.new, .string r.put, .string r.more]
def Rf.base (r : Rf) : ByteArray := if r.new then r.put else r.last
def Rf.text (r : Rf) : ByteArray := r.base ++ r.more
def Rf.dk (r : Rf) : Dk := ⟨r.size, r.base.size, r.last, r.text, r.new⟩
def Rf.OK (r : Rf) : Prop := r.dk.OK
theorem Rf.text_size (r : Rf) : r.text.size = r.base.size + r.more.size := ByteArray.size_append
theorem Rf.base_new {r : Rf} (h : r.new = true) : r.base = r.put := by simp [Rf.base, h]
theorem Rf.base_old {r : Rf} (h : r.new = false) : r.base = r.last := by simp [Rf.base, h]
def Rf.append (r : Rf) (s : ByteArray) : Rf := if r.dk.fits s then { r with more := r.more ++ s } else r
def Rf.replace (r : Rf) (s : ByteArray) : Rf := if r.dk.room s then { r with new := true, put := s, more := ⟨#[]⟩ } else r
def Rf.sync (r : Rf) : Rf := ⟨r.size, r.text, false, ⟨#[]⟩, ⟨#[]⟩⟩
def Rf.crash (r : Rf) (k : Int) : Rf :=
  if r.new then if r.dk.cut k = 0 then ⟨r.size, r.last, false, ⟨#[]⟩, ⟨#[]⟩⟩ else ⟨r.size, r.put ++ r.more.extract 0 (r.dk.cut k - 1), false, ⟨#[]⟩, ⟨#[]⟩⟩
  else ⟨r.size, r.last ++ r.more.extract 0 (r.dk.cut k), false, ⟨#[]⟩, ⟨#[]⟩⟩

theorem app_nil (s : ByteArray) : s ++ ⟨#[]⟩ = s := ByteArray.append_empty
theorem Rf.dk_append (r : Rf) (s : ByteArray) : (r.append s).dk = r.dk.append s := by
  unfold Rf.append Dk.append
  split
  · simp only [Rf.dk, Rf.text, Rf.base, Dk.mk.injEq, true_and, and_true]
    exact (ByteArray.append_assoc ..).symm
  · rfl
theorem Rf.dk_replace (r : Rf) (s : ByteArray) : (r.replace s).dk = r.dk.replace s := by
  unfold Rf.replace Dk.replace
  split
  · simp [Rf.dk, Rf.text, Rf.base, app_nil]
  · rfl
theorem Rf.dk_sync (r : Rf) : r.sync.dk = r.dk.settle := by
  simp [Rf.dk, Rf.text, Rf.base, Rf.sync, Dk.settle, app_nil]
theorem Rf.dk_crash (r : Rf) (h : r.OK) (k : Int) : (r.crash k).dk = r.dk.crash k := by
  have hc : r.dk.cut k ≤ r.dk.waits := by unfold Dk.cut; split <;> omega
  have hw : r.dk.waits = r.more.size + r.dk.one := by
    unfold Dk.waits
    show (r.text.size - r.base.size) + r.dk.one = _
    rw [Rf.text_size]; omega
  have hs : r.dk.one = if r.new then 1 else 0 := rfl
  have hn : r.dk.now = r.base ++ r.more := rfl
  have hf : r.dk.f = r.base.size := rfl
  have hrp : r.dk.rep = r.new := rfl
  unfold Rf.crash Dk.crash
  rw [hrp, hn, hf]
  generalize r.dk.cut k = c at hc ⊢
  rw [hw] at hc
  cases hr : r.new
  · rw [hr] at hs
    simp only [Bool.false_eq_true, if_false, Bool.false_and] at hs ⊢
    rw [hs] at hc ⊢
    rw [Nat.sub_zero, extract_append _ _ _ (by omega), Rf.base_old hr]
    simp [Rf.dk, Rf.text, Rf.base, Dk.settle, app_nil]
  · rw [hr] at hs
    simp only [if_true, Bool.true_and, beq_iff_eq] at hs ⊢
    split
    · simp [Rf.dk, Rf.text, Rf.base, Dk.settle, app_nil]
    · rename_i hz
      rw [hs] at hc ⊢
      have e : r.base.size + c - 1 = r.base.size + (c - 1) := by omega
      rw [e, extract_append _ _ _ (by omega), Rf.base_new hr]
      simp [Rf.dk, Rf.text, Rf.base, Dk.settle, app_nil]
theorem Rf.OK.text {r : Rf} (h : r.OK) : r.base.size + r.more.size ≤ 1048576 := by
  have h1 : r.text.size ≤ r.size := h.now
  have h2 : r.size ≤ 1048576 := h.size
  rw [Rf.text_size] at h1
  omega

section
variable (g : Nat) (r : Rf) (σ : Heap) (hg : σ.at g = .cells T_handselref15_D r.cells true) (Post : Value → Heap → Prop)
include hg
theorem TextR_ok (hr : r.OK) (h : Post (.string r.text) σ) : CallOK Try.prog F_handselref15_D_Text [.pointer (some ⟨g, 0, none⟩)] σ Post := by
  refine callOK_fn c_handselref15_D_Text (by simp) ?_
  have ht := hr.text
  unfold Rf.text at h
  cases hn : r.new
  · rw [Rf.base_old hn] at h ht
    have hlt : ¬ ((9223372036854775807 : Int) < ((r.last.size + r.more.size : Nat) : Int)) := by omega
    simp -implicitDefEqProofs only [ic_handselref15_D_Text, o_handselref15_D_Text_0, o_handselref15_D_Text_1, o_handselref15_D_Text_2, o_handselref15_D_Text_3, VV, Ic.t, Ic.ci, ne_eq, eq_self, not_true_eq_false, bd_both, Nat.reduceEqDiff, reduceIte, Nat.reduceAdd, Nat.reduceMul, Nat.reduceLT, Nat.reduceLeDiff, Nat.reduceSub, reduceCtorEq, Int.reduceToNat, Int.reduceLT, Int.reduceLE, Int.reduceNeg, hg, argFr_at, Rf.cells, hn, hlt]
    exact h
  · rw [Rf.base_new hn] at h ht
    have hlt : ¬ ((9223372036854775807 : Int) < ((r.put.size + r.more.size : Nat) : Int)) := by omega
    simp -implicitDefEqProofs only [ic_handselref15_D_Text, o_handselref15_D_Text_0, o_handselref15_D_Text_1, o_handselref15_D_Text_2, o_handselref15_D_Text_3, VV, Ic.t, Ic.ci, ne_eq, eq_self, not_true_eq_false, bd_both, Nat.reduceEqDiff, reduceIte, Nat.reduceAdd, Nat.reduceMul, Nat.reduceLT, Nat.reduceLeDiff, Nat.reduceSub, reduceCtorEq, Int.reduceToNat, Int.reduceLT, Int.reduceLE, Int.reduceNeg, hg, argFr_at, Rf.cells, hn, hlt]
    exact h
theorem WaitsR_ok (hr : r.OK) (h : Post (.int .i64 r.dk.waits) σ) : CallOK Try.prog F_handselref15_D_Waits [.pointer (some ⟨g, 0, none⟩)] σ Post := by
  refine callOK_fn c_handselref15_D_Waits (by simp) ?_
  have ht := hr.text
  have hw : r.dk.waits = r.more.size + r.dk.one := by
    unfold Dk.waits
    show (r.text.size - r.base.size) + r.dk.one = _
    rw [Rf.text_size]; omega
  have ho : r.dk.one = if r.new then 1 else 0 := rfl
  cases hn : r.new
  · rw [hn] at ho
    have e : ((r.more.size : Nat) : Int) = r.dk.waits := by rw [hw, ho]; simp
    simp -implicitDefEqProofs only [ic_handselref15_D_Waits, o_handselref15_D_Waits_0, o_handselref15_D_Waits_1, o_handselref15_D_Waits_2, o_handselref15_D_Waits_3, VV, Ic.t, Ic.ci, ne_eq, eq_self, not_true_eq_false, bd_both, Nat.reduceEqDiff, reduceIte, Nat.reduceAdd, Nat.reduceMul, Nat.reduceLT, Nat.reduceLeDiff, Nat.reduceSub, reduceCtorEq, Int.reduceToNat, Int.reduceLT, Int.reduceLE, Int.reduceNeg, hg, argFr_at, Rf.cells, hn, e]
    exact h
  · rw [hn] at ho
    have e : IntKind.i64.wrap ((r.more.size : Int) + 1) = r.dk.waits := by rw [w64 (by omega) (by omega), hw, ho]; simp
    simp -implicitDefEqProofs only [ic_handselref15_D_Waits, o_handselref15_D_Waits_0, o_handselref15_D_Waits_1, o_handselref15_D_Waits_2, o_handselref15_D_Waits_3, VV, Ic.t, Ic.ci, ne_eq, eq_self, not_true_eq_false, bd_both, Nat.reduceEqDiff, reduceIte, Nat.reduceAdd, Nat.reduceMul, Nat.reduceLT, Nat.reduceLeDiff, Nat.reduceSub, reduceCtorEq, Int.reduceToNat, Int.reduceLT, Int.reduceLE, Int.reduceNeg, hg, argFr_at, Rf.cells, hn, e]
    exact h
theorem AppendR_ok (hr : r.OK) (s : ByteArray) (h : Post (.bool (r.dk.fits s)) (if r.dk.fits s then σ.put g T_handselref15_D (r.append s).cells else σ)) :
    CallOK Try.prog F_handselref15_D_Append [.pointer (some ⟨g, 0, none⟩), .string s] σ Post := by
  refine callOK_fn c_handselref15_D_Append (by simp) ?_
  have ht := hr.text
  have hts := r.text_size
  have h1 : r.text.size ≤ r.size := hr.now
  have h2 : r.size ≤ 1048576 := hr.size
  have hd : r.dk.fits s = decide (s.size + r.text.size ≤ r.size) := rfl
  have e1 : IntKind.i64.wrap ((r.size : Int) - r.text.size) = (r.size : Int) - r.text.size := w64 (by omega) (by omega)
  simp -implicitDefEqProofs only [ic_handselref15_D_Append, o_handselref15_D_Append_0, o_handselref15_D_Append_1, o_handselref15_D_Append_2, o_handselref15_D_Append_3, o_handselref15_D_Append_4, VV, Ic.t, Ic.ci, ne_eq, eq_self, not_true_eq_false, bd_both, Nat.reduceEqDiff, reduceIte, Nat.reduceAdd, Nat.reduceMul, Nat.reduceLT, Nat.reduceLeDiff, Nat.reduceSub, reduceCtorEq, Int.reduceToNat, Int.reduceLT, Int.reduceLE, Int.reduceNeg, hg, argFr_at, Rf.cells]
  refine TextR_ok g r σ hg _ hr ⟨.refl _, ?_⟩
  cases hf : r.dk.fits s
  · rw [hf] at h hd
    have c1 : (r.size : Int) - r.text.size < s.size := by have := of_decide_eq_false hd.symm; omega
    simp -implicitDefEqProofs only [VV, Ic.t, Ic.ci, ne_eq, eq_self, not_true_eq_false, bd_both, Nat.reduceEqDiff, reduceIte, Nat.reduceAdd, Nat.reduceMul, Nat.reduceLT, Nat.reduceLeDiff, Nat.reduceSub, reduceCtorEq, Int.reduceToNat, Int.reduceLT, Int.reduceLE, Int.reduceNeg, argFr_at, e1, c1]
    simpa using h
  · rw [hf] at h hd
    have c1 : ¬ ((r.size : Int) - r.text.size < s.size) := by have := of_decide_eq_true hd.symm; omega
    have c2 : ¬ ((9223372036854775807 : Int) < ((r.more.size + s.size : Nat) : Int)) := by have := of_decide_eq_true hd.symm; omega
    simp -implicitDefEqProofs only [VV, Ic.t, Ic.ci, ne_eq, eq_self, not_true_eq_false, bd_both, Nat.reduceEqDiff, reduceIte, Nat.reduceAdd, Nat.reduceMul, Nat.reduceLT, Nat.reduceLeDiff, Nat.reduceSub, reduceCtorEq, Int.reduceToNat, Int.reduceLT, Int.reduceLE, Int.reduceNeg, argFr_at, e1, c1, hg, Rf.cells, c2]
    simp only [if_true, Rf.append, hf, Rf.cells] at h
    exact h
theorem ReplaceR_ok (s : ByteArray) (h : Post (.bool (r.dk.room s)) (if r.dk.room s then σ.put g T_handselref15_D (r.replace s).cells else σ)) :
    CallOK Try.prog F_handselref15_D_Replace [.pointer (some ⟨g, 0, none⟩), .string s] σ Post := by
  refine callOK_fn c_handselref15_D_Replace (by simp) ?_
  have hd : r.dk.room s = decide (s.size ≤ r.size) := rfl
  have hl := loc_lt hg
  cases hf : r.dk.room s
  · rw [hf] at h hd
    have c1 : (r.size : Int) < s.size := by have := of_decide_eq_false hd.symm; omega
    simp -implicitDefEqProofs only [ic_handselref15_D_Replace, o_handselref15_D_Replace_0, o_handselref15_D_Replace_1, o_handselref15_D_Replace_2, o_handselref15_D_Replace_3, o_handselref15_D_Replace_4, VV, Ic.t, Ic.ci, ne_eq, eq_self, not_true_eq_false, bd_both, Nat.reduceEqDiff, reduceIte, Nat.reduceAdd, Nat.reduceMul, Nat.reduceLT, Nat.reduceLeDiff, Nat.reduceSub, reduceCtorEq, Int.reduceToNat, Int.reduceLT, Int.reduceLE, Int.reduceNeg, argFr_at, hg, Rf.cells, c1]
    simpa using h
  · rw [hf] at h hd
    have c1 : ¬ ((r.size : Int) < s.size) := by have := of_decide_eq_true hd.symm; omega
    simp -implicitDefEqProofs only [ic_handselref15_D_Replace, o_handselref15_D_Replace_0, o_handselref15_D_Replace_1, o_handselref15_D_Replace_2, o_handselref15_D_Replace_3, o_handselref15_D_Replace_4, VV, Ic.t, Ic.ci, ne_eq, eq_self, not_true_eq_false, bd_both, Nat.reduceEqDiff, reduceIte, Nat.reduceAdd, Nat.reduceMul, Nat.reduceLT, Nat.reduceLeDiff, Nat.reduceSub, reduceCtorEq, Int.reduceToNat, Int.reduceLT, Int.reduceLE, Int.reduceNeg, argFr_at, c1, hg, Rf.cells, at_put hl, put_put]
    simp only [if_true, Rf.replace, hf, Rf.cells] at h
    exact h
theorem SyncR_ok (hr : r.OK) (h : Post undef (σ.put g T_handselref15_D r.sync.cells)) : CallOK Try.prog F_handselref15_D_Sync [.pointer (some ⟨g, 0, none⟩)] σ Post := by
  refine callOK_fn c_handselref15_D_Sync (by simp) ?_
  have hl := loc_lt hg
  simp -implicitDefEqProofs only [ic_handselref15_D_Sync, o_handselref15_D_Sync_0, o_handselref15_D_Sync_1, VV, Ic.t, Ic.ci, ne_eq, eq_self, not_true_eq_false, bd_both, Nat.reduceEqDiff, reduceIte, Nat.reduceAdd, Nat.reduceMul, Nat.reduceLT, Nat.reduceLeDiff, Nat.reduceSub, reduceCtorEq, Int.reduceToNat, Int.reduceLT, Int.reduceLE, Int.reduceNeg, hg, argFr_at, Rf.cells]
  refine TextR_ok g r σ hg _ hr ?_
  simp -implicitDefEqProofs only [VV, Ic.t, Ic.ci, ne_eq, eq_self, not_true_eq_false, bd_both, Nat.reduceEqDiff, reduceIte, Nat.reduceAdd, Nat.reduceMul, Nat.reduceLT, Nat.reduceLeDiff, Nat.reduceSub, reduceCtorEq, Int.reduceToNat, Int.reduceLT, Int.reduceLE, Int.reduceNeg, hg, argFr_at, Rf.cells, at_put hl, put_put]
  exact h
theorem CrashR_ok (hr : r.OK) (k : Int) (h : Post undef (σ.put g T_handselref15_D (r.crash k).cells)) : CallOK Try.prog F_handselref15_D_Crash [.pointer (some ⟨g, 0, none⟩), .int .i64 k] σ Post := by
  refine callOK_fn c_handselref15_D_Crash (by simp) ?_
  have hl := loc_lt hg
  have ht := hr.text
  have hc : r.dk.cut k ≤ r.dk.waits := by unfold Dk.cut; split <;> omega
  have hw : r.dk.waits = r.more.size + r.dk.one := by
    unfold Dk.waits
    show (r.text.size - r.base.size) + r.dk.one = _
    rw [Rf.text_size]; omega
  have ho : r.dk.one = if r.new then 1 else 0 := rfl
  have ek : (if (r.dk.waits : Int) < (if k < 0 then 0 else k) then (r.dk.waits : Int) else (if k < 0 then 0 else k)) = (r.dk.cut k : Int) := by
    unfold Dk.cut
    split <;> split <;> omega
  simp -implicitDefEqProofs only [ic_handselref15_D_Crash, o_handselref15_D_Crash_0, o_handselref15_D_Crash_1, o_handselref15_D_Crash_2, o_handselref15_D_Crash_3, o_handselref15_D_Crash_4, o_handselref15_D_Crash_5, VV, Ic.t, Ic.ci, ne_eq, eq_self, not_true_eq_false, bd_both, Nat.reduceEqDiff, reduceIte, Nat.reduceAdd, Nat.reduceMul, Nat.reduceLT, Nat.reduceLeDiff, Nat.reduceSub, reduceCtorEq, Int.reduceToNat, Int.reduceLT, Int.reduceLE, Int.reduceNeg, hg, argFr_at, Rf.cells]
  refine WaitsR_ok g r σ hg _ hr ?_
  unfold Rf.crash at h
  cases hn : r.new
  · rw [hn] at h ho
    simp only [Bool.false_eq_true, if_false] at ho h
    rw [Rf.base_old hn] at ht
    have r1 : (0 : Int) ≤ (r.dk.cut k : Int) ∧ (r.dk.cut k : Int) ≤ (r.more.size : Nat) := by omega
    have hlt : ¬ ((9223372036854775807 : Int) < ((r.last.size + (r.more.extract 0 (r.dk.cut k)).size : Nat) : Int)) := by rw [ByteArray.size_extract]; omega
    simp -implicitDefEqProofs only [ic_handselref15_D_Crash, o_handselref15_D_Crash_0, o_handselref15_D_Crash_1, o_handselref15_D_Crash_2, o_handselref15_D_Crash_3, o_handselref15_D_Crash_4, o_handselref15_D_Crash_5, VV, Ic.t, Ic.ci, ne_eq, eq_self, not_true_eq_false, bd_both, Nat.reduceEqDiff, reduceIte, Nat.reduceAdd, Nat.reduceMul, Nat.reduceLT, Nat.reduceLeDiff, Nat.reduceSub, reduceCtorEq, Int.reduceToNat, Int.reduceLT, Int.reduceLE, Int.reduceNeg, hg, argFr_at, Rf.cells, hn, ek, r1, hlt, at_put hl, put_put]
    exact h
  · rw [hn] at h ho
    simp only [if_true] at ho h
    rw [Rf.base_new hn] at ht
    by_cases hz : r.dk.cut k = 0
    · rw [if_pos hz] at h
      have z1 : ¬ ((0 : Int) < (r.dk.cut k : Int)) := by omega
      simp -implicitDefEqProofs only [ic_handselref15_D_Crash, o_handselref15_D_Crash_0, o_handselref15_D_Crash_1, o_handselref15_D_Crash_2, o_handselref15_D_Crash_3, o_handselref15_D_Crash_4, o_handselref15_D_Crash_5, VV, Ic.t, Ic.ci, ne_eq, eq_self, not_true_eq_false, bd_both, Nat.reduceEqDiff, reduceIte, Nat.reduceAdd, Nat.reduceMul, Nat.reduceLT, Nat.reduceLeDiff, Nat.reduceSub, reduceCtorEq, Int.reduceToNat, Int.reduceLT, Int.reduceLE, Int.reduceNeg, hg, argFr_at, Rf.cells, hn, ek, z1, at_put hl, put_put]
      exact h
    · rw [if_neg hz] at h
      have z1 : (0 : Int) < (r.dk.cut k : Int) := by omega
      have e1 : IntKind.i64.wrap ((r.dk.cut k : Int) - 1) = ((r.dk.cut k - 1 : Nat) : Int) := by rw [w64 (by omega) (by omega)]; omega
      have r1 : (0 : Int) ≤ ((r.dk.cut k - 1 : Nat) : Int) ∧ ((r.dk.cut k - 1 : Nat) : Int) ≤ (r.more.size : Nat) := by omega
      have hlt : ¬ ((9223372036854775807 : Int) < ((r.put.size + (r.more.extract 0 (r.dk.cut k - 1)).size : Nat) : Int)) := by rw [ByteArray.size_extract]; omega
      simp -implicitDefEqProofs only [ic_handselref15_D_Crash, o_handselref15_D_Crash_0, o_handselref15_D_Crash_1, o_handselref15_D_Crash_2, o_handselref15_D_Crash_3, o_handselref15_D_Crash_4, o_handselref15_D_Crash_5, VV, Ic.t, Ic.ci, ne_eq, eq_self, not_true_eq_false, bd_both, Nat.reduceEqDiff, reduceIte, Nat.reduceAdd, Nat.reduceMul, Nat.reduceLT, Nat.reduceLeDiff, Nat.reduceSub, reduceCtorEq, Int.reduceToNat, Int.reduceLT, Int.reduceLE, Int.reduceNeg, hg, argFr_at, Rf.cells, hn, ek, z1, e1, r1, hlt, at_put hl, put_put]
      exact h
end
theorem NewR_ok (size : Int) (σ : Heap) (Post : Value → Heap → Prop) (h : Post (.pointer (some ⟨σ.next, 0, none⟩)) (σ.push (.cells T_handselref15_D (Rf.cells ⟨(min size 1048576).toNat, ⟨#[]⟩, false, ⟨#[]⟩, ⟨#[]⟩⟩) true))) : CallOK Try.prog F_handselref15_New [.int .i64 size] σ Post := by
  refine callOK_fn c_handselref15_New (by simp) ?_
  have e : (if 1048576 < (if size < 0 then 0 else size) then 1048576 else (if size < 0 then 0 else size)) = (((min size 1048576).toNat : Nat) : Int) := by
    split <;> split <;> omega
  simp -implicitDefEqProofs only [ic_handselref15_New, o_handselref15_New_0, o_handselref15_New_1, VV, Ic.t, Ic.ci, ne_eq, eq_self, not_true_eq_false, bd_both, Nat.reduceEqDiff, reduceIte, Nat.reduceAdd, Nat.reduceMul, Nat.reduceLT, Nat.reduceLeDiff, Nat.reduceSub, reduceCtorEq, Int.reduceToNat, Int.reduceLT, Int.reduceLE, Int.reduceNeg, argFr_at, e]
  exact h
end Go.Proofs.Ytoaohoilkfbdgaa
