/- What the disk's functions do. -/
import Derived.Test.YtoaohoilkfbdgaaIcT
import Derived.Test.YtoaohoilkfbdgaaShX
set_option linter.unusedSimpArgs false
set_option linter.unusedVariables false
namespace Go.Proofs.Ytoaohoilkfbdgaa
open Go Go.RowKit Sh Ic

/-- Place's number. -/
def placeI (v n : Int) : Int := if v.tmod n < 0 then v.tmod n + n else v.tmod n
theorem placeI_eq {v n : Int} (hn : 0 < n) : placeI v n = v % n := by
  unfold placeI
  have h2 := Int.emod_nonneg v (Int.ne_of_gt hn)
  have h3 := Int.emod_lt_of_pos v hn
  rw [Int.tmod_eq_emod]
  rcases Int.lt_or_le v 0 with h | h
  · by_cases hd : n ∣ v
    · have := Int.emod_eq_zero_of_dvd hd
      simp [hd, this]
    · have e : ¬ (0 ≤ v ∨ n ∣ v) := by omega
      have e2 : (n.natAbs : Int) = n := by omega
      have : v % n ≠ 0 := fun h => hd (Int.dvd_of_emod_eq_zero h)
      rw [if_neg e, e2]
      split <;> omega
  · rw [if_pos (Or.inl h)]
    split <;> omega
theorem Place_ok (v n : Int) (hn : 0 < n) (hn2 : n ≤ 4611686018427387904) (σ : Heap) (Post : Value → Heap → Prop) (h : Post (.int .i64 (v % n)) σ) : CallOK Try.prog F_handsellaw00_Place [.int .i64 v, .int .i64 n] σ Post := by
  refine callOK_fn c_handsellaw00_Place (by simp) ?_
  have hp := placeI_eq (v := v) hn
  unfold placeI at hp
  have h0 : n ≠ 0 := by omega
  have h4 := Int.emod_lt_of_pos v hn
  have h5 := Int.emod_nonneg v h0
  have hw : v.tmod n < 0 → IntKind.i64.wrap (v.tmod n + n) = v % n := fun h => by
    rw [if_pos h] at hp; rw [hp]; exact w64 (by omega) (by omega)
  simp -implicitDefEqProofs only [ic_handsellaw00_Place, o_handsellaw00_Place_0, o_handsellaw00_Place_1, o_handsellaw00_Place_2, o_handsellaw00_Place_3, o_handsellaw00_Place_4, VV, Ic.t, Ic.ci, ne_eq, eq_self, not_true_eq_false, bd_both, Nat.reduceEqDiff, reduceIte, Nat.reduceAdd, Nat.reduceMul, Nat.reduceLT, Nat.reduceLeDiff, Nat.reduceSub, reduceCtorEq, Int.reduceToNat, Int.reduceLT, Int.reduceLE, Int.reduceNeg, argFr_at, h0]
  refine cK_dec _ _ _ _ _ _ _ (fun hc => ?_) fun hc => ?_
  · simp -implicitDefEqProofs only [ic_handsellaw00_Place, o_handsellaw00_Place_0, o_handsellaw00_Place_1, o_handsellaw00_Place_2, o_handsellaw00_Place_3, o_handsellaw00_Place_4, VV, Ic.t, Ic.ci, ne_eq, eq_self, not_true_eq_false, bd_both, Nat.reduceEqDiff, reduceIte, Nat.reduceAdd, Nat.reduceMul, Nat.reduceLT, Nat.reduceLeDiff, Nat.reduceSub, reduceCtorEq, Int.reduceToNat, Int.reduceLT, Int.reduceLE, Int.reduceNeg, argFr_at, hw hc]
    exact h
  · rw [if_neg hc] at hp
    simp -implicitDefEqProofs only [ic_handsellaw00_Place, o_handsellaw00_Place_0, o_handsellaw00_Place_1, o_handsellaw00_Place_2, o_handsellaw00_Place_3, o_handsellaw00_Place_4, VV, Ic.t, Ic.ci, ne_eq, eq_self, not_true_eq_false, bd_both, Nat.reduceEqDiff, reduceIte, Nat.reduceAdd, Nat.reduceMul, Nat.reduceLT, Nat.reduceLeDiff, Nat.reduceSub, reduceCtorEq, Int.reduceToNat, Int.reduceLT, Int.reduceLE, Int.reduceNeg, argFr_at, hp]
    exact h

/-- A disk. -/
structure Dk where
  size : Nat
  f : Nat
  lasts : ByteArray
  now : ByteArray
  rep : Bool
def Dk.cells (d : Dk) : List Value := [.int .i64 d.size, .string d.lasts, .string d.now, .int .i64 d.f, .bool d.rep]
structure Dk.OK (d : Dk) : Prop where
  size : d.size ≤ 1048576
  now : d.now.size ≤ d.size
  f : d.f ≤ d.now.size
  lasts : d.lasts.size ≤ d.size
def Dk.one (d : Dk) : Nat := if d.rep then 1 else 0
def Dk.waits (d : Dk) : Nat := d.now.size - d.f + d.one
def Dk.fits (d : Dk) (s : ByteArray) : Bool := decide (s.size + d.now.size ≤ d.size)
def Dk.append (d : Dk) (s : ByteArray) : Dk := if d.fits s then { d with now := d.now ++ s } else d
def Dk.room (d : Dk) (s : ByteArray) : Bool := decide (s.size ≤ d.size)
def Dk.replace (d : Dk) (s : ByteArray) : Dk := if d.room s then { d with now := s, f := s.size, rep := true } else d
def Dk.settle (d : Dk) : Dk := { size := d.size, lasts := d.now, now := d.now, f := d.now.size, rep := false }
def Dk.cut (d : Dk) (k : Int) : Nat := if k < 0 then 0 else min k.toNat d.waits
def Dk.crash (d : Dk) (k : Int) : Dk :=
  if d.rep && d.cut k == 0 then { d with now := d.lasts }.settle else { d with now := d.now.extract 0 (d.f + d.cut k - d.one) }.settle
def Dk.new (size : Int) : Dk := { size := (min size 1048576).toNat, f := 0, lasts := ⟨#[]⟩, now := ⟨#[]⟩, rep := false }

theorem cut_eq (d : Dk) (k : Int) : (if 0 < (if (d.waits : Int) < k then (d.waits : Int) else k) then (if (d.waits : Int) < k then (d.waits : Int) else k) else 0) = (d.cut k : Int) := by
  unfold Dk.cut
  split <;> split <;> split <;> omega
section
variable (g : Nat) (d : Dk) (σ : Heap) (hg : σ.at g = .cells T_disk_Disk d.cells true) (Post : Value → Heap → Prop)
include hg
theorem one_ok (h : Post (.int .i64 d.one) σ) : CallOK Try.prog F_disk_pages_one [.pointer (some ⟨g, 1, none⟩)] σ Post := by
  refine callOK_fn c_disk_pages_one (by simp) ?_
  unfold Dk.one at h
  cases hr : d.rep
  · simp -implicitDefEqProofs only [ic_disk_pages_one, o_disk_pages_one_0, o_disk_pages_one_1, o_disk_pages_one_2, o_disk_pages_one_3, VV, Ic.t, Ic.ci, ne_eq, eq_self, not_true_eq_false, bd_both, Nat.reduceEqDiff, reduceIte, Nat.reduceAdd, Nat.reduceMul, Nat.reduceLT, Nat.reduceLeDiff, Nat.reduceSub, reduceCtorEq, Int.reduceToNat, Int.reduceLT, Int.reduceLE, Int.reduceNeg, hg, argFr_at, Dk.cells, hr]
    rw [hr] at h
    exact h
  · simp -implicitDefEqProofs only [ic_disk_pages_one, o_disk_pages_one_0, o_disk_pages_one_1, o_disk_pages_one_2, o_disk_pages_one_3, VV, Ic.t, Ic.ci, ne_eq, eq_self, not_true_eq_false, bd_both, Nat.reduceEqDiff, reduceIte, Nat.reduceAdd, Nat.reduceMul, Nat.reduceLT, Nat.reduceLeDiff, Nat.reduceSub, reduceCtorEq, Int.reduceToNat, Int.reduceLT, Int.reduceLE, Int.reduceNeg, hg, argFr_at, Dk.cells, hr]
    rw [hr] at h
    exact h
theorem Waits_ok (hd : d.OK) (h : Post (.int .i64 d.waits) σ) : CallOK Try.prog F_disk_Disk_Waits [.pointer (some ⟨g, 0, none⟩)] σ Post := by
  refine callOK_fn c_disk_Disk_Waits (by simp) ?_
  have := hd.size; have := hd.now; have := hd.f
  have o1 : d.one ≤ 1 := by unfold Dk.one; split <;> omega
  have h1 : IntKind.i64.wrap ((d.now.size : Int) - d.f) = ((d.now.size - d.f : Nat) : Int) := by rw [w64 (by omega) (by omega)]; omega
  have h2 : IntKind.i64.wrap (((d.now.size - d.f : Nat) : Int) + d.one) = d.waits := by unfold Dk.waits; rw [w64 (by omega) (by omega)]; omega
  simp -implicitDefEqProofs only [ic_disk_Disk_Waits, o_disk_Disk_Waits_0, o_disk_Disk_Waits_1, VV, Ic.t, Ic.ci, ne_eq, eq_self, not_true_eq_false, bd_both, Nat.reduceEqDiff, reduceIte, Nat.reduceAdd, Nat.reduceMul, Nat.reduceLT, Nat.reduceLeDiff, Nat.reduceSub, reduceCtorEq, Int.reduceToNat, Int.reduceLT, Int.reduceLE, Int.reduceNeg, hg, argFr_at, Dk.cells, h1]
  refine one_ok g d σ hg _ ⟨.refl _, ?_⟩
  simp -implicitDefEqProofs only [VV, Ic.t, Ic.ci, ne_eq, eq_self, not_true_eq_false, bd_both, Nat.reduceEqDiff, reduceIte, Nat.reduceAdd, Nat.reduceMul, Nat.reduceLT, Nat.reduceLeDiff, Nat.reduceSub, reduceCtorEq, Int.reduceToNat, Int.reduceLT, Int.reduceLE, Int.reduceNeg, argFr_at, h2]
  exact h
theorem Text_ok (h : Post (.string d.now) σ) : CallOK Try.prog F_disk_Disk_Text [.pointer (some ⟨g, 0, none⟩)] σ Post := by
  refine callOK_fn c_disk_Disk_Text (by simp) ?_
  simp -implicitDefEqProofs only [ic_disk_Disk_Text, o_disk_Disk_Text_0, o_disk_Disk_Text_1, VV, Ic.t, Ic.ci, ne_eq, eq_self, not_true_eq_false, bd_both, Nat.reduceEqDiff, reduceIte, Nat.reduceAdd, Nat.reduceMul, Nat.reduceLT, Nat.reduceLeDiff, Nat.reduceSub, reduceCtorEq, Int.reduceToNat, Int.reduceLT, Int.reduceLE, Int.reduceNeg, hg, argFr_at, Dk.cells]
  exact h
theorem settle_ok (h : Post undef (σ.put g T_disk_Disk d.settle.cells)) : CallOK Try.prog F_disk_pages_settle [.pointer (some ⟨g, 1, none⟩)] σ Post := by
  refine callOK_fn c_disk_pages_settle (by simp) ?_
  simp -implicitDefEqProofs only [ic_disk_pages_settle, o_disk_pages_settle_0, VV, Ic.t, Ic.ci, ne_eq, eq_self, not_true_eq_false, bd_both, Nat.reduceEqDiff, reduceIte, Nat.reduceAdd, Nat.reduceMul, Nat.reduceLT, Nat.reduceLeDiff, Nat.reduceSub, reduceCtorEq, Int.reduceToNat, Int.reduceLT, Int.reduceLE, Int.reduceNeg, hg, argFr_at, Dk.cells]
  exact h
theorem Sync_ok (h : Post undef (σ.put g T_disk_Disk d.settle.cells)) : CallOK Try.prog F_disk_Disk_Sync [.pointer (some ⟨g, 0, none⟩)] σ Post := by
  refine callOK_fn c_disk_Disk_Sync (by simp) ?_
  simp -implicitDefEqProofs only [ic_disk_Disk_Sync, o_disk_Disk_Sync_0, VV, Ic.t, Ic.ci, ne_eq, eq_self, not_true_eq_false, bd_both, Nat.reduceEqDiff, reduceIte, Nat.reduceAdd, Nat.reduceMul, Nat.reduceLT, Nat.reduceLeDiff, Nat.reduceSub, reduceCtorEq, Int.reduceToNat, Int.reduceLT, Int.reduceLE, Int.reduceNeg, hg, argFr_at, Dk.cells]
  refine settle_ok g d σ hg _ ?_
  simp -implicitDefEqProofs only [VV, Ic.t, Ic.ci, ne_eq, eq_self, not_true_eq_false, bd_both, Nat.reduceEqDiff, reduceIte, Nat.reduceAdd, Nat.reduceMul, Nat.reduceLT, Nat.reduceLeDiff, Nat.reduceSub, reduceCtorEq, Int.reduceToNat, Int.reduceLT, Int.reduceLE, Int.reduceNeg, argFr_at]
  exact h
theorem Append_ok (hd : d.OK) (s : ByteArray) (h : d.fits s = true → Post (.bool true) (σ.put g T_disk_Disk (d.append s).cells)) (hs : d.fits s = false → Post (.bool false) σ) :
    CallOK Try.prog F_disk_Disk_Append [.pointer (some ⟨g, 0, none⟩), .string s] σ Post := by
  refine callOK_fn c_disk_Disk_Append (by simp) ?_
  have := hd.size; have := hd.now; have := hd.f
  have h1 : IntKind.i64.wrap ((d.size : Int) - d.now.size) = (d.size : Int) - d.now.size := w64 (by omega) (by omega)
  by_cases c : d.fits s = true
  · have c1 : ¬ ((d.size : Int) - d.now.size < s.size) := by have := of_decide_eq_true c; omega
    have c2 : ¬ ((9223372036854775807 : Int) < ((d.now.size + s.size : Nat) : Int)) := by have := of_decide_eq_true c; omega
    simp -implicitDefEqProofs only [ic_disk_Disk_Append, o_disk_Disk_Append_0, o_disk_Disk_Append_1, o_disk_Disk_Append_2, o_disk_Disk_Append_3, o_disk_Disk_Append_4, VV, Ic.t, Ic.ci, ne_eq, eq_self, not_true_eq_false, bd_both, Nat.reduceEqDiff, reduceIte, Nat.reduceAdd, Nat.reduceMul, Nat.reduceLT, Nat.reduceLeDiff, Nat.reduceSub, reduceCtorEq, Int.reduceToNat, Int.reduceLT, Int.reduceLE, Int.reduceNeg, hg, argFr_at, Dk.cells, h1, c1, c2]
    have h := h c
    simp only [Dk.append, c, if_true, Dk.cells] at h
    exact h
  · have c0 : d.fits s = false := by simpa using c
    have c1 : (d.size : Int) - d.now.size < s.size := by have := of_decide_eq_false c0; omega
    simp -implicitDefEqProofs only [ic_disk_Disk_Append, o_disk_Disk_Append_0, o_disk_Disk_Append_1, o_disk_Disk_Append_2, o_disk_Disk_Append_3, o_disk_Disk_Append_4, VV, Ic.t, Ic.ci, ne_eq, eq_self, not_true_eq_false, bd_both, Nat.reduceEqDiff, reduceIte, Nat.reduceAdd, Nat.reduceMul, Nat.reduceLT, Nat.reduceLeDiff, Nat.reduceSub, reduceCtorEq, Int.reduceToNat, Int.reduceLT, Int.reduceLE, Int.reduceNeg, hg, argFr_at, Dk.cells, h1, c1]
    exact hs c0
theorem Replace_ok (hd : d.OK) (s : ByteArray) (h : d.room s = true → Post (.bool true) (σ.put g T_disk_Disk (d.replace s).cells)) (hs : d.room s = false → Post (.bool false) σ) :
    CallOK Try.prog F_disk_Disk_Replace [.pointer (some ⟨g, 0, none⟩), .string s] σ Post := by
  refine callOK_fn c_disk_Disk_Replace (by simp) ?_
  have := hd.size; have := hd.now; have := hd.f
  by_cases c : d.room s = true
  · have c1 : ¬ ((d.size : Int) < s.size) := by have := of_decide_eq_true c; omega
    have hl := loc_lt hg
    simp -implicitDefEqProofs only [ic_disk_Disk_Replace, o_disk_Disk_Replace_0, o_disk_Disk_Replace_1, o_disk_Disk_Replace_2, o_disk_Disk_Replace_3, o_disk_Disk_Replace_4, VV, Ic.t, Ic.ci, ne_eq, eq_self, not_true_eq_false, bd_both, Nat.reduceEqDiff, reduceIte, Nat.reduceAdd, Nat.reduceMul, Nat.reduceLT, Nat.reduceLeDiff, Nat.reduceSub, reduceCtorEq, Int.reduceToNat, Int.reduceLT, Int.reduceLE, Int.reduceNeg, hg, argFr_at, Dk.cells, c1, at_put hl, put_put]
    have h := h c
    simp only [Dk.replace, c, if_true, Dk.cells] at h
    exact h
  · have c0 : d.room s = false := by simpa using c
    have c1 : (d.size : Int) < s.size := by have := of_decide_eq_false c0; omega
    simp -implicitDefEqProofs only [ic_disk_Disk_Replace, o_disk_Disk_Replace_0, o_disk_Disk_Replace_1, o_disk_Disk_Replace_2, o_disk_Disk_Replace_3, o_disk_Disk_Replace_4, VV, Ic.t, Ic.ci, ne_eq, eq_self, not_true_eq_false, bd_both, Nat.reduceEqDiff, reduceIte, Nat.reduceAdd, Nat.reduceMul, Nat.reduceLT, Nat.reduceLeDiff, Nat.reduceSub, reduceCtorEq, Int.reduceToNat, Int.reduceLT, Int.reduceLE, Int.reduceNeg, hg, argFr_at, Dk.cells, c1]
    exact hs c0
theorem Crash_ok (hd : d.OK) (k : Int) (h : Post undef (σ.put g T_disk_Disk (d.crash k).cells)) : CallOK Try.prog F_disk_Disk_Crash [.pointer (some ⟨g, 0, none⟩), .int .i64 k] σ Post := by
  refine callOK_fn c_disk_Disk_Crash (by simp) ?_
  have h1 := hd.size; have h2 := hd.now; have h3 := hd.f
  have hl := loc_lt hg
  have hc : d.cut k ≤ d.waits := by unfold Dk.cut; split <;> omega
  have hw : d.waits = d.now.size - d.f + d.one := rfl
  have ho : d.one = if d.rep then 1 else 0 := rfl
  have ho1 : d.one ≤ 1 := by rw [ho]; split <;> omega
  simp -implicitDefEqProofs only [ic_disk_Disk_Crash, o_disk_Disk_Crash_0, o_disk_Disk_Crash_1, o_disk_Disk_Crash_2, o_disk_Disk_Crash_3, o_disk_Disk_Crash_4, VV, Ic.t, Ic.ci, ne_eq, eq_self, not_true_eq_false, bd_both, Nat.reduceEqDiff, reduceIte, Nat.reduceAdd, Nat.reduceMul, Nat.reduceLT, Nat.reduceLeDiff, Nat.reduceSub, reduceCtorEq, Int.reduceToNat, Int.reduceLT, Int.reduceLE, Int.reduceNeg, hg, argFr_at]
  refine Waits_ok g d σ hg _ hd ?_
  have go2 : ∀ (d' : Dk), (σ.put g T_disk_Disk d'.cells).put g T_disk_Disk d'.settle.cells = σ.put g T_disk_Disk (d.crash k).cells → CallOK Try.prog F_disk_pages_settle [.pointer (some ⟨g, 1, none⟩)] (σ.put g T_disk_Disk d'.cells) (fun v σ' => Post undef σ') := fun d' e => by
    refine settle_ok g d' _ (at_put hl) _ ?_
    rw [e]; exact h
  by_cases hb : d.rep = true ∧ d.cut k = 0
  · have e : ((d.cut k : Nat) : Int) = 0 := by omega
    simp -implicitDefEqProofs only [ic_disk_Disk_Crash, o_disk_Disk_Crash_0, o_disk_Disk_Crash_1, o_disk_Disk_Crash_2, o_disk_Disk_Crash_3, o_disk_Disk_Crash_4, VV, Ic.t, Ic.ci, ne_eq, eq_self, not_true_eq_false, bd_both, Nat.reduceEqDiff, reduceIte, Nat.reduceAdd, Nat.reduceMul, Nat.reduceLT, Nat.reduceLeDiff, Nat.reduceSub, reduceCtorEq, Int.reduceToNat, Int.reduceLT, Int.reduceLE, Int.reduceNeg, hg, argFr_at, cut_eq d k, Dk.cells, hb.1, e]
    have q := go2 { d with now := d.lasts } (by
      rw [put_put]
      unfold Dk.crash
      simp [hb.1, hb.2])
    simp only [Dk.cells, hb.1] at q
    exact q
  · have hcr : d.crash k = { d with now := d.now.extract 0 (d.f + d.cut k - d.one) }.settle := by
      unfold Dk.crash
      rw [if_neg]
      simpa using hb
    have e1 : IntKind.i64.wrap ((d.f : Int) + d.cut k) = (d.f : Int) + d.cut k := w64 (by omega) (by omega)
    have one1 : d.one ≤ d.cut k := by
      rw [ho]
      split
      · rename_i hr
        have : d.cut k ≠ 0 := fun e => hb ⟨hr, e⟩
        omega
      · omega
    have e2 : IntKind.i64.wrap ((d.f : Int) + d.cut k - d.one) = ((d.f + d.cut k - d.one : Nat) : Int) := by
      rw [w64 (by omega) (by omega)]; omega
    have e3 : (0 : Int) ≤ ((d.f + d.cut k - d.one : Nat) : Int) ∧ ((d.f + d.cut k - d.one : Nat) : Int) ≤ (d.now.size : Nat) := by omega
    have fin : ∀ v : Value, CallOK Try.prog F_disk_pages_settle [.pointer (some ⟨g, 1, none⟩)] (σ.put g T_disk_Disk ({ d with now := d.now.extract 0 (d.f + d.cut k - d.one) } : Dk).cells) (fun v σ' => Post undef σ') := fun v => go2 _ (by rw [put_put, hcr])
    cases hr : d.rep
    · simp -implicitDefEqProofs only [ic_disk_Disk_Crash, o_disk_Disk_Crash_0, o_disk_Disk_Crash_1, o_disk_Disk_Crash_2, o_disk_Disk_Crash_3, o_disk_Disk_Crash_4, VV, Ic.t, Ic.ci, ne_eq, eq_self, not_true_eq_false, bd_both, Nat.reduceEqDiff, reduceIte, Nat.reduceAdd, Nat.reduceMul, Nat.reduceLT, Nat.reduceLeDiff, Nat.reduceSub, reduceCtorEq, Int.reduceToNat, Int.reduceLT, Int.reduceLE, Int.reduceNeg, hg, argFr_at, cut_eq d k, Dk.cells, hr, e1]
      refine one_ok g d σ hg _ ⟨.refl _, ?_⟩
      simp -implicitDefEqProofs only [ic_disk_Disk_Crash, o_disk_Disk_Crash_0, o_disk_Disk_Crash_1, o_disk_Disk_Crash_2, o_disk_Disk_Crash_3, o_disk_Disk_Crash_4, VV, Ic.t, Ic.ci, ne_eq, eq_self, not_true_eq_false, bd_both, Nat.reduceEqDiff, reduceIte, Nat.reduceAdd, Nat.reduceMul, Nat.reduceLT, Nat.reduceLeDiff, Nat.reduceSub, reduceCtorEq, Int.reduceToNat, Int.reduceLT, Int.reduceLE, Int.reduceNeg, hg, argFr_at, cut_eq d k, Dk.cells, hr, e1, e2, e3]
      have := fin undef
      simp only [Dk.cells, hr] at this
      exact this
    · have hz : d.cut k ≠ 0 := fun e => hb ⟨hr, e⟩
      have hz' : ((d.cut k : Nat) : Int) ≠ 0 := by omega
      simp -implicitDefEqProofs only [ic_disk_Disk_Crash, o_disk_Disk_Crash_0, o_disk_Disk_Crash_1, o_disk_Disk_Crash_2, o_disk_Disk_Crash_3, o_disk_Disk_Crash_4, VV, Ic.t, Ic.ci, ne_eq, eq_self, not_true_eq_false, bd_both, Nat.reduceEqDiff, reduceIte, Nat.reduceAdd, Nat.reduceMul, Nat.reduceLT, Nat.reduceLeDiff, Nat.reduceSub, reduceCtorEq, Int.reduceToNat, Int.reduceLT, Int.reduceLE, Int.reduceNeg, hg, argFr_at, cut_eq d k, Dk.cells, hr, hz', e1]
      refine one_ok g d σ hg _ ⟨.refl _, ?_⟩
      simp -implicitDefEqProofs only [ic_disk_Disk_Crash, o_disk_Disk_Crash_0, o_disk_Disk_Crash_1, o_disk_Disk_Crash_2, o_disk_Disk_Crash_3, o_disk_Disk_Crash_4, VV, Ic.t, Ic.ci, ne_eq, eq_self, not_true_eq_false, bd_both, Nat.reduceEqDiff, reduceIte, Nat.reduceAdd, Nat.reduceMul, Nat.reduceLT, Nat.reduceLeDiff, Nat.reduceSub, reduceCtorEq, Int.reduceToNat, Int.reduceLT, Int.reduceLE, Int.reduceNeg, hg, argFr_at, cut_eq d k, Dk.cells, hr, e1, e2, e3]
      have := fin undef
      simp only [Dk.cells, hr] at this
      exact this
theorem Append_yes (hd : d.OK) (s : ByteArray) (hf : d.fits s = true) (h : Post (.bool true) (σ.put g T_disk_Disk ({ d with now := d.now ++ s } : Dk).cells)) :
    CallOK Try.prog F_disk_Disk_Append [.pointer (some ⟨g, 0, none⟩), .string s] σ Post := by
  refine Append_ok g d σ hg Post hd s (fun _ => ?_) (fun e => by rw [hf] at e; cases e)
  unfold Dk.append
  rw [hf]
  exact h
theorem Append_no (hd : d.OK) (s : ByteArray) (hf : d.fits s = false) (h : Post (.bool false) σ) :
    CallOK Try.prog F_disk_Disk_Append [.pointer (some ⟨g, 0, none⟩), .string s] σ Post :=
  Append_ok g d σ hg Post hd s (fun e => by rw [hf] at e; cases e) fun _ => h
theorem Replace_yes (hd : d.OK) (s : ByteArray) (hf : d.room s = true) (h : Post (.bool true) (σ.put g T_disk_Disk ({ d with now := s, f := s.size, rep := true } : Dk).cells)) :
    CallOK Try.prog F_disk_Disk_Replace [.pointer (some ⟨g, 0, none⟩), .string s] σ Post := by
  refine Replace_ok g d σ hg Post hd s (fun _ => ?_) (fun e => by rw [hf] at e; cases e)
  unfold Dk.replace
  rw [hf]
  exact h
theorem Replace_no (hd : d.OK) (s : ByteArray) (hf : d.room s = false) (h : Post (.bool false) σ) :
    CallOK Try.prog F_disk_Disk_Replace [.pointer (some ⟨g, 0, none⟩), .string s] σ Post :=
  Replace_ok g d σ hg Post hd s (fun e => by rw [hf] at e; cases e) fun _ => h
end
theorem New_ok (size : Int) (σ : Heap) (Post : Value → Heap → Prop) (h : Post (.pointer (some ⟨σ.next, 0, none⟩)) (σ.push (.cells T_disk_Disk (Dk.new size).cells true))) : CallOK Try.prog F_disk_New [.int .i64 size] σ Post := by
  refine callOK_fn c_disk_New (by simp) ?_
  have e : (if 0 < (if 1048576 < size then 1048576 else size) then (if 1048576 < size then 1048576 else size) else 0) = (((min size 1048576).toNat : Nat) : Int) := by
    split <;> split <;> omega
  simp -implicitDefEqProofs only [ic_disk_New, o_disk_New_0, o_disk_New_1, VV, Ic.t, Ic.ci, ne_eq, eq_self, not_true_eq_false, bd_both, Nat.reduceEqDiff, reduceIte, Nat.reduceAdd, Nat.reduceMul, Nat.reduceLT, Nat.reduceLeDiff, Nat.reduceSub, reduceCtorEq, Int.reduceToNat, Int.reduceLT, Int.reduceLE, Int.reduceNeg, argFr_at, e]
  exact h
end Go.Proofs.Ytoaohoilkfbdgaa
