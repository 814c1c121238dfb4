/- What the codec's reader does. -/
import Derived.Test.YtoaohoilkfbdgaaTcT
import Derived.IntWalk
set_option linter.unusedSimpArgs false
set_option linter.unusedVariables false
set_option linter.unusedSectionVars false
namespace Go.Proofs.Ytoaohoilkfbdgaa
open Go Go.RowKit Sh Ic
theorem w64 {n : Int} (h1 : -9223372036854775808 ≤ n) (h2 : n ≤ 9223372036854775807) : IntKind.i64.wrap n = n := IntWalk.i64_in n ⟨h1, h2⟩
theorem callK_rd {lk : Bool} {f : FuncId} {args : List TV} {r : TV} {d : Option Nat} {K : TCont} {fr : TF} {tk : TK} {τ : TH} (h0 : Ru G f args τ r τ) (h1 : Ru G f args (τ.locked τ.next) r (τ.locked τ.next)) (hu : underL τ.next args = true) :
    callK G lk f args d K fr tk τ = K (tput fr d r) tk τ := by
  cases lk
  · rw [callK_of (lk := false) h0 hu]; rfl
  · rw [callK_of (lk := true) h1 hu]; rfl
/-- A reader: what is left; whether it is bad. -/
structure Rd where
  s : ByteArray
  bad : Bool
def rdOb (r : Rd) : Ob := ⟨T_codec_Reader, [.str r.s, .bool r.bad]⟩
def Rd.fail : Rd := ⟨⟨#[]⟩, true⟩
def Rd.can (r : Rd) (n : Int) : Prop := r.bad = false ∧ 0 ≤ n ∧ n ≤ r.s.size
instance (r : Rd) (n : Int) : Decidable (r.can n) := inferInstanceAs (Decidable (_ ∧ _ ∧ _))
def Rd.take (r : Rd) (n : Int) : ByteArray × Rd := if r.can n then (r.s.extract 0 n.toNat, ⟨r.s.extract n.toNat r.s.size, false⟩) else (⟨#[]⟩, .fail)
theorem codec_New_ok (s : ByteArray) (τ : TH) : Ru G F_codec_New [.str s] τ (.ptr τ.next 0) (τ.push (rdOb ⟨s, false⟩)) := by
  refine Ru_of fun K hK => ?_
  rw [tC_code g_codec_New (Nat.le_of_ble_eq_true rfl)]
  simp -implicitDefEqProofs only [fn_codec_New, o_codec_New_0, o_codec_New_1, tc_codec_New, TT, Ic.t, Ic.ci, ne_eq, eq_self, not_true_eq_false, Nat.reduceEqDiff, reduceIte, Nat.reduceAdd, Nat.reduceMul, Nat.reduceLT, Nat.reduceLeDiff, Nat.reduceSub, reduceCtorEq, Int.reduceEq, Int.reduceNe, decide_eq_true_eq, bne_self_eq_false, beq_self_eq_true, Int.reduceToNat, Int.reduceLT, Int.reduceLE, Int.reduceNeg]
  exact hK
section
variable (r : Rd) (id : Nat) (τ : TH) (h : τ.at id = some (rdOb r)) (hi : id < τ.next) (hl : τ.lock ≤ id)
include h hi hl
theorem fail_ok : Ru G F_codec_Reader_fail [.ptr id 0] τ (.tup []) (τ.put id (rdOb .fail)) := by
  refine Ru_of fun K hK => ?_
  rw [tC_code g_codec_Reader_fail (Nat.le_of_ble_eq_true rfl)]
  simp -implicitDefEqProofs only [fn_codec_Reader_fail, o_codec_Reader_fail_0, tc_codec_Reader_fail, TT, Ic.t, Ic.ci, ne_eq, eq_self, not_true_eq_false, Nat.reduceEqDiff, reduceIte, Nat.reduceAdd, Nat.reduceMul, Nat.reduceLT, Nat.reduceLeDiff, Nat.reduceSub, reduceCtorEq, Int.reduceEq, Int.reduceNe, decide_eq_true_eq, bne_self_eq_false, beq_self_eq_true, Int.reduceToNat, Int.reduceLT, Int.reduceLE, Int.reduceNeg, h, hi, hl, rdOb]
  exact hK
theorem fail_k (d : Option Nat) (K : TCont) (fr : TF) (tk : TK) : callK G false F_codec_Reader_fail [.ptr id 0] d K fr tk τ = K (tput fr d (.tup [])) tk (τ.put id (rdOb .fail)) :=
  callK_of (fail_ok r id τ h hi hl) (by simp -implicitDefEqProofs only [TT, Ic.t, Ic.ci, ne_eq, eq_self, not_true_eq_false, Nat.reduceEqDiff, reduceIte, Nat.reduceAdd, Nat.reduceMul, Nat.reduceLT, Nat.reduceLeDiff, Nat.reduceSub, reduceCtorEq, Int.reduceEq, Int.reduceNe, decide_eq_true_eq, bne_self_eq_false, beq_self_eq_true, Int.reduceToNat, Int.reduceLT, Int.reduceLE, Int.reduceNeg, hi])
theorem take_ok (n : Int) : Ru G F_codec_Reader_take [.ptr id 0, .int .i64 n] τ (.str (r.take n).1) (τ.put id (rdOb (r.take n).2)) := by
  refine Ru_of fun K hK => ?_
  rw [tC_code g_codec_Reader_take (Nat.le_of_ble_eq_true rfl)]
  obtain ⟨s, b⟩ := r
  by_cases hc : Rd.can ⟨s, b⟩ n
  · have hc' := hc
    obtain ⟨h1, h2, h3⟩ := hc'
    simp only at h1
    subst h1
    have e1 : ¬ n < 0 := by omega
    have e2 : ¬ ((s.size : Int) < n) := by simp only at h3; omega
    have h3' : n ≤ (s.size : Int) := h3
    simp only [Rd.take, if_pos hc] at hK
    simp -implicitDefEqProofs only [fn_codec_Reader_take, o_codec_Reader_take_0, o_codec_Reader_take_1, o_codec_Reader_take_2, o_codec_Reader_take_3, o_codec_Reader_take_4, o_codec_Reader_take_5, o_codec_Reader_take_6, tc_codec_Reader_take, TT, Ic.t, Ic.ci, ne_eq, eq_self, not_true_eq_false, Nat.reduceEqDiff, reduceIte, Nat.reduceAdd, Nat.reduceMul, Nat.reduceLT, Nat.reduceLeDiff, Nat.reduceSub, reduceCtorEq, Int.reduceEq, Int.reduceNe, decide_eq_true_eq, bne_self_eq_false, beq_self_eq_true, Int.reduceToNat, Int.reduceLT, Int.reduceLE, Int.reduceNeg, h, hi, hl, rdOb, e1, e2, h2, h3']
    exact hK
  · simp only [Rd.take, if_neg hc] at hK
    cases b with
    | true =>
      simp -implicitDefEqProofs only [fn_codec_Reader_take, o_codec_Reader_take_0, o_codec_Reader_take_1, o_codec_Reader_take_2, o_codec_Reader_take_3, o_codec_Reader_take_4, o_codec_Reader_take_5, o_codec_Reader_take_6, tc_codec_Reader_take, TT, Ic.t, Ic.ci, ne_eq, eq_self, not_true_eq_false, Nat.reduceEqDiff, reduceIte, Nat.reduceAdd, Nat.reduceMul, Nat.reduceLT, Nat.reduceLeDiff, Nat.reduceSub, reduceCtorEq, Int.reduceEq, Int.reduceNe, decide_eq_true_eq, bne_self_eq_false, beq_self_eq_true, Int.reduceToNat, Int.reduceLT, Int.reduceLE, Int.reduceNeg, h, hi, hl, rdOb]
      rw [fail_k ⟨s, true⟩ id τ h hi hl]
      simp -implicitDefEqProofs only [fn_codec_Reader_take, o_codec_Reader_take_0, o_codec_Reader_take_1, o_codec_Reader_take_2, o_codec_Reader_take_3, o_codec_Reader_take_4, o_codec_Reader_take_5, o_codec_Reader_take_6, tc_codec_Reader_take, TT, Ic.t, Ic.ci, ne_eq, eq_self, not_true_eq_false, Nat.reduceEqDiff, reduceIte, Nat.reduceAdd, Nat.reduceMul, Nat.reduceLT, Nat.reduceLeDiff, Nat.reduceSub, reduceCtorEq, Int.reduceEq, Int.reduceNe, decide_eq_true_eq, bne_self_eq_false, beq_self_eq_true, Int.reduceToNat, Int.reduceLT, Int.reduceLE, Int.reduceNeg, hi]
      exact hK
    | false =>
      by_cases e1 : n < 0
      · simp -implicitDefEqProofs only [fn_codec_Reader_take, o_codec_Reader_take_0, o_codec_Reader_take_1, o_codec_Reader_take_2, o_codec_Reader_take_3, o_codec_Reader_take_4, o_codec_Reader_take_5, o_codec_Reader_take_6, tc_codec_Reader_take, TT, Ic.t, Ic.ci, ne_eq, eq_self, not_true_eq_false, Nat.reduceEqDiff, reduceIte, Nat.reduceAdd, Nat.reduceMul, Nat.reduceLT, Nat.reduceLeDiff, Nat.reduceSub, reduceCtorEq, Int.reduceEq, Int.reduceNe, decide_eq_true_eq, bne_self_eq_false, beq_self_eq_true, Int.reduceToNat, Int.reduceLT, Int.reduceLE, Int.reduceNeg, h, hi, hl, rdOb, e1]
        rw [fail_k ⟨s, false⟩ id τ h hi hl]
        simp -implicitDefEqProofs only [fn_codec_Reader_take, o_codec_Reader_take_0, o_codec_Reader_take_1, o_codec_Reader_take_2, o_codec_Reader_take_3, o_codec_Reader_take_4, o_codec_Reader_take_5, o_codec_Reader_take_6, tc_codec_Reader_take, TT, Ic.t, Ic.ci, ne_eq, eq_self, not_true_eq_false, Nat.reduceEqDiff, reduceIte, Nat.reduceAdd, Nat.reduceMul, Nat.reduceLT, Nat.reduceLeDiff, Nat.reduceSub, reduceCtorEq, Int.reduceEq, Int.reduceNe, decide_eq_true_eq, bne_self_eq_false, beq_self_eq_true, Int.reduceToNat, Int.reduceLT, Int.reduceLE, Int.reduceNeg, hi]
        exact hK
      · have e2 : (s.size : Int) < n := by
          refine Classical.byContradiction fun e => hc ⟨rfl, by omega, ?_⟩
          show n ≤ s.size
          omega
        simp -implicitDefEqProofs only [fn_codec_Reader_take, o_codec_Reader_take_0, o_codec_Reader_take_1, o_codec_Reader_take_2, o_codec_Reader_take_3, o_codec_Reader_take_4, o_codec_Reader_take_5, o_codec_Reader_take_6, tc_codec_Reader_take, TT, Ic.t, Ic.ci, ne_eq, eq_self, not_true_eq_false, Nat.reduceEqDiff, reduceIte, Nat.reduceAdd, Nat.reduceMul, Nat.reduceLT, Nat.reduceLeDiff, Nat.reduceSub, reduceCtorEq, Int.reduceEq, Int.reduceNe, decide_eq_true_eq, bne_self_eq_false, beq_self_eq_true, Int.reduceToNat, Int.reduceLT, Int.reduceLE, Int.reduceNeg, h, hi, hl, rdOb, e1, e2]
        rw [fail_k ⟨s, false⟩ id τ h hi hl]
        simp -implicitDefEqProofs only [fn_codec_Reader_take, o_codec_Reader_take_0, o_codec_Reader_take_1, o_codec_Reader_take_2, o_codec_Reader_take_3, o_codec_Reader_take_4, o_codec_Reader_take_5, o_codec_Reader_take_6, tc_codec_Reader_take, TT, Ic.t, Ic.ci, ne_eq, eq_self, not_true_eq_false, Nat.reduceEqDiff, reduceIte, Nat.reduceAdd, Nat.reduceMul, Nat.reduceLT, Nat.reduceLeDiff, Nat.reduceSub, reduceCtorEq, Int.reduceEq, Int.reduceNe, decide_eq_true_eq, bne_self_eq_false, beq_self_eq_true, Int.reduceToNat, Int.reduceLT, Int.reduceLE, Int.reduceNeg, hi]
        exact hK
omit hl in
theorem Left_ok : Ru G F_codec_Reader_Left [.ptr id 0] τ (.int .i64 r.s.size) τ := by
  refine Ru_of fun K hK => ?_
  rw [tC_code g_codec_Reader_Left (Nat.le_of_ble_eq_true rfl)]
  simp -implicitDefEqProofs only [fn_codec_Reader_Left, o_codec_Reader_Left_0, o_codec_Reader_Left_1, tc_codec_Reader_Left, TT, Ic.t, Ic.ci, ne_eq, eq_self, not_true_eq_false, Nat.reduceEqDiff, reduceIte, Nat.reduceAdd, Nat.reduceMul, Nat.reduceLT, Nat.reduceLeDiff, Nat.reduceSub, reduceCtorEq, Int.reduceEq, Int.reduceNe, decide_eq_true_eq, bne_self_eq_false, beq_self_eq_true, Int.reduceToNat, Int.reduceLT, Int.reduceLE, Int.reduceNeg, h, hi, rdOb]
  exact hK
omit hl in
theorem Bad_ok : Ru G F_codec_Reader_Bad [.ptr id 0] τ (.bool r.bad) τ := by
  refine Ru_of fun K hK => ?_
  rw [tC_code g_codec_Reader_Bad (Nat.le_of_ble_eq_true rfl)]
  simp -implicitDefEqProofs only [fn_codec_Reader_Bad, o_codec_Reader_Bad_0, o_codec_Reader_Bad_1, tc_codec_Reader_Bad, TT, Ic.t, Ic.ci, ne_eq, eq_self, not_true_eq_false, Nat.reduceEqDiff, reduceIte, Nat.reduceAdd, Nat.reduceMul, Nat.reduceLT, Nat.reduceLeDiff, Nat.reduceSub, reduceCtorEq, Int.reduceEq, Int.reduceNe, decide_eq_true_eq, bne_self_eq_false, beq_self_eq_true, Int.reduceToNat, Int.reduceLT, Int.reduceLE, Int.reduceNeg, h, hi, rdOb]
  exact hK
end
end Go.Proofs.Ytoaohoilkfbdgaa
