/- The law CodecReads. -/
import Derived.Test.YtoaohoilkfbdgaaCodec6
import Derived.Test.YtoaohoilkfbdgaaTv10
set_option linter.unusedSimpArgs false
set_option linter.unusedVariables false
set_option linter.unusedSectionVars false
namespace Go.Proofs.Ytoaohoilkfbdgaa
open Go Go.RowKit Sh Ic
open ArgT (enc)
theorem enc_int (l : List Int) (i : Nat) (h : i < l.length) : (l.map enc).getD i .undef = .int .i64 l[i] := encL_get l i h
theorem enc_len {α : Type} [Arg α] [ArgT α] (l : List α) : (l.map (enc (α := α))).length = l.length := List.length_map ..
theorem asRd_mk (s : ByteArray) (b : Bool) (t : TypeId) : asRd (some ⟨t, [.str s, .bool b]⟩) = ⟨s, b⟩ := rfl
theorem isRf_mk (s : ByteArray) (b : Bool) : isRf (some ⟨T_handselref03_R, [.str s, .bool b]⟩) = Rd.Inv ⟨s, b⟩ := isRf_rf ⟨s, b⟩
theorem Rd.eta (r : Rd) : Rd.mk r.s r.bad = r := rfl
theorem Reads_loop (script most : List Int) (h1 : script.length ≤ 50) (hs : ∀ v ∈ script, I64 v) (i0 i1 : Nat) (Q : TEx → TCont) (n : Nat) : ∀ (i : Nat) (τ : TH) (r : Rd), r.Inv → n + i = script.length → τ.at i0 = some (rdOb r) → τ.at i1 = some (rfOb r) → i0 < τ.next → i1 < τ.next → τ.lock ≤ i0 → τ.lock ≤ i1 → (i0 = i1) = False → (i1 = i0) = False → τ.lock ≤ τ.next → 
    (∀ τ' : TH, τ'.lock = τ.lock → τ'.next = τ.next → Q (.exit 0) [(1, .sl (script.map enc)), (2, .sl (most.map enc)), (7, .ptr i0 0), (8, .ptr i1 0), (9, .int .i64 (script.length : Int)), (31, .bool false)] [] τ') →
    tW G (.loop [1, 2, 7, 8, 9] l_handsellaw03_CodecReads_1) Q [(1, .sl (script.map enc)), (2, .sl (most.map enc)), (7, .ptr i0 0), (8, .ptr i1 0), (9, .int .i64 (i : Int))] [] τ := by
  induction n with
  | zero =>
    intro i τ r hv hi h0 h1' hi0 hi1 hl0 hl1 hne hne' hlk hQ
    obtain rfl : i = script.length := by omega
    refine tW_lp fun LQ hn hr he => ?_
    have c : ¬ ((script.length : Int) < (script.length : Int)) := by omega
    simp -implicitDefEqProofs only [l_handsellaw03_CodecReads_1, fn_handsellaw03_CodecReads, o_handsellaw03_CodecReads_0, o_handsellaw03_CodecReads_1, o_handsellaw03_CodecReads_10, o_handsellaw03_CodecReads_11, o_handsellaw03_CodecReads_12, o_handsellaw03_CodecReads_13, o_handsellaw03_CodecReads_14, o_handsellaw03_CodecReads_15, o_handsellaw03_CodecReads_16, o_handsellaw03_CodecReads_17, o_handsellaw03_CodecReads_18, o_handsellaw03_CodecReads_19, o_handsellaw03_CodecReads_2, o_handsellaw03_CodecReads_20, o_handsellaw03_CodecReads_21, o_handsellaw03_CodecReads_3, o_handsellaw03_CodecReads_4, o_handsellaw03_CodecReads_5, o_handsellaw03_CodecReads_6, o_handsellaw03_CodecReads_7, o_handsellaw03_CodecReads_8, o_handsellaw03_CodecReads_9, tc_handsellaw03_CodecReads, TT, Ic.t, Ic.ci, ne_eq, eq_self, not_true_eq_false, Nat.reduceEqDiff, reduceIte, Nat.reduceAdd, Nat.reduceMul, Nat.reduceLT, Nat.reduceLeDiff, Nat.reduceSub, reduceCtorEq, Int.reduceEq, Int.reduceNe, decide_eq_true_eq, bne_self_eq_false, beq_self_eq_true, Int.reduceToNat, Int.reduceLT, Int.reduceLE, Int.reduceNeg, c, enc_len, he]
    exact hQ _ rfl rfl
  | succ n ih =>
    intro i τ r hv hi h0 h1' hi0 hi1 hl0 hl1 hne hne' hlk hQ
    refine tW_lp fun LQ hn hr he => ?_
    have c : (i : Int) < (script.length : Int) := by omega
    have c0 : (0 : Int) ≤ (i : Int) := by omega
    have g1 := enc_int script i (by omega)
    have w1 : IntKind.i64.wrap ((i : Int) + 1) = ((i + 1 : Nat) : Int) := by rw [w64 (by omega) (by omega)]; omega
    have hp := Place_k script[i] 3 (hs _ (List.getElem_mem _)) (by decide) (by decide)
    have h3 : script[i] % 3 = 0 ∨ script[i] % 3 = 1 ∨ script[i] % 3 = 2 := by omega
    have nt : ∀ x : Prop, ¬ False = True := fun _ h => h.mpr trivial
    have cont : ∀ (q : Rd) (τ' : TH), q.Inv → τ' = (τ.put i0 (rdOb q)).put i1 (rfOb q) → tW G (.loop [1, 2, 7, 8, 9] l_handsellaw03_CodecReads_1) Q [(1, .sl (script.map enc)), (2, .sl (most.map enc)), (7, .ptr i0 0), (8, .ptr i1 0), (9, .int .i64 ((i + 1 : Nat) : Int))] [] τ' := fun q τ' hq e => by
      subst e
      refine ih (i + 1) _ q hq (by omega) ?_ ?_ ?_ ?_ ?_ ?_ hne hne' ?_ (fun τ' a b => hQ τ' (by simpa only [lock_pt] using a) (by simpa only [next_pt] using b))
      all_goals simp -implicitDefEqProofs only [TT, Ic.t, Ic.ci, ne_eq, eq_self, not_true_eq_false, Nat.reduceEqDiff, reduceIte, Nat.reduceAdd, Nat.reduceMul, Nat.reduceLT, Nat.reduceLeDiff, Nat.reduceSub, reduceCtorEq, Int.reduceEq, Int.reduceNe, decide_eq_true_eq, bne_self_eq_false, beq_self_eq_true, Int.reduceToNat, Int.reduceLT, Int.reduceLE, Int.reduceNeg, hi0, hi1, hne, hne', hl0, hl1, hlk]
    by_cases cm : (i : Int) < (most.length : Int)
    · have g2 := enc_int most i (by omega)
      rcases h3 with h3 | h3 | h3 <;> rw [h3] at hp
      all_goals
        simp -implicitDefEqProofs only [l_handsellaw03_CodecReads_1, fn_handsellaw03_CodecReads, o_handsellaw03_CodecReads_0, o_handsellaw03_CodecReads_1, o_handsellaw03_CodecReads_10, o_handsellaw03_CodecReads_11, o_handsellaw03_CodecReads_12, o_handsellaw03_CodecReads_13, o_handsellaw03_CodecReads_14, o_handsellaw03_CodecReads_15, o_handsellaw03_CodecReads_16, o_handsellaw03_CodecReads_17, o_handsellaw03_CodecReads_18, o_handsellaw03_CodecReads_19, o_handsellaw03_CodecReads_2, o_handsellaw03_CodecReads_20, o_handsellaw03_CodecReads_21, o_handsellaw03_CodecReads_3, o_handsellaw03_CodecReads_4, o_handsellaw03_CodecReads_5, o_handsellaw03_CodecReads_6, o_handsellaw03_CodecReads_7, o_handsellaw03_CodecReads_8, o_handsellaw03_CodecReads_9, tc_handsellaw03_CodecReads, TT, Ic.t, Ic.ci, ne_eq, eq_self, not_true_eq_false, Nat.reduceEqDiff, reduceIte, Nat.reduceAdd, Nat.reduceMul, Nat.reduceLT, Nat.reduceLeDiff, Nat.reduceSub, reduceCtorEq, Int.reduceEq, Int.reduceNe, decide_eq_true_eq, bne_self_eq_false, beq_self_eq_true, Int.reduceToNat, Int.reduceLT, Int.reduceLE, Int.reduceNeg, c, c0, cm, enc_len, g1, g2, hp, hlk, Text_s, Num_s, Left_s, Bad_s, Count_s, rText_s, rNum_s, rCount_s, asRd_rd, isRd_rd, h0, h1', rfOb, asRd_mk, isRf_mk, Rd.eta, hi0, hi1, hl0, hl1, hne, hne', hv, w1]
        rw [hn]
        simp -implicitDefEqProofs only [TT, Ic.t, Ic.ci, ne_eq, eq_self, not_true_eq_false, Nat.reduceEqDiff, reduceIte, Nat.reduceAdd, Nat.reduceMul, Nat.reduceLT, Nat.reduceLeDiff, Nat.reduceSub, reduceCtorEq, Int.reduceEq, Int.reduceNe, decide_eq_true_eq, bne_self_eq_false, beq_self_eq_true, Int.reduceToNat, Int.reduceLT, Int.reduceLE, Int.reduceNeg, hi0, hi1]
      · exact cont _ _ .num rfl
      · exact cont _ _ (.count _) rfl
      · exact cont _ _ (.text _) rfl
    · rcases h3 with h3 | h3 | h3 <;> rw [h3] at hp
      all_goals
        simp -implicitDefEqProofs only [l_handsellaw03_CodecReads_1, fn_handsellaw03_CodecReads, o_handsellaw03_CodecReads_0, o_handsellaw03_CodecReads_1, o_handsellaw03_CodecReads_10, o_handsellaw03_CodecReads_11, o_handsellaw03_CodecReads_12, o_handsellaw03_CodecReads_13, o_handsellaw03_CodecReads_14, o_handsellaw03_CodecReads_15, o_handsellaw03_CodecReads_16, o_handsellaw03_CodecReads_17, o_handsellaw03_CodecReads_18, o_handsellaw03_CodecReads_19, o_handsellaw03_CodecReads_2, o_handsellaw03_CodecReads_20, o_handsellaw03_CodecReads_21, o_handsellaw03_CodecReads_3, o_handsellaw03_CodecReads_4, o_handsellaw03_CodecReads_5, o_handsellaw03_CodecReads_6, o_handsellaw03_CodecReads_7, o_handsellaw03_CodecReads_8, o_handsellaw03_CodecReads_9, tc_handsellaw03_CodecReads, TT, Ic.t, Ic.ci, ne_eq, eq_self, not_true_eq_false, Nat.reduceEqDiff, reduceIte, Nat.reduceAdd, Nat.reduceMul, Nat.reduceLT, Nat.reduceLeDiff, Nat.reduceSub, reduceCtorEq, Int.reduceEq, Int.reduceNe, decide_eq_true_eq, bne_self_eq_false, beq_self_eq_true, Int.reduceToNat, Int.reduceLT, Int.reduceLE, Int.reduceNeg, c, c0, cm, enc_len, g1, hp, hlk, Text_s, Num_s, Left_s, Bad_s, Count_s, rText_s, rNum_s, rCount_s, asRd_rd, isRd_rd, h0, h1', rfOb, asRd_mk, isRf_mk, Rd.eta, hi0, hi1, hl0, hl1, hne, hne', hv, w1]
        rw [hn]
        simp -implicitDefEqProofs only [TT, Ic.t, Ic.ci, ne_eq, eq_self, not_true_eq_false, Nat.reduceEqDiff, reduceIte, Nat.reduceAdd, Nat.reduceMul, Nat.reduceLT, Nat.reduceLeDiff, Nat.reduceSub, reduceCtorEq, Int.reduceEq, Int.reduceNe, decide_eq_true_eq, bne_self_eq_false, beq_self_eq_true, Int.reduceToNat, Int.reduceLT, Int.reduceLE, Int.reduceNeg, hi0, hi1]
      · exact cont _ _ .num rfl
      · exact cont _ _ (.count _) rfl
      · exact cont _ _ (.text _) rfl
end Go.Proofs.Ytoaohoilkfbdgaa
