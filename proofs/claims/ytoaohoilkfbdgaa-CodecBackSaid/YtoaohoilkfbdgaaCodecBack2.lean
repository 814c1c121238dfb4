/- What is read of it, and of its beginnings. -/
import Derived.Test.YtoaohoilkfbdgaaCodecBack1
set_option linter.unusedSimpArgs false
set_option linter.unusedVariables false
set_option linter.unusedSectionVars false
namespace Go.Proofs.Ytoaohoilkfbdgaa
open Go Go.RowKit Sh Ic
open ArgT (enc)
theorem ba_toList (a b : ByteArray) (h : a.data.toList = b.data.toList) : a = b := by
  apply ByteArray.ext; apply Array.ext'; exact h
theorem ba_split {p t a r : ByteArray} (h : p ++ t = a ++ r) : (∃ x : ByteArray, a = p ++ x ∧ t = x ++ r) ∨ ∃ x : ByteArray, p = a ++ x ∧ r = x ++ t := by
  have h' : p.data.toList ++ t.data.toList = a.data.toList ++ r.data.toList := by
    have := congrArg (fun b => b.data.toList) h
    simpa using this
  rcases List.append_eq_append_iff.1 h' with ⟨x, h1, h2⟩ | ⟨x, h1, h2⟩
  · exact .inl ⟨⟨x.toArray⟩, ba_toList _ _ (by simpa using h1), ba_toList _ _ (by simpa using h2)⟩
  · exact .inr ⟨⟨x.toArray⟩, ba_toList _ _ (by simpa using h1), ba_toList _ _ (by simpa using h2)⟩
theorem ba_empty {x : ByteArray} (h : x.size = 0) : x = ⟨#[]⟩ := ByteArray.ext (Array.eq_empty_of_size_eq_zero h)
/-- A reader of a beginning. -/
def Pre (q : Rd) (w : ByteArray) : Prop := q = .fail ∨ ∃ p t, q = ⟨p, false⟩ ∧ p ++ t = w ∧ 0 < t.size
theorem take_fail (n : Int) : Rd.fail.take n = (⟨#[]⟩, .fail) := by
  unfold Rd.take
  rw [if_neg (fun h => by cases h.1)]
theorem Pre.take {q : Rd} {a r : ByteArray} (n : Nat) (hn : a.size = n) (h : Pre q (a ++ r)) : Pre (q.take n).2 r ∧ (q.take n = (⟨#[]⟩, .fail) ∨ (q.take n).1 = a) := by
  rcases h with rfl | ⟨p, t, rfl, h, ht⟩
  · rw [take_fail]; exact ⟨.inl rfl, .inl rfl⟩
  · rcases ba_split h with ⟨x, h1, h2⟩ | ⟨x, rfl, h2⟩
    · by_cases hx : x.size = 0
      · obtain rfl := ba_empty hx
        rw [app_nil] at h1
        subst h1
        have e := take_app a ⟨#[]⟩ n hn
        rw [app_nil] at e
        rw [e]
        exact ⟨.inr ⟨⟨#[]⟩, t, rfl, by rw [h2, nil_app, nil_app], ht⟩, .inr rfl⟩
      · have e : Rd.take ⟨p, false⟩ n = (⟨#[]⟩, .fail) := by
          unfold Rd.take
          rw [if_neg]
          intro hc
          have h3 : ((n : Nat) : Int) ≤ (p.size : Int) := hc.2.2
          have h4 : a.size = p.size + x.size := by rw [h1, ByteArray.size_append]
          omega
        rw [e]
        exact ⟨.inl rfl, .inl rfl⟩
    · rw [take_app a x n hn]
      exact ⟨.inr ⟨x, t, rfl, h2.symm, ht⟩, .inr rfl⟩
theorem Pre.num {q : Rd} {v : Int} {r : ByteArray} (hv : I64 v) (h : Pre q (encNum v ++ r)) : Pre q.num.2 r ∧ (q.num = (0, .fail) ∨ q.num.1 = v) := by
  have := h.take 8 rfl
  unfold Rd.num
  refine ⟨this.1, ?_⟩
  rcases this.2 with e | e
  · rw [show (8 : Int) = ((8 : Nat) : Int) from rfl, e]; exact .inl rfl
  · rw [show (8 : Int) = ((8 : Nat) : Int) from rfl, e]; exact .inr (num_enc v hv)
theorem Pre.text {q : Rd} {s r : ByteArray} (hs : s.size ≤ 100) (h : Pre q (encText s ++ r)) : Pre (q.text 100).2 r := by
  have h' : Pre q (encNum s.size ++ (s ++ r)) := by rw [← ByteArray.append_assoc]; exact h
  obtain ⟨h1, h2⟩ := h'.num ⟨by omega, by omega⟩
  unfold Rd.text Rd.count
  rcases h2 with e | e
  · rw [e, if_neg (by decide), take_fail]; exact .inl rfl
  · rw [if_neg (by omega), e]
    exact (h1.take s.size rfl).1
theorem Pre.done {q : Rd} (h : Pre q ⟨#[]⟩) : q = .fail := by
  rcases h with h | ⟨p, t, _, h, ht⟩
  · exact h
  · have := congrArg ByteArray.size h
    rw [ByteArray.size_append] at this
    have : p.size + t.size = 0 := this
    omega
theorem Back_loop2 (nums : List Int) (texts : List ByteArray) (m : Nat) (hn : nums.length ≤ m) (ht : texts.length ≤ m) (h30 : m ≤ 30) (hv : ∀ v ∈ nums, I64 v) (hm : m = nums.length ∨ m = texts.length) (h100 : ∀ j (h : j < texts.length), texts[j].size ≤ 100) (i0 i1 : Nat) (hne : (i0 = i1) = False) (hne' : (i1 = i0) = False)
    (Q : TEx → TCont) (n : Nat) : ∀ (i : Nat) (q : Rd) (τ : TH), n + i = m → τ.at i0 = some (rdOb ⟨wr (nums.drop i) (texts.drop i), false⟩) → τ.at i1 = some (rdOb q) → Pre q (wr (nums.drop i) (texts.drop i)) → i0 < τ.next → i1 < τ.next → τ.lock ≤ i0 → τ.lock ≤ i1 → τ.lock ≤ τ.next →
    (∀ τ' : TH, τ'.lock = τ.lock → τ'.next = τ.next → τ'.at i0 = some (rdOb ⟨⟨#[]⟩, false⟩) → τ'.at i1 = some (rdOb .fail) → Q (.exit 2) [(0, .sl (nums.map enc)), (1, .sl (texts.map enc)), (9, .ptr i0 0), (10, .ptr i1 0), (11, .int .i64 m), (97, .bool false)] [] τ') → 
    tW G (.loop [0, 1, 9, 10, 11] l_handsellaw03_CodecBack_2) Q [(0, .sl (nums.map enc)), (1, .sl (texts.map enc)), (9, .ptr i0 0), (10, .ptr i1 0), (11, .int .i64 (i : Int))] [] τ := by
  induction n with
  | zero =>
    intro i q τ hi a0 a1 hp b0 b1 l0 l1 hlk hQ
    obtain rfl : i = m := by omega
    refine tW_lp fun LQ hnx hr he => ?_
    have h1 : ¬ (i : Int) < (nums.length : Int) := by omega
    have h2 : ¬ (i : Int) < (texts.length : Int) := by omega
    rw [List.drop_eq_nil_of_le hn, List.drop_eq_nil_of_le ht, wr] at a0 hp
    rw [hp.done] at a1
    simp -implicitDefEqProofs only [l_handsellaw03_CodecBack_2, fn_handsellaw03_CodecBack, o_handsellaw03_CodecBack_0, o_handsellaw03_CodecBack_1, o_handsellaw03_CodecBack_10, o_handsellaw03_CodecBack_11, o_handsellaw03_CodecBack_12, o_handsellaw03_CodecBack_13, o_handsellaw03_CodecBack_14, o_handsellaw03_CodecBack_15, o_handsellaw03_CodecBack_16, o_handsellaw03_CodecBack_17, o_handsellaw03_CodecBack_18, o_handsellaw03_CodecBack_19, o_handsellaw03_CodecBack_2, o_handsellaw03_CodecBack_20, o_handsellaw03_CodecBack_21, o_handsellaw03_CodecBack_22, o_handsellaw03_CodecBack_23, o_handsellaw03_CodecBack_24, o_handsellaw03_CodecBack_25, o_handsellaw03_CodecBack_26, o_handsellaw03_CodecBack_27, o_handsellaw03_CodecBack_28, o_handsellaw03_CodecBack_29, o_handsellaw03_CodecBack_3, o_handsellaw03_CodecBack_4, o_handsellaw03_CodecBack_5, o_handsellaw03_CodecBack_6, o_handsellaw03_CodecBack_7, o_handsellaw03_CodecBack_8, o_handsellaw03_CodecBack_9, tc_handsellaw03_CodecBack, TT, Ic.t, Ic.ci, ne_eq, eq_self, not_true_eq_false, Nat.reduceEqDiff, reduceIte, Nat.reduceAdd, Nat.reduceMul, Nat.reduceLT, Nat.reduceLeDiff, Nat.reduceSub, reduceCtorEq, Int.reduceEq, Int.reduceNe, decide_eq_true_eq, bne_self_eq_false, beq_self_eq_true, Int.reduceToNat, Int.reduceLT, Int.reduceLE, Int.reduceNeg, h1, h2, enc_len, he]
    exact hQ _ rfl rfl a0 a1
  | succ n ih =>
    intro i q τ hi a0 a1 hp b0 b1 l0 l1 hlk hQ
    refine tW_lp fun LQ hnx hr he => ?_
    have c0 : (0 : Int) ≤ (i : Int) := by omega
    have w1 : IntKind.i64.wrap ((i : Int) + 1) = ((i + 1 : Nat) : Int) := by rw [w64 (by omega) (by omega)]; omega
    have cont : ∀ (q' : Rd) (τ' : TH), τ'.at i0 = some (rdOb ⟨wr (nums.drop (i + 1)) (texts.drop (i + 1)), false⟩) → τ'.at i1 = some (rdOb q') → Pre q' (wr (nums.drop (i + 1)) (texts.drop (i + 1))) → τ'.next = τ.next → τ'.lock = τ.lock →
        tW G (.loop [0, 1, 9, 10, 11] l_handsellaw03_CodecBack_2) Q [(0, .sl (nums.map enc)), (1, .sl (texts.map enc)), (9, .ptr i0 0), (10, .ptr i1 0), (11, .int .i64 ((i + 1 : Nat) : Int))] [] τ' := fun q' τ' c0 c1 c2 c3 c4 =>
      ih (i + 1) q' τ' (by omega) c0 c1 c2 (by omega) (by omega) (by omega) (by omega) (by omega) fun τ2 d1 d2 d3 d4 => hQ τ2 (by omega) (by omega) d3 d4
    rw [wr_drop] at a0 hp
    by_cases h1 : (i : Int) < (nums.length : Int)
    · have g1 := enc_int nums i (by omega)
      have u1 : wrN i nums = encNum (nums[i]'(by omega)) := dif_pos (by omega)
      rw [u1] at a0 hp
      have hv1 := hv _ (List.getElem_mem (show i < nums.length by omega))
      have t1 := num_app _ hv1 (wrT i texts ++ wr (nums.drop (i + 1)) (texts.drop (i + 1)))
      have hp1 := (hp.num hv1).1
      by_cases h2 : (i : Int) < (texts.length : Int)
      · have g2 := enc_str texts i (by omega)
        have u2 : wrT i texts = encText (texts[i]'(by omega)) := dif_pos (by omega)
        rw [u2] at a0 hp1 t1
        have h3 := h100 i (by omega)
        have t2 := text_app (texts[i]'(by omega)) 100 (by omega) (wr (nums.drop (i + 1)) (texts.drop (i + 1)))
        rw [if_neg (by omega)] at t2
        have hp2 := hp1.text h3
        simp -implicitDefEqProofs only [tW_draw, tD, pnK, toldOf, List.filter_cons, List.filter_nil, List.filterMap_cons, List.filterMap_nil, staysTold, rdWhere, touch, freeOf, Ins.dsts, Ins.looks, I.ops, tmpsO, clsI, List.all_cons, List.all_nil, List.any_cons, List.any_nil, List.contains_cons, List.contains_nil, List.append_nil, List.nil_append, List.cons_append, Option.toList_some, Option.toList_none, Option.isSome_some, Option.isSome_none, Bool.and_true, Bool.true_and, Bool.and_false, Bool.false_and, Bool.or_false, Bool.false_or, Bool.or_true, Bool.true_or, Bool.not_false, Bool.not_true, and_true, true_and, and_false, false_and, Nat.reduceBEq, bne_iff_ne, l_handsellaw03_CodecBack_2, fn_handsellaw03_CodecBack, o_handsellaw03_CodecBack_0, o_handsellaw03_CodecBack_1, o_handsellaw03_CodecBack_10, o_handsellaw03_CodecBack_11, o_handsellaw03_CodecBack_12, o_handsellaw03_CodecBack_13, o_handsellaw03_CodecBack_14, o_handsellaw03_CodecBack_15, o_handsellaw03_CodecBack_16, o_handsellaw03_CodecBack_17, o_handsellaw03_CodecBack_18, o_handsellaw03_CodecBack_19, o_handsellaw03_CodecBack_2, o_handsellaw03_CodecBack_20, o_handsellaw03_CodecBack_21, o_handsellaw03_CodecBack_22, o_handsellaw03_CodecBack_23, o_handsellaw03_CodecBack_24, o_handsellaw03_CodecBack_25, o_handsellaw03_CodecBack_26, o_handsellaw03_CodecBack_27, o_handsellaw03_CodecBack_28, o_handsellaw03_CodecBack_29, o_handsellaw03_CodecBack_3, o_handsellaw03_CodecBack_4, o_handsellaw03_CodecBack_5, o_handsellaw03_CodecBack_6, o_handsellaw03_CodecBack_7, o_handsellaw03_CodecBack_8, o_handsellaw03_CodecBack_9, tc_handsellaw03_CodecBack, TT, Ic.t, Ic.ci, ne_eq, eq_self, not_true_eq_false, Nat.reduceEqDiff, reduceIte, Nat.reduceAdd, Nat.reduceMul, Nat.reduceLT, Nat.reduceLeDiff, Nat.reduceSub, reduceCtorEq, Int.reduceEq, Int.reduceNe, decide_eq_true_eq, bne_self_eq_false, beq_self_eq_true, Int.reduceToNat, Int.reduceLT, Int.reduceLE, Int.reduceNeg, h1, h2, g1, g2, c0, w1, hlk, enc_len, hr, Num_s, Text_s, a0, a1, asRd_rd, isRd_rd, b0, b1, l0, l1, hne, hne', t1, t2]
        rw [hnx]
        simp -implicitDefEqProofs only [TT, Ic.t, Ic.ci, ne_eq, eq_self, not_true_eq_false, Nat.reduceEqDiff, reduceIte, Nat.reduceAdd, Nat.reduceMul, Nat.reduceLT, Nat.reduceLeDiff, Nat.reduceSub, reduceCtorEq, Int.reduceEq, Int.reduceNe, decide_eq_true_eq, bne_self_eq_false, beq_self_eq_true, Int.reduceToNat, Int.reduceLT, Int.reduceLE, Int.reduceNeg, b0, b1]
        refine cont _ _ ?_ ?_ hp2 ?_ ?_
        all_goals simp -implicitDefEqProofs only [TT, Ic.t, Ic.ci, ne_eq, eq_self, not_true_eq_false, Nat.reduceEqDiff, reduceIte, Nat.reduceAdd, Nat.reduceMul, Nat.reduceLT, Nat.reduceLeDiff, Nat.reduceSub, reduceCtorEq, Int.reduceEq, Int.reduceNe, decide_eq_true_eq, bne_self_eq_false, beq_self_eq_true, Int.reduceToNat, Int.reduceLT, Int.reduceLE, Int.reduceNeg, b0, b1, hne, hne']
      · have u2 : wrT i texts = ⟨#[]⟩ := dif_neg (by omega)
        rw [u2, nil_app] at a0 hp1 t1
        simp -implicitDefEqProofs only [tW_draw, tD, pnK, toldOf, List.filter_cons, List.filter_nil, List.filterMap_cons, List.filterMap_nil, staysTold, rdWhere, touch, freeOf, Ins.dsts, Ins.looks, I.ops, tmpsO, clsI, List.all_cons, List.all_nil, List.any_cons, List.any_nil, List.contains_cons, List.contains_nil, List.append_nil, List.nil_append, List.cons_append, Option.toList_some, Option.toList_none, Option.isSome_some, Option.isSome_none, Bool.and_true, Bool.true_and, Bool.and_false, Bool.false_and, Bool.or_false, Bool.false_or, Bool.or_true, Bool.true_or, Bool.not_false, Bool.not_true, and_true, true_and, and_false, false_and, Nat.reduceBEq, bne_iff_ne, l_handsellaw03_CodecBack_2, fn_handsellaw03_CodecBack, o_handsellaw03_CodecBack_0, o_handsellaw03_CodecBack_1, o_handsellaw03_CodecBack_10, o_handsellaw03_CodecBack_11, o_handsellaw03_CodecBack_12, o_handsellaw03_CodecBack_13, o_handsellaw03_CodecBack_14, o_handsellaw03_CodecBack_15, o_handsellaw03_CodecBack_16, o_handsellaw03_CodecBack_17, o_handsellaw03_CodecBack_18, o_handsellaw03_CodecBack_19, o_handsellaw03_CodecBack_2, o_handsellaw03_CodecBack_20, o_handsellaw03_CodecBack_21, o_handsellaw03_CodecBack_22, o_handsellaw03_CodecBack_23, o_handsellaw03_CodecBack_24, o_handsellaw03_CodecBack_25, o_handsellaw03_CodecBack_26, o_handsellaw03_CodecBack_27, o_handsellaw03_CodecBack_28, o_handsellaw03_CodecBack_29, o_handsellaw03_CodecBack_3, o_handsellaw03_CodecBack_4, o_handsellaw03_CodecBack_5, o_handsellaw03_CodecBack_6, o_handsellaw03_CodecBack_7, o_handsellaw03_CodecBack_8, o_handsellaw03_CodecBack_9, tc_handsellaw03_CodecBack, TT, Ic.t, Ic.ci, ne_eq, eq_self, not_true_eq_false, Nat.reduceEqDiff, reduceIte, Nat.reduceAdd, Nat.reduceMul, Nat.reduceLT, Nat.reduceLeDiff, Nat.reduceSub, reduceCtorEq, Int.reduceEq, Int.reduceNe, decide_eq_true_eq, bne_self_eq_false, beq_self_eq_true, Int.reduceToNat, Int.reduceLT, Int.reduceLE, Int.reduceNeg, h1, h2, g1, c0, w1, hlk, enc_len, hr, Num_s, Text_s, a0, a1, asRd_rd, isRd_rd, b0, b1, l0, l1, hne, hne', t1]
        rw [hnx]
        simp -implicitDefEqProofs only [TT, Ic.t, Ic.ci, ne_eq, eq_self, not_true_eq_false, Nat.reduceEqDiff, reduceIte, Nat.reduceAdd, Nat.reduceMul, Nat.reduceLT, Nat.reduceLeDiff, Nat.reduceSub, reduceCtorEq, Int.reduceEq, Int.reduceNe, decide_eq_true_eq, bne_self_eq_false, beq_self_eq_true, Int.reduceToNat, Int.reduceLT, Int.reduceLE, Int.reduceNeg, b0, b1]
        refine cont _ _ ?_ ?_ hp1 ?_ ?_
        all_goals simp -implicitDefEqProofs only [TT, Ic.t, Ic.ci, ne_eq, eq_self, not_true_eq_false, Nat.reduceEqDiff, reduceIte, Nat.reduceAdd, Nat.reduceMul, Nat.reduceLT, Nat.reduceLeDiff, Nat.reduceSub, reduceCtorEq, Int.reduceEq, Int.reduceNe, decide_eq_true_eq, bne_self_eq_false, beq_self_eq_true, Int.reduceToNat, Int.reduceLT, Int.reduceLE, Int.reduceNeg, b0, b1, hne, hne']
    · have u1 : wrN i nums = ⟨#[]⟩ := dif_neg (by omega)
      rw [u1, nil_app] at a0 hp
      have h2 : (i : Int) < (texts.length : Int) := by omega
      have g2 := enc_str texts i (by omega)
      have u2 : wrT i texts = encText (texts[i]'(by omega)) := dif_pos (by omega)
      rw [u2] at a0 hp
      have h3 := h100 i (by omega)
      have t2 := text_app (texts[i]'(by omega)) 100 (by omega) (wr (nums.drop (i + 1)) (texts.drop (i + 1)))
      rw [if_neg (by omega)] at t2
      have hp2 := hp.text h3
      simp -implicitDefEqProofs only [tW_draw, tD, pnK, toldOf, List.filter_cons, List.filter_nil, List.filterMap_cons, List.filterMap_nil, staysTold, rdWhere, touch, freeOf, Ins.dsts, Ins.looks, I.ops, tmpsO, clsI, List.all_cons, List.all_nil, List.any_cons, List.any_nil, List.contains_cons, List.contains_nil, List.append_nil, List.nil_append, List.cons_append, Option.toList_some, Option.toList_none, Option.isSome_some, Option.isSome_none, Bool.and_true, Bool.true_and, Bool.and_false, Bool.false_and, Bool.or_false, Bool.false_or, Bool.or_true, Bool.true_or, Bool.not_false, Bool.not_true, and_true, true_and, and_false, false_and, Nat.reduceBEq, bne_iff_ne, l_handsellaw03_CodecBack_2, fn_handsellaw03_CodecBack, o_handsellaw03_CodecBack_0, o_handsellaw03_CodecBack_1, o_handsellaw03_CodecBack_10, o_handsellaw03_CodecBack_11, o_handsellaw03_CodecBack_12, o_handsellaw03_CodecBack_13, o_handsellaw03_CodecBack_14, o_handsellaw03_CodecBack_15, o_handsellaw03_CodecBack_16, o_handsellaw03_CodecBack_17, o_handsellaw03_CodecBack_18, o_handsellaw03_CodecBack_19, o_handsellaw03_CodecBack_2, o_handsellaw03_CodecBack_20, o_handsellaw03_CodecBack_21, o_handsellaw03_CodecBack_22, o_handsellaw03_CodecBack_23, o_handsellaw03_CodecBack_24, o_handsellaw03_CodecBack_25, o_handsellaw03_CodecBack_26, o_handsellaw03_CodecBack_27, o_handsellaw03_CodecBack_28, o_handsellaw03_CodecBack_29, o_handsellaw03_CodecBack_3, o_handsellaw03_CodecBack_4, o_handsellaw03_CodecBack_5, o_handsellaw03_CodecBack_6, o_handsellaw03_CodecBack_7, o_handsellaw03_CodecBack_8, o_handsellaw03_CodecBack_9, tc_handsellaw03_CodecBack, TT, Ic.t, Ic.ci, ne_eq, eq_self, not_true_eq_false, Nat.reduceEqDiff, reduceIte, Nat.reduceAdd, Nat.reduceMul, Nat.reduceLT, Nat.reduceLeDiff, Nat.reduceSub, reduceCtorEq, Int.reduceEq, Int.reduceNe, decide_eq_true_eq, bne_self_eq_false, beq_self_eq_true, Int.reduceToNat, Int.reduceLT, Int.reduceLE, Int.reduceNeg, h1, h2, g2, c0, w1, hlk, enc_len, hr, Num_s, Text_s, a0, a1, asRd_rd, isRd_rd, b0, b1, l0, l1, hne, hne', t2]
      rw [hnx]
      simp -implicitDefEqProofs only [TT, Ic.t, Ic.ci, ne_eq, eq_self, not_true_eq_false, Nat.reduceEqDiff, reduceIte, Nat.reduceAdd, Nat.reduceMul, Nat.reduceLT, Nat.reduceLeDiff, Nat.reduceSub, reduceCtorEq, Int.reduceEq, Int.reduceNe, decide_eq_true_eq, bne_self_eq_false, beq_self_eq_true, Int.reduceToNat, Int.reduceLT, Int.reduceLE, Int.reduceNeg, b0, b1]
      refine cont _ _ ?_ ?_ hp2 ?_ ?_
      all_goals simp -implicitDefEqProofs only [TT, Ic.t, Ic.ci, ne_eq, eq_self, not_true_eq_false, Nat.reduceEqDiff, reduceIte, Nat.reduceAdd, Nat.reduceMul, Nat.reduceLT, Nat.reduceLeDiff, Nat.reduceSub, reduceCtorEq, Int.reduceEq, Int.reduceNe, decide_eq_true_eq, bne_self_eq_false, beq_self_eq_true, Int.reduceToNat, Int.reduceLT, Int.reduceLE, Int.reduceNeg, b0, b1, hne, hne']
end Go.Proofs.Ytoaohoilkfbdgaa
