/- The readers' steps as rewrites; the laws' own readers are awake. -/
import Derived.Test.YtoaohoilkfbdgaaCodec5
set_option linter.unusedSimpArgs false
set_option linter.unusedVariables false
set_option linter.unusedSectionVars false
namespace Go.Proofs.Ytoaohoilkfbdgaa
open Go Go.RowKit Sh Ic
def asRd : Option Ob → Rd
  | some ⟨_, [.str s, .bool b]⟩ => ⟨s, b⟩
  | _ => .fail
def isRd (o : Option Ob) : Prop := o = some (rdOb (asRd o))
theorem asRd_rd (r : Rd) : asRd (some (rdOb r)) = r := rfl
theorem isRd_rd (r : Rd) : isRd (some (rdOb r)) = True := eq_true rfl
def isRf (o : Option Ob) : Prop := o = some (rfOb (asRd o)) ∧ (asRd o).Inv
theorem asRd_rf (r : Rd) : asRd (some (rfOb r)) = r := rfl
theorem isRf_rf (r : Rd) : isRf (some (rfOb r)) = r.Inv := propext ⟨And.right, fun h => ⟨rfl, h⟩⟩
section
variable {id : Nat} {τ : TH} (h : isRd (τ.at id)) (hi : id < τ.next) (hl : τ.lock ≤ id)
include h hi hl
theorem Text_s (most : Int) (d : Option Nat) (K : TCont) (fr : TF) (tk : TK) : callK G false F_codec_Reader_Text [.ptr id 0, .int .i64 most] d K fr tk τ = K (tput fr d (.str ((asRd (τ.at id)).text most).1)) tk (τ.put id (rdOb ((asRd (τ.at id)).text most).2)) :=
  Text_k _ id τ h hi hl most d K fr tk
theorem Count_s (most : Int) (d : Option Nat) (K : TCont) (fr : TF) (tk : TK) : callK G false F_codec_Reader_Count [.ptr id 0, .int .i64 most] d K fr tk τ = K (tput fr d (.int .i64 ((asRd (τ.at id)).count most).1)) tk (τ.put id (rdOb ((asRd (τ.at id)).count most).2)) :=
  Count_k _ id τ h hi hl most d K fr tk
theorem Num_s (d : Option Nat) (K : TCont) (fr : TF) (tk : TK) : callK G false F_codec_Reader_Num [.ptr id 0] d K fr tk τ = K (tput fr d (.int .i64 (asRd (τ.at id)).num.1)) tk (τ.put id (rdOb (asRd (τ.at id)).num.2)) :=
  Num_k _ id τ h hi hl d K fr tk
omit hl in
theorem Left_s (lk : Bool) (d : Option Nat) (K : TCont) (fr : TF) (tk : TK) : callK G lk F_codec_Reader_Left [.ptr id 0] d K fr tk τ = K (tput fr d (.int .i64 (asRd (τ.at id)).s.size)) tk τ :=
  Left_k _ id τ h hi lk d K fr tk
omit hl in
theorem Bad_s (lk : Bool) (d : Option Nat) (K : TCont) (fr : TF) (tk : TK) : callK G lk F_codec_Reader_Bad [.ptr id 0] d K fr tk τ = K (tput fr d (.bool (asRd (τ.at id)).bad)) tk τ :=
  Bad_k _ id τ h hi lk d K fr tk
end
section
variable {id : Nat} {τ : TH} (h : isRf (τ.at id)) (hi : id < τ.next) (hl : τ.lock ≤ id)
include h hi hl
theorem rText_s (most : Int) (d : Option Nat) (K : TCont) (fr : TF) (tk : TK) : callK G false F_handselref03_R_Text [.ptr id 0, .int .i64 most] d K fr tk τ = K (tput fr d (.str ((asRd (τ.at id)).text most).1)) tk (τ.put id (rfOb ((asRd (τ.at id)).text most).2)) :=
  rText_k _ id τ h.1 hi hl h.2 most d K fr tk
theorem rCount_s (most : Int) (d : Option Nat) (K : TCont) (fr : TF) (tk : TK) : callK G false F_handselref03_R_Count [.ptr id 0, .int .i64 most] d K fr tk τ = K (tput fr d (.int .i64 ((asRd (τ.at id)).count most).1)) tk (τ.put id (rfOb ((asRd (τ.at id)).count most).2)) :=
  rCount_k _ id τ h.1 hi hl h.2 most d K fr tk
theorem rNum_s (d : Option Nat) (K : TCont) (fr : TF) (tk : TK) : callK G false F_handselref03_R_Num [.ptr id 0] d K fr tk τ = K (tput fr d (.int .i64 (asRd (τ.at id)).num.1)) tk (τ.put id (rfOb (asRd (τ.at id)).num.2)) :=
  rNum_k _ id τ h.1 hi hl h.2 d K fr tk
end
theorem awake03_ok : Pu G F_handsellaw03_awake [] (.bool true) := by
  intro τ hlk
  refine Ru_of fun K hK => ?_
  rw [tC_code g_handsellaw03_awake (Nat.le_of_ble_eq_true rfl)]
  have e1 := cText_k ⟨#[97]⟩ (by decide)
  have s9 : (((encText ⟨#[97]⟩).size : Nat) : Int) = 9 := by decide
  have s17 : ¬ ((9223372036854775807 : Int) < (((encText ⟨#[97]⟩).size + (encNum (-7)).size : Nat) : Int)) := by decide
  have t1 : Rd.text ⟨encText ⟨#[97]⟩ ++ encNum (-7), false⟩ 5 = (⟨#[97]⟩, ⟨encNum (-7) ++ ⟨#[]⟩, false⟩) := by
    rw [text_app _ _ (by decide), if_neg (by decide), app_nil]
  have t2 : Rd.num ⟨encNum (-7) ++ ⟨#[]⟩, false⟩ = (-7, ⟨⟨#[]⟩, false⟩) := num_app _ ⟨by decide, by decide⟩ _
  have t3 : ((ByteArray.size ⟨#[]⟩ : Nat) : Int) = 0 := by decide
  simp -implicitDefEqProofs only [fn_handsellaw03_awake, o_handsellaw03_awake_0, o_handsellaw03_awake_1, o_handsellaw03_awake_2, tc_handsellaw03_awake, TT, Ic.t, Ic.ci, ne_eq, eq_self, not_true_eq_false, Nat.reduceEqDiff, reduceIte, Nat.reduceAdd, Nat.reduceMul, Nat.reduceLT, Nat.reduceLeDiff, Nat.reduceSub, reduceCtorEq, Int.reduceEq, Int.reduceNe, decide_eq_true_eq, bne_self_eq_false, beq_self_eq_true, Int.reduceToNat, Int.reduceLT, Int.reduceLE, Int.reduceNeg, e1, cNum_k, hlk, codec_New_k, s9, s17, Text_s, Num_s, Left_s, Bad_s, asRd_rd, isRd_rd, t1, t2, t3]
  exact hK
theorem awake03_k (lk : Bool) (d : Option Nat) (K : TCont) (fr : TF) (tk : TK) (τ : TH) (hl : τ.lock ≤ τ.next) : callK G lk F_handsellaw03_awake [] d K fr tk τ = K (tput fr d (.bool true)) tk τ :=
  callK_pure awake03_ok lk d K fr tk τ (by simp -implicitDefEqProofs only [TT, Ic.t, Ic.ci, ne_eq, eq_self, not_true_eq_false, Nat.reduceEqDiff, reduceIte, Nat.reduceAdd, Nat.reduceMul, Nat.reduceLT, Nat.reduceLeDiff, Nat.reduceSub, reduceCtorEq, Int.reduceEq, Int.reduceNe, decide_eq_true_eq, bne_self_eq_false, beq_self_eq_true, Int.reduceToNat, Int.reduceLT, Int.reduceLE, Int.reduceNeg]) hl
end Go.Proofs.Ytoaohoilkfbdgaa
