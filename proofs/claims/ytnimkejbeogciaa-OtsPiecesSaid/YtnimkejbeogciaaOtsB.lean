/- One-time signatures: the laws. -/
import Derived.Test.YtnimkejbeogciaaOtsA
set_option linter.unusedSimpArgs false
set_option linter.unusedVariables false
set_option linter.unusedSectionVars false
namespace Go.Proofs.Ytnimkejbeogciaa
open Go Go.RowKit Sh Ic
theorem sigp_a (seed : ByteArray) (k : Int) (hk : isK k) (d : ByteArray) (i : Nat) (hi : i < 16) : (sigp seed k d i).extract 0 16 = VAL seed k (i : Int) (bit d i : Int) := by
  have s1 := VAL_size seed k hk i hi _ (bit_lt d i)
  unfold sigp
  generalize VAL seed k (i : Int) (bit d i : Int) = a at *
  generalize SH _ = b
  apply ByteArray.ext
  apply Array.toList_inj.1
  have l : a.data.toList.length = 16 := s1
  rw [ByteArray.data_extract,Array.toList_extract,List.extract_eq_take_drop,ByteArray.toList_data_append,List.drop_zero,Nat.sub_zero,List.take_append_of_le_length (by omega),List.take_of_length_le (by omega)]
theorem sigp_b (seed : ByteArray) (k : Int) (hk : isK k) (d : ByteArray) (i : Nat) (hi : i < 16) : (sigp seed k d i).extract 16 32 = SH (VAL seed k (i : Int) ((1 - bit d i : Nat) : Int)) := by
  have s1 := VAL_size seed k hk i hi _ (bit_lt d i)
  have s2 := SH_size (VAL seed k (i : Int) ((1 - bit d i : Nat) : Int))
  unfold sigp
  generalize VAL seed k (i : Int) (bit d i : Int) = a at *
  generalize SH _ = b at *
  apply ByteArray.ext
  apply Array.toList_inj.1
  have l : a.data.toList.length = 16 := s1
  have l2 : b.data.toList.length = 16 := s2
  rw [ByteArray.data_extract,Array.toList_extract,List.extract_eq_take_drop,ByteArray.toList_data_append,List.drop_append,List.drop_of_length_le (by omega),l,List.nil_append,Nat.sub_self,List.drop_zero,List.take_of_length_le (by omega)]
theorem SIGN_a (seed : ByteArray) (k : Int) (hk : isK k) (msg : ByteArray) (i : Nat) (hi : i < 16) : (SIGN seed k msg).extract (32 * i) (32 * i + 16) = VAL seed k (i : Int) (bit (SHA msg) i : Int) := by
  have c := cat_cut (sigp seed k (SHA msg)) (fun i hi => sigp_size seed k hk _ i hi) i hi
  have e := sigp_a seed k hk (SHA msg) i hi
  rw [← c,ByteArray.extract_extract,Nat.add_zero,Nat.min_eq_left (by omega)] at e
  exact e
theorem SIGN_b (seed : ByteArray) (k : Int) (hk : isK k) (msg : ByteArray) (i : Nat) (hi : i < 16) : (SIGN seed k msg).extract (32 * i + 16) (32 * i + 32) = SH (VAL seed k (i : Int) ((1 - bit (SHA msg) i : Nat) : Int)) := by
  have c := cat_cut (sigp seed k (SHA msg)) (fun i hi => sigp_size seed k hk _ i hi) i hi
  have e := sigp_b seed k hk (SHA msg) i hi
  rw [← c,ByteArray.extract_extract,Nat.min_eq_left (by omega)] at e
  exact e
theorem verp_sign (seed : ByteArray) (k : Int) (hk : isK k) (msg : ByteArray) (i : Nat) (hi : i < 16) : verp (SIGN seed k msg) (SHA msg) i = pubp seed k i := by
  unfold verp pubp
  rw [SIGN_a seed k hk msg i hi,SIGN_b seed k hk msg i hi]
  have b := bit_lt (SHA msg) i
  by_cases c : bit (SHA msg) i = 0
  · rw [if_pos c,c]; rfl
  · have c1 : bit (SHA msg) i = 1 := by omega
    rw [if_neg c,c1]; rfl
theorem verc_sign (seed : ByteArray) (k : Int) (hk : isK k) (msg : ByteArray) : SH (cat (verp (SIGN seed k msg) (SHA msg)) 0 16 ⟨#[]⟩) = PUB seed k := by
  unfold PUB
  rw [cat_congr _ _ (fun i hi => verp_sign seed k hk msg i hi) 16 0 _ rfl]
theorem VER_sign (pub seed : ByteArray) (k : Int) (hk : isK k) (msg : ByteArray) : VER pub msg (SIGN seed k msg) = decide (pub = PUB seed k) := by
  unfold VER
  rw [if_pos (SIGN_size seed k hk msg)]
  have e := verc_sign seed k hk msg
  generalize SH (cat (verp (SIGN seed k msg) (SHA msg)) 0 16 ⟨#[]⟩) = g at *
  rw [e]
theorem VER_len (pub msg sig : ByteArray) (h : sig.size ≠ 512) : VER pub msg sig = false := by unfold VER; rw [if_neg h]
end Go.Proofs.Ytnimkejbeogciaa
