/- One-time signatures: values, bits, what is signed; program and document alike. -/
import Derived.Test.YtnimkejbeogciaaShaF
set_option linter.unusedSimpArgs false
set_option linter.unusedVariables false
set_option linter.unusedSectionVars false
namespace Go.Proofs.Ytnimkejbeogciaa
open Go Go.RowKit Sh Ic
def SH (s : ByteArray) : ByteArray := (SHA s).extract 0 16
theorem SH_size (s : ByteArray) : (SH s).size = 16 := by unfold SH; rw [ByteArray.size_extract,SHA_size]; rfl
theorem short1_f (s : ByteArray) (hs : s.size < 10000000000) : sha_Short_f s = some (SH s) := by
  unfold sha_Short_f
  rw [sum1_f s hs,obz,if_pos ⟨by omega,by rw [SHA_size]; omega⟩]; rfl
theorem short2_f (s : ByteArray) (hs : s.size < 10000000000) : handselref01_Short_f s = some (SH s) := by
  unfold handselref01_Short_f
  rw [sum2_f s hs,obz,if_pos ⟨by omega,by rw [SHA_size]; omega⟩]; rfl
def SEC (seed : ByteArray) (k i b : Int) : ByteArray := SH (seed ++ strL [IntKind.u8.wrap k,IntKind.u8.wrap i,IntKind.u8.wrap b])
def VAL (seed : ByteArray) (k i b : Int) : ByteArray := if 0 ≤ k ∧ k ≤ 255 ∧ 0 ≤ i ∧ i < 16 ∧ 0 ≤ b ∧ b < 2 then SEC seed k i b else ⟨#[]⟩
theorem key_f (k : Int) : ots_isKey_f k = some (decide (0 ≤ k ∧ k ≤ 255)) := by
  unfold ots_isKey_f
  by_cases c : 0 ≤ k
  · rw [if_pos c]; congr 1; by_cases d : k ≤ 255 <;> simp [c,d]
  · rw [if_neg c]; simp [c]
theorem three (a b c : Int) : (strL [a,b,c]).size = 3 := strL_size _
theorem val1_f (seed : ByteArray) (hs : seed.size < 100000) (k i b : Int) : ots_Value_f seed k i b = some (VAL seed k i b) := by
  unfold ots_Value_f VAL
  rw [key_f,obz]
  by_cases c1 : 0 ≤ k ∧ k ≤ 255
  · rw [if_pos (decide_eq_true c1)]
    by_cases c2 : i < 0
    · rw [if_pos c2,if_neg (by omega)]
    · rw [if_neg c2]
      by_cases c3 : 16 ≤ i
      · rw [if_pos c3,if_neg (by omega)]
      · rw [if_neg c3]
        by_cases c4 : b < 0
        · rw [if_pos c4,if_neg (by omega)]
        · rw [if_neg c4]
          by_cases c5 : 2 ≤ b
          · rw [if_pos c5,if_neg (by omega)]
          · rw [if_neg c5,if_pos (by rw [three]; omega),short1_f _ (by rw [ByteArray.size_append,three]; omega),obz,if_pos (by omega)]; rfl
  · rw [if_neg (by simpa using c1),if_neg (by omega)]
theorem val2_f (seed : ByteArray) (hs : seed.size < 100000) (k i b : Int) : handselref02_Value_f seed k i b = some (VAL seed k i b) := by
  unfold handselref02_Value_f VAL
  by_cases c0 : k < 0
  · rw [if_pos c0,if_neg (by omega)]
  · rw [if_neg c0]
    by_cases c1 : 255 < k
    · rw [if_pos c1,if_neg (by omega)]
    · rw [if_neg c1]
      by_cases c2 : i < 0
      · rw [if_pos c2,if_neg (by omega)]
      · rw [if_neg c2]
        by_cases c3 : 16 ≤ i
        · rw [if_pos c3,if_neg (by omega)]
        · rw [if_neg c3]
          by_cases c4 : b < 0
          · rw [if_pos c4,if_neg (by omega)]
          · rw [if_neg c4]
            by_cases c5 : 1 < b
            · rw [if_pos c5,if_neg (by omega)]
            · rw [if_neg c5,if_pos (by rw [three]; omega),short2_f _ (by rw [ByteArray.size_append,three]; omega),obz,if_pos (by omega)]; rfl
def bN (s : ByteArray) (i : Nat) : Nat := (s.data.getD i 0).toNat
theorem bN_lt (s : ByteArray) (i : Nat) : bN s i < 256 := (s.data.getD i 0).toNat_lt
theorem ixB_bN (s : ByteArray) (i : Nat) (z : Int) (hz : z = (i : Int)) (h : i < s.size) : ixB s z = some (bN s i : Int) := by
  subst hz
  unfold ixB
  rw [if_pos (by omega),Int.toNat_natCast]; rfl
def bit (d : ByteArray) (i : Nat) : Nat := bN d (i / 8) / 2 ^ (7 - i % 8) % 2
theorem bit_lt (d : ByteArray) (i : Nat) : bit d i < 2 := Nat.mod_lt _ (by decide)
theorem bit8 : ∀ (j : Fin 8) (b : Fin 256),IntKind.i64.wrap ((BitVec.ofInt IntKind.i64.bits (IntKind.i64.wrap (Int.fdiv (b.val : Int) (2 ^ (Nat.min j.val IntKind.u8.bits)))) &&& BitVec.ofInt IntKind.i64.bits (1 : Int)).toNat : Int) = ((b.val / 2 ^ j.val % 2 : Nat) : Int) := by decide +kernel
theorem at8 (i : Nat) (hi : i < 16) : IntKind.i64.wrap (Int.tdiv (i : Int) (8 : Int)) = ((i / 8 : Nat) : Int) := by
  rw [show Int.tdiv (i : Int) (8 : Int) = ((i / 8 : Nat) : Int) from rfl,w64 (by omega) (by omega)]
theorem left8 (i : Nat) : IntKind.i64.wrap ((7 : Int) - (Int.tmod (i : Int) (8 : Int))) = ((7 - i % 8 : Nat) : Int) := by
  rw [tmod_nat i 8 8 rfl,w64 (by omega) (by omega)]; omega
theorem bit1_f (d : ByteArray) (hd : d.size = 32) (i : Nat) (hi : i < 16) : ots_bits_1_f (i : Int) d = some (bit d i : Int) := by
  unfold ots_bits_1_f
  rw [at8 i hi,ixB_bN d (i / 8) _ rfl (by omega),obz,left8,if_pos (by omega),Int.toNat_natCast,obz]
  exact congrArg some (bit8 ⟨7 - i % 8,by omega⟩ ⟨bN d (i / 8),bN_lt _ _⟩)
theorem bit2_f (d : ByteArray) (hd : d.size = 32) (i : Nat) (hi : i < 16) : handselref02_bit_f d (i : Int) = some (bit d i : Int) := by
  unfold handselref02_bit_f
  rw [at8 i hi,ixB_bN d (i / 8) _ rfl (by omega),obz,left8,u64n _ (by omega),if_pos (by omega),Int.toNat_natCast,obz]
  exact congrArg some (bit8 ⟨7 - i % 8,by omega⟩ ⟨bN d (i / 8),bN_lt _ _⟩)
def cat (f : Nat → ByteArray) : Nat → Nat → ByteArray → ByteArray
  | _,0,acc => acc
  | i,n + 1,acc => cat f (i + 1) n (acc ++ f i)
theorem cat_size (f : Nat → ByteArray) (hf : ∀ i,i < 16 → (f i).size = 32) (n : Nat) : ∀ (i : Nat) (acc : ByteArray),n + i = 16 → (cat f i n acc).size = acc.size + 32 * n := by
  induction n with
  | zero => intro i acc h; rfl
  | succ n ih => intro i acc h; rw [cat,ih (i + 1) _ (by omega),ByteArray.size_append,hf i (by omega)]; omega
theorem cat_congr (f g : Nat → ByteArray) (h : ∀ i,i < 16 → f i = g i) (n : Nat) : ∀ (i : Nat) (acc : ByteArray),n + i = 16 → cat f i n acc = cat g i n acc := by
  induction n with
  | zero => intro i acc _; rfl
  | succ n ih => intro i acc hi; rw [cat,cat,h i (by omega),ih (i + 1) _ (by omega)]
theorem cat_list (f : Nat → ByteArray) (n : Nat) : ∀ (i : Nat) (acc : ByteArray),(cat f i n acc).data.toList = acc.data.toList ++ (cat f i n ⟨#[]⟩).data.toList := by
  induction n with
  | zero => intro i acc; simp [cat]
  | succ n ih =>
    intro i acc
    rw [cat,ih,cat,ih (i + 1) (⟨#[]⟩ ++ f i),ByteArray.toList_data_append,ByteArray.toList_data_append]
    simp
theorem cat_at (f : Nat → ByteArray) (hf : ∀ i,i < 16 → (f i).size = 32) (j : Nat) : ∀ (i n : Nat),n + i = 16 → j < n → ((cat f i n ⟨#[]⟩).data.toList.drop (32 * j)).take 32 = (f (i + j)).data.toList := by
  induction j with
  | zero =>
    intro i n h hj
    cases n with
    | zero => omega
    | succ n =>
      have l : (f i).data.toList.length = 32 := hf i (by omega)
      rw [cat,cat_list,ByteArray.toList_data_append,Nat.mul_zero,List.drop_zero]
      show List.take 32 ([] ++ (f i).data.toList ++ _) = _
      rw [List.nil_append,List.take_append_of_le_length (by omega),List.take_of_length_le (by omega)]
      rfl
  | succ j ih =>
    intro i n h hj
    cases n with
    | zero => omega
    | succ n =>
      have l : (f i).data.toList.length = 32 := hf i (by omega)
      rw [cat,cat_list,ByteArray.toList_data_append]
      show List.take 32 (List.drop (32 * (j + 1)) ([] ++ (f i).data.toList ++ _)) = _
      rw [List.nil_append,List.drop_append,List.drop_of_length_le (by omega),l,List.nil_append,show 32 * (j + 1) - 32 = 32 * j from by omega,ih (i + 1) n (by omega) (by omega),show i + 1 + j = i + (j + 1) from by omega]
theorem cat_cut (f : Nat → ByteArray) (hf : ∀ i,i < 16 → (f i).size = 32) (i : Nat) (hi : i < 16) : (cat f 0 16 ⟨#[]⟩).extract (32 * i) (32 * i + 32) = f i := by
  apply ByteArray.ext
  apply Array.toList_inj.1
  rw [ByteArray.data_extract,Array.toList_extract,List.extract_eq_take_drop,Nat.add_sub_cancel_left,cat_at f hf i 0 16 rfl hi,Nat.zero_add]
def sigp (seed : ByteArray) (k : Int) (d : ByteArray) (i : Nat) : ByteArray := VAL seed k (i : Int) (bit d i : Int) ++ SH (VAL seed k (i : Int) ((1 - bit d i : Nat) : Int))
def SIGN (seed : ByteArray) (k : Int) (msg : ByteArray) : ByteArray := cat (sigp seed k (SHA msg)) 0 16 ⟨#[]⟩
def isK (k : Int) : Prop := 0 ≤ k ∧ k ≤ 255
instance (k : Int) : Decidable (isK k) := inferInstanceAs (Decidable (0 ≤ k ∧ k ≤ 255))
theorem VAL_size (seed : ByteArray) (k : Int) (hk : isK k) (i : Nat) (hi : i < 16) (b : Nat) (hb : b < 2) : (VAL seed k (i : Int) (b : Int)).size = 16 := by
  unfold VAL; rw [if_pos ⟨hk.1,hk.2,by omega,by omega,by omega,by omega⟩]; exact SH_size _
theorem VAL_le (seed : ByteArray) (k i b : Int) : (VAL seed k i b).size ≤ 16 := by
  unfold VAL
  split
  · exact Nat.le_of_eq (SH_size _)
  · exact Nat.zero_le _
theorem sigp_size (seed : ByteArray) (k : Int) (hk : isK k) (d : ByteArray) (i : Nat) (hi : i < 16) : (sigp seed k d i).size = 32 := by
  unfold sigp
  rw [ByteArray.size_append,SH_size,VAL_size seed k hk i hi _ (bit_lt d i)]
theorem SIGN_size (seed : ByteArray) (k : Int) (hk : isK k) (msg : ByteArray) : (SIGN seed k msg).size = 512 := by
  unfold SIGN; rw [cat_size _ (fun i hi => sigp_size seed k hk _ i hi) 16 0 _ rfl]; rfl
theorem flip64 (b : Nat) (hb : b < 2) : IntKind.i64.wrap ((1 : Int) - (b : Int)) = ((1 - b : Nat) : Int) := by rw [w64 (by omega) (by omega)]; omega
theorem sign1p_f (seed : ByteArray) (hs : seed.size < 100000) (k : Int) (d : ByteArray) (hd : d.size = 32) (i : Nat) (hi : i < 16) : ots_Sign_1_f (i : Int) seed k d = some (sigp seed k d i) := by
  have v1 := VAL_le seed k (i : Int) (bit d i : Int)
  have v2 := VAL_le seed k (i : Int) ((1 - bit d i : Nat) : Int)
  unfold ots_Sign_1_f
  rw [bit1_f d hd i hi,obz,val1_f seed hs,obz,flip64 _ (bit_lt d i),val1_f seed hs,obz,short1_f _ (by omega),obz,if_pos (by rw [SH_size]; omega)]
  rfl
theorem sign1_l (seed : ByteArray) (hs : seed.size < 100000) (k : Int) (hk : isK k) (d : ByteArray) (hd : d.size = 32) (n : Nat) : ∀ (i : Nat) (acc : ByteArray),n + i = 16 → acc.size ≤ 32 * i → ots_all_f_l1 seed k d acc (i : Int) = some (cat (sigp seed k d) i n acc) := by
  induction n with
  | zero =>
    intro i acc h ha
    rw [ots_all_f_l1_eq,ots_all_f_l1_step,if_neg (by omega)]
    rfl
  | succ n ih =>
    intro i acc h ha
    have sz := sigp_size seed k hk d i (by omega)
    rw [ots_all_f_l1_eq,ots_all_f_l1_step,if_pos (by omega),sign1p_f seed hs k d hd i (by omega),obz,if_pos (by omega),inc64 i (by omega),obz,LS.go]
    exact ih (i + 1) _ (by omega) (by rw [ByteArray.size_append]; omega)
theorem all1_f (seed : ByteArray) (hs : seed.size < 100000) (k : Int) (hk : isK k) (msg : ByteArray) : ots_all_f seed k (SHA msg) = some (SIGN seed k msg) := by
  have e := sign1_l seed hs k hk (SHA msg) (SHA_size msg) 16 0 ⟨#[]⟩ rfl (Nat.zero_le _)
  rw [show cat (sigp seed k (SHA msg)) 0 16 ⟨#[]⟩ = SIGN seed k msg from rfl] at e
  have sz := SIGN_size seed k hk msg
  unfold ots_all_f
  generalize SIGN seed k msg = g at e sz
  refine (congrArg (fun x => x >>= _) e).trans ?_
  rw [obz,if_pos (by omega)]
theorem sign1_f (seed : ByteArray) (hs : seed.size < 100000) (k : Int) (msg : ByteArray) (hm : msg.size < 100000) : ots_Sign_f seed k msg = some (if isK k then SIGN seed k msg else ⟨#[]⟩) := by
  unfold ots_Sign_f
  rw [key_f,obz]
  by_cases c : isK k
  · rw [if_pos (show decide (0 ≤ k ∧ k ≤ 255) = true from decide_eq_true c),if_pos c]
    unfold ots_bits_f
    rw [sum1_f msg (by omega),obz,obz,all1_f seed hs k c msg,obz]
  · rw [if_neg (by simpa [isK] using c),if_neg c]
theorem sign2_l (seed : ByteArray) (hs : seed.size < 100000) (k : Int) (hk : isK k) (d : ByteArray) (hd : d.size = 32) (n : Nat) : ∀ (i : Nat) (acc : ByteArray),n + i = 16 → acc.size ≤ 32 * i → handselref02_Sign_f_l1 seed k d acc (i : Int) = some (cat (sigp seed k d) i n acc) := by
  induction n with
  | zero =>
    intro i acc h ha
    rw [handselref02_Sign_f_l1_eq,handselref02_Sign_f_l1_step,if_neg (by omega)]
    rfl
  | succ n ih =>
    intro i acc h ha
    have sz := sigp_size seed k hk d i (by omega)
    have v1 := VAL_le seed k (i : Int) (bit d i : Int)
    have v2 := VAL_le seed k (i : Int) ((1 - bit d i : Nat) : Int)
    rw [handselref02_Sign_f_l1_eq,handselref02_Sign_f_l1_step,if_pos (by omega),bit2_f d hd i (by omega),obz,val2_f seed hs,obz,if_pos (by omega),flip64 _ (bit_lt d i),val2_f seed hs,obz,short2_f _ (by omega),obz,if_pos (by rw [SH_size,ByteArray.size_append]; omega),inc64 i (by omega),obz,LS.go,ByteArray.append_assoc]
    exact ih (i + 1) _ (by omega) (by rw [show VAL seed k (i : Int) (bit d i : Int) ++ SH (VAL seed k (i : Int) ((1 - bit d i : Nat) : Int)) = sigp seed k d i from rfl,ByteArray.size_append]; omega)
theorem sign2_f (seed : ByteArray) (hs : seed.size < 100000) (k : Int) (msg : ByteArray) (hm : msg.size < 100000) : handselref02_Sign_f seed k msg = some (if isK k then SIGN seed k msg else ⟨#[]⟩) := by
  unfold handselref02_Sign_f
  by_cases c0 : k < 0
  · rw [if_pos c0,if_neg (by unfold isK; omega)]
  · rw [if_neg c0]
    by_cases c1 : 255 < k
    · rw [if_pos c1,if_neg (by unfold isK; omega)]
    · have c : isK k := ⟨by omega,by omega⟩
      rw [if_neg c1,if_pos c,sum2_f msg (by omega),obz]
      refine (congrArg (fun x => (x >>= _)) (sign2_l seed hs k c (SHA msg) (SHA_size msg) 16 0 ⟨#[]⟩ rfl (Nat.zero_le _))).trans ?_
      rfl
def pubp (seed : ByteArray) (k : Int) (i : Nat) : ByteArray := SH (VAL seed k (i : Int) 0) ++ SH (VAL seed k (i : Int) 1)
def PUB (seed : ByteArray) (k : Int) : ByteArray := SH (cat (pubp seed k) 0 16 ⟨#[]⟩)
theorem pubp_size (seed : ByteArray) (k : Int) (i : Nat) : (pubp seed k i).size = 32 := by unfold pubp; rw [ByteArray.size_append,SH_size,SH_size]
theorem pub1p_f (seed : ByteArray) (hs : seed.size < 100000) (k : Int) (i : Nat) : ots_Public_1_f (i : Int) seed k = some (pubp seed k i) := by
  have v1 := VAL_le seed k (i : Int) 0
  have v2 := VAL_le seed k (i : Int) 1
  unfold ots_Public_1_f
  rw [val1_f seed hs,obz,short1_f _ (by omega),obz,val1_f seed hs,obz,short1_f _ (by omega),obz,if_pos (by rw [SH_size,SH_size]; decide)]
  rfl
theorem pub1_l (seed : ByteArray) (hs : seed.size < 100000) (k : Int) (n : Nat) : ∀ (i : Nat) (acc : ByteArray),n + i = 16 → acc.size ≤ 32 * i → ots_all_f2_l1 seed k acc (i : Int) = some (cat (pubp seed k) i n acc) := by
  induction n with
  | zero =>
    intro i acc h ha
    rw [ots_all_f2_l1_eq,ots_all_f2_l1_step,if_neg (by omega)]
    rfl
  | succ n ih =>
    intro i acc h ha
    have sz := pubp_size seed k i
    rw [ots_all_f2_l1_eq,ots_all_f2_l1_step,if_pos (by omega),pub1p_f seed hs k i,obz,if_pos (by omega),inc64 i (by omega),obz,LS.go]
    exact ih (i + 1) _ (by omega) (by rw [ByteArray.size_append]; omega)
theorem pubc_size (seed : ByteArray) (k : Int) : (cat (pubp seed k) 0 16 ⟨#[]⟩).size = 512 := by rw [cat_size _ (fun i _ => pubp_size seed k i) 16 0 _ rfl]; rfl
theorem all2_f (seed : ByteArray) (hs : seed.size < 100000) (k : Int) : ots_all_f2 seed k = some (cat (pubp seed k) 0 16 ⟨#[]⟩) := by
  have e := pub1_l seed hs k 16 0 ⟨#[]⟩ rfl (Nat.zero_le _)
  have sz := pubc_size seed k
  unfold ots_all_f2
  generalize cat (pubp seed k) 0 16 ⟨#[]⟩ = g at e sz
  refine (congrArg (fun x => x >>= _) e).trans ?_
  rw [obz,if_pos (by omega)]
theorem pub1_f (seed : ByteArray) (hs : seed.size < 100000) (k : Int) : ots_Public_f seed k = some (if isK k then PUB seed k else ⟨#[]⟩) := by
  unfold ots_Public_f
  rw [key_f,obz]
  by_cases c : isK k
  · rw [if_pos (show decide (0 ≤ k ∧ k ≤ 255) = true from decide_eq_true c),if_pos c]
    rw [all2_f seed hs k,obz,short1_f _ (by rw [pubc_size]; decide),obz]
    rfl
  · rw [if_neg (by simpa [isK] using c),if_neg c]
theorem pub2_l (seed : ByteArray) (hs : seed.size < 100000) (k : Int) (n : Nat) : ∀ (i : Nat) (acc : ByteArray),n + i = 16 → acc.size ≤ 32 * i → handselref02_Public_f_l1 seed k acc (i : Int) = some (cat (pubp seed k) i n acc) := by
  induction n with
  | zero =>
    intro i acc h ha
    rw [handselref02_Public_f_l1_eq,handselref02_Public_f_l1_step,if_neg (by omega)]
    rfl
  | succ n ih =>
    intro i acc h ha
    have v1 := VAL_le seed k (i : Int) 0
    have v2 := VAL_le seed k (i : Int) 1
    rw [handselref02_Public_f_l1_eq,handselref02_Public_f_l1_step,if_pos (by omega),val2_f seed hs,obz,short2_f _ (by omega),obz,if_pos (by rw [SH_size]; omega),val2_f seed hs,obz,short2_f _ (by omega),obz,if_pos (by rw [SH_size,ByteArray.size_append,SH_size]; omega),inc64 i (by omega),obz,LS.go,ByteArray.append_assoc]
    exact ih (i + 1) _ (by omega) (by rw [ByteArray.size_append,ByteArray.size_append,SH_size,SH_size]; omega)
theorem pub2_f (seed : ByteArray) (hs : seed.size < 100000) (k : Int) : handselref02_Public_f seed k = some (if isK k then PUB seed k else ⟨#[]⟩) := by
  unfold handselref02_Public_f
  by_cases c0 : k < 0
  · rw [if_pos c0,if_neg (by unfold isK; omega)]
  · rw [if_neg c0]
    by_cases c1 : 255 < k
    · rw [if_pos c1,if_neg (by unfold isK; omega)]
    · have c : isK k := ⟨by omega,by omega⟩
      rw [if_neg c1,if_pos c]
      refine (congrArg (fun x => (x >>= _)) (pub2_l seed hs k 16 0 ⟨#[]⟩ rfl (Nat.zero_le _))).trans ?_
      rw [obz,short2_f _ (by rw [pubc_size]; decide)]
      rfl
def verp (sig d : ByteArray) (i : Nat) : ByteArray := if bit d i = 0 then SH (sig.extract (32 * i) (32 * i + 16)) ++ sig.extract (32 * i + 16) (32 * i + 32) else sig.extract (32 * i + 16) (32 * i + 32) ++ SH (sig.extract (32 * i) (32 * i + 16))
def VER (pub msg sig : ByteArray) : Bool := if sig.size = 512 then decide (pub = SH (cat (verp sig (SHA msg)) 0 16 ⟨#[]⟩)) else false
theorem verp_size (sig d : ByteArray) (hs : sig.size = 512) (i : Nat) (hi : i < 16) : (verp sig d i).size = 32 := by
  unfold verp
  split
  · rw [ByteArray.size_append,SH_size,ByteArray.size_extract]; omega
  · rw [ByteArray.size_append,SH_size,ByteArray.size_extract]; omega
theorem ver1p_f (sig d : ByteArray) (hs : sig.size = 512) (hd : d.size = 32) (i : Nat) (hi : i < 16) : ots_Verify_1_f (i : Int) sig d = some (verp sig d i) := by
  have w1 : IntKind.i64.wrap ((IntKind.i64.wrap ((i : Int) + (1 : Int))) * (32 : Int)) = ((32 * i + 32 : Nat) : Int) := by rw [inc64 i (by omega),w64 (by omega) (by omega)]; omega
  have w2 : IntKind.i64.wrap ((i : Int) * (32 : Int)) = ((32 * i : Nat) : Int) := by rw [w64 (by omega) (by omega)]; omega
  have sz : (sig.extract (32 * i) (32 * i + 32)).size = 32 := by rw [ByteArray.size_extract]; omega
  have x1 : (sig.extract (32 * i) (32 * i + 32)).extract 0 16 = sig.extract (32 * i) (32 * i + 16) := by
    rw [ByteArray.extract_extract,Nat.add_zero,Nat.min_eq_left (by omega)]
  have x2 : (sig.extract (32 * i) (32 * i + 32)).extract 16 32 = sig.extract (32 * i + 16) (32 * i + 32) := by
    rw [ByteArray.extract_extract,Nat.min_eq_left (by omega)]
  have s1 : (sig.extract (32 * i) (32 * i + 16)).size = 16 := by rw [ByteArray.size_extract]; omega
  have s2 : (sig.extract (32 * i + 16) (32 * i + 32)).size = 16 := by rw [ByteArray.size_extract]; omega
  unfold ots_Verify_1_f
  rw [w1,w2,Int.toNat_natCast,Int.toNat_natCast,sz,x1,x2]
  rw [if_pos ⟨⟨by omega,by omega⟩,by omega,by omega⟩,if_pos ⟨by omega,by omega⟩,short1_f _ (by omega),obz,bit1_f d hd i hi,obz]
  unfold verp
  by_cases c : bit d i = 0
  · rw [if_pos (by omega),if_pos c,if_pos (by rw [SH_size,s2]; decide)]
  · rw [if_neg (by omega),if_neg c,if_pos (by rw [SH_size,s2]; decide)]
theorem ver1_l (sig d : ByteArray) (hs : sig.size = 512) (hd : d.size = 32) (n : Nat) : ∀ (i : Nat) (acc : ByteArray),n + i = 16 → acc.size ≤ 32 * i → ots_all_f3_l1 sig d acc (i : Int) = some (cat (verp sig d) i n acc) := by
  induction n with
  | zero =>
    intro i acc h ha
    rw [ots_all_f3_l1_eq,ots_all_f3_l1_step,if_neg (by omega)]
    rfl
  | succ n ih =>
    intro i acc h ha
    have sz := verp_size sig d hs i (by omega)
    rw [ots_all_f3_l1_eq,ots_all_f3_l1_step,if_pos (by omega),ver1p_f sig d hs hd i (by omega),obz,if_pos (by omega),inc64 i (by omega),obz,LS.go]
    exact ih (i + 1) _ (by omega) (by rw [ByteArray.size_append]; omega)
theorem verc_size (sig d : ByteArray) (hs : sig.size = 512) : (cat (verp sig d) 0 16 ⟨#[]⟩).size = 512 := by rw [cat_size _ (fun i hi => verp_size sig d hs i hi) 16 0 _ rfl]; rfl
theorem all3_f (sig d : ByteArray) (hs : sig.size = 512) (hd : d.size = 32) : ots_all_f3 sig d = some (cat (verp sig d) 0 16 ⟨#[]⟩) := by
  have e := ver1_l sig d hs hd 16 0 ⟨#[]⟩ rfl (Nat.zero_le _)
  have sz := verc_size sig d hs
  unfold ots_all_f3
  generalize cat (verp sig d) 0 16 ⟨#[]⟩ = g at e sz
  refine (congrArg (fun x => x >>= _) e).trans ?_
  rw [obz,if_pos (by omega)]
theorem ver1_f (pub msg sig : ByteArray) (hm : msg.size < 100000) : ots_Verify_f pub msg sig = some (VER pub msg sig) := by
  unfold ots_Verify_f VER
  by_cases c : sig.size = 512
  · rw [if_pos (by omega),if_pos c]
    unfold ots_bits_f
    rw [sum1_f msg (by omega),obz,obz,all3_f sig (SHA msg) c (SHA_size msg),obz,short1_f _ (by rw [verc_size _ _ c]; decide),obz]
  · rw [if_neg (by omega),if_neg c]
theorem ver2_l (pub sig d : ByteArray) (hs : sig.size = 512) (hd : d.size = 32) (n : Nat) : ∀ (i : Nat) (acc : ByteArray),n + i = 16 → acc.size ≤ 32 * i → handselref02_Verify_f_l1 pub sig d acc (i : Int) = some (cat (verp sig d) i n acc) := by
  induction n with
  | zero =>
    intro i acc h ha
    rw [handselref02_Verify_f_l1_eq,handselref02_Verify_f_l1_step,if_neg (by omega)]
    rfl
  | succ n ih =>
    intro i acc h ha
    have sz := verp_size sig d hs i (by omega)
    have w0 : IntKind.i64.wrap ((32 : Int) * (i : Int)) = ((32 * i : Nat) : Int) := by rw [w64 (by omega) (by omega)]; omega
    have s1 : (sig.extract (32 * i) (32 * i + 16)).size = 16 := by rw [ByteArray.size_extract]; omega
    have s2 : (sig.extract (32 * i + 16) (32 * i + 32)).size = 16 := by rw [ByteArray.size_extract]; omega
    have ih := ih (i + 1) (acc ++ verp sig d i) (by omega) (by rw [ByteArray.size_append]; omega)
    rw [handselref02_Verify_f_l1_eq,handselref02_Verify_f_l1_step,if_pos (by omega),w0,plus64 _ 16 16 rfl (by omega) (by omega),plus64 _ 32 32 rfl (by omega) (by omega)]
    rw [Int.toNat_natCast,Int.toNat_natCast,Int.toNat_natCast]
    rw [if_pos ⟨⟨by omega,by omega⟩,by omega,by omega⟩,if_pos ⟨⟨by omega,by omega⟩,by omega,by omega⟩,short2_f _ (by omega),obz,bit2_f d hd i (by omega),obz,inc64 i (by omega)]
    rw [cat]
    unfold verp at ih ⊢
    by_cases c : bit d i = 0
    · rw [if_pos c] at ih
      rw [if_pos (by omega),if_pos c,if_pos (by rw [SH_size]; omega),if_pos (by rw [ByteArray.size_append,SH_size,s2]; omega),obz,LS.go,ByteArray.append_assoc]
      exact ih
    · rw [if_neg c] at ih
      rw [if_neg (by omega),if_neg c,if_pos (by rw [s2]; omega),if_pos (by rw [ByteArray.size_append,SH_size,s2]; omega),obz,LS.go,ByteArray.append_assoc]
      exact ih
theorem ver2_f (pub msg sig : ByteArray) (hm : msg.size < 100000) : handselref02_Verify_f pub msg sig = some (VER pub msg sig) := by
  unfold handselref02_Verify_f VER
  by_cases c : sig.size = 512
  · rw [if_pos (by omega),if_pos c,sum2_f msg (by omega),obz]
    have e : handselref02_Verify_f_l1 pub sig (SHA msg) ⟨#[]⟩ 0 = some (cat (verp sig (SHA msg)) 0 16 ⟨#[]⟩) := ver2_l pub sig (SHA msg) c (SHA_size msg) 16 0 ⟨#[]⟩ rfl (Nat.zero_le _)
    rw [e,obz,short2_f _ (by rw [verc_size _ _ c]; decide),obz]
    generalize SH (cat (verp sig (SHA msg)) 0 16 ⟨#[]⟩) = g
    exact congrArg some (decide_eq_decide.2 ⟨Eq.symm,Eq.symm⟩)
  · rw [if_neg (by omega),if_neg c]
end Go.Proofs.Ytnimkejbeogciaa
