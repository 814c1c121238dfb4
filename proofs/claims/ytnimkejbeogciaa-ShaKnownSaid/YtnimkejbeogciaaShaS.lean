/- The digest whole: program and document alike; its writing in sixteens. -/
import Derived.Test.YtnimkejbeogciaaShaW
set_option linter.unusedSimpArgs false
set_option linter.unusedVariables false
set_option linter.unusedSectionVars false
namespace Go.Proofs.Ytnimkejbeogciaa
open Go Go.RowKit Sh Ic
theorem strL_size (l : List Int) : (strL l).size = l.length := by
  show (strL l).data.size = _
  simp [strL]
theorem strL_push (l : List Int) (n : Int) : (strL l).push (UInt8.ofNat n.toNat) = strL (l ++ [n]) := by
  apply ByteArray.ext
  simp [strL,ByteArray.push]
theorem strL_take (l : List Int) (b : Nat) : (strL l).extract 0 b = strL (l.take b) := by
  apply ByteArray.ext
  apply Array.toList_inj.1
  rw [ByteArray.data_extract,Array.toList_extract,List.extract_eq_take_drop,List.drop_zero,Nat.sub_zero]
  show List.take b (l.map fun n => UInt8.ofNat n.toNat) = (l.take b).map fun n => UInt8.ofNat n.toNat
  rw [List.map_take]
theorem strL_cut (l : List Int) (a k : Nat) : (strL l).extract a (a + k) = strL ((l.drop a).take k) := by
  apply ByteArray.ext
  apply Array.toList_inj.1
  rw [ByteArray.data_extract,Array.toList_extract,List.extract_eq_take_drop,Nat.add_sub_cancel_left]
  show List.take k (List.drop a (l.map fun n => UInt8.ofNat n.toNat)) = ((l.drop a).take k).map fun n => UInt8.ofNat n.toNat
  rw [List.map_take,List.map_drop]
theorem strL_drop (l : List Int) (a : Nat) (h : a ≤ l.length) : (strL l).extract a (strL l).size = strL (l.drop a) := by
  have : (strL l).size = a + (l.length - a) := by rw [strL_size]; omega
  rw [this,strL_cut,List.take_of_length_le (by rw [List.length_drop]; omega)]
theorem strL_bytes (s : ByteArray) : strL (bytesL s) = s := by
  apply ByteArray.ext
  apply Array.toList_inj.1
  show ((s.data.toList.map fun b => (b.toNat : Int)).map fun n => UInt8.ofNat n.toNat) = _
  rw [List.map_map]
  apply List.ext_getElem?
  intro i
  rw [List.getElem?_map]
  cases s.data.toList[i]? with
  | none => rfl
  | some b => show some (UInt8.ofNat ((b.toNat : Int)).toNat) = some b; rw [Int.toNat_natCast,UInt8.ofNat_toNat]
theorem strL_app1 (s : ByteArray) : s ++ (⟨#[128]⟩ : ByteArray) = strL (bytesL s ++ [128]) := by
  apply ByteArray.ext
  apply Array.toList_inj.1
  rw [ByteArray.data_append,Array.toList_append]
  show _ = (bytesL s ++ [128]).map fun n : Int => UInt8.ofNat n.toNat
  rw [List.map_append]
  congr 1
  exact (congrArg (fun b : ByteArray => b.data.toList) (strL_bytes s)).symm
theorem tmod_nat (n k : Nat) (z : Int) (hz : z = (k : Int)) : Int.tmod (n : Int) z = ((n % k : Nat) : Int) := by subst hz; rfl
theorem wr8 (n : Int) : IntKind.u8.wrap n = n % 256 := by simp [IntKind.wrap,IntKind.bits,IntKind.signed]
theorem wr8_in (n : Int) : 0 ≤ IntKind.u8.wrap n ∧ IntKind.u8.wrap n < 256 := by rw [wr8]; omega
theorem pad1_f (L : Int) (k : Nat) : ∀ l : List Int,(l.length + k) % 64 = 56 → k < 64 → l.length + k < 1000000000000 → sha_Sum_f_l1 L (strL l) = some (strL (l ++ List.replicate k 0)) := by
  induction k with
  | zero =>
    intro l h hk hb
    rw [sha_Sum_f_l1_eq,sha_Sum_f_l1_step,strL_size,tmod_nat _ 64 64 rfl,if_pos (by omega),List.replicate_zero,List.append_nil]
    rfl
  | succ k ih =>
    intro l h hk hb
    rw [sha_Sum_f_l1_eq,sha_Sum_f_l1_step,strL_size,tmod_nat _ 64 64 rfl,if_neg (by omega),if_pos ⟨by omega,by omega,by omega⟩,strL_push]
    rw [obz,LS.go]
    have e := ih (l ++ [0]) (by rw [List.length_append]; show (l.length + 1 + k) % 64 = 56; omega) (by omega) (by rw [List.length_append]; show l.length + 1 + k < _; omega)
    rw [List.append_assoc] at e
    exact e
theorem pad2_f (x : ByteArray) (k : Nat) : ∀ l : List Int,(l.length + k) % 64 = 56 → k < 64 → l.length + k < 100000000000 → handselref01_Sum_f_l1 x l = some (l ++ List.replicate k 0) := by
  induction k with
  | zero =>
    intro l h hk hb
    rw [handselref01_Sum_f_l1_eq,handselref01_Sum_f_l1_step,tmod_nat _ 64 64 rfl,if_pos (by omega),List.replicate_zero,List.append_nil]
    rfl
  | succ k ih =>
    intro l h hk hb
    rw [handselref01_Sum_f_l1_eq,handselref01_Sum_f_l1_step,tmod_nat _ 64 64 rfl,if_neg (by omega),if_pos (by omega)]
    rw [obz,LS.go]
    have e := ih (l ++ [0]) (by rw [List.length_append]; show (l.length + 1 + k) % 64 = 56; omega) (by omega) (by rw [List.length_append]; show l.length + 1 + k < _; omega)
    rw [List.append_assoc] at e
    exact e
def sh8 (L : Int) (i : Nat) : Int := IntKind.u8.wrap (Int.fdiv L (2 ^ (56 - 8 * i)))
def lb (L : Int) : Nat → Nat → List Int
  | _,0 => []
  | i,n + 1 => sh8 L i :: lb L (i + 1) n
theorem w56 (i : Nat) (h : i < 8) : IntKind.i64.wrap ((56 : Int) - (IntKind.i64.wrap ((8 : Int) * (i : Int)))) = ((56 - 8 * i : Nat) : Int) := by
  rw [w64 (n := 8 * (i : Int)) (by omega) (by omega),w64 (by omega) (by omega)]; omega
theorem u64n (n : Nat) (h : n < 1000) : IntKind.u64.wrap (n : Int) = (n : Int) := by
  have : IntKind.u64.wrap (n : Int) = (n : Int) % 18446744073709551616 := by simp [IntKind.wrap,IntKind.bits,IntKind.signed]
  omega
theorem min64 (n : Nat) (h : n ≤ 64) : Nat.min n IntKind.u64.bits = n := Nat.min_eq_left h
theorem len1_f (L : Int) (n : Nat) : ∀ (i : Nat) (l : List Int),n + i = 8 → l.length < 900000000000 + i → sha_Sum_f_l2 L (strL l) (i : Int) = some (strL (l ++ lb L i n)) := by
  induction n with
  | zero =>
    intro i l hi hb
    obtain rfl : i = 8 := by omega
    rw [sha_Sum_f_l2_eq,sha_Sum_f_l2_step,if_neg (by decide),lb,List.append_nil]
    rfl
  | succ n ih =>
    intro i l hi hb
    have r := wr8_in (Int.fdiv L (2 ^ (56 - 8 * i)))
    rw [sha_Sum_f_l2_eq,sha_Sum_f_l2_step,if_pos (by omega),w56 i (by omega),if_pos (by omega),Int.toNat_natCast,min64 _ (by omega),if_pos ⟨r.1,r.2,by rw [strL_size]; omega⟩,strL_push,inc64 i (by omega)]
    rw [obz,LS.go]
    have e := ih (i + 1) (l ++ [sh8 L i]) (by omega) (by rw [List.length_append]; show l.length + 1 < _; omega)
    rw [List.append_assoc] at e
    exact e
theorem len2_f (L : Int) (n : Nat) : ∀ (i : Nat) (l : List Int),n + i = 8 → l.length < 900000000000 + i → handselref01_Sum_f_l2 L l (i : Int) = some (l ++ lb L i n) := by
  induction n with
  | zero =>
    intro i l hi hb
    obtain rfl : i = 8 := by omega
    rw [handselref01_Sum_f_l2_eq,handselref01_Sum_f_l2_step,if_neg (by decide),lb,List.append_nil]
    rfl
  | succ n ih =>
    intro i l hi hb
    rw [handselref01_Sum_f_l2_eq,handselref01_Sum_f_l2_step,if_pos (by omega),w56 i (by omega),u64n _ (by omega),if_pos (by omega),Int.toNat_natCast,min64 _ (by omega),if_pos (by omega),inc64 i (by omega)]
    rw [obz,LS.go]
    have e := ih (i + 1) (l ++ [sh8 L i]) (by omega) (by rw [List.length_append]; show l.length + 1 < _; omega)
    rw [List.append_assoc] at e
    exact e
def blocks : Nat → List Int → List W → List W
  | 0,_,hs => hs
  | n + 1,m,hs => blocks n (m.drop 64) (blockW hs (strL (m.take 64)))
theorem blocks_len (n : Nat) : ∀ (m : List Int) (hs : List W),hs.length = 8 → (blocks n m hs).length = 8 := by
  induction n with
  | zero => intro m hs h; exact h
  | succ n ih => intro m hs h; exact ih _ _ (blockW_len _ _ h)
theorem run1_f (n : Nat) : ∀ (m : List Int) (hs : List W),m.length = 64 * n → hs.length = 8 → sha_Sum_f_l3 (wl K256) (wl hs) (strL m) = some (wl (blocks n m hs)) := by
  induction n with
  | zero =>
    intro m hs hm hl
    obtain rfl : m = [] := List.eq_nil_of_length_eq_zero (by omega)
    rw [sha_Sum_f_l3_eq,sha_Sum_f_l3_step,if_pos (show strL [] = (⟨#[]⟩ : ByteArray) from rfl)]
    rfl
  | succ n ih =>
    intro m hs hm hl
    have ne : ¬ strL m = (⟨#[]⟩ : ByteArray) := fun h => by
      have h2 := strL_size m
      rw [h] at h2
      have h3 : (⟨#[]⟩ : ByteArray).size = 0 := rfl
      omega
    rw [sha_Sum_f_l3_eq,sha_Sum_f_l3_step,if_neg ne,if_pos ⟨by omega,by rw [strL_size]; omega⟩,strL_take,strL_drop _ _ (by omega)]
    rw [mix_f hs _ hl (by rw [strL_size,List.length_take]; omega)]
    rw [obz,obz,LS.go]
    exact ih _ _ (by rw [List.length_drop]; omega) (blockW_len _ _ hl)
theorem run2_f (m : List Int) (t : Nat) (hm : m.length = 64 * t) (ht : t < 1000000000) (n : Nat) : ∀ (j : Nat) (hs : List W),n + j = t → hs.length = 8 → handselref01_Sum_f_l3 (strL m) (wl hs) ((64 * j : Nat) : Int) = some (wl (blocks n (m.drop (64 * j)) hs)) := by
  induction n with
  | zero =>
    intro j hs hj hl
    rw [handselref01_Sum_f_l3_eq,handselref01_Sum_f_l3_step,if_neg (by rw [strL_size]; omega)]
    rfl
  | succ n ih =>
    intro j hs hj hl
    rw [handselref01_Sum_f_l3_eq,handselref01_Sum_f_l3_step,if_pos (by rw [strL_size]; omega),if_pos (by rw [wl_len]; exact hl),plus64 _ 64 64 rfl (by omega) (by omega)]
    rw [if_pos ⟨⟨by omega,by rw [strL_size]; omega⟩,by omega,by omega⟩,Int.toNat_natCast,Int.toNat_natCast,strL_cut,block_f hs _ hl (by rw [strL_size,List.length_take,List.length_drop]; omega)]
    rw [obz,if_pos (by rw [wl_len,blockW_len _ _ hl]),obz,LS.go]
    have e := ih (j + 1) (blockW hs (strL ((m.drop (64 * j)).take 64))) (by omega) (blockW_len _ _ hl)
    rw [show 64 * (j + 1) = 64 * j + 64 from by omega,← List.drop_drop] at e
    exact e
def o4 (y : Int) : List Int := [(IntKind.u8.wrap (Int.fdiv y (2 ^ (Nat.min 24 IntKind.u32.bits)))),(IntKind.u8.wrap (Int.fdiv y (2 ^ (Nat.min 16 IntKind.u32.bits)))),(IntKind.u8.wrap (Int.fdiv y (2 ^ (Nat.min 8 IntKind.u32.bits)))),(IntKind.u8.wrap y)]
def outs (hs : List W) : Nat → Nat → List Int
  | _,0 => []
  | i,n + 1 => o4 ((hs.getD i 0).toNat : Int) ++ outs hs (i + 1) n
theorem outs_len (hs : List W) (n : Nat) : ∀ i,(outs hs i n).length = 4 * n := by
  induction n with
  | zero => intro i; rfl
  | succ n ih => intro i; rw [outs,List.length_append,ih]; show 4 + 4 * n = _; omega
theorem out1_f (hs : List W) (hl : hs.length = 8) (n : Nat) : ∀ (i : Nat) (l : List Int),n + i = 8 → l.length ≤ 100 + 4 * i → sha_Sum_f_l4 (wl hs) l (i : Int) = some (l ++ outs hs i n) := by
  induction n with
  | zero =>
    intro i l hi hb
    obtain rfl : i = 8 := by omega
    rw [sha_Sum_f_l4_eq,sha_Sum_f_l4_step,if_neg (by decide),outs,List.append_nil]
    rfl
  | succ n ih =>
    intro i l hi hb
    rw [sha_Sum_f_l4_eq,sha_Sum_f_l4_step,if_pos (by omega),if_pos (by rw [wl_len]; omega),if_pos ⟨by omega,by omega⟩,wl_get hs i _ rfl (by omega)]
    rw [obz,if_pos (by omega),inc64 i (by omega),obz,LS.go]
    have e := ih (i + 1) (l ++ o4 ((hs.getD i 0).toNat : Int)) (by omega) (by rw [List.length_append]; show l.length + 4 ≤ _; omega)
    rw [List.append_assoc] at e
    exact e
theorem out2_f (hs : List W) (hl : hs.length = 8) (n : Nat) : ∀ (i : Nat) (l : List Int),n + i = 8 → l.length ≤ 100 + 4 * i → handselref01_Sum_f_l4 (wl hs) l (i : Int) = some (l ++ outs hs i n) := by
  induction n with
  | zero =>
    intro i l hi hb
    obtain rfl : i = 8 := by omega
    rw [handselref01_Sum_f_l4_eq,handselref01_Sum_f_l4_step,if_neg (by decide),outs,List.append_nil]
    rfl
  | succ n ih =>
    intro i l hi hb
    rw [handselref01_Sum_f_l4_eq,handselref01_Sum_f_l4_step,if_pos (by omega),if_pos ⟨by omega,by omega⟩,wl_get hs i _ rfl (by omega)]
    rw [obz,if_pos (by omega),inc64 i (by omega),obz,LS.go]
    have e := ih (i + 1) (l ++ o4 ((hs.getD i 0).toNat : Int)) (by omega) (by rw [List.length_append]; show l.length + 4 ≤ _; omega)
    rw [List.append_assoc] at e
    exact e
def H0 : List W := [1779033703,3144134277,1013904242,2773480762,1359893119,2600822924,528734635,1541459225]
theorem H0_wl : ([(1779033703 : Int),(3144134277 : Int),(1013904242 : Int),(2773480762 : Int),(1359893119 : Int),(2600822924 : Int),(528734635 : Int),(1541459225 : Int)]) = wl H0 := rfl
theorem first_f : sha_first_f = some (wl H0) := rfl
def kz (n : Nat) : Nat := (120 - (n + 1) % 64) % 64
def bitsI (s : ByteArray) : Int := IntKind.u64.wrap ((IntKind.u64.wrap ((s.size : Nat) : Int)) * (8 : Int))
def padded (s : ByteArray) : List Int := ((bytesL s ++ [128]) ++ List.replicate (kz s.size) 0) ++ lb (bitsI s) 0 8
def nblk (s : ByteArray) : Nat := (s.size + 1 + kz s.size + 8) / 64
def state (s : ByteArray) : List W := blocks (nblk s) (padded s) H0
def SHA (s : ByteArray) : ByteArray := strL (outs (state s) 0 8)
theorem lb_len (L : Int) (n : Nat) : ∀ i,(lb L i n).length = n := by
  induction n with
  | zero => intro i; rfl
  | succ n ih => intro i; rw [lb,List.length_cons,ih]
theorem kz_ok (n : Nat) : (n + 1 + kz n) % 64 = 56 ∧ kz n < 64 := by unfold kz; omega
theorem padded_len (s : ByteArray) : (padded s).length = 64 * nblk s := by
  have := kz_ok s.size
  unfold padded nblk
  rw [List.length_append,List.length_append,List.length_append,lb_len,List.length_replicate,bytesL_len]
  show s.size + 1 + kz s.size + 8 = _
  omega
theorem state_len (s : ByteArray) : (state s).length = 8 := blocks_len _ _ _ rfl
theorem SHA_size (s : ByteArray) : (SHA s).size = 32 := by rw [SHA,strL_size,outs_len]
theorem sum1_f (s : ByteArray) (h : s.size < 10000000000) : sha_Sum_f s = some (SHA s) := by
  have kk := kz_ok s.size
  have l1 : (bytesL s ++ [128]).length = s.size + 1 := by rw [List.length_append,bytesL_len]; rfl
  have e1 := pad1_f (bitsI s) (kz s.size) (bytesL s ++ [128]) (by rw [l1]; exact kk.1) kk.2 (by omega)
  have e2 := len1_f (bitsI s) 8 0 ((bytesL s ++ [128]) ++ List.replicate (kz s.size) 0) rfl (by rw [List.length_append,List.length_replicate]; omega)
  have e3 := run1_f (nblk s) (padded s) H0 (padded_len s) rfl
  rw [show blocks (nblk s) (padded s) H0 = state s from rfl] at e3
  have e4 := out1_f (state s) (state_len s) 7 1 (o4 (((state s).getD 0 0).toNat : Int)) rfl (by show 4 ≤ _; omega)
  have s8 : (wl (state s)).length = 8 := by rw [wl_len,state_len]
  have k64 : (wl K256).length = 64 := rfl
  have h8 : (wl H0).length = 8 := rfl
  have i1 : IntKind.i64.wrap ((0 : Int) + (1 : Int)) = ((1 : Nat) : Int) := by decide
  unfold sha_Sum_f
  rw [if_pos (by omega),if_pos (by show s.size + 1 ≤ _; omega),strL_app1,first_f,constants_f]
  refine (congrArg (· >>= _) e1).trans ?_
  refine (congrArg (· >>= _) e2).trans ?_
  rw [obz,obz,obz,if_pos h8,if_pos k64,if_pos (by show (strL (padded s)).size ≤ _; rw [strL_size,padded_len]; have := padded_len s; unfold nblk at *; omega)]
  refine (congrArg (· >>= _) e3).trans ?_
  show (if (wl (state s)).length = 8 then _ else none) = _
  rw [if_pos s8,if_pos (by omega)]
  show (ixL (wl (state s)) 0 >>= _) = _
  rw [wl_get (state s) 0 0 rfl (by rw [state_len]; omega),obz,i1]
  refine (congrArg (· >>= _) e4).trans ?_
  rfl
theorem sum2_f (s : ByteArray) (h : s.size < 10000000000) : handselref01_Sum_f s = some (SHA s) := by
  have kk := kz_ok s.size
  have l1 : (bytesL s ++ [128]).length = s.size + 1 := by rw [List.length_append,bytesL_len]; rfl
  have e1 := pad2_f s (kz s.size) (bytesL s ++ [128]) (by rw [l1]; exact kk.1) kk.2 (by omega)
  have e2 := len2_f (bitsI s) 8 0 ((bytesL s ++ [128]) ++ List.replicate (kz s.size) 0) rfl (by rw [List.length_append,List.length_replicate]; omega)
  have e3 := run2_f (padded s) (nblk s) (padded_len s) (by unfold nblk; omega) (nblk s) 0 H0 rfl rfl
  have e4 := out2_f (state s) (state_len s) 8 0 [] rfl (by show 0 ≤ _; omega)
  have both : (handselref01_Sum_f_l1 s (bytesL s ++ [128]) >>= fun y16 => handselref01_Sum_f_l2 (bitsI s) y16 (0 : Int) >>= fun y18 => handselref01_Sum_f_l3 (strL y18) (wl H0) (0 : Int) >>= fun y20 => handselref01_Sum_f_l4 y20 [] (0 : Int) >>= fun y22 => some (strL y22)) = some (SHA s) := by
    refine (congrArg (· >>= _) e1).trans ?_
    refine (congrArg (· >>= _) e2).trans ?_
    refine (congrArg (· >>= _) e3).trans ?_
    refine (congrArg (· >>= _) e4).trans ?_
    rfl
  unfold handselref01_Sum_f
  by_cases z : s.size = 0
  · rw [if_pos z]
    have b0 : bytesL s = [] := List.eq_nil_of_length_eq_zero (by rw [bytesL_len]; exact z)
    rw [b0] at both
    exact both
  · rw [if_neg z,if_pos (by omega)]
    exact both
end Go.Proofs.Ytnimkejbeogciaa
