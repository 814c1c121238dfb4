import Derived.Test.YtdcfoaafkppojaaM25
set_option linter.unusedSimpArgs false
set_option linter.unusedVariables false
namespace Go.Proofs.Ytdcfoaafkppojaa
open Go Go.RowKit Sh Ic
theorem zbak (n : Int) : IntKind.i64.wrap n = (BitVec.ofInt 64 n).toInt := by
 rw [IntKind.wrap_i64,BitVec.toInt_ofInt]
 simp only [Int.bmod]
 split <;> omega
theorem za5b (n : Int) : BitVec.ofInt 64 (IntKind.i64.wrap n) = BitVec.ofInt 64 n := by rw [zbak,BitVec.ofInt_toInt]
def za3r (v : Int) (c : UInt8) : Int := IntKind.i64.wrap (v * 256 + c.toNat)
theorem bv_shl_or (x : BitVec 64) (c : Nat) (hc : c < 256) : (x <<< 8) ||| BitVec.ofNat 64 c = x <<< 8 + BitVec.ofNat 64 c := by
 rw [BitVec.add_eq_or_of_and_eq_zero]
 apply BitVec.eq_of_getLsbD_eq
 intro i hi
 simp only [BitVec.getLsbD_and,BitVec.getLsbD_shiftLeft,BitVec.getLsbD_ofNat,BitVec.getLsbD_zero]
 by_cases h : i < 8
 · simp [h]
 · have : c.testBit i = false := Nat.testBit_lt_two_pow (Nat.lt_of_lt_of_le hc (Nat.pow_le_pow_right (by decide) (by omega) : 2 ^ 8 ≤ 2 ^ i))
   simp [this]
theorem push_eq (v : Int) (c : UInt8) : IntKind.i64.wrap ((BitVec.ofInt IntKind.i64.bits (IntKind.i64.wrap (v * 2 ^ Nat.min 8 IntKind.i64.bits)) ||| BitVec.ofInt IntKind.i64.bits (IntKind.i64.wrap (c.toNat : Int))).toNat) = za3r v c := by
 show IntKind.i64.wrap ((BitVec.ofInt 64 (IntKind.i64.wrap (v * 2 ^ 8)) ||| BitVec.ofInt 64 (IntKind.i64.wrap (c.toNat : Int))).toNat) = za3r v c
 rw [za5b,za5b]
 have h1 : BitVec.ofInt 64 (v * 2 ^ 8) = (BitVec.ofInt 64 v) <<< 8 := by
  rw [BitVec.ofInt_mul,BitVec.shiftLeft_eq_mul_twoPow]; rfl
 have h2 : BitVec.ofInt 64 (c.toNat : Int) = BitVec.ofNat 64 c.toNat := BitVec.ofInt_natCast ..
 rw [h1,h2,bv_shl_or _ _ c.toNat_lt,← h1,← h2,← BitVec.ofInt_add]
 unfold za3r
 rw [zbak,zbak]
 congr 1
 rw [BitVec.ofInt_natCast,BitVec.ofNat_toNat,BitVec.setWidth_eq]
 congr 1
def za3v (v : Int) (l : List UInt8) : Int := l.foldl za3r v
theorem drop_cons (s : ByteArray) (i : Nat) (h : i < s.size) : s.data.toList.drop i = s.data.getD i 0 :: s.data.toList.drop (i + 1) := by
 have h' : i < s.data.toList.length := by simpa using h
 have h2 : i < s.data.size := h
 rw [List.drop_eq_getElem_cons h',Array.getD_eq_getD_getElem?,Array.getElem?_eq_getElem h2,Option.getD_some,Array.getElem_toList]
theorem bytesL_at (s : ByteArray) (i : Nat) (h : i < s.size) : ixL (qh s) (i : Int) = some ((s.data.getD i 0).toNat : Int) := by
 rw [zafk (by rw [ay]; exact h)]
 unfold qh
 rw [List.getElem_map]
 have h2 : i < s.data.size := h
 rw [Array.getD_eq_getD_getElem?,Array.getElem?_eq_getElem h2,Option.getD_some,Array.getElem_toList]
theorem fold_h (l : List UInt8) : ∀ (u v : Int),IntKind.i64.wrap u = IntKind.i64.wrap v → IntKind.i64.wrap (l.foldl (fun v c => v * 256 + (c.toNat : Int)) u) = IntKind.i64.wrap (za3v v l) := by
 induction l with
 | nil => exact fun u v h => h
 | cons c r ih =>
  intro u v h
  refine ih _ (za3r v c) ?_
  show IntKind.i64.wrap (u * 256 + (c.toNat : Int)) = IntKind.i64.wrap (za3r v c)
  unfold za3r
  rw [IntKind.wrap_i64] at h ⊢
  rw [IntKind.wrap_i64] at h ⊢
  rw [IntKind.wrap_i64]
  omega
theorem za10 (l : List UInt8) : IntKind.i64.wrap (za3v 0 l) = za3v 0 l := by
 have key : ∀ (l : List UInt8) (v : Int),IntKind.i64.wrap v = v → IntKind.i64.wrap (za3v v l) = za3v v l := by
  intro l
  induction l with
  | nil => exact fun v h => h
  | cons c r ih =>
   intro v h
   refine ih (za3r v c) ?_
   unfold za3r
   rw [IntKind.wrap_i64,IntKind.wrap_i64]
   omega
 exact key l 0 (by decide)
theorem wrap_ok (n : Int) : zanc (IntKind.i64.wrap n) = true := by
 rw [IntKind.wrap_i64]
 exact zayo (by omega) (by omega)
theorem zbe8 (l : List UInt8) : zanc (za3v 0 l) = true := by rw [← za10]; exact wrap_ok _
abbrev Rd := aa
def Rd.fail : Rd := ⟨⟨#[]⟩,true⟩
def Rd.can (r : Rd) (n : Int) : Prop := r.bad_ = false ∧ 0 ≤ n ∧ n ≤ r.s_.size
instance (r : Rd) (n : Int) : Decidable (Rd.can r n) := inferInstanceAs (Decidable (_ ∧ _ ∧ _))
def Rd.take (r : Rd) (n : Int) : ByteArray × Rd := if Rd.can r n then (r.s_.extract 0 n.toNat,⟨r.s_.extract n.toNat r.s_.size,false⟩) else (⟨#[]⟩,Rd.fail)
theorem za8l (r : Rd) : gb r = some Rd.fail := rfl
theorem take_f (r : Rd) (n : Int) : iy r n = some (Rd.take r n) := by
 unfold iy Rd.take
 by_cases h1 : r.bad_ = true
 · rw [if_pos h1,za8l,obz,if_neg (fun h : Rd.can r n => by have := h.1; rw [h1] at this; cases this)]
 · have h1' := Bool.eq_false_iff.2 h1
   rw [if_neg h1]
   by_cases h2 : n < 0
   · rw [if_pos h2,za8l,obz,if_neg (fun h : Rd.can r n => by have := h.2.1; omega)]
   · rw [if_neg h2]
     by_cases h3 : ((r.s_.size : Nat) : Int) < n
     · rw [if_pos h3,za8l,obz,if_neg (fun h : Rd.can r n => by have := h.2.2; omega)]
     · rw [if_neg h3,if_pos ⟨by omega,by omega⟩,if_pos ⟨h1',by omega,by omega⟩,h1']
theorem take_size (r : Rd) (n : Int) (hn : n ≤ 1000000000) : (Rd.take r n).1.size ≤ 1000000000 := by
 unfold Rd.take
 split
 · simp only [ByteArray.size_extract]; omega
 · decide
def Rd.num (r : Rd) : Int × Rd := (za3v 0 (Rd.take r 8).1.data.toList,(Rd.take r 8).2)
def Rd.count (r : Rd) (most : Int) : Int × Rd := if (Rd.num r).1 < 0 ∨ most < (Rd.num r).1 then (0,Rd.fail) else Rd.num r
def Rd.text (r : Rd) (most : Int) : ByteArray × Rd := Rd.take (Rd.count r most).2 (Rd.count r most).1
theorem num_l (s : ByteArray) (hs : s.size ≤ 1000000000) (n : Nat) : ∀ (i : Nat) (v : Int),n + i = s.size → jj (qh s) (s.size : Nat) v (i : Int) = some (za3v v (s.data.toList.drop i)) := by
 induction n with
 | zero =>
  intro i v h
  have e : s.data.toList.drop i = [] := List.drop_eq_nil_of_le (by simp; omega)
  rw [zm,dg,if_neg (by omega),obz,LS.go,e]; rfl
 | succ n ih =>
  intro i v h
  rw [zm,dg,if_pos (by omega),bytesL_at s i (by omega),obz,push_eq,obz,obz,LS.go,zadh i (by omega),drop_cons s i (by omega)]
  exact ih (i + 1) _ (by omega)
theorem za7d (r : Rd) : de r = some (Rd.num r) := by
 unfold de Rd.num
 have e := num_l (Rd.take r 8).1 (take_size r 8 (by decide)) (Rd.take r 8).1.size 0 0 rfl
 have e : jj (qh (Rd.take r 8).1) ((Rd.take r 8).1.size : Nat) 0 0 = _ := e
 rw [take_f,obz,ay,e,obz]; rfl
theorem rin_f (r : Rd) (most : Int) : ng r most = some (Rd.count r most) := by
 unfold ng Rd.count
 rw [za7d,obz]
 by_cases h1 : (Rd.num r).1 < 0
 · rw [if_pos h1,za8l,obz,if_pos (.inl h1)]
 · rw [if_neg h1]
   by_cases h2 : most < (Rd.num r).1
   · rw [if_pos h2,za8l,obz,if_pos (.inr h2)]
   · rw [if_neg h2,if_neg (fun h => h.elim h1 h2)]
theorem zazo (r : Rd) (most : Int) : d5 r most = some (Rd.count r most) := by
 unfold d5
 rw [rin_f,obz]
theorem text_f (r : Rd) (most : Int) : ko r most = some (Rd.text r most) := by
 unfold ko Rd.text
 rw [zazo,obz,take_f,obz]
theorem zaxd (r : Rd) (most : Int) (hm : 0 ≤ most) : 0 ≤ (Rd.count r most).1 ∧ (Rd.count r most).1 ≤ most := by
 unfold Rd.count
 split
 · exact ⟨Int.le_refl _,hm⟩
 · rename_i h
   exact ⟨Int.not_lt.1 fun e => h (.inl e),Int.not_lt.1 fun e => h (.inr e)⟩
def mj (v : Int) (i : Nat) : Int := IntKind.u8.wrap (v.fdiv (2 ^ Nat.min (8 * (7 - i)) IntKind.i64.bits))
def gz (v : Int) : ByteArray := ⟨#[UInt8.ofNat (mj v 0).toNat,UInt8.ofNat (mj v 1).toNat,UInt8.ofNat (mj v 2).toNat,UInt8.ofNat (mj v 3).toNat,UInt8.ofNat (mj v 4).toNat,UInt8.ofNat (mj v 5).toNat,UInt8.ofNat (mj v 6).toNat,UInt8.ofNat (mj v 7).toNat]⟩
theorem zadb (v : Int) (i : Nat) (hi : i < 8) (l : List Int) (hl : l.length = 8) : pd v 8 ((8 : Nat) : Int) l (i : Int) = pd v 8 ((8 : Nat) : Int) (l.set i (mj v i)) ((i + 1 : Nat) : Int) := by
 have w2 : IntKind.i64.wrap (7 - (i : Int)) = ((7 - i : Nat) : Int) := by rw [w64 (by omega) (by omega)]; omega
 have w3 : IntKind.i64.wrap (8 * ((7 - i : Nat) : Int)) = ((8 * (7 - i) : Nat) : Int) := by rw [w64 (by omega) (by omega)]; omega
 rw [zah5,gt,if_pos (by omega),w2,w3,if_pos (by omega),if_pos ⟨by omega,by omega⟩,if_pos (by omega),obz,LS.go,zadh i (by omega),Int.toNat_natCast,Int.toNat_natCast]
 rfl
theorem zajy (v : Int) : gu v = some (gz v) := by
 have e : pd v 8 ((8 : Nat) : Int) (List.replicate 8 (0 : Int)) (0 : Int) = some [mj v 0,mj v 1,mj v 2,mj v 3,mj v 4,mj v 5,mj v 6,mj v 7] := by
  have h0 := zadb v 0 (by decide) (List.replicate 8 (0 : Int)) rfl
  have h1 := zadb v 1 (by decide) [mj v 0,0,0,0,0,0,0,0] rfl
  have h2 := zadb v 2 (by decide) [mj v 0,mj v 1,0,0,0,0,0,0] rfl
  have h3 := zadb v 3 (by decide) [mj v 0,mj v 1,mj v 2,0,0,0,0,0] rfl
  have h4 := zadb v 4 (by decide) [mj v 0,mj v 1,mj v 2,mj v 3,0,0,0,0] rfl
  have h5 := zadb v 5 (by decide) [mj v 0,mj v 1,mj v 2,mj v 3,mj v 4,0,0,0] rfl
  have h6 := zadb v 6 (by decide) [mj v 0,mj v 1,mj v 2,mj v 3,mj v 4,mj v 5,0,0] rfl
  have h7 := zadb v 7 (by decide) [mj v 0,mj v 1,mj v 2,mj v 3,mj v 4,mj v 5,mj v 6,0] rfl
  refine h0.trans (h1.trans (h2.trans (h3.trans (h4.trans (h5.trans (h6.trans (h7.trans ?_)))))))
  rw [zah5,gt,if_neg (by decide),obz,LS.go]
  rfl
 unfold gu
 rw [e,obz]
 rfl
theorem dw (v : Int) : (gz v).size = 8 := rfl
def ix (s : ByteArray) : ByteArray := gz s.size ++ s
theorem l5 (s : ByteArray) : (ix s).size = 8 + s.size := by unfold ix; rw [ByteArray.size_append,dw]
theorem za4n (s : ByteArray) (hs : s.size ≤ 140737488355328) : o6 s = some (ix s) := by
 unfold o6
 rw [zajy,obz,if_pos (by rw [dw]; omega)]; rfl
def I64 (v : Int) : Prop := -9223372036854775808 ≤ v ∧ v ≤ 9223372036854775807
theorem zbhi (v : Int) (i : Nat) : mj v i = (v / ((2 ^ Nat.min (8 * (7 - i)) 64 : Nat) : Int)) % 256 := by
 unfold mj
 rw [Int.fdiv_eq_ediv_of_nonneg _ (by exact Int.le_of_lt (Int.pow_pos (by decide)))]
 simp [IntKind.wrap,IntKind.bits,IntKind.signed]
theorem zba4 (v : Int) (i : Nat) : ((UInt8.ofNat (mj v i).toNat).toNat : Int) = mj v i := by
 have := zbhi v i
 have h1 : 0 ≤ mj v i := by rw [this]; exact Int.emod_nonneg _ (by decide)
 have h2 : mj v i < 256 := by rw [this]; exact Int.emod_lt_of_pos _ (by decide)
 rw [UInt8.toNat_ofNat']
 omega
theorem num_enc (v : Int) (hv : I64 v) : za3v 0 (gz v).data.toList = v := by
 have e := fold_h (gz v).data.toList 0 0 rfl
 rw [za10] at e
 rw [← e]
 simp only [gz,List.foldl_cons,List.foldl_nil,zba4]
 simp only [zbhi]
 have p0 : Nat.min (8 * (7 - 0)) 64 = 56 := rfl
 have p1 : Nat.min (8 * (7 - 1)) 64 = 48 := rfl
 have p2 : Nat.min (8 * (7 - 2)) 64 = 40 := rfl
 have p3 : Nat.min (8 * (7 - 3)) 64 = 32 := rfl
 have p4 : Nat.min (8 * (7 - 4)) 64 = 24 := rfl
 have p5 : Nat.min (8 * (7 - 5)) 64 = 16 := rfl
 have p6 : Nat.min (8 * (7 - 6)) 64 = 8 := rfl
 have p7 : Nat.min (8 * (7 - 7)) 64 = 0 := rfl
 rw [p0,p1,p2,p3,p4,p5,p6,p7]
 obtain ⟨h1,h2⟩ := hv
 rw [IntKind.wrap_i64]
 simp only [Nat.reducePow,Int.cast_ofNat_Int]
 omega
theorem ext0 (a b : ByteArray) : (a ++ b).extract 0 a.size = a := by
 apply ByteArray.ext
 simp
theorem ext1 (a b : ByteArray) : (a ++ b).extract a.size (a ++ b).size = b := by
 apply ByteArray.ext
 apply Array.ext'
 rw [ByteArray.data_extract,Array.toList_extract,ByteArray.data_append,Array.toList_append,ByteArray.size_append,List.extract_eq_take_drop]
 rw [List.drop_append_of_le_length (by simp),List.drop_eq_nil_of_le (by simp),List.nil_append,List.take_of_length_le (by simp)]
theorem zbc0 (a t : ByteArray) (n : Nat) (hn : a.size = n) : Rd.take ⟨a ++ t,false⟩ (n : Int) = (a,⟨t,false⟩) := by
 unfold Rd.take
 have hc : Rd.can ⟨a ++ t,false⟩ (n : Int) := ⟨rfl,by omega,by simp only [ByteArray.size_append]; omega⟩
 rw [if_pos hc]
 simp only [Int.toNat_natCast]
 rw [← hn,ext0,ext1]
theorem zall (v : Int) (hv : I64 v) (t : ByteArray) : Rd.num ⟨gz v ++ t,false⟩ = (v,⟨t,false⟩) := by
 unfold Rd.num
 rw [show (8 : Int) = ((8 : Nat) : Int) from rfl,zbc0 _ _ 8 rfl,num_enc v hv]
theorem za8q (v most : Int) (hv : I64 v) (t : ByteArray) : Rd.count ⟨gz v ++ t,false⟩ most = if v < 0 ∨ most < v then (0,Rd.fail) else (v,⟨t,false⟩) := by
 unfold Rd.count
 rw [zall v hv]
theorem text_app (s : ByteArray) (most : Int) (hs : s.size ≤ 140737488355328) (t : ByteArray) : Rd.text ⟨ix s ++ t,false⟩ most = if most < s.size then (⟨#[]⟩,Rd.fail) else (s,⟨t,false⟩) := by
 unfold Rd.text ix
 rw [ByteArray.append_assoc,za8q _ _ ⟨by omega,by omega⟩]
 by_cases h : most < (s.size : Int)
 · rw [if_pos (.inr h),if_pos h]
   unfold Rd.take
   rw [if_neg (fun hc => by cases hc.1)]
 · rw [if_neg (by omega),if_neg h]
   exact zbc0 _ _ _ rfl
theorem zaz1 (a : ByteArray) : a ++ ⟨#[]⟩ = a := ByteArray.append_empty
theorem i64_of {v : Int} (h : zanc v = true) : I64 v := by
 unfold zanc at h
 rw [Bool.and_eq_true,decide_eq_true_iff,decide_eq_true_iff] at h
 exact h
theorem empty_app (a : ByteArray) : (⟨#[]⟩ : ByteArray) ++ a = a := ByteArray.empty_append
def zaj7 {α : Type} (e : α → ByteArray) : List α → ByteArray
 | [] => ⟨#[]⟩
 | x :: l => e x ++ zaj7 e l
def sg {α : Type} (e : α → ByteArray) (l : List α) : ByteArray := gz (l.length : Nat) ++ zaj7 e l
theorem wa {α : Type} {e : α → ByteArray} {B : Nat} : ∀ {l : List α},(∀ x ∈ l,(e x).size = B) → (zaj7 e l).size = l.length * B
 | [],_ => by rw [List.length_nil,Nat.zero_mul]; rfl
 | x :: l,h => by rw [zaj7,ByteArray.size_append,h x (.head _),wa fun y hy => h y (.tail _ hy),List.length_cons,Nat.add_mul,Nat.one_mul,Nat.add_comm]
theorem zbb1 {α : Type} {e : α → ByteArray} {B : Nat} : ∀ {l : List α},(∀ x ∈ l,(e x).size ≤ B) → (zaj7 e l).size ≤ l.length * B
 | [],_ => Nat.zero_le _
 | x :: l,h => by
  have h1 := h x (.head _)
  have h2 := zbb1 fun y hy => h y (.tail _ hy)
  rw [zaj7,ByteArray.size_append,List.length_cons,Nat.add_mul,Nat.one_mul]
  omega
theorem ra {α : Type} (e : α → ByteArray) (l : List α) : (sg e l).size = 8 + (zaj7 e l).size := by unfold sg; rw [ByteArray.size_append,dw]
theorem zac9 {α : Type} (e : α → ByteArray) (l : List α) (i : Nat) (h : i < l.length) : zaj7 e (l.drop i) = e l[i] ++ zaj7 e (l.drop (i + 1)) := by
 rw [List.drop_eq_getElem_cons h,zaj7]
def zac4 {α : Type} (of : Rd → α × Rd) : Nat → Rd → List α × Rd
 | 0,r => ([],r)
 | n + 1,r => ((of r).1 :: (zac4 of n (of r).2).1,(zac4 of n (of r).2).2)
def zapo {α : Type} (of : Rd → α × Rd) (most : Int) (r : Rd) : List α × Rd := zac4 of (Rd.count r most).1.toNat (Rd.count r most).2
theorem za7u {α : Type} {of : Rd → α × Rd} {e : α → ByteArray} : ∀ {l : List α} (h : ∀ x ∈ l,∀ t,of ⟨e x ++ t,false⟩ = (x,⟨t,false⟩)) (t : ByteArray),zac4 of l.length ⟨zaj7 e l ++ t,false⟩ = (l,⟨t,false⟩)
 | [],_,t => by
  show (([] : List _),_) = _
  rw [zaj7,empty_app]
 | x :: l,h,t => by
  show ((of ⟨zaj7 e (x :: l) ++ t,false⟩).1 :: (zac4 of l.length (of ⟨zaj7 e (x :: l) ++ t,false⟩).2).1,(zac4 of l.length (of ⟨zaj7 e (x :: l) ++ t,false⟩).2).2) = _
  rw [zaj7,ByteArray.append_assoc,h x (.head _) (zaj7 e l ++ t),za7u (fun y hy => h y (.tail _ hy)) t]
theorem zas9 {α : Type} {of : Rd → α × Rd} {e : α → ByteArray} {l : List α} {most : Int} (h : ∀ x ∈ l,∀ t,of ⟨e x ++ t,false⟩ = (x,⟨t,false⟩)) (hm : (l.length : Int) ≤ most) (hl : l.length < 1000000) (t : ByteArray) : zapo of most ⟨sg e l ++ t,false⟩ = (l,⟨t,false⟩) := by
 unfold zapo sg
 rw [ByteArray.append_assoc,za8q _ _ ⟨by omega,by omega⟩,if_neg (by omega)]
 show zac4 of ((l.length : Nat) : Int).toNat ⟨zaj7 e l ++ t,false⟩ = _
 rw [Int.toNat_natCast]
 exact za7u h t
open Go Go.RowKit Sh Ic
noncomputable def eqB {α : Type} (a b : α) : Bool := @decide (a = b) (Classical.propDecidable _)
theorem sf {α : Type} {a b : α} : eqB a b = true ↔ a = b := by unfold eqB; exact @decide_eq_true_iff _ (Classical.propDecidable _)
theorem zah4 {α : Type} {a b : α} (h : ¬ a = b) : eqB a b = false := by rw [← Bool.not_eq_true,sf]; exact h
theorem zaxb {α : Type} (a : α) : eqB a a = true := sf.2 rfl
theorem eqL {α : Type} {f : Nat → Option (LX Unit Bool)} (a b : List α) (hl : a.length = b.length) (he : f a.length = some (.ex ()))
 (hs : ∀ k x y,a[k]? = some x → b[k]? = some y → (x = y → f k = f (k + 1)) ∧ (¬ x = y → f k = some (.rt false))) : (a = b ∧ f 0 = some (.ex ())) ∨ (¬ a = b ∧ f 0 = some (.rt false)) := by
 rcases loopX (f := f) (N := a.length) (P := fun k => a[k]? = b[k]?) he (fun k hk p => by
  obtain ⟨x,hx⟩ := at_ex hk
  exact (hs k x x hx (by rw [← p]; exact hx)).1 rfl) (fun k hk p => by
  obtain ⟨x,hx⟩ := at_ex hk
  obtain ⟨y,hy⟩ := at_ex (show k < b.length by omega)
  exact (hs k x y hx hy).2 fun e => p (by rw [hx,hy,e])) with ⟨h1,h2⟩ | ⟨h1,j,hj,h2⟩
 · refine .inl ⟨List.ext_getElem? fun i => ?_,h1⟩
   by_cases hi : i < a.length
   · exact h2 i hi
   · rw [List.getElem?_eq_none (by omega),List.getElem?_eq_none (by omega)]
 · exact .inr ⟨fun e => h2 (by rw [e]),h1⟩
theorem eqS_f (a b : List ByteArray) (ha : a.length < 1000000) : cj a b = some (eqB a b) := by
 unfold cj
 by_cases hl : a.length = b.length
 · rw [if_pos (by omega)]
   rcases eqL (f := fun k => bf a b (a.length : Nat) (k : Int)) a b hl (by
    show bf a b (a.length : Nat) ((a.length : Nat) : Int) = _
    rw [jr,bh,if_neg (by omega),obz,LS.go]) (fun k x y hx hy => by
    have h1 := za9y hx
    have h2 := za9y hy
    constructor
    · intro e
      show bf a b (a.length : Nat) (k : Int) = bf a b (a.length : Nat) ((k + 1 : Nat) : Int)
      rw [jr,bh,if_pos (by omega),h1.2,obz,h2.2,obz,if_pos e,obz,LS.go,zadh k (by omega)]
    · intro e
      show bf a b (a.length : Nat) (k : Int) = _
      rw [jr,bh,if_pos (by omega),h1.2,obz,h2.2,obz,if_neg e,obz,LS.go]) with ⟨e,h⟩ | ⟨e,h⟩
   · have h : bf a b (a.length : Nat) 0 = _ := h
     rw [h,obz,sf.2 e]
   · have h : bf a b (a.length : Nat) 0 = _ := h
     rw [h,obz,zah4 e]
 · rw [if_neg (by omega),zah4 fun e => hl (by rw [e])]
theorem eqI_f (a b : List Int) (ha : a.length < 1000000) : ie a b = some (eqB a b) := by
 unfold ie
 by_cases hl : a.length = b.length
 · rw [if_pos (by omega)]
   rcases eqL (f := fun k => bw a b (a.length : Nat) (k : Int)) a b hl (by
    show bw a b (a.length : Nat) ((a.length : Nat) : Int) = _
    rw [mv,bv,if_neg (by omega),obz,LS.go]) (fun k x y hx hy => by
    have h1 := za9y hx
    have h2 := za9y hy
    constructor
    · intro e
      show bw a b (a.length : Nat) (k : Int) = bw a b (a.length : Nat) ((k + 1 : Nat) : Int)
      rw [mv,bv,if_pos (by omega),h1.2,obz,h2.2,obz,if_pos e,obz,LS.go,zadh k (by omega)]
    · intro e
      show bw a b (a.length : Nat) (k : Int) = _
      rw [mv,bv,if_pos (by omega),h1.2,obz,h2.2,obz,if_neg e,obz,LS.go]) with ⟨e,h⟩ | ⟨e,h⟩
   · have h : bw a b (a.length : Nat) 0 = _ := h
     rw [h,obz,sf.2 e]
   · have h : bw a b (a.length : Nat) 0 = _ := h
     rw [h,obz,zah4 e]
 · rw [if_neg (by omega),zah4 fun e => hl (by rw [e])]
theorem ba_beq {d e : ByteArray} : (d == e) = true ↔ d = e := by
 constructor
 · intro h
   have h : (d.data == e.data) = true := h
   exact ByteArray.ext (by simpa using h)
 · intro h
   subst h
   show (d.data == d.data) = true
   simp
theorem arc_eq {x y : af} : ((x.From == y.From) && ((x.To == y.To) && ((x.Ledger == y.Ledger) && ((x.Asset == y.Asset) && (x.Amount == y.Amount))))) = true ↔ x = y := by
 obtain ⟨a,b,c,d,e⟩ := x
 obtain ⟨a',b',c',d',e'⟩ := y
 simp only [Bool.and_eq_true,beq_iff_eq,ba_beq,af.mk.injEq]
theorem eqA_f (a b : List af) (ha : a.length < 1000000) : dz a b = some (eqB a b) := by
 unfold dz
 by_cases hl : a.length = b.length
 · rw [if_pos (by omega)]
   rcases eqL (f := fun k => ba a b (a.length : Nat) (k : Int)) a b hl (by
    show ba a b (a.length : Nat) ((a.length : Nat) : Int) = _
    rw [im,bc,if_neg (by omega),obz,LS.go]) (fun k x y hx hy => by
    have h1 := za9y hx
    have h2 := za9y hy
    constructor
    · intro e
      show ba a b (a.length : Nat) (k : Int) = ba a b (a.length : Nat) ((k + 1 : Nat) : Int)
      rw [im,bc,if_pos (by omega),h1.2,obz,h2.2,obz,if_pos (arc_eq.2 e),obz,LS.go,zadh k (by omega)]
    · intro e
      show ba a b (a.length : Nat) (k : Int) = _
      rw [im,bc,if_pos (by omega),h1.2,obz,h2.2,obz,if_neg (fun h => e (arc_eq.1 h)),obz,LS.go]) with ⟨e,h⟩ | ⟨e,h⟩
   · have h : ba a b (a.length : Nat) 0 = _ := h
     rw [h,obz,sf.2 e]
   · have h : ba a b (a.length : Nat) 0 = _ := h
     rw [h,obz,zah4 e]
 · rw [if_neg (by omega),zah4 fun e => hl (by rw [e])]
theorem sameP_f (x y : ac) (h : x.Keys.length < 1000000) : uf x y = some (eqB x y) := by
 unfold uf
 obtain ⟨a,k⟩ := x
 obtain ⟨b,l⟩ := y
 show (if a = b then cj k l >>= fun y2 => some y2 else some false) = _
 by_cases e : a = b
 · subst e
   rw [if_pos rfl,eqS_f k l h,obz]
   by_cases f : k = l
   · rw [f,zaxb,zaxb]
   · rw [zah4 f,zah4 fun g => f (by injection g)]
 · rw [if_neg e,zah4 fun g => e (by injection g)]
theorem eqP_f (a b : List ac) (ha : a.length < 1000000) (hk : ∀ p ∈ a,p.Keys.length < 1000000) : ax a b = some (eqB a b) := by
 unfold ax
 by_cases hl : a.length = b.length
 · rw [if_pos (by omega)]
   rcases eqL (f := fun k => aj b a (a.length : Nat) (k : Int)) a b hl (by
    show aj b a (a.length : Nat) ((a.length : Nat) : Int) = _
    rw [bz,am,if_neg (by omega),obz,LS.go]) (fun k x y hx hy => by
    have h1 := za9y hx
    have h2 := za9y hy
    have h3 := hk x (List.mem_of_getElem? hx)
    constructor
    · intro e
      show aj b a (a.length : Nat) (k : Int) = aj b a (a.length : Nat) ((k + 1 : Nat) : Int)
      rw [bz,am,if_pos (by omega),h1.2,obz,h2.2,obz,sameP_f _ _ h3,obz,if_pos (sf.2 e),obz,LS.go,zadh k (by omega)]
    · intro e
      show aj b a (a.length : Nat) (k : Int) = _
      rw [bz,am,if_pos (by omega),h1.2,obz,h2.2,obz,sameP_f _ _ h3,obz,if_neg (fun h => e (sf.1 h)),obz,LS.go]) with ⟨e,h⟩ | ⟨e,h⟩
   · have h : aj b a (a.length : Nat) 0 = _ := h
     rw [h,obz,sf.2 e]
   · have h : aj b a (a.length : Nat) 0 = _ := h
     rw [h,obz,zah4 e]
 · rw [if_neg (by omega),zah4 fun e => hl (by rw [e])]
structure Lens (s : aq) : Prop where
 p : s.Parties.length < 1000000
 k : ∀ p ∈ s.Parties,p.Keys.length < 1000000
 a : s.Arcs.length < 1000000
 l : s.Leaders.length < 1000000
 o : s.Locks.length < 1000000
theorem Ok.lens {s : aq} (h : Ok s) : Lens s := ⟨by have := h.np; omega,fun p hp => by
 have e := h.parties p hp
 unfold zapm at e
 rw [Bool.and_eq_true,zahd] at e
 have := h.nl
 omega,by have := h.na; omega,by have := h.nl; omega,by have := h.nl; have := h.locks.1; omega⟩
theorem same_f (x y : aq) (h : Lens x) : xi x y = some (eqB x y) := by
 unfold xi
 have no : ∀ {P : Prop},¬ P → (x = y → P) → eqB x y = false := fun h g => zah4 fun e => h (g e)
 by_cases c1 : x.ID = y.ID
 rotate_left
 · rw [if_neg c1,no c1 fun e => by rw [e]]
 rw [if_pos c1,eqP_f _ _ h.p h.k,obz]
 by_cases c2 : x.Parties = y.Parties
 rotate_left
 · rw [if_neg (fun g => c2 (sf.1 g)),no c2 fun e => by rw [e]]
 rw [if_pos (sf.2 c2),eqA_f _ _ h.a,obz]
 by_cases c3 : x.Arcs = y.Arcs
 rotate_left
 · rw [if_neg (fun g => c3 (sf.1 g)),no c3 fun e => by rw [e]]
 rw [if_pos (sf.2 c3),eqI_f _ _ h.l,obz]
 by_cases c4 : x.Leaders = y.Leaders
 rotate_left
 · rw [if_neg (fun g => c4 (sf.1 g)),no c4 fun e => by rw [e]]
 rw [if_pos (sf.2 c4),eqS_f _ _ h.o,obz]
 by_cases c5 : x.Locks = y.Locks
 rotate_left
 · rw [if_neg (fun g => c5 (sf.1 g)),no c5 fun e => by rw [e]]
 rw [if_pos (sf.2 c5)]
 by_cases c6 : x.Start = y.Start
 rotate_left
 · rw [if_neg c6,no c6 fun e => by rw [e]]
 rw [if_pos c6]
 by_cases c7 : x.Delta = y.Delta
 rotate_left
 · rw [decide_eq_false c7,no c7 fun e => by rw [e]]
 rw [decide_eq_true c7,sf.2]
 cases x; cases y
 simp only at c1 c2 c3 c4 c5 c6 c7
 rw [c1,c2,c3,c4,c5,c6,c7]
def zaec (p : ac) : ByteArray := ix p.Account ++ sg ix p.Keys
def zac6 (a : af) : ByteArray := gz a.From ++ gz a.To ++ gz a.Ledger ++ ix a.Asset ++ gz a.Amount
def ENC (s : aq) : ByteArray := ix s.ID ++ sg zaec s.Parties ++ sg zac6 s.Arcs ++ sg gz s.Leaders ++ sg ix s.Locks ++ gz s.Start ++ gz s.Delta
theorem listS_l (l : List ByteArray) (hl : l.length < 1000000) (hs : ∀ x ∈ l,x.size ≤ 140737488355328) (n : Nat) : ∀ (i : Nat) (acc : ByteArray),n + i = l.length → acc.size + (zaj7 ix (l.drop i)).size ≤ 140737488355328 →
 jf l (l.length : Nat) acc (i : Int) = some (acc ++ zaj7 ix (l.drop i)) := by
 induction n with
 | zero =>
  intro i acc h _
  rw [ym,df,if_neg (by omega),obz,LS.go,List.drop_of_length_le (by omega)]
  exact congrArg some (zaz1 acc).symm
 | succ n ih =>
  intro i acc h hb
  have hi : i < l.length := by omega
  rw [zac9 _ _ _ hi,ByteArray.size_append] at hb
  rw [ym,df,if_pos (by omega),zafk hi,obz,za4n _ (hs _ (List.getElem_mem hi)),obz,if_pos (by omega),obz,LS.go,zadh i (by omega),zac9 _ _ _ hi,← ByteArray.append_assoc]
  exact ih (i + 1) _ (by omega) (by rw [ByteArray.size_append]; omega)
theorem listS_f (l : List ByteArray) (hl : l.length < 1000000) (hs : ∀ x ∈ l,x.size ≤ 140737488355328) (hb : (sg ix l).size ≤ 140737488355328) : jw l = some (sg ix l) := by
 rw [ra] at hb
 have e := listS_l l hl hs l.length 0 (gz (l.length : Nat)) rfl (by rw [dw]; exact hb)
 have e : jf l (l.length : Nat) (gz (l.length : Nat)) 0 = some (gz (l.length : Nat) ++ zaj7 ix (l.drop 0)) := e
 unfold jw
 rw [zajy,obz,if_pos (by rw [dw]; omega),e,obz,List.drop_zero,if_pos (by rw [ByteArray.size_append,dw]; exact hb)]
 rfl
theorem listI_l (l : List Int) (hl : l.length < 1000000) (n : Nat) : ∀ (i : Nat) (acc : ByteArray),n + i = l.length → acc.size + (zaj7 gz (l.drop i)).size ≤ 140737488355328 →
 l9 l (l.length : Nat) acc (i : Int) = some (acc ++ zaj7 gz (l.drop i)) := by
 induction n with
 | zero =>
  intro i acc h _
  rw [zab4,eg,if_neg (by omega),obz,LS.go,List.drop_of_length_le (by omega)]
  exact congrArg some (zaz1 acc).symm
 | succ n ih =>
  intro i acc h hb
  have hi : i < l.length := by omega
  rw [zac9 _ _ _ hi,ByteArray.size_append] at hb
  rw [zab4,eg,if_pos (by omega),zafk hi,obz,zajy,obz,if_pos (by omega),obz,LS.go,zadh i (by omega),zac9 _ _ _ hi,← ByteArray.append_assoc]
  exact ih (i + 1) _ (by omega) (by rw [ByteArray.size_append]; omega)
theorem listI_f (l : List Int) (hl : l.length < 1000000) : p9 l = some (sg gz l) := by
 have z := wa (e := gz) (B := 8) (l := l) fun _ _ => rfl
 have e := listI_l l hl l.length 0 (gz (l.length : Nat)) rfl (by rw [dw,List.drop_zero,z]; omega)
 have e : l9 l (l.length : Nat) (gz (l.length : Nat)) 0 = some (gz (l.length : Nat) ++ zaj7 gz (l.drop 0)) := e
 unfold p9
 rw [zajy,obz,if_pos (by rw [dw]; omega),e,obz,List.drop_zero,if_pos (by rw [ByteArray.size_append,dw,z]; omega)]
 rfl
theorem za3s {p : ac} {n : Int} (h : zapm n p = true) (hn : n ≤ 3) : (sg ix p.Keys).size ≤ 80 ∧ p.Account.size ≤ 16 ∧ p.Keys.length ≤ 3 ∧ ∀ x ∈ p.Keys,x.size = 16 := by
 unfold zapm at h
 rw [Bool.and_eq_true,zahd,zaer] at h
 have z := wa (e := ix) (B := 24) (l := p.Keys) fun x hx => by rw [l5]; have := h.2.2 x hx; omega
 exact ⟨by rw [ra,z]; omega,by omega,by omega,fun x hx => by have := h.2.2 x hx; omega⟩
theorem zazl (p : ac) : (zaec p).size = 8 + p.Account.size + (sg ix p.Keys).size := by unfold zaec; rw [ByteArray.size_append,l5]
theorem bytesP_f (p : ac) (n : Int) (h : zapm n p = true) (hn : n ≤ 3) : sa p = some (zaec p) := by
 have z := za3s h hn
 unfold sa
 rw [za4n _ (by omega),obz,listS_f _ (by omega) (fun x hx => by have := z.2.2.2 x hx; omega) (by omega),obz,if_pos (by rw [l5]; omega)]
 rfl
theorem listP_l (l : List ac) (m : Int) (hm : m ≤ 3) (hl : l.length < 1000000) (hs : ∀ x ∈ l,zapm m x = true) (n : Nat) : ∀ (i : Nat) (acc : ByteArray),n + i = l.length → acc.size + (zaj7 zaec (l.drop i)).size ≤ 140737488355328 →
 gr l (l.length : Nat) acc (i : Int) = some (acc ++ zaj7 zaec (l.drop i)) := by
 induction n with
 | zero =>
  intro i acc h _
  rw [tn,ca,if_neg (by omega),obz,LS.go,List.drop_of_length_le (by omega)]
  exact congrArg some (zaz1 acc).symm
 | succ n ih =>
  intro i acc h hb
  have hi : i < l.length := by omega
  rw [zac9 _ _ _ hi,ByteArray.size_append] at hb
  rw [tn,ca,if_pos (by omega),zafk hi,obz,bytesP_f _ m (hs _ (List.getElem_mem hi)) hm,obz,if_pos (by omega),obz,LS.go,zadh i (by omega),zac9 _ _ _ hi,← ByteArray.append_assoc]
  exact ih (i + 1) _ (by omega) (by rw [ByteArray.size_append]; omega)
theorem zbfn {l : List ac} {m : Int} (hm : m ≤ 3) (hs : ∀ x ∈ l,zapm m x = true) : (zaj7 zaec l).size ≤ l.length * 104 :=
 zbb1 fun x hx => by
  have z := za3s (hs x hx) hm
  rw [zazl]; omega
theorem listP_f (l : List ac) (m : Int) (hm : m ≤ 3) (hl : l.length < 1000000) (hs : ∀ x ∈ l,zapm m x = true) : jg l = some (sg zaec l) := by
 have z := zbfn hm hs
 have e := listP_l l m hm hl hs l.length 0 (gz (l.length : Nat)) rfl (by rw [dw,List.drop_zero]; omega)
 have e : gr l (l.length : Nat) (gz (l.length : Nat)) 0 = some (gz (l.length : Nat) ++ zaj7 zaec (l.drop 0)) := e
 unfold jg
 rw [zajy,obz,if_pos (by rw [dw]; omega),e,obz,List.drop_zero,if_pos (by rw [ByteArray.size_append,dw]; omega)]
 rfl
theorem zazm (a : af) : (zac6 a).size = 40 + a.Asset.size := by
 unfold zac6
 simp only [ByteArray.size_append,dw,l5]
 omega
theorem bytesA_f (a : af) (h : a.Asset.size ≤ 1000000) : r9 a = some (zac6 a) := by
 unfold r9
 rw [zajy,obz,zajy,obz,if_pos (by simp only [ByteArray.size_append,dw]; omega),zajy,obz,if_pos (by simp only [ByteArray.size_append,dw]; omega),za4n _ (by omega),obz,if_pos (by simp only [ByteArray.size_append,dw,l5]; omega),zajy,obz,if_pos (by simp only [ByteArray.size_append,dw,l5]; omega)]
 rfl
theorem zauz {n : Int} {a : af} (h : zaky n a = true) : a.Asset.size ≤ 16 := by
 unfold zaky at h
 simp only [Bool.and_eq_true,zaer] at h
 omega
theorem listA_l (l : List af) (m : Int) (hl : l.length < 1000000) (hs : ∀ x ∈ l,zaky m x = true) (n : Nat) : ∀ (i : Nat) (acc : ByteArray),n + i = l.length → acc.size + (zaj7 zac6 (l.drop i)).size ≤ 140737488355328 →
 ia l (l.length : Nat) acc (i : Int) = some (acc ++ zaj7 zac6 (l.drop i)) := by
 induction n with
 | zero =>
  intro i acc h _
  rw [vu,da,if_neg (by omega),obz,LS.go,List.drop_of_length_le (by omega)]
  exact congrArg some (zaz1 acc).symm
 | succ n ih =>
  intro i acc h hb
  have hi : i < l.length := by omega
  have hz := zauz (hs _ (List.getElem_mem hi))
  rw [zac9 _ _ _ hi,ByteArray.size_append] at hb
  rw [vu,da,if_pos (by omega),zafk hi,obz,bytesA_f _ (by show l[i].Asset.size ≤ _; omega),obz,if_pos (by show acc.size + (zac6 l[i]).size ≤ _; omega),obz,LS.go,zadh i (by omega),zac9 _ _ _ hi,← ByteArray.append_assoc]
  exact ih (i + 1) _ (by omega) (by show (acc ++ zac6 l[i]).size + _ ≤ _; rw [ByteArray.size_append]; omega)
theorem zbfo {l : List af} {m : Int} (hs : ∀ x ∈ l,zaky m x = true) : (zaj7 zac6 l).size ≤ l.length * 56 :=
 zbb1 fun x hx => by
  have z := zauz (hs x hx)
  rw [zazm]; omega
theorem listA_f (l : List af) (m : Int) (hl : l.length < 1000000) (hs : ∀ x ∈ l,zaky m x = true) : km l = some (sg zac6 l) := by
 have z := zbfo hs
 have e := listA_l l m hl hs l.length 0 (gz (l.length : Nat)) rfl (by rw [dw,List.drop_zero]; omega)
 have e : ia l (l.length : Nat) (gz (l.length : Nat)) 0 = some (gz (l.length : Nat) ++ zaj7 zac6 (l.drop 0)) := e
 unfold km
 rw [zajy,obz,if_pos (by rw [dw]; omega),e,obz,List.drop_zero,if_pos (by rw [ByteArray.size_append,dw]; omega)]
 rfl
noncomputable def BYTES (s : aq) : ByteArray := if okS s = true then ENC s else ⟨#[]⟩
theorem bytes_f (s : aq) (hw : Wf s) : tq s = some (BYTES s) := by
 unfold tq BYTES
 rw [za48 s hw,obz]
 by_cases h0 : okS s = true
 rotate_left
 · rw [if_neg h0,if_neg h0]
 rw [if_pos h0,if_pos h0]
 have h := okS_iff.1 h0
 have h1 := (zaer.1 h.id).2
 have h2 := h.np
 have h3 := h.nl
 have h4 := h.na
 have h5 := h.locks
 have z2 := zbfn (m := (s.Leaders.length : Nat)) (by omega) h.parties
 have z3 := zbfo h.arcs
 have z4 := wa (e := gz) (B := 8) (l := s.Leaders) fun _ _ => rfl
 have z5 := wa (e := ix) (B := 40) (l := s.Locks) fun x hx => by rw [l5,h5.2 x hx]
 have y2 := ra zaec s.Parties
 have y3 := ra zac6 s.Arcs
 have y4 := ra gz s.Leaders
 have y5 := ra ix s.Locks
 have y1 := l5 s.ID
 rw [za4n _ (by omega),obz,listP_f _ (s.Leaders.length : Nat) (by omega) (by omega) h.parties,obz,if_pos (by omega),listA_f _ _ (by omega) h.arcs,obz,if_pos (by simp only [ByteArray.size_append]; omega),listI_f _ (by omega),obz,if_pos (by simp only [ByteArray.size_append]; omega),
  listS_f _ (by omega) (fun x hx => by have := h5.2 x hx; omega) (by omega),obz,if_pos (by simp only [ByteArray.size_append]; omega),zajy,obz,if_pos (by simp only [ByteArray.size_append,dw]; omega),zajy,obz,if_pos (by simp only [ByteArray.size_append,dw]; omega)]
 rfl
open Go Go.RowKit Sh Ic
def zagi (r : Rd) : ByteArray × Rd := Rd.text r 1048576
theorem za3p (r : Rd) : ms r = some (zagi r) := by
 unfold ms
 rw [text_f,obz]; rfl
theorem itemsS_l (c : Int) (hc : c ≤ 1000) (n : Nat) : ∀ (i : Nat) (r : Rd) (acc : List ByteArray),(n : Int) + i = c → acc.length ≤ i →
 gm c r acc (i : Int) = some (acc ++ (zac4 zagi n r).1,(zac4 zagi n r).2) := by
 induction n with
 | zero =>
  intro i r acc h _
  rw [vv,db,if_neg (by omega),obz,LS.go]
  show some (acc,r) = some (acc ++ [],r)
  rw [List.append_nil]
 | succ n ih =>
  intro i r acc h ha
  rw [vv,db,if_pos (by omega),za3p,obz,if_pos (by omega),obz,LS.go,zadh i (by omega)]
  show gm c (zagi r).2 (acc ++ [(zagi r).1]) ((i + 1 : Nat) : Int) = _
  rw [ih (i + 1) _ _ (by omega) (by rw [List.length_append,List.length_singleton]; omega),List.append_assoc]
  rfl
theorem zbfz (r : Rd) (most : Int) (h0 : 0 ≤ most) (h1 : most ≤ 1000) : iv r most = some (zapo zagi most r) := by
 have z := zaxd r most h0
 have e := itemsS_l (Rd.count r most).1 (by omega) (Rd.count r most).1.toNat 0 (Rd.count r most).2 [] (by omega) (Nat.le_refl _)
 have e : gm (Rd.count r most).1 (Rd.count r most).2 [] 0 = _ := e
 unfold iv
 rw [zazo,obz,e,obz]
 rfl
def ptyR (r : Rd) : ac × Rd := (⟨(zagi r).1,(zapo zagi 3 (zagi r).2).1⟩,(zapo zagi 3 (zagi r).2).2)
theorem read2_f (r : Rd) : uh r = some (ptyR r) := by
 unfold uh
 rw [za3p,obz,zbfz _ _ (by decide) (by decide),obz]; rfl
theorem itemsP_l (c : Int) (hc : c ≤ 1000) (n : Nat) : ∀ (i : Nat) (r : Rd) (acc : List ac),(n : Int) + i = c → acc.length ≤ i →
 eh c r acc (i : Int) = some (acc ++ (zac4 ptyR n r).1,(zac4 ptyR n r).2) := by
 induction n with
 | zero =>
  intro i r acc h _
  rw [sj,b7,if_neg (by omega),obz,LS.go]
  show some (acc,r) = some (acc ++ [],r)
  rw [List.append_nil]
 | succ n ih =>
  intro i r acc h ha
  rw [sj,b7,if_pos (by omega),read2_f,obz,if_pos (by omega),obz,LS.go,zadh i (by omega)]
  show eh c (ptyR r).2 (acc ++ [(ptyR r).1]) ((i + 1 : Nat) : Int) = _
  rw [ih (i + 1) _ _ (by omega) (by rw [List.length_append,List.length_singleton]; omega),List.append_assoc]
  rfl
theorem itemsP_f (r : Rd) (most : Int) (h0 : 0 ≤ most) (h1 : most ≤ 1000) : ib r most = some (zapo ptyR most r) := by
 have z := zaxd r most h0
 have e := itemsP_l (Rd.count r most).1 (by omega) (Rd.count r most).1.toNat 0 (Rd.count r most).2 [] (by omega) (Nat.le_refl _)
 have e : eh (Rd.count r most).1 (Rd.count r most).2 [] 0 = _ := e
 unfold ib
 rw [zazo,obz,e,obz]
 rfl
def arcR (r : Rd) : af × Rd :=
 (⟨(Rd.num r).1,(Rd.num (Rd.num r).2).1,(Rd.num (Rd.num (Rd.num r).2).2).1,(zagi (Rd.num (Rd.num (Rd.num r).2).2).2).1,(Rd.num (zagi (Rd.num (Rd.num (Rd.num r).2).2).2).2).1⟩,(Rd.num (zagi (Rd.num (Rd.num (Rd.num r).2).2).2).2).2)
theorem read3_f (r : Rd) : ug r = some (arcR r) := by
 unfold ug
 rw [za7d,obz,za7d,obz,za7d,obz,za3p,obz,za7d,obz]; rfl
theorem itemsA_l (c : Int) (hc : c ≤ 1000) (n : Nat) : ∀ (i : Nat) (r : Rd) (acc : List af),(n : Int) + i = c → acc.length ≤ i →
 fx c r acc (i : Int) = some (acc ++ (zac4 arcR n r).1,(zac4 arcR n r).2) := by
 induction n with
 | zero =>
  intro i r acc h _
  rw [uu,ch,if_neg (by omega),obz,LS.go]
  show some (acc,r) = some (acc ++ [],r)
  rw [List.append_nil]
 | succ n ih =>
  intro i r acc h ha
  rw [uu,ch,if_pos (by omega),read3_f,obz,if_pos (by omega),obz,LS.go,zadh i (by omega)]
  show fx c (arcR r).2 (acc ++ [(arcR r).1]) ((i + 1 : Nat) : Int) = _
  rw [ih (i + 1) _ _ (by omega) (by rw [List.length_append,List.length_singleton]; omega),List.append_assoc]
  rfl
theorem itemsA_f (r : Rd) (most : Int) (h0 : 0 ≤ most) (h1 : most ≤ 1000) : kb r most = some (zapo arcR most r) := by
 have z := zaxd r most h0
 have e := itemsA_l (Rd.count r most).1 (by omega) (Rd.count r most).1.toNat 0 (Rd.count r most).2 [] (by omega) (Nat.le_refl _)
 have e : fx (Rd.count r most).1 (Rd.count r most).2 [] 0 = _ := e
 unfold kb
 rw [zazo,obz,e,obz]
 rfl
theorem itemsI_l (c : Int) (hc : c ≤ 1000) (n : Nat) : ∀ (i : Nat) (r : Rd) (acc : List Int),(n : Int) + i = c → acc.length ≤ i →
 iw c r acc (i : Int) = some (acc ++ (zac4 Rd.num n r).1,(zac4 Rd.num n r).2) := by
 induction n with
 | zero =>
  intro i r acc h _
  rw [zaax,dy,if_neg (by omega),obz,LS.go]
  show some (acc,r) = some (acc ++ [],r)
  rw [List.append_nil]
 | succ n ih =>
  intro i r acc h ha
  rw [zaax,dy,if_pos (by omega),za7d,obz,if_pos (by omega),obz,LS.go,zadh i (by omega)]
  show iw c (Rd.num r).2 (acc ++ [(Rd.num r).1]) ((i + 1 : Nat) : Int) = _
  rw [ih (i + 1) _ _ (by omega) (by rw [List.length_append,List.length_singleton]; omega),List.append_assoc]
  rfl
theorem itemsI_f (r : Rd) (most : Int) (h0 : 0 ≤ most) (h1 : most ≤ 1000) : om r most = some (zapo Rd.num most r) := by
 have z := zaxd r most h0
 have e := itemsI_l (Rd.count r most).1 (by omega) (Rd.count r most).1.toNat 0 (Rd.count r most).2 [] (by omega) (Nat.le_refl _)
 have e : iw (Rd.count r most).1 (Rd.count r most).2 [] 0 = _ := e
 unfold om
 rw [zazo,obz,e,obz]
 rfl
def zawn (r : Rd) : aq × Rd :=
 let x1 := zagi r
 let x2 := zapo ptyR 6 x1.2
 let x3 := zapo arcR 12 x2.2
 let x4 := zapo Rd.num 3 x3.2
 let x5 := zapo zagi 3 x4.2
 let x6 := Rd.num x5.2
 let x7 := Rd.num x6.2
 (⟨x1.1,x2.1,x3.1,x4.1,x5.1,x6.1,x7.1⟩,x7.2)
def za53 : aq := ⟨⟨#[]⟩,[],[],[],[],0,0⟩
noncomputable def READ (b : ByteArray) : aq × Int :=
 if (zawn ⟨b,false⟩).2.bad_ = true ∨ 0 < (zawn ⟨b,false⟩).2.s_.size ∨ ¬ okS (zawn ⟨b,false⟩).1 = true then (za53,2) else ((zawn ⟨b,false⟩).1,0)
theorem za2e : ∀ (n : Nat) (r : Rd),∀ v ∈ (zac4 Rd.num n r).1,zanc v = true
 | 0,_,v,h => by cases h
 | n + 1,r,v,h => by
  have h : v ∈ (Rd.num r).1 :: (zac4 Rd.num n (Rd.num r).2).1 := h
  rw [List.mem_cons] at h
  rcases h with rfl | h
  · exact zbe8 _
  · exact za2e n _ v h
theorem listR_num (r : Rd) (m : Int) : ∀ v ∈ (zapo Rd.num m r).1,zanc v = true := fun v h => za2e _ _ v h
theorem num_ok (r : Rd) : zanc (Rd.num r).1 = true := zbe8 _
section
attribute [local irreducible] Rd.num zapo zagi ptyR arcR zanc
theorem specR_wf' (r : Rd) : Wf (zawn r).1 := ⟨fun v h => listR_num _ _ v h,num_ok _,num_ok _⟩
theorem read_f (b : ByteArray) : tp b = some (READ b) := by
 have w := specR_wf' ⟨b,false⟩
 unfold tp READ
 rw [show zafs b = some (⟨b,false⟩ : Rd) from rfl,obz,za3p,obz,itemsP_f _ _ (by decide) (by decide),obz,itemsA_f _ _ (by decide) (by decide),obz,itemsI_f _ _ (by decide) (by decide),obz,zbfz _ _ (by decide) (by decide),obz,za7d,obz,za7d,obz]
 show (some (zawn ⟨b,false⟩).2.bad_ >>= fun y17 => if y17 = true then some (za53,(2 : Int)) else some ((((zawn ⟨b,false⟩).2.s_.size : Nat) : Int)) >>= fun y20 => if (0 : Int) < y20 then some (za53,(2 : Int)) else ly (zawn ⟨b,false⟩).1 >>= fun y23 => if y23 = true then some ((zawn ⟨b,false⟩).1,(0 : Int)) else some (za53,(2 : Int))) = _
 generalize zawn ⟨b,false⟩ = q at w ⊢
 rw [obz]
 by_cases c1 : q.2.bad_ = true
 · rw [if_pos c1,if_pos (.inl c1)]
 rw [if_neg c1,obz]
 by_cases c2 : 0 < q.2.s_.size
 · rw [if_pos (by omega),if_pos (.inr (.inl c2))]
 rw [if_neg (by omega),za48 _ w,obz]
 by_cases c3 : okS q.1 = true
 · rw [if_pos c3,if_neg (fun h => h.elim c1 fun h => h.elim c2 fun h => h c3)]
 · rw [if_neg c3,if_pos (.inr (.inr c3))]
end
theorem zakd (s t : ByteArray) (h : s.size ≤ 1048576) : zagi ⟨ix s ++ t,false⟩ = (s,⟨t,false⟩) := by
 unfold zagi
 rw [text_app s 1048576 (by omega) t,if_neg (by omega)]
theorem ptyR_app (p : ac) (n : Int) (hn : n ≤ 3) (h : zapm n p = true) (t : ByteArray) : ptyR ⟨zaec p ++ t,false⟩ = (p,⟨t,false⟩) := by
 have z := za3s h hn
 have e1 := zakd p.Account (sg ix p.Keys ++ t) (by omega)
 have e2 : zapo zagi 3 ⟨sg ix p.Keys ++ t,false⟩ = (p.Keys,⟨t,false⟩) := zas9 (fun x hx t => zakd x t (by have := z.2.2.2 x hx; omega)) (by omega) (by omega) t
 unfold ptyR zaec
 rw [ByteArray.append_assoc,e1,e2]
theorem arcR_app (a : af) (n : Int) (hn : n ≤ 6) (h : zaky n a = true) (t : ByteArray) : arcR ⟨zac6 a ++ t,false⟩ = (a,⟨t,false⟩) := by
 have z := zauz h
 unfold zaky at h
 simp only [Bool.and_eq_true,xz] at h
 have e0 := zall a.From ⟨by omega,by omega⟩ (gz a.To ++ (gz a.Ledger ++ (ix a.Asset ++ (gz a.Amount ++ t))))
 have e1 := zall a.To ⟨by omega,by omega⟩ (gz a.Ledger ++ (ix a.Asset ++ (gz a.Amount ++ t)))
 have e2 := zall a.Ledger ⟨by omega,by omega⟩ (ix a.Asset ++ (gz a.Amount ++ t))
 have e3 := zakd a.Asset (gz a.Amount ++ t) (by omega)
 have e4 := zall a.Amount ⟨by omega,by omega⟩ t
 unfold arcR zac6
 rw [ByteArray.append_assoc,ByteArray.append_assoc,ByteArray.append_assoc,ByteArray.append_assoc,e0,e1,e2,e3,e4]
theorem specR_app (s : aq) (h : Ok s) (hw : Wf s) (t : ByteArray) : zawn ⟨ENC s ++ t,false⟩ = (s,⟨t,false⟩) := by
 have h1 := (zaer.1 h.id).2
 have h2 := h.np
 have h3 := h.nl
 have h4 := h.na
 have h5 := h.locks
 have e1 := fun t => zakd s.ID t (by omega)
 have e2 := fun t => zas9 (of := ptyR) (e := zaec) (l := s.Parties) (most := 6) (fun x hx t => ptyR_app x _ (by omega) (h.parties x hx) t) (by omega) (by omega) t
 have e3 := fun t => zas9 (of := arcR) (e := zac6) (l := s.Arcs) (most := 12) (fun x hx t => arcR_app x _ (by omega) (h.arcs x hx) t) (by omega) (by omega) t
 have e4 := fun t => zas9 (of := Rd.num) (e := gz) (l := s.Leaders) (most := 3) (fun x hx t => zall x (i64_of (hw.leads x hx)) t) (by omega) (by omega) t
 have e5 := fun t => zas9 (of := zagi) (e := ix) (l := s.Locks) (most := 3) (fun x hx t => zakd x t (by have := h5.2 x hx; omega)) (by omega) (by omega) t
 have e6 := fun t => zall s.Start (i64_of hw.start) t
 have e7 := fun t => zall s.Delta (i64_of hw.delta) t
 unfold zawn ENC
 rw [ByteArray.append_assoc,ByteArray.append_assoc,ByteArray.append_assoc,ByteArray.append_assoc,ByteArray.append_assoc,ByteArray.append_assoc,e1]
 dsimp only
 rw [e2]
 dsimp only
 rw [e3]
 dsimp only
 rw [e4]
 dsimp only
 rw [e5]
 dsimp only
 rw [e6]
 dsimp only
 rw [e7]
theorem READ_ENC (s : aq) (h : Ok s) (hw : Wf s) : READ (ENC s) = (s,0) := by
 have e := specR_app s h hw ⟨#[]⟩
 rw [zaz1] at e
 unfold READ
 rw [e]
 exact if_neg fun g => g.elim (fun g => by cases g) fun g => g.elim (fun g => by cases g) fun g => g (zaq2 h)
theorem za24 (s : aq) (h : Ok s) (hw : Wf s) : READ (BYTES s) = (s,0) := by
 unfold BYTES
 rw [if_pos (zaq2 h)]
 exact READ_ENC s h hw
theorem READ_nil : READ ⟨#[]⟩ = (za53,2) := by
 unfold READ
 exact if_pos (.inl (by decide +kernel))
theorem specN_no : okS za53 = false := ov fun h => absurd h.id (by decide)
theorem specN_wf : Wf za53 := ⟨fun v h => (by cases h),(by decide),(by decide)⟩
open Go Go.RowKit Sh Ic
def digit (k : Nat) : ByteArray := (⟨#[48,49,50,51,52,53,54,55,56,57]⟩ : ByteArray).extract k (k + 1)
def zbhu (k : Nat) : ByteArray := (⟨#[112,97,114,116,121]⟩ : ByteArray) ++ digit k
def secr (k : Nat) : ByteArray := (⟨#[115,101,99,114,101,116]⟩ : ByteArray) ++ digit k
def zais (k : Nat) : ByteArray := (⟨#[115,101,101,100]⟩ : ByteArray) ++ digit k
theorem zaet (k : Nat) (h : k < 10) : (digit k).size = 1 := by
 unfold digit
 rw [ByteArray.size_extract]
 show min (k + 1) 10 - k = 1
 omega
theorem za4k (k : Nat) (h : k < 10) : zq (k : Int) = some (digit k) := by
 unfold zq
 rw [if_pos ⟨by omega,by omega⟩,Int.toNat_natCast]; rfl
theorem za92 (k : Nat) (h : k < 10) : (zbhu k).size = 6 := by unfold zbhu; rw [ByteArray.size_append,zaet k h]; rfl
theorem secr_size (k : Nat) (h : k < 10) : (secr k).size = 7 := by unfold secr; rw [ByteArray.size_append,zaet k h]; rfl
theorem seed_size (k : Nat) (h : k < 10) : (zais k).size = 5 := by unfold zais; rw [ByteArray.size_append,zaet k h]; rfl
theorem account_f (k : Nat) (h : k < 10) : o9 (k : Int) = some (zbhu k) := by
 unfold o9
 rw [za4k k h,obz,if_pos (by rw [zaet k h]; decide)]; rfl
theorem secret_f (k : Nat) (h : k < 10) : zp (k : Int) = some (secr k) := by
 unfold zp
 rw [za4k k h,obz,if_pos (by rw [zaet k h]; decide)]; rfl
theorem seed_f (k : Nat) (h : k < 10) : zaex (k : Int) = some (zais k) := by
 unfold zaex
 rw [za4k k h,obz,if_pos (by rw [zaet k h]; decide)]; rfl
def lockS (k : Nat) : ByteArray := SHA (secr k)
def keyS' (i k : Nat) : ByteArray := PUB (zais i) (k : Int)
theorem zbhw (s : ByteArray) (k : Int) : (PUB s k).size = 16 := by unfold PUB; exact zag0 _
theorem lockO_f (k : Nat) (h : k < 10) : lockO (k : Int) = some (lockS k) := by
 unfold lockO
 rw [secret_f k h,obz,sum2_f _ (by rw [secr_size k h]; decide)]; rfl
theorem keyO_f (i k : Nat) (hi : i < 10) (hk : k < 10) : keyO (i : Int) (k : Int) = some (keyS' i k) := by
 unfold keyO
 rw [seed_f i hi,obz,pub2_f _ (by rw [seed_size i hi]; decide),if_pos (by unfold isK; omega)]; rfl
def upL (g : Nat → ByteArray) : Nat → Nat → List ByteArray
 | 0,_ => []
 | n + 1,k => g k :: upL g n (k + 1)
theorem upL_len (g : Nat → ByteArray) (n : Nat) : ∀ k,(upL g n k).length = n := by
 induction n with
 | zero => intro k; rfl
 | succ n ih => intro k; rw [upL,List.length_cons,ih]
theorem upL_mem {g : Nat → ByteArray} {n : Nat} : ∀ {k : Nat} {x : ByteArray},x ∈ upL g n k → ∃ j,k ≤ j ∧ j < k + n ∧ x = g j := by
 induction n with
 | zero => intro k x h; cases h
 | succ n ih =>
  intro k x h
  rw [upL,List.mem_cons] at h
  rcases h with rfl | h
  · exact ⟨k,Nat.le_refl _,by omega,rfl⟩
  · obtain ⟨j,h1,h2,h3⟩ := ih h
    exact ⟨j,by omega,by omega,h3⟩
theorem zba7 {f : Int → Option ByteArray} {g : Nat → ByteArray} (hf : ∀ k : Nat,k < 10 → f (k : Int) = some (g k)) (n : Nat) : ∀ (k : Nat) (l : List ByteArray),n + k ≤ 10 → zapp f n k l = some (l ++ upL g n k) := by
 induction n with
 | zero => intro k l h; rw [zapp,upL,List.append_nil]
 | succ n ih => intro k l h; rw [zapp,hf k (by omega),obz,ih (k + 1) _ (by omega),upL,List.append_assoc]; rfl
def zaiu (L : Nat) : Nat → Nat → List ac
 | 0,_ => []
 | n + 1,k => ⟨zbhu k,upL (keyS' k) L 0⟩ :: zaiu L n (k + 1)
theorem za6c (L n : Nat) : ∀ k,(zaiu L n k).length = n := by
 induction n with
 | zero => intro k; rfl
 | succ n ih => intro k; rw [zaiu,List.length_cons,ih]
theorem rowsO_f (L : Nat) (hL : L ≤ 10) (n : Nat) : ∀ (k : Nat) (d : List ac),n + k ≤ 10 → za6b L (bare (upL zbhu n k)) k d = some (d ++ zaiu L n k) := by
 induction n with
 | zero => intro k d h; show some d = some (d ++ []); rw [List.append_nil]
 | succ n ih =>
  intro k d h
  show (zapp (keyO (k : Int)) L 0 [] >>= fun ks => za6b L (bare (upL zbhu n (k + 1))) (k + 1) (d ++ [⟨zbhu k,ks⟩])) = _
  rw [zba7 (g := keyS' k) (fun j hj => keyO_f k j (by omega) hj) L 0 [] (by omega),obz,ih (k + 1) _ (by omega),List.append_assoc]
  rfl
def za3n (n : Nat) (start delta : Int) : aq := ⟨⟨#[114,105,110,103]⟩,zaiu 1 n 0,zaeo n 0 2,[0],[lockS 0],start,delta⟩
theorem ring_f (n : Nat) (start delta : Int) (h1 : 1 ≤ n) (h6 : n ≤ 6) : zabq (n : Int) start delta = some (za3n n start delta) := by
 unfold zabq
 have e1 : zaid (n : Int) 0 2 = some (zaeo n 0 2) := if_pos ⟨⟨by omega,by omega⟩,by decide,by decide⟩
 rw [if_pos ⟨by omega,by omega⟩,e1,obz,Int.toNat_natCast,zba7 account_f n 0 [] (by omega),obz,zba7 lockO_f 1 0 [] (by omega),obz,List.nil_append,rowsO_f 1 (by omega) n 0 [] (by omega),obz]
 rfl
theorem rows_ok (L : Nat) (n : Nat) : ∀ k,n + k ≤ 10 → ∀ p ∈ zaiu L n k,zapm (L : Int) p = true := by
 induction n with
 | zero => intro k h p hp; cases hp
 | succ n ih =>
  intro k h p hp
  rw [zaiu,List.mem_cons] at hp
  rcases hp with rfl | hp
  · unfold zapm
    rw [Bool.and_eq_true,zaer,zahd]
    refine ⟨by show 1 ≤ (zbhu k).size ∧ (zbhu k).size ≤ 16; rw [za92 k (by omega)]; decide,by show ((upL (keyS' k) L 0).length : Int) = _; rw [upL_len],fun x hx => ?_⟩
    obtain ⟨j,_,_,rfl⟩ := upL_mem hx
    show ((PUB _ _).size : Int) = 16
    rw [zbhw]; rfl
  · exact ih (k + 1) (by omega) p hp
theorem rows_acct (L n : Nat) : ∀ k,(zaiu L n k).map ac.Account = upL zbhu n k := by
 induction n with
 | zero => intro k; rfl
 | succ n ih => intro k; rw [zaiu,List.map_cons,ih,upL]
theorem accts_nd : (upL zbhu 6 0).Nodup := by decide +kernel
theorem upL_take (g : Nat → ByteArray) (n m : Nat) : ∀ k,upL g n k = (upL g (n + m) k).take n := by
 induction n with
 | zero => intro k; rfl
 | succ n ih => intro k; rw [Nat.succ_add,upL,upL,List.take_succ_cons,← ih]
theorem zbcj (n : Nat) (h : n ≤ 6) : (upL zbhu n 0).Nodup := by
 have e := upL_take zbhu n (6 - n) 0
 rw [show n + (6 - n) = 6 by omega] at e
 rw [e]
 exact accts_nd.sublist (List.take_sublist _ _)
def zai0 (n : Nat) (l : List af) : Bool := l.all (zaky (n : Int)) && decide ((l.map fun a => (a.From,a.To)).Nodup) && decide (1 ≤ l.length) && decide (l.length ≤ 12)
theorem ring_arcs : (zai0 2 (zaeo 2 0 2) && zai0 3 (zaeo 3 0 2) && zai0 4 (zaeo 4 0 2) && zai0 5 (zaeo 5 0 2) && zai0 6 (zaeo 6 0 2)) = true := by decide +kernel
theorem ring_good (n : Nat) (h2 : 2 ≤ n) (h6 : n ≤ 6) : zai0 n (zaeo n 0 2) = true := by
 have h := ring_arcs
 simp only [Bool.and_eq_true] at h
 obtain ⟨⟨⟨⟨a,b⟩,c⟩,d⟩,e⟩ := h
 have : n = 2 ∨ n = 3 ∨ n = 4 ∨ n = 5 ∨ n = 6 := by omega
 rcases this with rfl | rfl | rfl | rfl | rfl <;> assumption
theorem ring_ok (n : Nat) (start delta : Int) (h2 : 2 ≤ n) (h6 : n ≤ 6) (hs : 0 ≤ start ∧ start ≤ 1099511627776) (hd : 1 ≤ delta ∧ delta ≤ 1048576) : Ok (za3n n start delta) := by
 have g := ring_good n h2 h6
 unfold zai0 at g
 simp only [Bool.and_eq_true,decide_eq_true_iff,List.all_eq_true] at g
 obtain ⟨⟨⟨g1,g2⟩,g3⟩,g4⟩ := g
 have ln : (zaiu 1 n 0).length = n := za6c 1 n 0
 refine ⟨by show zakx ⟨#[114,105,110,103]⟩ = true; decide +kernel,?_,by show 1 ≤ 1 ∧ 1 ≤ 3; decide,⟨g3,g4⟩,⟨rfl,fun x hx => ?_⟩,hs,hd,rows_ok 1 n 0 (by omega),?_,?_,g2,by show [(0 : Int)].Nodup; decide,fun v hv => ?_⟩
 · show 2 ≤ (zaiu 1 n 0).length ∧ (zaiu 1 n 0).length ≤ 6
   omega
 · have : x = lockS 0 := by simpa [za3n] using hx
   rw [this]; exact zaxe _
 · show ∀ a ∈ zaeo n 0 2,zaky ((zaiu 1 n 0).length : Nat) a = true
   rw [ln]; exact g1
 · show ((zaiu 1 n 0).map ac.Account).Nodup
   rw [rows_acct]; exact zbcj n h6
 · have : v = 0 := by simpa [za3n] using hv
   rw [this]
   show (0 : Int) ≤ 0 ∧ (0 : Int) < ((zaiu 1 n 0).length : Nat)
   omega
theorem ring_wf (n : Nat) (start delta : Int) (hs : zanc start = true) (hd : zanc delta = true) : Wf (za3n n start delta) := ⟨fun v hv => by
 have : v = 0 := by simpa [za3n] using hv
 rw [this]; decide,hs,hd⟩
open Go Go.RowKit Sh Ic
theorem zba1 (n k : Int) (hk : 0 < k) (hk2 : k < 9223372036854775808) : t9 n k = some (n % k) := by
 unfold t9
 rw [if_pos (by omega)]
 have h1 := Int.emod_nonneg n (show k ≠ 0 by omega)
 have h2 := Int.emod_lt_of_pos n hk
 by_cases c : 0 ≤ n
 · have e : Int.tmod n k = n % k := Int.tmod_eq_emod_of_nonneg c
   rw [e,if_neg (by omega)]
 · have e := Int.tmod_eq_emod (a := n) (b := k)
   by_cases d : n % k = 0
   · have : Int.tmod n k = 0 := by
      rw [e,d]
      have : k ∣ n := Int.dvd_of_emod_eq_zero d
      simp [this]
     rw [this,d,if_neg (by decide)]
   · have nd : ¬ k ∣ n := fun h => d (Int.emod_eq_zero_of_dvd h)
     have e2 : Int.tmod n k = n % k - k := by
      rw [e,if_neg (fun h => h.elim c nd)]
      omega
     rw [e2,if_pos (by omega),w64 (by omega) (by omega)]
     congr 1
     omega
open Go Go.RowKit Sh Ic
open Sh.ArgT (enc)
theorem awake4_g (s : aq) (h : Ok s) (hw : Wf s) (hr : zabq 2 5 6 = some s) : yi = some true := by
 unfold yi
 rw [hr,obz,bytes_f s hw,obz,read_f,obz,za24 s h hw,read_f,obz,READ_nil,za48 s hw,obz,if_pos (zaq2 h),if_pos rfl,same_f _ _ h.lens,obz,if_pos (zaxb s),if_pos rfl]
 show (ly za53 >>= fun y17 => some (!y17)) = _
 rw [za48 _ specN_wf,obz,specN_no]; rfl
theorem awake4_f : yi = some true :=
 awake4_g (za3n 2 5 6) (ring_ok 2 5 6 (by decide) (by decide) (by decide) (by decide)) (ring_wf 2 5 6 (by decide) (by decide)) (ring_f 2 5 6 (by decide) (by decide))
def zbci (n : Nat) (l : List af) : Bool := decide (l.length = n) && l.all fun a => decide (a.Asset.size = 4)
theorem ring_arcs4 : (zbci 2 (zaeo 2 0 2) && zbci 3 (zaeo 3 0 2) && zbci 4 (zaeo 4 0 2) && zbci 5 (zaeo 5 0 2) && zbci 6 (zaeo 6 0 2)) = true := by decide +kernel
theorem ring_four (n : Nat) (h2 : 2 ≤ n) (h6 : n ≤ 6) : (zaeo n 0 2).length = n ∧ ∀ a ∈ zaeo n 0 2,a.Asset.size = 4 := by
 have h := ring_arcs4
 simp only [Bool.and_eq_true] at h
 obtain ⟨⟨⟨⟨a,b⟩,c⟩,d⟩,e⟩ := h
 have key : ∀ n,zbci n (zaeo n 0 2) = true → (zaeo n 0 2).length = n ∧ ∀ a ∈ zaeo n 0 2,a.Asset.size = 4 := by
  intro n h
  unfold zbci at h
  rw [Bool.and_eq_true,decide_eq_true_iff,List.all_eq_true] at h
  exact ⟨h.1,fun a ha => of_decide_eq_true (h.2 a ha)⟩
 have : n = 2 ∨ n = 3 ∨ n = 4 ∨ n = 5 ∨ n = 6 := by omega
 rcases this with rfl | rfl | rfl | rfl | rfl
 · exact key _ a
 · exact key _ b
 · exact key _ c
 · exact key _ d
 · exact key _ e
theorem rows_size (L : Nat) (n : Nat) : ∀ k,n + k ≤ 10 → ∀ p ∈ zaiu L n k,(zaec p).size = 22 + L * 24 := by
 induction n with
 | zero => intro k h p hp; cases hp
 | succ n ih =>
  intro k h p hp
  rw [zaiu,List.mem_cons] at hp
  rcases hp with rfl | hp
  · rw [zazl,ra]
    have z := wa (e := ix) (B := 24) (l := upL (keyS' k) L 0) fun x hx => by
     obtain ⟨j,_,_,rfl⟩ := upL_mem hx
     rw [l5]
     show 8 + (PUB _ _).size = 24
     rw [zbhw]
    rw [upL_len] at z
    show 8 + (zbhu k).size + (8 + (zaj7 ix (upL (keyS' k) L 0)).size) = _
    rw [z,za92 k (by omega)]
    omega
  · exact ih (k + 1) (by omega) p hp
theorem ring_size (n : Nat) (a d : Int) (h2 : 2 ≤ n) (h6 : n ≤ 6) : (ENC (za3n n a d)).size = 108 + 90 * n := by
 obtain ⟨g1,g2⟩ := ring_four n h2 h6
 have z1 := wa (e := zaec) (B := 46) (l := zaiu 1 n 0) (rows_size 1 n 0 (by omega))
 rw [za6c] at z1
 have z2 := wa (e := zac6) (B := 44) (l := zaeo n 0 2) fun x hx => by rw [zazm,g2 x hx]
 rw [g1] at z2
 have z3 := wa (e := gz) (B := 8) (l := [(0 : Int)]) fun _ _ => rfl
 have z4 := wa (e := ix) (B := 40) (l := [lockS 0]) fun x hx => by
  have : x = lockS 0 := by simpa using hx
  rw [this,l5]
  show 8 + (SHA _).size = 40
  rw [zaxe]
 rw [List.length_singleton] at z3 z4
 have z5 : (⟨#[114,105,110,103]⟩ : ByteArray).size = 4 := rfl
 unfold ENC
 simp only [ByteArray.size_append,dw,l5,ra]
 show 8 + (⟨#[114,105,110,103]⟩ : ByteArray).size + (8 + (zaj7 zaec (zaiu 1 n 0)).size) + (8 + (zaj7 zac6 (zaeo n 0 2)).size) + (8 + (zaj7 gz [(0 : Int)]).size) + (8 + (zaj7 ix [lockS 0]).size) + 8 + 8 = _
 rw [z1,z2,z3,z4,z5]
 omega
theorem sizes_g (s : aq) (h : Ok s) (hw : Wf s) (n : Nat) (a d : Int) (h2 : 2 ≤ n) (h6 : n ≤ 6) (hz : (ENC s).size = 108 + 90 * n) (hd : 1 ≤ d ∧ d ≤ 1048576) (p1 p2 p3 : Int) (e1 : p1 % 5 = (n : Int) - 2) (e2 : p2 % 1099511627776 = a) (e3 : p3 % 1048576 = d - 1) (hr : zabq (n : Int) a d = some s) : qj p1 p2 p3 = some true := by
 have v1 : IntKind.i64.wrap (2 + ((n : Int) - 2)) = (n : Int) := by rw [wA (by omega) (by omega)]; omega
 have v2 : IntKind.i64.wrap (1 + (d - 1)) = d := by rw [wA (by omega) (by omega)]; omega
 have v3 : IntKind.i64.wrap ((n : Int) * 46) = (n : Int) * 46 := wA (by omega) (by omega)
 have v4 : IntKind.i64.wrap ((n : Int) * 44) = (n : Int) * 44 := wA (by omega) (by omega)
 have w1 : IntKind.i64.wrap (20 + (n : Int) * 46) = 20 + (n : Int) * 46 := wA (by omega) (by omega)
 have w2 : IntKind.i64.wrap (20 + (n : Int) * 46 + 8) = 20 + (n : Int) * 46 + 8 := wA (by omega) (by omega)
 have w3 : IntKind.i64.wrap (20 + (n : Int) * 46 + 8 + (n : Int) * 44) = 20 + (n : Int) * 46 + 8 + (n : Int) * 44 := wA (by omega) (by omega)
 have w4 : IntKind.i64.wrap (20 + (n : Int) * 46 + 8 + (n : Int) * 44 + 8) = 20 + (n : Int) * 46 + 8 + (n : Int) * 44 + 8 := wA (by omega) (by omega)
 have w5 : IntKind.i64.wrap (20 + (n : Int) * 46 + 8 + (n : Int) * 44 + 8 + 8) = 20 + (n : Int) * 46 + 8 + (n : Int) * 44 + 8 + 8 := wA (by omega) (by omega)
 have w6 : IntKind.i64.wrap (20 + (n : Int) * 46 + 8 + (n : Int) * 44 + 8 + 8 + 8) = 20 + (n : Int) * 46 + 8 + (n : Int) * 44 + 8 + 8 + 8 := wA (by omega) (by omega)
 have w7 : IntKind.i64.wrap (20 + (n : Int) * 46 + 8 + (n : Int) * 44 + 8 + 8 + 8 + 8) = 20 + (n : Int) * 46 + 8 + (n : Int) * 44 + 8 + 8 + 8 + 8 := wA (by omega) (by omega)
 have w8 : IntKind.i64.wrap (20 + (n : Int) * 46 + 8 + (n : Int) * 44 + 8 + 8 + 8 + 8 + 32) = 20 + (n : Int) * 46 + 8 + (n : Int) * 44 + 8 + 8 + 8 + 8 + 32 := wA (by omega) (by omega)
 have w9 : IntKind.i64.wrap (20 + (n : Int) * 46 + 8 + (n : Int) * 44 + 8 + 8 + 8 + 8 + 32 + 16) = 108 + 90 * (n : Int) := by rw [wA (by omega) (by omega)]; omega
 have eb : BYTES s = ENC s := if_pos (zaq2 h)
 have rb := za24 s h hw
 rw [eb] at rb
 unfold qj
 rw [zba1 p1 5 (by decide) (by decide),obz,zba1 p2 1099511627776 (by decide) (by decide),obz,zba1 p3 1048576 (by decide) (by decide),obz,e1,e2,e3,v1,v2,hr,obz,v3,v4,w1,w2,w3,w4,w5,w6,w7,w8,w9,obz,bytes_f s hw,obz,eb,read_f,obz,rb,if_pos (by omega),if_pos rfl,same_f _ _ h.lens,obz,if_pos (zaxb s),awake4_f,obz]
theorem sizes_f (p1 p2 p3 : Int) : qj p1 p2 p3 = some true := by
 have a1 := Int.emod_nonneg p1 (show (5 : Int) ≠ 0 by decide)
 have a2 := Int.emod_lt_of_pos p1 (show (0 : Int) < 5 by decide)
 have b1 := Int.emod_nonneg p2 (show (1099511627776 : Int) ≠ 0 by decide)
 have b2 := Int.emod_lt_of_pos p2 (show (0 : Int) < 1099511627776 by decide)
 have c1 := Int.emod_nonneg p3 (show (1048576 : Int) ≠ 0 by decide)
 have c2 := Int.emod_lt_of_pos p3 (show (0 : Int) < 1048576 by decide)
 obtain ⟨n,hn⟩ : ∃ n : Nat,p1 % 5 = (n : Int) - 2 := ⟨(p1 % 5).toNat + 2,by omega⟩
 obtain ⟨a,ha⟩ : ∃ a,p2 % 1099511627776 = a := ⟨_,rfl⟩
 obtain ⟨d,hd⟩ : ∃ d,p3 % 1048576 = d - 1 := ⟨p3 % 1048576 + 1,by omega⟩
 exact sizes_g (za3n n a d) (ring_ok n a d (by omega) (by omega) (by omega) (by omega)) (ring_wf n a d (zayo (by omega) (by omega)) (zayo (by omega) (by omega))) n a d (by omega) (by omega) (ring_size n a d (by omega) (by omega)) (by omega) p1 p2 p3 hn ha hd (ring_f n a d (by omega) (by omega))
theorem za52 (a b c : Int) (_ : Arg.ok a) (_ : Arg.ok b) (_ : Arg.ok c) : Lw G ql [enc a,enc b,enc c] := ⟨_,zabp a b c true (sizes_f a b c) ⟨[],0⟩ (Nat.le_refl _)⟩
end Go.Proofs.Ytdcfoaafkppojaa
