import Derived.Test.YtdcfoaafkppojaaM26
set_option linter.unusedSimpArgs false
set_option linter.unusedVariables false
namespace Go.Proofs.Ytdcfoaafkppojaa
open Go Go.RowKit Sh Ic
theorem zcaw (n : Int) : IntKind.i64.wrap n = (BitVec.ofInt 64 n).toInt := by
 rw [IntKind.wrap_i64,BitVec.toInt_ofInt]
 simp only [Int.bmod]
 split <;> omega
theorem zc0i (n : Int) : BitVec.ofInt 64 (IntKind.i64.wrap n) = BitVec.ofInt 64 n := by rw [zcaw,BitVec.ofInt_toInt]
def zbuf (v : Int) (c : UInt8) : Int := IntKind.i64.wrap (v * 256 + c.toNat)
theorem zbsh (x : BitVec 64) (c : Nat) (hc : c < 256) : (x <<< 8) ||| BitVec.ofNat 64 c = x <<< 8 + BitVec.ofNat 64 c := by
 rw [BitVec.add_eq_or_of_and_eq_zero]
 apply BitVec.eq_of_getLsbD_eq
 intro i hi
 simp only [BitVec.getLsbD_and,BitVec.getLsbD_shiftLeft,BitVec.getLsbD_ofNat,BitVec.getLsbD_zero]
 by_cases h : i < 8
 · simp [h]
 · have : c.testBit i = false := Nat.testBit_lt_two_pow (Nat.lt_of_lt_of_le hc (Nat.pow_le_pow_right (by decide) (by omega) : 2 ^ 8 ≤ 2 ^ i))
   simp [this]
theorem zb1d (v : Int) (c : UInt8) : IntKind.i64.wrap ((BitVec.ofInt IntKind.i64.bits (IntKind.i64.wrap (v * 2 ^ Nat.min 8 IntKind.i64.bits)) ||| BitVec.ofInt IntKind.i64.bits (IntKind.i64.wrap (c.toNat : Int))).toNat) = zbuf v c := by
 show IntKind.i64.wrap ((BitVec.ofInt 64 (IntKind.i64.wrap (v * 2 ^ 8)) ||| BitVec.ofInt 64 (IntKind.i64.wrap (c.toNat : Int))).toNat) = zbuf v c
 rw [zc0i,zc0i]
 have h1 : BitVec.ofInt 64 (v * 2 ^ 8) = (BitVec.ofInt 64 v) <<< 8 := by
  rw [BitVec.ofInt_mul,BitVec.shiftLeft_eq_mul_twoPow]; rfl
 have h2 : BitVec.ofInt 64 (c.toNat : Int) = BitVec.ofNat 64 c.toNat := BitVec.ofInt_natCast ..
 rw [h1,h2,zbsh _ _ c.toNat_lt,← h1,← h2,← BitVec.ofInt_add]
 unfold zbuf
 rw [zcaw,zcaw]
 congr 1
 rw [BitVec.ofInt_natCast,BitVec.ofNat_toNat,BitVec.setWidth_eq]
 congr 1
def zbud (v : Int) (l : List UInt8) : Int := l.foldl zbuf v
theorem zbr1 (s : ByteArray) (i : Nat) (h : i < s.size) : s.data.toList.drop i = s.data.getD i 0 :: s.data.toList.drop (i + 1) := by
 have h' : i < s.data.toList.length := by simpa using h
 have h2 : i < s.data.size := h
 rw [List.drop_eq_getElem_cons h',Array.getD_eq_getD_getElem?,Array.getElem?_eq_getElem h2,Option.getD_some,Array.getElem_toList]
theorem zbsg (s : ByteArray) (i : Nat) (h : i < s.size) : ixL (qt s) (i : Int) = some ((s.data.getD i 0).toNat : Int) := by
 rw [zbme (by rw [ay]; exact h)]
 unfold qt
 rw [List.getElem_map]
 have h2 : i < s.data.size := h
 rw [Array.getD_eq_getD_getElem?,Array.getElem?_eq_getElem h2,Option.getD_some,Array.getElem_toList]
theorem zb6y (l : List UInt8) : ∀ (u v : Int),IntKind.i64.wrap u = IntKind.i64.wrap v → IntKind.i64.wrap (l.foldl (fun v c => v * 256 + (c.toNat : Int)) u) = IntKind.i64.wrap (zbud v l) := by
 induction l with
 | nil => exact fun u v h => h
 | cons c r ih =>
  intro u v h
  refine ih _ (zbuf v c) ?_
  show IntKind.i64.wrap (u * 256 + (c.toNat : Int)) = IntKind.i64.wrap (zbuf v c)
  unfold zbuf
  rw [IntKind.wrap_i64] at h ⊢
  rw [IntKind.wrap_i64] at h ⊢
  rw [IntKind.wrap_i64]
  omega
theorem zc1k (l : List UInt8) : IntKind.i64.wrap (zbud 0 l) = zbud 0 l := by
 have key : ∀ (l : List UInt8) (v : Int),IntKind.i64.wrap v = v → IntKind.i64.wrap (zbud v l) = zbud v l := by
  intro l
  induction l with
  | nil => exact fun v h => h
  | cons c r ih =>
   intro v h
   refine ih (zbuf v c) ?_
   unfold zbuf
   rw [IntKind.wrap_i64,IntKind.wrap_i64]
   omega
 exact key l 0 (by decide)
theorem zb0n (n : Int) : j7 (IntKind.i64.wrap n) = true := by
 rw [IntKind.wrap_i64]
 exact zb36 (by omega) (by omega)
theorem zcib (l : List UInt8) : j7 (zbud 0 l) = true := by rw [← zc1k]; exact zb0n _
abbrev Rd := aa
def Rd.fail : Rd := ⟨⟨#[]⟩,true⟩
def Rd.can (r : Rd) (n : Int) : Prop := r.bad_ = false ∧ 0 ≤ n ∧ n ≤ r.s_.size
instance (r : Rd) (n : Int) : Decidable (Rd.can r n) := inferInstanceAs (Decidable (_ ∧ _ ∧ _))
def Rd.take (r : Rd) (n : Int) : ByteArray × Rd := if Rd.can r n then (r.s_.extract 0 n.toNat,⟨r.s_.extract n.toNat r.s_.size,false⟩) else (⟨#[]⟩,Rd.fail)
theorem zb46 (r : Rd) : gf r = some Rd.fail := rfl
theorem zbxr (r : Rd) (n : Int) : i8 r n = some (Rd.take r n) := by
 unfold i8 Rd.take
 by_cases h1 : r.bad_ = true
 · rw [if_pos h1,zb46,obz,if_neg (fun h : Rd.can r n => by have := h.1; rw [h1] at this; cases this)]
 · have h1' := Bool.eq_false_iff.2 h1
   rw [if_neg h1]
   by_cases h2 : n < 0
   · rw [if_pos h2,zb46,obz,if_neg (fun h : Rd.can r n => by have := h.2.1; omega)]
   · rw [if_neg h2]
     by_cases h3 : ((r.s_.size : Nat) : Int) < n
     · rw [if_pos h3,zb46,obz,if_neg (fun h : Rd.can r n => by have := h.2.2; omega)]
     · rw [if_neg h3,if_pos ⟨by omega,by omega⟩,if_pos ⟨h1',by omega,by omega⟩,h1']
theorem zbnh (r : Rd) (n : Int) (hn : n ≤ 1000000000) : (Rd.take r n).1.size ≤ 1000000000 := by
 unfold Rd.take
 split
 · simp only [ByteArray.size_extract]; omega
 · decide
def Rd.num (r : Rd) : Int × Rd := (zbud 0 (Rd.take r 8).1.data.toList,(Rd.take r 8).2)
def Rd.count (r : Rd) (most : Int) : Int × Rd := if (Rd.num r).1 < 0 ∨ most < (Rd.num r).1 then (0,Rd.fail) else Rd.num r
def Rd.text (r : Rd) (most : Int) : ByteArray × Rd := Rd.take (Rd.count r most).2 (Rd.count r most).1
theorem zce5 (s : ByteArray) (hs : s.size ≤ 1000000000) (n : Nat) : ∀ (i : Nat) (v : Int),n + i = s.size → jl (qt s) (s.size : Nat) v (i : Int) = some (zbud v (s.data.toList.drop i)) := by
 induction n with
 | zero =>
  intro i v h
  have e : s.data.toList.drop i = [] := List.drop_eq_nil_of_le (by simp; omega)
  rw [z0,dh,if_neg (by omega),obz,LS.go,e]; rfl
 | succ n ih =>
  intro i v h
  rw [z0,dh,if_pos (by omega),zbsg s i (by omega),obz,zb1d,obz,obz,LS.go,za53 i (by omega),zbr1 s i (by omega)]
  exact ih (i + 1) _ (by omega)
theorem zbwu (r : Rd) : df r = some (Rd.num r) := by
 unfold df Rd.num
 have e := zce5 (Rd.take r 8).1 (zbnh r 8 (by decide)) (Rd.take r 8).1.size 0 0 rfl
 have e : jl (qt (Rd.take r 8).1) ((Rd.take r 8).1.size : Nat) 0 0 = _ := e
 rw [zbxr,obz,ay,e,obz]; rfl
theorem zce4 (r : Rd) (most : Int) : nr r most = some (Rd.count r most) := by
 unfold nr Rd.count
 rw [zbwu,obz]
 by_cases h1 : (Rd.num r).1 < 0
 · rw [if_pos h1,zb46,obz,if_pos (.inl h1)]
 · rw [if_neg h1]
   by_cases h2 : most < (Rd.num r).1
   · rw [if_pos h2,zb46,obz,if_pos (.inr h2)]
   · rw [if_neg h2,if_neg (fun h => h.elim h1 h2)]
theorem zb5h (r : Rd) (most : Int) : d5 r most = some (Rd.count r most) := by
 unfold d5
 rw [zce4,obz]
theorem zb5t (r : Rd) (most : Int) : kx r most = some (Rd.text r most) := by
 unfold kx Rd.text
 rw [zb5h,obz,zbxr,obz]
theorem zb8d (r : Rd) (most : Int) (hm : 0 ≤ most) : 0 ≤ (Rd.count r most).1 ∧ (Rd.count r most).1 ≤ most := by
 unfold Rd.count
 split
 · exact ⟨Int.le_refl _,hm⟩
 · rename_i h
   exact ⟨Int.not_lt.1 fun e => h (.inl e),Int.not_lt.1 fun e => h (.inr e)⟩
def mo (v : Int) (i : Nat) : Int := IntKind.u8.wrap (v.fdiv (2 ^ Nat.min (8 * (7 - i)) IntKind.i64.bits))
def ia (v : Int) : ByteArray := ⟨#[UInt8.ofNat (mo v 0).toNat,UInt8.ofNat (mo v 1).toNat,UInt8.ofNat (mo v 2).toNat,UInt8.ofNat (mo v 3).toNat,UInt8.ofNat (mo v 4).toNat,UInt8.ofNat (mo v 5).toNat,UInt8.ofNat (mo v 6).toNat,UInt8.ofNat (mo v 7).toNat]⟩
theorem zbwq (v : Int) (i : Nat) (hi : i < 8) (l : List Int) (hl : l.length = 8) : pm v 8 ((8 : Nat) : Int) l (i : Int) = pm v 8 ((8 : Nat) : Int) (l.set i (mo v i)) ((i + 1 : Nat) : Int) := by
 have w2 : IntKind.i64.wrap (7 - (i : Int)) = ((7 - i : Nat) : Int) := by rw [w64 (by omega) (by omega)]; omega
 have w3 : IntKind.i64.wrap (8 * ((7 - i : Nat) : Int)) = ((8 * (7 - i) : Nat) : Int) := by rw [w64 (by omega) (by omega)]; omega
 rw [zct5,gv,if_pos (by omega),w2,w3,if_pos (by omega),if_pos ⟨by omega,by omega⟩,if_pos (by omega),obz,LS.go,za53 i (by omega),Int.toNat_natCast,Int.toNat_natCast]
 rfl
theorem zblx (v : Int) : gw v = some (ia v) := by
 have e : pm v 8 ((8 : Nat) : Int) (List.replicate 8 (0 : Int)) (0 : Int) = some [mo v 0,mo v 1,mo v 2,mo v 3,mo v 4,mo v 5,mo v 6,mo v 7] := by
  have h0 := zbwq v 0 (by decide) (List.replicate 8 (0 : Int)) rfl
  have h1 := zbwq v 1 (by decide) [mo v 0,0,0,0,0,0,0,0] rfl
  have h2 := zbwq v 2 (by decide) [mo v 0,mo v 1,0,0,0,0,0,0] rfl
  have h3 := zbwq v 3 (by decide) [mo v 0,mo v 1,mo v 2,0,0,0,0,0] rfl
  have h4 := zbwq v 4 (by decide) [mo v 0,mo v 1,mo v 2,mo v 3,0,0,0,0] rfl
  have h5 := zbwq v 5 (by decide) [mo v 0,mo v 1,mo v 2,mo v 3,mo v 4,0,0,0] rfl
  have h6 := zbwq v 6 (by decide) [mo v 0,mo v 1,mo v 2,mo v 3,mo v 4,mo v 5,0,0] rfl
  have h7 := zbwq v 7 (by decide) [mo v 0,mo v 1,mo v 2,mo v 3,mo v 4,mo v 5,mo v 6,0] rfl
  refine h0.trans (h1.trans (h2.trans (h3.trans (h4.trans (h5.trans (h6.trans (h7.trans ?_)))))))
  rw [zct5,gv,if_neg (by decide),obz,LS.go]
  rfl
 unfold gw
 rw [e,obz]
 rfl
theorem dw (v : Int) : (ia v).size = 8 := rfl
def iz (s : ByteArray) : ByteArray := ia s.size ++ s
theorem ma (s : ByteArray) : (iz s).size = 8 + s.size := by unfold iz; rw [ByteArray.size_append,dw]
theorem zb9w (s : ByteArray) (hs : s.size ≤ 140737488355328) : pe s = some (iz s) := by
 unfold pe
 rw [zblx,obz,if_pos (by rw [dw]; omega)]; rfl
def I64 (v : Int) : Prop := -9223372036854775808 ≤ v ∧ v ≤ 9223372036854775807
theorem zcf8 (v : Int) (i : Nat) : mo v i = (v / ((2 ^ Nat.min (8 * (7 - i)) 64 : Nat) : Int)) % 256 := by
 unfold mo
 rw [Int.fdiv_eq_ediv_of_nonneg _ (by exact Int.le_of_lt (Int.pow_pos (by decide)))]
 simp [IntKind.wrap,IntKind.bits,IntKind.signed]
theorem zc49 (v : Int) (i : Nat) : ((UInt8.ofNat (mo v i).toNat).toNat : Int) = mo v i := by
 have := zcf8 v i
 have h1 : 0 ≤ mo v i := by rw [this]; exact Int.emod_nonneg _ (by decide)
 have h2 : mo v i < 256 := by rw [this]; exact Int.emod_lt_of_pos _ (by decide)
 rw [UInt8.toNat_ofNat']
 omega
theorem zb1i (v : Int) (hv : I64 v) : zbud 0 (ia v).data.toList = v := by
 have e := zb6y (ia v).data.toList 0 0 rfl
 rw [zc1k] at e
 rw [← e]
 simp only [ia,List.foldl_cons,List.foldl_nil,zc49]
 simp only [zcf8]
 have p0 : Nat.min (8 * (7 - 0)) 64 = 56 := rfl
 have p1 : Nat.min (8 * (7 - 1)) 64 = 48 := rfl
 have p2 : Nat.min (8 * (7 - 2)) 64 = 40 := rfl
 have p3 : Nat.min (8 * (7 - 3)) 64 = 32 := rfl
 have p4 : Nat.min (8 * (7 - 4)) 64 = 24 := rfl
 have p5 : Nat.min (8 * (7 - 5)) 64 = 16 := rfl
 have p6 : Nat.min (8 * (7 - 6)) 64 = 8 := rfl
 have p7 : Nat.min (8 * (7 - 7)) 64 = 0 := rfl
 rw [p0,p1,p2,p3,p4,p5,p6,p7]
 obtain ⟨h1,h2⟩ := hv
 rw [IntKind.wrap_i64]
 simp only [Nat.reducePow,Int.cast_ofNat_Int]
 omega
theorem zdb4 (a b : ByteArray) : (a ++ b).extract 0 a.size = a := by
 apply ByteArray.ext
 simp
theorem zdb3 (a b : ByteArray) : (a ++ b).extract a.size (a ++ b).size = b := by
 apply ByteArray.ext
 apply Array.ext'
 rw [ByteArray.data_extract,Array.toList_extract,ByteArray.data_append,Array.toList_append,ByteArray.size_append,List.extract_eq_take_drop]
 rw [List.drop_append_of_le_length (by simp),List.drop_eq_nil_of_le (by simp),List.nil_append,List.take_of_length_le (by simp)]
theorem zcku (a t : ByteArray) (n : Nat) (hn : a.size = n) : Rd.take ⟨a ++ t,false⟩ (n : Int) = (a,⟨t,false⟩) := by
 unfold Rd.take
 have hc : Rd.can ⟨a ++ t,false⟩ (n : Int) := ⟨rfl,by omega,by simp only [ByteArray.size_append]; omega⟩
 rw [if_pos hc]
 simp only [Int.toNat_natCast]
 rw [← hn,zdb4,zdb3]
theorem zbwk (v : Int) (hv : I64 v) (t : ByteArray) : Rd.num ⟨ia v ++ t,false⟩ = (v,⟨t,false⟩) := by
 unfold Rd.num
 rw [show (8 : Int) = ((8 : Nat) : Int) from rfl,zcku _ _ 8 rfl,zb1i v hv]
theorem zcxv (v most : Int) (hv : I64 v) (t : ByteArray) : Rd.count ⟨ia v ++ t,false⟩ most = if v < 0 ∨ most < v then (0,Rd.fail) else (v,⟨t,false⟩) := by
 unfold Rd.count
 rw [zbwk v hv]
theorem zbup (s : ByteArray) (most : Int) (hs : s.size ≤ 140737488355328) (t : ByteArray) : Rd.text ⟨iz s ++ t,false⟩ most = if most < s.size then (⟨#[]⟩,Rd.fail) else (s,⟨t,false⟩) := by
 unfold Rd.text iz
 rw [ByteArray.append_assoc,zcxv _ _ ⟨by omega,by omega⟩]
 by_cases h : most < (s.size : Int)
 · rw [if_pos (.inr h),if_pos h]
   unfold Rd.take
   rw [if_neg (fun hc => by cases hc.1)]
 · rw [if_neg (by omega),if_neg h]
   exact zcku _ _ _ rfl
theorem zb5e (a : ByteArray) : a ++ ⟨#[]⟩ = a := ByteArray.append_empty
theorem zbri {v : Int} (h : j7 v = true) : I64 v := by
 unfold j7 at h
 rw [Bool.and_eq_true,decide_eq_true_iff,decide_eq_true_iff] at h
 exact h
theorem zbr0 (a : ByteArray) : (⟨#[]⟩ : ByteArray) ++ a = a := ByteArray.empty_append
def j3 {α : Type} (e : α → ByteArray) : List α → ByteArray
 | [] => ⟨#[]⟩
 | x :: l => e x ++ j3 e l
def su {α : Type} (e : α → ByteArray) (l : List α) : ByteArray := ia (l.length : Nat) ++ j3 e l
theorem wy {α : Type} {e : α → ByteArray} {B : Nat} : ∀ {l : List α},(∀ x ∈ l,(e x).size = B) → (j3 e l).size = l.length * B
 | [],_ => by rw [List.length_nil,Nat.zero_mul]; rfl
 | x :: l,h => by rw [j3,ByteArray.size_append,h x (.head _),wy fun y hy => h y (.tail _ hy),List.length_cons,Nat.add_mul,Nat.one_mul,Nat.add_comm]
theorem zcao {α : Type} {e : α → ByteArray} {B : Nat} : ∀ {l : List α},(∀ x ∈ l,(e x).size ≤ B) → (j3 e l).size ≤ l.length * B
 | [],_ => Nat.zero_le _
 | x :: l,h => by
  have h1 := h x (.head _)
  have h2 := zcao fun y hy => h y (.tail _ hy)
  rw [j3,ByteArray.size_append,List.length_cons,Nat.add_mul,Nat.one_mul]
  omega
theorem rp {α : Type} (e : α → ByteArray) (l : List α) : (su e l).size = 8 + (j3 e l).size := by unfold su; rw [ByteArray.size_append,dw]
theorem zbwr {α : Type} (e : α → ByteArray) (l : List α) (i : Nat) (h : i < l.length) : j3 e (l.drop i) = e l[i] ++ j3 e (l.drop (i + 1)) := by
 rw [List.drop_eq_getElem_cons h,j3]
def zbjo {α : Type} (of : Rd → α × Rd) : Nat → Rd → List α × Rd
 | 0,r => ([],r)
 | n + 1,r => ((of r).1 :: (zbjo of n (of r).2).1,(zbjo of n (of r).2).2)
def zbj4 {α : Type} (of : Rd → α × Rd) (most : Int) (r : Rd) : List α × Rd := zbjo of (Rd.count r most).1.toNat (Rd.count r most).2
theorem zcya {α : Type} {of : Rd → α × Rd} {e : α → ByteArray} : ∀ {l : List α} (h : ∀ x ∈ l,∀ t,of ⟨e x ++ t,false⟩ = (x,⟨t,false⟩)) (t : ByteArray),zbjo of l.length ⟨j3 e l ++ t,false⟩ = (l,⟨t,false⟩)
 | [],_,t => by
  show (([] : List _),_) = _
  rw [j3,zbr0]
 | x :: l,h,t => by
  show ((of ⟨j3 e (x :: l) ++ t,false⟩).1 :: (zbjo of l.length (of ⟨j3 e (x :: l) ++ t,false⟩).2).1,(zbjo of l.length (of ⟨j3 e (x :: l) ++ t,false⟩).2).2) = _
  rw [j3,ByteArray.append_assoc,h x (.head _) (j3 e l ++ t),zcya (fun y hy => h y (.tail _ hy)) t]
theorem zb4c {α : Type} {of : Rd → α × Rd} {e : α → ByteArray} {l : List α} {most : Int} (h : ∀ x ∈ l,∀ t,of ⟨e x ++ t,false⟩ = (x,⟨t,false⟩)) (hm : (l.length : Int) ≤ most) (hl : l.length < 1000000) (t : ByteArray) : zbj4 of most ⟨su e l ++ t,false⟩ = (l,⟨t,false⟩) := by
 unfold zbj4 su
 rw [ByteArray.append_assoc,zcxv _ _ ⟨by omega,by omega⟩,if_neg (by omega)]
 show zbjo of ((l.length : Nat) : Int).toNat ⟨j3 e l ++ t,false⟩ = _
 rw [Int.toNat_natCast]
 exact zcya h t
open Go Go.RowKit Sh Ic
noncomputable def eqB {α : Type} (a b : α) : Bool := @decide (a = b) (Classical.propDecidable _)
theorem ss {α : Type} {a b : α} : eqB a b = true ↔ a = b := by unfold eqB; exact @decide_eq_true_iff _ (Classical.propDecidable _)
theorem zbl0 {α : Type} {a b : α} (h : ¬ a = b) : eqB a b = false := by rw [← Bool.not_eq_true,ss]; exact h
theorem zb8f {α : Type} (a : α) : eqB a a = true := ss.2 rfl
theorem eqL {α : Type} {f : Nat → Option (LX Unit Bool)} (a b : List α) (hl : a.length = b.length) (he : f a.length = some (.ex ()))
 (hs : ∀ k x y,a[k]? = some x → b[k]? = some y → (x = y → f k = f (k + 1)) ∧ (¬ x = y → f k = some (.rt false))) : (a = b ∧ f 0 = some (.ex ())) ∨ (¬ a = b ∧ f 0 = some (.rt false)) := by
 rcases zcfb (f := f) (N := a.length) (P := fun k => a[k]? = b[k]?) he (fun k hk p => by
  obtain ⟨x,hx⟩ := zb2k hk
  exact (hs k x x hx (by rw [← p]; exact hx)).1 rfl) (fun k hk p => by
  obtain ⟨x,hx⟩ := zb2k hk
  obtain ⟨y,hy⟩ := zb2k (show k < b.length by omega)
  exact (hs k x y hx hy).2 fun e => p (by rw [hx,hy,e])) with ⟨h1,h2⟩ | ⟨h1,j,hj,h2⟩
 · refine .inl ⟨List.ext_getElem? fun i => ?_,h1⟩
   by_cases hi : i < a.length
   · exact h2 i hi
   · rw [List.getElem?_eq_none (by omega),List.getElem?_eq_none (by omega)]
 · exact .inr ⟨fun e => h2 (by rw [e]),h1⟩
theorem zb60 (a b : List ByteArray) (ha : a.length < 1000000) : cj a b = some (eqB a b) := by
 unfold cj
 by_cases hl : a.length = b.length
 · rw [if_pos (by omega)]
   rcases eqL (f := fun k => bf a b (a.length : Nat) (k : Int)) a b hl (by
    show bf a b (a.length : Nat) ((a.length : Nat) : Int) = _
    rw [ju,bh,if_neg (by omega),obz,LS.go]) (fun k x y hx hy => by
    have h1 := zbwe hx
    have h2 := zbwe hy
    constructor
    · intro e
      show bf a b (a.length : Nat) (k : Int) = bf a b (a.length : Nat) ((k + 1 : Nat) : Int)
      rw [ju,bh,if_pos (by omega),h1.2,obz,h2.2,obz,if_pos e,obz,LS.go,za53 k (by omega)]
    · intro e
      show bf a b (a.length : Nat) (k : Int) = _
      rw [ju,bh,if_pos (by omega),h1.2,obz,h2.2,obz,if_neg e,obz,LS.go]) with ⟨e,h⟩ | ⟨e,h⟩
   · have h : bf a b (a.length : Nat) 0 = _ := h
     rw [h,obz,ss.2 e]
   · have h : bf a b (a.length : Nat) 0 = _ := h
     rw [h,obz,zbl0 e]
 · rw [if_neg (by omega),zbl0 fun e => hl (by rw [e])]
theorem zcfj (a b : List Int) (ha : a.length < 1000000) : ij a b = some (eqB a b) := by
 unfold ij
 by_cases hl : a.length = b.length
 · rw [if_pos (by omega)]
   rcases eqL (f := fun k => bw a b (a.length : Nat) (k : Int)) a b hl (by
    show bw a b (a.length : Nat) ((a.length : Nat) : Int) = _
    rw [m6,bv,if_neg (by omega),obz,LS.go]) (fun k x y hx hy => by
    have h1 := zbwe hx
    have h2 := zbwe hy
    constructor
    · intro e
      show bw a b (a.length : Nat) (k : Int) = bw a b (a.length : Nat) ((k + 1 : Nat) : Int)
      rw [m6,bv,if_pos (by omega),h1.2,obz,h2.2,obz,if_pos e,obz,LS.go,za53 k (by omega)]
    · intro e
      show bw a b (a.length : Nat) (k : Int) = _
      rw [m6,bv,if_pos (by omega),h1.2,obz,h2.2,obz,if_neg e,obz,LS.go]) with ⟨e,h⟩ | ⟨e,h⟩
   · have h : bw a b (a.length : Nat) 0 = _ := h
     rw [h,obz,ss.2 e]
   · have h : bw a b (a.length : Nat) 0 = _ := h
     rw [h,obz,zbl0 e]
 · rw [if_neg (by omega),zbl0 fun e => hl (by rw [e])]
theorem zb67 {d e : ByteArray} : (d == e) = true ↔ d = e := by
 constructor
 · intro h
   have h : (d.data == e.data) = true := h
   exact ByteArray.ext (by simpa using h)
 · intro h
   subst h
   show (d.data == d.data) = true
   simp
theorem zbzc {x y : af} : ((x.From == y.From) && ((x.To == y.To) && ((x.Ledger == y.Ledger) && ((x.Asset == y.Asset) && (x.Amount == y.Amount))))) = true ↔ x = y := by
 obtain ⟨a,b,c,d,e⟩ := x
 obtain ⟨a',b',c',d',e'⟩ := y
 simp only [Bool.and_eq_true,beq_iff_eq,zb67,af.mk.injEq]
theorem zcfk (a b : List af) (ha : a.length < 1000000) : dz a b = some (eqB a b) := by
 unfold dz
 by_cases hl : a.length = b.length
 · rw [if_pos (by omega)]
   rcases eqL (f := fun k => ba a b (a.length : Nat) (k : Int)) a b hl (by
    show ba a b (a.length : Nat) ((a.length : Nat) : Int) = _
    rw [ip,bc,if_neg (by omega),obz,LS.go]) (fun k x y hx hy => by
    have h1 := zbwe hx
    have h2 := zbwe hy
    constructor
    · intro e
      show ba a b (a.length : Nat) (k : Int) = ba a b (a.length : Nat) ((k + 1 : Nat) : Int)
      rw [ip,bc,if_pos (by omega),h1.2,obz,h2.2,obz,if_pos (zbzc.2 e),obz,LS.go,za53 k (by omega)]
    · intro e
      show ba a b (a.length : Nat) (k : Int) = _
      rw [ip,bc,if_pos (by omega),h1.2,obz,h2.2,obz,if_neg (fun h => e (zbzc.1 h)),obz,LS.go]) with ⟨e,h⟩ | ⟨e,h⟩
   · have h : ba a b (a.length : Nat) 0 = _ := h
     rw [h,obz,ss.2 e]
   · have h : ba a b (a.length : Nat) 0 = _ := h
     rw [h,obz,zbl0 e]
 · rw [if_neg (by omega),zbl0 fun e => hl (by rw [e])]
theorem zbn8 (x y : ac) (h : x.Keys.length < 1000000) : ur x y = some (eqB x y) := by
 unfold ur
 obtain ⟨a,k⟩ := x
 obtain ⟨b,l⟩ := y
 show (if a = b then cj k l >>= fun y2 => some y2 else some false) = _
 by_cases e : a = b
 · subst e
   rw [if_pos rfl,zb60 k l h,obz]
   by_cases f : k = l
   · rw [f,zb8f,zb8f]
   · rw [zbl0 f,zbl0 fun g => f (by injection g)]
 · rw [if_neg e,zbl0 fun g => e (by injection g)]
theorem zcfi (a b : List ac) (ha : a.length < 1000000) (hk : ∀ p ∈ a,p.Keys.length < 1000000) : ax a b = some (eqB a b) := by
 unfold ax
 by_cases hl : a.length = b.length
 · rw [if_pos (by omega)]
   rcases eqL (f := fun k => aj b a (a.length : Nat) (k : Int)) a b hl (by
    show aj b a (a.length : Nat) ((a.length : Nat) : Int) = _
    rw [bz,am,if_neg (by omega),obz,LS.go]) (fun k x y hx hy => by
    have h1 := zbwe hx
    have h2 := zbwe hy
    have h3 := hk x (List.mem_of_getElem? hx)
    constructor
    · intro e
      show aj b a (a.length : Nat) (k : Int) = aj b a (a.length : Nat) ((k + 1 : Nat) : Int)
      rw [bz,am,if_pos (by omega),h1.2,obz,h2.2,obz,zbn8 _ _ h3,obz,if_pos (ss.2 e),obz,LS.go,za53 k (by omega)]
    · intro e
      show aj b a (a.length : Nat) (k : Int) = _
      rw [bz,am,if_pos (by omega),h1.2,obz,h2.2,obz,zbn8 _ _ h3,obz,if_neg (fun h => e (ss.1 h)),obz,LS.go]) with ⟨e,h⟩ | ⟨e,h⟩
   · have h : aj b a (a.length : Nat) 0 = _ := h
     rw [h,obz,ss.2 e]
   · have h : aj b a (a.length : Nat) 0 = _ := h
     rw [h,obz,zbl0 e]
 · rw [if_neg (by omega),zbl0 fun e => hl (by rw [e])]
structure zc31 (s : aq) : Prop where
 p : s.Parties.length < 1000000
 k : ∀ p ∈ s.Parties,p.Keys.length < 1000000
 a : s.Arcs.length < 1000000
 l : s.Leaders.length < 1000000
 o : s.Locks.length < 1000000
theorem Ok.lens {s : aq} (h : Ok s) : zc31 s := ⟨by have := h.np; omega,fun p hp => by
 have e := h.parties p hp
 unfold zbj5 at e
 rw [Bool.and_eq_true,zb4s] at e
 have := h.nl
 omega,by have := h.na; omega,by have := h.nl; omega,by have := h.nl; have := h.locks.1; omega⟩
theorem zbx0 (x y : aq) (h : zc31 x) : xv x y = some (eqB x y) := by
 unfold xv
 have no : ∀ {P : Prop},¬ P → (x = y → P) → eqB x y = false := fun h g => zbl0 fun e => h (g e)
 by_cases c1 : x.ID = y.ID
 rotate_left
 · rw [if_neg c1,no c1 fun e => by rw [e]]
 rw [if_pos c1,zcfi _ _ h.p h.k,obz]
 by_cases c2 : x.Parties = y.Parties
 rotate_left
 · rw [if_neg (fun g => c2 (ss.1 g)),no c2 fun e => by rw [e]]
 rw [if_pos (ss.2 c2),zcfk _ _ h.a,obz]
 by_cases c3 : x.Arcs = y.Arcs
 rotate_left
 · rw [if_neg (fun g => c3 (ss.1 g)),no c3 fun e => by rw [e]]
 rw [if_pos (ss.2 c3),zcfj _ _ h.l,obz]
 by_cases c4 : x.Leaders = y.Leaders
 rotate_left
 · rw [if_neg (fun g => c4 (ss.1 g)),no c4 fun e => by rw [e]]
 rw [if_pos (ss.2 c4),zb60 _ _ h.o,obz]
 by_cases c5 : x.Locks = y.Locks
 rotate_left
 · rw [if_neg (fun g => c5 (ss.1 g)),no c5 fun e => by rw [e]]
 rw [if_pos (ss.2 c5)]
 by_cases c6 : x.Start = y.Start
 rotate_left
 · rw [if_neg c6,no c6 fun e => by rw [e]]
 rw [if_pos c6]
 by_cases c7 : x.Delta = y.Delta
 rotate_left
 · rw [decide_eq_false c7,no c7 fun e => by rw [e]]
 rw [decide_eq_true c7,ss.2]
 cases x; cases y
 simp only at c1 c2 c3 c4 c5 c6 c7
 rw [c1,c2,c3,c4,c5,c6,c7]
def zbjw (p : ac) : ByteArray := iz p.Account ++ su iz p.Keys
def zbjn (a : af) : ByteArray := ia a.From ++ ia a.To ++ ia a.Ledger ++ iz a.Asset ++ ia a.Amount
def ENC (s : aq) : ByteArray := iz s.ID ++ su zbjw s.Parties ++ su zbjn s.Arcs ++ su ia s.Leaders ++ su iz s.Locks ++ ia s.Start ++ ia s.Delta
theorem zb1k (l : List ByteArray) (hl : l.length < 1000000) (hs : ∀ x ∈ l,x.size ≤ 140737488355328) (n : Nat) : ∀ (i : Nat) (acc : ByteArray),n + i = l.length → acc.size + (j3 iz (l.drop i)).size ≤ 140737488355328 →
 jh l (l.length : Nat) acc (i : Int) = some (acc ++ j3 iz (l.drop i)) := by
 induction n with
 | zero =>
  intro i acc h _
  rw [za,dg,if_neg (by omega),obz,LS.go,List.drop_of_length_le (by omega)]
  exact congrArg some (zb5e acc).symm
 | succ n ih =>
  intro i acc h hb
  have hi : i < l.length := by omega
  rw [zbwr _ _ _ hi,ByteArray.size_append] at hb
  rw [za,dg,if_pos (by omega),zbme hi,obz,zb9w _ (hs _ (List.getElem_mem hi)),obz,if_pos (by omega),obz,LS.go,za53 i (by omega),zbwr _ _ _ hi,← ByteArray.append_assoc]
  exact ih (i + 1) _ (by omega) (by rw [ByteArray.size_append]; omega)
theorem zbqy (l : List ByteArray) (hl : l.length < 1000000) (hs : ∀ x ∈ l,x.size ≤ 140737488355328) (hb : (su iz l).size ≤ 140737488355328) : jy l = some (su iz l) := by
 rw [rp] at hb
 have e := zb1k l hl hs l.length 0 (ia (l.length : Nat)) rfl (by rw [dw]; exact hb)
 have e : jh l (l.length : Nat) (ia (l.length : Nat)) 0 = some (ia (l.length : Nat) ++ j3 iz (l.drop 0)) := e
 unfold jy
 rw [zblx,obz,if_pos (by rw [dw]; omega),e,obz,List.drop_zero,if_pos (by rw [ByteArray.size_append,dw]; exact hb)]
 rfl
theorem zb1n (l : List Int) (hl : l.length < 1000000) (n : Nat) : ∀ (i : Nat) (acc : ByteArray),n + i = l.length → acc.size + (j3 ia (l.drop i)).size ≤ 140737488355328 →
 me l (l.length : Nat) acc (i : Int) = some (acc ++ j3 ia (l.drop i)) := by
 induction n with
 | zero =>
  intro i acc h _
  rw [zcwg,eg,if_neg (by omega),obz,LS.go,List.drop_of_length_le (by omega)]
  exact congrArg some (zb5e acc).symm
 | succ n ih =>
  intro i acc h hb
  have hi : i < l.length := by omega
  rw [zbwr _ _ _ hi,ByteArray.size_append] at hb
  rw [zcwg,eg,if_pos (by omega),zbme hi,obz,zblx,obz,if_pos (by omega),obz,LS.go,za53 i (by omega),zbwr _ _ _ hi,← ByteArray.append_assoc]
  exact ih (i + 1) _ (by omega) (by rw [ByteArray.size_append]; omega)
theorem zb1o (l : List Int) (hl : l.length < 1000000) : qj l = some (su ia l) := by
 have z := wy (e := ia) (B := 8) (l := l) fun _ _ => rfl
 have e := zb1n l hl l.length 0 (ia (l.length : Nat)) rfl (by rw [dw,List.drop_zero,z]; omega)
 have e : me l (l.length : Nat) (ia (l.length : Nat)) 0 = some (ia (l.length : Nat) ++ j3 ia (l.drop 0)) := e
 unfold qj
 rw [zblx,obz,if_pos (by rw [dw]; omega),e,obz,List.drop_zero,if_pos (by rw [ByteArray.size_append,dw,z]; omega)]
 rfl
theorem zceo {p : ac} {n : Int} (h : zbj5 n p = true) (hn : n ≤ 3) : (su iz p.Keys).size ≤ 80 ∧ p.Account.size ≤ 16 ∧ p.Keys.length ≤ 3 ∧ ∀ x ∈ p.Keys,x.size = 16 := by
 unfold zbj5 at h
 rw [Bool.and_eq_true,zb4s,zb3e] at h
 have z := wy (e := iz) (B := 24) (l := p.Keys) fun x hx => by rw [ma]; have := h.2.2 x hx; omega
 exact ⟨by rw [rp,z]; omega,by omega,by omega,fun x hx => by have := h.2.2 x hx; omega⟩
theorem zc2y (p : ac) : (zbjw p).size = 8 + p.Account.size + (su iz p.Keys).size := by unfold zbjw; rw [ByteArray.size_append,ma]
theorem zbv0 (p : ac) (n : Int) (h : zbj5 n p = true) (hn : n ≤ 3) : sm p = some (zbjw p) := by
 have z := zceo h hn
 unfold sm
 rw [zb9w _ (by omega),obz,zbqy _ (by omega) (fun x hx => by have := z.2.2.2 x hx; omega) (by omega),obz,if_pos (by rw [ma]; omega)]
 rfl
theorem zb1l (l : List ac) (m : Int) (hm : m ≤ 3) (hl : l.length < 1000000) (hs : ∀ x ∈ l,zbj5 m x = true) (n : Nat) : ∀ (i : Nat) (acc : ByteArray),n + i = l.length → acc.size + (j3 zbjw (l.drop i)).size ≤ 140737488355328 →
 gu l (l.length : Nat) acc (i : Int) = some (acc ++ j3 zbjw (l.drop i)) := by
 induction n with
 | zero =>
  intro i acc h _
  rw [t8,ca,if_neg (by omega),obz,LS.go,List.drop_of_length_le (by omega)]
  exact congrArg some (zb5e acc).symm
 | succ n ih =>
  intro i acc h hb
  have hi : i < l.length := by omega
  rw [zbwr _ _ _ hi,ByteArray.size_append] at hb
  rw [t8,ca,if_pos (by omega),zbme hi,obz,zbv0 _ m (hs _ (List.getElem_mem hi)) hm,obz,if_pos (by omega),obz,LS.go,za53 i (by omega),zbwr _ _ _ hi,← ByteArray.append_assoc]
  exact ih (i + 1) _ (by omega) (by rw [ByteArray.size_append]; omega)
theorem zchx {l : List ac} {m : Int} (hm : m ≤ 3) (hs : ∀ x ∈ l,zbj5 m x = true) : (j3 zbjw l).size ≤ l.length * 104 :=
 zcao fun x hx => by
  have z := zceo (hs x hx) hm
  rw [zc2y]; omega
theorem zb1m (l : List ac) (m : Int) (hm : m ≤ 3) (hl : l.length < 1000000) (hs : ∀ x ∈ l,zbj5 m x = true) : ji l = some (su zbjw l) := by
 have z := zchx hm hs
 have e := zb1l l m hm hl hs l.length 0 (ia (l.length : Nat)) rfl (by rw [dw,List.drop_zero]; omega)
 have e : gu l (l.length : Nat) (ia (l.length : Nat)) 0 = some (ia (l.length : Nat) ++ j3 zbjw (l.drop 0)) := e
 unfold ji
 rw [zblx,obz,if_pos (by rw [dw]; omega),e,obz,List.drop_zero,if_pos (by rw [ByteArray.size_append,dw]; omega)]
 rfl
theorem zc2x (a : af) : (zbjn a).size = 40 + a.Asset.size := by
 unfold zbjn
 simp only [ByteArray.size_append,dw,ma]
 omega
theorem zbv1 (a : af) (h : a.Asset.size ≤ 1000000) : sj a = some (zbjn a) := by
 unfold sj
 rw [zblx,obz,zblx,obz,if_pos (by simp only [ByteArray.size_append,dw]; omega),zblx,obz,if_pos (by simp only [ByteArray.size_append,dw]; omega),zb9w _ (by omega),obz,if_pos (by simp only [ByteArray.size_append,dw,ma]; omega),zblx,obz,if_pos (by simp only [ByteArray.size_append,dw,ma]; omega)]
 rfl
theorem zcbe {n : Int} {a : af} (h : zbjl n a = true) : a.Asset.size ≤ 16 := by
 unfold zbjl at h
 simp only [Bool.and_eq_true,zb3e] at h
 omega
theorem zb1p (l : List af) (m : Int) (hl : l.length < 1000000) (hs : ∀ x ∈ l,zbjl m x = true) (n : Nat) : ∀ (i : Nat) (acc : ByteArray),n + i = l.length → acc.size + (j3 zbjn (l.drop i)).size ≤ 140737488355328 →
 ie l (l.length : Nat) acc (i : Int) = some (acc ++ j3 zbjn (l.drop i)) := by
 induction n with
 | zero =>
  intro i acc h _
  rw [wq,db,if_neg (by omega),obz,LS.go,List.drop_of_length_le (by omega)]
  exact congrArg some (zb5e acc).symm
 | succ n ih =>
  intro i acc h hb
  have hi : i < l.length := by omega
  have hz := zcbe (hs _ (List.getElem_mem hi))
  rw [zbwr _ _ _ hi,ByteArray.size_append] at hb
  rw [wq,db,if_pos (by omega),zbme hi,obz,zbv1 _ (by show l[i].Asset.size ≤ _; omega),obz,if_pos (by show acc.size + (zbjn l[i]).size ≤ _; omega),obz,LS.go,za53 i (by omega),zbwr _ _ _ hi,← ByteArray.append_assoc]
  exact ih (i + 1) _ (by omega) (by show (acc ++ zbjn l[i]).size + _ ≤ _; rw [ByteArray.size_append]; omega)
theorem zchw {l : List af} {m : Int} (hs : ∀ x ∈ l,zbjl m x = true) : (j3 zbjn l).size ≤ l.length * 56 :=
 zcao fun x hx => by
  have z := zcbe (hs x hx)
  rw [zc2x]; omega
theorem zb1q (l : List af) (m : Int) (hl : l.length < 1000000) (hs : ∀ x ∈ l,zbjl m x = true) : ku l = some (su zbjn l) := by
 have z := zchw hs
 have e := zb1p l m hl hs l.length 0 (ia (l.length : Nat)) rfl (by rw [dw,List.drop_zero]; omega)
 have e : ie l (l.length : Nat) (ia (l.length : Nat)) 0 = some (ia (l.length : Nat) ++ j3 zbjn (l.drop 0)) := e
 unfold ku
 rw [zblx,obz,if_pos (by rw [dw]; omega),e,obz,List.drop_zero,if_pos (by rw [ByteArray.size_append,dw]; omega)]
 rfl
noncomputable def zbto (s : aq) : ByteArray := if okS s = true then ENC s else ⟨#[]⟩
theorem zbse (s : aq) (hw : Wf s) : ua s = some (zbto s) := by
 unfold ua zbto
 rw [zb90 s hw,obz]
 by_cases h0 : okS s = true
 rotate_left
 · rw [if_neg h0,if_neg h0]
 rw [if_pos h0,if_pos h0]
 have h := zb1h.1 h0
 have h1 := (zb3e.1 h.id).2
 have h2 := h.np
 have h3 := h.nl
 have h4 := h.na
 have h5 := h.locks
 have z2 := zchx (m := (s.Leaders.length : Nat)) (by omega) h.parties
 have z3 := zchw h.arcs
 have z4 := wy (e := ia) (B := 8) (l := s.Leaders) fun _ _ => rfl
 have z5 := wy (e := iz) (B := 40) (l := s.Locks) fun x hx => by rw [ma,h5.2 x hx]
 have y2 := rp zbjw s.Parties
 have y3 := rp zbjn s.Arcs
 have y4 := rp ia s.Leaders
 have y5 := rp iz s.Locks
 have y1 := ma s.ID
 rw [zb9w _ (by omega),obz,zb1m _ (s.Leaders.length : Nat) (by omega) (by omega) h.parties,obz,if_pos (by omega),zb1q _ _ (by omega) h.arcs,obz,if_pos (by simp only [ByteArray.size_append]; omega),zb1o _ (by omega),obz,if_pos (by simp only [ByteArray.size_append]; omega),
  zbqy _ (by omega) (fun x hx => by have := h5.2 x hx; omega) (by omega),obz,if_pos (by simp only [ByteArray.size_append]; omega),zblx,obz,if_pos (by simp only [ByteArray.size_append,dw]; omega),zblx,obz,if_pos (by simp only [ByteArray.size_append,dw]; omega)]
 rfl
open Go Go.RowKit Sh Ic
def zbfz (r : Rd) : ByteArray × Rd := Rd.text r 1048576
theorem zb91 (r : Rd) : m5 r = some (zbfz r) := by
 unfold m5
 rw [zb5t,obz]; rfl
theorem zbvg (c : Int) (hc : c ≤ 1000) (n : Nat) : ∀ (i : Nat) (r : Rd) (acc : List ByteArray),(n : Int) + i = c → acc.length ≤ i →
 gp c r acc (i : Int) = some (acc ++ (zbjo zbfz n r).1,(zbjo zbfz n r).2) := by
 induction n with
 | zero =>
  intro i r acc h _
  rw [wu,dc,if_neg (by omega),obz,LS.go]
  show some (acc,r) = some (acc ++ [],r)
  rw [List.append_nil]
 | succ n ih =>
  intro i r acc h ha
  rw [wu,dc,if_pos (by omega),zb91,obz,if_pos (by omega),obz,LS.go,za53 i (by omega)]
  show gp c (zbfz r).2 (acc ++ [(zbfz r).1]) ((i + 1 : Nat) : Int) = _
  rw [ih (i + 1) _ _ (by omega) (by rw [List.length_append,List.length_singleton]; omega),List.append_assoc]
  rfl
theorem zchl (r : Rd) (most : Int) (h0 : 0 ≤ most) (h1 : most ≤ 1000) : ix r most = some (zbj4 zbfz most r) := by
 have z := zb8d r most h0
 have e := zbvg (Rd.count r most).1 (by omega) (Rd.count r most).1.toNat 0 (Rd.count r most).2 [] (by omega) (Nat.le_refl _)
 have e : gp (Rd.count r most).1 (Rd.count r most).2 [] 0 = _ := e
 unfold ix
 rw [zb5h,obz,e,obz]
 rfl
def zbpl (r : Rd) : ac × Rd := (⟨(zbfz r).1,(zbj4 zbfz 3 (zbfz r).2).1⟩,(zbj4 zbfz 3 (zbfz r).2).2)
theorem zb1c (r : Rd) : uu r = some (zbpl r) := by
 unfold uu
 rw [zb91,obz,zchl _ _ (by decide) (by decide),obz]; rfl
theorem zbvh (c : Int) (hc : c ≤ 1000) (n : Nat) : ∀ (i : Nat) (r : Rd) (acc : List ac),(n : Int) + i = c → acc.length ≤ i →
 eh c r acc (i : Int) = some (acc ++ (zbjo zbpl n r).1,(zbjo zbpl n r).2) := by
 induction n with
 | zero =>
  intro i r acc h _
  rw [ta,b7,if_neg (by omega),obz,LS.go]
  show some (acc,r) = some (acc ++ [],r)
  rw [List.append_nil]
 | succ n ih =>
  intro i r acc h ha
  rw [ta,b7,if_pos (by omega),zb1c,obz,if_pos (by omega),obz,LS.go,za53 i (by omega)]
  show eh c (zbpl r).2 (acc ++ [(zbpl r).1]) ((i + 1 : Nat) : Int) = _
  rw [ih (i + 1) _ _ (by omega) (by rw [List.length_append,List.length_singleton]; omega),List.append_assoc]
  rfl
theorem zbvi (r : Rd) (most : Int) (h0 : 0 ≤ most) (h1 : most ≤ 1000) : ig r most = some (zbj4 zbpl most r) := by
 have z := zb8d r most h0
 have e := zbvh (Rd.count r most).1 (by omega) (Rd.count r most).1.toNat 0 (Rd.count r most).2 [] (by omega) (Nat.le_refl _)
 have e : eh (Rd.count r most).1 (Rd.count r most).2 [] 0 = _ := e
 unfold ig
 rw [zb5h,obz,e,obz]
 rfl
def zbsp (r : Rd) : af × Rd :=
 (⟨(Rd.num r).1,(Rd.num (Rd.num r).2).1,(Rd.num (Rd.num (Rd.num r).2).2).1,(zbfz (Rd.num (Rd.num (Rd.num r).2).2).2).1,(Rd.num (zbfz (Rd.num (Rd.num (Rd.num r).2).2).2).2).1⟩,(Rd.num (zbfz (Rd.num (Rd.num (Rd.num r).2).2).2).2).2)
theorem zb1b (r : Rd) : ut r = some (zbsp r) := by
 unfold ut
 rw [zbwu,obz,zbwu,obz,zbwu,obz,zb91,obz,zbwu,obz]; rfl
theorem zbvl (c : Int) (hc : c ≤ 1000) (n : Nat) : ∀ (i : Nat) (r : Rd) (acc : List af),(n : Int) + i = c → acc.length ≤ i →
 f0 c r acc (i : Int) = some (acc ++ (zbjo zbsp n r).1,(zbjo zbsp n r).2) := by
 induction n with
 | zero =>
  intro i r acc h _
  rw [vb,ch,if_neg (by omega),obz,LS.go]
  show some (acc,r) = some (acc ++ [],r)
  rw [List.append_nil]
 | succ n ih =>
  intro i r acc h ha
  rw [vb,ch,if_pos (by omega),zb1b,obz,if_pos (by omega),obz,LS.go,za53 i (by omega)]
  show f0 c (zbsp r).2 (acc ++ [(zbsp r).1]) ((i + 1 : Nat) : Int) = _
  rw [ih (i + 1) _ _ (by omega) (by rw [List.length_append,List.length_singleton]; omega),List.append_assoc]
  rfl
theorem zbvm (r : Rd) (most : Int) (h0 : 0 ≤ most) (h1 : most ≤ 1000) : kd r most = some (zbj4 zbsp most r) := by
 have z := zb8d r most h0
 have e := zbvl (Rd.count r most).1 (by omega) (Rd.count r most).1.toNat 0 (Rd.count r most).2 [] (by omega) (Nat.le_refl _)
 have e : f0 (Rd.count r most).1 (Rd.count r most).2 [] 0 = _ := e
 unfold kd
 rw [zb5h,obz,e,obz]
 rfl
theorem zbvj (c : Int) (hc : c ≤ 1000) (n : Nat) : ∀ (i : Nat) (r : Rd) (acc : List Int),(n : Int) + i = c → acc.length ≤ i →
 iy c r acc (i : Int) = some (acc ++ (zbjo Rd.num n r).1,(zbjo Rd.num n r).2) := by
 induction n with
 | zero =>
  intro i r acc h _
  rw [zcxk,dy,if_neg (by omega),obz,LS.go]
  show some (acc,r) = some (acc ++ [],r)
  rw [List.append_nil]
 | succ n ih =>
  intro i r acc h ha
  rw [zcxk,dy,if_pos (by omega),zbwu,obz,if_pos (by omega),obz,LS.go,za53 i (by omega)]
  show iy c (Rd.num r).2 (acc ++ [(Rd.num r).1]) ((i + 1 : Nat) : Int) = _
  rw [ih (i + 1) _ _ (by omega) (by rw [List.length_append,List.length_singleton]; omega),List.append_assoc]
  rfl
theorem zbvk (r : Rd) (most : Int) (h0 : 0 ≤ most) (h1 : most ≤ 1000) : o6 r most = some (zbj4 Rd.num most r) := by
 have z := zb8d r most h0
 have e := zbvj (Rd.count r most).1 (by omega) (Rd.count r most).1.toNat 0 (Rd.count r most).2 [] (by omega) (Nat.le_refl _)
 have e : iy (Rd.count r most).1 (Rd.count r most).2 [] 0 = _ := e
 unfold o6
 rw [zb5h,obz,e,obz]
 rfl
def zblt (r : Rd) : aq × Rd :=
 let x1 := zbfz r
 let x2 := zbj4 zbpl 6 x1.2
 let x3 := zbj4 zbsp 12 x2.2
 let x4 := zbj4 Rd.num 3 x3.2
 let x5 := zbj4 zbfz 3 x4.2
 let x6 := Rd.num x5.2
 let x7 := Rd.num x6.2
 (⟨x1.1,x2.1,x3.1,x4.1,x5.1,x6.1,x7.1⟩,x7.2)
def zbwy : aq := ⟨⟨#[]⟩,[],[],[],[],0,0⟩
noncomputable def zb2r (b : ByteArray) : aq × Int :=
 if (zblt ⟨b,false⟩).2.bad_ = true ∨ 0 < (zblt ⟨b,false⟩).2.s_.size ∨ ¬ okS (zblt ⟨b,false⟩).1 = true then (zbwy,2) else ((zblt ⟨b,false⟩).1,0)
theorem zc13 : ∀ (n : Nat) (r : Rd),∀ v ∈ (zbjo Rd.num n r).1,j7 v = true
 | 0,_,v,h => by cases h
 | n + 1,r,v,h => by
  have h : v ∈ (Rd.num r).1 :: (zbjo Rd.num n (Rd.num r).2).1 := h
  rw [List.mem_cons] at h
  rcases h with rfl | h
  · exact zcib _
  · exact zc13 n _ v h
theorem zbqz (r : Rd) (m : Int) : ∀ v ∈ (zbj4 Rd.num m r).1,j7 v = true := fun v h => zc13 _ _ v h
theorem zbyl (r : Rd) : j7 (Rd.num r).1 = true := zcib _
section
attribute [local irreducible] Rd.num zbj4 zbfz zbpl zbsp j7
theorem zbnw (r : Rd) : Wf (zblt r).1 := ⟨fun v h => zbqz _ _ v h,zbyl _,zbyl _⟩
theorem zbow (b : ByteArray) : t9 b = some (zb2r b) := by
 have w := zbnw ⟨b,false⟩
 unfold t9 zb2r
 rw [show zb4x b = some (⟨b,false⟩ : Rd) from rfl,obz,zb91,obz,zbvi _ _ (by decide) (by decide),obz,zbvm _ _ (by decide) (by decide),obz,zbvk _ _ (by decide) (by decide),obz,zchl _ _ (by decide) (by decide),obz,zbwu,obz,zbwu,obz]
 show (some (zblt ⟨b,false⟩).2.bad_ >>= fun y17 => if y17 = true then some (zbwy,(2 : Int)) else some ((((zblt ⟨b,false⟩).2.s_.size : Nat) : Int)) >>= fun y20 => if (0 : Int) < y20 then some (zbwy,(2 : Int)) else l5 (zblt ⟨b,false⟩).1 >>= fun y23 => if y23 = true then some ((zblt ⟨b,false⟩).1,(0 : Int)) else some (zbwy,(2 : Int))) = _
 generalize zblt ⟨b,false⟩ = q at w ⊢
 rw [obz]
 by_cases c1 : q.2.bad_ = true
 · rw [if_pos c1,if_pos (.inl c1)]
 rw [if_neg c1,obz]
 by_cases c2 : 0 < q.2.s_.size
 · rw [if_pos (by omega),if_pos (.inr (.inl c2))]
 rw [if_neg (by omega),zb90 _ w,obz]
 by_cases c3 : okS q.1 = true
 · rw [if_pos c3,if_neg (fun h => h.elim c1 fun h => h.elim c2 fun h => h c3)]
 · rw [if_neg c3,if_pos (.inr (.inr c3))]
end
theorem zb4n (s t : ByteArray) (h : s.size ≤ 1048576) : zbfz ⟨iz s ++ t,false⟩ = (s,⟨t,false⟩) := by
 unfold zbfz
 rw [zbup s 1048576 (by omega) t,if_neg (by omega)]
theorem zbu5 (p : ac) (n : Int) (hn : n ≤ 3) (h : zbj5 n p = true) (t : ByteArray) : zbpl ⟨zbjw p ++ t,false⟩ = (p,⟨t,false⟩) := by
 have z := zceo h hn
 have e1 := zb4n p.Account (su iz p.Keys ++ t) (by omega)
 have e2 : zbj4 zbfz 3 ⟨su iz p.Keys ++ t,false⟩ = (p.Keys,⟨t,false⟩) := zb4c (fun x hx t => zb4n x t (by have := z.2.2.2 x hx; omega)) (by omega) (by omega) t
 unfold zbpl zbjw
 rw [ByteArray.append_assoc,e1,e2]
theorem zbv5 (a : af) (n : Int) (hn : n ≤ 6) (h : zbjl n a = true) (t : ByteArray) : zbsp ⟨zbjn a ++ t,false⟩ = (a,⟨t,false⟩) := by
 have z := zcbe h
 unfold zbjl at h
 simp only [Bool.and_eq_true,yj] at h
 have e0 := zbwk a.From ⟨by omega,by omega⟩ (ia a.To ++ (ia a.Ledger ++ (iz a.Asset ++ (ia a.Amount ++ t))))
 have e1 := zbwk a.To ⟨by omega,by omega⟩ (ia a.Ledger ++ (iz a.Asset ++ (ia a.Amount ++ t)))
 have e2 := zbwk a.Ledger ⟨by omega,by omega⟩ (iz a.Asset ++ (ia a.Amount ++ t))
 have e3 := zb4n a.Asset (ia a.Amount ++ t) (by omega)
 have e4 := zbwk a.Amount ⟨by omega,by omega⟩ t
 unfold zbsp zbjn
 rw [ByteArray.append_assoc,ByteArray.append_assoc,ByteArray.append_assoc,ByteArray.append_assoc,e0,e1,e2,e3,e4]
theorem zbnx (s : aq) (h : Ok s) (hw : Wf s) (t : ByteArray) : zblt ⟨ENC s ++ t,false⟩ = (s,⟨t,false⟩) := by
 have h1 := (zb3e.1 h.id).2
 have h2 := h.np
 have h3 := h.nl
 have h4 := h.na
 have h5 := h.locks
 have e1 := fun t => zb4n s.ID t (by omega)
 have e2 := fun t => zb4c (of := zbpl) (e := zbjw) (l := s.Parties) (most := 6) (fun x hx t => zbu5 x _ (by omega) (h.parties x hx) t) (by omega) (by omega) t
 have e3 := fun t => zb4c (of := zbsp) (e := zbjn) (l := s.Arcs) (most := 12) (fun x hx t => zbv5 x _ (by omega) (h.arcs x hx) t) (by omega) (by omega) t
 have e4 := fun t => zb4c (of := Rd.num) (e := ia) (l := s.Leaders) (most := 3) (fun x hx t => zbwk x (zbri (hw.leads x hx)) t) (by omega) (by omega) t
 have e5 := fun t => zb4c (of := zbfz) (e := iz) (l := s.Locks) (most := 3) (fun x hx t => zb4n x t (by have := h5.2 x hx; omega)) (by omega) (by omega) t
 have e6 := fun t => zbwk s.Start (zbri hw.start) t
 have e7 := fun t => zbwk s.Delta (zbri hw.delta) t
 unfold zblt ENC
 rw [ByteArray.append_assoc,ByteArray.append_assoc,ByteArray.append_assoc,ByteArray.append_assoc,ByteArray.append_assoc,ByteArray.append_assoc,e1]
 dsimp only
 rw [e2]
 dsimp only
 rw [e3]
 dsimp only
 rw [e4]
 dsimp only
 rw [e5]
 dsimp only
 rw [e6]
 dsimp only
 rw [e7]
theorem zbwa (s : aq) (h : Ok s) (hw : Wf s) : zb2r (ENC s) = (s,0) := by
 have e := zbnx s h hw ⟨#[]⟩
 rw [zb5e] at e
 unfold zb2r
 rw [e]
 exact if_neg fun g => g.elim (fun g => by cases g) fun g => g.elim (fun g => by cases g) fun g => g (zb4f h)
theorem zc0o (s : aq) (h : Ok s) (hw : Wf s) : zb2r (zbto s) = (s,0) := by
 unfold zbto
 rw [if_pos (zb4f h)]
 exact zbwa s h hw
theorem zbv9 : zb2r ⟨#[]⟩ = (zbwy,2) := by
 unfold zb2r
 exact if_pos (.inl (by decide +kernel))
theorem zbux : okS zbwy = false := pb fun h => absurd h.id (by decide)
theorem zbuw : Wf zbwy := ⟨fun v h => (by cases h),(by decide),(by decide)⟩
open Go Go.RowKit Sh Ic
def zblf (k : Nat) : ByteArray := (⟨#[48,49,50,51,52,53,54,55,56,57]⟩ : ByteArray).extract k (k + 1)
def zbj8 (k : Nat) : ByteArray := (⟨#[112,97,114,116,121]⟩ : ByteArray) ++ zblf k
def zb96 (k : Nat) : ByteArray := (⟨#[115,101,99,114,101,116]⟩ : ByteArray) ++ zblf k
def j4 (k : Nat) : ByteArray := (⟨#[115,101,101,100]⟩ : ByteArray) ++ zblf k
theorem zb3c (k : Nat) (h : k < 10) : (zblf k).size = 1 := by
 unfold zblf
 rw [ByteArray.size_extract]
 show min (k + 1) 10 - k = 1
 omega
theorem zceg (k : Nat) (h : k < 10) : zb3o (k : Int) = some (zblf k) := by
 unfold zb3o
 rw [if_pos ⟨by omega,by omega⟩,Int.toNat_natCast]; rfl
theorem zclr (k : Nat) (h : k < 10) : (zbj8 k).size = 6 := by unfold zbj8; rw [ByteArray.size_append,zb3c k h]; rfl
theorem zbn4 (k : Nat) (h : k < 10) : (zb96 k).size = 7 := by unfold zb96; rw [ByteArray.size_append,zb3c k h]; rfl
theorem zbn3 (k : Nat) (h : k < 10) : (j4 k).size = 5 := by unfold j4; rw [ByteArray.size_append,zb3c k h]; rfl
theorem zbs2 (k : Nat) (h : k < 10) : ph (k : Int) = some (zbj8 k) := by
 unfold ph
 rw [zceg k h,obz,if_pos (by rw [zb3c k h]; decide)]; rfl
theorem zbuz (k : Nat) (h : k < 10) : z9 (k : Int) = some (zb96 k) := by
 unfold z9
 rw [zceg k h,obz,if_pos (by rw [zb3c k h]; decide)]; rfl
theorem zb57 (k : Nat) (h : k < 10) : zb28 (k : Int) = some (j4 k) := by
 unfold zb28
 rw [zceg k h,obz,if_pos (by rw [zb3c k h]; decide)]; rfl
def zbky (k : Nat) : ByteArray := SHA (zb96 k)
def zbk0 (i k : Nat) : ByteArray := PUB (j4 i) (k : Int)
theorem zcf3 (s : ByteArray) (k : Int) : (PUB s k).size = 16 := by unfold PUB; exact zbt8 _
theorem zb1j (k : Nat) (h : k < 10) : zbkz (k : Int) = some (zbky k) := by
 unfold zbkz
 rw [zbuz k h,obz,zbxw _ (by rw [zbn4 k h]; decide)]; rfl
theorem zb6p (i k : Nat) (hi : i < 10) (hk : k < 10) : zb6q (i : Int) (k : Int) = some (zbk0 i k) := by
 unfold zb6q
 rw [zb57 i hi,obz,zb6e _ (by rw [zbn3 i hi]; decide),if_pos (by unfold isK; omega)]; rfl
def upL (g : Nat → ByteArray) : Nat → Nat → List ByteArray
 | 0,_ => []
 | n + 1,k => g k :: upL g n (k + 1)
theorem zbmr (g : Nat → ByteArray) (n : Nat) : ∀ k,(upL g n k).length = n := by
 induction n with
 | zero => intro k; rfl
 | succ n ih => intro k; rw [upL,List.length_cons,ih]
theorem zbmq {g : Nat → ByteArray} {n : Nat} : ∀ {k : Nat} {x : ByteArray},x ∈ upL g n k → ∃ j,k ≤ j ∧ j < k + n ∧ x = g j := by
 induction n with
 | zero => intro k x h; cases h
 | succ n ih =>
  intro k x h
  rw [upL,List.mem_cons] at h
  rcases h with rfl | h
  · exact ⟨k,Nat.le_refl _,by omega,rfl⟩
  · obtain ⟨j,h1,h2,h3⟩ := ih h
    exact ⟨j,by omega,by omega,h3⟩
theorem zcaz {f : Int → Option ByteArray} {g : Nat → ByteArray} (hf : ∀ k : Nat,k < 10 → f (k : Int) = some (g k)) (n : Nat) : ∀ (k : Nat) (l : List ByteArray),n + k ≤ 10 → zbj3 f n k l = some (l ++ upL g n k) := by
 induction n with
 | zero => intro k l h; rw [zbj3,upL,List.append_nil]
 | succ n ih => intro k l h; rw [zbj3,hf k (by omega),obz,ih (k + 1) _ (by omega),upL,List.append_assoc]; rfl
def zbhy (L : Nat) : Nat → Nat → List ac
 | 0,_ => []
 | n + 1,k => ⟨zbj8 k,upL (zbk0 k) L 0⟩ :: zbhy L n (k + 1)
theorem zc0a (L n : Nat) : ∀ k,(zbhy L n k).length = n := by
 induction n with
 | zero => intro k; rfl
 | succ n ih => intro k; rw [zbhy,List.length_cons,ih]
theorem zb08 (L : Nat) (hL : L ≤ 10) (n : Nat) : ∀ (k : Nat) (d : List ac),n + k ≤ 10 → zbwx L (bare (upL zbj8 n k)) k d = some (d ++ zbhy L n k) := by
 induction n with
 | zero => intro k d h; show some d = some (d ++ []); rw [List.append_nil]
 | succ n ih =>
  intro k d h
  show (zbj3 (zb6q (k : Int)) L 0 [] >>= fun ks => zbwx L (bare (upL zbj8 n (k + 1))) (k + 1) (d ++ [⟨zbj8 k,ks⟩])) = _
  rw [zcaz (g := zbk0 k) (fun j hj => zb6p k j (by omega) hj) L 0 [] (by omega),obz,ih (k + 1) _ (by omega),List.append_assoc]
  rfl
def zbug (n : Nat) (start delta : Int) : aq := ⟨⟨#[114,105,110,103]⟩,zbhy 1 n 0,zbbz n 0 2,[0],[zbky 0],start,delta⟩
theorem zbx1 (n : Nat) (start delta : Int) (h1 : 1 ≤ n) (h6 : n ≤ 6) : zb0l (n : Int) start delta = some (zbug n start delta) := by
 unfold zb0l
 have e1 : zb4p (n : Int) 0 2 = some (zbbz n 0 2) := if_pos ⟨⟨by omega,by omega⟩,by decide,by decide⟩
 rw [if_pos ⟨by omega,by omega⟩,e1,obz,Int.toNat_natCast,zcaz zbs2 n 0 [] (by omega),obz,zcaz zb1j 1 0 [] (by omega),obz,List.nil_append,zb08 1 (by omega) n 0 [] (by omega),obz]
 rfl
theorem zb07 (L : Nat) (n : Nat) : ∀ k,n + k ≤ 10 → ∀ p ∈ zbhy L n k,zbj5 (L : Int) p = true := by
 induction n with
 | zero => intro k h p hp; cases hp
 | succ n ih =>
  intro k h p hp
  rw [zbhy,List.mem_cons] at hp
  rcases hp with rfl | hp
  · unfold zbj5
    rw [Bool.and_eq_true,zb3e,zb4s]
    refine ⟨by show 1 ≤ (zbj8 k).size ∧ (zbj8 k).size ≤ 16; rw [zclr k (by omega)]; decide,by show ((upL (zbk0 k) L 0).length : Int) = _; rw [zbmr],fun x hx => ?_⟩
    obtain ⟨j,_,_,rfl⟩ := zbmq hx
    show ((PUB _ _).size : Int) = 16
    rw [zcf3]; rfl
  · exact ih (k + 1) (by omega) p hp
theorem zbob (L n : Nat) : ∀ k,(zbhy L n k).map ac.Account = upL zbj8 n k := by
 induction n with
 | zero => intro k; rfl
 | succ n ih => intro k; rw [zbhy,List.map_cons,ih,upL]
theorem zbv7 : (upL zbj8 6 0).Nodup := by decide +kernel
theorem zbun (g : Nat → ByteArray) (n m : Nat) : ∀ k,upL g n k = (upL g (n + m) k).take n := by
 induction n with
 | zero => intro k; rfl
 | succ n ih => intro k; rw [Nat.succ_add,upL,upL,List.take_succ_cons,← ih]
theorem zc38 (n : Nat) (h : n ≤ 6) : (upL zbj8 n 0).Nodup := by
 have e := zbun zbj8 n (6 - n) 0
 rw [show n + (6 - n) = 6 by omega] at e
 rw [e]
 exact zbv7.sublist (List.take_sublist _ _)
def zb0e (n : Nat) (l : List af) : Bool := l.all (zbjl (n : Int)) && decide ((l.map fun a => (a.From,a.To)).Nodup) && decide (1 ≤ l.length) && decide (l.length ≤ 12)
theorem zboj : (zb0e 2 (zbbz 2 0 2) && zb0e 3 (zbbz 3 0 2) && zb0e 4 (zbbz 4 0 2) && zb0e 5 (zbbz 5 0 2) && zb0e 6 (zbbz 6 0 2)) = true := by decide +kernel
theorem zboh (n : Nat) (h2 : 2 ≤ n) (h6 : n ≤ 6) : zb0e n (zbbz n 0 2) = true := by
 have h := zboj
 simp only [Bool.and_eq_true] at h
 obtain ⟨⟨⟨⟨a,b⟩,c⟩,d⟩,e⟩ := h
 have : n = 2 ∨ n = 3 ∨ n = 4 ∨ n = 5 ∨ n = 6 := by omega
 rcases this with rfl | rfl | rfl | rfl | rfl <;> assumption
theorem zbog (n : Nat) (start delta : Int) (h2 : 2 ≤ n) (h6 : n ≤ 6) (hs : 0 ≤ start ∧ start ≤ 1099511627776) (hd : 1 ≤ delta ∧ delta ≤ 1048576) : Ok (zbug n start delta) := by
 have g := zboh n h2 h6
 unfold zb0e at g
 simp only [Bool.and_eq_true,decide_eq_true_iff,List.all_eq_true] at g
 obtain ⟨⟨⟨g1,g2⟩,g3⟩,g4⟩ := g
 have ln : (zbhy 1 n 0).length = n := zc0a 1 n 0
 refine ⟨by show zbmb ⟨#[114,105,110,103]⟩ = true; decide +kernel,?_,by show 1 ≤ 1 ∧ 1 ≤ 3; decide,⟨g3,g4⟩,⟨rfl,fun x hx => ?_⟩,hs,hd,zb07 1 n 0 (by omega),?_,?_,g2,by show [(0 : Int)].Nodup; decide,fun v hv => ?_⟩
 · show 2 ≤ (zbhy 1 n 0).length ∧ (zbhy 1 n 0).length ≤ 6
   omega
 · have : x = zbky 0 := by simpa [zbug] using hx
   rw [this]; exact zb8c _
 · show ∀ a ∈ zbbz n 0 2,zbjl ((zbhy 1 n 0).length : Nat) a = true
   rw [ln]; exact g1
 · show ((zbhy 1 n 0).map ac.Account).Nodup
   rw [zbob]; exact zc38 n h6
 · have : v = 0 := by simpa [zbug] using hv
   rw [this]
   show (0 : Int) ≤ 0 ∧ (0 : Int) < ((zbhy 1 n 0).length : Nat)
   omega
theorem zboe (n : Nat) (start delta : Int) (hs : j7 start = true) (hd : j7 delta = true) : Wf (zbug n start delta) := ⟨fun v hv => by
 have : v = 0 := by simpa [zbug] using hv
 rw [this]; decide,hs,hd⟩
open Go Go.RowKit Sh Ic
theorem zca4 (n k : Int) (hk : 0 < k) (hk2 : k < 9223372036854775808) : uk n k = some (n % k) := by
 unfold uk
 rw [if_pos (by omega)]
 have h1 := Int.emod_nonneg n (show k ≠ 0 by omega)
 have h2 := Int.emod_lt_of_pos n hk
 by_cases c : 0 ≤ n
 · have e : Int.tmod n k = n % k := Int.tmod_eq_emod_of_nonneg c
   rw [e,if_neg (by omega)]
 · have e := Int.tmod_eq_emod (a := n) (b := k)
   by_cases d : n % k = 0
   · have : Int.tmod n k = 0 := by
      rw [e,d]
      have : k ∣ n := Int.dvd_of_emod_eq_zero d
      simp [this]
     rw [this,d,if_neg (by decide)]
   · have nd : ¬ k ∣ n := fun h => d (Int.emod_eq_zero_of_dvd h)
     have e2 : Int.tmod n k = n % k - k := by
      rw [e,if_neg (fun h => h.elim c nd)]
      omega
     rw [e2,if_pos (by omega),w64 (by omega) (by omega)]
     congr 1
     omega
open Go Go.RowKit Sh Ic
open Sh.ArgT (enc)
theorem zbv3 (s : aq) (h : Ok s) (hw : Wf s) (hr : zb0l 2 5 6 = some s) : yv = some true := by
 unfold yv
 rw [hr,obz,zbse s hw,obz,zbow,obz,zc0o s h hw,zbow,obz,zbv9,zb90 s hw,obz,if_pos (zb4f h),if_pos rfl,zbx0 _ _ h.lens,obz,if_pos (zb8f s),if_pos rfl]
 show (l5 zbwy >>= fun y17 => some (!y17)) = _
 rw [zb90 _ zbuw,obz,zbux]; rfl
theorem zbv4 : yv = some true :=
 zbv3 (zbug 2 5 6) (zbog 2 5 6 (by decide) (by decide) (by decide) (by decide)) (zboe 2 5 6 (by decide) (by decide)) (zbx1 2 5 6 (by decide) (by decide))
def zbzx (n : Nat) (l : List af) : Bool := decide (l.length = n) && l.all fun a => decide (a.Asset.size = 4)
theorem zbkp : (zbzx 2 (zbbz 2 0 2) && zbzx 3 (zbbz 3 0 2) && zbzx 4 (zbbz 4 0 2) && zbzx 5 (zbbz 5 0 2) && zbzx 6 (zbbz 6 0 2)) = true := by decide +kernel
theorem zboi (n : Nat) (h2 : 2 ≤ n) (h6 : n ≤ 6) : (zbbz n 0 2).length = n ∧ ∀ a ∈ zbbz n 0 2,a.Asset.size = 4 := by
 have h := zbkp
 simp only [Bool.and_eq_true] at h
 obtain ⟨⟨⟨⟨a,b⟩,c⟩,d⟩,e⟩ := h
 have key : ∀ n,zbzx n (zbbz n 0 2) = true → (zbbz n 0 2).length = n ∧ ∀ a ∈ zbbz n 0 2,a.Asset.size = 4 := by
  intro n h
  unfold zbzx at h
  rw [Bool.and_eq_true,decide_eq_true_iff,List.all_eq_true] at h
  exact ⟨h.1,fun a ha => of_decide_eq_true (h.2 a ha)⟩
 have : n = 2 ∨ n = 3 ∨ n = 4 ∨ n = 5 ∨ n = 6 := by omega
 rcases this with rfl | rfl | rfl | rfl | rfl
 · exact key _ a
 · exact key _ b
 · exact key _ c
 · exact key _ d
 · exact key _ e
theorem zboa (L : Nat) (n : Nat) : ∀ k,n + k ≤ 10 → ∀ p ∈ zbhy L n k,(zbjw p).size = 22 + L * 24 := by
 induction n with
 | zero => intro k h p hp; cases hp
 | succ n ih =>
  intro k h p hp
  rw [zbhy,List.mem_cons] at hp
  rcases hp with rfl | hp
  · rw [zc2y,rp]
    have z := wy (e := iz) (B := 24) (l := upL (zbk0 k) L 0) fun x hx => by
     obtain ⟨j,_,_,rfl⟩ := zbmq hx
     rw [ma]
     show 8 + (PUB _ _).size = 24
     rw [zcf3]
    rw [zbmr] at z
    show 8 + (zbj8 k).size + (8 + (j3 iz (upL (zbk0 k) L 0)).size) = _
    rw [z,zclr k (by omega)]
    omega
  · exact ih (k + 1) (by omega) p hp
theorem zbof (n : Nat) (a d : Int) (h2 : 2 ≤ n) (h6 : n ≤ 6) : (ENC (zbug n a d)).size = 108 + 90 * n := by
 obtain ⟨g1,g2⟩ := zboi n h2 h6
 have z1 := wy (e := zbjw) (B := 46) (l := zbhy 1 n 0) (zboa 1 n 0 (by omega))
 rw [zc0a] at z1
 have z2 := wy (e := zbjn) (B := 44) (l := zbbz n 0 2) fun x hx => by rw [zc2x,g2 x hx]
 rw [g1] at z2
 have z3 := wy (e := ia) (B := 8) (l := [(0 : Int)]) fun _ _ => rfl
 have z4 := wy (e := iz) (B := 40) (l := [zbky 0]) fun x hx => by
  have : x = zbky 0 := by simpa using hx
  rw [this,ma]
  show 8 + (SHA _).size = 40
  rw [zb8c]
 rw [List.length_singleton] at z3 z4
 have z5 : (⟨#[114,105,110,103]⟩ : ByteArray).size = 4 := rfl
 unfold ENC
 simp only [ByteArray.size_append,dw,ma,rp]
 show 8 + (⟨#[114,105,110,103]⟩ : ByteArray).size + (8 + (j3 zbjw (zbhy 1 n 0)).size) + (8 + (j3 zbjn (zbbz n 0 2)).size) + (8 + (j3 ia [(0 : Int)]).size) + (8 + (j3 iz [zbky 0]).size) + 8 + 8 = _
 rw [z1,z2,z3,z4,z5]
 omega
theorem zb05 (s : aq) (h : Ok s) (hw : Wf s) (n : Nat) (a d : Int) (h2 : 2 ≤ n) (h6 : n ≤ 6) (hz : (ENC s).size = 108 + 90 * n) (hd : 1 ≤ d ∧ d ≤ 1048576) (p1 p2 p3 : Int) (e1 : p1 % 5 = (n : Int) - 2) (e2 : p2 % 1099511627776 = a) (e3 : p3 % 1048576 = d - 1) (hr : zb0l (n : Int) a d = some s) : qv p1 p2 p3 = some true := by
 have v1 : IntKind.i64.wrap (2 + ((n : Int) - 2)) = (n : Int) := by rw [wA (by omega) (by omega)]; omega
 have v2 : IntKind.i64.wrap (1 + (d - 1)) = d := by rw [wA (by omega) (by omega)]; omega
 have v3 : IntKind.i64.wrap ((n : Int) * 46) = (n : Int) * 46 := wA (by omega) (by omega)
 have v4 : IntKind.i64.wrap ((n : Int) * 44) = (n : Int) * 44 := wA (by omega) (by omega)
 have w1 : IntKind.i64.wrap (20 + (n : Int) * 46) = 20 + (n : Int) * 46 := wA (by omega) (by omega)
 have w2 : IntKind.i64.wrap (20 + (n : Int) * 46 + 8) = 20 + (n : Int) * 46 + 8 := wA (by omega) (by omega)
 have w3 : IntKind.i64.wrap (20 + (n : Int) * 46 + 8 + (n : Int) * 44) = 20 + (n : Int) * 46 + 8 + (n : Int) * 44 := wA (by omega) (by omega)
 have w4 : IntKind.i64.wrap (20 + (n : Int) * 46 + 8 + (n : Int) * 44 + 8) = 20 + (n : Int) * 46 + 8 + (n : Int) * 44 + 8 := wA (by omega) (by omega)
 have w5 : IntKind.i64.wrap (20 + (n : Int) * 46 + 8 + (n : Int) * 44 + 8 + 8) = 20 + (n : Int) * 46 + 8 + (n : Int) * 44 + 8 + 8 := wA (by omega) (by omega)
 have w6 : IntKind.i64.wrap (20 + (n : Int) * 46 + 8 + (n : Int) * 44 + 8 + 8 + 8) = 20 + (n : Int) * 46 + 8 + (n : Int) * 44 + 8 + 8 + 8 := wA (by omega) (by omega)
 have w7 : IntKind.i64.wrap (20 + (n : Int) * 46 + 8 + (n : Int) * 44 + 8 + 8 + 8 + 8) = 20 + (n : Int) * 46 + 8 + (n : Int) * 44 + 8 + 8 + 8 + 8 := wA (by omega) (by omega)
 have w8 : IntKind.i64.wrap (20 + (n : Int) * 46 + 8 + (n : Int) * 44 + 8 + 8 + 8 + 8 + 32) = 20 + (n : Int) * 46 + 8 + (n : Int) * 44 + 8 + 8 + 8 + 8 + 32 := wA (by omega) (by omega)
 have w9 : IntKind.i64.wrap (20 + (n : Int) * 46 + 8 + (n : Int) * 44 + 8 + 8 + 8 + 8 + 32 + 16) = 108 + 90 * (n : Int) := by rw [wA (by omega) (by omega)]; omega
 have eb : zbto s = ENC s := if_pos (zb4f h)
 have rb := zc0o s h hw
 rw [eb] at rb
 unfold qv
 rw [zca4 p1 5 (by decide) (by decide),obz,zca4 p2 1099511627776 (by decide) (by decide),obz,zca4 p3 1048576 (by decide) (by decide),obz,e1,e2,e3,v1,v2,hr,obz,v3,v4,w1,w2,w3,w4,w5,w6,w7,w8,w9,obz,zbse s hw,obz,eb,zbow,obz,rb,if_pos (by omega),if_pos rfl,zbx0 _ _ h.lens,obz,if_pos (zb8f s),zbv4,obz]
theorem zb06 (p1 p2 p3 : Int) : qv p1 p2 p3 = some true := by
 have a1 := Int.emod_nonneg p1 (show (5 : Int) ≠ 0 by decide)
 have a2 := Int.emod_lt_of_pos p1 (show (0 : Int) < 5 by decide)
 have b1 := Int.emod_nonneg p2 (show (1099511627776 : Int) ≠ 0 by decide)
 have b2 := Int.emod_lt_of_pos p2 (show (0 : Int) < 1099511627776 by decide)
 have c1 := Int.emod_nonneg p3 (show (1048576 : Int) ≠ 0 by decide)
 have c2 := Int.emod_lt_of_pos p3 (show (0 : Int) < 1048576 by decide)
 obtain ⟨n,hn⟩ : ∃ n : Nat,p1 % 5 = (n : Int) - 2 := ⟨(p1 % 5).toNat + 2,by omega⟩
 obtain ⟨a,ha⟩ : ∃ a,p2 % 1099511627776 = a := ⟨_,rfl⟩
 obtain ⟨d,hd⟩ : ∃ d,p3 % 1048576 = d - 1 := ⟨p3 % 1048576 + 1,by omega⟩
 exact zb05 (zbug n a d) (zbog n a d (by omega) (by omega) (by omega) (by omega)) (zboe n a d (zb36 (by omega) (by omega)) (zb36 (by omega) (by omega))) n a d (by omega) (by omega) (zbof n a d (by omega) (by omega)) (by omega) p1 p2 p3 hn ha hd (zbx1 n a d (by omega) (by omega))
theorem zc95 (a b c : Int) (_ : Arg.ok a) (_ : Arg.ok b) (_ : Arg.ok c) : Lw G qx [enc a,enc b,enc c] := ⟨_,zc9e a b c true (zb06 a b c) ⟨[],0⟩ (Nat.le_refl _)⟩
end Go.Proofs.Ytdcfoaafkppojaa
