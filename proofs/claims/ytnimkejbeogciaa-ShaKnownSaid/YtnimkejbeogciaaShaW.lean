/- The digest's words: numbers below 2^32 as 32 bits; the block of the program and of the document are one. -/
import Derived.Test.YtnimkejbeogciaaDz
set_option linter.unusedSimpArgs false
set_option linter.unusedVariables false
set_option linter.unusedSectionVars false
namespace Go.Proofs.Ytnimkejbeogciaa
open Go Go.RowKit Sh Ic
abbrev W := BitVec 32
theorem obz {α β : Type} {a : α} {f : α → Option β} : (some a >>= f) = f a := by generalize h : f a = x; exact h
theorem w64 {n : Int} (h1 : -9223372036854775808 ≤ n) (h2 : n < 9223372036854775808) : IntKind.i64.wrap n = n := by
  simp [IntKind.wrap,IntKind.bits,IntKind.signed,IntKind.max]; omega
theorem wr32 (n : Int) : IntKind.u32.wrap n = n % 4294967296 := by simp [IntKind.wrap,IntKind.bits,IntKind.signed]
theorem wr32_nat (n : Nat) (h : n < 4294967296) : IntKind.u32.wrap (n : Int) = (n : Int) := by rw [wr32]; omega
theorem of_nat (a : W) : BitVec.ofInt 32 (a.toNat : Int) = a := by
  rw [BitVec.ofInt_natCast,BitVec.ofNat_toNat,BitVec.setWidth_eq]
theorem w_lt (a : W) : a.toNat < 4294967296 := a.isLt
theorem w_or (a b : W) : IntKind.u32.wrap ((BitVec.ofInt IntKind.u32.bits (a.toNat : Int) ||| BitVec.ofInt IntKind.u32.bits (b.toNat : Int)).toNat : Int) = ((a ||| b).toNat : Int) := by
  show IntKind.u32.wrap ((BitVec.ofInt 32 (a.toNat : Int) ||| BitVec.ofInt 32 (b.toNat : Int)).toNat : Int) = _
  rw [of_nat,of_nat,wr32_nat _ (w_lt _)]
theorem w_and (a b : W) : IntKind.u32.wrap ((BitVec.ofInt IntKind.u32.bits (a.toNat : Int) &&& BitVec.ofInt IntKind.u32.bits (b.toNat : Int)).toNat : Int) = ((a &&& b).toNat : Int) := by
  show IntKind.u32.wrap ((BitVec.ofInt 32 (a.toNat : Int) &&& BitVec.ofInt 32 (b.toNat : Int)).toNat : Int) = _
  rw [of_nat,of_nat,wr32_nat _ (w_lt _)]
theorem w_xor (a b : W) : IntKind.u32.wrap ((BitVec.ofInt IntKind.u32.bits (a.toNat : Int) ^^^ BitVec.ofInt IntKind.u32.bits (b.toNat : Int)).toNat : Int) = ((a ^^^ b).toNat : Int) := by
  show IntKind.u32.wrap ((BitVec.ofInt 32 (a.toNat : Int) ^^^ BitVec.ofInt 32 (b.toNat : Int)).toNat : Int) = _
  rw [of_nat,of_nat,wr32_nat _ (w_lt _)]
theorem w_not (a : W) : notI .u32 (a.toNat : Int) = ((~~~a).toNat : Int) := by
  show IntKind.u32.wrap ((BitVec.ofInt 32 4294967295 ^^^ BitVec.ofInt 32 (a.toNat : Int)).toNat : Int) = _
  rw [of_nat,show BitVec.ofInt 32 4294967295 = BitVec.allOnes 32 from by decide,BitVec.allOnes_xor,wr32_nat _ (w_lt _)]
theorem w_add (a b : W) : IntKind.u32.wrap ((a.toNat : Int) + (b.toNat : Int)) = ((a + b).toNat : Int) := by
  rw [wr32,BitVec.toNat_add]; omega
theorem w_shr (a : W) (k : Nat) : (a.toNat : Int).fdiv (2 ^ k) = ((a >>> k).toNat : Int) := by
  rw [Int.fdiv_eq_ediv_of_nonneg _ (by exact Int.le_of_lt (Int.pow_pos (by decide))),BitVec.toNat_ushiftRight,Nat.shiftRight_eq_div_pow,Int.natCast_ediv,Int.natCast_pow]
  rfl
theorem w_shl (a : W) (k : Nat) : IntKind.u32.wrap ((a.toNat : Int) * 2 ^ k) = ((a <<< k).toNat : Int) := by
  rw [wr32,BitVec.toNat_shiftLeft,Nat.shiftLeft_eq,Int.natCast_emod,Int.natCast_mul,Int.natCast_pow]
  rfl
def rotr (x : W) (n : Nat) : W := x >>> n ||| x <<< (32 - n)
theorem turn_f (x : W) (n : Nat) (z : Int) (hz : z = (n : Int)) (hn : n ≤ 32) : handselref01_turn_f (x.toNat : Int) z = some ((rotr x n).toNat : Int) := by
  subst hz
  have c1 : ¬ (n : Int) < 0 := by omega
  have w1 : IntKind.u64.wrap (32 - (n : Int)) = ((32 - n : Nat) : Int) := by
    have : IntKind.u64.wrap (32 - (n : Int)) = (32 - (n : Int)) % 18446744073709551616 := by simp [IntKind.wrap,IntKind.bits,IntKind.signed]
    omega
  have c2 : ¬ ((32 - n : Nat) : Int) < 0 := by omega
  have e1 : Nat.min n IntKind.u32.bits = n := Nat.min_eq_left hn
  have e2 : Nat.min (32 - n) IntKind.u32.bits = 32 - n := Nat.min_eq_left (Nat.sub_le _ _)
  unfold handselref01_turn_f
  simp only [obz,c1,w1,c2,Int.toNat_natCast,e1,e2,w_shr,w_shl,w_or,not_false_eq_true,if_true]
  rfl
theorem back5 : ∀ n : Fin 32,0 < n.val → (IntKind.u64.wrap ((BitVec.ofInt IntKind.u64.bits (IntKind.u64.wrap (IntKind.i64.wrap (0 - (n.val : Int)))) &&& BitVec.ofInt IntKind.u64.bits (31 : Int)).toNat : Int)) = ((32 - n.val : Nat) : Int) := by decide
theorem right_f (x : W) (n : Nat) (z : Int) (hz : z = (n : Int)) (h0 : 0 < n) (hn : n < 32) : sha_right_f (x.toNat : Int) z = some ((rotr x n).toNat : Int) := by
  subst hz
  have b := back5 ⟨n,hn⟩ h0
  simp only at b
  have c1 : ¬ ((32 - n : Nat) : Int) < 0 := by omega
  have w1 : IntKind.u64.wrap (32 - ((32 - n : Nat) : Int)) = (n : Int) := by
    have : IntKind.u64.wrap (32 - ((32 - n : Nat) : Int)) = (32 - ((32 - n : Nat) : Int)) % 18446744073709551616 := by simp [IntKind.wrap,IntKind.bits,IntKind.signed]
    omega
  have c2 : ¬ (n : Int) < 0 := by omega
  have e1 : Nat.min n IntKind.u32.bits = n := Nat.min_eq_left (Nat.le_of_lt hn)
  have e2 : Nat.min (32 - n) IntKind.u32.bits = 32 - n := Nat.min_eq_left (Nat.sub_le _ _)
  unfold sha_right_f math_bits_RotateLeft32_f
  simp only [obz,b,c1,w1,c2,Int.toNat_natCast,e1,e2,w_shr,w_shl,w_or,not_false_eq_true,if_true]
  rw [rotr,BitVec.or_comm]
def wl (ws : List W) : List Int := ws.map fun a => (a.toNat : Int)
theorem wl_len (ws : List W) : (wl ws).length = ws.length := List.length_map ..
theorem wl_get (ws : List W) (j : Nat) (z : Int) (hz : z = (j : Int)) (h : j < ws.length) : ixL (wl ws) z = some ((ws.getD j 0).toNat : Int) := by
  subst hz
  rw [ixL_nat (by rw [wl_len]; exact h)]
  simp only [wl,List.getElem_map,List.getD_eq_getElem?_getD,List.getElem?_eq_getElem h,Option.getD_some]
theorem wl_set (ws : List W) (j : Nat) (x : W) : (wl ws).set j (x.toNat : Int) = wl (ws.set j x) := by rw [wl,wl,List.map_set]
def bt (s : ByteArray) (i : Nat) : W := BitVec.ofNat 32 (s.data.getD i 0).toNat
def be4 (s : ByteArray) (i : Nat) : W := bt s (4 * i) <<< 24 ||| bt s (4 * i + 1) <<< 16 ||| bt s (4 * i + 2) <<< 8 ||| bt s (4 * i + 3)
theorem bt_nat (s : ByteArray) (i : Nat) : (bt s i).toNat = (s.data.getD i 0).toNat := by
  unfold bt; rw [BitVec.toNat_ofNat]; have := (s.data.getD i 0).toNat_lt; omega
theorem bt_conv (s : ByteArray) (i : Nat) : IntKind.u32.wrap ((bt s i).toNat : Int) = ((bt s i).toNat : Int) := wr32_nat _ (w_lt _)
theorem ixB_bt (s : ByteArray) (i : Nat) (z : Int) (hz : z = (i : Int)) (h : i < s.size) : ixB s z = some ((bt s i).toNat : Int) := by
  subst hz
  unfold ixB
  rw [if_pos (by omega),Int.toNat_natCast,bt_nat]
theorem bt_ext (s : ByteArray) (a i : Nat) (h : a + i < s.size) : bt (s.extract a s.size) i = bt s (a + i) := by
  have hs : s.size = s.data.size := rfl
  unfold bt
  rw [ByteArray.data_extract,Array.getD_eq_getD_getElem?,Array.getElem?_extract,if_pos (by omega),← Array.getD_eq_getD_getElem?]
theorem number_f (s : ByteArray) (i : Nat) (h : 4 * i + 3 < s.size) : sha_number_f (s.extract (4 * i) s.size) = some ((be4 s i).toNat : Int) := by
  have sz : (s.extract (4 * i) s.size).size = s.size - 4 * i := by rw [ByteArray.size_extract]; omega
  unfold sha_number_f
  rw [ixB_bt _ 0 0 rfl (by omega),ixB_bt _ 1 1 rfl (by omega),ixB_bt _ 2 2 rfl (by omega),ixB_bt _ 3 3 rfl (by omega)]
  have m24 : Nat.min 24 IntKind.u32.bits = 24 := rfl
  have m16 : Nat.min 16 IntKind.u32.bits = 16 := rfl
  have m8 : Nat.min 8 IntKind.u32.bits = 8 := rfl
  simp only [obz,bt_conv,m24,m16,m8,w_shl,w_or]
  rw [bt_ext _ _ _ (by omega),bt_ext _ _ _ (by omega),bt_ext _ _ _ (by omega),bt_ext _ _ _ (by omega)]
  rfl
def fill (s : ByteArray) : Nat → Nat → List W → List W
  | _,0,ws => ws
  | i,n + 1,ws => fill s (i + 1) n (ws.set i (be4 s i))
def sig0 (x : W) : W := rotr x 7 ^^^ rotr x 18 ^^^ x >>> 3
def sig1 (x : W) : W := rotr x 17 ^^^ rotr x 19 ^^^ x >>> 10
def nextW (ws : List W) (i : Nat) : W := ws.getD (i - 16) 0 + sig0 (ws.getD (i - 15) 0) + ws.getD (i - 7) 0 + sig1 (ws.getD (i - 2) 0)
def sched : Nat → Nat → List W → List W
  | _,0,ws => ws
  | i,n + 1,ws => sched (i + 1) n (ws.set i (nextW ws i))
structure V8 where
  a : W
  b : W
  c : W
  d : W
  e : W
  f : W
  g : W
  h : W
def V8.t1 (v : V8) (k w : W) : W := v.h + (rotr v.e 6 ^^^ rotr v.e 11 ^^^ rotr v.e 25) + (v.e &&& v.f ^^^ ~~~v.e &&& v.g) + k + w
def V8.t2 (v : V8) : W := (rotr v.a 2 ^^^ rotr v.a 13 ^^^ rotr v.a 22) + (v.a &&& v.b ^^^ v.a &&& v.c ^^^ v.b &&& v.c)
def V8.rnd (v : V8) (k w : W) : V8 := ⟨v.t1 k w + v.t2,v.a,v.b,v.c,v.d + v.t1 k w,v.e,v.f,v.g⟩
def rnds (ks ws : List W) : Nat → Nat → V8 → V8
  | _,0,v => v
  | i,n + 1,v => rnds ks ws (i + 1) n (v.rnd (ks.getD i 0) (ws.getD i 0))
def V8.list (v : V8) : List W := [v.a,v.b,v.c,v.d,v.e,v.f,v.g,v.h]
def addup (vs : List W) : Nat → Nat → List W → List W
  | _,0,hs => hs
  | i,n + 1,hs => addup vs (i + 1) n (hs.set i (hs.getD i 0 + vs.getD i 0))
def K256 : List W := [0x428a2f98,0x71374491,0xb5c0fbcf,0xe9b5dba5,0x3956c25b,0x59f111f1,0x923f82a4,0xab1c5ed5,0xd807aa98,0x12835b01,0x243185be,0x550c7dc3,0x72be5d74,0x80deb1fe,0x9bdc06a7,0xc19bf174,0xe49b69c1,0xefbe4786,0x0fc19dc6,0x240ca1cc,0x2de92c6f,0x4a7484aa,0x5cb0a9dc,0x76f988da,0x983e5152,0xa831c66d,0xb00327c8,0xbf597fc7,0xc6e00bf3,0xd5a79147,0x06ca6351,0x14292967,0x27b70a85,0x2e1b2138,0x4d2c6dfc,0x53380d13,0x650a7354,0x766a0abb,0x81c2c92e,0x92722c85,0xa2bfe8a1,0xa81a664b,0xc24b8b70,0xc76c51a3,0xd192e819,0xd6990624,0xf40e3585,0x106aa070,0x19a4c116,0x1e376c08,0x2748774c,0x34b0bcb5,0x391c0cb3,0x4ed8aa4a,0x5b9cca4f,0x682e6ff3,0x748f82ee,0x78a5636f,0x84c87814,0x8cc70208,0x90befffa,0xa4506ceb,0xbef9a3f7,0xc67178f2]
theorem K256_len : K256.length = 64 := rfl
theorem table_f : handselref01_table_f = some (wl K256) := rfl
theorem constants_f : sha_constants_f = some (wl K256) := rfl
def V8.ofL (l : List W) : V8 := ⟨l.getD 0 0,l.getD 1 0,l.getD 2 0,l.getD 3 0,l.getD 4 0,l.getD 5 0,l.getD 6 0,l.getD 7 0⟩
def zero64 : List W := List.replicate 64 0
def words (s : ByteArray) : List W := sched 16 48 (fill s 0 16 zero64)
def blockW (hs : List W) (s : ByteArray) : List W := addup (rnds K256 (words s) 0 64 (V8.ofL hs)).list 0 8 hs
theorem fill_len (s : ByteArray) (n : Nat) : ∀ i ws,(fill s i n ws).length = ws.length := by
  induction n with
  | zero => intro i ws; rfl
  | succ n ih => intro i ws; rw [fill,ih,List.length_set]
theorem sched_len (n : Nat) : ∀ i ws,(sched i n ws).length = ws.length := by
  induction n with
  | zero => intro i ws; rfl
  | succ n ih => intro i ws; rw [sched,ih,List.length_set]
theorem addup_len (vs : List W) (n : Nat) : ∀ i ws,(addup vs i n ws).length = ws.length := by
  induction n with
  | zero => intro i ws; rfl
  | succ n ih => intro i ws; rw [addup,ih,List.length_set]
theorem words_len (s : ByteArray) : (words s).length = 64 := by
  unfold words; rw [sched_len,fill_len]; rfl
theorem blockW_len (hs : List W) (s : ByteArray) (h : hs.length = 8) : (blockW hs s).length = 8 := by
  unfold blockW; rw [addup_len,h]
theorem eight (l : List W) (h : l.length = 8) : ∃ a b c d e f g i : W,l = [a,b,c,d,e,f,g,i] := by
  match l,h with
  | [a,b,c,d,e,f,g,i],_ => exact ⟨a,b,c,d,e,f,g,i,rfl⟩
theorem m24 : Nat.min 24 IntKind.u32.bits = 24 := rfl
theorem m16 : Nat.min 16 IntKind.u32.bits = 16 := rfl
theorem m8 : Nat.min 8 IntKind.u32.bits = 8 := rfl
theorem m3 : Nat.min 3 IntKind.u32.bits = 3 := rfl
theorem m10 : Nat.min 10 IntKind.u32.bits = 10 := rfl
theorem inc64 (i : Nat) (h : i < 1000000000000) : IntKind.i64.wrap ((i : Int) + 1) = ((i + 1 : Nat) : Int) := by rw [w64 (by omega) (by omega)]; omega
theorem dec64 (i k : Nat) (z : Int) (hz : z = (k : Int)) (h : i < 1000000000000) (hk : k ≤ i) : IntKind.i64.wrap ((i : Int) - z) = ((i - k : Nat) : Int) := by rw [hz,w64 (by omega) (by omega)]; omega
theorem four64 (i : Nat) (h : i < 1000000000000) : IntKind.i64.wrap (4 * (i : Int)) = ((4 * i : Nat) : Int) := by rw [w64 (by omega) (by omega)]; omega
theorem plus64 (i : Nat) (k : Nat) (z : Int) (hz : z = (k : Int)) (h : i < 1000000000000) (hk : k < 1000) : IntKind.i64.wrap ((i : Int) + z) = ((i + k : Nat) : Int) := by rw [hz,w64 (by omega) (by omega)]; omega
theorem in64 (i : Nat) (h : i < 64) : (0 ≤ (i : Int) ∧ (i : Int) < ((64 : Nat) : Int)) = True := eq_true ⟨by omega,by omega⟩
theorem in8 (i : Nat) (h : i < 8) : (0 ≤ (i : Int) ∧ (i : Int) < ((8 : Nat) : Int)) = True := eq_true ⟨by omega,by omega⟩
theorem bl1_f (s : ByteArray) (hs : s.size = 64) (x y z : List Int) (n : Nat) : ∀ (i : Nat) (ws : List W),n + i = 16 → ws.length = 64 → handselref01_block_f_l1 s x y z (wl ws) (i : Int) = some (wl (fill s i n ws)) := by
  induction n with
  | zero =>
    intro i ws hi hl
    obtain rfl : i = 16 := by omega
    rw [handselref01_block_f_l1_eq]
    rfl
  | succ n ih =>
    intro i ws hi hl
    have c : (i : Int) < 16 := by omega
    have cl : (i : Nat) + 1 ≤ (wl ws).length := by rw [wl_len]; omega
    rw [handselref01_block_f_l1_eq,handselref01_block_f_l1_step]
    rw [four64 i (by omega),plus64 _ 1 1 rfl (by omega) (by omega),plus64 _ 2 2 rfl (by omega) (by omega),plus64 _ 3 3 rfl (by omega) (by omega)]
    rw [ixB_bt s (4 * i) _ rfl (by omega),ixB_bt s (4 * i + 1) _ rfl (by omega),ixB_bt s (4 * i + 2) _ rfl (by omega),ixB_bt s (4 * i + 3) _ rfl (by omega)]
    simp only [obz,bt_conv,m24,m16,m8,w_shl,w_or,c,in64 i (by omega),Int.toNat_natCast,cl,if_true,wl_set,inc64 i (by omega),LS.go]
    exact ih (i + 1) _ (by omega) (by rw [List.length_set,hl])
theorem bl2_f (x y z : List Int) (n : Nat) : ∀ (i : Nat) (ws : List W),n + i = 64 → 16 ≤ i → ws.length = 64 → handselref01_block_f_l2 x y z (wl ws) (i : Int) = some (wl (sched i n ws)) := by
  induction n with
  | zero =>
    intro i ws hi h16 hl
    obtain rfl : i = 64 := by omega
    rw [handselref01_block_f_l2_eq]
    rfl
  | succ n ih =>
    intro i ws hi h16 hl
    have c : (i : Int) < 64 := by omega
    have cl : (i : Nat) + 1 ≤ (wl ws).length := by rw [wl_len]; omega
    rw [handselref01_block_f_l2_eq,handselref01_block_f_l2_step]
    rw [dec64 i 15 15 rfl (by omega) (by omega),dec64 i 2 2 rfl (by omega) (by omega),dec64 i 16 16 rfl (by omega) (by omega),dec64 i 7 7 rfl (by omega) (by omega)]
    rw [wl_get ws (i - 15) _ rfl (by omega),wl_get ws (i - 2) _ rfl (by omega),wl_get ws (i - 16) _ rfl (by omega),wl_get ws (i - 7) _ rfl (by omega)]
    simp only [obz,turn_f _ 7 7 rfl (by decide),turn_f _ 18 18 rfl (by decide),turn_f _ 17 17 rfl (by decide),turn_f _ 19 19 rfl (by decide),m3,m10,w_shr,w_xor,w_add,c,in64 i (by omega),in64 (i - 15) (by omega),in64 (i - 2) (by omega),in64 (i - 16) (by omega),in64 (i - 7) (by omega),Int.toNat_natCast,cl,if_true,wl_set,inc64 i (by omega),LS.go]
    exact ih (i + 1) _ (by omega) (by omega) (by rw [List.length_set,hl])
theorem v8_wl (v : V8) : wl v.list = [(v.a.toNat : Int),(v.b.toNat : Int),(v.c.toNat : Int),(v.d.toNat : Int),(v.e.toNat : Int),(v.f.toNat : Int),(v.g.toNat : Int),(v.h.toNat : Int)] := rfl
theorem bl3_f (x y : List Int) (ks ws : List W) (hk : ks.length = 64) (hw : ws.length = 64) (n : Nat) : ∀ (i : Nat) (v : V8),n + i = 64 → handselref01_block_f_l3 x y (wl ws) (wl ks) (wl v.list) (i : Int) = some (wl (rnds ks ws i n v).list) := by
  induction n with
  | zero =>
    intro i ws hi
    obtain rfl : i = 64 := by omega
    rw [handselref01_block_f_l3_eq]
    rfl
  | succ n ih =>
    intro i v hi
    have c : (i : Int) < 64 := by omega
    rw [handselref01_block_f_l3_eq,handselref01_block_f_l3_step]
    rw [wl_get ks i _ rfl (by omega),wl_get ws i _ rfl (by omega),wl_get v.list 0 0 rfl (show 0 < 8 by decide),wl_get v.list 1 1 rfl (show 1 < 8 by decide),wl_get v.list 2 2 rfl (show 2 < 8 by decide),wl_get v.list 3 3 rfl (show 3 < 8 by decide),wl_get v.list 4 4 rfl (show 4 < 8 by decide),wl_get v.list 5 5 rfl (show 5 < 8 by decide),wl_get v.list 6 6 rfl (show 6 < 8 by decide),wl_get v.list 7 7 rfl (show 7 < 8 by decide)]
    have l8 : (wl v.list).length = 8 := rfl
    simp only [obz,turn_f _ 6 6 rfl (by decide),turn_f _ 11 11 rfl (by decide),turn_f _ 25 25 rfl (by decide),turn_f _ 2 2 rfl (by decide),turn_f _ 13 13 rfl (by decide),turn_f _ 22 22 rfl (by decide),w_xor,w_add,w_and,w_not,c,in64 i (by omega),l8,if_true,inc64 i (by omega),LS.go]
    exact ih (i + 1) (v.rnd (ks.getD i 0) (ws.getD i 0)) (by omega)
theorem bl4_f (x : List Int) (vs : List W) (hv : vs.length = 8) (n : Nat) : ∀ (i : Nat) (hs : List W),n + i = 8 → hs.length = 8 → handselref01_block_f_l4 x (wl vs) (wl hs) (i : Int) = some (wl (addup vs i n hs)) := by
  induction n with
  | zero =>
    intro i ws hi hl
    obtain rfl : i = 8 := by omega
    rw [handselref01_block_f_l4_eq]
    rfl
  | succ n ih =>
    intro i hs hi hl
    have c : (i : Int) < 8 := by omega
    have cl : (i : Nat) + 1 ≤ (wl hs).length := by rw [wl_len]; omega
    rw [handselref01_block_f_l4_eq,handselref01_block_f_l4_step]
    rw [wl_get hs i _ rfl (by omega),wl_get vs i _ rfl (by omega)]
    simp only [obz,w_add,c,in8 i (by omega),Int.toNat_natCast,cl,if_true,wl_set,inc64 i (by omega),LS.go]
    exact ih (i + 1) _ (by omega) (by rw [List.length_set,hl])
theorem zero_wl : (List.replicate 64 (0 : Int)) = wl zero64 := rfl
theorem ofL_list (hs : List W) (h : hs.length = 8) : (V8.ofL hs).list = hs := by
  obtain ⟨a,b,c,d,e,f,g,i,rfl⟩ := eight hs h
  rfl
theorem block_f (hs : List W) (s : ByteArray) (hl : hs.length = 8) (h : s.size = 64) : handselref01_block_f (wl hs) s = some (wl (blockW hs s)) := by
  have l8 : (wl hs).length = 8 := by rw [wl_len,hl]
  have l64 : (wl K256).length = 64 := rfl
  have lb : (wl (blockW hs s)).length = 8 := by rw [wl_len,blockW_len _ _ hl]
  unfold handselref01_block_f
  rw [table_f,zero_wl]
  have e1 := fun x y z => bl1_f s h x y z 16 0 zero64 rfl rfl
  have e2 := fun x y z => bl2_f x y z 48 16 (fill s 0 16 zero64) rfl (Nat.le_refl _) (by rw [fill_len]; rfl)
  have e3 := fun x y => bl3_f x y K256 (words s) K256_len (words_len s) 64 0 (V8.ofL hs) rfl
  have e4 := fun x => bl4_f x (rnds K256 (words s) 0 64 (V8.ofL hs)).list rfl 8 0 hs rfl hl
  rw [ofL_list hs hl] at e3
  simp only [obz,l64,l8,if_true]
  refine (congrArg (· >>= _) (e1 _ _ _)).trans ?_
  refine (congrArg (· >>= _) (e2 _ _ _)).trans ?_
  refine (congrArg (· >>= _) (e3 _ _)).trans ?_
  refine (congrArg (· >>= _) (e4 _)).trans ?_
  show (if (wl (blockW hs s)).length = 8 then if (wl (blockW hs s)).length = 8 then some (wl (blockW hs s)) else none else none) = _
  rw [if_pos lb,if_pos lb]
theorem mx1_f (s : ByteArray) (hs : s.size = 64) (x y : List Int) (n : Nat) : ∀ (i : Nat) (ws : List W) (r : List Int),n + i = 16 → ws.length = 64 → sha_words_mix_f_l1 x s y (wl (fill s i n ws)) (16 : Int) = some r → sha_words_mix_f_l1 x s y (wl ws) (i : Int) = some r := by
  induction n with
  | zero =>
    intro i ws r hi hl h
    obtain rfl : i = 16 := by omega
    exact h
  | succ n ih =>
    intro i ws r hi hl h
    have c : (i : Int) < 16 := by omega
    have c2 : (i : Int) < 64 := by omega
    have cl : (i : Nat) + 1 ≤ (wl ws).length := by rw [wl_len]; omega
    rw [sha_words_mix_f_l1_eq,sha_words_mix_f_l1_step]
    rw [four64 i (by omega)]
    have g : (0 ≤ ((4 * i : Nat) : Int) ∧ ((4 * i : Nat) : Int) ≤ (s.size : Int)) = True := eq_true ⟨by omega,by omega⟩
    simp only [g,c,c2,if_true,Int.toNat_natCast]
    rw [number_f s i (by omega)]
    simp only [obz,in64 i (by omega),cl,if_true,wl_set,inc64 i (by omega),LS.go]
    exact ih (i + 1) _ r (by omega) (by rw [List.length_set,hl]) h
theorem mx2_f (s : ByteArray) (x y : List Int) (n : Nat) : ∀ (i : Nat) (ws : List W),n + i = 64 → 16 ≤ i → ws.length = 64 → sha_words_mix_f_l1 x s y (wl ws) (i : Int) = some (wl (sched i n ws)) := by
  induction n with
  | zero =>
    intro i ws hi h16 hl
    obtain rfl : i = 64 := by omega
    rw [sha_words_mix_f_l1_eq,sha_words_mix_f_l1_step,if_neg (by decide)]
    rfl
  | succ n ih =>
    intro i ws hi h16 hl
    have c : (i : Int) < 64 := by omega
    have c2 : ¬ (i : Int) < 16 := by omega
    have cl : (i : Nat) + 1 ≤ (wl ws).length := by rw [wl_len]; omega
    rw [sha_words_mix_f_l1_eq,sha_words_mix_f_l1_step]
    rw [dec64 i 15 15 rfl (by omega) (by omega),dec64 i 2 2 rfl (by omega) (by omega),dec64 i 16 16 rfl (by omega) (by omega),dec64 i 7 7 rfl (by omega) (by omega)]
    rw [wl_get ws (i - 15) _ rfl (by omega),wl_get ws (i - 2) _ rfl (by omega),wl_get ws (i - 16) _ rfl (by omega),wl_get ws (i - 7) _ rfl (by omega)]
    simp only [obz,right_f _ 7 7 rfl (by decide) (by decide),right_f _ 18 18 rfl (by decide) (by decide),right_f _ 17 17 rfl (by decide) (by decide),right_f _ 19 19 rfl (by decide) (by decide),m3,m10,w_shr,w_xor,w_add,c,c2,in64 i (by omega),in64 (i - 15) (by omega),in64 (i - 2) (by omega),in64 (i - 16) (by omega),in64 (i - 7) (by omega),Int.toNat_natCast,cl,if_true,if_false,wl_set,inc64 i (by omega),LS.go]
    exact ih (i + 1) _ (by omega) (by omega) (by rw [List.length_set,hl])
def V8.tup (v : V8) : Int × Int × Int × Int × Int × Int × Int × Int := ((v.a.toNat : Int),(v.b.toNat : Int),(v.c.toNat : Int),(v.d.toNat : Int),(v.e.toNat : Int),(v.f.toNat : Int),(v.g.toNat : Int),(v.h.toNat : Int))
theorem mx3_f (x : List Int) (ks ws : List W) (hk : ks.length = 64) (hw : ws.length = 64) (n : Nat) : ∀ (i : Nat) (v : V8),n + i = 64 → sha_words_mix_f_l2 x (wl ks) (wl ws) (v.a.toNat : Int) (v.b.toNat : Int) (v.c.toNat : Int) (v.d.toNat : Int) (v.e.toNat : Int) (v.f.toNat : Int) (v.g.toNat : Int) (v.h.toNat : Int) (i : Int) = some (rnds ks ws i n v).tup := by
  induction n with
  | zero =>
    intro i ws hi
    obtain rfl : i = 64 := by omega
    rw [sha_words_mix_f_l2_eq]
    rfl
  | succ n ih =>
    intro i v hi
    have c : (i : Int) < 64 := by omega
    rw [sha_words_mix_f_l2_eq,sha_words_mix_f_l2_step]
    rw [wl_get ks i _ rfl (by omega),wl_get ws i _ rfl (by omega)]
    simp only [obz,right_f _ 6 6 rfl (by decide) (by decide),right_f _ 11 11 rfl (by decide) (by decide),right_f _ 25 25 rfl (by decide) (by decide),right_f _ 2 2 rfl (by decide) (by decide),right_f _ 13 13 rfl (by decide) (by decide),right_f _ 22 22 rfl (by decide) (by decide),w_xor,w_add,w_and,w_not,c,in64 i (by omega),if_true,inc64 i (by omega),LS.go]
    exact ih (i + 1) (v.rnd (ks.getD i 0) (ws.getD i 0)) (by omega)
theorem mx4_f (vs : List W) (hv : vs.length = 8) (n : Nat) : ∀ (i : Nat) (hs : List W),n + i = 8 → hs.length = 8 → sha_words_mix_f_l3 (wl vs) (wl hs) (i : Int) = some (wl (addup vs i n hs)) := by
  induction n with
  | zero =>
    intro i ws hi hl
    obtain rfl : i = 8 := by omega
    rw [sha_words_mix_f_l3_eq]
    rfl
  | succ n ih =>
    intro i hs hi hl
    have c : (i : Int) < 8 := by omega
    have cl : (i : Nat) + 1 ≤ (wl hs).length := by rw [wl_len]; omega
    have cv : 8 ≤ (wl vs).length := by rw [wl_len]; omega
    rw [sha_words_mix_f_l3_eq,sha_words_mix_f_l3_step]
    rw [wl_get hs i _ rfl (by omega),wl_get vs i _ rfl (by omega)]
    simp only [obz,w_add,c,cv,in8 i (by omega),Int.toNat_natCast,cl,if_true,wl_set,inc64 i (by omega),LS.go]
    exact ih (i + 1) _ (by omega) (by rw [List.length_set,hl])
theorem mix_f (hs : List W) (s : ByteArray) (hl : hs.length = 8) (h : s.size = 64) : sha_words_mix_f (wl hs) s (wl K256) = some (wl (blockW hs s)) := by
  unfold sha_words_mix_f
  rw [zero_wl]
  have e2 := mx2_f s (wl hs) (wl K256) 48 16 (fill s 0 16 zero64) rfl (Nat.le_refl _) (by rw [fill_len]; rfl)
  have e1 := mx1_f s h (wl hs) (wl K256) 16 0 zero64 _ rfl rfl e2
  have e3 := mx3_f (wl hs) K256 (words s) K256_len (words_len s) 64 0 (V8.ofL hs) rfl
  have e4 := mx4_f (rnds K256 (words s) 0 64 (V8.ofL hs)).list rfl 8 0 hs rfl hl
  refine (congrArg (· >>= _) e1).trans ?_
  rw [wl_get hs 0 0 rfl (by omega),wl_get hs 1 1 rfl (by omega),wl_get hs 2 2 rfl (by omega),wl_get hs 3 3 rfl (by omega),wl_get hs 4 4 rfl (by omega),wl_get hs 5 5 rfl (by omega),wl_get hs 6 6 rfl (by omega),wl_get hs 7 7 rfl (by omega)]
  simp only [obz]
  refine (congrArg (· >>= _) e3).trans ?_
  refine (congrArg (· >>= _) e4).trans ?_
  rfl
end Go.Proofs.Ytnimkejbeogciaa
