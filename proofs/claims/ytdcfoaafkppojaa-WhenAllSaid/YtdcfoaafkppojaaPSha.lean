/- The document's digest and keys, as functions of bytes (of the texts about the two digests what speaks of the document's alone). -/
import Derived.Test.YtdcfoaafkppojaaDz
set_option linter.unusedSimpArgs false
set_option linter.unusedVariables false
set_option linter.unusedSectionVars false
namespace Go.Proofs.Ytdcfoaafkppojaa
open Go Go.RowKit Sh Ic
abbrev W := BitVec 32
theorem obz {α β : Type} {a : α} {f : α → Option β} : (some a >>= f) = f a := by generalize h : f a = x; exact h
theorem w64 {n : Int} (h1 : -9223372036854775808 ≤ n) (h2 : n < 9223372036854775808) : IntKind.i64.wrap n = n := by
  simp [IntKind.wrap,IntKind.bits,IntKind.signed,IntKind.max]; omega
theorem wr32 (n : Int) : IntKind.u32.wrap n = n % 4294967296 := by simp [IntKind.wrap,IntKind.bits,IntKind.signed]
theorem zah8 (n : Nat) (h : n < 4294967296) : IntKind.u32.wrap (n : Int) = (n : Int) := by rw [wr32]; omega
theorem zap0 (a : W) : BitVec.ofInt 32 (a.toNat : Int) = a := by
  rw [BitVec.ofInt_natCast,BitVec.ofNat_toNat,BitVec.setWidth_eq]
theorem w_lt (a : W) : a.toNat < 4294967296 := a.isLt
theorem w_or (a b : W) : IntKind.u32.wrap ((BitVec.ofInt IntKind.u32.bits (a.toNat : Int) ||| BitVec.ofInt IntKind.u32.bits (b.toNat : Int)).toNat : Int) = ((a ||| b).toNat : Int) := by
  show IntKind.u32.wrap ((BitVec.ofInt 32 (a.toNat : Int) ||| BitVec.ofInt 32 (b.toNat : Int)).toNat : Int) = _
  rw [zap0,zap0,zah8 _ (w_lt _)]
theorem w_and (a b : W) : IntKind.u32.wrap ((BitVec.ofInt IntKind.u32.bits (a.toNat : Int) &&& BitVec.ofInt IntKind.u32.bits (b.toNat : Int)).toNat : Int) = ((a &&& b).toNat : Int) := by
  show IntKind.u32.wrap ((BitVec.ofInt 32 (a.toNat : Int) &&& BitVec.ofInt 32 (b.toNat : Int)).toNat : Int) = _
  rw [zap0,zap0,zah8 _ (w_lt _)]
theorem w_xor (a b : W) : IntKind.u32.wrap ((BitVec.ofInt IntKind.u32.bits (a.toNat : Int) ^^^ BitVec.ofInt IntKind.u32.bits (b.toNat : Int)).toNat : Int) = ((a ^^^ b).toNat : Int) := by
  show IntKind.u32.wrap ((BitVec.ofInt 32 (a.toNat : Int) ^^^ BitVec.ofInt 32 (b.toNat : Int)).toNat : Int) = _
  rw [zap0,zap0,zah8 _ (w_lt _)]
theorem w_not (a : W) : notI .u32 (a.toNat : Int) = ((~~~a).toNat : Int) := by
  show IntKind.u32.wrap ((BitVec.ofInt 32 4294967295 ^^^ BitVec.ofInt 32 (a.toNat : Int)).toNat : Int) = _
  rw [zap0,show BitVec.ofInt 32 4294967295 = BitVec.allOnes 32 from by decide,BitVec.allOnes_xor,zah8 _ (w_lt _)]
theorem w_add (a b : W) : IntKind.u32.wrap ((a.toNat : Int) + (b.toNat : Int)) = ((a + b).toNat : Int) := by
  rw [wr32,BitVec.toNat_add]; omega
theorem w_shr (a : W) (k : Nat) : (a.toNat : Int).fdiv (2 ^ k) = ((a >>> k).toNat : Int) := by
  rw [Int.fdiv_eq_ediv_of_nonneg _ (by exact Int.le_of_lt (Int.pow_pos (by decide))),BitVec.toNat_ushiftRight,Nat.shiftRight_eq_div_pow,Int.natCast_ediv,Int.natCast_pow]
  rfl
theorem w_shl (a : W) (k : Nat) : IntKind.u32.wrap ((a.toNat : Int) * 2 ^ k) = ((a <<< k).toNat : Int) := by
  rw [wr32,BitVec.toNat_shiftLeft,Nat.shiftLeft_eq,Int.natCast_emod,Int.natCast_mul,Int.natCast_pow]
  rfl
def rotr (x : W) (n : Nat) : W := x >>> n ||| x <<< (32 - n)
theorem zae2 (x : W) (n : Nat) (z : Int) (hz : z = (n : Int)) (hn : n ≤ 32) : gp (x.toNat : Int) z = some ((rotr x n).toNat : Int) := by
  subst hz
  have c1 : ¬ (n : Int) < 0 := by omega
  have w1 : IntKind.u64.wrap (32 - (n : Int)) = ((32 - n : Nat) : Int) := by
    have : IntKind.u64.wrap (32 - (n : Int)) = (32 - (n : Int)) % 18446744073709551616 := by simp [IntKind.wrap,IntKind.bits,IntKind.signed]
    omega
  have c2 : ¬ ((32 - n : Nat) : Int) < 0 := by omega
  have e1 : Nat.min n IntKind.u32.bits = n := Nat.min_eq_left hn
  have e2 : Nat.min (32 - n) IntKind.u32.bits = 32 - n := Nat.min_eq_left (Nat.sub_le _ _)
  unfold gp
  simp only [obz,c1,w1,c2,Int.toNat_natCast,e1,e2,w_shr,w_shl,w_or,not_false_eq_true,if_true]
  rfl
theorem back5 : ∀ n : Fin 32,0 < n.val → (IntKind.u64.wrap ((BitVec.ofInt IntKind.u64.bits (IntKind.u64.wrap (IntKind.i64.wrap (0 - (n.val : Int)))) &&& BitVec.ofInt IntKind.u64.bits (31 : Int)).toNat : Int)) = ((32 - n.val : Nat) : Int) := by decide
def wl (ws : List W) : List Int := ws.map fun a => (a.toNat : Int)
theorem zal9 (ws : List W) : (wl ws).length = ws.length := List.length_map ..
theorem th (ws : List W) (j : Nat) (z : Int) (hz : z = (j : Int)) (h : j < ws.length) : ixL (wl ws) z = some ((ws.getD j 0).toNat : Int) := by
  subst hz
  rw [sq (by rw [zal9]; exact h)]
  simp only [wl,List.getElem_map,List.getD_eq_getElem?_getD,List.getElem?_eq_getElem h,Option.getD_some]
theorem wl_set (ws : List W) (j : Nat) (x : W) : (wl ws).set j (x.toNat : Int) = wl (ws.set j x) := by rw [wl,wl,List.map_set]
def bt (s : ByteArray) (i : Nat) : W := BitVec.ofNat 32 (s.data.getD i 0).toNat
def be4 (s : ByteArray) (i : Nat) : W := bt s (4 * i) <<< 24 ||| bt s (4 * i + 1) <<< 16 ||| bt s (4 * i + 2) <<< 8 ||| bt s (4 * i + 3)
theorem bt_nat (s : ByteArray) (i : Nat) : (bt s i).toNat = (s.data.getD i 0).toNat := by
  unfold bt; rw [BitVec.toNat_ofNat]; have := (s.data.getD i 0).toNat_lt; omega
theorem bt_conv (s : ByteArray) (i : Nat) : IntKind.u32.wrap ((bt s i).toNat : Int) = ((bt s i).toNat : Int) := zah8 _ (w_lt _)
theorem za5x (s : ByteArray) (i : Nat) (z : Int) (hz : z = (i : Int)) (h : i < s.size) : ixB s z = some ((bt s i).toNat : Int) := by
  subst hz
  unfold ixB
  rw [if_pos (by omega),Int.toNat_natCast,bt_nat]
theorem bt_ext (s : ByteArray) (a i : Nat) (h : a + i < s.size) : bt (s.extract a s.size) i = bt s (a + i) := by
  have hs : s.size = s.data.size := rfl
  unfold bt
  rw [ByteArray.data_extract,Array.getD_eq_getD_getElem?,Array.getElem?_extract,if_pos (by omega),← Array.getD_eq_getD_getElem?]
def fill (s : ByteArray) : Nat → Nat → List W → List W
  | _,0,ws => ws
  | i,n + 1,ws => fill s (i + 1) n (ws.set i (be4 s i))
def sig0 (x : W) : W := rotr x 7 ^^^ rotr x 18 ^^^ x >>> 3
def sig1 (x : W) : W := rotr x 17 ^^^ rotr x 19 ^^^ x >>> 10
def nextW (ws : List W) (i : Nat) : W := ws.getD (i - 16) 0 + sig0 (ws.getD (i - 15) 0) + ws.getD (i - 7) 0 + sig1 (ws.getD (i - 2) 0)
def sched : Nat → Nat → List W → List W
  | _,0,ws => ws
  | i,n + 1,ws => sched (i + 1) n (ws.set i (nextW ws i))
structure V8 where
  a : W
  b : W
  c : W
  d : W
  e : W
  f : W
  g : W
  h : W
def V8.t1 (v : V8) (k w : W) : W := v.h + (rotr v.e 6 ^^^ rotr v.e 11 ^^^ rotr v.e 25) + (v.e &&& v.f ^^^ ~~~v.e &&& v.g) + k + w
def V8.t2 (v : V8) : W := (rotr v.a 2 ^^^ rotr v.a 13 ^^^ rotr v.a 22) + (v.a &&& v.b ^^^ v.a &&& v.c ^^^ v.b &&& v.c)
def V8.rnd (v : V8) (k w : W) : V8 := ⟨v.t1 k w + v.t2,v.a,v.b,v.c,v.d + v.t1 k w,v.e,v.f,v.g⟩
def rnds (ks ws : List W) : Nat → Nat → V8 → V8
  | _,0,v => v
  | i,n + 1,v => rnds ks ws (i + 1) n (v.rnd (ks.getD i 0) (ws.getD i 0))
def V8.list (v : V8) : List W := [v.a,v.b,v.c,v.d,v.e,v.f,v.g,v.h]
def addup (vs : List W) : Nat → Nat → List W → List W
  | _,0,hs => hs
  | i,n + 1,hs => addup vs (i + 1) n (hs.set i (hs.getD i 0 + vs.getD i 0))
def K256 : List W := [0x428a2f98,0x71374491,0xb5c0fbcf,0xe9b5dba5,0x3956c25b,0x59f111f1,0x923f82a4,0xab1c5ed5,0xd807aa98,0x12835b01,0x243185be,0x550c7dc3,0x72be5d74,0x80deb1fe,0x9bdc06a7,0xc19bf174,0xe49b69c1,0xefbe4786,0x0fc19dc6,0x240ca1cc,0x2de92c6f,0x4a7484aa,0x5cb0a9dc,0x76f988da,0x983e5152,0xa831c66d,0xb00327c8,0xbf597fc7,0xc6e00bf3,0xd5a79147,0x06ca6351,0x14292967,0x27b70a85,0x2e1b2138,0x4d2c6dfc,0x53380d13,0x650a7354,0x766a0abb,0x81c2c92e,0x92722c85,0xa2bfe8a1,0xa81a664b,0xc24b8b70,0xc76c51a3,0xd192e819,0xd6990624,0xf40e3585,0x106aa070,0x19a4c116,0x1e376c08,0x2748774c,0x34b0bcb5,0x391c0cb3,0x4ed8aa4a,0x5b9cca4f,0x682e6ff3,0x748f82ee,0x78a5636f,0x84c87814,0x8cc70208,0x90befffa,0xa4506ceb,0xbef9a3f7,0xc67178f2]
theorem K256_len : K256.length = 64 := rfl
theorem table_f : vr = some (wl K256) := rfl
def V8.ofL (l : List W) : V8 := ⟨l.getD 0 0,l.getD 1 0,l.getD 2 0,l.getD 3 0,l.getD 4 0,l.getD 5 0,l.getD 6 0,l.getD 7 0⟩
def za20 : List W := List.replicate 64 0
def words (s : ByteArray) : List W := sched 16 48 (fill s 0 16 za20)
def zaks (hs : List W) (s : ByteArray) : List W := addup (rnds K256 (words s) 0 64 (V8.ofL hs)).list 0 8 hs
theorem za53 (s : ByteArray) (n : Nat) : ∀ i ws,(fill s i n ws).length = ws.length := by
  induction n with
  | zero => intro i ws; rfl
  | succ n ih => intro i ws; rw [fill,ih,List.length_set]
theorem sched_len (n : Nat) : ∀ i ws,(sched i n ws).length = ws.length := by
  induction n with
  | zero => intro i ws; rfl
  | succ n ih => intro i ws; rw [sched,ih,List.length_set]
theorem addup_len (vs : List W) (n : Nat) : ∀ i ws,(addup vs i n ws).length = ws.length := by
  induction n with
  | zero => intro i ws; rfl
  | succ n ih => intro i ws; rw [addup,ih,List.length_set]
theorem words_len (s : ByteArray) : (words s).length = 64 := by
  unfold words; rw [sched_len,za53]; rfl
theorem zaet (hs : List W) (s : ByteArray) (h : hs.length = 8) : (zaks hs s).length = 8 := by
  unfold zaks; rw [addup_len,h]
theorem eight (l : List W) (h : l.length = 8) : ∃ a b c d e f g i : W,l = [a,b,c,d,e,f,g,i] := by
  match l,h with
  | [a,b,c,d,e,f,g,i],_ => exact ⟨a,b,c,d,e,f,g,i,rfl⟩
theorem m24 : Nat.min 24 IntKind.u32.bits = 24 := rfl
theorem m16 : Nat.min 16 IntKind.u32.bits = 16 := rfl
theorem m8 : Nat.min 8 IntKind.u32.bits = 8 := rfl
theorem m3 : Nat.min 3 IntKind.u32.bits = 3 := rfl
theorem m10 : Nat.min 10 IntKind.u32.bits = 10 := rfl
theorem tn (i : Nat) (h : i < 1000000000000) : IntKind.i64.wrap ((i : Int) + 1) = ((i + 1 : Nat) : Int) := by rw [w64 (by omega) (by omega)]; omega
theorem dec64 (i k : Nat) (z : Int) (hz : z = (k : Int)) (h : i < 1000000000000) (hk : k ≤ i) : IntKind.i64.wrap ((i : Int) - z) = ((i - k : Nat) : Int) := by rw [hz,w64 (by omega) (by omega)]; omega
theorem four64 (i : Nat) (h : i < 1000000000000) : IntKind.i64.wrap (4 * (i : Int)) = ((4 * i : Nat) : Int) := by rw [w64 (by omega) (by omega)]; omega
theorem za4i (i : Nat) (k : Nat) (z : Int) (hz : z = (k : Int)) (h : i < 1000000000000) (hk : k < 1000) : IntKind.i64.wrap ((i : Int) + z) = ((i + k : Nat) : Int) := by rw [hz,w64 (by omega) (by omega)]; omega
theorem in64 (i : Nat) (h : i < 64) : (0 ≤ (i : Int) ∧ (i : Int) < ((64 : Nat) : Int)) = True := eq_true ⟨by omega,by omega⟩
theorem in8 (i : Nat) (h : i < 8) : (0 ≤ (i : Int) ∧ (i : Int) < ((8 : Nat) : Int)) = True := eq_true ⟨by omega,by omega⟩
theorem bl1_f (s : ByteArray) (hs : s.size = 64) (x y z : List Int) (n : Nat) : ∀ (i : Nat) (ws : List W),n + i = 16 → ws.length = 64 → o6 s x y z (wl ws) (i : Int) = some (wl (fill s i n ws)) := by
  induction n with
  | zero =>
    intro i ws hi hl
    obtain rfl : i = 16 := by omega
    rw [zd]
    rfl
  | succ n ih =>
    intro i ws hi hl
    have c : (i : Int) < 16 := by omega
    have cl : (i : Nat) + 1 ≤ (wl ws).length := by rw [zal9]; omega
    rw [zd,fi]
    rw [four64 i (by omega),za4i _ 1 1 rfl (by omega) (by omega),za4i _ 2 2 rfl (by omega) (by omega),za4i _ 3 3 rfl (by omega) (by omega)]
    rw [za5x s (4 * i) _ rfl (by omega),za5x s (4 * i + 1) _ rfl (by omega),za5x s (4 * i + 2) _ rfl (by omega),za5x s (4 * i + 3) _ rfl (by omega)]
    simp only [obz,bt_conv,m24,m16,m8,w_shl,w_or,c,in64 i (by omega),Int.toNat_natCast,cl,if_true,wl_set,tn i (by omega),LS.go]
    exact ih (i + 1) _ (by omega) (by rw [List.length_set,hl])
theorem bl2_f (x y z : List Int) (n : Nat) : ∀ (i : Nat) (ws : List W),n + i = 64 → 16 ≤ i → ws.length = 64 → o5 x y z (wl ws) (i : Int) = some (wl (sched i n ws)) := by
  induction n with
  | zero =>
    intro i ws hi h16 hl
    obtain rfl : i = 64 := by omega
    rw [zc]
    rfl
  | succ n ih =>
    intro i ws hi h16 hl
    have c : (i : Int) < 64 := by omega
    have cl : (i : Nat) + 1 ≤ (wl ws).length := by rw [zal9]; omega
    rw [zc,fh]
    rw [dec64 i 15 15 rfl (by omega) (by omega),dec64 i 2 2 rfl (by omega) (by omega),dec64 i 16 16 rfl (by omega) (by omega),dec64 i 7 7 rfl (by omega) (by omega)]
    rw [th ws (i - 15) _ rfl (by omega),th ws (i - 2) _ rfl (by omega),th ws (i - 16) _ rfl (by omega),th ws (i - 7) _ rfl (by omega)]
    simp only [obz,zae2 _ 7 7 rfl (by decide),zae2 _ 18 18 rfl (by decide),zae2 _ 17 17 rfl (by decide),zae2 _ 19 19 rfl (by decide),m3,m10,w_shr,w_xor,w_add,c,in64 i (by omega),in64 (i - 15) (by omega),in64 (i - 2) (by omega),in64 (i - 16) (by omega),in64 (i - 7) (by omega),Int.toNat_natCast,cl,if_true,wl_set,tn i (by omega),LS.go]
    exact ih (i + 1) _ (by omega) (by omega) (by rw [List.length_set,hl])
theorem v8_wl (v : V8) : wl v.list = [(v.a.toNat : Int),(v.b.toNat : Int),(v.c.toNat : Int),(v.d.toNat : Int),(v.e.toNat : Int),(v.f.toNat : Int),(v.g.toNat : Int),(v.h.toNat : Int)] := rfl
theorem bl3_f (x y : List Int) (ks ws : List W) (hk : ks.length = 64) (hw : ws.length = 64) (n : Nat) : ∀ (i : Nat) (v : V8),n + i = 64 → ox x y (wl ws) (wl ks) (wl v.list) (i : Int) = some (wl (rnds ks ws i n v).list) := by
  induction n with
  | zero =>
    intro i ws hi
    obtain rfl : i = 64 := by omega
    rw [zb]
    rfl
  | succ n ih =>
    intro i v hi
    have c : (i : Int) < 64 := by omega
    rw [zb,fg]
    rw [th ks i _ rfl (by omega),th ws i _ rfl (by omega),th v.list 0 0 rfl (show 0 < 8 by decide),th v.list 1 1 rfl (show 1 < 8 by decide),th v.list 2 2 rfl (show 2 < 8 by decide),th v.list 3 3 rfl (show 3 < 8 by decide),th v.list 4 4 rfl (show 4 < 8 by decide),th v.list 5 5 rfl (show 5 < 8 by decide),th v.list 6 6 rfl (show 6 < 8 by decide),th v.list 7 7 rfl (show 7 < 8 by decide)]
    have l8 : (wl v.list).length = 8 := rfl
    simp only [obz,zae2 _ 6 6 rfl (by decide),zae2 _ 11 11 rfl (by decide),zae2 _ 25 25 rfl (by decide),zae2 _ 2 2 rfl (by decide),zae2 _ 13 13 rfl (by decide),zae2 _ 22 22 rfl (by decide),w_xor,w_add,w_and,w_not,c,in64 i (by omega),l8,if_true,tn i (by omega),LS.go]
    exact ih (i + 1) (v.rnd (ks.getD i 0) (ws.getD i 0)) (by omega)
theorem bl4_f (x : List Int) (vs : List W) (hv : vs.length = 8) (n : Nat) : ∀ (i : Nat) (hs : List W),n + i = 8 → hs.length = 8 → ov x (wl vs) (wl hs) (i : Int) = some (wl (addup vs i n hs)) := by
  induction n with
  | zero =>
    intro i ws hi hl
    obtain rfl : i = 8 := by omega
    rw [za]
    rfl
  | succ n ih =>
    intro i hs hi hl
    have c : (i : Int) < 8 := by omega
    have cl : (i : Nat) + 1 ≤ (wl hs).length := by rw [zal9]; omega
    rw [za,ff]
    rw [th hs i _ rfl (by omega),th vs i _ rfl (by omega)]
    simp only [obz,w_add,c,in8 i (by omega),Int.toNat_natCast,cl,if_true,wl_set,tn i (by omega),LS.go]
    exact ih (i + 1) _ (by omega) (by rw [List.length_set,hl])
theorem zero_wl : (List.replicate 64 (0 : Int)) = wl za20 := rfl
theorem ofL_list (hs : List W) (h : hs.length = 8) : (V8.ofL hs).list = hs := by
  obtain ⟨a,b,c,d,e,f,g,i,rfl⟩ := eight hs h
  rfl
theorem block_f (hs : List W) (s : ByteArray) (hl : hs.length = 8) (h : s.size = 64) : sw (wl hs) s = some (wl (zaks hs s)) := by
  have l8 : (wl hs).length = 8 := by rw [zal9,hl]
  have l64 : (wl K256).length = 64 := rfl
  have lb : (wl (zaks hs s)).length = 8 := by rw [zal9,zaet _ _ hl]
  unfold sw
  rw [table_f,zero_wl]
  have e1 := fun x y z => bl1_f s h x y z 16 0 za20 rfl rfl
  have e2 := fun x y z => bl2_f x y z 48 16 (fill s 0 16 za20) rfl (Nat.le_refl _) (by rw [za53]; rfl)
  have e3 := fun x y => bl3_f x y K256 (words s) K256_len (words_len s) 64 0 (V8.ofL hs) rfl
  have e4 := fun x => bl4_f x (rnds K256 (words s) 0 64 (V8.ofL hs)).list rfl 8 0 hs rfl hl
  rw [ofL_list hs hl] at e3
  simp only [obz,l64,l8,if_true]
  refine (congrArg (· >>= _) (e1 _ _ _)).trans ?_
  refine (congrArg (· >>= _) (e2 _ _ _)).trans ?_
  refine (congrArg (· >>= _) (e3 _ _)).trans ?_
  refine (congrArg (· >>= _) (e4 _)).trans ?_
  show (if (wl (zaks hs s)).length = 8 then if (wl (zaks hs s)).length = 8 then some (wl (zaks hs s)) else none else none) = _
  rw [if_pos lb,if_pos lb]
def V8.tup (v : V8) : Int × Int × Int × Int × Int × Int × Int × Int := ((v.a.toNat : Int),(v.b.toNat : Int),(v.c.toNat : Int),(v.d.toNat : Int),(v.e.toNat : Int),(v.f.toNat : Int),(v.g.toNat : Int),(v.h.toNat : Int))
theorem vg (l : List Int) : (zj l).size = l.length := by
  show (zj l).data.size = _
  simp [zj]
theorem strL_push (l : List Int) (n : Int) : (zj l).push (UInt8.ofNat n.toNat) = zj (l ++ [n]) := by
  apply ByteArray.ext
  simp [zj,ByteArray.push]
theorem strL_take (l : List Int) (b : Nat) : (zj l).extract 0 b = zj (l.take b) := by
  apply ByteArray.ext
  apply Array.toList_inj.1
  rw [ByteArray.data_extract,Array.toList_extract,List.extract_eq_take_drop,List.drop_zero,Nat.sub_zero]
  show List.take b (l.map fun n => UInt8.ofNat n.toNat) = (l.take b).map fun n => UInt8.ofNat n.toNat
  rw [List.map_take]
theorem za3j (l : List Int) (a k : Nat) : (zj l).extract a (a + k) = zj ((l.drop a).take k) := by
  apply ByteArray.ext
  apply Array.toList_inj.1
  rw [ByteArray.data_extract,Array.toList_extract,List.extract_eq_take_drop,Nat.add_sub_cancel_left]
  show List.take k (List.drop a (l.map fun n => UInt8.ofNat n.toNat)) = ((l.drop a).take k).map fun n => UInt8.ofNat n.toNat
  rw [List.map_take,List.map_drop]
theorem strL_drop (l : List Int) (a : Nat) (h : a ≤ l.length) : (zj l).extract a (zj l).size = zj (l.drop a) := by
  have : (zj l).size = a + (l.length - a) := by rw [vg]; omega
  rw [this,za3j,List.take_of_length_le (by rw [List.length_drop]; omega)]
theorem strL_bytes (s : ByteArray) : zj (rv s) = s := by
  apply ByteArray.ext
  apply Array.toList_inj.1
  show ((s.data.toList.map fun b => (b.toNat : Int)).map fun n => UInt8.ofNat n.toNat) = _
  rw [List.map_map]
  apply List.ext_getElem?
  intro i
  rw [List.getElem?_map]
  cases s.data.toList[i]? with
  | none => rfl
  | some b => show some (UInt8.ofNat ((b.toNat : Int)).toNat) = some b; rw [Int.toNat_natCast,UInt8.ofNat_toNat]
theorem strL_app1 (s : ByteArray) : s ++ (⟨#[128]⟩ : ByteArray) = zj (rv s ++ [128]) := by
  apply ByteArray.ext
  apply Array.toList_inj.1
  rw [ByteArray.data_append,Array.toList_append]
  show _ = (rv s ++ [128]).map fun n : Int => UInt8.ofNat n.toNat
  rw [List.map_append]
  congr 1
  exact (congrArg (fun b : ByteArray => b.data.toList) (strL_bytes s)).symm
theorem zaus (n k : Nat) (z : Int) (hz : z = (k : Int)) : Int.tmod (n : Int) z = ((n % k : Nat) : Int) := by subst hz; rfl
theorem wr8 (n : Int) : IntKind.u8.wrap n = n % 256 := by simp [IntKind.wrap,IntKind.bits,IntKind.signed]
theorem wr8_in (n : Int) : 0 ≤ IntKind.u8.wrap n ∧ IntKind.u8.wrap n < 256 := by rw [wr8]; omega
theorem pad2_f (x : ByteArray) (k : Nat) : ∀ l : List Int,(l.length + k) % 64 = 56 → k < 64 → l.length + k < 100000000000 → m4 x l = some (l ++ List.replicate k 0) := by
  induction k with
  | zero =>
    intro l h hk hb
    rw [zaek,fq,zaus _ 64 64 rfl,if_pos (by omega),List.replicate_zero,List.append_nil]
    rfl
  | succ k ih =>
    intro l h hk hb
    rw [zaek,fq,zaus _ 64 64 rfl,if_neg (by omega),if_pos (by omega)]
    rw [obz,LS.go]
    have e := ih (l ++ [0]) (by rw [List.length_append]; show (l.length + 1 + k) % 64 = 56; omega) (by omega) (by rw [List.length_append]; show l.length + 1 + k < _; omega)
    rw [List.append_assoc] at e
    exact e
def sh8 (L : Int) (i : Nat) : Int := IntKind.u8.wrap (Int.fdiv L (2 ^ (56 - 8 * i)))
def lb (L : Int) : Nat → Nat → List Int
  | _,0 => []
  | i,n + 1 => sh8 L i :: lb L (i + 1) n
theorem w56 (i : Nat) (h : i < 8) : IntKind.i64.wrap ((56 : Int) - (IntKind.i64.wrap ((8 : Int) * (i : Int)))) = ((56 - 8 * i : Nat) : Int) := by
  rw [w64 (n := 8 * (i : Int)) (by omega) (by omega),w64 (by omega) (by omega)]; omega
theorem u64n (n : Nat) (h : n < 1000) : IntKind.u64.wrap (n : Int) = (n : Int) := by
  have : IntKind.u64.wrap (n : Int) = (n : Int) % 18446744073709551616 := by simp [IntKind.wrap,IntKind.bits,IntKind.signed]
  omega
theorem min64 (n : Nat) (h : n ≤ 64) : Nat.min n IntKind.u64.bits = n := Nat.min_eq_left h
theorem len2_f (L : Int) (n : Nat) : ∀ (i : Nat) (l : List Int),n + i = 8 → l.length < 900000000000 + i → mz L l (i : Int) = some (l ++ lb L i n) := by
  induction n with
  | zero =>
    intro i l hi hb
    obtain rfl : i = 8 := by omega
    rw [zaej,fp,if_neg (by decide),lb,List.append_nil]
    rfl
  | succ n ih =>
    intro i l hi hb
    rw [zaej,fp,if_pos (by omega),w56 i (by omega),u64n _ (by omega),if_pos (by omega),Int.toNat_natCast,min64 _ (by omega),if_pos (by omega),tn i (by omega)]
    rw [obz,LS.go]
    have e := ih (i + 1) (l ++ [sh8 L i]) (by omega) (by rw [List.length_append]; show l.length + 1 < _; omega)
    rw [List.append_assoc] at e
    exact e
def zarh : Nat → List Int → List W → List W
  | 0,_,hs => hs
  | n + 1,m,hs => zarh n (m.drop 64) (zaks hs (zj (m.take 64)))
theorem blocks_len (n : Nat) : ∀ (m : List Int) (hs : List W),hs.length = 8 → (zarh n m hs).length = 8 := by
  induction n with
  | zero => intro m hs h; exact h
  | succ n ih => intro m hs h; exact ih _ _ (zaet _ _ h)
theorem run2_f (m : List Int) (t : Nat) (hm : m.length = 64 * t) (ht : t < 1000000000) (n : Nat) : ∀ (j : Nat) (hs : List W),n + j = t → hs.length = 8 → my (zj m) (wl hs) ((64 * j : Nat) : Int) = some (wl (zarh n (m.drop (64 * j)) hs)) := by
  induction n with
  | zero =>
    intro j hs hj hl
    rw [zaei,fo,if_neg (by rw [vg]; omega)]
    rfl
  | succ n ih =>
    intro j hs hj hl
    rw [zaei,fo,if_pos (by rw [vg]; omega),if_pos (by rw [zal9]; exact hl),za4i _ 64 64 rfl (by omega) (by omega)]
    rw [if_pos ⟨⟨by omega,by rw [vg]; omega⟩,by omega,by omega⟩,Int.toNat_natCast,Int.toNat_natCast,za3j,block_f hs _ hl (by rw [vg,List.length_take,List.length_drop]; omega)]
    rw [obz,if_pos (by rw [zal9,zaet _ _ hl]),obz,LS.go]
    have e := ih (j + 1) (zaks hs (zj ((m.drop (64 * j)).take 64))) (by omega) (zaet _ _ hl)
    rw [show 64 * (j + 1) = 64 * j + 64 from by omega,← List.drop_drop] at e
    exact e
def o4 (y : Int) : List Int := [(IntKind.u8.wrap (Int.fdiv y (2 ^ (Nat.min 24 IntKind.u32.bits)))),(IntKind.u8.wrap (Int.fdiv y (2 ^ (Nat.min 16 IntKind.u32.bits)))),(IntKind.u8.wrap (Int.fdiv y (2 ^ (Nat.min 8 IntKind.u32.bits)))),(IntKind.u8.wrap y)]
def outs (hs : List W) : Nat → Nat → List Int
  | _,0 => []
  | i,n + 1 => o4 ((hs.getD i 0).toNat : Int) ++ outs hs (i + 1) n
theorem outs_len (hs : List W) (n : Nat) : ∀ i,(outs hs i n).length = 4 * n := by
  induction n with
  | zero => intro i; rfl
  | succ n ih => intro i; rw [outs,List.length_append,ih]; show 4 + 4 * n = _; omega
theorem out2_f (hs : List W) (hl : hs.length = 8) (n : Nat) : ∀ (i : Nat) (l : List Int),n + i = 8 → l.length ≤ 100 + 4 * i → mw (wl hs) l (i : Int) = some (l ++ outs hs i n) := by
  induction n with
  | zero =>
    intro i l hi hb
    obtain rfl : i = 8 := by omega
    rw [zaeh,fk,if_neg (by decide),outs,List.append_nil]
    rfl
  | succ n ih =>
    intro i l hi hb
    rw [zaeh,fk,if_pos (by omega),if_pos ⟨by omega,by omega⟩,th hs i _ rfl (by omega)]
    rw [obz,if_pos (by omega),tn i (by omega),obz,LS.go]
    have e := ih (i + 1) (l ++ o4 ((hs.getD i 0).toNat : Int)) (by omega) (by rw [List.length_append]; show l.length + 4 ≤ _; omega)
    rw [List.append_assoc] at e
    exact e
def H0 : List W := [1779033703,3144134277,1013904242,2773480762,1359893119,2600822924,528734635,1541459225]
theorem H0_wl : ([(1779033703 : Int),(3144134277 : Int),(1013904242 : Int),(2773480762 : Int),(1359893119 : Int),(2600822924 : Int),(528734635 : Int),(1541459225 : Int)]) = wl H0 := rfl
def kz (n : Nat) : Nat := (120 - (n + 1) % 64) % 64
def bitsI (s : ByteArray) : Int := IntKind.u64.wrap ((IntKind.u64.wrap ((s.size : Nat) : Int)) * (8 : Int))
def za4u (s : ByteArray) : List Int := ((rv s ++ [128]) ++ List.replicate (kz s.size) 0) ++ lb (bitsI s) 0 8
def nblk (s : ByteArray) : Nat := (s.size + 1 + kz s.size + 8) / 64
def state (s : ByteArray) : List W := zarh (nblk s) (za4u s) H0
def SHA (s : ByteArray) : ByteArray := zj (outs (state s) 0 8)
theorem lb_len (L : Int) (n : Nat) : ∀ i,(lb L i n).length = n := by
  induction n with
  | zero => intro i; rfl
  | succ n ih => intro i; rw [lb,List.length_cons,ih]
theorem kz_ok (n : Nat) : (n + 1 + kz n) % 64 = 56 ∧ kz n < 64 := by unfold kz; omega
theorem padded_len (s : ByteArray) : (za4u s).length = 64 * nblk s := by
  have := kz_ok s.size
  unfold za4u nblk
  rw [List.length_append,List.length_append,List.length_append,lb_len,List.length_replicate,ap]
  show s.size + 1 + kz s.size + 8 = _
  omega
theorem state_len (s : ByteArray) : (state s).length = 8 := blocks_len _ _ _ rfl
theorem zav5 (s : ByteArray) : (SHA s).size = 32 := by rw [SHA,vg,outs_len]
theorem sum2_f (s : ByteArray) (h : s.size < 10000000000) : vt s = some (SHA s) := by
  have kk := kz_ok s.size
  have l1 : (rv s ++ [128]).length = s.size + 1 := by rw [List.length_append,ap]; rfl
  have e1 := pad2_f s (kz s.size) (rv s ++ [128]) (by rw [l1]; exact kk.1) kk.2 (by omega)
  have e2 := len2_f (bitsI s) 8 0 ((rv s ++ [128]) ++ List.replicate (kz s.size) 0) rfl (by rw [List.length_append,List.length_replicate]; omega)
  have e3 := run2_f (za4u s) (nblk s) (padded_len s) (by unfold nblk; omega) (nblk s) 0 H0 rfl rfl
  have e4 := out2_f (state s) (state_len s) 8 0 [] rfl (by show 0 ≤ _; omega)
  have zaeb : (m4 s (rv s ++ [128]) >>= fun y16 => mz (bitsI s) y16 (0 : Int) >>= fun y18 => my (zj y18) (wl H0) (0 : Int) >>= fun y20 => mw y20 [] (0 : Int) >>= fun y22 => some (zj y22)) = some (SHA s) := by
    refine (congrArg (· >>= _) e1).trans ?_
    refine (congrArg (· >>= _) e2).trans ?_
    refine (congrArg (· >>= _) e3).trans ?_
    refine (congrArg (· >>= _) e4).trans ?_
    rfl
  unfold vt
  by_cases z : s.size = 0
  · rw [if_pos z]
    have b0 : rv s = [] := List.eq_nil_of_length_eq_zero (by rw [ap]; exact z)
    rw [b0] at zaeb
    exact zaeb
  · rw [if_neg z,if_pos (by omega)]
    exact zaeb
def SH (s : ByteArray) : ByteArray := (SHA s).extract 0 16
theorem x5 (s : ByteArray) : (SH s).size = 16 := by unfold SH; rw [ByteArray.size_extract,zav5]; rfl
theorem zaoo (s : ByteArray) (hs : s.size < 10000000000) : ke s = some (SH s) := by
  unfold ke
  rw [sum2_f s hs,obz,if_pos ⟨by omega,by rw [zav5]; omega⟩]; rfl
def SEC (zw : ByteArray) (k i b : Int) : ByteArray := SH (zw ++ zj [IntKind.u8.wrap k,IntKind.u8.wrap i,IntKind.u8.wrap b])
def VAL (zw : ByteArray) (k i b : Int) : ByteArray := if 0 ≤ k ∧ k ≤ 255 ∧ 0 ≤ i ∧ i < 16 ∧ 0 ≤ b ∧ b < 2 then SEC zw k i b else ⟨#[]⟩
theorem three3 (a b c : Int) : (zj [a,b,c]).size = 3 := vg _
theorem val2_f (zw : ByteArray) (hs : zw.size < 100000) (k i b : Int) : qh zw k i b = some (VAL zw k i b) := by
  unfold qh VAL
  by_cases c0 : k < 0
  · rw [if_pos c0,if_neg (by omega)]
  · rw [if_neg c0]
    by_cases c1 : 255 < k
    · rw [if_pos c1,if_neg (by omega)]
    · rw [if_neg c1]
      by_cases c2 : i < 0
      · rw [if_pos c2,if_neg (by omega)]
      · rw [if_neg c2]
        by_cases c3 : 16 ≤ i
        · rw [if_pos c3,if_neg (by omega)]
        · rw [if_neg c3]
          by_cases c4 : b < 0
          · rw [if_pos c4,if_neg (by omega)]
          · rw [if_neg c4]
            by_cases c5 : 1 < b
            · rw [if_pos c5,if_neg (by omega)]
            · rw [if_neg c5,if_pos (by rw [three3]; omega),zaoo _ (by rw [ByteArray.size_append,three3]; omega),obz,if_pos (by omega)]; rfl
def bN (s : ByteArray) (i : Nat) : Nat := (s.data.getD i 0).toNat
theorem bN_lt (s : ByteArray) (i : Nat) : bN s i < 256 := (s.data.getD i 0).toNat_lt
theorem ixB_bN (s : ByteArray) (i : Nat) (z : Int) (hz : z = (i : Int)) (h : i < s.size) : ixB s z = some (bN s i : Int) := by
  subst hz
  unfold ixB
  rw [if_pos (by omega),Int.toNat_natCast]; rfl
theorem bit8 : ∀ (j : Fin 8) (b : Fin 256),IntKind.i64.wrap ((BitVec.ofInt IntKind.i64.bits (IntKind.i64.wrap (Int.fdiv (b.val : Int) (2 ^ (Nat.min j.val IntKind.u8.bits)))) &&& BitVec.ofInt IntKind.i64.bits (1 : Int)).toNat : Int) = ((b.val / 2 ^ j.val % 2 : Nat) : Int) := by decide +kernel
theorem at8 (i : Nat) (hi : i < 16) : IntKind.i64.wrap (Int.tdiv (i : Int) (8 : Int)) = ((i / 8 : Nat) : Int) := by
  rw [show Int.tdiv (i : Int) (8 : Int) = ((i / 8 : Nat) : Int) from rfl,w64 (by omega) (by omega)]
theorem left8 (i : Nat) : IntKind.i64.wrap ((7 : Int) - (Int.tmod (i : Int) (8 : Int))) = ((7 - i % 8 : Nat) : Int) := by
  rw [zaus i 8 8 rfl,w64 (by omega) (by omega)]; omega
def cat (f : Nat → ByteArray) : Nat → Nat → ByteArray → ByteArray
  | _,0,acc => acc
  | i,n + 1,acc => cat f (i + 1) n (acc ++ f i)
theorem cat_size (f : Nat → ByteArray) (hf : ∀ i,i < 16 → (f i).size = 32) (n : Nat) : ∀ (i : Nat) (acc : ByteArray),n + i = 16 → (cat f i n acc).size = acc.size + 32 * n := by
  induction n with
  | zero => intro i acc h; rfl
  | succ n ih => intro i acc h; rw [cat,ih (i + 1) _ (by omega),ByteArray.size_append,hf i (by omega)]; omega
theorem cat_congr (f g : Nat → ByteArray) (h : ∀ i,i < 16 → f i = g i) (n : Nat) : ∀ (i : Nat) (acc : ByteArray),n + i = 16 → cat f i n acc = cat g i n acc := by
  induction n with
  | zero => intro i acc _; rfl
  | succ n ih => intro i acc hi; rw [cat,cat,h i (by omega),ih (i + 1) _ (by omega)]
theorem za6i (f : Nat → ByteArray) (n : Nat) : ∀ (i : Nat) (acc : ByteArray),(cat f i n acc).data.toList = acc.data.toList ++ (cat f i n ⟨#[]⟩).data.toList := by
  induction n with
  | zero => intro i acc; simp [cat]
  | succ n ih =>
    intro i acc
    rw [cat,ih,cat,ih (i + 1) (⟨#[]⟩ ++ f i),ByteArray.toList_data_append,ByteArray.toList_data_append]
    simp
theorem cat_at (f : Nat → ByteArray) (hf : ∀ i,i < 16 → (f i).size = 32) (j : Nat) : ∀ (i n : Nat),n + i = 16 → j < n → ((cat f i n ⟨#[]⟩).data.toList.drop (32 * j)).take 32 = (f (i + j)).data.toList := by
  induction j with
  | zero =>
    intro i n h hj
    cases n with
    | zero => omega
    | succ n =>
      have l : (f i).data.toList.length = 32 := hf i (by omega)
      rw [cat,za6i,ByteArray.toList_data_append,Nat.mul_zero,List.drop_zero]
      show List.take 32 ([] ++ (f i).data.toList ++ _) = _
      rw [List.nil_append,List.take_append_of_le_length (by omega),List.take_of_length_le (by omega)]
      rfl
  | succ j ih =>
    intro i n h hj
    cases n with
    | zero => omega
    | succ n =>
      have l : (f i).data.toList.length = 32 := hf i (by omega)
      rw [cat,za6i,ByteArray.toList_data_append]
      show List.take 32 (List.drop (32 * (j + 1)) ([] ++ (f i).data.toList ++ _)) = _
      rw [List.nil_append,List.drop_append,List.drop_of_length_le (by omega),l,List.nil_append,show 32 * (j + 1) - 32 = 32 * j from by omega,ih (i + 1) n (by omega) (by omega),show i + 1 + j = i + (j + 1) from by omega]
theorem cat_cut (f : Nat → ByteArray) (hf : ∀ i,i < 16 → (f i).size = 32) (i : Nat) (hi : i < 16) : (cat f 0 16 ⟨#[]⟩).extract (32 * i) (32 * i + 32) = f i := by
  apply ByteArray.ext
  apply Array.toList_inj.1
  rw [ByteArray.data_extract,Array.toList_extract,List.extract_eq_take_drop,Nat.add_sub_cancel_left,cat_at f hf i 0 16 rfl hi,Nat.zero_add]
def isK (k : Int) : Prop := 0 ≤ k ∧ k ≤ 255
instance (k : Int) : Decidable (isK k) := inferInstanceAs (Decidable (0 ≤ k ∧ k ≤ 255))
theorem VAL_size (zw : ByteArray) (k : Int) (hk : isK k) (i : Nat) (hi : i < 16) (b : Nat) (hb : b < 2) : (VAL zw k (i : Int) (b : Int)).size = 16 := by
  unfold VAL; rw [if_pos ⟨hk.1,hk.2,by omega,by omega,by omega,by omega⟩]; exact x5 _
theorem VAL_le (zw : ByteArray) (k i b : Int) : (VAL zw k i b).size ≤ 16 := by
  unfold VAL
  split
  · exact Nat.le_of_eq (x5 _)
  · exact Nat.zero_le _
theorem flip64 (b : Nat) (hb : b < 2) : IntKind.i64.wrap ((1 : Int) - (b : Int)) = ((1 - b : Nat) : Int) := by rw [w64 (by omega) (by omega)]; omega
def pubp (zw : ByteArray) (k : Int) (i : Nat) : ByteArray := SH (VAL zw k (i : Int) 0) ++ SH (VAL zw k (i : Int) 1)
def PUB (zw : ByteArray) (k : Int) : ByteArray := SH (cat (pubp zw k) 0 16 ⟨#[]⟩)
theorem pubp_size (zw : ByteArray) (k : Int) (i : Nat) : (pubp zw k i).size = 32 := by unfold pubp; rw [ByteArray.size_append,x5,x5]
theorem pubc_size (zw : ByteArray) (k : Int) : (cat (pubp zw k) 0 16 ⟨#[]⟩).size = 512 := by rw [cat_size _ (fun i _ => pubp_size zw k i) 16 0 _ rfl]; rfl
theorem pub2_l (zw : ByteArray) (hs : zw.size < 100000) (k : Int) (n : Nat) : ∀ (i : Nat) (acc : ByteArray),n + i = 16 → acc.size ≤ 32 * i → mv zw k acc (i : Int) = some (cat (pubp zw k) i n acc) := by
  induction n with
  | zero =>
    intro i acc h ha
    rw [xe,dz,if_neg (by omega)]
    rfl
  | succ n ih =>
    intro i acc h ha
    have v1 := VAL_le zw k (i : Int) 0
    have v2 := VAL_le zw k (i : Int) 1
    rw [xe,dz,if_pos (by omega),val2_f zw hs,obz,zaoo _ (by omega),obz,if_pos (by rw [x5]; omega),val2_f zw hs,obz,zaoo _ (by omega),obz,if_pos (by rw [x5,ByteArray.size_append,x5]; omega),tn i (by omega),obz,LS.go,ByteArray.append_assoc]
    exact ih (i + 1) _ (by omega) (by rw [ByteArray.size_append,ByteArray.size_append,x5,x5]; omega)
theorem pub2_f (zw : ByteArray) (hs : zw.size < 100000) (k : Int) : qw zw k = some (if isK k then PUB zw k else ⟨#[]⟩) := by
  unfold qw
  by_cases c0 : k < 0
  · rw [if_pos c0,if_neg (by unfold isK; omega)]
  · rw [if_neg c0]
    by_cases c1 : 255 < k
    · rw [if_pos c1,if_neg (by unfold isK; omega)]
    · have c : isK k := ⟨by omega,by omega⟩
      rw [if_neg c1,if_pos c]
      refine (congrArg (fun x => (x >>= _)) (pub2_l zw hs k 16 0 ⟨#[]⟩ rfl (Nat.zero_le _))).trans ?_
      rw [obz,zaoo _ (by rw [pubc_size]; decide)]
      rfl
end Go.Proofs.Ytdcfoaafkppojaa
