import Derived.Test.YtjgpklmkdkkooaaM27
set_option linter.unusedSimpArgs false
set_option linter.unusedVariables false
set_option linter.unusedSectionVars false
/- Both digests and one-time signatures, as functions of bytes (for the keys of locks). -/
namespace Go.Proofs.Ytjgpklmkdkkooaa
open Go Go.RowKit Sh Ic
abbrev W:=BitVec 32
theorem obz {α β:Type} {a:α} {f:α → Option β}:(some a >>= f) = f a:=by generalize h:f a = x; exact h
theorem w64 {n:Int} (h1:-9223372036854775808 ≤ n) (h2:n < 9223372036854775808):IntKind.i64.wrap n = n:=by
 simp [IntKind.wrap,IntKind.bits,IntKind.signed,IntKind.max]; omega
theorem zcmt (n:Int):IntKind.u32.wrap n = n % 4294967296:=by simp [IntKind.wrap,IntKind.bits,IntKind.signed]
theorem zb9h (n:Nat) (h:n < 4294967296):IntKind.u32.wrap (n:Int) = (n:Int):=by rw [zcmt]; omega
theorem zb4q (a:W):BitVec.ofInt 32 (a.toNat:Int) = a:=by
 rw [BitVec.ofInt_natCast,BitVec.ofNat_toNat,BitVec.setWidth_eq]
theorem zb4s (a:W):a.toNat < 4294967296:=a.isLt
theorem zcgo (a b:W):IntKind.u32.wrap ((BitVec.ofInt IntKind.u32.bits (a.toNat:Int) ||| BitVec.ofInt IntKind.u32.bits (b.toNat:Int)).toNat:Int) = ((a ||| b).toNat:Int):=by
 show IntKind.u32.wrap ((BitVec.ofInt 32 (a.toNat:Int) ||| BitVec.ofInt 32 (b.toNat:Int)).toNat:Int) = _
 rw [zb4q,zb4q,zb9h _ (zb4s _)]
theorem zcaz (a b:W):IntKind.u32.wrap ((BitVec.ofInt IntKind.u32.bits (a.toNat:Int) &&& BitVec.ofInt IntKind.u32.bits (b.toNat:Int)).toNat:Int) = ((a &&& b).toNat:Int):=by
 show IntKind.u32.wrap ((BitVec.ofInt 32 (a.toNat:Int) &&& BitVec.ofInt 32 (b.toNat:Int)).toNat:Int) = _
 rw [zb4q,zb4q,zb9h _ (zb4s _)]
theorem zbx4 (a b:W):IntKind.u32.wrap ((BitVec.ofInt IntKind.u32.bits (a.toNat:Int) ^^^ BitVec.ofInt IntKind.u32.bits (b.toNat:Int)).toNat:Int) = ((a ^^^ b).toNat:Int):=by
 show IntKind.u32.wrap ((BitVec.ofInt 32 (a.toNat:Int) ^^^ BitVec.ofInt 32 (b.toNat:Int)).toNat:Int) = _
 rw [zb4q,zb4q,zb9h _ (zb4s _)]
theorem zcay (a:W):zcgw .u32 (a.toNat:Int) = ((~~~a).toNat:Int):=by
 show IntKind.u32.wrap ((BitVec.ofInt 32 4294967295 ^^^ BitVec.ofInt 32 (a.toNat:Int)).toNat:Int) = _
 rw [zb4q,show BitVec.ofInt 32 4294967295 = BitVec.allOnes 32 from by decide,BitVec.allOnes_xor,zb9h _ (zb4s _)]
theorem zbml (a b:W):IntKind.u32.wrap ((a.toNat:Int) + (b.toNat:Int)) = ((a + b).toNat:Int):=by
 rw [zcmt,BitVec.toNat_add]; omega
theorem zbx5 (a:W) (k:Nat):(a.toNat:Int).fdiv (2 ^ k) = ((a >>> k).toNat:Int):=by
 rw [Int.fdiv_eq_ediv_of_nonneg _ (by exact Int.le_of_lt (Int.pow_pos (by decide))),BitVec.toNat_ushiftRight,Nat.shiftRight_eq_div_pow,Int.natCast_ediv,Int.natCast_pow]
 rfl
theorem zbx6 (a:W) (k:Nat):IntKind.u32.wrap ((a.toNat:Int) * 2 ^ k) = ((a <<< k).toNat:Int):=by
 rw [zcmt,BitVec.toNat_shiftLeft,Nat.shiftLeft_eq,Int.natCast_emod,Int.natCast_mul,Int.natCast_pow]
 rfl
def pe (x:W) (n:Nat):W:=x >>> n ||| x <<< (32 - n)
theorem zbxb (x:W) (n:Nat) (z:Int) (hz:z = (n:Int)) (hn:n ≤ 32):mr (x.toNat:Int) z = some ((pe x n).toNat:Int):=by
 subst hz
 have c1:¬ (n:Int) < 0:=by omega
 have w1:IntKind.u64.wrap (32 - (n:Int)) = ((32 - n:Nat):Int):=by
  have:IntKind.u64.wrap (32 - (n:Int)) = (32 - (n:Int)) % 18446744073709551616:=by simp [IntKind.wrap,IntKind.bits,IntKind.signed]
  omega
 have c2:¬ ((32 - n:Nat):Int) < 0:=by omega
 have e1:Nat.min n IntKind.u32.bits = n:=Nat.min_eq_left hn
 have e2:Nat.min (32 - n) IntKind.u32.bits = 32 - n:=Nat.min_eq_left (Nat.sub_le _ _)
 unfold mr
 simp only [obz,c1,w1,c2,Int.toNat_natCast,e1,e2,zbx5,zbx6,zcgo,not_false_eq_true,if_true]
 rfl
theorem zcnt:∀ n:Fin 32,0 < n.val → (IntKind.u64.wrap ((BitVec.ofInt IntKind.u64.bits (IntKind.u64.wrap (IntKind.i64.wrap (0 - (n.val:Int)))) &&& BitVec.ofInt IntKind.u64.bits (31:Int)).toNat:Int)) = ((32 - n.val:Nat):Int):=by decide
theorem zbxd (x:W) (n:Nat) (z:Int) (hz:z = (n:Int)) (h0:0 < n) (hn:n < 32):kc (x.toNat:Int) z = some ((pe x n).toNat:Int):=by
 subst hz
 have b:=zcnt ⟨n,hn⟩ h0
 simp only at b
 have c1:¬ ((32 - n:Nat):Int) < 0:=by omega
 have w1:IntKind.u64.wrap (32 - ((32 - n:Nat):Int)) = (n:Int):=by
  have:IntKind.u64.wrap (32 - ((32 - n:Nat):Int)) = (32 - ((32 - n:Nat):Int)) % 18446744073709551616:=by simp [IntKind.wrap,IntKind.bits,IntKind.signed]
  omega
 have c2:¬ (n:Int) < 0:=by omega
 have e1:Nat.min n IntKind.u32.bits = n:=Nat.min_eq_left (Nat.le_of_lt hn)
 have e2:Nat.min (32 - n) IntKind.u32.bits = 32 - n:=Nat.min_eq_left (Nat.sub_le _ _)
 unfold kc ku
 simp only [obz,b,c1,w1,c2,Int.toNat_natCast,e1,e2,zbx5,zbx6,zcgo,not_false_eq_true,if_true]
 rw [pe,BitVec.or_comm]
def wl (ws:List W):List Int:=ws.map fun a => (a.toNat:Int)
theorem zbi5 (ws:List W):(wl ws).length = ws.length:=List.length_map ..
theorem m9 (ws:List W) (j:Nat) (z:Int) (hz:z = (j:Int)) (h:j < ws.length):ixL (wl ws) z = some ((ws.getD j 0).toNat:Int):=by
 subst hz
 rw [zbmk (by rw [zbi5]; exact h)]
 simp only [wl,List.getElem_map,List.getD_eq_getElem?_getD,List.getElem?_eq_getElem h,Option.getD_some]
theorem zb7i (ws:List W) (j:Nat) (x:W):(wl ws).set j (x.toNat:Int) = wl (ws.set j x):=by rw [wl,wl,List.map_set]
def bt (s:ByteArray) (i:Nat):W:=BitVec.ofNat 32 (s.data.getD i 0).toNat
def be4 (s:ByteArray) (i:Nat):W:=bt s (4 * i) <<< 24 ||| bt s (4 * i + 1) <<< 16 ||| bt s (4 * i + 2) <<< 8 ||| bt s (4 * i + 3)
theorem zb85 (s:ByteArray) (i:Nat):(bt s i).toNat = (s.data.getD i 0).toNat:=by
 unfold bt; rw [BitVec.toNat_ofNat]; have:=(s.data.getD i 0).toNat_lt; omega
theorem zbv1 (s:ByteArray) (i:Nat):IntKind.u32.wrap ((bt s i).toNat:Int) = ((bt s i).toNat:Int):=zb9h _ (zb4s _)
theorem zb0k (s:ByteArray) (i:Nat) (z:Int) (hz:z = (i:Int)) (h:i < s.size):ixB s z = some ((bt s i).toNat:Int):=by
 subst hz
 unfold ixB
 rw [if_pos (by omega),Int.toNat_natCast,zb85]
theorem zcdr (s:ByteArray) (a i:Nat) (h:a + i < s.size):bt (s.extract a s.size) i = bt s (a + i):=by
 have hs:s.size = s.data.size:=rfl
 unfold bt
 rw [ByteArray.data_extract,Array.getD_eq_getD_getElem?,Array.getElem?_extract,if_pos (by omega),← Array.getD_eq_getD_getElem?]
theorem zbyw (s:ByteArray) (i:Nat) (h:4 * i + 3 < s.size):zb8p (s.extract (4 * i) s.size) = some ((be4 s i).toNat:Int):=by
 have sz:(s.extract (4 * i) s.size).size = s.size - 4 * i:=by rw [ByteArray.size_extract]; omega
 unfold zb8p
 rw [zb0k _ 0 0 rfl (by omega),zb0k _ 1 1 rfl (by omega),zb0k _ 2 2 rfl (by omega),zb0k _ 3 3 rfl (by omega)]
 have m24:Nat.min 24 IntKind.u32.bits = 24:=rfl
 have m16:Nat.min 16 IntKind.u32.bits = 16:=rfl
 have m8:Nat.min 8 IntKind.u32.bits = 8:=rfl
 simp only [obz,zbv1,m24,m16,m8,zbx6,zcgo]
 rw [zcdr _ _ _ (by omega),zcdr _ _ _ (by omega),zcdr _ _ _ (by omega),zcdr _ _ _ (by omega)]
 rfl
def fill (s:ByteArray):Nat → Nat → List W → List W
 | _,0,ws => ws
 | i,n + 1,ws => fill s (i + 1) n (ws.set i (be4 s i))
def zcm3 (x:W):W:=pe x 7 ^^^ pe x 18 ^^^ x >>> 3
def zcm2 (x:W):W:=pe x 17 ^^^ pe x 19 ^^^ x >>> 10
def zbyy (ws:List W) (i:Nat):W:=ws.getD (i - 16) 0 + zcm3 (ws.getD (i - 15) 0) + ws.getD (i - 7) 0 + zcm2 (ws.getD (i - 2) 0)
def zbzy:Nat → Nat → List W → List W
 | _,0,ws => ws
 | i,n + 1,ws => zbzy (i + 1) n (ws.set i (zbyy ws i))
structure V8 where
 a:W
 b:W
 c:W
 d:W
 e:W
 f:W
 g:W
 h:W
def V8.t1 (v:V8) (k w:W):W:=v.h + (pe v.e 6 ^^^ pe v.e 11 ^^^ pe v.e 25) + (v.e &&& v.f ^^^ ~~~v.e &&& v.g) + k + w
def V8.t2 (v:V8):W:=(pe v.a 2 ^^^ pe v.a 13 ^^^ pe v.a 22) + (v.a &&& v.b ^^^ v.a &&& v.c ^^^ v.b &&& v.c)
def V8.rnd (v:V8) (k w:W):V8:=⟨v.t1 k w + v.t2,v.a,v.b,v.c,v.d + v.t1 k w,v.e,v.f,v.g⟩
def zbyn (ks ws:List W):Nat → Nat → V8 → V8
 | _,0,v => v
 | i,n + 1,v => zbyn ks ws (i + 1) n (v.rnd (ks.getD i 0) (ws.getD i 0))
def V8.list (v:V8):List W:=[v.a,v.b,v.c,v.d,v.e,v.f,v.g,v.h]
def zb3d (vs:List W):Nat → Nat → List W → List W
 | _,0,hs => hs
 | i,n + 1,hs => zb3d vs (i + 1) n (hs.set i (hs.getD i 0 + vs.getD i 0))
def rg:List W:=[0x428a2f98,0x71374491,0xb5c0fbcf,0xe9b5dba5,0x3956c25b,0x59f111f1,0x923f82a4,0xab1c5ed5,0xd807aa98,0x12835b01,0x243185be,0x550c7dc3,0x72be5d74,0x80deb1fe,0x9bdc06a7,0xc19bf174,0xe49b69c1,0xefbe4786,0x0fc19dc6,0x240ca1cc,0x2de92c6f,0x4a7484aa,0x5cb0a9dc,0x76f988da,0x983e5152,0xa831c66d,0xb00327c8,0xbf597fc7,0xc6e00bf3,0xd5a79147,0x06ca6351,0x14292967,0x27b70a85,0x2e1b2138,0x4d2c6dfc,0x53380d13,0x650a7354,0x766a0abb,0x81c2c92e,0x92722c85,0xa2bfe8a1,0xa81a664b,0xc24b8b70,0xc76c51a3,0xd192e819,0xd6990624,0xf40e3585,0x106aa070,0x19a4c116,0x1e376c08,0x2748774c,0x34b0bcb5,0x391c0cb3,0x4ed8aa4a,0x5b9cca4f,0x682e6ff3,0x748f82ee,0x78a5636f,0x84c87814,0x8cc70208,0x90befffa,0xa4506ceb,0xbef9a3f7,0xc67178f2]
theorem zchk:rg.length = 64:=rfl
theorem zb44:zb9u = some (wl rg):=rfl
theorem zdcs:xg = some (wl rg):=rfl
def V8.ofL (l:List W):V8:=⟨l.getD 0 0,l.getD 1 0,l.getD 2 0,l.getD 3 0,l.getD 4 0,l.getD 5 0,l.getD 6 0,l.getD 7 0⟩
def zbxx:List W:=List.replicate 64 0
def zbrc (s:ByteArray):List W:=zbzy 16 48 (fill s 0 16 zbxx)
def zbjf (hs:List W) (s:ByteArray):List W:=zb3d (zbyn rg (zbrc s) 0 64 (V8.ofL hs)).list 0 8 hs
theorem zcge (s:ByteArray) (n:Nat):∀ i ws,(fill s i n ws).length = ws.length:=by
 induction n with
 | zero => intro i ws; rfl
 | succ n ih => intro i ws; rw [fill,ih,List.length_set]
theorem zbsp (n:Nat):∀ i ws,(zbzy i n ws).length = ws.length:=by
 induction n with
 | zero => intro i ws; rfl
 | succ n ih => intro i ws; rw [zbzy,ih,List.length_set]
theorem zbwl (vs:List W) (n:Nat):∀ i ws,(zb3d vs i n ws).length = ws.length:=by
 induction n with
 | zero => intro i ws; rfl
 | succ n ih => intro i ws; rw [zb3d,ih,List.length_set]
theorem zcl5 (s:ByteArray):(zbrc s).length = 64:=by
 unfold zbrc; rw [zbsp,zcge]; rfl
theorem zb74 (hs:List W) (s:ByteArray) (h:hs.length = 8):(zbjf hs s).length = 8:=by
 unfold zbjf; rw [zbwl,h]
theorem zcct (l:List W) (h:l.length = 8):∃ a b c d e f g i:W,l = [a,b,c,d,e,f,g,i]:=by
 match l,h with
 | [a,b,c,d,e,f,g,i],_ => exact ⟨a,b,c,d,e,f,g,i,rfl⟩
theorem m24:Nat.min 24 IntKind.u32.bits = 24:=rfl
theorem m16:Nat.min 16 IntKind.u32.bits = 16:=rfl
theorem m8:Nat.min 8 IntKind.u32.bits = 8:=rfl
theorem m3:Nat.min 3 IntKind.u32.bits = 3:=rfl
theorem m10:Nat.min 10 IntKind.u32.bits = 10:=rfl
theorem j4 (i:Nat) (h:i < 1000000000000):IntKind.i64.wrap ((i:Int) + 1) = ((i + 1:Nat):Int):=by rw [w64 (by omega) (by omega)]; omega
theorem zbzw (i k:Nat) (z:Int) (hz:z = (k:Int)) (h:i < 1000000000000) (hk:k ≤ i):IntKind.i64.wrap ((i:Int) - z) = ((i - k:Nat):Int):=by rw [hz,w64 (by omega) (by omega)]; omega
theorem zb2k (i:Nat) (h:i < 1000000000000):IntKind.i64.wrap (4 * (i:Int)) = ((4 * i:Nat):Int):=by rw [w64 (by omega) (by omega)]; omega
theorem zcdz (i:Nat) (k:Nat) (z:Int) (hz:z = (k:Int)) (h:i < 1000000000000) (hk:k < 1000):IntKind.i64.wrap ((i:Int) + z) = ((i + k:Nat):Int):=by rw [hz,w64 (by omega) (by omega)]; omega
theorem zbcv (i:Nat) (h:i < 64):(0 ≤ (i:Int) ∧ (i:Int) < ((64:Nat):Int)) = True:=eq_true ⟨by omega,by omega⟩
theorem in8 (i:Nat) (h:i < 8):(0 ≤ (i:Int) ∧ (i:Int) < ((8:Nat):Int)) = True:=eq_true ⟨by omega,by omega⟩
theorem zcns (s:ByteArray) (hs:s.size = 64) (x y z:List Int) (n:Nat):∀ (i:Nat) (ws:List W),n + i = 16 → ws.length = 64 → zcad s x y z (wl ws) (i:Int) = some (wl (fill s i n ws)):=by
 induction n with
 | zero =>
  intro i ws hi hl
  obtain rfl:i = 16:=by omega
  rw [zc2r]
  rfl
 | succ n ih =>
  intro i ws hi hl
  have c:(i:Int) < 16:=by omega
  have cl:(i:Nat) + 1 ≤ (wl ws).length:=by rw [zbi5]; omega
  rw [zc2r,kh]
  rw [zb2k i (by omega),zcdz _ 1 1 rfl (by omega) (by omega),zcdz _ 2 2 rfl (by omega) (by omega),zcdz _ 3 3 rfl (by omega) (by omega)]
  rw [zb0k s (4 * i) _ rfl (by omega),zb0k s (4 * i + 1) _ rfl (by omega),zb0k s (4 * i + 2) _ rfl (by omega),zb0k s (4 * i + 3) _ rfl (by omega)]
  simp only [obz,zbv1,m24,m16,m8,zbx6,zcgo,c,zbcv i (by omega),Int.toNat_natCast,cl,if_true,zb7i,j4 i (by omega),LS.go]
  exact ih (i + 1) _ (by omega) (by rw [List.length_set,hl])
theorem zcnr (x y z:List Int) (n:Nat):∀ (i:Nat) (ws:List W),n + i = 64 → 16 ≤ i → ws.length = 64 → zcae x y z (wl ws) (i:Int) = some (wl (zbzy i n ws)):=by
 induction n with
 | zero =>
  intro i ws hi h16 hl
  obtain rfl:i = 64:=by omega
  rw [zc2s]
  rfl
 | succ n ih =>
  intro i ws hi h16 hl
  have c:(i:Int) < 64:=by omega
  have cl:(i:Nat) + 1 ≤ (wl ws).length:=by rw [zbi5]; omega
  rw [zc2s,kg]
  rw [zbzw i 15 15 rfl (by omega) (by omega),zbzw i 2 2 rfl (by omega) (by omega),zbzw i 16 16 rfl (by omega) (by omega),zbzw i 7 7 rfl (by omega) (by omega)]
  rw [m9 ws (i - 15) _ rfl (by omega),m9 ws (i - 2) _ rfl (by omega),m9 ws (i - 16) _ rfl (by omega),m9 ws (i - 7) _ rfl (by omega)]
  simp only [obz,zbxb _ 7 7 rfl (by decide),zbxb _ 18 18 rfl (by decide),zbxb _ 17 17 rfl (by decide),zbxb _ 19 19 rfl (by decide),m3,m10,zbx5,zbx4,zbml,c,zbcv i (by omega),zbcv (i - 15) (by omega),zbcv (i - 2) (by omega),zbcv (i - 16) (by omega),zbcv (i - 7) (by omega),Int.toNat_natCast,cl,if_true,zb7i,j4 i (by omega),LS.go]
  exact ih (i + 1) _ (by omega) (by omega) (by rw [List.length_set,hl])
theorem zcnq (x y:List Int) (ks ws:List W) (hk:ks.length = 64) (hw:ws.length = 64) (n:Nat):∀ (i:Nat) (v:V8),n + i = 64 → zcaf x y (wl ws) (wl ks) (wl v.list) (i:Int) = some (wl (zbyn ks ws i n v).list):=by
 induction n with
 | zero =>
  intro i ws hi
  obtain rfl:i = 64:=by omega
  rw [zc29]
  rfl
 | succ n ih =>
  intro i v hi
  have c:(i:Int) < 64:=by omega
  rw [zc29,kf]
  rw [m9 ks i _ rfl (by omega),m9 ws i _ rfl (by omega),m9 v.list 0 0 rfl (show 0 < 8 by decide),m9 v.list 1 1 rfl (show 1 < 8 by decide),m9 v.list 2 2 rfl (show 2 < 8 by decide),m9 v.list 3 3 rfl (show 3 < 8 by decide),m9 v.list 4 4 rfl (show 4 < 8 by decide),m9 v.list 5 5 rfl (show 5 < 8 by decide),m9 v.list 6 6 rfl (show 6 < 8 by decide),m9 v.list 7 7 rfl (show 7 < 8 by decide)]
  have l8:(wl v.list).length = 8:=rfl
  simp only [obz,zbxb _ 6 6 rfl (by decide),zbxb _ 11 11 rfl (by decide),zbxb _ 25 25 rfl (by decide),zbxb _ 2 2 rfl (by decide),zbxb _ 13 13 rfl (by decide),zbxb _ 22 22 rfl (by decide),zbx4,zbml,zcaz,zcay,c,zbcv i (by omega),l8,if_true,j4 i (by omega),LS.go]
  exact ih (i + 1) (v.rnd (ks.getD i 0) (ws.getD i 0)) (by omega)
theorem zcnp (x:List Int) (vs:List W) (hv:vs.length = 8) (n:Nat):∀ (i:Nat) (hs:List W),n + i = 8 → hs.length = 8 → zcag x (wl vs) (wl hs) (i:Int) = some (wl (zb3d vs i n hs)):=by
 induction n with
 | zero =>
  intro i ws hi hl
  obtain rfl:i = 8:=by omega
  rw [zc3a]
  rfl
 | succ n ih =>
  intro i hs hi hl
  have c:(i:Int) < 8:=by omega
  have cl:(i:Nat) + 1 ≤ (wl hs).length:=by rw [zbi5]; omega
  rw [zc3a,ke]
  rw [m9 hs i _ rfl (by omega),m9 vs i _ rfl (by omega)]
  simp only [obz,zbml,c,in8 i (by omega),Int.toNat_natCast,cl,if_true,zb7i,j4 i (by omega),LS.go]
  exact ih (i + 1) _ (by omega) (by rw [List.length_set,hl])
theorem zbq1:(List.replicate 64 (0:Int)) = wl zbxx:=rfl
theorem zbyv (hs:List W) (h:hs.length = 8):(V8.ofL hs).list = hs:=by
 obtain ⟨a,b,c,d,e,f,g,i,rfl⟩:=zcct hs h
 rfl
theorem zb60 (hs:List W) (s:ByteArray) (hl:hs.length = 8) (h:s.size = 64):zb76 (wl hs) s = some (wl (zbjf hs s)):=by
 have l8:(wl hs).length = 8:=by rw [zbi5,hl]
 have l64:(wl rg).length = 64:=rfl
 have lb:(wl (zbjf hs s)).length = 8:=by rw [zbi5,zb74 _ _ hl]
 unfold zb76
 rw [zb44,zbq1]
 have e1:=fun x y z => zcns s h x y z 16 0 zbxx rfl rfl
 have e2:=fun x y z => zcnr x y z 48 16 (fill s 0 16 zbxx) rfl (Nat.le_refl _) (by rw [zcge]; rfl)
 have e3:=fun x y => zcnq x y rg (zbrc s) zchk (zcl5 s) 64 0 (V8.ofL hs) rfl
 have e4:=fun x => zcnp x (zbyn rg (zbrc s) 0 64 (V8.ofL hs)).list rfl 8 0 hs rfl hl
 rw [zbyv hs hl] at e3
 simp only [obz,l64,l8,if_true]
 refine (congrArg (· >>= _) (e1 _ _ _)).trans ?_
 refine (congrArg (· >>= _) (e2 _ _ _)).trans ?_
 refine (congrArg (· >>= _) (e3 _ _)).trans ?_
 refine (congrArg (· >>= _) (e4 _)).trans ?_
 show (if (wl (zbjf hs s)).length = 8 then if (wl (zbjf hs s)).length = 8 then some (wl (zbjf hs s)) else none else none) = _
 rw [if_pos lb,if_pos lb]
theorem zcnb (s:ByteArray) (hs:s.size = 64) (x y:List Int) (n:Nat):∀ (i:Nat) (ws:List W) (r:List Int),n + i = 16 → ws.length = 64 → l4 x s y (wl (fill s i n ws)) (16:Int) = some r → l4 x s y (wl ws) (i:Int) = some r:=by
 induction n with
 | zero =>
  intro i ws r hi hl h
  obtain rfl:i = 16:=by omega
  exact h
 | succ n ih =>
  intro i ws r hi hl h
  have c:(i:Int) < 16:=by omega
  have c2:(i:Int) < 64:=by omega
  have cl:(i:Nat) + 1 ≤ (wl ws).length:=by rw [zbi5]; omega
  rw [xf,d6]
  rw [zb2k i (by omega)]
  have g:(0 ≤ ((4 * i:Nat):Int) ∧ ((4 * i:Nat):Int) ≤ (s.size:Int)) = True:=eq_true ⟨by omega,by omega⟩
  simp only [g,c,c2,if_true,Int.toNat_natCast]
  rw [zbyw s i (by omega)]
  simp only [obz,zbcv i (by omega),cl,if_true,zb7i,j4 i (by omega),LS.go]
  exact ih (i + 1) _ r (by omega) (by rw [List.length_set,hl]) h
theorem zcna (s:ByteArray) (x y:List Int) (n:Nat):∀ (i:Nat) (ws:List W),n + i = 64 → 16 ≤ i → ws.length = 64 → l4 x s y (wl ws) (i:Int) = some (wl (zbzy i n ws)):=by
 induction n with
 | zero =>
  intro i ws hi h16 hl
  obtain rfl:i = 64:=by omega
  rw [xf,d6,if_neg (by decide)]
  rfl
 | succ n ih =>
  intro i ws hi h16 hl
  have c:(i:Int) < 64:=by omega
  have c2:¬ (i:Int) < 16:=by omega
  have cl:(i:Nat) + 1 ≤ (wl ws).length:=by rw [zbi5]; omega
  rw [xf,d6]
  rw [zbzw i 15 15 rfl (by omega) (by omega),zbzw i 2 2 rfl (by omega) (by omega),zbzw i 16 16 rfl (by omega) (by omega),zbzw i 7 7 rfl (by omega) (by omega)]
  rw [m9 ws (i - 15) _ rfl (by omega),m9 ws (i - 2) _ rfl (by omega),m9 ws (i - 16) _ rfl (by omega),m9 ws (i - 7) _ rfl (by omega)]
  simp only [obz,zbxd _ 7 7 rfl (by decide) (by decide),zbxd _ 18 18 rfl (by decide) (by decide),zbxd _ 17 17 rfl (by decide) (by decide),zbxd _ 19 19 rfl (by decide) (by decide),m3,m10,zbx5,zbx4,zbml,c,c2,zbcv i (by omega),zbcv (i - 15) (by omega),zbcv (i - 2) (by omega),zbcv (i - 16) (by omega),zbcv (i - 7) (by omega),Int.toNat_natCast,cl,if_true,if_false,zb7i,j4 i (by omega),LS.go]
  exact ih (i + 1) _ (by omega) (by omega) (by rw [List.length_set,hl])
def V8.tup (v:V8):Int × Int × Int × Int × Int × Int × Int × Int:=((v.a.toNat:Int),(v.b.toNat:Int),(v.c.toNat:Int),(v.d.toNat:Int),(v.e.toNat:Int),(v.f.toNat:Int),(v.g.toNat:Int),(v.h.toNat:Int))
theorem zcm9 (x:List Int) (ks ws:List W) (hk:ks.length = 64) (hw:ws.length = 64) (n:Nat):∀ (i:Nat) (v:V8),n + i = 64 → rq x (wl ks) (wl ws) (v.a.toNat:Int) (v.b.toNat:Int) (v.c.toNat:Int) (v.d.toNat:Int) (v.e.toNat:Int) (v.f.toNat:Int) (v.g.toNat:Int) (v.h.toNat:Int) (i:Int) = some (zbyn ks ws i n v).tup:=by
 induction n with
 | zero =>
  intro i ws hi
  obtain rfl:i = 64:=by omega
  rw [zc6a]
  rfl
 | succ n ih =>
  intro i v hi
  have c:(i:Int) < 64:=by omega
  rw [zc6a,gu]
  rw [m9 ks i _ rfl (by omega),m9 ws i _ rfl (by omega)]
  simp only [obz,zbxd _ 6 6 rfl (by decide) (by decide),zbxd _ 11 11 rfl (by decide) (by decide),zbxd _ 25 25 rfl (by decide) (by decide),zbxd _ 2 2 rfl (by decide) (by decide),zbxd _ 13 13 rfl (by decide) (by decide),zbxd _ 22 22 rfl (by decide) (by decide),zbx4,zbml,zcaz,zcay,c,zbcv i (by omega),if_true,j4 i (by omega),LS.go]
  exact ih (i + 1) (v.rnd (ks.getD i 0) (ws.getD i 0)) (by omega)
theorem zcm8 (vs:List W) (hv:vs.length = 8) (n:Nat):∀ (i:Nat) (hs:List W),n + i = 8 → hs.length = 8 → rp (wl vs) (wl hs) (i:Int) = some (wl (zb3d vs i n hs)):=by
 induction n with
 | zero =>
  intro i ws hi hl
  obtain rfl:i = 8:=by omega
  rw [zc6b]
  rfl
 | succ n ih =>
  intro i hs hi hl
  have c:(i:Int) < 8:=by omega
  have cl:(i:Nat) + 1 ≤ (wl hs).length:=by rw [zbi5]; omega
  have cv:8 ≤ (wl vs).length:=by rw [zbi5]; omega
  rw [zc6b,gt]
  rw [m9 hs i _ rfl (by omega),m9 vs i _ rfl (by omega)]
  simp only [obz,zbml,c,cv,in8 i (by omega),Int.toNat_natCast,cl,if_true,zb7i,j4 i (by omega),LS.go]
  exact ih (i + 1) _ (by omega) (by rw [List.length_set,hl])
theorem zcnc (hs:List W) (s:ByteArray) (hl:hs.length = 8) (h:s.size = 64):tn (wl hs) s (wl rg) = some (wl (zbjf hs s)):=by
 unfold tn
 rw [zbq1]
 have e2:=zcna s (wl hs) (wl rg) 48 16 (fill s 0 16 zbxx) rfl (Nat.le_refl _) (by rw [zcge]; rfl)
 have e1:=zcnb s h (wl hs) (wl rg) 16 0 zbxx _ rfl rfl e2
 have e3:=zcm9 (wl hs) rg (zbrc s) zchk (zcl5 s) 64 0 (V8.ofL hs) rfl
 have e4:=zcm8 (zbyn rg (zbrc s) 0 64 (V8.ofL hs)).list rfl 8 0 hs rfl hl
 refine (congrArg (· >>= _) e1).trans ?_
 rw [m9 hs 0 0 rfl (by omega),m9 hs 1 1 rfl (by omega),m9 hs 2 2 rfl (by omega),m9 hs 3 3 rfl (by omega),m9 hs 4 4 rfl (by omega),m9 hs 5 5 rfl (by omega),m9 hs 6 6 rfl (by omega),m9 hs 7 7 rfl (by omega)]
 simp only [obz]
 refine (congrArg (· >>= _) e3).trans ?_
 refine (congrArg (· >>= _) e4).trans ?_
 rfl
theorem pz (l:List Int):(yu l).size = l.length:=by
 show (yu l).data.size = _
 simp [yu]
theorem zcsy (l:List Int) (n:Int):(yu l).push (UInt8.ofNat n.toNat) = yu (l ++ [n]):=by
 apply ByteArray.ext
 simp [yu,ByteArray.push]
theorem zbsg (l:List Int) (b:Nat):(yu l).extract 0 b = yu (l.take b):=by
 apply ByteArray.ext
 apply Array.toList_inj.1
 rw [ByteArray.data_extract,Array.toList_extract,List.extract_eq_take_drop,List.drop_zero,Nat.sub_zero]
 show List.take b (l.map fun n => UInt8.ofNat n.toNat) = (l.take b).map fun n => UInt8.ofNat n.toNat
 rw [List.map_take]
theorem zcqq (l:List Int) (a k:Nat):(yu l).extract a (a + k) = yu ((l.drop a).take k):=by
 apply ByteArray.ext
 apply Array.toList_inj.1
 rw [ByteArray.data_extract,Array.toList_extract,List.extract_eq_take_drop,Nat.add_sub_cancel_left]
 show List.take k (List.drop a (l.map fun n => UInt8.ofNat n.toNat)) = ((l.drop a).take k).map fun n => UInt8.ofNat n.toNat
 rw [List.map_take,List.map_drop]
theorem zbsh (l:List Int) (a:Nat) (h:a ≤ l.length):(yu l).extract a (yu l).size = yu (l.drop a):=by
 have:(yu l).size = a + (l.length - a):=by rw [pz]; omega
 rw [this,zcqq,List.take_of_length_le (by rw [List.length_drop]; omega)]
theorem zbm4 (s:ByteArray):yu (wv s) = s:=by
 apply ByteArray.ext
 apply Array.toList_inj.1
 show ((s.data.toList.map fun b => (b.toNat:Int)).map fun n => UInt8.ofNat n.toNat) = _
 rw [List.map_map]
 apply List.ext_getElem?
 intro i
 rw [List.getElem?_map]
 cases s.data.toList[i]? with
 | none => rfl
 | some b => show some (UInt8.ofNat ((b.toNat:Int)).toNat) = some b; rw [Int.toNat_natCast,UInt8.ofNat_toNat]
theorem zbsi (s:ByteArray):s ++ (⟨#[128]⟩:ByteArray) = yu (wv s ++ [128]):=by
 apply ByteArray.ext
 apply Array.toList_inj.1
 rw [ByteArray.data_append,Array.toList_append]
 show _ = (wv s ++ [128]).map fun n:Int => UInt8.ofNat n.toNat
 rw [List.map_append]
 congr 1
 exact (congrArg (fun b:ByteArray => b.data.toList) (zbm4 s)).symm
theorem zb9g (n k:Nat) (z:Int) (hz:z = (k:Int)):Int.tmod (n:Int) z = ((n % k:Nat):Int):=by subst hz; rfl
theorem wr8 (n:Int):IntKind.u8.wrap n = n % 256:=by simp [IntKind.wrap,IntKind.bits,IntKind.signed]
theorem zcaw (n:Int):0 ≤ IntKind.u8.wrap n ∧ IntKind.u8.wrap n < 256:=by rw [wr8]; omega
theorem zcb0 (L:Int) (k:Nat):∀ l:List Int,(l.length + k) % 64 = 56 → k < 64 → l.length + k < 1000000000000 → zb91 L (yu l) = some (yu (l ++ List.replicate k 0)):=by
 induction k with
 | zero =>
  intro l h hk hb
  rw [zc08,kp,pz,zb9g _ 64 64 rfl,if_pos (by omega),List.replicate_zero,List.append_nil]
  rfl
 | succ k ih =>
  intro l h hk hb
  rw [zc08,kp,pz,zb9g _ 64 64 rfl,if_neg (by omega),if_pos ⟨by omega,by omega,by omega⟩,zcsy]
  rw [obz,LS.go]
  have e:=ih (l ++ [0]) (by rw [List.length_append]; show (l.length + 1 + k) % 64 = 56; omega) (by omega) (by rw [List.length_append]; show l.length + 1 + k < _; omega)
  rw [List.append_assoc] at e
  exact e
theorem zcbz (x:ByteArray) (k:Nat):∀ l:List Int,(l.length + k) % 64 = 56 → k < 64 → l.length + k < 100000000000 → xv x l = some (l ++ List.replicate k 0):=by
 induction k with
 | zero =>
  intro l h hk hb
  rw [zcz8,lq,zb9g _ 64 64 rfl,if_pos (by omega),List.replicate_zero,List.append_nil]
  rfl
 | succ k ih =>
  intro l h hk hb
  rw [zcz8,lq,zb9g _ 64 64 rfl,if_neg (by omega),if_pos (by omega)]
  rw [obz,LS.go]
  have e:=ih (l ++ [0]) (by rw [List.length_append]; show (l.length + 1 + k) % 64 = 56; omega) (by omega) (by rw [List.length_append]; show l.length + 1 + k < _; omega)
  rw [List.append_assoc] at e
  exact e
def sh8 (L:Int) (i:Nat):Int:=IntKind.u8.wrap (Int.fdiv L (2 ^ (56 - 8 * i)))
def lb (L:Int):Nat → Nat → List Int
 | _,0 => []
 | i,n + 1 => sh8 L i :: lb L (i + 1) n
theorem w56 (i:Nat) (h:i < 8):IntKind.i64.wrap ((56:Int) - (IntKind.i64.wrap ((8:Int) * (i:Int)))) = ((56 - 8 * i:Nat):Int):=by
 rw [w64 (n:=8 * (i:Int)) (by omega) (by omega),w64 (by omega) (by omega)]; omega
theorem zdli (n:Nat) (h:n < 1000):IntKind.u64.wrap (n:Int) = (n:Int):=by
 have:IntKind.u64.wrap (n:Int) = (n:Int) % 18446744073709551616:=by simp [IntKind.wrap,IntKind.bits,IntKind.signed]
 omega
theorem zcb5 (n:Nat) (h:n ≤ 64):Nat.min n IntKind.u64.bits = n:=Nat.min_eq_left h
theorem zccb (L:Int) (n:Nat):∀ (i:Nat) (l:List Int),n + i = 8 → l.length < 900000000000 + i → zb92 L (yu l) (i:Int) = some (yu (l ++ lb L i n)):=by
 induction n with
 | zero =>
  intro i l hi hb
  obtain rfl:i = 8:=by omega
  rw [zc09,ko,if_neg (by decide),lb,List.append_nil]
  rfl
 | succ n ih =>
  intro i l hi hb
  have r:=zcaw (Int.fdiv L (2 ^ (56 - 8 * i)))
  rw [zc09,ko,if_pos (by omega),w56 i (by omega),if_pos (by omega),Int.toNat_natCast,zcb5 _ (by omega),if_pos ⟨r.1,r.2,by rw [pz]; omega⟩,zcsy,j4 i (by omega)]
  rw [obz,LS.go]
  have e:=ih (i + 1) (l ++ [sh8 L i]) (by omega) (by rw [List.length_append]; show l.length + 1 < _; omega)
  rw [List.append_assoc] at e
  exact e
theorem zcca (L:Int) (n:Nat):∀ (i:Nat) (l:List Int),n + i = 8 → l.length < 900000000000 + i → xu L l (i:Int) = some (l ++ lb L i n):=by
 induction n with
 | zero =>
  intro i l hi hb
  obtain rfl:i = 8:=by omega
  rw [zcz9,lm,if_neg (by decide),lb,List.append_nil]
  rfl
 | succ n ih =>
  intro i l hi hb
  rw [zcz9,lm,if_pos (by omega),w56 i (by omega),zdli _ (by omega),if_pos (by omega),Int.toNat_natCast,zcb5 _ (by omega),if_pos (by omega),j4 i (by omega)]
  rw [obz,LS.go]
  have e:=ih (i + 1) (l ++ [sh8 L i]) (by omega) (by rw [List.length_append]; show l.length + 1 < _; omega)
  rw [List.append_assoc] at e
  exact e
def zbxy:Nat → List Int → List W → List W
 | 0,_,hs => hs
 | n + 1,m,hs => zbxy n (m.drop 64) (zbjf hs (yu (m.take 64)))
theorem zbqg (n:Nat):∀ (m:List Int) (hs:List W),hs.length = 8 → (zbxy n m hs).length = 8:=by
 induction n with
 | zero => intro m hs h; exact h
 | succ n ih => intro m hs h; exact ih _ _ (zb74 _ _ h)
theorem zcbo (n:Nat):∀ (m:List Int) (hs:List W),m.length = 64 * n → hs.length = 8 → zb93 (wl rg) (wl hs) (yu m) = some (wl (zbxy n m hs)):=by
 induction n with
 | zero =>
  intro m hs hm hl
  obtain rfl:m = []:=List.eq_nil_of_length_eq_zero (by omega)
  rw [zc1a,kn,if_pos (show yu [] = (⟨#[]⟩:ByteArray) from rfl)]
  rfl
 | succ n ih =>
  intro m hs hm hl
  have ne:¬ yu m = (⟨#[]⟩:ByteArray):=fun h => by
   have h2:=pz m
   rw [h] at h2
   have h3:(⟨#[]⟩:ByteArray).size = 0:=rfl
   omega
  rw [zc1a,kn,if_neg ne,if_pos ⟨by omega,by rw [pz]; omega⟩,zbsg,zbsh _ _ (by omega)]
  rw [zcnc hs _ hl (by rw [pz,List.length_take]; omega)]
  rw [obz,obz,LS.go]
  exact ih _ _ (by rw [List.length_drop]; omega) (zb74 _ _ hl)
theorem zcbn (m:List Int) (t:Nat) (hm:m.length = 64 * t) (ht:t < 1000000000) (n:Nat):∀ (j:Nat) (hs:List W),n + j = t → hs.length = 8 → xt (yu m) (wl hs) ((64 * j:Nat):Int) = some (wl (zbxy n (m.drop (64 * j)) hs)):=by
 induction n with
 | zero =>
  intro j hs hj hl
  rw [zc0a,li,if_neg (by rw [pz]; omega)]
  rfl
 | succ n ih =>
  intro j hs hj hl
  rw [zc0a,li,if_pos (by rw [pz]; omega),if_pos (by rw [zbi5]; exact hl),zcdz _ 64 64 rfl (by omega) (by omega)]
  rw [if_pos ⟨⟨by omega,by rw [pz]; omega⟩,by omega,by omega⟩,Int.toNat_natCast,Int.toNat_natCast,zcqq,zb60 hs _ hl (by rw [pz,List.length_take,List.length_drop]; omega)]
  rw [obz,if_pos (by rw [zbi5,zb74 _ _ hl]),obz,LS.go]
  have e:=ih (j + 1) (zbjf hs (yu ((m.drop (64 * j)).take 64))) (by omega) (zb74 _ _ hl)
  rw [show 64 * (j + 1) = 64 * j + 64 from by omega,← List.drop_drop] at e
  exact e
def o4 (y:Int):List Int:=[(IntKind.u8.wrap (Int.fdiv y (2 ^ (Nat.min 24 IntKind.u32.bits)))),(IntKind.u8.wrap (Int.fdiv y (2 ^ (Nat.min 16 IntKind.u32.bits)))),(IntKind.u8.wrap (Int.fdiv y (2 ^ (Nat.min 8 IntKind.u32.bits)))),(IntKind.u8.wrap y)]
def zb12 (hs:List W):Nat → Nat → List Int
 | _,0 => []
 | i,n + 1 => o4 ((hs.getD i 0).toNat:Int) ++ zb12 hs (i + 1) n
theorem zbyr (hs:List W) (n:Nat):∀ i,(zb12 hs i n).length = 4 * n:=by
 induction n with
 | zero => intro i; rfl
 | succ n ih => intro i; rw [zb12,List.length_append,ih]; show 4 + 4 * n = _; omega
theorem zcb2 (hs:List W) (hl:hs.length = 8) (n:Nat):∀ (i:Nat) (l:List Int),n + i = 8 → l.length ≤ 100 + 4 * i → zb94 (wl hs) l (i:Int) = some (l ++ zb12 hs i n):=by
 induction n with
 | zero =>
  intro i l hi hb
  obtain rfl:i = 8:=by omega
  rw [zc1b,km,if_neg (by decide),zb12,List.append_nil]
  rfl
 | succ n ih =>
  intro i l hi hb
  rw [zc1b,km,if_pos (by omega),if_pos (by rw [zbi5]; omega),if_pos ⟨by omega,by omega⟩,m9 hs i _ rfl (by omega)]
  rw [obz,if_pos (by omega),j4 i (by omega),obz,LS.go]
  have e:=ih (i + 1) (l ++ o4 ((hs.getD i 0).toNat:Int)) (by omega) (by rw [List.length_append]; show l.length + 4 ≤ _; omega)
  rw [List.append_assoc] at e
  exact e
theorem zcb1 (hs:List W) (hl:hs.length = 8) (n:Nat):∀ (i:Nat) (l:List Int),n + i = 8 → l.length ≤ 100 + 4 * i → xq (wl hs) l (i:Int) = some (l ++ zb12 hs i n):=by
 induction n with
 | zero =>
  intro i l hi hb
  obtain rfl:i = 8:=by omega
  rw [zc0b,lg,if_neg (by decide),zb12,List.append_nil]
  rfl
 | succ n ih =>
  intro i l hi hb
  rw [zc0b,lg,if_pos (by omega),if_pos ⟨by omega,by omega⟩,m9 hs i _ rfl (by omega)]
  rw [obz,if_pos (by omega),j4 i (by omega),obz,LS.go]
  have e:=ih (i + 1) (l ++ o4 ((hs.getD i 0).toNat:Int)) (by omega) (by rw [List.length_append]; show l.length + 4 ≤ _; omega)
  rw [List.append_assoc] at e
  exact e
def H0:List W:=[1779033703,3144134277,1013904242,2773480762,1359893119,2600822924,528734635,1541459225]
theorem zb6g:zb9w = some (wl H0):=rfl
def kz (n:Nat):Nat:=(120 - (n + 1) % 64) % 64
def zbv9 (s:ByteArray):Int:=IntKind.u64.wrap ((IntKind.u64.wrap ((s.size:Nat):Int)) * (8:Int))
def zbq5 (s:ByteArray):List Int:=((wv s ++ [128]) ++ List.replicate (kz s.size) 0) ++ lb (zbv9 s) 0 8
def zbpn (s:ByteArray):Nat:=(s.size + 1 + kz s.size + 8) / 64
def state (s:ByteArray):List W:=zbxy (zbpn s) (zbq5 s) H0
def SHA (s:ByteArray):ByteArray:=yu (zb12 (state s) 0 8)
theorem zccc (L:Int) (n:Nat):∀ i,(lb L i n).length = n:=by
 induction n with
 | zero => intro i; rfl
 | succ n ih => intro i; rw [lb,List.length_cons,ih]
theorem zb52 (n:Nat):(n + 1 + kz n) % 64 = 56 ∧ kz n < 64:=by unfold kz; omega
theorem zcer (s:ByteArray):(zbq5 s).length = 64 * zbpn s:=by
 have:=zb52 s.size
 unfold zbq5 zbpn
 rw [List.length_append,List.length_append,List.length_append,zccc,List.length_replicate,ba]
 show s.size + 1 + kz s.size + 8 = _
 omega
theorem zceh (s:ByteArray):(state s).length = 8:=zbqg _ _ _ rfl
theorem zb7j (s:ByteArray):(SHA s).size = 32:=by rw [SHA,pz,zbyr]
theorem zb9e (s:ByteArray) (h:s.size < 10000000000):zb0c s = some (SHA s):=by
 have kk:=zb52 s.size
 have l1:(wv s ++ [128]).length = s.size + 1:=by rw [List.length_append,ba]; rfl
 have e1:=zcb0 (zbv9 s) (kz s.size) (wv s ++ [128]) (by rw [l1]; exact kk.1) kk.2 (by omega)
 have e2:=zccb (zbv9 s) 8 0 ((wv s ++ [128]) ++ List.replicate (kz s.size) 0) rfl (by rw [List.length_append,List.length_replicate]; omega)
 have e3:=zcbo (zbpn s) (zbq5 s) H0 (zcer s) rfl
 rw [show zbxy (zbpn s) (zbq5 s) H0 = state s from rfl] at e3
 have e4:=zcb2 (state s) (zceh s) 7 1 (o4 (((state s).getD 0 0).toNat:Int)) rfl (by show 4 ≤ _; omega)
 have s8:(wl (state s)).length = 8:=by rw [zbi5,zceh]
 have k64:(wl rg).length = 64:=rfl
 have h8:(wl H0).length = 8:=rfl
 have i1:IntKind.i64.wrap ((0:Int) + (1:Int)) = ((1:Nat):Int):=by decide
 unfold zb0c
 rw [if_pos (by omega),if_pos (by show s.size + 1 ≤ _; omega),zbsi,zb6g,zdcs]
 refine (congrArg (· >>= _) e1).trans ?_
 refine (congrArg (· >>= _) e2).trans ?_
 rw [obz,obz,obz,if_pos h8,if_pos k64,if_pos (by show (yu (zbq5 s)).size ≤ _; rw [pz,zcer]; have:=zcer s; unfold zbpn at *; omega)]
 refine (congrArg (· >>= _) e3).trans ?_
 show (if (wl (state s)).length = 8 then _ else none) = _
 rw [if_pos s8,if_pos (by omega)]
 show (ixL (wl (state s)) 0 >>= _) = _
 rw [m9 (state s) 0 0 rfl (by rw [zceh]; omega),obz,i1]
 refine (congrArg (· >>= _) e4).trans ?_
 rfl
theorem zb1k (s:ByteArray) (h:s.size < 10000000000):zb3y s = some (SHA s):=by
 have kk:=zb52 s.size
 have l1:(wv s ++ [128]).length = s.size + 1:=by rw [List.length_append,ba]; rfl
 have e1:=zcbz s (kz s.size) (wv s ++ [128]) (by rw [l1]; exact kk.1) kk.2 (by omega)
 have e2:=zcca (zbv9 s) 8 0 ((wv s ++ [128]) ++ List.replicate (kz s.size) 0) rfl (by rw [List.length_append,List.length_replicate]; omega)
 have e3:=zcbn (zbq5 s) (zbpn s) (zcer s) (by unfold zbpn; omega) (zbpn s) 0 H0 rfl rfl
 have e4:=zcb1 (state s) (zceh s) 8 0 [] rfl (by show 0 ≤ _; omega)
 have d5:(xv s (wv s ++ [128]) >>= fun y16 => xu (zbv9 s) y16 (0:Int) >>= fun y18 => xt (yu y18) (wl H0) (0:Int) >>= fun y20 => xq y20 [] (0:Int) >>= fun y22 => some (yu y22)) = some (SHA s):=by
  refine (congrArg (· >>= _) e1).trans ?_
  refine (congrArg (· >>= _) e2).trans ?_
  refine (congrArg (· >>= _) e3).trans ?_
  refine (congrArg (· >>= _) e4).trans ?_
  rfl
 unfold zb3y
 by_cases z:s.size = 0
 · rw [if_pos z]
   have b0:wv s = []:=List.eq_nil_of_length_eq_zero (by rw [ba]; exact z)
   rw [b0] at d5
   exact d5
 · rw [if_neg z,if_pos (by omega)]
   exact d5
noncomputable def frc {β:Type} (n:Nat) (f:Nat → β):β:=Nat.rec (f 0) (fun m _ => f (m + 1)) n
theorem zbin {β:Type} (n:Nat) (f:Nat → β):frc n f = f n:=by cases n <;> rfl
def dbl (x:Nat):Nat:=x * 4294967297
theorem zbxm (x:W) (n:Nat) (h0:0 < n) (hn:n < 32):(dbl x.toNat >>> n) % 4294967296 = (pe x n).toNat:=by
 obtain ⟨k,rfl⟩:∃ k,k = 32 - n:=⟨_,rfl⟩
 have hX:x.toNat < 2 ^ 32:=x.isLt
 generalize hx:x.toNat = X at hX
 have p32:2 ^ 32 = 2 ^ n * 2 ^ (32 - n):=by rw [← Nat.pow_add]; congr 1; omega
 have pn:0 < 2 ^ n:=Nat.two_pow_pos n
 have lt:X / 2 ^ n < 2 ^ (32 - n):=by rw [Nat.div_lt_iff_lt_mul pn,Nat.mul_comm,← p32]; exact hX
 have e1:X * 2 ^ (32 - n) % 2 ^ 32 = (X % 2 ^ n) * 2 ^ (32 - n):=by rw [p32,Nat.mul_mod_mul_right]
 have e2:dbl X / 2 ^ n = X * 2 ^ (32 - n) + X / 2 ^ n:=by
  unfold dbl
  rw [show X * 4294967297 = X + X * 2 ^ 32 from by omega,p32,Nat.mul_comm (2 ^ n),← Nat.mul_assoc,Nat.add_mul_div_right _ _ pn,Nat.add_comm]
 have lt2:(X % 2 ^ n) * 2 ^ (32 - n) + X / 2 ^ n < 2 ^ 32:=by
  have:X % 2 ^ n + 1 ≤ 2 ^ n:=Nat.mod_lt _ pn
  have h:=Nat.mul_le_mul_right (2 ^ (32 - n)) this
  rw [← p32,Nat.add_mul,Nat.one_mul] at h
  omega
 unfold pe
 rw [BitVec.toNat_or,BitVec.toNat_ushiftRight,BitVec.toNat_shiftLeft,hx,Nat.shiftRight_eq_div_pow,Nat.shiftRight_eq_div_pow,Nat.shiftLeft_eq,e1,e2]
 rw [show 4294967296 = 2 ^ 32 from rfl,Nat.add_mod,e1,Nat.or_comm,← Nat.shiftLeft_eq,← Nat.shiftLeft_add_eq_or_of_lt lt,Nat.shiftLeft_eq,← Nat.add_mod_mod,Nat.mod_mod,Nat.add_mod_mod,Nat.mod_eq_of_lt lt2]
theorem x3 (a b c:Nat):(a ^^^ b ^^^ c) % 4294967296 = (a % 4294967296) ^^^ (b % 4294967296) ^^^ (c % 4294967296):=by
 rw [show 4294967296 = 2 ^ 32 from rfl,Nat.xor_mod_two_pow,Nat.xor_mod_two_pow]
def S1 (x:Nat):Nat:=dbl x >>> 6 ^^^ dbl x >>> 11 ^^^ dbl x >>> 25
def S0 (x:Nat):Nat:=dbl x >>> 2 ^^^ dbl x >>> 13 ^^^ dbl x >>> 22
def s0N (x:Nat):Nat:=dbl x >>> 7 ^^^ dbl x >>> 18 ^^^ x >>> 3
def s1N (x:Nat):Nat:=dbl x >>> 17 ^^^ dbl x >>> 19 ^^^ x >>> 10
theorem zcnw (x:W):S1 x.toNat % 4294967296 = (pe x 6 ^^^ pe x 11 ^^^ pe x 25).toNat:=by
 unfold S1; rw [x3,zbxm x 6 (by decide) (by decide),zbxm x 11 (by decide) (by decide),zbxm x 25 (by decide) (by decide),BitVec.toNat_xor,BitVec.toNat_xor]
theorem zcnx (x:W):S0 x.toNat % 4294967296 = (pe x 2 ^^^ pe x 13 ^^^ pe x 22).toNat:=by
 unfold S0; rw [x3,zbxm x 2 (by decide) (by decide),zbxm x 13 (by decide) (by decide),zbxm x 22 (by decide) (by decide),BitVec.toNat_xor,BitVec.toNat_xor]
theorem zcm5 (x:W):s0N x.toNat % 4294967296 = (zcm3 x).toNat:=by
 unfold s0N zcm3; rw [x3,zbxm x 7 (by decide) (by decide),zbxm x 18 (by decide) (by decide),BitVec.toNat_xor,BitVec.toNat_xor,BitVec.toNat_ushiftRight,Nat.mod_eq_of_lt]
 exact Nat.lt_of_le_of_lt (by rw [Nat.shiftRight_eq_div_pow]; exact Nat.div_le_self _ _) (zb4s x)
theorem zcm4 (x:W):s1N x.toNat % 4294967296 = (zcm2 x).toNat:=by
 unfold s1N zcm2; rw [x3,zbxm x 17 (by decide) (by decide),zbxm x 19 (by decide) (by decide),BitVec.toNat_xor,BitVec.toNat_xor,BitVec.toNat_ushiftRight,Nat.mod_eq_of_lt]
 exact Nat.lt_of_le_of_lt (by rw [Nat.shiftRight_eq_div_pow]; exact Nat.div_le_self _ _) (zb4s x)
def t1N (e f g h kw:Nat):Nat:=h + S1 e + (e &&& f ^^^ (4294967295 - e) &&& g) + kw
def t2N (a b c:Nat):Nat:=S0 a + (a &&& b ^^^ a &&& c ^^^ b &&& c)
theorem zcm0 (v:V8) (k w:W) (kw:Nat) (hkw:kw % 4294967296 = (k + w).toNat):t1N v.e.toNat v.f.toNat v.g.toNat v.h.toNat kw % 4294967296 = (v.t1 k w).toNat:=by
 have e1:=zcnw v.e
 have e2:(v.e.toNat &&& v.f.toNat ^^^ (4294967295 - v.e.toNat) &&& v.g.toNat) = (v.e &&& v.f ^^^ ~~~v.e &&& v.g).toNat:=by
  rw [BitVec.toNat_xor,BitVec.toNat_and,BitVec.toNat_and,BitVec.toNat_not]
 unfold t1N V8.t1
 rw [e2]
 rw [BitVec.toNat_add] at hkw
 rw [BitVec.toNat_add,BitVec.toNat_add,BitVec.toNat_add,BitVec.toNat_add]
 omega
theorem zcmz (v:V8):t2N v.a.toNat v.b.toNat v.c.toNat % 4294967296 = v.t2.toNat:=by
 have e1:=zcnx v.a
 have e2:(v.a.toNat &&& v.b.toNat ^^^ v.a.toNat &&& v.c.toNat ^^^ v.b.toNat &&& v.c.toNat) = (v.a &&& v.b ^^^ v.a &&& v.c ^^^ v.b &&& v.c).toNat:=by
  rw [BitVec.toNat_xor,BitVec.toNat_xor,BitVec.toNat_and,BitVec.toNat_and,BitVec.toNat_and]
 unfold t2N V8.t2
 rw [e2,BitVec.toNat_add]
 omega
noncomputable def goN {β:Type} (kws:List Nat):(a b c d e f g h:Nat) → (Nat → Nat → Nat → Nat → Nat → Nat → Nat → Nat → β) → β :=
 List.rec (motive:=fun _ => (a b c d e f g h:Nat) → (Nat → Nat → Nat → Nat → Nat → Nat → Nat → Nat → β) → β)
  (fun a b c d e f g h K => K a b c d e f g h)
  (fun kw _ ih a b c d e f g h K => frc (t1N e f g h kw) fun t => frc ((d + t) % 4294967296) fun e' => frc ((t + t2N a b c) % 4294967296) fun a' => ih a' a b c e' e f g K) kws
theorem zcpa {β:Type} (kw:Nat) (l:List Nat) (a b c d e f g h:Nat) (K:Nat → Nat → Nat → Nat → Nat → Nat → Nat → Nat → β):goN (kw :: l) a b c d e f g h K = frc (t1N e f g h kw) fun t => frc ((d + t) % 4294967296) fun e' => frc ((t + t2N a b c) % 4294967296) fun a' => goN l a' a b c e' e f g K:=rfl
def V8.run {β:Type} (v:V8) (K:Nat → Nat → Nat → Nat → Nat → Nat → Nat → Nat → β):β:=K v.a.toNat v.b.toNat v.c.toNat v.d.toNat v.e.toNat v.f.toNat v.g.toNat v.h.toNat
def zb5i (v:V8):List (W × W) → V8
 | [] => v
 | p :: r => zb5i (v.rnd p.1 p.2) r
theorem zccl {β:Type} (K:Nat → Nat → Nat → Nat → Nat → Nat → Nat → Nat → β) (l:List (W × W)):∀ v:V8,v.run (fun a b c d e f g h => goN (l.map fun p => p.1.toNat + p.2.toNat) a b c d e f g h K) = (zb5i v l).run K:=by
 induction l with
 | nil => intro v; rfl
 | cons p r ih =>
  intro v
  have e1:=zcm0 v p.1 p.2 (p.1.toNat + p.2.toNat) (by rw [BitVec.toNat_add])
  have e2:=zcmz v
  have ih:=ih (v.rnd p.1 p.2)
  rw [zb5i,← ih]
  have a1:(v.d.toNat + t1N v.e.toNat v.f.toNat v.g.toNat v.h.toNat (p.1.toNat + p.2.toNat)) % 4294967296 = (v.rnd p.1 p.2).e.toNat:=by
   show _ = (v.d + v.t1 p.1 p.2).toNat
   rw [BitVec.toNat_add]; omega
  have a2:(t1N v.e.toNat v.f.toNat v.g.toNat v.h.toNat (p.1.toNat + p.2.toNat) + t2N v.a.toNat v.b.toNat v.c.toNat) % 4294967296 = (v.rnd p.1 p.2).a.toNat:=by
   show _ = (v.t1 p.1 p.2 + v.t2).toNat
   rw [BitVec.toNat_add]; omega
  simp only [V8.run,List.map_cons,zcpa,zbin]
  rw [a1,a2]
  rfl
theorem zcbp (ks ws:List W) (hk:ks.length = 64) (hw:ws.length = 64) (n:Nat):∀ (i:Nat) (v:V8),n + i = 64 → zbyn ks ws i n v = zb5i v ((ks.zip ws).drop i):=by
 induction n with
 | zero =>
  intro i v hi
  rw [List.drop_of_length_le (by rw [List.length_zip]; omega)]
  rfl
 | succ n ih =>
  intro i v hi
  rw [List.drop_eq_getElem_cons (by rw [List.length_zip]; omega),zb5i,zbyn,ih (i + 1) _ (by omega),List.getElem_zip]
  rw [List.getD_eq_getElem?_getD,List.getD_eq_getElem?_getD,List.getElem?_eq_getElem (by omega),List.getElem?_eq_getElem (by omega)]
  rfl
def zb3h (R:List Nat):Nat:=(R.getD 15 0 + s0N (R.getD 14 0) + R.getD 6 0 + s1N (R.getD 1 0)) % 4294967296
noncomputable def zb6l {β:Type} (n:Nat):List Nat → (List Nat → β) → β :=
 Nat.rec (motive:=fun _ => List Nat → (List Nat → β) → β) (fun R K => K R) (fun _ ih R K => frc (zb3h R) fun w => ih (w :: R) K) n
theorem zbvg {β:Type} (n:Nat) (R:List Nat) (K:List Nat → β):zb6l (n + 1) R K = frc (zb3h R) fun w => zb6l n (w :: R) K:=rfl
def ln (l:List W):List Nat:=l.map BitVec.toNat
theorem zcec (ws:List W) (i k j:Nat) (h:k < i) (hi:i ≤ ws.length) (hj:j = i - 1 - k):(ln (ws.take i).reverse).getD k 0 = (ws.getD j 0).toNat:=by
 subst hj
 unfold ln
 rw [List.getD_eq_getElem?_getD,List.getElem?_map,List.getElem?_reverse (by rw [List.length_take]; omega),List.length_take,Nat.min_eq_left hi,List.getElem?_take_of_lt (by omega),List.getD_eq_getElem?_getD,List.getElem?_eq_getElem (by omega)]
 rfl
theorem zbyz (ws:List W) (i:Nat) (h:16 ≤ i) (hi:i ≤ ws.length):zb3h (ln (ws.take i).reverse) = (zbyy ws i).toNat:=by
 unfold zb3h zbyy
 rw [zcec ws i 15 (i - 16) (by omega) hi (by omega),zcec ws i 14 (i - 15) (by omega) hi (by omega),zcec ws i 6 (i - 7) (by omega) hi (by omega),zcec ws i 1 (i - 2) (by omega) hi (by omega)]
 have e0:=zcm5 (ws.getD (i - 15) 0)
 have e1:=zcm4 (ws.getD (i - 2) 0)
 rw [BitVec.toNat_add,BitVec.toNat_add,BitVec.toNat_add]
 omega
theorem take_set (ws:List W) (i:Nat) (x:W) (h:i < ws.length):((ws.set i x).take (i + 1)).reverse = x :: (ws.take i).reverse:=by
 rw [List.take_add_one,List.getElem?_set_self h]
 have:(ws.set i x).take i = ws.take i:=by
  apply List.ext_getElem?
  intro j
  by_cases c:j < i
  · rw [List.getElem?_take_of_lt c,List.getElem?_take_of_lt c,List.getElem?_set_ne (by omega)]
  · rw [List.getElem?_eq_none (by rw [List.length_take,List.length_set]; omega),List.getElem?_eq_none (by rw [List.length_take]; omega)]
 rw [this,List.reverse_append]
 rfl
theorem zb6k {β:Type} (K:List Nat → β) (n:Nat):∀ (i:Nat) (ws:List W),n + i = 64 → 16 ≤ i → ws.length = 64 → zb6l n (ln (ws.take i).reverse) K = K (ln (zbzy i n ws).reverse):=by
 induction n with
 | zero =>
  intro i ws hi h16 hl
  rw [List.take_of_length_le (by omega)]
  rfl
 | succ n ih =>
  intro i ws hi h16 hl
  rw [zbvg,zbin,zbyz ws i h16 (by omega),zbzy,← ih (i + 1) (ws.set i (zbyy ws i)) (by omega) (by omega) (by rw [List.length_set,hl]),take_set ws i _ (by omega)]
  rfl
def w16 (s:ByteArray):List W:=[be4 s 15,be4 s 14,be4 s 13,be4 s 12,be4 s 11,be4 s 10,be4 s 9,be4 s 8,be4 s 7,be4 s 6,be4 s 5,be4 s 4,be4 s 3,be4 s 2,be4 s 1,be4 s 0]
theorem zca1 (s:ByteArray):((fill s 0 16 zbxx).take 16).reverse = w16 s:=by
 simp only [fill,zbxx,List.replicate,List.set_cons_zero,List.set_cons_succ,List.take_succ_cons,List.take_zero,w16,Nat.reduceAdd]
 rfl
theorem zb4r {β:Type} (s:ByteArray) (K:List Nat → β):zb6l 48 (ln (w16 s)) K = K (ln (zbrc s).reverse):=by
 rw [← zca1,zb6k K 48 16 (fill s 0 16 zbxx) rfl (Nat.le_refl _) (by rw [zcge]; rfl)]
 rfl
theorem zb83:∀ (ks ws:List W),List.zipWith (fun a b => a + b) (ln ks) (ln ws) = (ks.zip ws).map fun p => p.1.toNat + p.2.toNat
 | [],_ => by simp [ln]
 | _ :: _,[] => by simp [ln]
 | k :: ks,w :: ws => by
  have:=zb83 ks ws
  unfold ln at this ⊢
  rw [List.map_cons,List.map_cons,List.zipWith_cons_cons,this,List.zip_cons_cons,List.map_cons]
def KN:List Nat:=ln rg
noncomputable def zccs {β:Type} (a b c d e f g h:Nat) (K:Nat → Nat → Nat → Nat → Nat → Nat → Nat → Nat → β) (a' b' c' d' e' f' g' h':Nat):β :=
 frc ((a + a') % 4294967296) fun a => frc ((b + b') % 4294967296) fun b => frc ((c + c') % 4294967296) fun c => frc ((d + d') % 4294967296) fun d =>
 frc ((e + e') % 4294967296) fun e => frc ((f + f') % 4294967296) fun f => frc ((g + g') % 4294967296) fun g => frc ((h + h') % 4294967296) fun h => K a b c d e f g h
theorem zb6h {β:Type} (a b c d e f g h:W) (K:Nat → Nat → Nat → Nat → Nat → Nat → Nat → Nat → β) (v:V8):v.run (zccs a.toNat b.toNat c.toNat d.toNat e.toNat f.toNat g.toNat h.toNat K) = (V8.mk (a + v.a) (b + v.b) (c + v.c) (d + v.d) (e + v.e) (f + v.f) (g + v.g) (h + v.h)).run K:=by
 unfold V8.run zccs
 rw [zbin,zbin,zbin,zbin,zbin,zbin,zbin,zbin]
 simp only [BitVec.toNat_add]
noncomputable def zb4j {β:Type} (s:ByteArray) (a b c d e f g h:Nat) (K:Nat → Nat → Nat → Nat → Nat → Nat → Nat → Nat → β):β :=
 zb6l 48 (ln (w16 s)) fun R => goN (List.zipWith (fun a b => a + b) KN R.reverse) a b c d e f g h (zccs a b c d e f g h K)
theorem zcbs (l:List W):(ln l.reverse).reverse = ln l:=by unfold ln; rw [List.map_reverse,List.reverse_reverse]
theorem zccm {β:Type} (K:Nat → Nat → Nat → Nat → Nat → Nat → Nat → Nat → β) (l:List (W × W)) (a b c d e f g h:W):goN (l.map fun p => p.1.toNat + p.2.toNat) a.toNat b.toNat c.toNat d.toNat e.toNat f.toNat g.toNat h.toNat K = (zb5i ⟨a,b,c,d,e,f,g,h⟩ l).run K:=zccl K l ⟨a,b,c,d,e,f,g,h⟩
theorem zcda (v:V8) (a b c d e f g h:W):V8.ofL (zb3d v.list 0 8 [a,b,c,d,e,f,g,h]) = ⟨a + v.a,b + v.b,c + v.c,d + v.d,e + v.e,f + v.f,g + v.g,h + v.h⟩:=rfl
theorem zb16 (a b c d e f g h:W):V8.ofL [a,b,c,d,e,f,g,h] = ⟨a,b,c,d,e,f,g,h⟩:=rfl
theorem zbv6 {β:Type} (K:Nat → Nat → Nat → Nat → Nat → Nat → Nat → Nat → β) (s:ByteArray) (a b c d e f g h:W):zb4j s a.toNat b.toNat c.toNat d.toNat e.toNat f.toNat g.toNat h.toNat K = (V8.ofL (zbjf [a,b,c,d,e,f,g,h] s)).run K:=by
 have e2:zb5i ⟨a,b,c,d,e,f,g,h⟩ (rg.zip (zbrc s)) = zbyn rg (zbrc s) 0 64 ⟨a,b,c,d,e,f,g,h⟩:=by
  rw [zcbp rg (zbrc s) zchk (zcl5 s) 64 0 _ rfl,List.drop_zero]
 unfold zb4j
 rw [zb4r,zcbs,show KN = ln rg from rfl,zb83,zccm,e2,zb6h]
 unfold zbjf
 rw [zcda,zb16]
theorem zbv5 {β:Type} (K:Nat → Nat → Nat → Nat → Nat → Nat → Nat → Nat → β) (s:ByteArray) (hs:List W) (hl:hs.length = 8):(V8.ofL hs).run (fun a b c d e f g h => zb4j s a b c d e f g h K) = (V8.ofL (zbjf hs s)).run K:=by
 obtain ⟨a,b,c,d,e,f,g,h,rfl⟩:=zcct hs hl
 rw [zb16,← zbv6]
 rfl
noncomputable def zcal {β:Type} (n:Nat):List Int → (a b c d e f g h:Nat) → (Nat → Nat → Nat → Nat → Nat → Nat → Nat → Nat → β) → β :=
 Nat.rec (motive:=fun _ => List Int → (a b c d e f g h:Nat) → (Nat → Nat → Nat → Nat → Nat → Nat → Nat → Nat → β) → β)
  (fun _ a b c d e f g h K => K a b c d e f g h)
  (fun _ ih m a b c d e f g h K => zb4j (yu (m.take 64)) a b c d e f g h fun a b c d e f g h => ih (m.drop 64) a b c d e f g h K) n
theorem zbqh {β:Type} (K:Nat → Nat → Nat → Nat → Nat → Nat → Nat → Nat → β) (n:Nat):∀ (m:List Int) (hs:List W),hs.length = 8 → (V8.ofL hs).run (fun a b c d e f g h => zcal n m a b c d e f g h K) = (V8.ofL (zbxy n m hs)).run K:=by
 induction n with
 | zero => intro m hs hl; rfl
 | succ n ih =>
  intro m hs hl
  rw [zbxy,← ih (m.drop 64) _ (zb74 _ _ hl),← zbv5 _ _ _ hl]
  rfl
def zcgt (a b c d e f g h:Nat):ByteArray:=yu (o4 (a:Int) ++ (o4 (b:Int) ++ (o4 (c:Int) ++ (o4 (d:Int) ++ (o4 (e:Int) ++ (o4 (f:Int) ++ (o4 (g:Int) ++ (o4 (h:Int) ++ []))))))))
noncomputable def zdlt (s:ByteArray):ByteArray:=zcal (zbpn s) (zbq5 s) 1779033703 3144134277 1013904242 2773480762 1359893119 2600822924 528734635 1541459225 zcgt
theorem zb68 (s:ByteArray):SHA s = zdlt s:=(zbqh zcgt (zbpn s) (zbq5 s) H0 rfl).symm
def zbxp (x:Nat):Nat:=Nat.mul x (nat_lit 4294967297)
def S1F (x:Nat):Nat:=Nat.xor (Nat.xor (Nat.shiftRight (zbxp x) (nat_lit 6)) (Nat.shiftRight (zbxp x) (nat_lit 11))) (Nat.shiftRight (zbxp x) (nat_lit 25))
def S0F (x:Nat):Nat:=Nat.xor (Nat.xor (Nat.shiftRight (zbxp x) (nat_lit 2)) (Nat.shiftRight (zbxp x) (nat_lit 13))) (Nat.shiftRight (zbxp x) (nat_lit 22))
def s0F (x:Nat):Nat:=Nat.xor (Nat.xor (Nat.shiftRight (zbxp x) (nat_lit 7)) (Nat.shiftRight (zbxp x) (nat_lit 18))) (Nat.shiftRight x (nat_lit 3))
def s1F (x:Nat):Nat:=Nat.xor (Nat.xor (Nat.shiftRight (zbxp x) (nat_lit 17)) (Nat.shiftRight (zbxp x) (nat_lit 19))) (Nat.shiftRight x (nat_lit 10))
def t1F (e f g h kw:Nat):Nat:=Nat.add (Nat.add (Nat.add h (S1F e)) (Nat.xor (Nat.land e f) (Nat.land (Nat.sub (nat_lit 4294967295) e) g))) kw
def t2F (a b c:Nat):Nat:=Nat.add (S0F a) (Nat.xor (Nat.xor (Nat.land a b) (Nat.land a c)) (Nat.land b c))
noncomputable def frF {β:Type} (n:Nat) (f:Nat → β):β:=Nat.rec (f (nat_lit 0)) (fun m _ => f (Nat.succ m)) n
def mdF (x:Nat):Nat:=Nat.mod x (nat_lit 4294967296)
noncomputable def goF {β:Type} (kws:List Nat):(a b c d e f g h:Nat) → (Nat → Nat → Nat → Nat → Nat → Nat → Nat → Nat → β) → β :=
 List.rec (motive:=fun _ => (a b c d e f g h:Nat) → (Nat → Nat → Nat → Nat → Nat → Nat → Nat → Nat → β) → β)
  (fun a b c d e f g h K => K a b c d e f g h)
  (fun kw _ ih a b c d e f g h K => frF (t1F e f g h kw) fun t => frF (mdF (Nat.add d t)) fun e' => frF (mdF (Nat.add t (t2F a b c))) fun a' => ih a' a b c e' e f g K) kws
theorem zbva {β:Type} (n:Nat) (f:Nat → β):frF n f = frc n f:=by cases n <;> rfl
theorem zbze {β:Type} (kw:Nat) (l:List Nat) (a b c d e f g h:Nat) (K:Nat → Nat → Nat → Nat → Nat → Nat → Nat → Nat → β):goF (kw :: l) a b c d e f g h K = frF (t1N e f g h kw) fun t => frF ((d + t) % 4294967296) fun e' => frF ((t + t2N a b c) % 4294967296) fun a' => goF l a' a b c e' e f g K:=rfl
theorem zb2j {β:Type} (K:Nat → Nat → Nat → Nat → Nat → Nat → Nat → Nat → β):∀ (l:List Nat) (a b c d e f g h:Nat),goF l a b c d e f g h K = goN l a b c d e f g h K
 | [],_,_,_,_,_,_,_,_ => rfl
 | kw :: l,a,b,c,d,e,f,g,h => by simp only [zbze,zcpa,zbva,zbin,zb2j K l]
noncomputable def nth (l:List Nat) (n:Nat):Nat:=List.rec (motive:=fun _ => Nat → Nat) (fun _ => nat_lit 0) (fun x _ ih n => Nat.rec (motive:=fun _ => Nat) x (fun m _ => ih m) n) l n
theorem zb7e:∀ (l:List Nat) (n:Nat),nth l n = l.getD n 0
 | [],n => by simp [nth]
 | x :: l,0 => rfl
 | x :: l,n + 1 => by
  have:=zb7e l n
  rw [List.getD_cons_succ,← this]; rfl
noncomputable def zby1 (R:List Nat):Nat:=mdF (Nat.add (Nat.add (Nat.add (nth R (nat_lit 15)) (s0F (nth R (nat_lit 14)))) (nth R (nat_lit 6))) (s1F (nth R (nat_lit 1))))
theorem zby0 (R:List Nat):zby1 R = zb3h R:=by
 unfold zby1 zb3h
 rw [zb7e,zb7e,zb7e,zb7e]
 rfl
noncomputable def zcnl {β:Type} (n:Nat):List Nat → (List Nat → β) → β :=
 Nat.rec (motive:=fun _ => List Nat → (List Nat → β) → β) (fun R K => K R) (fun _ ih R K => frF (zby1 R) fun w => ih (w :: R) K) n
theorem zbvh {β:Type} (K:List Nat → β):∀ (n:Nat) (R:List Nat),zcnl n R K = zb6l n R K
 | 0,_ => rfl
 | n + 1,R => by
  show frF (zby1 R) (fun w => zcnl n (w :: R) K) = frc (zb3h R) fun w => zb6l n (w :: R) K
  rw [zbva,zbin,zbin,zby0,zbvh K n]
noncomputable def zdbb (ks:List Nat):List Nat → List Nat:=List.rec (motive:=fun _ => List Nat → List Nat) (fun _ => []) (fun k _ ih ws => List.rec (motive:=fun _ => List Nat) [] (fun w ws _ => Nat.add k w :: ih ws) ws) ks
theorem zbwn:∀ ks ws:List Nat,zdbb ks ws = List.zipWith (fun a b => a + b) ks ws
 | [],ws => by cases ws <;> rfl
 | k :: ks,[] => rfl
 | k :: ks,w :: ws => by
  rw [List.zipWith_cons_cons,← zbwn ks ws]; rfl
noncomputable def zda7 (l:List Nat):List Nat → List Nat:=List.rec (motive:=fun _ => List Nat → List Nat) (fun r => r) (fun x _ ih r => ih (x :: r)) l
theorem zbsw:∀ l r:List Nat,zda7 l r = l.reverse ++ r
 | [],_ => rfl
 | x :: l,r => by
  rw [List.reverse_cons,List.append_assoc,List.singleton_append,← zbsw l (x :: r)]; rfl
def KF:List Nat:=[nat_lit 1116352408,nat_lit 1899447441,nat_lit 3049323471,nat_lit 3921009573,nat_lit 961987163,nat_lit 1508970993,nat_lit 2453635748,nat_lit 2870763221,nat_lit 3624381080,nat_lit 310598401,nat_lit 607225278,nat_lit 1426881987,nat_lit 1925078388,nat_lit 2162078206,nat_lit 2614888103,nat_lit 3248222580,nat_lit 3835390401,nat_lit 4022224774,nat_lit 264347078,nat_lit 604807628,nat_lit 770255983,nat_lit 1249150122,nat_lit 1555081692,nat_lit 1996064986,nat_lit 2554220882,nat_lit 2821834349,nat_lit 2952996808,nat_lit 3210313671,nat_lit 3336571891,nat_lit 3584528711,nat_lit 113926993,nat_lit 338241895,nat_lit 666307205,nat_lit 773529912,nat_lit 1294757372,nat_lit 1396182291,nat_lit 1695183700,nat_lit 1986661051,nat_lit 2177026350,nat_lit 2456956037,nat_lit 2730485921,nat_lit 2820302411,nat_lit 3259730800,nat_lit 3345764771,nat_lit 3516065817,nat_lit 3600352804,nat_lit 4094571909,nat_lit 275423344,nat_lit 430227734,nat_lit 506948616,nat_lit 659060556,nat_lit 883997877,nat_lit 958139571,nat_lit 1322822218,nat_lit 1537002063,nat_lit 1747873779,nat_lit 1955562222,nat_lit 2024104815,nat_lit 2227730452,nat_lit 2361852424,nat_lit 2428436474,nat_lit 2756734187,nat_lit 3204031479,nat_lit 3329325298]
theorem zcn2:KF = KN:=rfl
noncomputable def byF (s:ByteArray) (i:Nat):Nat:=nth (s.data.toList.map UInt8.toNat) i
theorem zcds (s:ByteArray) (i:Nat):byF s i = (s.data.getD i 0).toNat:=by
 unfold byF
 rw [zb7e,List.getD_eq_getElem?_getD,List.getElem?_map,Array.getD_eq_getD_getElem?,← Array.getElem?_toList]
 cases s.data.toList[i]? <;> rfl
noncomputable def zakf (s:ByteArray) (i:Nat):Nat:=Nat.add (Nat.add (Nat.add (Nat.mul (byF s (Nat.mul 4 i)) (nat_lit 16777216)) (Nat.mul (byF s (Nat.add (Nat.mul 4 i) 1)) (nat_lit 65536))) (Nat.mul (byF s (Nat.add (Nat.mul 4 i) 2)) (nat_lit 256))) (byF s (Nat.add (Nat.mul 4 i) 3))
theorem zb61 (s:ByteArray) (i:Nat):zakf s i = (be4 s i).toNat:=by
 have h0:=(s.data.getD (4 * i) 0).toNat_lt
 have h1:=(s.data.getD (4 * i + 1) 0).toNat_lt
 have h2:=(s.data.getD (4 * i + 2) 0).toNat_lt
 have h3:=(s.data.getD (4 * i + 3) 0).toNat_lt
 show byF s (4 * i) * 16777216 + byF s (4 * i + 1) * 65536 + byF s (4 * i + 2) * 256 + byF s (4 * i + 3) = _
 rw [zcds,zcds,zcds,zcds]
 unfold be4
 rw [BitVec.toNat_or,BitVec.toNat_or,BitVec.toNat_or,BitVec.toNat_shiftLeft,BitVec.toNat_shiftLeft,BitVec.toNat_shiftLeft,zb85,zb85,zb85,zb85]
 generalize (s.data.getD (4 * i) 0).toNat = x0 at *
 generalize (s.data.getD (4 * i + 1) 0).toNat = x1 at *
 generalize (s.data.getD (4 * i + 2) 0).toNat = x2 at *
 generalize (s.data.getD (4 * i + 3) 0).toNat = x3 at *
 rw [Nat.shiftLeft_eq,Nat.shiftLeft_eq,Nat.shiftLeft_eq,Nat.mod_eq_of_lt (by omega),Nat.mod_eq_of_lt (by omega),Nat.mod_eq_of_lt (by omega)]
 rw [← Nat.shiftLeft_eq x0 24,← Nat.shiftLeft_add_eq_or_of_lt (show x1 * 2 ^ 16 < 2 ^ 24 by omega),Nat.shiftLeft_eq]
 rw [show x0 * 2 ^ 24 + x1 * 2 ^ 16 = (x0 * 256 + x1) * 2 ^ 16 from by omega,← Nat.shiftLeft_eq _ 16,← Nat.shiftLeft_add_eq_or_of_lt (show x2 * 2 ^ 8 < 2 ^ 16 by omega),Nat.shiftLeft_eq]
 rw [show (x0 * 256 + x1) * 2 ^ 16 + x2 * 2 ^ 8 = ((x0 * 256 + x1) * 256 + x2) * 2 ^ 8 from by omega,← Nat.shiftLeft_eq _ 8,← Nat.shiftLeft_add_eq_or_of_lt (show x3 < 2 ^ 8 by omega),Nat.shiftLeft_eq]
noncomputable def zcmv (s:ByteArray):List Nat:=[zakf s 15,zakf s 14,zakf s 13,zakf s 12,zakf s 11,zakf s 10,zakf s 9,zakf s 8,zakf s 7,zakf s 6,zakf s 5,zakf s 4,zakf s 3,zakf s 2,zakf s 1,zakf s 0]
theorem zb4u (s:ByteArray):zcmv s = ln (w16 s):=by
 unfold zcmv w16 ln
 simp only [zb61,List.map_cons,List.map_nil]
noncomputable def zcnk {β:Type} (a b c d e f g h:Nat) (K:Nat → Nat → Nat → Nat → Nat → Nat → Nat → Nat → β) (a' b' c' d' e' f' g' h':Nat):β :=
 frF (mdF (Nat.add a a')) fun a => frF (mdF (Nat.add b b')) fun b => frF (mdF (Nat.add c c')) fun c => frF (mdF (Nat.add d d')) fun d =>
 frF (mdF (Nat.add e e')) fun e => frF (mdF (Nat.add f f')) fun f => frF (mdF (Nat.add g g')) fun g => frF (mdF (Nat.add h h')) fun h => K a b c d e f g h
theorem zb6i {β:Type} (a b c d e f g h:Nat) (K:Nat → Nat → Nat → Nat → Nat → Nat → Nat → Nat → β):zcnk a b c d e f g h K = zccs a b c d e f g h K:=by
 funext a' b' c' d' e' f' g' h'
 unfold zcnk zccs
 simp only [zbva,zbin]
 rfl
noncomputable def zcdq {β:Type} (s:ByteArray) (a b c d e f g h:Nat) (K:Nat → Nat → Nat → Nat → Nat → Nat → Nat → Nat → β):β :=
 zcnl 48 (zcmv s) fun R => goF (zdbb KF (zda7 R [])) a b c d e f g h (zcnk a b c d e f g h K)
theorem zbv7 {β:Type} (s:ByteArray) (a b c d e f g h:Nat) (K:Nat → Nat → Nat → Nat → Nat → Nat → Nat → Nat → β):zcdq s a b c d e f g h K = zb4j s a b c d e f g h K:=by
 unfold zcdq zb4j
 rw [zbvh,zb4u]
 congr 1
 funext R
 rw [zb2j,zbwn,zbsw,List.append_nil,zb6i,zcn2]
noncomputable def zcea {β:Type} (n:Nat):List Int → (a b c d e f g h:Nat) → (Nat → Nat → Nat → Nat → Nat → Nat → Nat → Nat → β) → β :=
 Nat.rec (motive:=fun _ => List Int → (a b c d e f g h:Nat) → (Nat → Nat → Nat → Nat → Nat → Nat → Nat → Nat → β) → β)
  (fun _ a b c d e f g h K => K a b c d e f g h)
  (fun _ ih m a b c d e f g h K => zcdq (yu (m.take 64)) a b c d e f g h fun a b c d e f g h => ih (m.drop 64) a b c d e f g h K) n
theorem zcuf {β:Type} (K:Nat → Nat → Nat → Nat → Nat → Nat → Nat → Nat → β):∀ (n:Nat) (m:List Int) (a b c d e f g h:Nat),zcea n m a b c d e f g h K = zcal n m a b c d e f g h K
 | 0,_,_,_,_,_,_,_,_,_ => rfl
 | n + 1,m,a,b,c,d,e,f,g,h => by
  show zcdq (yu (m.take 64)) a b c d e f g h (fun a b c d e f g h => zcea n (m.drop 64) a b c d e f g h K) = zb4j (yu (m.take 64)) a b c d e f g h (fun a b c d e f g h => zcal n (m.drop 64) a b c d e f g h K)
  have e:(fun a b c d e f g h => zcea n (m.drop 64) a b c d e f g h K) = (fun a b c d e f g h => zcal n (m.drop 64) a b c d e f g h K):=by
   funext a b c d e f g h
   exact zcuf K n _ a b c d e f g h
  rw [zbv7,e]
noncomputable def zdlu (s:ByteArray):ByteArray:=zcea (zbpn s) (zbq5 s) (nat_lit 1779033703) (nat_lit 3144134277) (nat_lit 1013904242) (nat_lit 2773480762) (nat_lit 1359893119) (nat_lit 2600822924) (nat_lit 528734635) (nat_lit 1541459225) zcgt
theorem zbwu (s:ByteArray):SHA s = zdlu s:=(zb68 s).trans (zcuf zcgt (zbpn s) (zbq5 s) _ _ _ _ _ _ _ _).symm
def SH (s:ByteArray):ByteArray:=(SHA s).extract 0 16
theorem xo (s:ByteArray):(SH s).size = 16:=by unfold SH; rw [ByteArray.size_extract,zb7j]; rfl
theorem zcf9 (s:ByteArray) (hs:s.size < 10000000000):um s = some (SH s):=by
 unfold um
 rw [zb9e s hs,obz,if_pos ⟨by omega,by rw [zb7j]; omega⟩]; rfl
theorem zcga (s:ByteArray) (hs:s.size < 10000000000):ut s = some (SH s):=by
 unfold ut
 rw [zb1k s hs,obz,if_pos ⟨by omega,by rw [zb7j]; omega⟩]; rfl
def SEC (gv:ByteArray) (k i b:Int):ByteArray:=SH (gv ++ yu [IntKind.u8.wrap k,IntKind.u8.wrap i,IntKind.u8.wrap b])
def VAL (gv:ByteArray) (k i b:Int):ByteArray:=if 0 ≤ k ∧ k ≤ 255 ∧ 0 ≤ i ∧ i < 16 ∧ 0 ≤ b ∧ b < 2 then SEC gv k i b else ⟨#[]⟩
theorem zcce (k:Int):zb4e k = some (decide (0 ≤ k ∧ k ≤ 255)):=by
 unfold zb4e
 by_cases c:0 ≤ k
 · rw [if_pos c]; congr 1; by_cases d:k ≤ 255 <;> simp [c,d]
 · rw [if_neg c]; simp [c]
theorem zcd2 (a b c:Int):(yu [a,b,c]).size = 3:=pz _
theorem zb0p (gv:ByteArray) (hs:gv.size < 100000) (k i b:Int):zb4d gv k i b = some (VAL gv k i b):=by
 unfold zb4d VAL
 rw [zcce,obz]
 by_cases c1:0 ≤ k ∧ k ≤ 255
 · rw [if_pos (decide_eq_true c1)]
   by_cases c2:i < 0
   · rw [if_pos c2,if_neg (by omega)]
   · rw [if_neg c2]
     by_cases c3:16 ≤ i
     · rw [if_pos c3,if_neg (by omega)]
     · rw [if_neg c3]
       by_cases c4:b < 0
       · rw [if_pos c4,if_neg (by omega)]
       · rw [if_neg c4]
         by_cases c5:2 ≤ b
         · rw [if_pos c5,if_neg (by omega)]
         · rw [if_neg c5,if_pos (by rw [zcd2]; omega),zcf9 _ (by rw [ByteArray.size_append,zcd2]; omega),obz,if_pos (by omega)]; rfl
 · rw [if_neg (by simpa using c1),if_neg (by omega)]
theorem zb0o (gv:ByteArray) (hs:gv.size < 100000) (k i b:Int):zb39 gv k i b = some (VAL gv k i b):=by
 unfold zb39 VAL
 by_cases c0:k < 0
 · rw [if_pos c0,if_neg (by omega)]
 · rw [if_neg c0]
   by_cases c1:255 < k
   · rw [if_pos c1,if_neg (by omega)]
   · rw [if_neg c1]
     by_cases c2:i < 0
     · rw [if_pos c2,if_neg (by omega)]
     · rw [if_neg c2]
       by_cases c3:16 ≤ i
       · rw [if_pos c3,if_neg (by omega)]
       · rw [if_neg c3]
         by_cases c4:b < 0
         · rw [if_pos c4,if_neg (by omega)]
         · rw [if_neg c4]
           by_cases c5:1 < b
           · rw [if_pos c5,if_neg (by omega)]
           · rw [if_neg c5,if_pos (by rw [zcd2]; omega),zcga _ (by rw [ByteArray.size_append,zcd2]; omega),obz,if_pos (by omega)]; rfl
def bN (s:ByteArray) (i:Nat):Nat:=(s.data.getD i 0).toNat
theorem zcnu (s:ByteArray) (i:Nat):bN s i < 256:=(s.data.getD i 0).toNat_lt
theorem zccj (s:ByteArray) (i:Nat) (z:Int) (hz:z = (i:Int)) (h:i < s.size):ixB s z = some (bN s i:Int):=by
 subst hz
 unfold ixB
 rw [if_pos (by omega),Int.toNat_natCast]; rfl
def bit (d:ByteArray) (i:Nat):Nat:=bN d (i / 8) / 2 ^ (7 - i % 8) % 2
theorem zb84 (d:ByteArray) (i:Nat):bit d i < 2:=Nat.mod_lt _ (by decide)
theorem zdls:∀ (j:Fin 8) (b:Fin 256),IntKind.i64.wrap ((BitVec.ofInt IntKind.i64.bits (IntKind.i64.wrap (Int.fdiv (b.val:Int) (2 ^ (Nat.min j.val IntKind.u8.bits)))) &&& BitVec.ofInt IntKind.i64.bits (1:Int)).toNat:Int) = ((b.val / 2 ^ j.val % 2:Nat):Int):=by decide +kernel
theorem at8 (i:Nat) (hi:i < 16):IntKind.i64.wrap (Int.tdiv (i:Int) (8:Int)) = ((i / 8:Nat):Int):=by
 rw [show Int.tdiv (i:Int) (8:Int) = ((i / 8:Nat):Int) from rfl,w64 (by omega) (by omega)]
theorem zcne (i:Nat):IntKind.i64.wrap ((7:Int) - (Int.tmod (i:Int) (8:Int))) = ((7 - i % 8:Nat):Int):=by
 rw [zb9g i 8 8 rfl,w64 (by omega) (by omega)]; omega
theorem zb2s (d:ByteArray) (hd:d.size = 32) (i:Nat) (hi:i < 16):xh (i:Int) d = some (bit d i:Int):=by
 unfold xh
 rw [at8 i hi,zccj d (i / 8) _ rfl (by omega),obz,zcne,if_pos (by omega),Int.toNat_natCast,obz]
 exact congrArg some (zdls ⟨7 - i % 8,by omega⟩ ⟨bN d (i / 8),zcnu _ _⟩)
def cat (f:Nat → ByteArray):Nat → Nat → ByteArray → ByteArray
 | _,0,acc => acc
 | i,n + 1,acc => cat f (i + 1) n (acc ++ f i)
theorem zcht (f:Nat → ByteArray) (hf:∀ i,i < 16 → (f i).size = 32) (n:Nat):∀ (i:Nat) (acc:ByteArray),n + i = 16 → (cat f i n acc).size = acc.size + 32 * n:=by
 induction n with
 | zero => intro i acc h; rfl
 | succ n ih => intro i acc h; rw [cat,ih (i + 1) _ (by omega),ByteArray.size_append,hf i (by omega)]; omega
theorem zbvr (f g:Nat → ByteArray) (h:∀ i,i < 16 → f i = g i) (n:Nat):∀ (i:Nat) (acc:ByteArray),n + i = 16 → cat f i n acc = cat g i n acc:=by
 induction n with
 | zero => intro i acc _; rfl
 | succ n ih => intro i acc hi; rw [cat,cat,h i (by omega),ih (i + 1) _ (by omega)]
theorem zcot (f:Nat → ByteArray) (n:Nat):∀ (i:Nat) (acc:ByteArray),(cat f i n acc).data.toList = acc.data.toList ++ (cat f i n ⟨#[]⟩).data.toList:=by
 induction n with
 | zero => intro i acc; simp [cat]
 | succ n ih =>
  intro i acc
  rw [cat,ih,cat,ih (i + 1) (⟨#[]⟩ ++ f i),ByteArray.toList_data_append,ByteArray.toList_data_append]
  simp
theorem zccy (f:Nat → ByteArray) (hf:∀ i,i < 16 → (f i).size = 32) (j:Nat):∀ (i n:Nat),n + i = 16 → j < n → ((cat f i n ⟨#[]⟩).data.toList.drop (32 * j)).take 32 = (f (i + j)).data.toList:=by
 induction j with
 | zero =>
  intro i n h hj
  cases n with
  | zero => omega
  | succ n =>
   have l:(f i).data.toList.length = 32:=hf i (by omega)
   rw [cat,zcot,ByteArray.toList_data_append,Nat.mul_zero,List.drop_zero]
   show List.take 32 ([] ++ (f i).data.toList ++ _) = _
   rw [List.nil_append,List.take_append_of_le_length (by omega),List.take_of_length_le (by omega)]
   rfl
 | succ j ih =>
  intro i n h hj
  cases n with
  | zero => omega
  | succ n =>
   have l:(f i).data.toList.length = 32:=hf i (by omega)
   rw [cat,zcot,ByteArray.toList_data_append]
   show List.take 32 (List.drop (32 * (j + 1)) ([] ++ (f i).data.toList ++ _)) = _
   rw [List.nil_append,List.drop_append,List.drop_of_length_le (by omega),l,List.nil_append,show 32 * (j + 1) - 32 = 32 * j from by omega,ih (i + 1) n (by omega) (by omega),show i + 1 + j = i + (j + 1) from by omega]
theorem zbvq (f:Nat → ByteArray) (hf:∀ i,i < 16 → (f i).size = 32) (i:Nat) (hi:i < 16):(cat f 0 16 ⟨#[]⟩).extract (32 * i) (32 * i + 32) = f i:=by
 apply ByteArray.ext
 apply Array.toList_inj.1
 rw [ByteArray.data_extract,Array.toList_extract,List.extract_eq_take_drop,Nat.add_sub_cancel_left,zccy f hf i 0 16 rfl hi,Nat.zero_add]
def zbq0 (gv:ByteArray) (k:Int) (d:ByteArray) (i:Nat):ByteArray:=VAL gv k (i:Int) (bit d i:Int) ++ SH (VAL gv k (i:Int) ((1 - bit d i:Nat):Int))
def en (gv:ByteArray) (k:Int) (msg:ByteArray):ByteArray:=cat (zbq0 gv k (SHA msg)) 0 16 ⟨#[]⟩
def isK (k:Int):Prop:=0 ≤ k ∧ k ≤ 255
instance (k:Int):Decidable (isK k):=inferInstanceAs (Decidable (0 ≤ k ∧ k ≤ 255))
theorem zchl (gv:ByteArray) (k:Int) (hk:isK k) (i:Nat) (hi:i < 16) (b:Nat) (hb:b < 2):(VAL gv k (i:Int) (b:Int)).size = 16:=by
 unfold VAL; rw [if_pos ⟨hk.1,hk.2,by omega,by omega,by omega,by omega⟩]; exact xo _
theorem zcdt (gv:ByteArray) (k i b:Int):(VAL gv k i b).size ≤ 16:=by
 unfold VAL
 split
 · exact Nat.le_of_eq (xo _)
 · exact Nat.zero_le _
theorem zceg (gv:ByteArray) (k:Int) (hk:isK k) (d:ByteArray) (i:Nat) (hi:i < 16):(zbq0 gv k d i).size = 32:=by
 unfold zbq0
 rw [ByteArray.size_append,xo,zchl gv k hk i hi _ (zb84 d i)]
theorem zcms (gv:ByteArray) (k:Int) (hk:isK k) (msg:ByteArray):(en gv k msg).size = 512:=by
 unfold en; rw [zcht _ (fun i hi => zceg gv k hk _ i hi) 16 0 _ rfl]; rfl
theorem zccr (b:Nat) (hb:b < 2):IntKind.i64.wrap ((1:Int) - (b:Int)) = ((1 - b:Nat):Int):=by rw [w64 (by omega) (by omega)]; omega
theorem zbyj (gv:ByteArray) (hs:gv.size < 100000) (k:Int) (d:ByteArray) (hd:d.size = 32) (i:Nat) (hi:i < 16):zb8m (i:Int) gv k d = some (zbq0 gv k d i):=by
 have v1:=zcdt gv k (i:Int) (bit d i:Int)
 have v2:=zcdt gv k (i:Int) ((1 - bit d i:Nat):Int)
 unfold zb8m
 rw [zb2s d hd i hi,obz,zb0p gv hs,obz,zccr _ (zb84 d i),zb0p gv hs,obz,zcf9 _ (by omega),obz,if_pos (by rw [xo]; omega)]
 rfl
theorem zb5e (gv:ByteArray) (hs:gv.size < 100000) (k:Int) (hk:isK k) (d:ByteArray) (hd:d.size = 32) (n:Nat):∀ (i:Nat) (acc:ByteArray),n + i = 16 → acc.size ≤ 32 * i → zb90 gv k d acc (i:Int) = some (cat (zbq0 gv k d) i n acc):=by
 induction n with
 | zero =>
  intro i acc h ha
  rw [zc1j,kq,if_neg (by omega)]
  rfl
 | succ n ih =>
  intro i acc h ha
  have sz:=zceg gv k hk d i (by omega)
  rw [zc1j,kq,if_pos (by omega),zbyj gv hs k d hd i (by omega),obz,if_pos (by omega),j4 i (by omega),obz,LS.go]
  exact ih (i + 1) _ (by omega) (by rw [ByteArray.size_append]; omega)
theorem zcc9 (gv:ByteArray) (hs:gv.size < 100000) (k:Int) (hk:isK k) (msg:ByteArray):zb7r gv k (SHA msg) = some (en gv k msg):=by
 have e:=zb5e gv hs k hk (SHA msg) (zb7j msg) 16 0 ⟨#[]⟩ rfl (Nat.zero_le _)
 rw [show cat (zbq0 gv k (SHA msg)) 0 16 ⟨#[]⟩ = en gv k msg from rfl] at e
 have sz:=zcms gv k hk msg
 unfold zb7r
 generalize en gv k msg = g at e sz
 refine (congrArg (fun x => x >>= _) e).trans ?_
 rw [obz,if_pos (by omega)]
theorem zb5f (gv:ByteArray) (hs:gv.size < 100000) (k:Int) (msg:ByteArray) (hm:msg.size < 100000):zb8n gv k msg = some (if isK k then en gv k msg else ⟨#[]⟩):=by
 unfold zb8n
 rw [zcce,obz]
 by_cases c:isK k
 · rw [if_pos (show decide (0 ≤ k ∧ k ≤ 255) = true from decide_eq_true c),if_pos c]
   unfold zb32
   rw [zb9e msg (by omega),obz,obz,zcc9 gv hs k c msg,obz]
 · rw [if_neg (by simpa [isK] using c),if_neg c]
def zb5r (gv:ByteArray) (k:Int) (i:Nat):ByteArray:=SH (VAL gv k (i:Int) 0) ++ SH (VAL gv k (i:Int) 1)
def PUB (gv:ByteArray) (k:Int):ByteArray:=SH (cat (zb5r gv k) 0 16 ⟨#[]⟩)
theorem zbtk (gv:ByteArray) (k:Int) (i:Nat):(zb5r gv k i).size = 32:=by unfold zb5r; rw [ByteArray.size_append,xo,xo]
theorem zbtl (gv:ByteArray) (k:Int):(cat (zb5r gv k) 0 16 ⟨#[]⟩).size = 512:=by rw [zcht _ (fun i _ => zbtk gv k i) 16 0 _ rfl]; rfl
theorem zcbx (gv:ByteArray) (hs:gv.size < 100000) (k:Int) (n:Nat):∀ (i:Nat) (acc:ByteArray),n + i = 16 → acc.size ≤ 32 * i → xp gv k acc (i:Int) = some (cat (zb5r gv k) i n acc):=by
 induction n with
 | zero =>
  intro i acc h ha
  rw [zc32,g9,if_neg (by omega)]
  rfl
 | succ n ih =>
  intro i acc h ha
  have v1:=zcdt gv k (i:Int) 0
  have v2:=zcdt gv k (i:Int) 1
  rw [zc32,g9,if_pos (by omega),zb0o gv hs,obz,zcga _ (by omega),obz,if_pos (by rw [xo]; omega),zb0o gv hs,obz,zcga _ (by omega),obz,if_pos (by rw [xo,ByteArray.size_append,xo]; omega),j4 i (by omega),obz,LS.go,ByteArray.append_assoc]
  exact ih (i + 1) _ (by omega) (by rw [ByteArray.size_append,ByteArray.size_append,xo,xo]; omega)
theorem zcby (gv:ByteArray) (hs:gv.size < 100000) (k:Int):zb8k gv k = some (if isK k then PUB gv k else ⟨#[]⟩):=by
 unfold zb8k
 by_cases c0:k < 0
 · rw [if_pos c0,if_neg (by unfold isK; omega)]
 · rw [if_neg c0]
   by_cases c1:255 < k
   · rw [if_pos c1,if_neg (by unfold isK; omega)]
   · have c:isK k:=⟨by omega,by omega⟩
     rw [if_neg c1,if_pos c]
     refine (congrArg (fun x => (x >>= _)) (zcbx gv hs k 16 0 ⟨#[]⟩ rfl (Nat.zero_le _))).trans ?_
     rw [obz,zcga _ (by rw [zbtl]; decide)]
     rfl
def zbms (sig d:ByteArray) (i:Nat):ByteArray:=if bit d i = 0 then SH (sig.extract (32 * i) (32 * i + 16)) ++ sig.extract (32 * i + 16) (32 * i + 32) else sig.extract (32 * i + 16) (32 * i + 32) ++ SH (sig.extract (32 * i) (32 * i + 16))
def VER (pub msg sig:ByteArray):Bool:=if sig.size = 512 then decide (pub = SH (cat (zbms sig (SHA msg)) 0 16 ⟨#[]⟩)) else false
theorem zcth (sig d:ByteArray) (hs:sig.size = 512) (i:Nat) (hi:i < 16):(zbms sig d i).size = 32:=by
 unfold zbms
 split
 · rw [ByteArray.size_append,xo,ByteArray.size_extract]; omega
 · rw [ByteArray.size_append,xo,ByteArray.size_extract]; omega
theorem zb4v (sig d:ByteArray) (hs:sig.size = 512) (hd:d.size = 32) (i:Nat) (hi:i < 16):vi (i:Int) sig d = some (zbms sig d i):=by
 have w1:IntKind.i64.wrap ((IntKind.i64.wrap ((i:Int) + (1:Int))) * (32:Int)) = ((32 * i + 32:Nat):Int):=by rw [j4 i (by omega),w64 (by omega) (by omega)]; omega
 have w2:IntKind.i64.wrap ((i:Int) * (32:Int)) = ((32 * i:Nat):Int):=by rw [w64 (by omega) (by omega)]; omega
 have sz:(sig.extract (32 * i) (32 * i + 32)).size = 32:=by rw [ByteArray.size_extract]; omega
 have x1:(sig.extract (32 * i) (32 * i + 32)).extract 0 16 = sig.extract (32 * i) (32 * i + 16):=by
  rw [ByteArray.extract_extract,Nat.add_zero,Nat.min_eq_left (by omega)]
 have x2:(sig.extract (32 * i) (32 * i + 32)).extract 16 32 = sig.extract (32 * i + 16) (32 * i + 32):=by
  rw [ByteArray.extract_extract,Nat.min_eq_left (by omega)]
 have s1:(sig.extract (32 * i) (32 * i + 16)).size = 16:=by rw [ByteArray.size_extract]; omega
 have s2:(sig.extract (32 * i + 16) (32 * i + 32)).size = 16:=by rw [ByteArray.size_extract]; omega
 unfold vi
 rw [w1,w2,Int.toNat_natCast,Int.toNat_natCast,sz,x1,x2]
 rw [if_pos ⟨⟨by omega,by omega⟩,by omega,by omega⟩,if_pos ⟨by omega,by omega⟩,zcf9 _ (by omega),obz,zb2s d hd i hi,obz]
 unfold zbms
 by_cases c:bit d i = 0
 · rw [if_pos (by omega),if_pos c,if_pos (by rw [xo,s2]; decide)]
 · rw [if_neg (by omega),if_neg c,if_pos (by rw [xo,s2]; decide)]
theorem zca2 (sig d:ByteArray) (hs:sig.size = 512) (hd:d.size = 32) (n:Nat):∀ (i:Nat) (acc:ByteArray),n + i = 16 → acc.size ≤ 32 * i → zb96 sig d acc (i:Int) = some (cat (zbms sig d) i n acc):=by
 induction n with
 | zero =>
  intro i acc h ha
  rw [zc2d,jp,if_neg (by omega)]
  rfl
 | succ n ih =>
  intro i acc h ha
  have sz:=zcth sig d hs i (by omega)
  rw [zc2d,jp,if_pos (by omega),zb4v sig d hs hd i (by omega),obz,if_pos (by omega),j4 i (by omega),obz,LS.go]
  exact ih (i + 1) _ (by omega) (by rw [ByteArray.size_append]; omega)
theorem zctg (sig d:ByteArray) (hs:sig.size = 512):(cat (zbms sig d) 0 16 ⟨#[]⟩).size = 512:=by rw [zcht _ (fun i hi => zcth sig d hs i hi) 16 0 _ rfl]; rfl
theorem zcc8 (sig d:ByteArray) (hs:sig.size = 512) (hd:d.size = 32):zb7w sig d = some (cat (zbms sig d) 0 16 ⟨#[]⟩):=by
 have e:=zca2 sig d hs hd 16 0 ⟨#[]⟩ rfl (Nat.zero_le _)
 have sz:=zctg sig d hs
 unfold zb7w
 generalize cat (zbms sig d) 0 16 ⟨#[]⟩ = g at e sz
 refine (congrArg (fun x => x >>= _) e).trans ?_
 rw [obz,if_pos (by omega)]
theorem zca3 (pub msg sig:ByteArray) (hm:msg.size < 100000):zb8o pub msg sig = some (VER pub msg sig):=by
 unfold zb8o VER
 by_cases c:sig.size = 512
 · rw [if_pos (by omega),if_pos c]
   unfold zb32
   rw [zb9e msg (by omega),obz,obz,zcc8 sig (SHA msg) c (zb7j msg),obz,zcf9 _ (by rw [zctg _ _ c]; decide),obz]
 · rw [if_neg (by omega),if_neg c]
theorem zcbl (gv:ByteArray) (k:Int) (hk:isK k) (d:ByteArray) (i:Nat) (hi:i < 16):(zbq0 gv k d i).extract 0 16 = VAL gv k (i:Int) (bit d i:Int):=by
 have s1:=zchl gv k hk i hi _ (zb84 d i)
 unfold zbq0
 generalize VAL gv k (i:Int) (bit d i:Int) = a at *
 generalize SH _ = b
 apply ByteArray.ext
 apply Array.toList_inj.1
 have l:a.data.toList.length = 16:=s1
 rw [ByteArray.data_extract,Array.toList_extract,List.extract_eq_take_drop,ByteArray.toList_data_append,List.drop_zero,Nat.sub_zero,List.take_append_of_le_length (by omega),List.take_of_length_le (by omega)]
theorem zcbk (gv:ByteArray) (k:Int) (hk:isK k) (d:ByteArray) (i:Nat) (hi:i < 16):(zbq0 gv k d i).extract 16 32 = SH (VAL gv k (i:Int) ((1 - bit d i:Nat):Int)):=by
 have s1:=zchl gv k hk i hi _ (zb84 d i)
 have s2:=xo (VAL gv k (i:Int) ((1 - bit d i:Nat):Int))
 unfold zbq0
 generalize VAL gv k (i:Int) (bit d i:Int) = a at *
 generalize SH _ = b at *
 apply ByteArray.ext
 apply Array.toList_inj.1
 have l:a.data.toList.length = 16:=s1
 have l2:b.data.toList.length = 16:=s2
 rw [ByteArray.data_extract,Array.toList_extract,List.extract_eq_take_drop,ByteArray.toList_data_append,List.drop_append,List.drop_of_length_le (by omega),l,List.nil_append,Nat.sub_self,List.drop_zero,List.take_of_length_le (by omega)]
theorem zcdf (gv:ByteArray) (k:Int) (hk:isK k) (msg:ByteArray) (i:Nat) (hi:i < 16):(en gv k msg).extract (32 * i) (32 * i + 16) = VAL gv k (i:Int) (bit (SHA msg) i:Int):=by
 have c:=zbvq (zbq0 gv k (SHA msg)) (fun i hi => zceg gv k hk _ i hi) i hi
 have e:=zcbl gv k hk (SHA msg) i hi
 rw [← c,ByteArray.extract_extract,Nat.add_zero,Nat.min_eq_left (by omega)] at e
 exact e
theorem zcde (gv:ByteArray) (k:Int) (hk:isK k) (msg:ByteArray) (i:Nat) (hi:i < 16):(en gv k msg).extract (32 * i + 16) (32 * i + 32) = SH (VAL gv k (i:Int) ((1 - bit (SHA msg) i:Nat):Int)):=by
 have c:=zbvq (zbq0 gv k (SHA msg)) (fun i hi => zceg gv k hk _ i hi) i hi
 have e:=zcbk gv k hk (SHA msg) i hi
 rw [← c,ByteArray.extract_extract,Nat.min_eq_left (by omega)] at e
 exact e
theorem zbrh (gv:ByteArray) (k:Int) (hk:isK k) (msg:ByteArray) (i:Nat) (hi:i < 16):zbms (en gv k msg) (SHA msg) i = zb5r gv k i:=by
 unfold zbms zb5r
 rw [zcdf gv k hk msg i hi,zcde gv k hk msg i hi]
 have b:=zb84 (SHA msg) i
 by_cases c:bit (SHA msg) i = 0
 · rw [if_pos c,c]; rfl
 · have c1:bit (SHA msg) i = 1:=by omega
   rw [if_neg c,c1]; rfl
theorem zbri (gv:ByteArray) (k:Int) (hk:isK k) (msg:ByteArray):SH (cat (zbms (en gv k msg) (SHA msg)) 0 16 ⟨#[]⟩) = PUB gv k:=by
 unfold PUB
 rw [zbvr _ _ (fun i hi => zbrh gv k hk msg i hi) 16 0 _ rfl]
theorem zdca (pub gv:ByteArray) (k:Int) (hk:isK k) (msg:ByteArray):VER pub msg (en gv k msg) = decide (pub = PUB gv k):=by
 unfold VER
 rw [if_pos (zcms gv k hk msg)]
 have e:=zbri gv k hk msg
 generalize SH (cat (zbms (en gv k msg) (SHA msg)) 0 16 ⟨#[]⟩) = g at *
 rw [e]
end Go.Proofs.Ytjgpklmkdkkooaa
