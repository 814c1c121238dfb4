import Derived.Test.YtdcfoaafkppojaaD8
set_option linter.unusedSimpArgs false
set_option linter.unusedVariables false
set_option linter.unusedSectionVars false

namespace Go.Proofs.Ytdcfoaafkppojaa
open Go Go.RowKit Sh Ic
abbrev W := BitVec 32
theorem obz {α β : Type} {a : α} {f : α → Option β} : (some a >>= f) = f a := by generalize h : f a = x; exact h
theorem w64 {n : Int} (h1 : -9223372036854775808 ≤ n) (h2 : n < 9223372036854775808) : IntKind.i64.wrap n = n := by
 simp [IntKind.wrap,IntKind.bits,IntKind.signed]; omega
theorem zchg (n : Int) : IntKind.u32.wrap n = n % 4294967296 := by simp [IntKind.wrap,IntKind.bits,IntKind.signed]
theorem zb6j (n : Nat) (h : n < 4294967296) : IntKind.u32.wrap (n : Int) = (n : Int) := by rw [zchg]; omega
theorem zb2i (a : W) : BitVec.ofInt 32 (a.toNat : Int) = a := by
 rw [BitVec.ofInt_natCast,BitVec.ofNat_toNat,BitVec.setWidth_eq]
theorem zb7p (a : W) : a.toNat < 4294967296 := a.isLt
theorem zc8u (a b : W) : IntKind.u32.wrap ((BitVec.ofInt IntKind.u32.bits (a.toNat : Int) ||| BitVec.ofInt IntKind.u32.bits (b.toNat : Int)).toNat : Int) = ((a ||| b).toNat : Int) := by
 show IntKind.u32.wrap ((BitVec.ofInt 32 (a.toNat : Int) ||| BitVec.ofInt 32 (b.toNat : Int)).toNat : Int) = _
 rw [zb2i,zb2i,zb6j _ (zb7p _)]
theorem zchj (a b : W) : IntKind.u32.wrap ((BitVec.ofInt IntKind.u32.bits (a.toNat : Int) &&& BitVec.ofInt IntKind.u32.bits (b.toNat : Int)).toNat : Int) = ((a &&& b).toNat : Int) := by
 show IntKind.u32.wrap ((BitVec.ofInt 32 (a.toNat : Int) &&& BitVec.ofInt 32 (b.toNat : Int)).toNat : Int) = _
 rw [zb2i,zb2i,zb6j _ (zb7p _)]
theorem zb7m (a b : W) : IntKind.u32.wrap ((BitVec.ofInt IntKind.u32.bits (a.toNat : Int) ^^^ BitVec.ofInt IntKind.u32.bits (b.toNat : Int)).toNat : Int) = ((a ^^^ b).toNat : Int) := by
 show IntKind.u32.wrap ((BitVec.ofInt 32 (a.toNat : Int) ^^^ BitVec.ofInt 32 (b.toNat : Int)).toNat : Int) = _
 rw [zb2i,zb2i,zb6j _ (zb7p _)]
theorem zchi (a : W) : zchu .u32 (a.toNat : Int) = ((~~~a).toNat : Int) := by
 show IntKind.u32.wrap ((BitVec.ofInt 32 4294967295 ^^^ BitVec.ofInt 32 (a.toNat : Int)).toNat : Int) = _
 rw [zb2i,show BitVec.ofInt 32 4294967295 = BitVec.allOnes 32 from by decide,BitVec.allOnes_xor,zb6j _ (zb7p _)]
theorem zb2k (a b : W) : IntKind.u32.wrap ((a.toNat : Int) + (b.toNat : Int)) = ((a + b).toNat : Int) := by
 rw [zchg,BitVec.toNat_add]; omega
theorem zb7n (a : W) (k : Nat) : (a.toNat : Int).fdiv (2 ^ k) = ((a >>> k).toNat : Int) := by
 rw [Int.fdiv_eq_ediv_of_nonneg _ (by exact Int.le_of_lt (Int.pow_pos (by decide))),BitVec.toNat_ushiftRight,Nat.shiftRight_eq_div_pow,Int.natCast_ediv,Int.natCast_pow]
 rfl
theorem zb7o (a : W) (k : Nat) : IntKind.u32.wrap ((a.toNat : Int) * 2 ^ k) = ((a <<< k).toNat : Int) := by
 rw [zchg,BitVec.toNat_shiftLeft,Nat.shiftLeft_eq,Int.natCast_emod,Int.natCast_mul,Int.natCast_pow]
 rfl
def zbqu (x : W) (n : Nat) : W := x >>> n ||| x <<< (32 - n)
theorem zbv8 (x : W) (n : Nat) (z : Int) (hz : z = (n : Int)) (hn : n ≤ 32) : lm (x.toNat : Int) z = some ((zbqu x n).toNat : Int) := by
 subst hz
 have c1 : ¬ (n : Int) < 0 := by omega
 have w1 : IntKind.u64.wrap (32 - (n : Int)) = ((32 - n : Nat) : Int) := by
  have : IntKind.u64.wrap (32 - (n : Int)) = (32 - (n : Int)) % 18446744073709551616 := by simp [IntKind.wrap,IntKind.bits,IntKind.signed]
  omega
 have c2 : ¬ ((32 - n : Nat) : Int) < 0 := by omega
 have e1 : Nat.min n IntKind.u32.bits = n := Nat.min_eq_left hn
 have e2 : Nat.min (32 - n) IntKind.u32.bits = 32 - n := Nat.min_eq_left (Nat.sub_le _ _)
 unfold lm
 simp only [obz,c1,w1,c2,Int.toNat_natCast,e1,e2,zb7n,zb7o,zc8u,not_false_eq_true,if_true]
 rfl
def wl (ws : List W) : List Int := ws.map fun a => (a.toNat : Int)
theorem zbyl (ws : List W) : (wl ws).length = ws.length := List.length_map ..
theorem zbmc (ws : List W) (j : Nat) (z : Int) (hz : z = (j : Int)) (h : j < ws.length) : ixL (wl ws) z = some ((ws.getD j 0).toNat : Int) := by
 subst hz
 rw [fj (by rw [zbyl]; exact h)]
 simp only [wl,List.getElem_map,List.getD_eq_getElem?_getD,List.getElem?_eq_getElem h,Option.getD_some]
theorem zbo8 (ws : List W) (j : Nat) (x : W) : (wl ws).set j (x.toNat : Int) = wl (ws.set j x) := by rw [wl,wl,List.map_set]
def bt (s : ByteArray) (i : Nat) : W := BitVec.ofNat 32 (s.data.getD i 0).toNat
def be4 (s : ByteArray) (i : Nat) : W := bt s (4 * i) <<< 24 ||| bt s (4 * i + 1) <<< 16 ||| bt s (4 * i + 2) <<< 8 ||| bt s (4 * i + 3)
theorem zb88 (s : ByteArray) (i : Nat) : (bt s i).toNat = (s.data.getD i 0).toNat := by
 unfold bt; rw [BitVec.toNat_ofNat]; have := (s.data.getD i 0).toNat_lt; omega
theorem zb4b (s : ByteArray) (i : Nat) : IntKind.u32.wrap ((bt s i).toNat : Int) = ((bt s i).toNat : Int) := zb6j _ (zb7p _)
theorem zb9z (s : ByteArray) (i : Nat) (z : Int) (hz : z = (i : Int)) (h : i < s.size) : ixB s z = some ((bt s i).toNat : Int) := by
 subst hz
 unfold ixB
 rw [if_pos (by omega),Int.toNat_natCast,zb88]
def fill (s : ByteArray) : Nat → Nat → List W → List W
 | _,0,ws => ws
 | i,n + 1,ws => fill s (i + 1) n (ws.set i (be4 s i))
def zdgz (x : W) : W := zbqu x 7 ^^^ zbqu x 18 ^^^ x >>> 3
def zdgy (x : W) : W := zbqu x 17 ^^^ zbqu x 19 ^^^ x >>> 10
def zchv (ws : List W) (i : Nat) : W := ws.getD (i - 16) 0 + zdgz (ws.getD (i - 15) 0) + ws.getD (i - 7) 0 + zdgy (ws.getD (i - 2) 0)
def zbqo : Nat → Nat → List W → List W
 | _,0,ws => ws
 | i,n + 1,ws => zbqo (i + 1) n (ws.set i (zchv ws i))
structure V8 where
 a : W
 b : W
 c : W
 d : W
 e : W
 f : W
 g : W
 h : W
def V8.t1 (v : V8) (k w : W) : W := v.h + (zbqu v.e 6 ^^^ zbqu v.e 11 ^^^ zbqu v.e 25) + (v.e &&& v.f ^^^ ~~~v.e &&& v.g) + k + w
def V8.t2 (v : V8) : W := (zbqu v.a 2 ^^^ zbqu v.a 13 ^^^ zbqu v.a 22) + (v.a &&& v.b ^^^ v.a &&& v.c ^^^ v.b &&& v.c)
def V8.rnd (v : V8) (k w : W) : V8 := ⟨v.t1 k w + v.t2,v.a,v.b,v.c,v.d + v.t1 k w,v.e,v.f,v.g⟩
def zcby (ks ws : List W) : Nat → Nat → V8 → V8
 | _,0,v => v
 | i,n + 1,v => zcby ks ws (i + 1) n (v.rnd (ks.getD i 0) (ws.getD i 0))
def V8.list (v : V8) : List W := [v.a,v.b,v.c,v.d,v.e,v.f,v.g,v.h]
def zbvd (vs : List W) : Nat → Nat → List W → List W
 | _,0,hs => hs
 | i,n + 1,hs => zbvd vs (i + 1) n (hs.set i (hs.getD i 0 + vs.getD i 0))
def zb58 : List W := [0x428a2f98,0x71374491,0xb5c0fbcf,0xe9b5dba5,0x3956c25b,0x59f111f1,0x923f82a4,0xab1c5ed5,0xd807aa98,0x12835b01,0x243185be,0x550c7dc3,0x72be5d74,0x80deb1fe,0x9bdc06a7,0xc19bf174,0xe49b69c1,0xefbe4786,0x0fc19dc6,0x240ca1cc,0x2de92c6f,0x4a7484aa,0x5cb0a9dc,0x76f988da,0x983e5152,0xa831c66d,0xb00327c8,0xbf597fc7,0xc6e00bf3,0xd5a79147,0x06ca6351,0x14292967,0x27b70a85,0x2e1b2138,0x4d2c6dfc,0x53380d13,0x650a7354,0x766a0abb,0x81c2c92e,0x92722c85,0xa2bfe8a1,0xa81a664b,0xc24b8b70,0xc76c51a3,0xd192e819,0xd6990624,0xf40e3585,0x106aa070,0x19a4c116,0x1e376c08,0x2748774c,0x34b0bcb5,0x391c0cb3,0x4ed8aa4a,0x5b9cca4f,0x682e6ff3,0x748f82ee,0x78a5636f,0x84c87814,0x8cc70208,0x90befffa,0xa4506ceb,0xbef9a3f7,0xc67178f2]
theorem zbyg : zb58.length = 64 := rfl
theorem zb2u : zb6x = some (wl zb58) := rfl
def V8.ofL (l : List W) : V8 := ⟨l.getD 0 0,l.getD 1 0,l.getD 2 0,l.getD 3 0,l.getD 4 0,l.getD 5 0,l.getD 6 0,l.getD 7 0⟩
def zb97 : List W := List.replicate 64 0
def zbo7 (s : ByteArray) : List W := zbqo 16 48 (fill s 0 16 zb97)
def zbwo (hs : List W) (s : ByteArray) : List W := zbvd (zcby zb58 (zbo7 s) 0 64 (V8.ofL hs)).list 0 8 hs
theorem zcjy (s : ByteArray) (n : Nat) : ∀ i ws,(fill s i n ws).length = ws.length := by
 induction n with
 | zero => intro i ws; rfl
 | succ n ih => intro i ws; rw [fill,ih,List.length_set]
theorem zbqn (n : Nat) : ∀ i ws,(zbqo i n ws).length = ws.length := by
 induction n with
 | zero => intro i ws; rfl
 | succ n ih => intro i ws; rw [zbqo,ih,List.length_set]
theorem zbvc (vs : List W) (n : Nat) : ∀ i ws,(zbvd vs i n ws).length = ws.length := by
 induction n with
 | zero => intro i ws; rfl
 | succ n ih => intro i ws; rw [zbvd,ih,List.length_set]
theorem zbo6 (s : ByteArray) : (zbo7 s).length = 64 := by
 unfold zbo7; rw [zbqn,zcjy]; rfl
theorem zcam (hs : List W) (s : ByteArray) (h : hs.length = 8) : (zbwo hs s).length = 8 := by
 unfold zbwo; rw [zbvc,h]
theorem zch6 (l : List W) (h : l.length = 8) : ∃ a b c d e f g i : W,l = [a,b,c,d,e,f,g,i] := by
 match l,h with
 | [a,b,c,d,e,f,g,i],_ => exact ⟨a,b,c,d,e,f,g,i,rfl⟩
theorem m24 : Nat.min 24 IntKind.u32.bits = 24 := rfl
theorem m16 : Nat.min 16 IntKind.u32.bits = 16 := rfl
theorem m8 : Nat.min 8 IntKind.u32.bits = 8 := rfl
theorem m3 : Nat.min 3 IntKind.u32.bits = 3 := rfl
theorem m10 : Nat.min 10 IntKind.u32.bits = 10 := rfl
theorem lw (i : Nat) (h : i < 1000000000000) : IntKind.i64.wrap ((i : Int) + 1) = ((i + 1 : Nat) : Int) := by rw [w64 (by omega) (by omega)]; omega
theorem zbx5 (i k : Nat) (z : Int) (hz : z = (k : Int)) (h : i < 1000000000000) (hk : k ≤ i) : IntKind.i64.wrap ((i : Int) - z) = ((i - k : Nat) : Int) := by rw [hz,w64 (by omega) (by omega)]; omega
theorem zb82 (i : Nat) (h : i < 1000000000000) : IntKind.i64.wrap (4 * (i : Int)) = ((4 * i : Nat) : Int) := by rw [w64 (by omega) (by omega)]; omega
theorem zb95 (i : Nat) (k : Nat) (z : Int) (hz : z = (k : Int)) (h : i < 1000000000000) (hk : k < 1000) : IntKind.i64.wrap ((i : Int) + z) = ((i + k : Nat) : Int) := by rw [hz,w64 (by omega) (by omega)]; omega
theorem zb3n (i : Nat) (h : i < 64) : (0 ≤ (i : Int) ∧ (i : Int) < ((64 : Nat) : Int)) = True := eq_true ⟨by omega,by omega⟩
theorem in8 (i : Nat) (h : i < 8) : (0 ≤ (i : Int) ∧ (i : Int) < ((8 : Nat) : Int)) = True := eq_true ⟨by omega,by omega⟩
theorem zcid (s : ByteArray) (hs : s.size = 64) (x y z : List Int) (n : Nat) : ∀ (i : Nat) (ws : List W),n + i = 16 → ws.length = 64 → xj s x y z (wl ws) (i : Int) = some (wl (fill s i n ws)) := by
 induction n with
 | zero =>
  intro i ws hi hl
  obtain rfl : i = 16 := by omega
  rw [zc25]
  rfl
 | succ n ih =>
  intro i ws hi hl
  have c : (i : Int) < 16 := by omega
  have cl : (i : Nat) + 1 ≤ (wl ws).length := by rw [zbyl]; omega
  rw [zc25,jn]
  rw [zb82 i (by omega),zb95 _ 1 1 rfl (by omega) (by omega),zb95 _ 2 2 rfl (by omega) (by omega),zb95 _ 3 3 rfl (by omega) (by omega)]
  rw [zb9z s (4 * i) _ rfl (by omega),zb9z s (4 * i + 1) _ rfl (by omega),zb9z s (4 * i + 2) _ rfl (by omega),zb9z s (4 * i + 3) _ rfl (by omega)]
  simp only [obz,zb4b,m24,m16,m8,zb7o,zc8u,c,zb3n i (by omega),Int.toNat_natCast,cl,if_true,zbo8,lw i (by omega),LS.go]
  exact ih (i + 1) _ (by omega) (by rw [List.length_set,hl])
theorem zcic (x y z : List Int) (n : Nat) : ∀ (i : Nat) (ws : List W),n + i = 64 → 16 ≤ i → ws.length = 64 → xi x y z (wl ws) (i : Int) = some (wl (zbqo i n ws)) := by
 induction n with
 | zero =>
  intro i ws hi h16 hl
  obtain rfl : i = 64 := by omega
  rw [zc26]
  rfl
 | succ n ih =>
  intro i ws hi h16 hl
  have c : (i : Int) < 64 := by omega
  have cl : (i : Nat) + 1 ≤ (wl ws).length := by rw [zbyl]; omega
  rw [zc26,jm]
  rw [zbx5 i 15 15 rfl (by omega) (by omega),zbx5 i 2 2 rfl (by omega) (by omega),zbx5 i 16 16 rfl (by omega) (by omega),zbx5 i 7 7 rfl (by omega) (by omega)]
  rw [zbmc ws (i - 15) _ rfl (by omega),zbmc ws (i - 2) _ rfl (by omega),zbmc ws (i - 16) _ rfl (by omega),zbmc ws (i - 7) _ rfl (by omega)]
  simp only [obz,zbv8 _ 7 7 rfl (by decide),zbv8 _ 18 18 rfl (by decide),zbv8 _ 17 17 rfl (by decide),zbv8 _ 19 19 rfl (by decide),m3,m10,zb7n,zb7m,zb2k,c,zb3n i (by omega),zb3n (i - 15) (by omega),zb3n (i - 2) (by omega),zb3n (i - 16) (by omega),zb3n (i - 7) (by omega),Int.toNat_natCast,cl,if_true,zbo8,lw i (by omega),LS.go]
  exact ih (i + 1) _ (by omega) (by omega) (by rw [List.length_set,hl])
theorem zcib (x y : List Int) (ks ws : List W) (hk : ks.length = 64) (hw : ws.length = 64) (n : Nat) : ∀ (i : Nat) (v : V8),n + i = 64 → xh x y (wl ws) (wl ks) (wl v.list) (i : Int) = some (wl (zcby ks ws i n v).list) := by
 induction n with
 | zero =>
  intro i ws hi
  obtain rfl : i = 64 := by omega
  rw [zc27]
  rfl
 | succ n ih =>
  intro i v hi
  have c : (i : Int) < 64 := by omega
  rw [zc27,jl]
  rw [zbmc ks i _ rfl (by omega),zbmc ws i _ rfl (by omega),zbmc v.list 0 0 rfl (show 0 < 8 by decide),zbmc v.list 1 1 rfl (show 1 < 8 by decide),zbmc v.list 2 2 rfl (show 2 < 8 by decide),zbmc v.list 3 3 rfl (show 3 < 8 by decide),zbmc v.list 4 4 rfl (show 4 < 8 by decide),zbmc v.list 5 5 rfl (show 5 < 8 by decide),zbmc v.list 6 6 rfl (show 6 < 8 by decide),zbmc v.list 7 7 rfl (show 7 < 8 by decide)]
  have l8 : (wl v.list).length = 8 := rfl
  simp only [obz,zbv8 _ 6 6 rfl (by decide),zbv8 _ 11 11 rfl (by decide),zbv8 _ 25 25 rfl (by decide),zbv8 _ 2 2 rfl (by decide),zbv8 _ 13 13 rfl (by decide),zbv8 _ 22 22 rfl (by decide),zb7m,zb2k,zchj,zchi,c,zb3n i (by omega),l8,if_true,lw i (by omega),LS.go]
  exact ih (i + 1) (v.rnd (ks.getD i 0) (ws.getD i 0)) (by omega)
theorem zcia (x : List Int) (vs : List W) (hv : vs.length = 8) (n : Nat) : ∀ (i : Nat) (hs : List W),n + i = 8 → hs.length = 8 → xg x (wl vs) (wl hs) (i : Int) = some (wl (zbvd vs i n hs)) := by
 induction n with
 | zero =>
  intro i ws hi hl
  obtain rfl : i = 8 := by omega
  rw [zc28]
  rfl
 | succ n ih =>
  intro i hs hi hl
  have c : (i : Int) < 8 := by omega
  have cl : (i : Nat) + 1 ≤ (wl hs).length := by rw [zbyl]; omega
  rw [zc28,jk]
  rw [zbmc hs i _ rfl (by omega),zbmc vs i _ rfl (by omega)]
  simp only [obz,zb2k,c,in8 i (by omega),Int.toNat_natCast,cl,if_true,zbo8,lw i (by omega),LS.go]
  exact ih (i + 1) _ (by omega) (by rw [List.length_set,hl])
theorem zb1t : (List.replicate 64 (0 : Int)) = wl zb97 := rfl
theorem zbxo (hs : List W) (h : hs.length = 8) : (V8.ofL hs).list = hs := by
 obtain ⟨a,b,c,d,e,f,g,i,rfl⟩ := zch6 hs h
 rfl
theorem zb4c (hs : List W) (s : ByteArray) (hl : hs.length = 8) (h : s.size = 64) : zb5l (wl hs) s = some (wl (zbwo hs s)) := by
 have l8 : (wl hs).length = 8 := by rw [zbyl,hl]
 have l64 : (wl zb58).length = 64 := rfl
 have lb : (wl (zbwo hs s)).length = 8 := by rw [zbyl,zcam _ _ hl]
 unfold zb5l
 rw [zb2u,zb1t]
 have e1 := fun x y z => zcid s h x y z 16 0 zb97 rfl rfl
 have e2 := fun x y z => zcic x y z 48 16 (fill s 0 16 zb97) rfl (Nat.le_refl _) (by rw [zcjy]; rfl)
 have e3 := fun x y => zcib x y zb58 (zbo7 s) zbyg (zbo6 s) 64 0 (V8.ofL hs) rfl
 have e4 := fun x => zcia x (zcby zb58 (zbo7 s) 0 64 (V8.ofL hs)).list rfl 8 0 hs rfl hl
 rw [zbxo hs hl] at e3
 simp only [obz,l64,l8,if_true]
 refine (congrArg (· >>= _) (e1 _ _ _)).trans ?_
 refine (congrArg (· >>= _) (e2 _ _ _)).trans ?_
 refine (congrArg (· >>= _) (e3 _ _)).trans ?_
 refine (congrArg (· >>= _) (e4 _)).trans ?_
 show (if (wl (zbwo hs s)).length = 8 then if (wl (zbwo hs s)).length = 8 then some (wl (zbwo hs s)) else none else none) = _
 rw [if_pos lb,if_pos lb]
def V8.tup (v : V8) : Int × Int × Int × Int × Int × Int × Int × Int := ((v.a.toNat : Int),(v.b.toNat : Int),(v.c.toNat : Int),(v.d.toNat : Int),(v.e.toNat : Int),(v.f.toNat : Int),(v.g.toNat : Int),(v.h.toNat : Int))
theorem zb41 (l : List Int) : (zbka l).size = l.length := by
 show (zbka l).data.size = _
 simp [zbka]
theorem zc9w (l : List Int) (a k : Nat) : (zbka l).extract a (a + k) = zbka ((l.drop a).take k) := by
 apply ByteArray.ext
 apply Array.toList_inj.1
 rw [ByteArray.data_extract,Array.toList_extract,List.extract_eq_take_drop,Nat.add_sub_cancel_left]
 show List.take k (List.drop a (l.map fun n => UInt8.ofNat n.toNat)) = ((l.drop a).take k).map fun n => UInt8.ofNat n.toNat
 rw [List.map_take,List.map_drop]
theorem zc46 (n k : Nat) (z : Int) (hz : z = (k : Int)) : Int.tmod (n : Int) z = ((n % k : Nat) : Int) := by subst hz; rfl
theorem zb8j (x : ByteArray) (k : Nat) : ∀ l : List Int,(l.length + k) % 64 = 56 → k < 64 → l.length + k < 100000000000 → uo x l = some (l ++ List.replicate k 0) := by
 induction k with
 | zero =>
  intro l h hk hb
  rw [zcxq,j0,zc46 _ 64 64 rfl,if_pos (by omega),List.replicate_zero,List.append_nil]
  rfl
 | succ k ih =>
  intro l h hk hb
  rw [zcxq,j0,zc46 _ 64 64 rfl,if_neg (by omega),if_pos (by omega)]
  rw [obz,LS.go]
  have e := ih (l ++ [0]) (by rw [List.length_append]; show (l.length + 1 + k) % 64 = 56; omega) (by omega) (by rw [List.length_append]; show l.length + 1 + k < _; omega)
  rw [List.append_assoc] at e
  exact e
def sh8 (L : Int) (i : Nat) : Int := IntKind.u8.wrap (Int.fdiv L (2 ^ (56 - 8 * i)))
def lb (L : Int) : Nat → Nat → List Int
 | _,0 => []
 | i,n + 1 => sh8 L i :: lb L (i + 1) n
theorem w56 (i : Nat) (h : i < 8) : IntKind.i64.wrap ((56 : Int) - (IntKind.i64.wrap ((8 : Int) * (i : Int)))) = ((56 - 8 * i : Nat) : Int) := by
 rw [w64 (n := 8 * (i : Int)) (by omega) (by omega),w64 (by omega) (by omega)]; omega
theorem zdgx (n : Nat) (h : n < 1000) : IntKind.u64.wrap (n : Int) = (n : Int) := by
 have : IntKind.u64.wrap (n : Int) = (n : Int) % 18446744073709551616 := by simp [IntKind.wrap,IntKind.bits,IntKind.signed]
 omega
theorem zchx (n : Nat) (h : n ≤ 64) : Nat.min n IntKind.u64.bits = n := Nat.min_eq_left h
theorem zb8q (L : Int) (n : Nat) : ∀ (i : Nat) (l : List Int),n + i = 8 → l.length < 900000000000 + i → um L l (i : Int) = some (l ++ lb L i n) := by
 induction n with
 | zero =>
  intro i l hi hb
  obtain rfl : i = 8 := by omega
  rw [zcxr,jz,if_neg (by decide),lb,List.append_nil]
  rfl
 | succ n ih =>
  intro i l hi hb
  rw [zcxr,jz,if_pos (by omega),w56 i (by omega),zdgx _ (by omega),if_pos (by omega),Int.toNat_natCast,zchx _ (by omega),if_pos (by omega),lw i (by omega)]
  rw [obz,LS.go]
  have e := ih (i + 1) (l ++ [sh8 L i]) (by omega) (by rw [List.length_append]; show l.length + 1 < _; omega)
  rw [List.append_assoc] at e
  exact e
def zcbj : Nat → List Int → List W → List W
 | 0,_,hs => hs
 | n + 1,m,hs => zcbj n (m.drop 64) (zbwo hs (zbka (m.take 64)))
theorem zboe (n : Nat) : ∀ (m : List Int) (hs : List W),hs.length = 8 → (zcbj n m hs).length = 8 := by
 induction n with
 | zero => intro m hs h; exact h
 | succ n ih => intro m hs h; exact ih _ _ (zcam _ _ h)
theorem zb79 (m : List Int) (t : Nat) (hm : m.length = 64 * t) (ht : t < 1000000000) (n : Nat) : ∀ (j : Nat) (hs : List W),n + j = t → hs.length = 8 → ul (zbka m) (wl hs) ((64 * j : Nat) : Int) = some (wl (zcbj n (m.drop (64 * j)) hs)) := by
 induction n with
 | zero =>
  intro j hs hj hl
  rw [zcxs,jy,if_neg (by rw [zb41]; omega)]
  rfl
 | succ n ih =>
  intro j hs hj hl
  rw [zcxs,jy,if_pos (by rw [zb41]; omega),if_pos (by rw [zbyl]; exact hl),zb95 _ 64 64 rfl (by omega) (by omega)]
  rw [if_pos ⟨⟨by omega,by rw [zb41]; omega⟩,by omega,by omega⟩,Int.toNat_natCast,Int.toNat_natCast,zc9w,zb4c hs _ hl (by rw [zb41,List.length_take,List.length_drop]; omega)]
  rw [obz,if_pos (by rw [zbyl,zcam _ _ hl]),obz,LS.go]
  have e := ih (j + 1) (zbwo hs (zbka ((m.drop (64 * j)).take 64))) (by omega) (zcam _ _ hl)
  rw [show 64 * (j + 1) = 64 * j + 64 from by omega,← List.drop_drop] at e
  exact e
def o4 (y : Int) : List Int := [(IntKind.u8.wrap (Int.fdiv y (2 ^ (Nat.min 24 IntKind.u32.bits)))),(IntKind.u8.wrap (Int.fdiv y (2 ^ (Nat.min 16 IntKind.u32.bits)))),(IntKind.u8.wrap (Int.fdiv y (2 ^ (Nat.min 8 IntKind.u32.bits)))),(IntKind.u8.wrap y)]
def zb52 (hs : List W) : Nat → Nat → List Int
 | _,0 => []
 | i,n + 1 => o4 ((hs.getD i 0).toNat : Int) ++ zb52 hs (i + 1) n
theorem zbxl (hs : List W) (n : Nat) : ∀ i,(zb52 hs i n).length = 4 * n := by
 induction n with
 | zero => intro i; rfl
 | succ n ih => intro i; rw [zb52,List.length_append,ih]; show 4 + 4 * n = _; omega
theorem zb8k (hs : List W) (hl : hs.length = 8) (n : Nat) : ∀ (i : Nat) (l : List Int),n + i = 8 → l.length ≤ 100 + 4 * i → uk (wl hs) l (i : Int) = some (l ++ zb52 hs i n) := by
 induction n with
 | zero =>
  intro i l hi hb
  obtain rfl : i = 8 := by omega
  rw [zcxt,jx,if_neg (by decide),zb52,List.append_nil]
  rfl
 | succ n ih =>
  intro i l hi hb
  rw [zcxt,jx,if_pos (by omega),if_pos ⟨by omega,by omega⟩,zbmc hs i _ rfl (by omega)]
  rw [obz,if_pos (by omega),lw i (by omega),obz,LS.go]
  have e := ih (i + 1) (l ++ o4 ((hs.getD i 0).toNat : Int)) (by omega) (by rw [List.length_append]; show l.length + 4 ≤ _; omega)
  rw [List.append_assoc] at e
  exact e
def H0 : List W := [1779033703,3144134277,1013904242,2773480762,1359893119,2600822924,528734635,1541459225]
def kz (n : Nat) : Nat := (120 - (n + 1) % 64) % 64
def zb4d (s : ByteArray) : Int := IntKind.u64.wrap ((IntKind.u64.wrap ((s.size : Nat) : Int)) * (8 : Int))
def zb92 (s : ByteArray) : List Int := ((zbmg s ++ [128]) ++ List.replicate (kz s.size) 0) ++ lb (zb4d s) 0 8
def zb53 (s : ByteArray) : Nat := (s.size + 1 + kz s.size + 8) / 64
def state (s : ByteArray) : List W := zcbj (zb53 s) (zb92 s) H0
def SHA (s : ByteArray) : ByteArray := zbka (zb52 (state s) 0 8)
theorem zb8r (L : Int) (n : Nat) : ∀ i,(lb L i n).length = n := by
 induction n with
 | zero => intro i; rfl
 | succ n ih => intro i; rw [lb,List.length_cons,ih]
theorem zb8t (n : Nat) : (n + 1 + kz n) % 64 = 56 ∧ kz n < 64 := by unfold kz; omega
theorem zbni (s : ByteArray) : (zb92 s).length = 64 * zb53 s := by
 have := zb8t s.size
 unfold zb92 zb53
 rw [List.length_append,List.length_append,List.length_append,zb8r,List.length_replicate,ar]
 show s.size + 1 + kz s.size + 8 = _
 omega
theorem zbqb (s : ByteArray) : (state s).length = 8 := zboe _ _ _ rfl
theorem zcgs (s : ByteArray) : (SHA s).size = 32 := by rw [SHA,zb41,zbxl]
theorem zbzu (s : ByteArray) (h : s.size < 10000000000) : zb18 s = some (SHA s) := by
 have kk := zb8t s.size
 have l1 : (zbmg s ++ [128]).length = s.size + 1 := by rw [List.length_append,ar]; rfl
 have e1 := zb8j s (kz s.size) (zbmg s ++ [128]) (by rw [l1]; exact kk.1) kk.2 (by omega)
 have e2 := zb8q (zb4d s) 8 0 ((zbmg s ++ [128]) ++ List.replicate (kz s.size) 0) rfl (by rw [List.length_append,List.length_replicate]; omega)
 have e3 := zb79 (zb92 s) (zb53 s) (zbni s) (by unfold zb53; omega) (zb53 s) 0 H0 rfl rfl
 have e4 := zb8k (state s) (zbqb s) 8 0 [] rfl (by show 0 ≤ _; omega)
 have zbih : (uo s (zbmg s ++ [128]) >>= fun y16 => um (zb4d s) y16 (0 : Int) >>= fun y18 => ul (zbka y18) (wl H0) (0 : Int) >>= fun y20 => uk y20 [] (0 : Int) >>= fun y22 => some (zbka y22)) = some (SHA s) := by
  refine (congrArg (· >>= _) e1).trans ?_
  refine (congrArg (· >>= _) e2).trans ?_
  refine (congrArg (· >>= _) e3).trans ?_
  refine (congrArg (· >>= _) e4).trans ?_
  rfl
 unfold zb18
 by_cases z : s.size = 0
 · rw [if_pos z]
   have b0 : zbmg s = [] := List.eq_nil_of_length_eq_zero (by rw [ar]; exact z)
   rw [b0] at zbih
   exact zbih
 · rw [if_neg z,if_pos (by omega)]
   exact zbih
def SH (s : ByteArray) : ByteArray := (SHA s).extract 0 16
theorem zbwq (s : ByteArray) : (SH s).size = 16 := by unfold SH; rw [ByteArray.size_extract,zcgs]; rfl
theorem zcbu (s : ByteArray) (hs : s.size < 10000000000) : qv s = some (SH s) := by
 unfold qv
 rw [zbzu s hs,obz,if_pos ⟨by omega,by rw [zcgs]; omega⟩]; rfl
def SEC (zbif : ByteArray) (k i b : Int) : ByteArray := SH (zbif ++ zbka [IntKind.u8.wrap k,IntKind.u8.wrap i,IntKind.u8.wrap b])
def VAL (zbif : ByteArray) (k i b : Int) : ByteArray := if 0 ≤ k ∧ k ≤ 255 ∧ 0 ≤ i ∧ i < 16 ∧ 0 ≤ b ∧ b < 2 then SEC zbif k i b else ⟨#[]⟩
theorem zby8 (a b c : Int) : (zbka [a,b,c]).size = 3 := zb41 _
theorem zbyz (zbif : ByteArray) (hs : zbif.size < 100000) (k i b : Int) : yx zbif k i b = some (VAL zbif k i b) := by
 unfold yx VAL
 by_cases c0 : k < 0
 · rw [if_pos c0,if_neg (by omega)]
 · rw [if_neg c0]
   by_cases c1 : 255 < k
   · rw [if_pos c1,if_neg (by omega)]
   · rw [if_neg c1]
     by_cases c2 : i < 0
     · rw [if_pos c2,if_neg (by omega)]
     · rw [if_neg c2]
       by_cases c3 : 16 ≤ i
       · rw [if_pos c3,if_neg (by omega)]
       · rw [if_neg c3]
         by_cases c4 : b < 0
         · rw [if_pos c4,if_neg (by omega)]
         · rw [if_neg c4]
           by_cases c5 : 1 < b
           · rw [if_pos c5,if_neg (by omega)]
           · rw [if_neg c5,if_pos (by rw [zby8]; omega),zcbu _ (by rw [ByteArray.size_append,zby8]; omega),obz,if_pos (by omega)]; rfl
def cat (f : Nat → ByteArray) : Nat → Nat → ByteArray → ByteArray
 | _,0,acc => acc
 | i,n + 1,acc => cat f (i + 1) n (acc ++ f i)
theorem zbx8 (f : Nat → ByteArray) (hf : ∀ i,i < 16 → (f i).size = 32) (n : Nat) : ∀ (i : Nat) (acc : ByteArray),n + i = 16 → (cat f i n acc).size = acc.size + 32 * n := by
 induction n with
 | zero => intro i acc h; rfl
 | succ n ih => intro i acc h; rw [cat,ih (i + 1) _ (by omega),ByteArray.size_append,hf i (by omega)]; omega
def isK (k : Int) : Prop := 0 ≤ k ∧ k ≤ 255
instance (k : Int) : Decidable (isK k) := inferInstanceAs (Decidable (0 ≤ k ∧ k ≤ 255))
theorem zb1f (zbif : ByteArray) (k i b : Int) : (VAL zbif k i b).size ≤ 16 := by
 unfold VAL
 split
 · exact Nat.le_of_eq (zbwq _)
 · exact Nat.zero_le _
def zb8g (zbif : ByteArray) (k : Int) (i : Nat) : ByteArray := SH (VAL zbif k (i : Int) 0) ++ SH (VAL zbif k (i : Int) 1)
def PUB (zbif : ByteArray) (k : Int) : ByteArray := SH (cat (zb8g zbif k) 0 16 ⟨#[]⟩)
theorem zbry (zbif : ByteArray) (k : Int) (i : Nat) : (zb8g zbif k i).size = 32 := by unfold zb8g; rw [ByteArray.size_append,zbwq,zbwq]
theorem zbrz (zbif : ByteArray) (k : Int) : (cat (zb8g zbif k) 0 16 ⟨#[]⟩).size = 512 := by rw [zbx8 _ (fun i _ => zbry zbif k i) 16 0 _ rfl]; rfl
theorem zb8h (zbif : ByteArray) (hs : zbif.size < 100000) (k : Int) (n : Nat) : ∀ (i : Nat) (acc : ByteArray),n + i = 16 → acc.size ≤ 32 * i → uj zbif k acc (i : Int) = some (cat (zb8g zbif k) i n acc) := by
 induction n with
 | zero =>
  intro i acc h ha
  rw [zc3l,gf,if_neg (by omega)]
  rfl
 | succ n ih =>
  intro i acc h ha
  have v1 := zb1f zbif k (i : Int) 0
  have v2 := zb1f zbif k (i : Int) 1
  rw [zc3l,gf,if_pos (by omega),zbyz zbif hs,obz,zcbu _ (by omega),obz,if_pos (by rw [zbwq]; omega),zbyz zbif hs,obz,zcbu _ (by omega),obz,if_pos (by rw [zbwq,ByteArray.size_append,zbwq]; omega),lw i (by omega),obz,LS.go,ByteArray.append_assoc]
  exact ih (i + 1) _ (by omega) (by rw [ByteArray.size_append,ByteArray.size_append,zbwq,zbwq]; omega)
theorem zb8i (zbif : ByteArray) (hs : zbif.size < 100000) (k : Int) : zu zbif k = some (if isK k then PUB zbif k else ⟨#[]⟩) := by
 unfold zu
 by_cases c0 : k < 0
 · rw [if_pos c0,if_neg (by unfold isK; omega)]
 · rw [if_neg c0]
   by_cases c1 : 255 < k
   · rw [if_pos c1,if_neg (by unfold isK; omega)]
   · have c : isK k := ⟨by omega,by omega⟩
     rw [if_neg c1,if_pos c]
     refine (congrArg (fun x => (x >>= _)) (zb8h zbif hs k 16 0 ⟨#[]⟩ rfl (Nat.zero_le _))).trans ?_
     rw [obz,zcbu _ (by rw [zbrz]; decide)]
     rfl
open Go Go.RowKit Sh Ic
def zbl2 (s : ByteArray) : Bool := decide (1 ≤ s.size) && decide (s.size ≤ 16)
def inB (n lo hi : Int) : Bool := decide (lo ≤ n) && decide (n ≤ hi)
theorem qi {n lo hi : Int} : inB n lo hi = true ↔ lo ≤ n ∧ n ≤ hi := by unfold inB; rw [Bool.and_eq_true,decide_eq_true_iff,decide_eq_true_iff]
theorem zc53 {s : ByteArray} : zbl2 s = true ↔ 1 ≤ s.size ∧ s.size ≤ 16 := by unfold zbl2; rw [Bool.and_eq_true,decide_eq_true_iff,decide_eq_true_iff]
theorem zbsr (s : ByteArray) : tj s = some (zbl2 s) := by
 unfold tj zbl2
 by_cases h : 1 ≤ s.size
 · rw [if_pos (by omega),decide_eq_true h,Bool.true_and]
   congr 1
   exact decide_eq_decide.2 ⟨fun _ => by omega,fun _ => by omega⟩
 · rw [if_neg (by omega),decide_eq_false h,Bool.false_and]
theorem zbwk (n lo hi : Int) : nm n lo hi = some (inB n lo hi) := by
 unfold nm inB
 by_cases h : lo ≤ n
 · rw [if_pos h,decide_eq_true h,Bool.true_and]
 · rw [if_neg h,decide_eq_false h,Bool.false_and]
theorem zcbl {α : Type} (l : List α) (p : α → Bool) (i : Nat) (h : i < l.length) : (l.drop i).any p = (p l[i] || (l.drop (i + 1)).any p) := by
 rw [List.drop_eq_getElem_cons h,List.any_cons]
theorem zdg2 (l : List ByteArray) (c : Int) (hl : l.length < 1000000) (n : Nat) : ∀ i : Nat,n + i = l.length → ∃ r,bv l c (l.length : Nat) (i : Int) = some r ∧
 ((∃ v,r = .rt v ∧ 0 ≤ v ∧ ((l.drop i).any fun x => decide (¬ ((x.size : Nat) : Int) = c)) = true) ∨ (r = .ex () ∧ ((l.drop i).any fun x => decide (¬ ((x.size : Nat) : Int) = c)) = false)) := by
 induction n with
 | zero =>
  intro i h
  refine ⟨.ex (),?_,.inr ⟨rfl,?_⟩⟩
  · rw [mc,ay,if_neg (by omega),obz,LS.go]
  · rw [List.drop_of_length_le (by omega)]; rfl
 | succ n ih =>
  intro i h
  have hi : i < l.length := by omega
  rw [mc,ay,if_pos (by omega),fj hi,obz,ww,obz,zcbl _ _ _ hi]
  by_cases p : decide (¬ ((l[i].size : Nat) : Int) = c) = true
  · rw [if_pos p,obz,LS.go]
    exact ⟨_,rfl,.inl ⟨_,rfl,by omega,by rw [p]; rfl⟩⟩
  · have p' := Bool.eq_false_iff.2 p
    rw [if_neg p,obz,LS.go,lw i (by omega),p',Bool.false_or]
    exact ih (i + 1) (by omega)
theorem zch7 (l : List ByteArray) (c : Int) (hl : l.length < 1000000) : bx l c = some (l.any fun x => decide (¬ ((x.size : Nat) : Int) = c)) := by
 obtain ⟨r,h,q⟩ := zdg2 l c hl l.length 0 rfl
 rw [List.drop_zero] at q
 have h : bv l c (l.length : Nat) 0 = some r := h
 unfold bx du
 rw [h,obz]
 rcases q with ⟨v,rfl,h0,q⟩ | ⟨rfl,q⟩
 · show some (decide (0 ≤ v)) = _
   rw [q,decide_eq_true h0]
 · show some (decide ((0 : Int) ≤ -1)) = _
   rw [q]; rfl
def zb2h (l : List ByteArray) (n sz : Int) : Bool := decide ((l.length : Int) = n) && !l.any fun x => decide (¬ ((x.size : Nat) : Int) = sz)
theorem zbqi (l : List ByteArray) (n sz : Int) (hn : n < 1000000) : ti l n sz = some (zb2h l n sz) := by
 unfold ti zb2h
 by_cases h : (l.length : Int) = n
 · rw [if_pos h,zch7 l sz (by omega),obz,decide_eq_true h,Bool.true_and]
 · rw [if_neg h,decide_eq_false h,Bool.false_and]
theorem zb6t {l : List ByteArray} {n sz : Int} : zb2h l n sz = true ↔ (l.length : Int) = n ∧ ∀ x ∈ l,(x.size : Int) = sz := by
 unfold zb2h
 rw [Bool.and_eq_true,decide_eq_true_iff,Bool.not_eq_true',List.any_eq_false]
 refine and_congr_right fun _ => ⟨fun h x hx => ?_,fun h x hx => ?_⟩
 · have := h x hx
   simpa using this
 · simpa using h x hx
def zbmp (n : Int) (a : ac) : Bool := inB a.From 0 (n - 1) && (inB a.To 0 (n - 1) && (decide (a.From ≠ a.To) && (inB a.Ledger 0 3 && (zbl2 a.Asset && inB a.Amount 1 1125899906842624))))
theorem zcie (a : ac) (n : Int) (hn : 0 ≤ n ∧ n < 1000000) : zb5f a n = some (zbmp n a) := by
 unfold zb5f zbmp
 have w : IntKind.i64.wrap (n - 1) = n - 1 := wA (by omega) (by omega)
 rw [w,zbwk,obz]
 cases inB a.From 0 (n - 1) with
 | false => rfl
 | true =>
  rw [if_pos rfl,zbwk,obz]
  cases inB a.To 0 (n - 1) with
  | false => rfl
  | true =>
   rw [if_pos rfl]
   by_cases e : a.From = a.To
   · rw [if_pos e,decide_eq_false (fun h => h e)]; rfl
   · rw [if_neg e,decide_eq_true e,zbwk,obz]
     cases inB a.Ledger 0 3 with
     | false => rfl
     | true =>
      rw [if_pos rfl,zbsr,obz]
      cases zbl2 a.Asset with
      | false => rfl
      | true => rw [if_pos rfl,zbwk,obz]; rfl
def zbwu (nl : Int) (p : ag) : Bool := zbl2 p.Account && zb2h p.Keys nl 16
theorem zckp {α : Type} (l : List α) (p : α → Bool) (i : Nat) (h : i < l.length) : (l.drop i).all p = (p l[i] && (l.drop (i + 1)).all p) := by
 rw [List.drop_eq_getElem_cons h,List.all_cons]
theorem zdhc (s : aa) (np nl : Int) (hnl : nl < 1000000) (hp : s.Parties.length < 1000000) (n : Nat) : ∀ i : Nat,n + i = s.Parties.length →
 nr s np nl s.Parties (s.Parties.length : Nat) ((s.Parties.take i).map ag.Account) (i : Int) = some (if (s.Parties.drop i).all (zbwu nl) = true then .ex (s.Parties.map ag.Account) else .rt false) := by
 induction n with
 | zero =>
  intro i h
  rw [zc3f,fy,if_neg (by omega),obz,LS.go,List.drop_of_length_le (by omega),List.take_of_length_le (by omega)]; rfl
 | succ n ih =>
  intro i h
  have hi : i < s.Parties.length := by omega
  rw [zc3f,fy,if_pos (by omega),fj hi,obz,zbsr,obz,zckp _ _ _ hi]
  unfold zbwu
  cases zbl2 s.Parties[i].Account with
  | false => rfl
  | true =>
   rw [if_pos rfl,zbqi _ _ _ hnl,obz]
   cases zb2h s.Parties[i].Keys nl 16 with
   | false => rfl
   | true =>
    have e : (s.Parties.take i).map ag.Account ++ [s.Parties[i].Account] = (s.Parties.take (i + 1)).map ag.Account := by
     rw [List.take_succ_eq_append_getElem hi,List.map_append]; rfl
    rw [if_pos rfl,if_pos (by rw [List.length_map,List.length_take]; omega),obz,LS.go,lw i (by omega)]
    show nr s np nl s.Parties _ ((s.Parties.take i).map ag.Account ++ [s.Parties[i].Account]) _ = _
    rw [e,ih (i + 1) (by omega)]
    rfl
def ways (l : List ac) : List ei := l.map fun a => ⟨a.From,a.To⟩
theorem zdhb (s : aa) (np : Int) (acc : List ByteArray) (hnp : 0 ≤ np ∧ np < 1000000) (hp : s.Arcs.length < 1000000) (n : Nat) : ∀ i : Nat,n + i = s.Arcs.length →
 lz s np acc s.Arcs (s.Arcs.length : Nat) (ways (s.Arcs.take i)) (i : Int) = some (if (s.Arcs.drop i).all (zbmp np) = true then .ex (ways s.Arcs) else .rt false) := by
 induction n with
 | zero =>
  intro i h
  rw [zc3g,fx,if_neg (by omega),obz,LS.go,List.drop_of_length_le (by omega),List.take_of_length_le (by omega)]; rfl
 | succ n ih =>
  intro i h
  have hi : i < s.Arcs.length := by omega
  rw [zc3g,fx,if_pos (by omega),fj hi,obz,zcie _ _ hnp,obz,zckp _ _ _ hi]
  show (if zbmp np s.Arcs[i] = true then _ else _ : Option _) >>= _ = _
  cases zbmp np s.Arcs[i] with
  | false => rfl
  | true =>
   have e : ways (s.Arcs.take i) ++ [(⟨s.Arcs[i].From,s.Arcs[i].To⟩ : ei)] = ways (s.Arcs.take (i + 1)) := by
    unfold ways; rw [List.take_succ_eq_append_getElem hi,List.map_append]; rfl
   rw [if_pos rfl,if_pos (by unfold ways; rw [List.length_map,List.length_take]; omega),obz,LS.go,lw i (by omega)]
   show lz s np acc s.Arcs _ (ways (s.Arcs.take i) ++ [(⟨s.Arcs[i].From,s.Arcs[i].To⟩ : ei)]) _ = _
   rw [e,ih (i + 1) (by omega)]
   rfl
open Go Go.RowKit Sh Ic
theorem zdg4 (l : List Int) (c : Int) (hc : 0 ≤ c ∧ c < 1000000) (hl : l.length < 1000000) (n : Nat) : ∀ i : Nat,n + i = l.length → ∃ r,dd l c (l.length : Nat) (i : Int) = some r ∧
 ((∃ v,r = .rt v ∧ 0 ≤ v ∧ ((l.drop i).any fun x => !inB x 0 (c - 1)) = true) ∨ (r = .ex () ∧ ((l.drop i).any fun x => !inB x 0 (c - 1)) = false)) := by
 have w : IntKind.i64.wrap (c - 1) = c - 1 := wA (by omega) (by omega)
 induction n with
 | zero =>
  intro i h
  refine ⟨.ex (),?_,.inr ⟨rfl,?_⟩⟩
  · rw [pu,bd,if_neg (by omega),obz,LS.go]
  · rw [List.drop_of_length_le (by omega)]; rfl
 | succ n ih =>
  intro i h
  have hi : i < l.length := by omega
  rw [pu,bd,if_pos (by omega),fj hi,obz,wy,w,zbwk,obz,obz,zcbl _ _ _ hi]
  by_cases p : (!inB l[i] 0 (c - 1)) = true
  · rw [if_pos p,obz,LS.go]
    exact ⟨_,rfl,.inl ⟨_,rfl,by omega,by rw [p]; rfl⟩⟩
  · have p' := Bool.eq_false_iff.2 p
    rw [if_neg p,obz,LS.go,lw i (by omega),p',Bool.false_or]
    exact ih (i + 1) (by omega)
theorem zch8 (l : List Int) (c : Int) (hc : 0 ≤ c ∧ c < 1000000) (hl : l.length < 1000000) : de l c = some (l.any fun x => !inB x 0 (c - 1)) := by
 obtain ⟨r,h,q⟩ := zdg4 l c hc hl l.length 0 rfl
 rw [List.drop_zero] at q
 have h : dd l c (l.length : Nat) 0 = some r := h
 unfold de im
 rw [h,obz]
 rcases q with ⟨v,rfl,h0,q⟩ | ⟨rfl,q⟩
 · show some (decide (0 ≤ v)) = _
   rw [q,decide_eq_true h0]
 · show some (decide ((0 : Int) ≤ -1)) = _
   rw [q]; rfl
structure Ok (s : aa) : Prop where
 id : zbl2 s.ID = true
 np : 2 ≤ s.Parties.length ∧ s.Parties.length ≤ 6
 nl : 1 ≤ s.Leaders.length ∧ s.Leaders.length ≤ 3
 na : 1 ≤ s.Arcs.length ∧ s.Arcs.length ≤ 12
 locks : s.Locks.length = s.Leaders.length ∧ ∀ x ∈ s.Locks,x.size = 32
 start : 0 ≤ s.Start ∧ s.Start ≤ 1099511627776
 delta : 1 ≤ s.Delta ∧ s.Delta ≤ 1048576
 parties : ∀ p ∈ s.Parties,zbwu (s.Leaders.length : Nat) p = true
 arcs : ∀ a ∈ s.Arcs,zbmp (s.Parties.length : Nat) a = true
 accts : (s.Parties.map ag.Account).Nodup
 ways : (s.Arcs.map fun a => (a.From,a.To)).Nodup
 leads : s.Leaders.Nodup
 inl : ∀ v ∈ s.Leaders,0 ≤ v ∧ v < s.Parties.length
structure Wf (s : aa) : Prop where
 leads : ∀ v ∈ s.Leaders,zblw v = true
 start : zblw s.Start = true
 delta : zblw s.Delta = true
theorem zbyp {n : Int} (h1 : -9223372036854775808 ≤ n) (h2 : n ≤ 9223372036854775807) : zblw n = true := by
 unfold zblw; rw [decide_eq_true h1,decide_eq_true h2]; rfl
open Classical in
noncomputable def okS (s : aa) : Bool := decide (Ok s)
open Classical in
theorem zcbr {s : aa} (h : Ok s) : okS s = true := by unfold okS; exact decide_eq_true h
open Classical in
theorem oq {s : aa} (h : ¬ Ok s) : okS s = false := by unfold okS; exact decide_eq_false h
open Classical in
theorem zbmz {s : aa} : okS s = true ↔ Ok s := by unfold okS; exact decide_eq_true_iff
theorem zb7b (s : aa) (hw : Wf s) : mv s = some (okS s) := by
 unfold mv
 rw [zbsr,obz]
 by_cases h1 : zbl2 s.ID = true
 rotate_left
 · rw [if_neg h1,oq fun h => h1 h.id]
 rw [if_pos h1,zbwk,obz]
 by_cases h2 : inB (s.Parties.length : Nat) 2 6 = true
 rotate_left
 · rw [if_neg h2,oq fun h => h2 (qi.2 ⟨by have := h.np; omega,by have := h.np; omega⟩)]
 have h2' := qi.1 h2
 rw [if_pos h2,zbwk,obz]
 by_cases h3 : inB (s.Leaders.length : Nat) 1 3 = true
 rotate_left
 · rw [if_neg h3,oq fun h => h3 (qi.2 ⟨by have := h.nl; omega,by have := h.nl; omega⟩)]
 have h3' := qi.1 h3
 rw [if_pos h3,zbwk,obz]
 by_cases h4 : inB (s.Arcs.length : Nat) 1 12 = true
 rotate_left
 · rw [if_neg h4,oq fun h => h4 (qi.2 ⟨by have := h.na; omega,by have := h.na; omega⟩)]
 have h4' := qi.1 h4
 rw [if_pos h4,zbqi _ _ _ (by omega),obz]
 by_cases h5 : zb2h s.Locks (s.Leaders.length : Nat) 32 = true
 rotate_left
 · rw [if_neg h5,oq fun h => h5 (zb6t.2 ⟨by have := h.locks.1; omega,fun x hx => by have := h.locks.2 x hx; omega⟩)]
 have h5' := zb6t.1 h5
 rw [if_pos h5,zbwk,obz]
 by_cases h6 : inB s.Start 0 1099511627776 = true
 rotate_left
 · rw [if_neg h6,oq fun h => h6 (qi.2 h.start)]
 rw [if_pos h6,zbwk,obz]
 by_cases h7 : inB s.Delta 1 1048576 = true
 rotate_left
 · rw [if_neg h7,oq fun h => h7 (qi.2 h.delta)]
 have e1 := zdhc s (s.Parties.length : Nat) (s.Leaders.length : Nat) (by omega) (by omega) s.Parties.length 0 rfl
 have e1 : nr s (s.Parties.length : Nat) (s.Leaders.length : Nat) s.Parties (s.Parties.length : Nat) [] 0 = _ := e1
 rw [if_pos h7,e1,obz,List.drop_zero]
 by_cases h8 : s.Parties.all (zbwu (s.Leaders.length : Nat)) = true
 rotate_left
 · rw [if_neg h8,oq fun h => h8 (List.all_eq_true.2 h.parties)]
 rw [if_pos h8]
 have h8' := List.all_eq_true.1 h8
 have e2 := zdhb s (s.Parties.length : Nat) (s.Parties.map ag.Account) (by omega) (by omega) s.Arcs.length 0 rfl
 have e2 : lz s (s.Parties.length : Nat) (s.Parties.map ag.Account) s.Arcs (s.Arcs.length : Nat) [] 0 = _ := e2
 show lz s (s.Parties.length : Nat) (s.Parties.map ag.Account) s.Arcs (s.Arcs.length : Nat) [] 0 >>= _ = _
 rw [e2,obz,List.drop_zero]
 by_cases h9 : s.Arcs.all (zbmp (s.Parties.length : Nat)) = true
 rotate_left
 · rw [if_neg h9,oq fun h => h9 (List.all_eq_true.2 h.arcs)]
 rw [if_pos h9]
 have h9' := List.all_eq_true.1 h9
 show ol (s.Parties.map ag.Account) >>= _ = _
 have o1 : ol (s.Parties.map ag.Account) = some (decide (s.Parties.map ag.Account).Nodup) := if_pos ⟨by rw [List.length_map]; omega,fun x hx => by
  obtain ⟨p,hp,rfl⟩ := List.mem_map.1 hx
  have := h8' p hp
  unfold zbwu at this
  rw [Bool.and_eq_true,zc53] at this
  omega⟩
 rw [o1,obz]
 by_cases h10 : (s.Parties.map ag.Account).Nodup
 rotate_left
 · rw [if_neg (by rw [decide_eq_true_iff]; exact h10),oq fun h => h10 h.accts]
 rw [if_pos (decide_eq_true h10)]
 have em : (ways s.Arcs).map two = s.Arcs.map fun a => (a.From,a.To) := by unfold ways; rw [List.map_map]; rfl
 have o2 : uu (ways s.Arcs) = some (decide ((s.Arcs.map fun a => (a.From,a.To)).Nodup)) := by
  rw [← em]
  exact if_pos ⟨by unfold ways; rw [List.length_map]; omega,fun x hx => by
   obtain ⟨a,ha,rfl⟩ := List.mem_map.1 hx
   have := h9' a ha
   unfold zbmp at this
   rw [Bool.and_eq_true,Bool.and_eq_true,qi,qi] at this
   rw [Bool.and_eq_true]
   exact ⟨zbyp (by show _ ≤ a.From; omega) (by show a.From ≤ _; omega),zbyp (by show _ ≤ a.To; omega) (by show a.To ≤ _; omega)⟩⟩
 rw [o2,obz]
 by_cases h11 : (s.Arcs.map fun a => (a.From,a.To)).Nodup
 rotate_left
 · rw [if_neg (by rw [decide_eq_true_iff]; exact h11),oq fun h => h11 h.ways]
 have o3 : z8 s.Leaders = some (decide s.Leaders.Nodup) := if_pos ⟨by omega,hw.leads⟩
 rw [if_pos (decide_eq_true h11),o3,obz]
 by_cases h12 : s.Leaders.Nodup
 rotate_left
 · rw [if_neg (by rw [decide_eq_true_iff]; exact h12),oq fun h => h12 h.leads]
 rw [if_pos (decide_eq_true h12),zch8 _ _ ⟨by omega,by omega⟩ (by omega),obz]
 cases h13 : s.Leaders.any fun x => !inB x 0 ((s.Parties.length : Nat) - 1) with
 | true =>
  rw [oq fun h => by
   rw [List.any_eq_true] at h13
   obtain ⟨x,hx,h13⟩ := h13
   have := h.inl x hx
   rw [Bool.not_eq_true',← Bool.not_eq_true,qi] at h13
   omega]
  rfl
 | false =>
  rw [List.any_eq_false] at h13
  rw [zcbr ⟨h1,⟨by omega,by omega⟩,⟨by omega,by omega⟩,⟨by omega,by omega⟩,⟨by omega,fun x hx => by have := h5'.2 x hx; omega⟩,qi.1 h6,qi.1 h7,h8',h9',h10,h11,h12,fun v hv => by
   have := h13 v hv
   rw [Bool.not_eq_true',Bool.not_eq_false,qi] at this
   omega⟩]
  rfl
theorem zbmo {f : Nat → Option (LX Unit Bool)} {N : Nat} {P : Nat → Prop} (he : f N = some (.ex ())) (hs : ∀ k,k < N → P k → f k = f (k + 1)) (hb : ∀ k,k < N → ¬ P k → f k = some (.rt false)) :
 (f 0 = some (.ex ()) ∧ ∀ j,j < N → P j) ∨ (f 0 = some (.rt false) ∧ ∃ j,j < N ∧ ¬ P j) := by
 have go : ∀ n k,n + k = N → (f k = some (.ex ()) ∧ ∀ j,k ≤ j → j < N → P j) ∨ (f k = some (.rt false) ∧ ∃ j,j < N ∧ ¬ P j) := by
  intro n
  induction n with
  | zero =>
   intro k h
   obtain rfl : k = N := by omega
   exact .inl ⟨he,fun j h1 h2 => by omega⟩
  | succ n ih =>
   intro k h
   by_cases p : P k
   · rw [hs k (by omega) p]
     rcases ih (k + 1) (by omega) with ⟨h1,h2⟩ | h1
     · refine .inl ⟨h1,fun j h3 h4 => ?_⟩
       by_cases e : j = k
       · rw [e]; exact p
       · exact h2 j (by omega) h4
     · exact .inr h1
   · exact .inr ⟨hb k (by omega) p,k,by omega,p⟩
 rcases go N 0 rfl with ⟨h1,h2⟩ | h
 · exact .inl ⟨h1,fun j h => h2 j (Nat.zero_le _) h⟩
 · exact .inr h
theorem zblx {α : Type} {l : List α} {i : Nat} {x : α} (h : l[i]? = some x) : i < l.length ∧ ixL l (i : Int) = some x := by
 obtain ⟨h1,h2⟩ := List.getElem?_eq_some_iff.1 h
 exact ⟨h1,by rw [fj h1,h2]⟩
theorem zbl7 {α : Type} {l : List α} {i : Nat} (h : i < l.length) : ∃ x,l[i]? = some x := ⟨_,List.getElem?_eq_getElem h⟩
theorem zb4r {α β : Type} {l : List α} {f : α → β} : (∀ (j : Nat) (x : α),l[j]? = some x → ∀ k : Nat,k < j → ∀ y,l[k]? = some y → f y ≠ f x) ↔ (l.map f).Nodup := by
 unfold List.Nodup
 rw [List.pairwise_iff_getElem]
 constructor
 · intro h i j hi hj hij
   rw [List.length_map] at hi hj
   rw [List.getElem_map,List.getElem_map]
   exact h j _ (List.getElem?_eq_getElem hj) i hij _ (List.getElem?_eq_getElem hi)
 · intro h j x hj k hk y hy
   obtain ⟨h1,h2⟩ := List.getElem?_eq_some_iff.1 hj
   obtain ⟨h3,h4⟩ := List.getElem?_eq_some_iff.1 hy
   have := h k j (by rw [List.length_map]; exact h3) (by rw [List.length_map]; exact h1) hk
   rw [List.getElem_map,List.getElem_map,h2,h4] at this
   exact this
open Go Go.RowKit Sh Ic
inductive Rch (E : Int → Int → Prop) : Int → Int → Prop
 | one {x y : Int} : E x y → Rch E x y
 | snoc {x y z : Int} : Rch E x y → E y z → Rch E x z
theorem Rch.trans {E : Int → Int → Prop} {x y z : Int} (h : Rch E x y) (k : Rch E y z) : Rch E x z := by
 induction k with
 | one e => exact .snoc h e
 | snoc _ e ih => exact .snoc ih e
theorem Rch.mono {E F : Int → Int → Prop} (hf : ∀ x y,E x y → F x y) {x y : Int} (h : Rch E x y) : Rch F x y := by
 induction h with
 | one e => exact .one (hf _ _ e)
 | snoc _ e ih => exact .snoc ih (hf _ _ e)
theorem Rch.cons {E : Int → Int → Prop} {x y z : Int} (e : E x y) (h : Rch E y z) : Rch E x z := Rch.trans (.one e) h
theorem Rch.rev {E F : Int → Int → Prop} (hf : ∀ x y,E x y → F y x) {x y : Int} (h : Rch E x y) : Rch F y x := by
 induction h with
 | one e => exact .one (hf _ _ e)
 | snoc _ e ih => exact Rch.cons (hf _ _ e) ih
abbrev Sn (iq : List Bool) (y : Int) : Prop := ixL iq y = some true
theorem zbwc {α : Type} {l : List α} {i : Int} {x : α} : ixL l i = some x ↔ 0 ≤ i ∧ l[i.toNat]? = some x := by
 unfold ixL
 by_cases h : 0 ≤ i
 · rw [if_pos h]; exact ⟨fun e => ⟨h,e⟩,fun e => e.2⟩
 · rw [if_neg h]; exact ⟨fun e => (by cases e),fun e => absurd e.1 h⟩
theorem zb1x {α : Type} {l : List α} {i : Int} (h0 : 0 ≤ i) (h1 : i < (l.length : Int)) : ∃ x,ixL l i = some x := by
 obtain ⟨x,hx⟩ : ∃ x,l[i.toNat]? = some x := ⟨_,List.getElem?_eq_getElem (by omega)⟩
 exact ⟨x,zbwc.2 ⟨h0,hx⟩⟩
theorem zbts {l : List Bool} {i z : Int} (h0 : 0 ≤ i) (h1 : i < (l.length : Int)) : Sn (l.set i.toNat true) z ↔ z = i ∨ Sn l z := by
 unfold Sn
 rw [zbwc,zbwc]
 by_cases e : z = i
 · subst e
   rw [List.getElem?_set_self (by omega)]
   exact ⟨fun _ => .inl rfl,fun _ => ⟨h0,rfl⟩⟩
 · constructor
   · rintro ⟨a,b⟩
     rw [List.getElem?_set_ne (by omega)] at b
     exact .inr ⟨a,b⟩
   · rintro (rfl | ⟨a,b⟩)
     · exact absurd rfl e
     · exact ⟨a,by rw [List.getElem?_set_ne (by omega)]; exact b⟩
def un : List Bool → Nat
 | [] => 0
 | true :: r => un r
 | false :: r => un r + 1
theorem zbpb : ∀ (l : List Bool) (i : Nat),l[i]? = some false → un (l.set i true) + 1 = un l
 | [],_,h => by cases h
 | b :: r,0,h => by
  have : b = false := by simpa using h
  subst this; rfl
 | b :: r,i + 1,h => by
  have := zbpb r i (by simpa using h)
  cases b
  · show un (r.set i true) + 1 + 1 = un r + 1
    omega
  · exact this
def be (back : Bool) (A : List ac) (P : Int → Bool) (x y : Int) : Prop := ∃ a ∈ A,reX back a = x ∧ reY back a = y ∧ P y = true
structure InR (np : Nat) (back : Bool) (A : List ac) : Prop where
 y : ∀ a ∈ A,0 ≤ reY back a ∧ reY back a < (np : Int)
section
variable (np : Nat) (back : Bool) (v : Int) (p : Int → Option Bool) (P : Int → Bool) (hp : ∀ y,0 ≤ y → y < (np : Int) → p y = some (P y))
include hp
theorem zcgx : ∀ (A : List ac) (iq : List Bool) (todo : List Int),InR np back A → iq.length = np → todo.length + A.length < 1000000 →
 ∃ seen' todo',reA back v p A iq todo = some (seen',todo') ∧ seen'.length = np ∧ todo'.length + un seen' = todo.length + un iq ∧ todo'.length ≤ todo.length + A.length ∧ (∀ y,Sn iq y → Sn seen' y) ∧ (∀ t ∈ todo,t ∈ todo') ∧
  (∀ y,Sn seen' y → Sn iq y ∨ (y ∈ todo' ∧ be back A P v y)) ∧ (∀ t ∈ todo',t ∈ todo ∨ (Sn seen' t ∧ be back A P v t)) ∧ (∀ y,be back A P v y → Sn seen' y)
 | [],iq,todo,_,hl,_ => ⟨iq,todo,rfl,hl,rfl,Nat.le_refl _,fun _ h => h,fun _ h => h,fun _ h => .inl h,fun _ h => .inl h,fun y ⟨a,ha,_⟩ => by cases ha⟩
 | a :: A,iq,todo,hI,hl,hb => by
  have hy := hI.y a (.head _)
  have hI' : InR np back A := ⟨fun b hb => hI.y b (.tail _ hb)⟩
  have lift : ∀ {y},be back A P v y → be back (a :: A) P v y := fun ⟨b,hb,h⟩ => ⟨b,.tail _ hb,h⟩
  rw [List.length_cons] at hb
  -- what the rest does,when nothing comes of this arc
  have skip : (¬ (reX back a = v ∧ P (reY back a) = true) ∨ Sn iq (reY back a)) → ∃ seen' todo',reA back v p A iq todo = some (seen',todo') ∧ seen'.length = np ∧ todo'.length + un seen' = todo.length + un iq ∧ todo'.length ≤ todo.length + (A.length + 1) ∧ (∀ y,Sn iq y → Sn seen' y) ∧ (∀ t ∈ todo,t ∈ todo') ∧
   (∀ y,Sn seen' y → Sn iq y ∨ (y ∈ todo' ∧ be back (a :: A) P v y)) ∧ (∀ t ∈ todo',t ∈ todo ∨ (Sn seen' t ∧ be back (a :: A) P v t)) ∧ (∀ y,be back (a :: A) P v y → Sn seen' y) := by
   intro hno
   obtain ⟨s',t',h1,h2,h3,h3b,h4,h5,h6,h7,h8⟩ := zcgx A iq todo hI' hl (by omega)
   refine ⟨s',t',h1,h2,h3,by omega,h4,h5,fun y h => (h6 y h).imp id fun q => ⟨q.1,lift q.2⟩,fun t h => (h7 t h).imp id fun q => ⟨q.1,lift q.2⟩,?_⟩
   rintro y ⟨b,hb,e1,e2,e3⟩
   rcases List.mem_cons.1 hb with rfl | hb
   · subst e2
     rcases hno with hno | hno
     · exact absurd ⟨e1,e3⟩ hno
     · exact h4 _ hno
   · exact h8 y ⟨b,hb,e1,e2,e3⟩
  rw [reA,List.length_cons]
  by_cases c : reX back a = v
  · rw [if_pos c]
    obtain ⟨q,hq⟩ := zb1x (l := iq) hy.1 (by rw [hl]; exact hy.2)
    rw [hq,obz]
    cases q with
    | true => rw [if_pos rfl]; exact skip (.inr hq)
    | false =>
     rw [if_neg (by decide),hp _ hy.1 hy.2,obz]
     cases hP : P (reY back a) with
     | false => rw [if_neg (by decide)]; exact skip (.inl fun h => by rw [hP] at h; cases h.2)
     | true =>
      rw [if_pos rfl,if_pos (by omega)]
      have hu := zbpb iq (reY back a).toNat (zbwc.1 hq).2
      have hset : ∀ z,Sn (iq.set (reY back a).toNat true) z ↔ z = reY back a ∨ Sn iq z := fun z => zbts hy.1 (by rw [hl]; exact hy.2)
      obtain ⟨s',t',h1,h2,h3,h3b,h4,h5,h6,h7,h8⟩ := zcgx A (iq.set (reY back a).toNat true) (todo ++ [reY back a]) hI' (by rw [List.length_set]; exact hl) (by rw [List.length_append,List.length_singleton]; omega)
      rw [List.length_append,List.length_singleton] at h3 h3b
      have ed : be back (a :: A) P v (reY back a) := ⟨a,.head _,c,rfl,hP⟩
      have iny : reY back a ∈ t' := h5 _ (by simp)
      have sny : Sn s' (reY back a) := h4 _ ((hset _).2 (.inl rfl))
      refine ⟨s',t',h1,h2,by omega,by omega,fun y h => h4 _ ((hset y).2 (.inr h)),fun t h => h5 _ (List.mem_append_left _ h),fun y h => ?_,fun t h => ?_,?_⟩
      · rcases h6 y h with h | ⟨h,e⟩
        · rcases (hset y).1 h with rfl | h
          · exact .inr ⟨iny,ed⟩
          · exact .inl h
        · exact .inr ⟨h,lift e⟩
      · rcases h7 t h with h | ⟨h,e⟩
        · rcases List.mem_append.1 h with h | h
          · exact .inl h
          · have : t = reY back a := by simpa using h
            subst this
            exact .inr ⟨sny,ed⟩
        · exact .inr ⟨h,lift e⟩
      · rintro y ⟨b,hb,e1,e2,e3⟩
        rcases List.mem_cons.1 hb with rfl | hb
        · subst e2; exact sny
        · exact h8 y ⟨b,hb,e1,e2,e3⟩
  · rw [if_neg c]; exact skip (.inl fun h => c h.1)
structure zcif (A : List ac) (o : Int) (iq : List Bool) (todo : List Int) : Prop where
 l : iq.length = np
 s : ∀ y,Sn iq y → Rch (be back A P) o y
 t : ∀ t ∈ todo,t = o ∨ Rch (be back A P) o t
 c : ∀ x,(x = o ∨ Sn iq x) → x ∈ todo ∨ ∀ y,be back A P x y → Sn iq y
omit hp in
theorem zcmn {l : List Int} {v : Int} (h : l[l.length - 1]? = some v) {t : Int} (ht : t ∈ l) : t = v ∨ t ∈ l.take (l.length - 1) := by
 have hlt : l.length - 1 < l.length := (List.getElem?_eq_some_iff.1 h).1
 have e : l = l.take (l.length - 1) ++ [v] := by
  have := List.take_append_drop (l.length - 1) l
  rw [List.drop_eq_getElem_cons hlt,List.drop_of_length_le (by omega)] at this
  rw [(List.getElem?_eq_some_iff.1 h).2] at this
  exact this.symm
 rw [e] at ht
 rcases List.mem_append.1 ht with ht | ht
 · exact .inr ht
 · exact .inl (by simpa using ht)
theorem zbrb (A : List ac) (o : Int) (iq : List Bool) (hI : zcif np back P A o iq []) : ∃ r,kx (reS back p A) (iq,[]) = some r ∧ r.length = np ∧ ∀ y,Sn r y ↔ Rch (be back A P) o y := by
 refine ⟨iq,?_,hI.l,fun y => ⟨hI.s y,fun h => ?_⟩⟩
 · rw [bu]; unfold reS; rw [if_neg (by simp),obz,LS.go]
 · have cl : ∀ x,(x = o ∨ Sn iq x) → ∀ y,be back A P x y → Sn iq y := fun x hx => (hI.c x hx).resolve_left (by simp)
   induction h with
   | one e => exact cl _ (.inl rfl) _ e
   | snoc _ e ih => exact cl _ (.inr ih) _ e
theorem zb8d (A : List ac) (o : Int) (hA : InR np back A) (hAl : A.length < 100000) (hnp : np < 1000) (n : Nat) : ∀ (iq : List Bool) (todo : List Int),todo.length + un iq ≤ n → n < 500000 → zcif np back P A o iq todo →
 ∃ r,kx (reS back p A) (iq,todo) = some r ∧ r.length = np ∧ ∀ y,Sn r y ↔ Rch (be back A P) o y := by
 induction n with
 | zero =>
  intro iq todo hm _ hI
  have ht : todo = [] := List.eq_nil_of_length_eq_zero (by omega)
  subst ht
  exact zbrb np back p P hp A o iq hI
 | succ n ih =>
  intro iq todo hm hn hI
  by_cases c : 0 < todo.length
  · obtain ⟨v,hv⟩ : ∃ v,todo[todo.length - 1]? = some v := ⟨_,List.getElem?_eq_getElem (by omega)⟩
    have hv' : ixL todo ((todo.length - 1 : Nat) : Int) = some v := zbwc.2 ⟨by omega,by rw [Int.toNat_natCast]; exact hv⟩
    have lt : (todo.take (todo.length - 1)).length = todo.length - 1 := by rw [List.length_take]; omega
    obtain ⟨s',t',h1,h2,h3,h3b,h4,h5,h6,h7,h8⟩ := zcgx np back v p P hp A iq (todo.take (todo.length - 1)) hA hI.l (by rw [lt]; omega)
    have vr : v = o ∨ Rch (be back A P) o v := hI.t v (List.mem_of_getElem? hv)
    have sv : ∀ y,be back A P v y → Rch (be back A P) o y := fun y e => by
     rcases vr with rfl | r
     · exact .one e
     · exact .snoc r e
    have inv : zcif np back P A o s' t' := by
     refine ⟨h2,fun y h => ?_,fun t h => ?_,fun x hx => ?_⟩
     · rcases h6 y h with h | ⟨_,e⟩
       · exact hI.s y h
       · exact sv y e
     · rcases h7 t h with h | ⟨_,e⟩
       · exact hI.t t (List.mem_of_mem_take h)
       · exact .inr (sv t e)
     · by_cases ex : x = v
       · subst ex; exact .inr h8
       · have hx' : x = o ∨ Sn iq x ∨ x ∈ t' := by
          rcases hx with h | h
          · exact .inl h
          · rcases h6 x h with h | ⟨h,_⟩
            · exact .inr (.inl h)
            · exact .inr (.inr h)
         rcases hx' with h | h | h
         · rcases hI.c x (.inl h) with q | q
           · rcases zcmn hv q with q | q
             · exact absurd q ex
             · exact .inl (h5 _ q)
           · exact .inr fun y e => h4 _ (q y e)
         · rcases hI.c x (.inr h) with q | q
           · rcases zcmn hv q with q | q
             · exact absurd q ex
             · exact .inl (h5 _ q)
           · exact .inr fun y e => h4 _ (q y e)
         · exact .inl h
    rw [lt] at h3
    obtain ⟨r,e1,e2,e3⟩ := ih s' t' (by omega) (by omega) inv
    refine ⟨r,?_,e2,e3⟩
    rw [bu]
    unfold reS
    simp only
    rw [if_pos c,if_pos (by omega),hv',obz,h1,obz,obz,LS.go]
    exact e1
  · have ht : todo = [] := List.eq_nil_of_length_eq_zero (by omega)
    subst ht
    exact zbrb np back p P hp A o iq hI
end
theorem zb2o : ∀ l : List Bool,un l ≤ l.length
 | [] => Nat.le_refl _
 | true :: r => by have := zb2o r; show un r ≤ _; rw [List.length_cons]; omega
 | false :: r => by have := zb2o r; show un r + 1 ≤ _; rw [List.length_cons]; omega
theorem zbqd (n : Nat) (y : Int) : ¬ Sn (List.replicate n false) y := by
 unfold Sn
 rw [zbwc]
 rintro ⟨_,h⟩
 rw [List.getElem?_replicate] at h
 split at h <;> simp at h
theorem zcbt (s : aa) (o : Int) (back : Bool) (p : Int → Option Bool) (P : Int → Bool) (hp : ∀ y,0 ≤ y → y < (s.Parties.length : Int) → p y = some (P y)) (hA : InR s.Parties.length back s.Arcs) (hAl : s.Arcs.length < 100000) (hnp : s.Parties.length < 1000) :
 ∃ r,reF s o back p = some r ∧ r.length = s.Parties.length ∧ ∀ y,Sn r y ↔ Rch (be back s.Arcs P) o y := by
 obtain ⟨r,h1,h2,h3⟩ := zb8d s.Parties.length back p P hp s.Arcs o hA hAl hnp (1 + un (List.replicate s.Parties.length false)) (List.replicate s.Parties.length false) [o] (Nat.le_refl _)
  (by have := zb2o (List.replicate s.Parties.length false); rw [List.length_replicate] at this; omega)
  ⟨List.length_replicate,fun y h => absurd h (zbqd _ _),fun t h => .inl (by simpa using h),fun x hx => hx.elim (fun h => .inl (by simp [h])) fun h => absurd h (zbqd _ _)⟩
 refine ⟨r,?_,h2,h3⟩
 unfold reF
 rw [if_pos ⟨by omega,by omega⟩]
 exact h1
end Go.Proofs.Ytdcfoaafkppojaa
