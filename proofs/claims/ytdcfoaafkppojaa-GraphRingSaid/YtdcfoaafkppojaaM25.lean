import Derived.Test.YtdcfoaafkppojaaD6
set_option linter.unusedSimpArgs false
set_option linter.unusedVariables false
set_option linter.unusedSectionVars false

namespace Go.Proofs.Ytdcfoaafkppojaa
open Go Go.RowKit Sh Ic
abbrev W := BitVec 32
theorem obz {α β : Type} {a : α} {f : α → Option β} : (some a >>= f) = f a := by generalize h : f a = x; exact h
theorem w64 {n : Int} (h1 : -9223372036854775808 ≤ n) (h2 : n < 9223372036854775808) : IntKind.i64.wrap n = n := by
 simp [IntKind.wrap,IntKind.bits,IntKind.signed,IntKind.max]; omega
theorem zb2r (n : Int) : IntKind.u32.wrap n = n % 4294967296 := by simp [IntKind.wrap,IntKind.bits,IntKind.signed]
theorem zbtw (n : Nat) (h : n < 4294967296) : IntKind.u32.wrap (n : Int) = (n : Int) := by rw [zb2r]; omega
theorem zbp0 (a : W) : BitVec.ofInt 32 (a.toNat : Int) = a := by
 rw [BitVec.ofInt_natCast,BitVec.ofNat_toNat,BitVec.setWidth_eq]
theorem zbul (a : W) : a.toNat < 4294967296 := a.isLt
theorem zcoa (a b : W) : IntKind.u32.wrap ((BitVec.ofInt IntKind.u32.bits (a.toNat : Int) ||| BitVec.ofInt IntKind.u32.bits (b.toNat : Int)).toNat : Int) = ((a ||| b).toNat : Int) := by
 show IntKind.u32.wrap ((BitVec.ofInt 32 (a.toNat : Int) ||| BitVec.ofInt 32 (b.toNat : Int)).toNat : Int) = _
 rw [zbp0,zbp0,zbtw _ (zbul _)]
theorem zb2u (a b : W) : IntKind.u32.wrap ((BitVec.ofInt IntKind.u32.bits (a.toNat : Int) &&& BitVec.ofInt IntKind.u32.bits (b.toNat : Int)).toNat : Int) = ((a &&& b).toNat : Int) := by
 show IntKind.u32.wrap ((BitVec.ofInt 32 (a.toNat : Int) &&& BitVec.ofInt 32 (b.toNat : Int)).toNat : Int) = _
 rw [zbp0,zbp0,zbtw _ (zbul _)]
theorem zbui (a b : W) : IntKind.u32.wrap ((BitVec.ofInt IntKind.u32.bits (a.toNat : Int) ^^^ BitVec.ofInt IntKind.u32.bits (b.toNat : Int)).toNat : Int) = ((a ^^^ b).toNat : Int) := by
 show IntKind.u32.wrap ((BitVec.ofInt 32 (a.toNat : Int) ^^^ BitVec.ofInt 32 (b.toNat : Int)).toNat : Int) = _
 rw [zbp0,zbp0,zbtw _ (zbul _)]
theorem zb2t (a : W) : zb21 .u32 (a.toNat : Int) = ((~~~a).toNat : Int) := by
 show IntKind.u32.wrap ((BitVec.ofInt 32 4294967295 ^^^ BitVec.ofInt 32 (a.toNat : Int)).toNat : Int) = _
 rw [zbp0,show BitVec.ofInt 32 4294967295 = BitVec.allOnes 32 from by decide,BitVec.allOnes_xor,zbtw _ (zbul _)]
theorem zbqi (a b : W) : IntKind.u32.wrap ((a.toNat : Int) + (b.toNat : Int)) = ((a + b).toNat : Int) := by
 rw [zb2r,BitVec.toNat_add]; omega
theorem zbuj (a : W) (k : Nat) : (a.toNat : Int).fdiv (2 ^ k) = ((a >>> k).toNat : Int) := by
 rw [Int.fdiv_eq_ediv_of_nonneg _ (by exact Int.le_of_lt (Int.pow_pos (by decide))),BitVec.toNat_ushiftRight,Nat.shiftRight_eq_div_pow,Int.natCast_ediv,Int.natCast_pow]
 rfl
theorem zbuk (a : W) (k : Nat) : IntKind.u32.wrap ((a.toNat : Int) * 2 ^ k) = ((a <<< k).toNat : Int) := by
 rw [zb2r,BitVec.toNat_shiftLeft,Nat.shiftLeft_eq,Int.natCast_emod,Int.natCast_mul,Int.natCast_pow]
 rfl
def zbe6 (x : W) (n : Nat) : W := x >>> n ||| x <<< (32 - n)
theorem zbkh (x : W) (n : Nat) (z : Int) (hz : z = (n : Int)) (hn : n ≤ 32) : jc (x.toNat : Int) z = some ((zbe6 x n).toNat : Int) := by
 subst hz
 have c1 : ¬ (n : Int) < 0 := by omega
 have w1 : IntKind.u64.wrap (32 - (n : Int)) = ((32 - n : Nat) : Int) := by
  have : IntKind.u64.wrap (32 - (n : Int)) = (32 - (n : Int)) % 18446744073709551616 := by simp [IntKind.wrap,IntKind.bits,IntKind.signed]
  omega
 have c2 : ¬ ((32 - n : Nat) : Int) < 0 := by omega
 have e1 : Nat.min n IntKind.u32.bits = n := Nat.min_eq_left hn
 have e2 : Nat.min (32 - n) IntKind.u32.bits = 32 - n := Nat.min_eq_left (Nat.sub_le _ _)
 unfold jc
 simp only [obz,c1,w1,c2,Int.toNat_natCast,e1,e2,zbuj,zbuk,zcoa,not_false_eq_true,if_true]
 rfl
def wl (ws : List W) : List Int := ws.map fun a => (a.toNat : Int)
theorem zbmo (ws : List W) : (wl ws).length = ws.length := List.length_map ..
theorem xp (ws : List W) (j : Nat) (z : Int) (hz : z = (j : Int)) (h : j < ws.length) : ixL (wl ws) z = some ((ws.getD j 0).toNat : Int) := by
 subst hz
 rw [sd (by rw [zbmo]; exact h)]
 simp only [wl,List.getElem_map,List.getD_eq_getElem?_getD,List.getElem?_eq_getElem h,Option.getD_some]
theorem zbdm (ws : List W) (j : Nat) (x : W) : (wl ws).set j (x.toNat : Int) = wl (ws.set j x) := by rw [wl,wl,List.map_set]
def bt (s : ByteArray) (i : Nat) : W := BitVec.ofNat 32 (s.data.getD i 0).toNat
def be4 (s : ByteArray) (i : Nat) : W := bt s (4 * i) <<< 24 ||| bt s (4 * i + 1) <<< 16 ||| bt s (4 * i + 2) <<< 8 ||| bt s (4 * i + 3)
theorem zbv6 (s : ByteArray) (i : Nat) : (bt s i).toNat = (s.data.getD i 0).toNat := by
 unfold bt; rw [BitVec.toNat_ofNat]; have := (s.data.getD i 0).toNat_lt; omega
theorem zbsb (s : ByteArray) (i : Nat) : IntKind.u32.wrap ((bt s i).toNat : Int) = ((bt s i).toNat : Int) := zbtw _ (zbul _)
theorem zbye (s : ByteArray) (i : Nat) (z : Int) (hz : z = (i : Int)) (h : i < s.size) : ixB s z = some ((bt s i).toNat : Int) := by
 subst hz
 unfold ixB
 rw [if_pos (by omega),Int.toNat_natCast,zbv6]
def fill (s : ByteArray) : Nat → Nat → List W → List W
 | _,0,ws => ws
 | i,n + 1,ws => fill s (i + 1) n (ws.set i (be4 s i))
def zcuv (x : W) : W := zbe6 x 7 ^^^ zbe6 x 18 ^^^ x >>> 3
def zcuu (x : W) : W := zbe6 x 17 ^^^ zbe6 x 19 ^^^ x >>> 10
def zb22 (ws : List W) (i : Nat) : W := ws.getD (i - 16) 0 + zcuv (ws.getD (i - 15) 0) + ws.getD (i - 7) 0 + zcuu (ws.getD (i - 2) 0)
def zbe1 : Nat → Nat → List W → List W
 | _,0,ws => ws
 | i,n + 1,ws => zbe1 (i + 1) n (ws.set i (zb22 ws i))
structure V8 where
 a : W
 b : W
 c : W
 d : W
 e : W
 f : W
 g : W
 h : W
def V8.t1 (v : V8) (k w : W) : W := v.h + (zbe6 v.e 6 ^^^ zbe6 v.e 11 ^^^ zbe6 v.e 25) + (v.e &&& v.f ^^^ ~~~v.e &&& v.g) + k + w
def V8.t2 (v : V8) : W := (zbe6 v.a 2 ^^^ zbe6 v.a 13 ^^^ zbe6 v.a 22) + (v.a &&& v.b ^^^ v.a &&& v.c ^^^ v.b &&& v.c)
def V8.rnd (v : V8) (k w : W) : V8 := ⟨v.t1 k w + v.t2,v.a,v.b,v.c,v.d + v.t1 k w,v.e,v.f,v.g⟩
def zbyo (ks ws : List W) : Nat → Nat → V8 → V8
 | _,0,v => v
 | i,n + 1,v => zbyo ks ws (i + 1) n (v.rnd (ks.getD i 0) (ws.getD i 0))
def V8.list (v : V8) : List W := [v.a,v.b,v.c,v.d,v.e,v.f,v.g,v.h]
def zbjl (vs : List W) : Nat → Nat → List W → List W
 | _,0,hs => hs
 | i,n + 1,hs => zbjl vs (i + 1) n (hs.set i (hs.getD i 0 + vs.getD i 0))
def zbtf : List W := [0x428a2f98,0x71374491,0xb5c0fbcf,0xe9b5dba5,0x3956c25b,0x59f111f1,0x923f82a4,0xab1c5ed5,0xd807aa98,0x12835b01,0x243185be,0x550c7dc3,0x72be5d74,0x80deb1fe,0x9bdc06a7,0xc19bf174,0xe49b69c1,0xefbe4786,0x0fc19dc6,0x240ca1cc,0x2de92c6f,0x4a7484aa,0x5cb0a9dc,0x76f988da,0x983e5152,0xa831c66d,0xb00327c8,0xbf597fc7,0xc6e00bf3,0xd5a79147,0x06ca6351,0x14292967,0x27b70a85,0x2e1b2138,0x4d2c6dfc,0x53380d13,0x650a7354,0x766a0abb,0x81c2c92e,0x92722c85,0xa2bfe8a1,0xa81a664b,0xc24b8b70,0xc76c51a3,0xd192e819,0xd6990624,0xf40e3585,0x106aa070,0x19a4c116,0x1e376c08,0x2748774c,0x34b0bcb5,0x391c0cb3,0x4ed8aa4a,0x5b9cca4f,0x682e6ff3,0x748f82ee,0x78a5636f,0x84c87814,0x8cc70208,0x90befffa,0xa4506ceb,0xbef9a3f7,0xc67178f2]
theorem zbmf : zbtf.length = 64 := rfl
theorem zbqs : zbt8 = some (wl zbtf) := rfl
def V8.ofL (l : List W) : V8 := ⟨l.getD 0 0,l.getD 1 0,l.getD 2 0,l.getD 3 0,l.getD 4 0,l.getD 5 0,l.getD 6 0,l.getD 7 0⟩
def zbyj : List W := List.replicate 64 0
def zbdl (s : ByteArray) : List W := zbe1 16 48 (fill s 0 16 zbyj)
def zbkt (hs : List W) (s : ByteArray) : List W := zbjl (zbyo zbtf (zbdl s) 0 64 (V8.ofL hs)).list 0 8 hs
theorem zcic (s : ByteArray) (n : Nat) : ∀ i ws,(fill s i n ws).length = ws.length := by
 induction n with
 | zero => intro i ws; rfl
 | succ n ih => intro i ws; rw [fill,ih,List.length_set]
theorem zbe0 (n : Nat) : ∀ i ws,(zbe1 i n ws).length = ws.length := by
 induction n with
 | zero => intro i ws; rfl
 | succ n ih => intro i ws; rw [zbe1,ih,List.length_set]
theorem zbjk (vs : List W) (n : Nat) : ∀ i ws,(zbjl vs i n ws).length = ws.length := by
 induction n with
 | zero => intro i ws; rfl
 | succ n ih => intro i ws; rw [zbjl,ih,List.length_set]
theorem zbdk (s : ByteArray) : (zbdl s).length = 64 := by
 unfold zbdl; rw [zbe0,zcic]; rfl
theorem zbxv (hs : List W) (s : ByteArray) (h : hs.length = 8) : (zbkt hs s).length = 8 := by
 unfold zbkt; rw [zbjk,h]
theorem zb3c (l : List W) (h : l.length = 8) : ∃ a b c d e f g i : W,l = [a,b,c,d,e,f,g,i] := by
 match l,h with
 | [a,b,c,d,e,f,g,i],_ => exact ⟨a,b,c,d,e,f,g,i,rfl⟩
theorem m24 : Nat.min 24 IntKind.u32.bits = 24 := rfl
theorem m16 : Nat.min 16 IntKind.u32.bits = 16 := rfl
theorem m8 : Nat.min 8 IntKind.u32.bits = 8 := rfl
theorem m3 : Nat.min 3 IntKind.u32.bits = 3 := rfl
theorem m10 : Nat.min 10 IntKind.u32.bits = 10 := rfl
theorem z4 (i : Nat) (h : i < 1000000000000) : IntKind.i64.wrap ((i : Int) + 1) = ((i + 1 : Nat) : Int) := by rw [w64 (by omega) (by omega)]; omega
theorem zbl3 (i k : Nat) (z : Int) (hz : z = (k : Int)) (h : i < 1000000000000) (hk : k ≤ i) : IntKind.i64.wrap ((i : Int) - z) = ((i - k : Nat) : Int) := by rw [hz,w64 (by omega) (by omega)]; omega
theorem zbv0 (i : Nat) (h : i < 1000000000000) : IntKind.i64.wrap (4 * (i : Int)) = ((4 * i : Nat) : Int) := by rw [w64 (by omega) (by omega)]; omega
theorem zbyh (i : Nat) (k : Nat) (z : Int) (hz : z = (k : Int)) (h : i < 1000000000000) (hk : k < 1000) : IntKind.i64.wrap ((i : Int) + z) = ((i + k : Nat) : Int) := by rw [hz,w64 (by omega) (by omega)]; omega
theorem zbrn (i : Nat) (h : i < 64) : (0 ≤ (i : Int) ∧ (i : Int) < ((64 : Nat) : Int)) = True := eq_true ⟨by omega,by omega⟩
theorem in8 (i : Nat) (h : i < 8) : (0 ≤ (i : Int) ∧ (i : Int) < ((8 : Nat) : Int)) = True := eq_true ⟨by omega,by omega⟩
theorem zb3j (s : ByteArray) (hs : s.size = 64) (x y z : List Int) (n : Nat) : ∀ (i : Nat) (ws : List W),n + i = 16 → ws.length = 64 → ta s x y z (wl ws) (i : Int) = some (wl (fill s i n ws)) := by
 induction n with
 | zero =>
  intro i ws hi hl
  obtain rfl : i = 16 := by omega
  rw [zcha]
  rfl
 | succ n ih =>
  intro i ws hi hl
  have c : (i : Int) < 16 := by omega
  have cl : (i : Nat) + 1 ≤ (wl ws).length := by rw [zbmo]; omega
  rw [zcha,gp]
  rw [zbv0 i (by omega),zbyh _ 1 1 rfl (by omega) (by omega),zbyh _ 2 2 rfl (by omega) (by omega),zbyh _ 3 3 rfl (by omega) (by omega)]
  rw [zbye s (4 * i) _ rfl (by omega),zbye s (4 * i + 1) _ rfl (by omega),zbye s (4 * i + 2) _ rfl (by omega),zbye s (4 * i + 3) _ rfl (by omega)]
  simp only [obz,zbsb,m24,m16,m8,zbuk,zcoa,c,zbrn i (by omega),Int.toNat_natCast,cl,if_true,zbdm,z4 i (by omega),LS.go]
  exact ih (i + 1) _ (by omega) (by rw [List.length_set,hl])
theorem zb3i (x y z : List Int) (n : Nat) : ∀ (i : Nat) (ws : List W),n + i = 64 → 16 ≤ i → ws.length = 64 → sy x y z (wl ws) (i : Int) = some (wl (zbe1 i n ws)) := by
 induction n with
 | zero =>
  intro i ws hi h16 hl
  obtain rfl : i = 64 := by omega
  rw [zchb]
  rfl
 | succ n ih =>
  intro i ws hi h16 hl
  have c : (i : Int) < 64 := by omega
  have cl : (i : Nat) + 1 ≤ (wl ws).length := by rw [zbmo]; omega
  rw [zchb,gn]
  rw [zbl3 i 15 15 rfl (by omega) (by omega),zbl3 i 2 2 rfl (by omega) (by omega),zbl3 i 16 16 rfl (by omega) (by omega),zbl3 i 7 7 rfl (by omega) (by omega)]
  rw [xp ws (i - 15) _ rfl (by omega),xp ws (i - 2) _ rfl (by omega),xp ws (i - 16) _ rfl (by omega),xp ws (i - 7) _ rfl (by omega)]
  simp only [obz,zbkh _ 7 7 rfl (by decide),zbkh _ 18 18 rfl (by decide),zbkh _ 17 17 rfl (by decide),zbkh _ 19 19 rfl (by decide),m3,m10,zbuj,zbui,zbqi,c,zbrn i (by omega),zbrn (i - 15) (by omega),zbrn (i - 2) (by omega),zbrn (i - 16) (by omega),zbrn (i - 7) (by omega),Int.toNat_natCast,cl,if_true,zbdm,z4 i (by omega),LS.go]
  exact ih (i + 1) _ (by omega) (by omega) (by rw [List.length_set,hl])
theorem zb3h (x y : List Int) (ks ws : List W) (hk : ks.length = 64) (hw : ws.length = 64) (n : Nat) : ∀ (i : Nat) (v : V8),n + i = 64 → sw x y (wl ws) (wl ks) (wl v.list) (i : Int) = some (wl (zbyo ks ws i n v).list) := by
 induction n with
 | zero =>
  intro i ws hi
  obtain rfl : i = 64 := by omega
  rw [zchc]
  rfl
 | succ n ih =>
  intro i v hi
  have c : (i : Int) < 64 := by omega
  rw [zchc,gm]
  rw [xp ks i _ rfl (by omega),xp ws i _ rfl (by omega),xp v.list 0 0 rfl (show 0 < 8 by decide),xp v.list 1 1 rfl (show 1 < 8 by decide),xp v.list 2 2 rfl (show 2 < 8 by decide),xp v.list 3 3 rfl (show 3 < 8 by decide),xp v.list 4 4 rfl (show 4 < 8 by decide),xp v.list 5 5 rfl (show 5 < 8 by decide),xp v.list 6 6 rfl (show 6 < 8 by decide),xp v.list 7 7 rfl (show 7 < 8 by decide)]
  have l8 : (wl v.list).length = 8 := rfl
  simp only [obz,zbkh _ 6 6 rfl (by decide),zbkh _ 11 11 rfl (by decide),zbkh _ 25 25 rfl (by decide),zbkh _ 2 2 rfl (by decide),zbkh _ 13 13 rfl (by decide),zbkh _ 22 22 rfl (by decide),zbui,zbqi,zb2u,zb2t,c,zbrn i (by omega),l8,if_true,z4 i (by omega),LS.go]
  exact ih (i + 1) (v.rnd (ks.getD i 0) (ws.getD i 0)) (by omega)
theorem zb3g (x : List Int) (vs : List W) (hv : vs.length = 8) (n : Nat) : ∀ (i : Nat) (hs : List W),n + i = 8 → hs.length = 8 → su x (wl vs) (wl hs) (i : Int) = some (wl (zbjl vs i n hs)) := by
 induction n with
 | zero =>
  intro i ws hi hl
  obtain rfl : i = 8 := by omega
  rw [zchd]
  rfl
 | succ n ih =>
  intro i hs hi hl
  have c : (i : Int) < 8 := by omega
  have cl : (i : Nat) + 1 ≤ (wl hs).length := by rw [zbmo]; omega
  rw [zchd,gj]
  rw [xp hs i _ rfl (by omega),xp vs i _ rfl (by omega)]
  simp only [obz,zbqi,c,in8 i (by omega),Int.toNat_natCast,cl,if_true,zbdm,z4 i (by omega),LS.go]
  exact ih (i + 1) _ (by omega) (by rw [List.length_set,hl])
theorem zbpt : (List.replicate 64 (0 : Int)) = wl zbyj := rfl
theorem zblk (hs : List W) (h : hs.length = 8) : (V8.ofL hs).list = hs := by
 obtain ⟨a,b,c,d,e,f,g,i,rfl⟩ := zb3c hs h
 rfl
theorem zbsc (hs : List W) (s : ByteArray) (hl : hs.length = 8) (h : s.size = 64) : xd (wl hs) s = some (wl (zbkt hs s)) := by
 have l8 : (wl hs).length = 8 := by rw [zbmo,hl]
 have l64 : (wl zbtf).length = 64 := rfl
 have lb : (wl (zbkt hs s)).length = 8 := by rw [zbmo,zbxv _ _ hl]
 unfold xd
 rw [zbqs,zbpt]
 have e1 := fun x y z => zb3j s h x y z 16 0 zbyj rfl rfl
 have e2 := fun x y z => zb3i x y z 48 16 (fill s 0 16 zbyj) rfl (Nat.le_refl _) (by rw [zcic]; rfl)
 have e3 := fun x y => zb3h x y zbtf (zbdl s) zbmf (zbdk s) 64 0 (V8.ofL hs) rfl
 have e4 := fun x => zb3g x (zbyo zbtf (zbdl s) 0 64 (V8.ofL hs)).list rfl 8 0 hs rfl hl
 rw [zblk hs hl] at e3
 simp only [obz,l64,l8,if_true]
 refine (congrArg (· >>= _) (e1 _ _ _)).trans ?_
 refine (congrArg (· >>= _) (e2 _ _ _)).trans ?_
 refine (congrArg (· >>= _) (e3 _ _)).trans ?_
 refine (congrArg (· >>= _) (e4 _)).trans ?_
 show (if (wl (zbkt hs s)).length = 8 then if (wl (zbkt hs s)).length = 8 then some (wl (zbkt hs s)) else none else none) = _
 rw [if_pos lb,if_pos lb]
def V8.tup (v : V8) : Int × Int × Int × Int × Int × Int × Int × Int := ((v.a.toNat : Int),(v.b.toNat : Int),(v.c.toNat : Int),(v.d.toNat : Int),(v.e.toNat : Int),(v.f.toNat : Int),(v.g.toNat : Int),(v.h.toNat : Int))
theorem zw (l : List Int) : (xr l).size = l.length := by
 show (xr l).data.size = _
 simp [xr]
theorem zcs4 (l : List Int) (a k : Nat) : (xr l).extract a (a + k) = xr ((l.drop a).take k) := by
 apply ByteArray.ext
 apply Array.toList_inj.1
 rw [ByteArray.data_extract,Array.toList_extract,List.extract_eq_take_drop,Nat.add_sub_cancel_left]
 show List.take k (List.drop a (l.map fun n => UInt8.ofNat n.toNat)) = ((l.drop a).take k).map fun n => UInt8.ofNat n.toNat
 rw [List.map_take,List.map_drop]
theorem zb6g (n k : Nat) (z : Int) (hz : z = (k : Int)) : Int.tmod (n : Int) z = ((n % k : Nat) : Int) := by subst hz; rfl
theorem zbvg (x : ByteArray) (k : Nat) : ∀ l : List Int,(l.length + k) % 64 = 56 → k < 64 → l.length + k < 100000000000 → qk x l = some (l ++ List.replicate k 0) := by
 induction k with
 | zero =>
  intro l h hk hb
  rw [zceb,gz,zb6g _ 64 64 rfl,if_pos (by omega),List.replicate_zero,List.append_nil]
  rfl
 | succ k ih =>
  intro l h hk hb
  rw [zceb,gz,zb6g _ 64 64 rfl,if_neg (by omega),if_pos (by omega)]
  rw [obz,LS.go]
  have e := ih (l ++ [0]) (by rw [List.length_append]; show (l.length + 1 + k) % 64 = 56; omega) (by omega) (by rw [List.length_append]; show l.length + 1 + k < _; omega)
  rw [List.append_assoc] at e
  exact e
def sh8 (L : Int) (i : Nat) : Int := IntKind.u8.wrap (Int.fdiv L (2 ^ (56 - 8 * i)))
def lb (L : Int) : Nat → Nat → List Int
 | _,0 => []
 | i,n + 1 => sh8 L i :: lb L (i + 1) n
theorem w56 (i : Nat) (h : i < 8) : IntKind.i64.wrap ((56 : Int) - (IntKind.i64.wrap ((8 : Int) * (i : Int)))) = ((56 - 8 * i : Nat) : Int) := by
 rw [w64 (n := 8 * (i : Int)) (by omega) (by omega),w64 (by omega) (by omega)]; omega
theorem zcut (n : Nat) (h : n < 1000) : IntKind.u64.wrap (n : Int) = (n : Int) := by
 have : IntKind.u64.wrap (n : Int) = (n : Int) % 18446744073709551616 := by simp [IntKind.wrap,IntKind.bits,IntKind.signed]
 omega
theorem zb24 (n : Nat) (h : n ≤ 64) : Nat.min n IntKind.u64.bits = n := Nat.min_eq_left h
theorem zbvn (L : Int) (n : Nat) : ∀ (i : Nat) (l : List Int),n + i = 8 → l.length < 900000000000 + i → qj L l (i : Int) = some (l ++ lb L i n) := by
 induction n with
 | zero =>
  intro i l hi hb
  obtain rfl : i = 8 := by omega
  rw [zcec,gy,if_neg (by decide),lb,List.append_nil]
  rfl
 | succ n ih =>
  intro i l hi hb
  rw [zcec,gy,if_pos (by omega),w56 i (by omega),zcut _ (by omega),if_pos (by omega),Int.toNat_natCast,zb24 _ (by omega),if_pos (by omega),z4 i (by omega)]
  rw [obz,LS.go]
  have e := ih (i + 1) (l ++ [sh8 L i]) (by omega) (by rw [List.length_append]; show l.length + 1 < _; omega)
  rw [List.append_assoc] at e
  exact e
def zbtk : Nat → List Int → List W → List W
 | 0,_,hs => hs
 | n + 1,m,hs => zbtk n (m.drop 64) (zbkt hs (xr (m.take 64)))
theorem zbcx (n : Nat) : ∀ (m : List Int) (hs : List W),hs.length = 8 → (zbtk n m hs).length = 8 := by
 induction n with
 | zero => intro m hs h; exact h
 | succ n ih => intro m hs h; exact ih _ _ (zbxv _ _ h)
theorem zbu6 (m : List Int) (t : Nat) (hm : m.length = 64 * t) (ht : t < 1000000000) (n : Nat) : ∀ (j : Nat) (hs : List W),n + j = t → hs.length = 8 → qi (xr m) (wl hs) ((64 * j : Nat) : Int) = some (wl (zbtk n (m.drop (64 * j)) hs)) := by
 induction n with
 | zero =>
  intro j hs hj hl
  rw [zced,gx,if_neg (by rw [zw]; omega)]
  rfl
 | succ n ih =>
  intro j hs hj hl
  rw [zced,gx,if_pos (by rw [zw]; omega),if_pos (by rw [zbmo]; exact hl),zbyh _ 64 64 rfl (by omega) (by omega)]
  rw [if_pos ⟨⟨by omega,by rw [zw]; omega⟩,by omega,by omega⟩,Int.toNat_natCast,Int.toNat_natCast,zcs4,zbsc hs _ hl (by rw [zw,List.length_take,List.length_drop]; omega)]
  rw [obz,if_pos (by rw [zbmo,zbxv _ _ hl]),obz,LS.go]
  have e := ih (j + 1) (zbkt hs (xr ((m.drop (64 * j)).take 64))) (by omega) (zbxv _ _ hl)
  rw [show 64 * (j + 1) = 64 * j + 64 from by omega,← List.drop_drop] at e
  exact e
def o4 (y : Int) : List Int := [(IntKind.u8.wrap (Int.fdiv y (2 ^ (Nat.min 24 IntKind.u32.bits)))),(IntKind.u8.wrap (Int.fdiv y (2 ^ (Nat.min 16 IntKind.u32.bits)))),(IntKind.u8.wrap (Int.fdiv y (2 ^ (Nat.min 8 IntKind.u32.bits)))),(IntKind.u8.wrap y)]
def zbs9 (hs : List W) : Nat → Nat → List Int
 | _,0 => []
 | i,n + 1 => o4 ((hs.getD i 0).toNat : Int) ++ zbs9 hs (i + 1) n
theorem zblh (hs : List W) (n : Nat) : ∀ i,(zbs9 hs i n).length = 4 * n := by
 induction n with
 | zero => intro i; rfl
 | succ n ih => intro i; rw [zbs9,List.length_append,ih]; show 4 + 4 * n = _; omega
theorem zbvh (hs : List W) (hl : hs.length = 8) (n : Nat) : ∀ (i : Nat) (l : List Int),n + i = 8 → l.length ≤ 100 + 4 * i → qh (wl hs) l (i : Int) = some (l ++ zbs9 hs i n) := by
 induction n with
 | zero =>
  intro i l hi hb
  obtain rfl : i = 8 := by omega
  rw [zcee,gw,if_neg (by decide),zbs9,List.append_nil]
  rfl
 | succ n ih =>
  intro i l hi hb
  rw [zcee,gw,if_pos (by omega),if_pos ⟨by omega,by omega⟩,xp hs i _ rfl (by omega)]
  rw [obz,if_pos (by omega),z4 i (by omega),obz,LS.go]
  have e := ih (i + 1) (l ++ o4 ((hs.getD i 0).toNat : Int)) (by omega) (by rw [List.length_append]; show l.length + 4 ≤ _; omega)
  rw [List.append_assoc] at e
  exact e
def H0 : List W := [1779033703,3144134277,1013904242,2773480762,1359893119,2600822924,528734635,1541459225]
def kz (n : Nat) : Nat := (120 - (n + 1) % 64) % 64
def zbsd (s : ByteArray) : Int := IntKind.u64.wrap ((IntKind.u64.wrap ((s.size : Nat) : Int)) * (8 : Int))
def zbyf (s : ByteArray) : List Int := ((vt s ++ [128]) ++ List.replicate (kz s.size) 0) ++ lb (zbsd s) 0 8
def zbta (s : ByteArray) : Nat := (s.size + 1 + kz s.size + 8) / 64
def state (s : ByteArray) : List W := zbtk (zbta s) (zbyf s) H0
def SHA (s : ByteArray) : ByteArray := xr (zbs9 (state s) 0 8)
theorem zbvo (L : Int) (n : Nat) : ∀ i,(lb L i n).length = n := by
 induction n with
 | zero => intro i; rfl
 | succ n ih => intro i; rw [lb,List.length_cons,ih]
theorem zbvq (n : Nat) : (n + 1 + kz n) % 64 = 56 ∧ kz n < 64 := by unfold kz; omega
theorem zbb9 (s : ByteArray) : (zbyf s).length = 64 * zbta s := by
 have := zbvq s.size
 unfold zbyf zbta
 rw [List.length_append,List.length_append,List.length_append,zbvo,List.length_replicate,ar]
 show s.size + 1 + kz s.size + 8 = _
 omega
theorem zbeq (s : ByteArray) : (state s).length = 8 := zbcx _ _ _ rfl
theorem zbyz (s : ByteArray) : (SHA s).size = 32 := by rw [SHA,zw,zblh]
theorem zbnt (s : ByteArray) (h : s.size < 10000000000) : zbp9 s = some (SHA s) := by
 have kk := zbvq s.size
 have l1 : (vt s ++ [128]).length = s.size + 1 := by rw [List.length_append,ar]; rfl
 have e1 := zbvg s (kz s.size) (vt s ++ [128]) (by rw [l1]; exact kk.1) kk.2 (by omega)
 have e2 := zbvn (zbsd s) 8 0 ((vt s ++ [128]) ++ List.replicate (kz s.size) 0) rfl (by rw [List.length_append,List.length_replicate]; omega)
 have e3 := zbu6 (zbyf s) (zbta s) (zbb9 s) (by unfold zbta; omega) (zbta s) 0 H0 rfl rfl
 have e4 := zbvh (state s) (zbeq s) 8 0 [] rfl (by show 0 ≤ _; omega)
 have j3 : (qk s (vt s ++ [128]) >>= fun y16 => qj (zbsd s) y16 (0 : Int) >>= fun y18 => qi (xr y18) (wl H0) (0 : Int) >>= fun y20 => qh y20 [] (0 : Int) >>= fun y22 => some (xr y22)) = some (SHA s) := by
  refine (congrArg (· >>= _) e1).trans ?_
  refine (congrArg (· >>= _) e2).trans ?_
  refine (congrArg (· >>= _) e3).trans ?_
  refine (congrArg (· >>= _) e4).trans ?_
  rfl
 unfold zbp9
 by_cases z : s.size = 0
 · rw [if_pos z]
   have b0 : vt s = [] := List.eq_nil_of_length_eq_zero (by rw [ar]; exact z)
   rw [b0] at j3
   exact j3
 · rw [if_neg z,if_pos (by omega)]
   exact j3
def SH (s : ByteArray) : ByteArray := (SHA s).extract 0 16
theorem zbkw (s : ByteArray) : (SH s).size = 16 := by unfold SH; rw [ByteArray.size_extract,zbyz]; rfl
theorem zbxa (s : ByteArray) (hs : s.size < 10000000000) : n9 s = some (SH s) := by
 unfold n9
 rw [zbnt s hs,obz,if_pos ⟨by omega,by rw [zbyz]; omega⟩]; rfl
def SEC (j4 : ByteArray) (k i b : Int) : ByteArray := SH (j4 ++ xr [IntKind.u8.wrap k,IntKind.u8.wrap i,IntKind.u8.wrap b])
def VAL (j4 : ByteArray) (k i b : Int) : ByteArray := if 0 ≤ k ∧ k ≤ 255 ∧ 0 ≤ i ∧ i < 16 ∧ 0 ≤ b ∧ b < 2 then SEC j4 k i b else ⟨#[]⟩
theorem zbm6 (a b c : Int) : (xr [a,b,c]).size = 3 := zw _
theorem zbmw (j4 : ByteArray) (hs : j4.size < 100000) (k i b : Int) : uk j4 k i b = some (VAL j4 k i b) := by
 unfold uk VAL
 by_cases c0 : k < 0
 · rw [if_pos c0,if_neg (by omega)]
 · rw [if_neg c0]
   by_cases c1 : 255 < k
   · rw [if_pos c1,if_neg (by omega)]
   · rw [if_neg c1]
     by_cases c2 : i < 0
     · rw [if_pos c2,if_neg (by omega)]
     · rw [if_neg c2]
       by_cases c3 : 16 ≤ i
       · rw [if_pos c3,if_neg (by omega)]
       · rw [if_neg c3]
         by_cases c4 : b < 0
         · rw [if_pos c4,if_neg (by omega)]
         · rw [if_neg c4]
           by_cases c5 : 1 < b
           · rw [if_pos c5,if_neg (by omega)]
           · rw [if_neg c5,if_pos (by rw [zbm6]; omega),zbxa _ (by rw [ByteArray.size_append,zbm6]; omega),obz,if_pos (by omega)]; rfl
def cat (f : Nat → ByteArray) : Nat → Nat → ByteArray → ByteArray
 | _,0,acc => acc
 | i,n + 1,acc => cat f (i + 1) n (acc ++ f i)
theorem zbl5 (f : Nat → ByteArray) (hf : ∀ i,i < 16 → (f i).size = 32) (n : Nat) : ∀ (i : Nat) (acc : ByteArray),n + i = 16 → (cat f i n acc).size = acc.size + 32 * n := by
 induction n with
 | zero => intro i acc h; rfl
 | succ n ih => intro i acc h; rw [cat,ih (i + 1) _ (by omega),ByteArray.size_append,hf i (by omega)]; omega
def isK (k : Int) : Prop := 0 ≤ k ∧ k ≤ 255
instance (k : Int) : Decidable (isK k) := inferInstanceAs (Decidable (0 ≤ k ∧ k ≤ 255))
theorem zbpf (j4 : ByteArray) (k i b : Int) : (VAL j4 k i b).size ≤ 16 := by
 unfold VAL
 split
 · exact Nat.le_of_eq (zbkw _)
 · exact Nat.zero_le _
def zbvd (j4 : ByteArray) (k : Int) (i : Nat) : ByteArray := SH (VAL j4 k (i : Int) 0) ++ SH (VAL j4 k (i : Int) 1)
def PUB (j4 : ByteArray) (k : Int) : ByteArray := SH (cat (zbvd j4 k) 0 16 ⟨#[]⟩)
theorem zbgc (j4 : ByteArray) (k : Int) (i : Nat) : (zbvd j4 k i).size = 32 := by unfold zbvd; rw [ByteArray.size_append,zbkw,zbkw]
theorem zbgd (j4 : ByteArray) (k : Int) : (cat (zbvd j4 k) 0 16 ⟨#[]⟩).size = 512 := by rw [zbl5 _ (fun i _ => zbgc j4 k i) 16 0 _ rfl]; rfl
theorem zbve (j4 : ByteArray) (hs : j4.size < 100000) (k : Int) (n : Nat) : ∀ (i : Nat) (acc : ByteArray),n + i = 16 → acc.size ≤ 32 * i → qg j4 k acc (i : Int) = some (cat (zbvd j4 k) i n acc) := by
 induction n with
 | zero =>
  intro i acc h ha
  rw [zche,d6,if_neg (by omega)]
  rfl
 | succ n ih =>
  intro i acc h ha
  have v1 := zbpf j4 k (i : Int) 0
  have v2 := zbpf j4 k (i : Int) 1
  rw [zche,d6,if_pos (by omega),zbmw j4 hs,obz,zbxa _ (by omega),obz,if_pos (by rw [zbkw]; omega),zbmw j4 hs,obz,zbxa _ (by omega),obz,if_pos (by rw [zbkw,ByteArray.size_append,zbkw]; omega),z4 i (by omega),obz,LS.go,ByteArray.append_assoc]
  exact ih (i + 1) _ (by omega) (by rw [ByteArray.size_append,ByteArray.size_append,zbkw,zbkw]; omega)
theorem zbvf (j4 : ByteArray) (hs : j4.size < 100000) (k : Int) : u9 j4 k = some (if isK k then PUB j4 k else ⟨#[]⟩) := by
 unfold u9
 by_cases c0 : k < 0
 · rw [if_pos c0,if_neg (by unfold isK; omega)]
 · rw [if_neg c0]
   by_cases c1 : 255 < k
   · rw [if_pos c1,if_neg (by unfold isK; omega)]
   · have c : isK k := ⟨by omega,by omega⟩
     rw [if_neg c1,if_pos c]
     refine (congrArg (fun x => (x >>= _)) (zbve j4 hs k 16 0 ⟨#[]⟩ rfl (Nat.zero_le _))).trans ?_
     rw [obz,zbxa _ (by rw [zbgd]; decide)]
     rfl
open Go Go.RowKit Sh Ic
def zbdh (s : ByteArray) : Bool := decide (1 ≤ s.size) && decide (s.size ≤ 16)
def inB (n lo hi : Int) : Bool := decide (lo ≤ n) && decide (n ≤ hi)
theorem ue {n lo hi : Int} : inB n lo hi = true ↔ lo ≤ n ∧ n ≤ hi := by unfold inB; rw [Bool.and_eq_true,decide_eq_true_iff,decide_eq_true_iff]
theorem zb6s {s : ByteArray} : zbdh s = true ↔ 1 ≤ s.size ∧ s.size ≤ 16 := by unfold zbdh; rw [Bool.and_eq_true,decide_eq_true_iff,decide_eq_true_iff]
theorem zbg6 (s : ByteArray) : pu s = some (zbdh s) := by
 unfold pu zbdh
 by_cases h : 1 ≤ s.size
 · rw [if_pos (by omega),decide_eq_true h,Bool.true_and]
   congr 1
   exact decide_eq_decide.2 ⟨fun _ => by omega,fun _ => by omega⟩
 · rw [if_neg (by omega),decide_eq_false h,Bool.false_and]
theorem zbkm (n lo hi : Int) : lq n lo hi = some (inB n lo hi) := by
 unfold lq inB
 by_cases h : lo ≤ n
 · rw [if_pos h,decide_eq_true h,Bool.true_and]
 · rw [if_neg h,decide_eq_false h,Bool.false_and]
theorem zbzb {α : Type} (l : List α) (p : α → Bool) (i : Nat) (h : i < l.length) : (l.drop i).any p = (p l[i] || (l.drop (i + 1)).any p) := by
 rw [List.drop_eq_getElem_cons h,List.any_cons]
theorem zcuy (l : List ByteArray) (c : Int) (hl : l.length < 1000000) (n : Nat) : ∀ i : Nat,n + i = l.length → ∃ r,bn l c (l.length : Nat) (i : Int) = some r ∧
 ((∃ v,r = .rt v ∧ 0 ≤ v ∧ ((l.drop i).any fun x => decide (¬ ((x.size : Nat) : Int) = c)) = true) ∨ (r = .ex () ∧ ((l.drop i).any fun x => decide (¬ ((x.size : Nat) : Int) = c)) = false)) := by
 induction n with
 | zero =>
  intro i h
  refine ⟨.ex (),?_,.inr ⟨rfl,?_⟩⟩
  · rw [jx,av,if_neg (by omega),obz,LS.go]
  · rw [List.drop_of_length_le (by omega)]; rfl
 | succ n ih =>
  intro i h
  have hi : i < l.length := by omega
  rw [jx,av,if_pos (by omega),sd hi,obz,si,obz,zbzb _ _ _ hi]
  by_cases p : decide (¬ ((l[i].size : Nat) : Int) = c) = true
  · rw [if_pos p,obz,LS.go]
    exact ⟨_,rfl,.inl ⟨_,rfl,by omega,by rw [p]; rfl⟩⟩
  · have p' := Bool.eq_false_iff.2 p
    rw [if_neg p,obz,LS.go,z4 i (by omega),p',Bool.false_or]
    exact ih (i + 1) (by omega)
theorem zb3d (l : List ByteArray) (c : Int) (hl : l.length < 1000000) : bp l c = some (l.any fun x => decide (¬ ((x.size : Nat) : Int) = c)) := by
 obtain ⟨r,h,q⟩ := zcuy l c hl l.length 0 rfl
 rw [List.drop_zero] at q
 have h : bn l c (l.length : Nat) 0 = some r := h
 unfold bp di
 rw [h,obz]
 rcases q with ⟨v,rfl,h0,q⟩ | ⟨rfl,q⟩
 · show some (decide (0 ≤ v)) = _
   rw [q,decide_eq_true h0]
 · show some (decide ((0 : Int) ≤ -1)) = _
   rw [q]; rfl
def zbpy (l : List ByteArray) (n sz : Int) : Bool := decide ((l.length : Int) = n) && !l.any fun x => decide (¬ ((x.size : Nat) : Int) = sz)
theorem zbev (l : List ByteArray) (n sz : Int) (hn : n < 1000000) : pt l n sz = some (zbpy l n sz) := by
 unfold pt zbpy
 by_cases h : (l.length : Int) = n
 · rw [if_pos h,zb3d l sz (by omega),obz,decide_eq_true h,Bool.true_and]
 · rw [if_neg h,decide_eq_false h,Bool.false_and]
theorem zbz8 {l : List ByteArray} {n sz : Int} : zbpy l n sz = true ↔ (l.length : Int) = n ∧ ∀ x ∈ l,(x.size : Int) = sz := by
 unfold zbpy
 rw [Bool.and_eq_true,decide_eq_true_iff,Bool.not_eq_true',List.any_eq_false]
 refine and_congr_right fun _ => ⟨fun h x hx => ?_,fun h x hx => ?_⟩
 · have := h x hx
   simpa using this
 · simpa using h x hx
def zbc3 (n : Int) (a : aa) : Bool := inB a.From 0 (n - 1) && (inB a.To 0 (n - 1) && (decide (a.From ≠ a.To) && (inB a.Ledger 0 3 && (zbdh a.Asset && inB a.Amount 1 1125899906842624))))
theorem zb3k (a : aa) (n : Int) (hn : 0 ≤ n ∧ n < 1000000) : zc a n = some (zbc3 n a) := by
 unfold zc zbc3
 have w : IntKind.i64.wrap (n - 1) = n - 1 := wA (by omega) (by omega)
 rw [w,zbkm,obz]
 cases inB a.From 0 (n - 1) with
 | false => rfl
 | true =>
  rw [if_pos rfl,zbkm,obz]
  cases inB a.To 0 (n - 1) with
  | false => rfl
  | true =>
   rw [if_pos rfl]
   by_cases e : a.From = a.To
   · rw [if_pos e,decide_eq_false (fun h => h e)]; rfl
   · rw [if_neg e,decide_eq_true e,zbkm,obz]
     cases inB a.Ledger 0 3 with
     | false => rfl
     | true =>
      rw [if_pos rfl,zbg6,obz]
      cases zbdh a.Asset with
      | false => rfl
      | true => rw [if_pos rfl,zbkm,obz]; rfl
def zbqb (nl : Int) (p : af) : Bool := zbdh p.Account && zbpy p.Keys nl 16
theorem zch8 {α : Type} (l : List α) (p : α → Bool) (i : Nat) (h : i < l.length) : (l.drop i).all p = (p l[i] && (l.drop (i + 1)).all p) := by
 rw [List.drop_eq_getElem_cons h,List.all_cons]
theorem zcu4 (s : ac) (np nl : Int) (hnl : nl < 1000000) (hp : s.Parties.length < 1000000) (n : Nat) : ∀ i : Nat,n + i = s.Parties.length →
 lu s np nl s.Parties (s.Parties.length : Nat) ((s.Parties.take i).map af.Account) (i : Int) = some (if (s.Parties.drop i).all (zbqb nl) = true then .ex (s.Parties.map af.Account) else .rt false) := by
 induction n with
 | zero =>
  intro i h
  rw [zchl,d5,if_neg (by omega),obz,LS.go,List.drop_of_length_le (by omega),List.take_of_length_le (by omega)]; rfl
 | succ n ih =>
  intro i h
  have hi : i < s.Parties.length := by omega
  rw [zchl,d5,if_pos (by omega),sd hi,obz,zbg6,obz,zch8 _ _ _ hi]
  unfold zbqb
  cases zbdh s.Parties[i].Account with
  | false => rfl
  | true =>
   rw [if_pos rfl,zbev _ _ _ hnl,obz]
   cases zbpy s.Parties[i].Keys nl 16 with
   | false => rfl
   | true =>
    have e : (s.Parties.take i).map af.Account ++ [s.Parties[i].Account] = (s.Parties.take (i + 1)).map af.Account := by
     rw [List.take_succ_eq_append_getElem hi,List.map_append]; rfl
    rw [if_pos rfl,if_pos (by rw [List.length_map,List.length_take]; omega),obz,LS.go,z4 i (by omega)]
    show lu s np nl s.Parties _ ((s.Parties.take i).map af.Account ++ [s.Parties[i].Account]) _ = _
    rw [e,ih (i + 1) (by omega)]
    rfl
def ways (l : List aa) : List dq := l.map fun a => ⟨a.From,a.To⟩
theorem zcu3 (s : ac) (np : Int) (acc : List ByteArray) (hnp : 0 ≤ np ∧ np < 1000000) (hp : s.Arcs.length < 1000000) (n : Nat) : ∀ i : Nat,n + i = s.Arcs.length →
 jn s np acc s.Arcs (s.Arcs.length : Nat) (ways (s.Arcs.take i)) (i : Int) = some (if (s.Arcs.drop i).all (zbc3 np) = true then .ex (ways s.Arcs) else .rt false) := by
 induction n with
 | zero =>
  intro i h
  rw [zchm,d4,if_neg (by omega),obz,LS.go,List.drop_of_length_le (by omega),List.take_of_length_le (by omega)]; rfl
 | succ n ih =>
  intro i h
  have hi : i < s.Arcs.length := by omega
  rw [zchm,d4,if_pos (by omega),sd hi,obz,zb3k _ _ hnp,obz,zch8 _ _ _ hi]
  show (if zbc3 np s.Arcs[i] = true then _ else _ : Option _) >>= _ = _
  cases zbc3 np s.Arcs[i] with
  | false => rfl
  | true =>
   have e : ways (s.Arcs.take i) ++ [(⟨s.Arcs[i].From,s.Arcs[i].To⟩ : dq)] = ways (s.Arcs.take (i + 1)) := by
    unfold ways; rw [List.take_succ_eq_append_getElem hi,List.map_append]; rfl
   rw [if_pos rfl,if_pos (by unfold ways; rw [List.length_map,List.length_take]; omega),obz,LS.go,z4 i (by omega)]
   show jn s np acc s.Arcs _ (ways (s.Arcs.take i) ++ [(⟨s.Arcs[i].From,s.Arcs[i].To⟩ : dq)]) _ = _
   rw [e,ih (i + 1) (by omega)]
   rfl
open Go Go.RowKit Sh Ic
theorem zcu0 (l : List Int) (c : Int) (hc : 0 ≤ c ∧ c < 1000000) (hl : l.length < 1000000) (n : Nat) : ∀ i : Nat,n + i = l.length → ∃ r,cz l c (l.length : Nat) (i : Int) = some r ∧
 ((∃ v,r = .rt v ∧ 0 ≤ v ∧ ((l.drop i).any fun x => !inB x 0 (c - 1)) = true) ∨ (r = .ex () ∧ ((l.drop i).any fun x => !inB x 0 (c - 1)) = false)) := by
 have w : IntKind.i64.wrap (c - 1) = c - 1 := wA (by omega) (by omega)
 induction n with
 | zero =>
  intro i h
  refine ⟨.ex (),?_,.inr ⟨rfl,?_⟩⟩
  · rw [m7,ay,if_neg (by omega),obz,LS.go]
  · rw [List.drop_of_length_le (by omega)]; rfl
 | succ n ih =>
  intro i h
  have hi : i < l.length := by omega
  rw [m7,ay,if_pos (by omega),sd hi,obz,sm,w,zbkm,obz,obz,zbzb _ _ _ hi]
  by_cases p : (!inB l[i] 0 (c - 1)) = true
  · rw [if_pos p,obz,LS.go]
    exact ⟨_,rfl,.inl ⟨_,rfl,by omega,by rw [p]; rfl⟩⟩
  · have p' := Bool.eq_false_iff.2 p
    rw [if_neg p,obz,LS.go,z4 i (by omega),p',Bool.false_or]
    exact ih (i + 1) (by omega)
theorem zb3e (l : List Int) (c : Int) (hc : 0 ≤ c ∧ c < 1000000) (hl : l.length < 1000000) : da l c = some (l.any fun x => !inB x 0 (c - 1)) := by
 obtain ⟨r,h,q⟩ := zcu0 l c hc hl l.length 0 rfl
 rw [List.drop_zero] at q
 have h : cz l c (l.length : Nat) 0 = some r := h
 unfold da ey
 rw [h,obz]
 rcases q with ⟨v,rfl,h0,q⟩ | ⟨rfl,q⟩
 · show some (decide (0 ≤ v)) = _
   rw [q,decide_eq_true h0]
 · show some (decide ((0 : Int) ≤ -1)) = _
   rw [q]; rfl
structure Ok (s : ac) : Prop where
 id : zbdh s.ID = true
 np : 2 ≤ s.Parties.length ∧ s.Parties.length ≤ 6
 nl : 1 ≤ s.Leaders.length ∧ s.Leaders.length ≤ 3
 na : 1 ≤ s.Arcs.length ∧ s.Arcs.length ≤ 12
 locks : s.Locks.length = s.Leaders.length ∧ ∀ x ∈ s.Locks,x.size = 32
 start : 0 ≤ s.Start ∧ s.Start ≤ 1099511627776
 delta : 1 ≤ s.Delta ∧ s.Delta ≤ 1048576
 parties : ∀ p ∈ s.Parties,zbqb (s.Leaders.length : Nat) p = true
 arcs : ∀ a ∈ s.Arcs,zbc3 (s.Parties.length : Nat) a = true
 accts : (s.Parties.map af.Account).Nodup
 ways : (s.Arcs.map fun a => (a.From,a.To)).Nodup
 leads : s.Leaders.Nodup
 inl : ∀ v ∈ s.Leaders,0 ≤ v ∧ v < s.Parties.length
structure Wf (s : ac) : Prop where
 leads : ∀ v ∈ s.Leaders,za36 v = true
 start : za36 s.Start = true
 delta : za36 s.Delta = true
theorem zbtr {n : Int} (h1 : -9223372036854775808 ≤ n) (h2 : n ≤ 9223372036854775807) : za36 n = true := by
 unfold za36; rw [decide_eq_true h1,decide_eq_true h2]; rfl
open Classical in
noncomputable def okS (s : ac) : Bool := decide (Ok s)
open Classical in
theorem zby8 {s : ac} (h : Ok s) : okS s = true := by unfold okS; exact decide_eq_true h
open Classical in
theorem ng {s : ac} (h : ¬ Ok s) : okS s = false := by unfold okS; exact decide_eq_false h
open Classical in
theorem zbmq {s : ac} : okS s = true ↔ Ok s := by unfold okS; exact decide_eq_true_iff
theorem zbtj (s : ac) (hw : Wf s) : kl s = some (okS s) := by
 unfold kl
 rw [zbg6,obz]
 by_cases h1 : zbdh s.ID = true
 rotate_left
 · rw [if_neg h1,ng fun h => h1 h.id]
 rw [if_pos h1,zbkm,obz]
 by_cases h2 : inB (s.Parties.length : Nat) 2 6 = true
 rotate_left
 · rw [if_neg h2,ng fun h => h2 (ue.2 ⟨by have := h.np; omega,by have := h.np; omega⟩)]
 have h2' := ue.1 h2
 rw [if_pos h2,zbkm,obz]
 by_cases h3 : inB (s.Leaders.length : Nat) 1 3 = true
 rotate_left
 · rw [if_neg h3,ng fun h => h3 (ue.2 ⟨by have := h.nl; omega,by have := h.nl; omega⟩)]
 have h3' := ue.1 h3
 rw [if_pos h3,zbkm,obz]
 by_cases h4 : inB (s.Arcs.length : Nat) 1 12 = true
 rotate_left
 · rw [if_neg h4,ng fun h => h4 (ue.2 ⟨by have := h.na; omega,by have := h.na; omega⟩)]
 have h4' := ue.1 h4
 rw [if_pos h4,zbev _ _ _ (by omega),obz]
 by_cases h5 : zbpy s.Locks (s.Leaders.length : Nat) 32 = true
 rotate_left
 · rw [if_neg h5,ng fun h => h5 (zbz8.2 ⟨by have := h.locks.1; omega,fun x hx => by have := h.locks.2 x hx; omega⟩)]
 have h5' := zbz8.1 h5
 rw [if_pos h5,zbkm,obz]
 by_cases h6 : inB s.Start 0 1099511627776 = true
 rotate_left
 · rw [if_neg h6,ng fun h => h6 (ue.2 h.start)]
 rw [if_pos h6,zbkm,obz]
 by_cases h7 : inB s.Delta 1 1048576 = true
 rotate_left
 · rw [if_neg h7,ng fun h => h7 (ue.2 h.delta)]
 have e1 := zcu4 s (s.Parties.length : Nat) (s.Leaders.length : Nat) (by omega) (by omega) s.Parties.length 0 rfl
 have e1 : lu s (s.Parties.length : Nat) (s.Leaders.length : Nat) s.Parties (s.Parties.length : Nat) [] 0 = _ := e1
 rw [if_pos h7,e1,obz,List.drop_zero]
 by_cases h8 : s.Parties.all (zbqb (s.Leaders.length : Nat)) = true
 rotate_left
 · rw [if_neg h8,ng fun h => h8 (List.all_eq_true.2 h.parties)]
 rw [if_pos h8]
 have h8' := List.all_eq_true.1 h8
 have e2 := zcu3 s (s.Parties.length : Nat) (s.Parties.map af.Account) (by omega) (by omega) s.Arcs.length 0 rfl
 have e2 : jn s (s.Parties.length : Nat) (s.Parties.map af.Account) s.Arcs (s.Arcs.length : Nat) [] 0 = _ := e2
 show jn s (s.Parties.length : Nat) (s.Parties.map af.Account) s.Arcs (s.Arcs.length : Nat) [] 0 >>= _ = _
 rw [e2,obz,List.drop_zero]
 by_cases h9 : s.Arcs.all (zbc3 (s.Parties.length : Nat)) = true
 rotate_left
 · rw [if_neg h9,ng fun h => h9 (List.all_eq_true.2 h.arcs)]
 rw [if_pos h9]
 have h9' := List.all_eq_true.1 h9
 show mi (s.Parties.map af.Account) >>= _ = _
 have o1 : mi (s.Parties.map af.Account) = some (decide (s.Parties.map af.Account).Nodup) := if_pos ⟨by rw [List.length_map]; omega,fun x hx => by
  obtain ⟨p,hp,rfl⟩ := List.mem_map.1 hx
  have := h8' p hp
  unfold zbqb at this
  rw [Bool.and_eq_true,zb6s] at this
  omega⟩
 rw [o1,obz]
 by_cases h10 : (s.Parties.map af.Account).Nodup
 rotate_left
 · rw [if_neg (by rw [decide_eq_true_iff]; exact h10),ng fun h => h10 h.accts]
 rw [if_pos (decide_eq_true h10)]
 have em : (ways s.Arcs).map two = s.Arcs.map fun a => (a.From,a.To) := by unfold ways; rw [List.map_map]; rfl
 have o2 : qr (ways s.Arcs) = some (decide ((s.Arcs.map fun a => (a.From,a.To)).Nodup)) := by
  rw [← em]
  exact if_pos ⟨by unfold ways; rw [List.length_map]; omega,fun x hx => by
   obtain ⟨a,ha,rfl⟩ := List.mem_map.1 hx
   have := h9' a ha
   unfold zbc3 at this
   rw [Bool.and_eq_true,Bool.and_eq_true,ue,ue] at this
   rw [Bool.and_eq_true]
   exact ⟨zbtr (by show _ ≤ a.From; omega) (by show a.From ≤ _; omega),zbtr (by show _ ≤ a.To; omega) (by show a.To ≤ _; omega)⟩⟩
 rw [o2,obz]
 by_cases h11 : (s.Arcs.map fun a => (a.From,a.To)).Nodup
 rotate_left
 · rw [if_neg (by rw [decide_eq_true_iff]; exact h11),ng fun h => h11 h.ways]
 have o3 : vj s.Leaders = some (decide s.Leaders.Nodup) := if_pos ⟨by omega,hw.leads⟩
 rw [if_pos (decide_eq_true h11),o3,obz]
 by_cases h12 : s.Leaders.Nodup
 rotate_left
 · rw [if_neg (by rw [decide_eq_true_iff]; exact h12),ng fun h => h12 h.leads]
 rw [if_pos (decide_eq_true h12),zb3e _ _ ⟨by omega,by omega⟩ (by omega),obz]
 cases h13 : s.Leaders.any fun x => !inB x 0 ((s.Parties.length : Nat) - 1) with
 | true =>
  rw [ng fun h => by
   rw [List.any_eq_true] at h13
   obtain ⟨x,hx,h13⟩ := h13
   have := h.inl x hx
   rw [Bool.not_eq_true',← Bool.not_eq_true,ue] at h13
   omega]
  rfl
 | false =>
  rw [List.any_eq_false] at h13
  rw [zby8 ⟨h1,⟨by omega,by omega⟩,⟨by omega,by omega⟩,⟨by omega,by omega⟩,⟨by omega,fun x hx => by have := h5'.2 x hx; omega⟩,ue.1 h6,ue.1 h7,h8',h9',h10,h11,h12,fun v hv => by
   have := h13 v hv
   rw [Bool.not_eq_true',Bool.not_eq_false,ue] at this
   omega⟩]
  rfl
theorem zbvm {f : Nat → Option (LX Unit Bool)} {N : Nat} {P : Nat → Prop} (he : f N = some (.ex ())) (hs : ∀ k,k < N → P k → f k = f (k + 1)) (hb : ∀ k,k < N → ¬ P k → f k = some (.rt false)) :
 (f 0 = some (.ex ()) ∧ ∀ j,j < N → P j) ∨ (f 0 = some (.rt false) ∧ ∃ j,j < N ∧ ¬ P j) := by
 have go : ∀ n k,n + k = N → (f k = some (.ex ()) ∧ ∀ j,k ≤ j → j < N → P j) ∨ (f k = some (.rt false) ∧ ∃ j,j < N ∧ ¬ P j) := by
  intro n
  induction n with
  | zero =>
   intro k h
   obtain rfl : k = N := by omega
   exact .inl ⟨he,fun j h1 h2 => by omega⟩
  | succ n ih =>
   intro k h
   by_cases p : P k
   · rw [hs k (by omega) p]
     rcases ih (k + 1) (by omega) with ⟨h1,h2⟩ | h1
     · refine .inl ⟨h1,fun j h3 h4 => ?_⟩
       by_cases e : j = k
       · rw [e]; exact p
       · exact h2 j (by omega) h4
     · exact .inr h1
   · exact .inr ⟨hb k (by omega) p,k,by omega,p⟩
 rcases go N 0 rfl with ⟨h1,h2⟩ | h
 · exact .inl ⟨h1,fun j h => h2 j (Nat.zero_le _) h⟩
 · exact .inr h
open Go Go.RowKit Sh Ic
inductive Rch (E : Int → Int → Prop) : Int → Int → Prop
 | one {x y : Int} : E x y → Rch E x y
 | snoc {x y z : Int} : Rch E x y → E y z → Rch E x z
theorem Rch.trans {E : Int → Int → Prop} {x y z : Int} (h : Rch E x y) (k : Rch E y z) : Rch E x z := by
 induction k with
 | one e => exact .snoc h e
 | snoc _ e ih => exact .snoc ih e
theorem Rch.mono {E F : Int → Int → Prop} (hf : ∀ x y,E x y → F x y) {x y : Int} (h : Rch E x y) : Rch F x y := by
 induction h with
 | one e => exact .one (hf _ _ e)
 | snoc _ e ih => exact .snoc ih (hf _ _ e)
theorem Rch.cons {E : Int → Int → Prop} {x y z : Int} (e : E x y) (h : Rch E y z) : Rch E x z := Rch.trans (.one e) h
theorem Rch.rev {E F : Int → Int → Prop} (hf : ∀ x y,E x y → F y x) {x y : Int} (h : Rch E x y) : Rch F y x := by
 induction h with
 | one e => exact .one (hf _ _ e)
 | snoc _ e ih => exact Rch.cons (hf _ _ e) ih
abbrev Sn (mg : List Bool) (y : Int) : Prop := ixL mg y = some true
theorem zbp4 {α : Type} {l : List α} {i : Int} {x : α} : ixL l i = some x ↔ 0 ≤ i ∧ l[i.toNat]? = some x := by
 unfold ixL
 by_cases h : 0 ≤ i
 · rw [if_pos h]; exact ⟨fun e => ⟨h,e⟩,fun e => e.2⟩
 · rw [if_neg h]; exact ⟨fun e => (by cases e),fun e => absurd e.1 h⟩
theorem zbrk {α : Type} {l : List α} {i : Int} (h0 : 0 ≤ i) (h1 : i < (l.length : Int)) : ∃ x,ixL l i = some x := by
 obtain ⟨x,hx⟩ : ∃ x,l[i.toNat]? = some x := ⟨_,List.getElem?_eq_getElem (by omega)⟩
 exact ⟨x,zbp4.2 ⟨h0,hx⟩⟩
theorem zbvt {l : List Bool} {i z : Int} (h0 : 0 ≤ i) (h1 : i < (l.length : Int)) : Sn (l.set i.toNat true) z ↔ z = i ∨ Sn l z := by
 unfold Sn
 rw [zbp4,zbp4]
 by_cases e : z = i
 · subst e
   rw [List.getElem?_set_self (by omega)]
   exact ⟨fun _ => .inl rfl,fun _ => ⟨h0,rfl⟩⟩
 · constructor
   · rintro ⟨a,b⟩
     rw [List.getElem?_set_ne (by omega)] at b
     exact .inr ⟨a,b⟩
   · rintro (rfl | ⟨a,b⟩)
     · exact absurd rfl e
     · exact ⟨a,by rw [List.getElem?_set_ne (by omega)]; exact b⟩
def un : List Bool → Nat
 | [] => 0
 | true :: r => un r
 | false :: r => un r + 1
theorem zbmx : ∀ (l : List Bool) (i : Nat),l[i]? = some false → un (l.set i true) + 1 = un l
 | [],_,h => by cases h
 | b :: r,0,h => by
  have : b = false := by simpa using h
  subst this; rfl
 | b :: r,i + 1,h => by
  have := zbmx r i (by simpa using h)
  cases b
  · show un (r.set i true) + 1 + 1 = un r + 1
    omega
  · exact this
def j6 (back : Bool) (A : List aa) (P : Int → Bool) (x y : Int) : Prop := ∃ a ∈ A,reX back a = x ∧ reY back a = y ∧ P y = true
structure InR (np : Nat) (back : Bool) (A : List aa) : Prop where
 y : ∀ a ∈ A,0 ≤ reY back a ∧ reY back a < (np : Int)
section
variable (np : Nat) (back : Bool) (v : Int) (p : Int → Option Bool) (P : Int → Bool) (hp : ∀ y,0 ≤ y → y < (np : Int) → p y = some (P y))
include hp
theorem zbze : ∀ (A : List aa) (mg : List Bool) (todo : List Int),InR np back A → mg.length = np → todo.length + A.length < 1000000 →
 ∃ seen' todo',reA back v p A mg todo = some (seen',todo') ∧ seen'.length = np ∧ todo'.length + un seen' = todo.length + un mg ∧ todo'.length ≤ todo.length + A.length ∧ (∀ y,Sn mg y → Sn seen' y) ∧ (∀ t ∈ todo,t ∈ todo') ∧
  (∀ y,Sn seen' y → Sn mg y ∨ (y ∈ todo' ∧ j6 back A P v y)) ∧ (∀ t ∈ todo',t ∈ todo ∨ (Sn seen' t ∧ j6 back A P v t)) ∧ (∀ y,j6 back A P v y → Sn seen' y)
 | [],mg,todo,_,hl,_ => ⟨mg,todo,rfl,hl,rfl,Nat.le_refl _,fun _ h => h,fun _ h => h,fun _ h => .inl h,fun _ h => .inl h,fun y ⟨a,ha,_⟩ => by cases ha⟩
 | a :: A,mg,todo,hI,hl,hb => by
  have hy := hI.y a (.head _)
  have hI' : InR np back A := ⟨fun b hb => hI.y b (.tail _ hb)⟩
  have lift : ∀ {y},j6 back A P v y → j6 back (a :: A) P v y := fun ⟨b,hb,h⟩ => ⟨b,.tail _ hb,h⟩
  rw [List.length_cons] at hb
  -- what the rest does,when nothing comes of this arc
  have skip : (¬ (reX back a = v ∧ P (reY back a) = true) ∨ Sn mg (reY back a)) → ∃ seen' todo',reA back v p A mg todo = some (seen',todo') ∧ seen'.length = np ∧ todo'.length + un seen' = todo.length + un mg ∧ todo'.length ≤ todo.length + (A.length + 1) ∧ (∀ y,Sn mg y → Sn seen' y) ∧ (∀ t ∈ todo,t ∈ todo') ∧
   (∀ y,Sn seen' y → Sn mg y ∨ (y ∈ todo' ∧ j6 back (a :: A) P v y)) ∧ (∀ t ∈ todo',t ∈ todo ∨ (Sn seen' t ∧ j6 back (a :: A) P v t)) ∧ (∀ y,j6 back (a :: A) P v y → Sn seen' y) := by
   intro hno
   obtain ⟨s',t',h1,h2,h3,h3b,h4,h5,h6,h7,h8⟩ := zbze A mg todo hI' hl (by omega)
   refine ⟨s',t',h1,h2,h3,by omega,h4,h5,fun y h => (h6 y h).imp id fun q => ⟨q.1,lift q.2⟩,fun t h => (h7 t h).imp id fun q => ⟨q.1,lift q.2⟩,?_⟩
   rintro y ⟨b,hb,e1,e2,e3⟩
   rcases List.mem_cons.1 hb with rfl | hb
   · subst e2
     rcases hno with hno | hno
     · exact absurd ⟨e1,e3⟩ hno
     · exact h4 _ hno
   · exact h8 y ⟨b,hb,e1,e2,e3⟩
  rw [reA,List.length_cons]
  by_cases c : reX back a = v
  · rw [if_pos c]
    obtain ⟨q,hq⟩ := zbrk (l := mg) hy.1 (by rw [hl]; exact hy.2)
    rw [hq,obz]
    cases q with
    | true => rw [if_pos rfl]; exact skip (.inr hq)
    | false =>
     rw [if_neg (by decide),hp _ hy.1 hy.2,obz]
     cases hP : P (reY back a) with
     | false => rw [if_neg (by decide)]; exact skip (.inl fun h => by rw [hP] at h; cases h.2)
     | true =>
      rw [if_pos rfl,if_pos (by omega)]
      have hu := zbmx mg (reY back a).toNat (zbp4.1 hq).2
      have hset : ∀ z,Sn (mg.set (reY back a).toNat true) z ↔ z = reY back a ∨ Sn mg z := fun z => zbvt hy.1 (by rw [hl]; exact hy.2)
      obtain ⟨s',t',h1,h2,h3,h3b,h4,h5,h6,h7,h8⟩ := zbze A (mg.set (reY back a).toNat true) (todo ++ [reY back a]) hI' (by rw [List.length_set]; exact hl) (by rw [List.length_append,List.length_singleton]; omega)
      rw [List.length_append,List.length_singleton] at h3 h3b
      have ed : j6 back (a :: A) P v (reY back a) := ⟨a,.head _,c,rfl,hP⟩
      have iny : reY back a ∈ t' := h5 _ (by simp)
      have sny : Sn s' (reY back a) := h4 _ ((hset _).2 (.inl rfl))
      refine ⟨s',t',h1,h2,by omega,by omega,fun y h => h4 _ ((hset y).2 (.inr h)),fun t h => h5 _ (List.mem_append_left _ h),fun y h => ?_,fun t h => ?_,?_⟩
      · rcases h6 y h with h | ⟨h,e⟩
        · rcases (hset y).1 h with rfl | h
          · exact .inr ⟨iny,ed⟩
          · exact .inl h
        · exact .inr ⟨h,lift e⟩
      · rcases h7 t h with h | ⟨h,e⟩
        · rcases List.mem_append.1 h with h | h
          · exact .inl h
          · have : t = reY back a := by simpa using h
            subst this
            exact .inr ⟨sny,ed⟩
        · exact .inr ⟨h,lift e⟩
      · rintro y ⟨b,hb,e1,e2,e3⟩
        rcases List.mem_cons.1 hb with rfl | hb
        · subst e2; exact sny
        · exact h8 y ⟨b,hb,e1,e2,e3⟩
  · rw [if_neg c]; exact skip (.inl fun h => c h.1)
structure zb3l (A : List aa) (o : Int) (mg : List Bool) (todo : List Int) : Prop where
 l : mg.length = np
 s : ∀ y,Sn mg y → Rch (j6 back A P) o y
 t : ∀ t ∈ todo,t = o ∨ Rch (j6 back A P) o t
 c : ∀ x,(x = o ∨ Sn mg x) → x ∈ todo ∨ ∀ y,j6 back A P x y → Sn mg y
omit hp in
theorem zclq {l : List Int} {v : Int} (h : l[l.length - 1]? = some v) {t : Int} (ht : t ∈ l) : t = v ∨ t ∈ l.take (l.length - 1) := by
 have hlt : l.length - 1 < l.length := (List.getElem?_eq_some_iff.1 h).1
 have e : l = l.take (l.length - 1) ++ [v] := by
  have := List.take_append_drop (l.length - 1) l
  rw [List.drop_eq_getElem_cons hlt,List.drop_of_length_le (by omega)] at this
  rw [(List.getElem?_eq_some_iff.1 h).2] at this
  exact this.symm
 rw [e] at ht
 rcases List.mem_append.1 ht with ht | ht
 · exact .inr ht
 · exact .inl (by simpa using ht)
theorem zbfp (A : List aa) (o : Int) (mg : List Bool) (hI : zb3l np back P A o mg []) : ∃ r,qb (reS back p A) (mg,[]) = some r ∧ r.length = np ∧ ∀ y,Sn r y ↔ Rch (j6 back A P) o y := by
 refine ⟨mg,?_,hI.l,fun y => ⟨hI.s y,fun h => ?_⟩⟩
 · rw [ig]; unfold reS; rw [if_neg (by simp),obz,LS.go]
 · have cl : ∀ x,(x = o ∨ Sn mg x) → ∀ y,j6 back A P x y → Sn mg y := fun x hx => (hI.c x hx).resolve_left (by simp)
   induction h with
   | one e => exact cl _ (.inl rfl) _ e
   | snoc _ e ih => exact cl _ (.inr ih) _ e
theorem zbu9 (A : List aa) (o : Int) (hA : InR np back A) (hAl : A.length < 100000) (hnp : np < 1000) (n : Nat) : ∀ (mg : List Bool) (todo : List Int),todo.length + un mg ≤ n → n < 500000 → zb3l np back P A o mg todo →
 ∃ r,qb (reS back p A) (mg,todo) = some r ∧ r.length = np ∧ ∀ y,Sn r y ↔ Rch (j6 back A P) o y := by
 induction n with
 | zero =>
  intro mg todo hm _ hI
  have ht : todo = [] := List.eq_nil_of_length_eq_zero (by omega)
  subst ht
  exact zbfp np back p P hp A o mg hI
 | succ n ih =>
  intro mg todo hm hn hI
  by_cases c : 0 < todo.length
  · obtain ⟨v,hv⟩ : ∃ v,todo[todo.length - 1]? = some v := ⟨_,List.getElem?_eq_getElem (by omega)⟩
    have hv' : ixL todo ((todo.length - 1 : Nat) : Int) = some v := zbp4.2 ⟨by omega,by rw [Int.toNat_natCast]; exact hv⟩
    have lt : (todo.take (todo.length - 1)).length = todo.length - 1 := by rw [List.length_take]; omega
    obtain ⟨s',t',h1,h2,h3,h3b,h4,h5,h6,h7,h8⟩ := zbze np back v p P hp A mg (todo.take (todo.length - 1)) hA hI.l (by rw [lt]; omega)
    have vr : v = o ∨ Rch (j6 back A P) o v := hI.t v (List.mem_of_getElem? hv)
    have sv : ∀ y,j6 back A P v y → Rch (j6 back A P) o y := fun y e => by
     rcases vr with rfl | r
     · exact .one e
     · exact .snoc r e
    have inv : zb3l np back P A o s' t' := by
     refine ⟨h2,fun y h => ?_,fun t h => ?_,fun x hx => ?_⟩
     · rcases h6 y h with h | ⟨_,e⟩
       · exact hI.s y h
       · exact sv y e
     · rcases h7 t h with h | ⟨_,e⟩
       · exact hI.t t (List.mem_of_mem_take h)
       · exact .inr (sv t e)
     · by_cases ex : x = v
       · subst ex; exact .inr h8
       · have hx' : x = o ∨ Sn mg x ∨ x ∈ t' := by
          rcases hx with h | h
          · exact .inl h
          · rcases h6 x h with h | ⟨h,_⟩
            · exact .inr (.inl h)
            · exact .inr (.inr h)
         rcases hx' with h | h | h
         · rcases hI.c x (.inl h) with q | q
           · rcases zclq hv q with q | q
             · exact absurd q ex
             · exact .inl (h5 _ q)
           · exact .inr fun y e => h4 _ (q y e)
         · rcases hI.c x (.inr h) with q | q
           · rcases zclq hv q with q | q
             · exact absurd q ex
             · exact .inl (h5 _ q)
           · exact .inr fun y e => h4 _ (q y e)
         · exact .inl h
    rw [lt] at h3
    obtain ⟨r,e1,e2,e3⟩ := ih s' t' (by omega) (by omega) inv
    refine ⟨r,?_,e2,e3⟩
    rw [ig]
    unfold reS
    simp only
    rw [if_pos c,if_pos (by omega),hv',obz,h1,obz,obz,LS.go]
    exact e1
  · have ht : todo = [] := List.eq_nil_of_length_eq_zero (by omega)
    subst ht
    exact zbfp np back p P hp A o mg hI
end
theorem zbqm : ∀ l : List Bool,un l ≤ l.length
 | [] => Nat.le_refl _
 | true :: r => by have := zbqm r; show un r ≤ _; rw [List.length_cons]; omega
 | false :: r => by have := zbqm r; show un r + 1 ≤ _; rw [List.length_cons]; omega
theorem zbnw (n : Nat) (y : Int) : ¬ Sn (List.replicate n false) y := by
 unfold Sn
 rw [zbp4]
 rintro ⟨_,h⟩
 rw [List.getElem?_replicate] at h
 split at h <;> simp at h
theorem zbw9 (s : ac) (o : Int) (back : Bool) (p : Int → Option Bool) (P : Int → Bool) (hp : ∀ y,0 ≤ y → y < (s.Parties.length : Int) → p y = some (P y)) (hA : InR s.Parties.length back s.Arcs) (hAl : s.Arcs.length < 100000) (hnp : s.Parties.length < 1000) :
 ∃ r,reF s o back p = some r ∧ r.length = s.Parties.length ∧ ∀ y,Sn r y ↔ Rch (j6 back s.Arcs P) o y := by
 obtain ⟨r,h1,h2,h3⟩ := zbu9 s.Parties.length back p P hp s.Arcs o hA hAl hnp (1 + un (List.replicate s.Parties.length false)) (List.replicate s.Parties.length false) [o] (Nat.le_refl _)
  (by have := zbqm (List.replicate s.Parties.length false); rw [List.length_replicate] at this; omega)
  ⟨List.length_replicate,fun y h => absurd h (zbnw _ _),fun t h => .inl (by simpa using h),fun x hx => hx.elim (fun h => .inl (by simp [h])) fun h => absurd h (zbnw _ _)⟩
 refine ⟨r,?_,h2,h3⟩
 unfold reF
 rw [if_pos ⟨by omega,by omega⟩]
 exact h1
end Go.Proofs.Ytdcfoaafkppojaa
