import Derived.Test.YtgkkienmocpnbaaM19
import Derived.RangeFuncNested
import Derived.RangeFuncBound
import Derived.RangeFuncCalls
import Derived.RangeFuncLeaves
import Derived.RangeFuncBox
import Derived.Shelf.Abstract
import Derived.Shelf.RegionOpen
import Derived.WalkKit
import Derived.OwnWalkIn
import Derived.TacticsInMore
import Derived.LoopNIn
import Derived.LoopIn
import Derived.Maps.AppendAt
import Derived.Test.YtgkkienmocpnbaaTcG
import Derived.Test.YtgkkienmocpnbaaM13
import Derived.Laws.AppendOwn
set_option linter.unusedSimpArgs false
set_option linter.unusedVariables false
set_option linter.unusedSectionVars false
namespace Go.Proofs.Ytgkkienmocpnbaa
open Go Go.RowKit Sh Ic
theorem obz {α β:Type} {a:α} {f:α → Option β}:(some a >>= f) = f a:=by generalize h:f a = x; exact h
theorem w64 {n:Int} (h1:-9223372036854775808 ≤ n) (h2:n < 9223372036854775808):IntKind.i64.wrap n = n:=by
 simp [IntKind.wrap,IntKind.bits,IntKind.signed,IntKind.max]; omega
theorem zbp1 (n:Int):IntKind.u32.wrap n = n % 4294967296:=by simp [IntKind.wrap,IntKind.bits,IntKind.signed]
theorem zbi1 (n:Nat) (h:n < 4294967296):IntKind.u32.wrap (n:Int) = (n:Int):=by rw [zbp1]; omega
theorem zbfv (a:W):BitVec.ofInt 32 (a.toNat:Int) = a:=by
 rw [BitVec.ofInt_natCast,BitVec.ofNat_toNat,BitVec.setWidth_eq]
theorem zbji (a:W):a.toNat < 4294967296:=a.isLt
theorem zb56 (a b:W):IntKind.u32.wrap ((BitVec.ofInt IntKind.u32.bits (a.toNat:Int) ||| BitVec.ofInt IntKind.u32.bits (b.toNat:Int)).toNat:Int) = ((a ||| b).toNat:Int):=by
 show IntKind.u32.wrap ((BitVec.ofInt 32 (a.toNat:Int) ||| BitVec.ofInt 32 (b.toNat:Int)).toNat:Int) = _
 rw [zbfv,zbfv,zbi1 _ (zbji _)]
theorem zbp3 (a b:W):IntKind.u32.wrap ((BitVec.ofInt IntKind.u32.bits (a.toNat:Int) &&& BitVec.ofInt IntKind.u32.bits (b.toNat:Int)).toNat:Int) = ((a &&& b).toNat:Int):=by
 show IntKind.u32.wrap ((BitVec.ofInt 32 (a.toNat:Int) &&& BitVec.ofInt 32 (b.toNat:Int)).toNat:Int) = _
 rw [zbfv,zbfv,zbi1 _ (zbji _)]
theorem zbjf (a b:W):IntKind.u32.wrap ((BitVec.ofInt IntKind.u32.bits (a.toNat:Int) ^^^ BitVec.ofInt IntKind.u32.bits (b.toNat:Int)).toNat:Int) = ((a ^^^ b).toNat:Int):=by
 show IntKind.u32.wrap ((BitVec.ofInt 32 (a.toNat:Int) ^^^ BitVec.ofInt 32 (b.toNat:Int)).toNat:Int) = _
 rw [zbfv,zbfv,zbi1 _ (zbji _)]
theorem zbp2 (a:W):zbqb .u32 (a.toNat:Int) = ((~~~a).toNat:Int):=by
 show IntKind.u32.wrap ((BitVec.ofInt 32 4294967295 ^^^ BitVec.ofInt 32 (a.toNat:Int)).toNat:Int) = _
 rw [zbfv,show BitVec.ofInt 32 4294967295 = BitVec.allOnes 32 from by decide,BitVec.allOnes_xor,zbi1 _ (zbji _)]
theorem zbf8 (a b:W):IntKind.u32.wrap ((a.toNat:Int) + (b.toNat:Int)) = ((a + b).toNat:Int):=by
 rw [zbp1,BitVec.toNat_add]; omega
theorem zbjg (a:W) (k:Nat):(a.toNat:Int).fdiv (2 ^ k) = ((a >>> k).toNat:Int):=by
 rw [Int.fdiv_eq_ediv_of_nonneg _ (by exact Int.le_of_lt (Int.pow_pos (by decide))),BitVec.toNat_ushiftRight,Nat.shiftRight_eq_div_pow,Int.natCast_ediv,Int.natCast_pow]
 rfl
theorem zbjh (a:W) (k:Nat):IntKind.u32.wrap ((a.toNat:Int) * 2 ^ k) = ((a <<< k).toNat:Int):=by
 rw [zbp1,BitVec.toNat_shiftLeft,Nat.shiftLeft_eq,Int.natCast_emod,Int.natCast_mul,Int.natCast_pow]
 rfl
theorem zbqq:∀ n:Fin 32,0 < n.val → (IntKind.u64.wrap ((BitVec.ofInt IntKind.u64.bits (IntKind.u64.wrap (IntKind.i64.wrap (0 - (n.val:Int)))) &&& BitVec.ofInt IntKind.u64.bits (31:Int)).toNat:Int)) = ((32 - n.val:Nat):Int):=by decide
theorem xu (x:W) (n:Nat) (z:Int) (hz:z = (n:Int)) (h0:0 < n) (hn:n < 32):dk (x.toNat:Int) z = some ((ta x n).toNat:Int):=by
 subst hz
 have b:=zbqq ⟨n,hn⟩ h0
 simp only at b
 have c1:¬ ((32 - n:Nat):Int) < 0:=by omega
 have w1:IntKind.u64.wrap (32 - ((32 - n:Nat):Int)) = (n:Int):=by
  have:IntKind.u64.wrap (32 - ((32 - n:Nat):Int)) = (32 - ((32 - n:Nat):Int)) % 18446744073709551616:=by simp [IntKind.wrap,IntKind.bits,IntKind.signed]
  omega
 have c2:¬ (n:Int) < 0:=by omega
 have e1:Nat.min n IntKind.u32.bits = n:=Nat.min_eq_left (Nat.le_of_lt hn)
 have e2:Nat.min (32 - n) IntKind.u32.bits = 32 - n:=Nat.min_eq_left (Nat.sub_le _ _)
 unfold dk d6
 simp only [obz,b,c1,w1,c2,Int.toNat_natCast,e1,e2,zbjg,zbjh,zb56,not_false_eq_true,if_true]
 rw [ta,BitVec.or_comm]
def wl (ws:List W):List Int:=ws.map fun a => (a.toNat:Int)
theorem vr (ws:List W):(wl ws).length = ws.length:=List.length_map ..
theorem fu (ws:List W) (j:Nat) (z:Int) (hz:z = (j:Int)) (h:j < ws.length):ixL (wl ws) z = some ((ws.getD j 0).toNat:Int):=by
 subst hz
 rw [xx (by rw [vr]; exact h)]
 simp only [wl,List.getElem_map,List.getD_eq_getElem?_getD,List.getElem?_eq_getElem h,Option.getD_some]
theorem zbnn (ws:List W) (j:Nat) (x:W):(wl ws).set j (x.toNat:Int) = wl (ws.set j x):=by rw [wl,wl,List.map_set]
theorem zbkz (s:ByteArray) (i:Nat):(bt s i).toNat = (s.data.getD i 0).toNat:=by
 unfold bt; rw [BitVec.toNat_ofNat]; have:=(s.data.getD i 0).toNat_lt; omega
theorem zbhn (s:ByteArray) (i:Nat):IntKind.u32.wrap ((bt s i).toNat:Int) = ((bt s i).toNat:Int):=zbi1 _ (zbji _)
theorem zblx (s:ByteArray) (i:Nat) (z:Int) (hz:z = (i:Int)) (h:i < s.size):ixB s z = some ((bt s i).toNat:Int):=by
 subst hz
 unfold ixB
 rw [if_pos (by omega),Int.toNat_natCast,zbkz]
theorem zbmq (s:ByteArray) (a i:Nat) (h:a + i < s.size):bt (s.extract a s.size) i = bt s (a + i):=by
 have hs:s.size = s.data.size:=rfl
 unfold bt
 rw [ByteArray.data_extract,Array.getD_eq_getD_getElem?,Array.getElem?_extract,if_pos (by omega),← Array.getD_eq_getD_getElem?]
theorem zbcd (s:ByteArray) (i:Nat) (h:4 * i + 3 < s.size):n9 (s.extract (4 * i) s.size) = some ((be4 s i).toNat:Int):=by
 have sz:(s.extract (4 * i) s.size).size = s.size - 4 * i:=by rw [ByteArray.size_extract]; omega
 unfold n9
 rw [zblx _ 0 0 rfl (by omega),zblx _ 1 1 rfl (by omega),zblx _ 2 2 rfl (by omega),zblx _ 3 3 rfl (by omega)]
 have m24:Nat.min 24 IntKind.u32.bits = 24:=rfl
 have m16:Nat.min 16 IntKind.u32.bits = 16:=rfl
 have m8:Nat.min 8 IntKind.u32.bits = 8:=rfl
 simp only [obz,zbhn,m24,m16,m8,zbjh,zb56]
 rw [zbmq _ _ _ (by omega),zbmq _ _ _ (by omega),zbmq _ _ _ (by omega),zbmq _ _ _ (by omega)]
 rfl
theorem zceg:zbbe.length = 64:=rfl
theorem zces:lc = some (wl zbbe):=rfl
theorem zbt9 (s:ByteArray) (n:Nat):∀ i ws,(fill s i n ws).length = ws.length:=by
 induction n with
 | zero => intro i ws; rfl
 | succ n ih => intro i ws; rw [fill,ih,List.length_set]
theorem zaqf (n:Nat):∀ i ws,(zaqh i n ws).length = ws.length:=by
 induction n with
 | zero => intro i ws; rfl
 | succ n ih => intro i ws; rw [zaqh,ih,List.length_set]
theorem zban (vs:List W) (n:Nat):∀ i ws,(zbao vs i n ws).length = ws.length:=by
 induction n with
 | zero => intro i ws; rfl
 | succ n ih => intro i ws; rw [zbao,ih,List.length_set]
theorem zb8j (s:ByteArray):(zbip s).length = 64:=by
 unfold zbip; rw [zaqf,zbt9]; rfl
theorem zb0r (hs:List W) (s:ByteArray) (h:hs.length = 8):(zbl9 hs s).length = 8:=by
 unfold zbl9; rw [zban,h]
theorem m24:Nat.min 24 IntKind.u32.bits = 24:=rfl
theorem m16:Nat.min 16 IntKind.u32.bits = 16:=rfl
theorem m8:Nat.min 8 IntKind.u32.bits = 8:=rfl
theorem m3:Nat.min 3 IntKind.u32.bits = 3:=rfl
theorem m10:Nat.min 10 IntKind.u32.bits = 10:=rfl
theorem xz (i:Nat) (h:i < 1000000000000):IntKind.i64.wrap ((i:Int) + 1) = ((i + 1:Nat):Int):=by rw [w64 (by omega) (by omega)]; omega
theorem zblj (i k:Nat) (z:Int) (hz:z = (k:Int)) (h:i < 1000000000000) (hk:k ≤ i):IntKind.i64.wrap ((i:Int) - z) = ((i - k:Nat):Int):=by rw [hz,w64 (by omega) (by omega)]; omega
theorem zbks (i:Nat) (h:i < 1000000000000):IntKind.i64.wrap (4 * (i:Int)) = ((4 * i:Nat):Int):=by rw [w64 (by omega) (by omega)]; omega
theorem zbf3 (i:Nat) (h:i < 64):(0 ≤ (i:Int) ∧ (i:Int) < ((64:Nat):Int)) = True:=eq_true ⟨by omega,by omega⟩
theorem in8 (i:Nat) (h:i < 8):(0 ≤ (i:Int) ∧ (i:Int) < ((8:Nat):Int)) = True:=eq_true ⟨by omega,by omega⟩
theorem zbfr:(List.replicate 64 (0:Int)) = wl zblp:=rfl
theorem zbqg (s:ByteArray) (hs:s.size = 64) (x y:List Int) (n:Nat):∀ (i:Nat) (ws:List W) (r:List Int),n + i = 16 → ws.length = 64 → ep x s y (wl (fill s i n ws)) (16:Int) = some r → ep x s y (wl ws) (i:Int) = some r:=by
 induction n with
 | zero =>
  intro i ws r hi hl h
  obtain rfl:i = 16:=by omega
  exact h
 | succ n ih =>
  intro i ws r hi hl h
  have c:(i:Int) < 16:=by omega
  have c2:(i:Int) < 64:=by omega
  have cl:(i:Nat) + 1 ≤ (wl ws).length:=by rw [vr]; omega
  rw [la,bn]
  rw [zbks i (by omega)]
  have g:(0 ≤ ((4 * i:Nat):Int) ∧ ((4 * i:Nat):Int) ≤ (s.size:Int)) = True:=eq_true ⟨by omega,by omega⟩
  simp only [g,c,c2,if_true,Int.toNat_natCast]
  rw [zbcd s i (by omega)]
  simp only [obz,zbf3 i (by omega),cl,if_true,zbnn,xz i (by omega),LS.go]
  exact ih (i + 1) _ r (by omega) (by rw [List.length_set,hl]) h
theorem zbqf (s:ByteArray) (x y:List Int) (n:Nat):∀ (i:Nat) (ws:List W),n + i = 64 → 16 ≤ i → ws.length = 64 → ep x s y (wl ws) (i:Int) = some (wl (zaqh i n ws)):=by
 induction n with
 | zero =>
  intro i ws hi h16 hl
  obtain rfl:i = 64:=by omega
  rw [la,bn,if_neg (by decide)]
  rfl
 | succ n ih =>
  intro i ws hi h16 hl
  have c:(i:Int) < 64:=by omega
  have c2:¬ (i:Int) < 16:=by omega
  have cl:(i:Nat) + 1 ≤ (wl ws).length:=by rw [vr]; omega
  rw [la,bn]
  rw [zblj i 15 15 rfl (by omega) (by omega),zblj i 2 2 rfl (by omega) (by omega),zblj i 16 16 rfl (by omega) (by omega),zblj i 7 7 rfl (by omega) (by omega)]
  rw [fu ws (i - 15) _ rfl (by omega),fu ws (i - 2) _ rfl (by omega),fu ws (i - 16) _ rfl (by omega),fu ws (i - 7) _ rfl (by omega)]
  simp only [obz,xu _ 7 7 rfl (by decide) (by decide),xu _ 18 18 rfl (by decide) (by decide),xu _ 17 17 rfl (by decide) (by decide),xu _ 19 19 rfl (by decide) (by decide),m3,m10,zbjg,zbjf,zbf8,c,c2,zbf3 i (by omega),zbf3 (i - 15) (by omega),zbf3 (i - 2) (by omega),zbf3 (i - 16) (by omega),zbf3 (i - 7) (by omega),Int.toNat_natCast,cl,if_true,if_false,zbnn,xz i (by omega),LS.go]
  exact ih (i + 1) _ (by omega) (by omega) (by rw [List.length_set,hl])
def V8.tup (v:V8):Int × Int × Int × Int × Int × Int × Int × Int:=((v.a.toNat:Int),(v.b.toNat:Int),(v.c.toNat:Int),(v.d.toNat:Int),(v.e.toNat:Int),(v.f.toNat:Int),(v.g.toNat:Int),(v.h.toNat:Int))
theorem zbqe (x:List Int) (ks ws:List W) (hk:ks.length = 64) (hw:ws.length = 64) (n:Nat):∀ (i:Nat) (v:V8),n + i = 64 → ij x (wl ks) (wl ws) (v.a.toNat:Int) (v.b.toNat:Int) (v.c.toNat:Int) (v.d.toNat:Int) (v.e.toNat:Int) (v.f.toNat:Int) (v.g.toNat:Int) (v.h.toNat:Int) (i:Int) = some (zbmz ks ws i n v).tup:=by
 induction n with
 | zero =>
  intro i ws hi
  obtain rfl:i = 64:=by omega
  rw [qt]
  rfl
 | succ n ih =>
  intro i v hi
  have c:(i:Int) < 64:=by omega
  rw [qt,cj]
  rw [fu ks i _ rfl (by omega),fu ws i _ rfl (by omega)]
  simp only [obz,xu _ 6 6 rfl (by decide) (by decide),xu _ 11 11 rfl (by decide) (by decide),xu _ 25 25 rfl (by decide) (by decide),xu _ 2 2 rfl (by decide) (by decide),xu _ 13 13 rfl (by decide) (by decide),xu _ 22 22 rfl (by decide) (by decide),zbjf,zbf8,zbp3,zbp2,c,zbf3 i (by omega),if_true,xz i (by omega),LS.go]
  exact ih (i + 1) (v.rnd (ks.getD i 0) (ws.getD i 0)) (by omega)
theorem zbqd (vs:List W) (hv:vs.length = 8) (n:Nat):∀ (i:Nat) (hs:List W),n + i = 8 → hs.length = 8 → ig (wl vs) (wl hs) (i:Int) = some (wl (zbao vs i n hs)):=by
 induction n with
 | zero =>
  intro i ws hi hl
  obtain rfl:i = 8:=by omega
  rw [qr]
  rfl
 | succ n ih =>
  intro i hs hi hl
  have c:(i:Int) < 8:=by omega
  have cl:(i:Nat) + 1 ≤ (wl hs).length:=by rw [vr]; omega
  have cv:8 ≤ (wl vs).length:=by rw [vr]; omega
  rw [qr,ch]
  rw [fu hs i _ rfl (by omega),fu vs i _ rfl (by omega)]
  simp only [obz,zbf8,c,cv,in8 i (by omega),Int.toNat_natCast,cl,if_true,zbnn,xz i (by omega),LS.go]
  exact ih (i + 1) _ (by omega) (by rw [List.length_set,hl])
theorem zbqh (hs:List W) (s:ByteArray) (hl:hs.length = 8) (h:s.size = 64):jd (wl hs) s (wl zbbe) = some (wl (zbl9 hs s)):=by
 unfold jd
 rw [zbfr]
 have e2:=zbqf s (wl hs) (wl zbbe) 48 16 (fill s 0 16 zblp) rfl (Nat.le_refl _) (by rw [zbt9]; rfl)
 have e1:=zbqg s h (wl hs) (wl zbbe) 16 0 zblp _ rfl rfl e2
 have e3:=zbqe (wl hs) zbbe (zbip s) zceg (zb8j s) 64 0 (V8.ofL hs) rfl
 have e4:=zbqd (zbmz zbbe (zbip s) 0 64 (V8.ofL hs)).list rfl 8 0 hs rfl hl
 refine (congrArg (· >>= _) e1).trans ?_
 rw [fu hs 0 0 rfl (by omega),fu hs 1 1 rfl (by omega),fu hs 2 2 rfl (by omega),fu hs 3 3 rfl (by omega),fu hs 4 4 rfl (by omega),fu hs 5 5 rfl (by omega),fu hs 6 6 rfl (by omega),fu hs 7 7 rfl (by omega)]
 simp only [obz]
 refine (congrArg (· >>= _) e3).trans ?_
 refine (congrArg (· >>= _) e4).trans ?_
 rfl
open Go Go.RowKit Sh Ic
theorem gw (l:List Int):(ox l).size = l.length:=by
 show (ox l).data.size = _
 simp [ox]
theorem zbt6 (l:List Int) (n:Int):(ox l).push (UInt8.ofNat n.toNat) = ox (l ++ [n]):=by
 apply ByteArray.ext
 simp [ox,ByteArray.push]
theorem zape (l:List Int) (b:Nat):(ox l).extract 0 b = ox (l.take b):=by
 apply ByteArray.ext
 apply Array.toList_inj.1
 rw [ByteArray.data_extract,Array.toList_extract,List.extract_eq_take_drop,List.drop_zero,Nat.sub_zero]
 show List.take b (l.map fun n => UInt8.ofNat n.toNat) = (l.take b).map fun n => UInt8.ofNat n.toNat
 rw [List.map_take]
theorem zcej (l:List Int) (a k:Nat):(ox l).extract a (a + k) = ox ((l.drop a).take k):=by
 apply ByteArray.ext
 apply Array.toList_inj.1
 rw [ByteArray.data_extract,Array.toList_extract,List.extract_eq_take_drop,Nat.add_sub_cancel_left]
 show List.take k (List.drop a (l.map fun n => UInt8.ofNat n.toNat)) = ((l.drop a).take k).map fun n => UInt8.ofNat n.toNat
 rw [List.map_take,List.map_drop]
theorem zapm (l:List Int) (a:Nat) (h:a ≤ l.length):(ox l).extract a (ox l).size = ox (l.drop a):=by
 have:(ox l).size = a + (l.length - a):=by rw [gw]; omega
 rw [this,zcej,List.take_of_length_le (by rw [List.length_drop]; omega)]
theorem zboe (s:ByteArray):ox (bo s) = s:=by
 apply ByteArray.ext
 apply Array.toList_inj.1
 show ((s.data.toList.map fun b => (b.toNat:Int)).map fun n => UInt8.ofNat n.toNat) = _
 rw [List.map_map]
 apply List.ext_getElem?
 intro i
 rw [List.getElem?_map]
 cases s.data.toList[i]? with
 | none => rfl
 | some b => show some (UInt8.ofNat ((b.toNat:Int)).toNat) = some b; rw [Int.toNat_natCast,UInt8.ofNat_toNat]
theorem zapn (s:ByteArray):s ++ (⟨#[128]⟩:ByteArray) = ox (bo s ++ [128]):=by
 apply ByteArray.ext
 apply Array.toList_inj.1
 rw [ByteArray.data_append,Array.toList_append]
 show _ = (bo s ++ [128]).map fun n:Int => UInt8.ofNat n.toNat
 rw [List.map_append]
 congr 1
 exact (congrArg (fun b:ByteArray => b.data.toList) (zboe s)).symm
theorem zbx0 (n k:Nat) (z:Int) (hz:z = (k:Int)):Int.tmod (n:Int) z = ((n % k:Nat):Int):=by subst hz; rfl
theorem wr8 (n:Int):IntKind.u8.wrap n = n % 256:=by simp [IntKind.wrap,IntKind.bits,IntKind.signed]
theorem zbjd (n:Int):0 ≤ IntKind.u8.wrap n ∧ IntKind.u8.wrap n < 256:=by rw [wr8]; omega
theorem zbj9 (L:Int) (k:Nat):∀ l:List Int,(l.length + k) % 64 = 56 → k < 64 → l.length + k < 1000000000000 → qx L (ox l) = some (ox (l ++ List.replicate k 0)):=by
 induction k with
 | zero =>
  intro l h hk hb
  rw [zbz7,d5,gw,zbx0 _ 64 64 rfl,if_pos (by omega),List.replicate_zero,List.append_nil]
  rfl
 | succ k ih =>
  intro l h hk hb
  rw [zbz7,d5,gw,zbx0 _ 64 64 rfl,if_neg (by omega),if_pos ⟨by omega,by omega,by omega⟩,zbt6]
  rw [obz,LS.go]
  have e:=ih (l ++ [0]) (by rw [List.length_append]; show (l.length + 1 + k) % 64 = 56; omega) (by omega) (by rw [List.length_append]; show l.length + 1 + k < _; omega)
  rw [List.append_assoc] at e
  exact e
theorem w56 (i:Nat) (h:i < 8):IntKind.i64.wrap ((56:Int) - (IntKind.i64.wrap ((8:Int) * (i:Int)))) = ((56 - 8 * i:Nat):Int):=by
 rw [w64 (n:=8 * (i:Int)) (by omega) (by omega),w64 (by omega) (by omega)]; omega
theorem zcfj (n:Nat) (h:n < 1000):IntKind.u64.wrap (n:Int) = (n:Int):=by
 have:IntKind.u64.wrap (n:Int) = (n:Int) % 18446744073709551616:=by simp [IntKind.wrap,IntKind.bits,IntKind.signed]
 omega
theorem zbkf (n:Nat) (h:n ≤ 64):Nat.min n IntKind.u64.bits = n:=Nat.min_eq_left h
theorem zbkh (L:Int) (n:Nat):∀ (i:Nat) (l:List Int),n + i = 8 → l.length < 900000000000 + i → qw L (ox l) (i:Int) = some (ox (l ++ lb L i n)):=by
 induction n with
 | zero =>
  intro i l hi hb
  obtain rfl:i = 8:=by omega
  rw [zbz8,d4,if_neg (by decide),lb,List.append_nil]
  rfl
 | succ n ih =>
  intro i l hi hb
  have r:=zbjd (Int.fdiv L (2 ^ (56 - 8 * i)))
  rw [zbz8,d4,if_pos (by omega),w56 i (by omega),if_pos (by omega),Int.toNat_natCast,zbkf _ (by omega),if_pos ⟨r.1,r.2,by rw [gw]; omega⟩,zbt6,xz i (by omega)]
  rw [obz,LS.go]
  have e:=ih (i + 1) (l ++ [sh8 L i]) (by omega) (by rw [List.length_append]; show l.length + 1 < _; omega)
  rw [List.append_assoc] at e
  exact e
theorem nm (n:Nat):∀ (m:List Int) (hs:List W),hs.length = 8 → (zbh0 n m hs).length = 8:=by
 induction n with
 | zero => intro m hs h; exact h
 | succ n ih => intro m hs h; exact ih _ _ (zb0r _ _ h)
theorem zbj5 (n:Nat):∀ (m:List Int) (hs:List W),m.length = 64 * n → hs.length = 8 → qv (wl zbbe) (wl hs) (ox m) = some (wl (zbh0 n m hs)):=by
 induction n with
 | zero =>
  intro m hs hm hl
  obtain rfl:m = []:=List.eq_nil_of_length_eq_zero (by omega)
  rw [zbz9,dz,if_pos (show ox [] = (⟨#[]⟩:ByteArray) from rfl)]
  rfl
 | succ n ih =>
  intro m hs hm hl
  have ne:¬ ox m = (⟨#[]⟩:ByteArray):=fun h => by
   have h2:=gw m
   rw [h] at h2
   have h3:(⟨#[]⟩:ByteArray).size = 0:=rfl
   omega
  rw [zbz9,dz,if_neg ne,if_pos ⟨by omega,by rw [gw]; omega⟩,zape,zapm _ _ (by omega)]
  rw [zbqh hs _ hl (by rw [gw,List.length_take]; omega)]
  rw [obz,obz,LS.go]
  exact ih _ _ (by rw [List.length_drop]; omega) (zb0r _ _ hl)
theorem zbcb (hs:List W) (n:Nat):∀ i,(zbia hs i n).length = 4 * n:=by
 induction n with
 | zero => intro i; rfl
 | succ n ih => intro i; rw [zbia,List.length_append,ih]; show 4 + 4 * n = _; omega
theorem zbka (hs:List W) (hl:hs.length = 8) (n:Nat):∀ (i:Nat) (l:List Int),n + i = 8 → l.length ≤ 100 + 4 * i → qu (wl hs) l (i:Int) = some (l ++ zbia hs i n):=by
 induction n with
 | zero =>
  intro i l hi hb
  obtain rfl:i = 8:=by omega
  rw [zb0a,dy,if_neg (by decide),zbia,List.append_nil]
  rfl
 | succ n ih =>
  intro i l hi hb
  rw [zb0a,dy,if_pos (by omega),if_pos (by rw [vr]; omega),if_pos ⟨by omega,by omega⟩,fu hs i _ rfl (by omega)]
  rw [obz,if_pos (by omega),xz i (by omega),obz,LS.go]
  have e:=ih (i + 1) (l ++ o4 ((hs.getD i 0).toNat:Int)) (by omega) (by rw [List.length_append]; show l.length + 4 ≤ _; omega)
  rw [List.append_assoc] at e
  exact e
theorem zbg7:uv = some (wl H0):=rfl
theorem zbki (L:Int) (n:Nat):∀ i,(lb L i n).length = n:=by
 induction n with
 | zero => intro i; rfl
 | succ n ih => intro i; rw [lb,List.length_cons,ih]
theorem zbkk (n:Nat):(n + 1 + kz n) % 64 = 56 ∧ kz n < 64:=by unfold kz; omega
theorem zbou (s:ByteArray):(zbhw s).length = 64 * zbib s:=by
 have:=zbkk s.size
 unfold zbhw zbib
 rw [List.length_append,List.length_append,List.length_append,zbki,List.length_replicate,aj]
 show s.size + 1 + kz s.size + 8 = _
 omega
theorem zbok (s:ByteArray):(state s).length = 8:=nm _ _ _ rfl
theorem zboa (s:ByteArray):(SHA s).size = 32:=by rw [SHA,gw,zbcb]
theorem zbdx (s:ByteArray) (h:s.size < 10000000000):uw s = some (SHA s):=by
 have kk:=zbkk s.size
 have l1:(bo s ++ [128]).length = s.size + 1:=by rw [List.length_append,aj]; rfl
 have e1:=zbj9 (zbho s) (kz s.size) (bo s ++ [128]) (by rw [l1]; exact kk.1) kk.2 (by omega)
 have e2:=zbkh (zbho s) 8 0 ((bo s ++ [128]) ++ List.replicate (kz s.size) 0) rfl (by rw [List.length_append,List.length_replicate]; omega)
 have e3:=zbj5 (zbib s) (zbhw s) H0 (zbou s) rfl
 rw [show zbh0 (zbib s) (zbhw s) H0 = state s from rfl] at e3
 have e4:=zbka (state s) (zbok s) 7 1 (o4 (((state s).getD 0 0).toNat:Int)) rfl (by show 4 ≤ _; omega)
 have s8:(wl (state s)).length = 8:=by rw [vr,zbok]
 have k64:(wl zbbe).length = 64:=rfl
 have h8:(wl H0).length = 8:=rfl
 have i1:IntKind.i64.wrap ((0:Int) + (1:Int)) = ((1:Nat):Int):=by decide
 unfold uw
 rw [if_pos (by omega),if_pos (by show s.size + 1 ≤ _; omega),zapn,zbg7,zces]
 refine (congrArg (· >>= _) e1).trans ?_
 refine (congrArg (· >>= _) e2).trans ?_
 rw [obz,obz,obz,if_pos h8,if_pos k64,if_pos (by show (ox (zbhw s)).size ≤ _; rw [gw,zbou]; have:=zbou s; unfold zbib at *; omega)]
 refine (congrArg (· >>= _) e3).trans ?_
 show (if (wl (state s)).length = 8 then _ else none) = _
 rw [if_pos s8,if_pos (by omega)]
 show (ixL (wl (state s)) 0 >>= _) = _
 rw [fu (state s) 0 0 rfl (by rw [zbok]; omega),obz,i1]
 refine (congrArg (· >>= _) e4).trans ?_
 rfl
open Go Go.RowKit Sh Ic
theorem zbpu (n:Int):IntKind.i64.wrap n = (BitVec.ofInt 64 n).toInt:=by
 rw [IntKind.wrap_i64,BitVec.toInt_ofInt]
 simp only [Int.bmod]
 split <;> omega
theorem zbua (n:Int):BitVec.ofInt 64 (IntKind.i64.wrap n) = BitVec.ofInt 64 n:=by rw [zbpu,BitVec.ofInt_toInt]
def zbbi (v:Int) (c:UInt8):Int:=IntKind.i64.wrap (v * 256 + c.toNat)
theorem zb7a (x:BitVec 64) (c:Nat) (hc:c < 256):(x <<< 8) ||| BitVec.ofNat 64 c = x <<< 8 + BitVec.ofNat 64 c:=by
 rw [BitVec.add_eq_or_of_and_eq_zero]
 apply BitVec.eq_of_getLsbD_eq
 intro i hi
 simp only [BitVec.getLsbD_and,BitVec.getLsbD_shiftLeft,BitVec.getLsbD_ofNat,BitVec.getLsbD_zero]
 by_cases h:i < 8
 · simp [h]
 · have:c.testBit i = false:=Nat.testBit_lt_two_pow (Nat.lt_of_lt_of_le hc (Nat.pow_le_pow_right (by decide) (by omega):2 ^ 8 ≤ 2 ^ i))
   simp [this]
theorem zbgs (v:Int) (c:UInt8):IntKind.i64.wrap ((BitVec.ofInt IntKind.i64.bits (IntKind.i64.wrap (v * 2 ^ Nat.min 8 IntKind.i64.bits)) ||| BitVec.ofInt IntKind.i64.bits (IntKind.i64.wrap (c.toNat:Int))).toNat) = zbbi v c:=by
 show IntKind.i64.wrap ((BitVec.ofInt 64 (IntKind.i64.wrap (v * 2 ^ 8)) ||| BitVec.ofInt 64 (IntKind.i64.wrap (c.toNat:Int))).toNat) = zbbi v c
 rw [zbua,zbua]
 have h1:BitVec.ofInt 64 (v * 2 ^ 8) = (BitVec.ofInt 64 v) <<< 8:=by
  rw [BitVec.ofInt_mul,BitVec.shiftLeft_eq_mul_twoPow]; rfl
 have h2:BitVec.ofInt 64 (c.toNat:Int) = BitVec.ofNat 64 c.toNat:=BitVec.ofInt_natCast ..
 rw [h1,h2,zb7a _ _ c.toNat_lt,← h1,← h2,← BitVec.ofInt_add]
 unfold zbbi
 rw [zbpu,zbpu]
 congr 1
 rw [BitVec.ofInt_natCast,BitVec.ofNat_toNat,BitVec.setWidth_eq]
 congr 1
def fk (v:Int) (l:List UInt8):Int:=l.foldl zbbi v
theorem zb7i (s:ByteArray) (i:Nat) (h:i < s.size):s.data.toList.drop i = s.data.getD i 0 :: s.data.toList.drop (i + 1):=by
 have h':i < s.data.toList.length:=by simpa using h
 have h2:i < s.data.size:=h
 rw [List.drop_eq_getElem_cons h',Array.getD_eq_getD_getElem?,Array.getElem?_eq_getElem h2,Option.getD_some,Array.getElem_toList]
theorem zbnt (s:ByteArray) (i:Nat) (h:i < s.size):ixL (bo s) (i:Int) = some ((s.data.getD i 0).toNat:Int):=by
 rw [xx (by rw [aj]; exact h)]
 unfold bo
 rw [List.getElem_map]
 have h2:i < s.data.size:=h
 rw [Array.getD_eq_getD_getElem?,Array.getElem?_eq_getElem h2,Option.getD_some,Array.getElem_toList]
theorem zbkt (l:List UInt8):∀ (u v:Int),IntKind.i64.wrap u = IntKind.i64.wrap v → IntKind.i64.wrap (l.foldl (fun v c => v * 256 + (c.toNat:Int)) u) = IntKind.i64.wrap (fk v l):=by
 induction l with
 | nil => exact fun u v h => h
 | cons c r ih =>
  intro u v h
  refine ih _ (zbbi v c) ?_
  show IntKind.i64.wrap (u * 256 + (c.toNat:Int)) = IntKind.i64.wrap (zbbi v c)
  unfold zbbi
  rw [IntKind.wrap_i64] at h ⊢
  rw [IntKind.wrap_i64] at h ⊢
  rw [IntKind.wrap_i64]
  omega
theorem zb8n (l:List UInt8):IntKind.i64.wrap (fk 0 l) = fk 0 l:=by
 have key:∀ (l:List UInt8) (v:Int),IntKind.i64.wrap v = v → IntKind.i64.wrap (fk v l) = fk v l:=by
  intro l
  induction l with
  | nil => exact fun v h => h
  | cons c r ih =>
   intro v h
   refine ih (zbbi v c) ?_
   unfold zbbi
   rw [IntKind.wrap_i64,IntKind.wrap_i64]
   omega
 exact key l 0 (by decide)
abbrev Rd:=ac
def Rd.fail:Rd:=⟨⟨#[]⟩,true⟩
def Rd.can (r:Rd) (n:Int):Prop:=r.bad_ = false ∧ 0 ≤ n ∧ n ≤ r.s_.size
instance (r:Rd) (n:Int):Decidable (Rd.can r n):=inferInstanceAs (Decidable (_ ∧ _ ∧ _))
def Rd.take (r:Rd) (n:Int):ByteArray × Rd:=if Rd.can r n then (r.s_.extract 0 n.toNat,⟨r.s_.extract n.toNat r.s_.size,false⟩) else (⟨#[]⟩,Rd.fail)
theorem zbih (r:Rd):cp r = some Rd.fail:=rfl
theorem zbds (r:Rd) (n:Int):dl r n = some (Rd.take r n):=by
 unfold dl Rd.take
 by_cases h1:r.bad_ = true
 · rw [if_pos h1,zbih,obz,if_neg (fun h:Rd.can r n => by have:=h.1; rw [h1] at this; cases this)]
 · have h1':=Bool.eq_false_iff.2 h1
   rw [if_neg h1]
   by_cases h2:n < 0
   · rw [if_pos h2,zbih,obz,if_neg (fun h:Rd.can r n => by have:=h.2.1; omega)]
   · rw [if_neg h2]
     by_cases h3:((r.s_.size:Nat):Int) < n
     · rw [if_pos h3,zbih,obz,if_neg (fun h:Rd.can r n => by have:=h.2.2; omega)]
     · rw [if_neg h3,if_pos ⟨by omega,by omega⟩,if_pos ⟨h1',by omega,by omega⟩,h1']
theorem zag4 (r:Rd) (n:Int) (hn:n ≤ 1000000000):(Rd.take r n).1.size ≤ 1000000000:=by
 unfold Rd.take
 split
 · simp only [ByteArray.size_extract]; omega
 · decide
def Rd.num (r:Rd):Int × Rd:=(fk 0 (Rd.take r 8).1.data.toList,(Rd.take r 8).2)
def Rd.count (r:Rd) (most:Int):Int × Rd:=if (Rd.num r).1 < 0 ∨ most < (Rd.num r).1 then (0,Rd.fail) else Rd.num r
def Rd.text (r:Rd) (most:Int):ByteArray × Rd:=Rd.take (Rd.count r most).2 (Rd.count r most).1
theorem zbp9 (s:ByteArray) (hs:s.size ≤ 1000000000) (n:Nat):∀ (i:Nat) (v:Int),n + i = s.size → d8 (bo s) (s.size:Nat) v (i:Int) = some (fk v (s.data.toList.drop i)):=by
 induction n with
 | zero =>
  intro i v h
  have e:s.data.toList.drop i = []:=List.drop_eq_nil_of_le (by simp; omega)
  rw [oo,bk,if_neg (by omega),obz,LS.go,e]; rfl
 | succ n ih =>
  intro i v h
  rw [oo,bk,if_pos (by omega),zbnt s i (by omega),obz,zbgs,obz,obz,LS.go,xz i (by omega),zb7i s i (by omega)]
  exact ih (i + 1) _ (by omega)
theorem zbqa (r:Rd):gb r = some (Rd.num r):=by
 unfold gb Rd.num
 have e:=zbp9 (Rd.take r 8).1 (zag4 r 8 (by decide)) (Rd.take r 8).1.size 0 0 rfl
 have e:d8 (bo (Rd.take r 8).1) ((Rd.take r 8).1.size:Nat) 0 0 = _:=e
 rw [zbds,obz,aj,e,obz]; rfl
theorem zbp8 (r:Rd) (most:Int):gt r most = some (Rd.count r most):=by
 unfold gt Rd.count
 rw [zbqa,obz]
 by_cases h1:(Rd.num r).1 < 0
 · rw [if_pos h1,zbih,obz,if_pos (.inl h1)]
 · rw [if_neg h1]
   by_cases h2:most < (Rd.num r).1
   · rw [if_pos h2,zbih,obz,if_pos (.inr h2)]
   · rw [if_neg h2,if_neg (fun h => h.elim h1 h2)]
theorem zbhg (r:Rd) (most:Int):fa r most = some (Rd.count r most):=by
 unfold fa
 rw [zbp8,obz]
theorem zbjq (r:Rd) (most:Int):gz r most = some (Rd.text r most):=by
 unfold gz Rd.text
 rw [zbhg,obz,zbds,obz]
def br (v:Int) (i:Nat):Int:=IntKind.u8.wrap (v.fdiv (2 ^ Nat.min (8 * (7 - i)) IntKind.i64.bits))
def kg (v:Int):ByteArray:=⟨#[UInt8.ofNat (br v 0).toNat,UInt8.ofNat (br v 1).toNat,UInt8.ofNat (br v 2).toNat,UInt8.ofNat (br v 3).toNat,UInt8.ofNat (br v 4).toNat,UInt8.ofNat (br v 5).toNat,UInt8.ofNat (br v 6).toNat,UInt8.ofNat (br v 7).toNat]⟩
theorem rx (v:Int) (i:Nat) (hi:i < 8) (l:List Int) (hl:l.length = 8):iq v 8 ((8:Nat):Int) l (i:Int) = iq v 8 ((8:Nat):Int) (l.set i (br v i)) ((i + 1:Nat):Int):=by
 have w2:IntKind.i64.wrap (7 - (i:Int)) = ((7 - i:Nat):Int):=by rw [w64 (by omega) (by omega)]; omega
 have w3:IntKind.i64.wrap (8 * ((7 - i:Nat):Int)) = ((8 * (7 - i):Nat):Int):=by rw [w64 (by omega) (by omega)]; omega
 rw [zb0s,cz,if_pos (by omega),w2,w3,if_pos (by omega),if_pos ⟨by omega,by omega⟩,if_pos (by omega),obz,LS.go,xz i (by omega),Int.toNat_natCast,Int.toNat_natCast]
 rfl
theorem zbky (v:Int):pt v = some (kg v):=by
 have e:iq v 8 ((8:Nat):Int) (List.replicate 8 (0:Int)) (0:Int) = some [br v 0,br v 1,br v 2,br v 3,br v 4,br v 5,br v 6,br v 7]:=by
  have h0:=rx v 0 (by decide) (List.replicate 8 (0:Int)) rfl
  have h1:=rx v 1 (by decide) [br v 0,0,0,0,0,0,0,0] rfl
  have h2:=rx v 2 (by decide) [br v 0,br v 1,0,0,0,0,0,0] rfl
  have h3:=rx v 3 (by decide) [br v 0,br v 1,br v 2,0,0,0,0,0] rfl
  have h4:=rx v 4 (by decide) [br v 0,br v 1,br v 2,br v 3,0,0,0,0] rfl
  have h5:=rx v 5 (by decide) [br v 0,br v 1,br v 2,br v 3,br v 4,0,0,0] rfl
  have h6:=rx v 6 (by decide) [br v 0,br v 1,br v 2,br v 3,br v 4,br v 5,0,0] rfl
  have h7:=rx v 7 (by decide) [br v 0,br v 1,br v 2,br v 3,br v 4,br v 5,br v 6,0] rfl
  refine h0.trans (h1.trans (h2.trans (h3.trans (h4.trans (h5.trans (h6.trans (h7.trans ?_)))))))
  rw [zb0s,cz,if_neg (by decide),obz,LS.go]
  rfl
 unfold pt
 rw [e,obz]
 rfl
theorem gy (v:Int):(kg v).size = 8:=rfl
def fy (s:ByteArray):ByteArray:=kg s.size ++ s
theorem d7 (s:ByteArray):(fy s).size = 8 + s.size:=by unfold fy; rw [ByteArray.size_append,gy]
theorem zbhe (s:ByteArray) (hs:s.size ≤ 140737488355328):om s = some (fy s):=by
 unfold om
 rw [zbky,obz,if_pos (by rw [gy]; omega)]; rfl
def I64 (v:Int):Prop:=-9223372036854775808 ≤ v ∧ v ≤ 9223372036854775807
theorem zbna (v:Int) (i:Nat):br v i = (v / ((2 ^ Nat.min (8 * (7 - i)) 64:Nat):Int)) % 256:=by
 unfold br
 rw [Int.fdiv_eq_ediv_of_nonneg _ (by exact Int.le_of_lt (Int.pow_pos (by decide)))]
 simp [IntKind.wrap,IntKind.bits,IntKind.signed]
theorem zcfh (v:Int) (i:Nat):((UInt8.ofNat (br v i).toNat).toNat:Int) = br v i:=by
 have:=zbna v i
 have h1:0 ≤ br v i:=by rw [this]; exact Int.emod_nonneg _ (by decide)
 have h2:br v i < 256:=by rw [this]; exact Int.emod_lt_of_pos _ (by decide)
 rw [UInt8.toNat_ofNat']
 omega
theorem zbus (v:Int) (hv:I64 v):fk 0 (kg v).data.toList = v:=by
 have e:=zbkt (kg v).data.toList 0 0 rfl
 rw [zb8n] at e
 rw [← e]
 simp only [kg,List.foldl_cons,List.foldl_nil,zcfh]
 simp only [zbna]
 have p0:Nat.min (8 * (7 - 0)) 64 = 56:=rfl
 have p1:Nat.min (8 * (7 - 1)) 64 = 48:=rfl
 have p2:Nat.min (8 * (7 - 2)) 64 = 40:=rfl
 have p3:Nat.min (8 * (7 - 3)) 64 = 32:=rfl
 have p4:Nat.min (8 * (7 - 4)) 64 = 24:=rfl
 have p5:Nat.min (8 * (7 - 5)) 64 = 16:=rfl
 have p6:Nat.min (8 * (7 - 6)) 64 = 8:=rfl
 have p7:Nat.min (8 * (7 - 7)) 64 = 0:=rfl
 rw [p0,p1,p2,p3,p4,p5,p6,p7]
 obtain ⟨h1,h2⟩:=hv
 rw [IntKind.wrap_i64]
 simp only [Nat.reducePow,Int.cast_ofNat_Int]
 omega
theorem zcfo (a b:ByteArray):(a ++ b).extract 0 a.size = a:=by
 apply ByteArray.ext
 simp
theorem zcfn (a b:ByteArray):(a ++ b).extract a.size (a ++ b).size = b:=by
 apply ByteArray.ext
 apply Array.ext'
 rw [ByteArray.data_extract,Array.toList_extract,ByteArray.data_append,Array.toList_append,ByteArray.size_append,List.extract_eq_take_drop]
 rw [List.drop_append_of_le_length (by simp),List.drop_eq_nil_of_le (by simp),List.nil_append,List.take_of_length_le (by simp)]
end Go.Proofs.Ytgkkienmocpnbaa
namespace Go.Proofs.Ytgkkienmocpnbaa.Wl
open Go Go.RowKit
structure Asd (B:Nat) (w w':World):Prop where
 os:w'.os = w.os
 tape:w'.tape = w.tape
 output:w'.output = w.output
 size:w.heap.size ≤ w'.heap.size
 block:∀ k,k < w.heap.size → k ≠ B → w'.heap[k]? = w.heap[k]?
theorem Asd.refl (B:Nat) (w:World):Asd B w w:=⟨rfl,rfl,rfl,Nat.le_refl _,fun _ _ _ => rfl⟩
theorem Asd.trans {B:Nat} {a b c:World} (h:Asd B a b) (k:Asd B b c):Asd B a c :=
 ⟨k.os.trans h.os,k.tape.trans h.tape,k.output.trans h.output,Nat.le_trans h.size k.size,fun i hi hb => (k.block i (Nat.lt_of_lt_of_le hi h.size) hb).trans (h.block i hi hb)⟩
theorem Asd.of_below {B:Nat} {a b:World} (h:Below a.heap.size a b):Asd B a b:=⟨h.os,h.tape,h.output,h.size,fun k hk _ => h.block k hk⟩
theorem Asd.set (B:Nat) (w:World) (v:Value):Asd B w (w.setCell ⟨B,0,none⟩ v) :=
 ⟨rfl,rfl,rfl,(KeepsWalks.setCell w _ v).size,fun k _ hk => Below.heap_setCell _ _ _ k hk⟩
structure Asc (n₀ B:Nat) (w w':World):Prop where
 below:Below n₀ w w'
 cells:∀ (k:Nat) (o:Obj),w.heap[k]? = some o → o.isCells = true → k ≠ B → w'.heap[k]? = some o
theorem Asd.asc {n₀ B:Nat} {a b:World} (h:Asd B a b) (h1:n₀ ≤ B) (h2:n₀ ≤ a.heap.size):Asc n₀ B a b :=
 ⟨⟨h.os,h.tape,h.output,h.size,fun k hk => h.block k (by omega) (by omega)⟩,fun k o hk _ hb => (h.block k (Array.getElem?_eq_some_iff.1 hk).1 hb).trans hk⟩
theorem Asc.putObj {n₀ B l:Nat} {W:World} {o:Obj} (o':Obj) (hn:n₀ ≤ l) (hl:W.heap[l]? = some o) (ho:o.isCells = false):Asc n₀ B W (W.putObj l o') :=
 ⟨(Below.refl n₀ W).grown (grownBy_putObj' W l o') (by have:=(Array.getElem?_eq_some_iff.1 hl).1; omega) (fun k e => by cases e; exact hn),fun k o2 hk hc _ => by
  refine (World.putObj_heap_other ?_).trans hk
  rintro rfl
  rw [hl] at hk; cases hk; rw [ho] at hc; cases hc⟩
theorem Asc.alloc {n₀ B:Nat} (W:World) (o:Obj) (hn:n₀ ≤ W.heap.size):Asc n₀ B W (W.alloc o) :=
 ⟨(Below.refl n₀ W).alloc hn o,fun k o2 hk _ _ => (Below.heap_alloc W o k (Array.getElem?_eq_some_iff.1 hk).1).trans hk⟩
def Sta {α:Type} (n₀ B:Nat) (I:List α → World → Prop):Prop:=∀ ys W W',I ys W → Asc n₀ B W W' → I ys W'
def zcfp {α:Type} (F:Fence) (n:Nat) (P:Program) (g B:Nat) (T:TypeId) (s:Value) (encs:α → Array Value) (xs:List α):Prop :=
 ∀ (l:Nat) (J:List α → World → Prop) (W:World),Boxed W B T s → (∀ ys W1 W2,J ys W1 → Asd B W1 W2 → J ys W2) →
  (∀ pre x W1,J pre W1 → pre ++ [x] <+: xs → YieldAt F (n - 1) P l (encs x) W1 fun e W' => e = .returned (.bool true) ∧ J (pre ++ [x]) W' ∧ W'.heap[B]? = W1.heap[B]?) →
  J [] W → CallsIn F n P g #[.func (.yield l) #[] #[],.pointer (some ⟨B,0,none⟩)] W fun e W' => (∃ v,e = .returned v) ∧ J xs W'
def zbkn (R:World → Prop):Exit → Act → World → Prop
 | .normal,_,W => R W
 | _,_,_ => False
variable {F:Fence} {n:Nat} {P:Program}
theorem zcca {α:Type} {g:Operand} {ps:Array Tmp} {assign body:Code} {Q:Exit → Act → World → Prop} {a:Act} {w:World} {n₀ B:Nat} {T:TypeId} {s:Value}
 (hro:F.round = none) (h1:1 ≤ n) {gf:Nat} (hg:a.eval g = .func (.func gf) #[] #[.pointer (some ⟨B,0,none⟩)]) (hFg:F.fn gf) (eg:∀ args w,(callFunc gf args).run P w = .ok (.enter gf args) w)
 {encs:α → Array Value} {xs:List α} (hseq:zcfp F (n - 1) P gf B T s encs xs) (hBx:Boxed w B T s) (hnB:n₀ ≤ B) (hps:∀ x,(encs x).size = ps.size)
 (I:List α → World → Prop) (hI:Sta n₀ B I) (h0:I [] w) (a₁:α → Act)
 (hassign:∀ (l:Nat) (x:α) (W:World) (K:Act → World → Prop),K (a₁ x) W →
  assign.wpIn (F.inRound l) (n - 1 - 1) P (Exit.then K (fun _ _ _ => False)) { tmps:=(ps.zip (encs x)).foldl (fun t (p,v) => t.setIfInBounds p v) a.tmps,defers:=[] } W)
 (hbody:∀ (l:Nat) (pre:List α) (x:α) (W:World),I pre W → pre ++ [x] <+: xs → body.wpIn (F.inRound l) (n - 1 - 1) P (zbkn fun W' => KeepsOthers W W' ∧ W'.heap[B]? = W.heap[B]? ∧ I (pre ++ [x]) W') (a₁ x) W)
 (hdone:∀ (D:Nat) (W:World),n₀ ≤ D → I xs W → W.heap[D]? = some (.deferred (some [])) → Q .normal { a with defers:={ target:=.collected D,args:=#[] } :: a.defers } W) :
 (Code.rangeFunc g ps assign body).wpIn F n P Q a w:=by
 refine wpIn_rangeFunc ?_
 intro fn hfn
 rw [hro]
 have hBw:B < w.heap.size:=hBx.lt
 obtain ⟨rec,hrec⟩:∃ rec:LoopState → Option Code → Loop,rec = fun st pe => { state:=st,pending:=pe,fn,tmps:=a.tmps,params:=ps,assign,body,defers:=w.heap.size }:=⟨_,rfl⟩
 obtain ⟨W1,hW1⟩:∃ W1,(w.alloc (.deferred (some []))).alloc (.loop (rec .ready none)) = W1:=⟨_,rfl⟩
 have hL1:W1.heap[w.heap.size + 1]? = some (.loop (rec .ready none)):=by
  rw [← hW1]; have:=World.alloc_heap_new (w.alloc (.deferred (some []))) (.loop (rec .ready none)); rwa [World.size_alloc] at this
 have hK1:W1.heap[w.heap.size]? = some (.deferred (some [])):=by
  rw [← hW1]; exact (Below.heap_alloc _ _ _ (by simp)).trans (World.alloc_heap_new w _)
 have hI1:I [] W1:=by
  rw [← hW1]; exact hI _ _ _ (hI _ _ _ h0 (.alloc _ _ (by omega))) (.alloc _ _ (by simp; omega))
 have hB1:Boxed W1 B T s:=by rw [← hW1]; exact (hBx.alloc _).alloc _
 refine ⟨w.heap.size + 1,[{ target:=.collected w.heap.size,args:=#[] }],W1,{ target:=.fn (.func gf) #[.pointer (some ⟨B,0,none⟩)],args:=#[.func (.yield (w.heap.size + 1)) #[] #[]] },W1,gf,
  #[.func (.yield (w.heap.size + 1)) #[] #[]] ++ #[.pointer (some ⟨B,0,none⟩)],W1,?_,?_,?_,?_,fun _ => h1,?_⟩
 · rw [← hW1,hrec]; exact run_enterLoop_outer _ _ _ _ _
 · simp only [resolve,hg]
   simp [go_sem]
 · intro f' hf'; simp [Target.leads] at hf'; subst hf'; exact hFg
 · simp [invoke,go_sem,eg]
 · refine (hseq (w.heap.size + 1)
    (fun pre W => I pre W ∧ W.heap[w.heap.size + 1]? = some (.loop (rec .ready none)) ∧ W.heap[w.heap.size]? = some (.deferred (some [])))
    W1 hB1
    (fun ys A C ⟨hi,hl,hk⟩ hs => by
     have hl':=(Array.getElem?_eq_some_iff.1 hl).1
     exact ⟨hI _ _ _ hi (hs.asc hnB (by omega)),(hs.block _ hl' (by omega)).trans hl,(hs.block _ (by omega) (by omega)).trans hk⟩)
    ?_ ⟨hI1,hL1,hK1⟩).mono ?_
   · rintro pre x W ⟨hi,hl,hk⟩ hlen
     have hlt:w.heap.size + 1 < W.heap.size:=(Array.getElem?_eq_some_iff.1 hl).1
     have hy:=run_yield (P:=P) (args:=encs x) hl (by rw [hrec]; exact hps x)
     rw [hrec] at hy
     refine ⟨fn,_,assign,body,hy,roundIn_of_wpIn hfn (hassign _ x W _ ⟨_,run_beginRound hl (by rw [hrec]),?_⟩)⟩
     have hl2:(W.putObj (w.heap.size + 1) (.loop { rec .ready none with state:=.busy })).heap[w.heap.size + 1]? = some (.loop { rec .ready none with state:=.busy }):=World.putObj_heap_same hlt
     have hk2:(W.putObj (w.heap.size + 1) (.loop { rec .ready none with state:=.busy })).heap[w.heap.size]? = some (.deferred (some [])):=(World.putObj_heap_other (by omega)).trans hk
     have hb2:(W.putObj (w.heap.size + 1) (.loop { rec .ready none with state:=.busy })).heap[B]? = W.heap[B]?:=World.putObj_heap_other (by omega)
     refine wpIn_mono (hbody _ pre x _ (hI _ _ _ hi (.putObj _ (by omega) hl rfl)) hlen) ?_
     rintro e a3 W3 hp
     cases e with
     | normal =>
      obtain ⟨hk3,hb3,hi3⟩:=hp
      have hl3:=hk3.same _ _ hl2 rfl
      have hr:=run_endRound (P:=P) none hl3
      rw [hrec] at hl3
      refine ⟨_,_,hr,rfl,⟨hI _ _ _ hi3 (.putObj _ (by omega) hl3 rfl),?_,(World.putObj_heap_other (by omega)).trans (hk3.same _ _ hk2 rfl)⟩,(World.putObj_heap_other (by omega)).trans (hb3.trans hb2)⟩
      rw [hrec]
      exact World.putObj_heap_same (Array.getElem?_eq_some_iff.1 hl3).1
     | _ => exact hp.elim
   · rintro e W2 ⟨⟨v,rfl⟩,hi,hl,hk⟩
     exact ⟨none,_,by have:=run_endLoop (P:=P) hl (by rw [hrec]; simp); rw [hrec] at this; exact this,hdone _ _ (by omega) (hI _ _ _ hi (.putObj _ (by omega) hl rfl)) ((World.putObj_heap_other (by omega)).trans hk)⟩
end Go.Proofs.Ytgkkienmocpnbaa.Wl
namespace Go.Proofs.Ytgkkienmocpnbaa.Wl
open Go Go.RowKit Sh
inductive Sc:TV → Value → Prop where
 | bool (b:Bool):Sc (.bool b) (.bool b)
 | int (k:IntKind) (n:Int):Sc (.int k n) (.int k n)
 | str (s:ByteArray):Sc (.str s) (.string s)
theorem Sc.tr {v:TV} {w:Value} (h:Sc v w) (σ:ah) (e:Env):TR σ e [] v w:=by
 cases h with
 | bool b => exact .pr (.bool b)
 | int k n => exact .pr (.int k n)
 | str s => exact .pr (.str s)
theorem Sc.vrel {v:TV} {w:Value} (h:Sc v w) (m:Mp):bm m w w:=by
 cases h with
 | bool b => exact .bool b
 | int k n => exact .int k n
 | str s => exact .string s
theorem Sc.back {v:TV} {w x c:Value} {σ:ah} {e:Env} {m:Mp} (h:Sc v w) (h1:TR σ e [] v x) (h2:bm m x c):c = w:=by
 cases h with
 | bool b => rw [np h1] at h2; exact zbl8 h2
 | int k n => rw [jv h1] at h2; exact tw h2
 | str s => rw [up h1] at h2; exact zbmo h2
section
variable {P:Program} {Γ:FuncId → Option TG}
def e0:Env:=⟨fun _ => 0,0,fun _ => .none⟩
theorem hr0:HR e0 ⟨[],0⟩ ah.none :=
 ⟨rfl,fun g hg => absurd rfl hg,fun g id hg => (by rcases hg with hg | ⟨_,hg⟩ <;> cases hg),fun id hid => absurd hid (Nat.not_lt_zero _)⟩
theorem zbpk (vs:List Value) (i:Nat):vs.toArray.getD i undef = vs.getD i undef:=bh vs i
def RdS (W0:World) (p:Value) (τ:TH) (W:World):Prop :=
 ∃ σ e m v,HR e τ σ ∧ (∀ g i,e.who g ≠ .tok i) ∧ Rep W0.heap.size W0 σ m W ∧ TR σ e [] (.ptr 0 0) v ∧ bm m v p
theorem RdS.below {W0 W:World} {p:Value} {τ:TH} (h:RdS W0 p τ W):Below W0.heap.size W0 W:=by
 obtain ⟨σ,e,m,v,_,_,h,_⟩:=h
 exact h.below
theorem RdS.later {W0 W W':World} {p:Value} {τ:TH} (h:RdS W0 p τ W) (hb:Below W.heap.size W W'):RdS W0 p τ W':=by
 obtain ⟨σ,e,m,v,h1,h2,h3,h4⟩:=h
 exact ⟨σ,e,m,v,h1,h2,h3.later hb,h4⟩
theorem zbcr (hG:GOK P Γ) {f:FuncId} {args:List TV} {vs:List Value} {r:TV} {x:Value} {τ':TH} (h:Ru Γ f args ⟨[],0⟩ r τ') (hl:args.length = vs.length) (hs:∀ i,i < args.length → Sc (args.getD i .undef) (vs.getD i undef)) (hx:Sc r x) (W:World) :
 Calls P f vs.toArray W fun e W' => e = .returned x ∧ Below W.heap.size W W':=by
 obtain ⟨k,hk⟩:=h
 have:=(zbit hG k).1 _ _ _ _ _ hk ah.none e0 vs hr0 (fun g i h => by cases h) hl fun i hi => (hs i hi).tr _ _
 refine (this.2 _ _ _ W vs.toArray (Rep.none W) (by simp) fun i hi => ?_).mono ?_
 · rw [zbpk]; exact (hs i (by omega)).vrel _
 · rintro e W' ⟨v,c,m',σ',rfl,_,h3,h4,e',_,h5⟩
   rw [hx.back h5 h3]
   exact ⟨rfl,h4.below⟩
theorem za90 (hG:GOK P Γ) {f:FuncId} {args:List TV} {vs:List Value} {τ':TH} (h:Ru Γ f args ⟨[],0⟩ (.ptr 0 0) τ') (hl:args.length = vs.length) (hs:∀ i,i < args.length → Sc (args.getD i .undef) (vs.getD i undef)) (W:World) :
 Calls P f vs.toArray W fun e W' => ∃ p,e = .returned p ∧ RdS W p τ' W':=by
 obtain ⟨k,hk⟩:=h
 have:=(zbit hG k).1 _ _ _ _ _ hk ah.none e0 vs hr0 (fun g i h => by cases h) hl fun i hi => (hs i hi).tr _ _
 refine (this.2 _ _ _ W vs.toArray (Rep.none W) (by simp) fun i hi => ?_).mono ?_
 · rw [zbpk]; exact (hs i (by omega)).vrel _
 · rintro e W' ⟨v,c,m',σ',rfl,_,h3,h4,e',ha,h5⟩
   exact ⟨c,rfl,σ',e',m',v,ha.hr,ha.notok,h4,h5,h3⟩
theorem zbnb (hG:GOK P Γ) {f:FuncId} {args:List TV} {vs:List Value} {r:TV} {x:Value} {τ τ':TH} (h:Ru Γ f (.ptr 0 0 :: args) τ r τ') (hl:args.length = vs.length) (hs:∀ i,i < args.length → Sc (args.getD i .undef) (vs.getD i undef)) (hx:Sc r x) {W0 W:World} {p:Value} (hp:RdS W0 p τ W) :
 Calls P f (p :: vs).toArray W fun e W' => e = .returned x ∧ RdS W0 p τ' W':=by
 obtain ⟨k,hk⟩:=h
 obtain ⟨σ,e,m,v,h1,h2,h3,h4,h5⟩:=hp
 have:=(zbit hG k).1 _ _ _ _ _ hk σ e (v :: vs) h1 h2 (by simp [hl]) fun i hi => by
  cases i with
  | zero => exact h4
  | succ i => simpa using (hs i (by simpa using hi)).tr σ e
 refine (this.2 _ _ _ W (p :: vs).toArray h3 (by simp) fun i hi => ?_).mono ?_
 · rw [zbpk]
   cases i with
   | zero => exact h5
   | succ i => simpa using (hs i (by simp at hi; omega)).vrel m
 · rintro ex W' ⟨v',c,m',σ',rfl,hm,h6,h7,e',ha,h8⟩
   rw [hx.back h8 h6]
   refine ⟨rfl,σ',e',m',v,ha.hr,ha.notok,h7,?_,h5.mono hm⟩
   obtain ⟨q1,q2⟩:=n6 h4
   rw [q2,← ha.b0 0 q1]
   exact .ptr 0 0 (Nat.lt_of_lt_of_le q1 ha.n0)
end
end Go.Proofs.Ytgkkienmocpnbaa.Wl
namespace Go.Proofs.Ytgkkienmocpnbaa.Wl
open Go Go.RowKit Sh Ic
theorem zbj7 {B:Nat} {w0 w w':World} {σ:ah} {m:Mp} (h:Rep B w0 σ m w) (t t':TypeId) (cs:List Value) (g room:Nat) (arr:Array Value) (fz:Nat × Nat) (hw:Below w.heap.size w w') (hg:w.heap.size ≤ g) (hn:w'.heap[g]? = some (.cells arr t' fz))
 (hv:∀ j,j < cs.length → j < arr.size ∧ bm m (cs.getD j undef) (arr.getD j undef)) (h1:∀ j,j < cs.length → scalar (cs.getD j undef) = true) :
 Rep B w0 (σ.push (.cells t cs .ro)) (m.push ⟨g,0,room⟩) w':=by
 have h':=h.later hw
 have key:∀ k,k < σ.next → ((σ.push (.cells t cs .ro)).blk k) = σ.blk k:=fun k hk => by simp [ah.push]; omega
 have kem:∀ k,k < σ.next → (m.push ⟨g,0,room⟩).l k = m.l k:=fun k hk => by simp [Mp.push,h.next]; omega
 have knw:(m.push ⟨g,0,room⟩).l σ.next = ⟨g,0,room⟩:=by simp [Mp.push,h.next]
 have e1:(σ.push (.cells t cs .ro)).blk σ.next = .cells t cs .ro:=by simp [ah.push]
 refine ⟨by simp [Mp.push,ah.push,h.next],h'.below,h.base,fun i hi => ?_,fun i j hi hj hij hr hl => ?_⟩
 · have hi2:i < σ.next + 1:=hi
   by_cases hin:i = σ.next
   · subst hin
     rw [knw,e1]
     refine ⟨arr,t',fz,hn,fun j hj => ⟨by simp; exact (hv j hj).1,?_,h1 j hj⟩,fun q => absurd rfl q⟩
     have:=(hv j hj).2.mono (m.le_push ⟨g,0,room⟩)
     simpa using this
   · have hi':i < σ.next:=by omega
     rw [kem i hi',key i hi']
     exact (h'.blk i hi').mono (m.le_push _)
 · have hi2:i < σ.next + 1:=hi
   have hj2:j < σ.next + 1:=hj
   by_cases hin:i = σ.next
   · rw [hin,e1] at hr
     cases hr
   · have hi':i < σ.next:=by omega
     rw [key i hi'] at hr
     by_cases hjn:j = σ.next
     · rw [hjn,knw,kem i hi']
       have:=(h.blk i hi').lt (Blk.live_of_own hr)
       simp only
       left
       omega
     · have hj':j < σ.next:=by omega
       rw [key j hj'] at hl
       rw [kem i hi',kem j hj',key i hi',key j hj']
       exact h.apart i j hi' hj' hij hr hl
theorem zbtr {m:Mp} {a c:Value} (n:Int) (h:bm m a c):bm m (.tuple #[a,.int .i64 n]) (.tuple #[c,.int .i64 n]):=by
 refine .tuple _ _ rfl fun i hi => ?_
 match i,hi with
 | 0,_ => exact h
 | 1,_ => exact .int _ _
theorem xr {σ:ah} {e:Env} {l:List TV} {a:Value} (n:Int) (h:PR σ (.sl l) a):TR σ e [] (.tup [.sl l,.int .i64 n]) (.tuple #[a,.int .i64 n]):=by
 refine .tup _ _ rfl fun i hi => ?_
 match i,hi with
 | 0,_ => exact .pr h
 | 1,_ => exact .pr (.int _ _)
theorem texts_callT {P:Program} {f:FuncId} {T:TypeId} {s:ByteArray} {xs:List ByteArray} {n:Int} (hc:zbh2 P f = true)
 (hw:∀ w,Calls P f #[.string s] w fun e W' => ∃ v,e = .returned (.tuple #[v,.int .i64 n]) ∧ Below w.heap.size w W' ∧ W'.ownsRow w.heap.size T 1 v xs.length (xs.map Value.string)) (τ:TH) :
 zbbc P f [.str s] τ (.tup [.sl (xs.map TV.str),.int .i64 n]) τ:=by
 intro σ e ws hr hnt hlen hargs
 obtain ⟨w0,rfl⟩:∃ w0,ws = [w0]:=List.length_eq_one_iff.1 (by simpa using hlen.symm)
 have h0:=hargs 0 (by simp)
 simp only [List.getD_cons_zero] at h0
 obtain rfl:=up h0
 refine ⟨hc,fun B w0 m w cargs hrep hsz hvr => ?_⟩
 obtain ⟨a0,rfl⟩:∃ a0,cargs = #[a0]:=by
  have:cargs.size = 1:=hsz
  obtain ⟨l⟩:=cargs
  match l,this with
  | [x],_ => exact ⟨x,rfl⟩
 obtain rfl:a0 = .string s:=zbmo (hvr 0 (by simp))
 refine (hw w).mono ?_
 rintro ex W' ⟨v,rfl,hb,hl,(⟨rfl,hn⟩ | ⟨g,cap,cur,rfl,hg,hcell,hcap,hmax,hcs,htake⟩)⟩
 · obtain rfl:xs = []:=List.eq_nil_of_length_eq_zero hn
   exact ⟨_,_,m,σ,rfl,.refl _,zbtr n .nilS,hrep.later hb,e,zbhv (k7 hr hnt) hnt,xr n .slN⟩
 · have hcur:∀ j,j < (xs.map Value.string).length → j < cur.size ∧ cur.getD j undef = (xs.map Value.string).getD j undef:=fun j hj => by
    have hj1:j < xs.length:=by simpa using hj
    have hjc:j < cur.size:=by omega
    refine ⟨hjc,?_⟩
    rw [← htake]
    have hjl:j < cur.toList.length:=by simpa using hjc
    simp only [Array.getD_eq_getD_getElem?,List.getD_eq_getElem?_getD,List.getElem?_take]
    rw [if_pos (by omega),Array.getElem?_toList]
   have hrep':=zbj7 hrep T T (xs.map Value.string) g (cap * 1) cur (0,0) hb hg hcell (fun j hj => ⟨(hcur j hj).1,by
    rw [(hcur j hj).2]
    have hj1:j < xs.length:=by simpa using hj
    simp only [List.getD_eq_getElem?_getD,List.getElem?_map,List.getElem?_eq_getElem hj1,Option.map_some,Option.getD_some]
    exact .string _⟩) (fun j hj => by
    have hj1:j < xs.length:=by simpa using hj
    simp only [List.getD_eq_getElem?_getD,List.getElem?_map,List.getElem?_eq_getElem hj1,Option.map_some,Option.getD_some]
    rfl)
   have knw:(m.push ⟨g,0,cap * 1⟩).l σ.next = ⟨g,0,cap * 1⟩:=by simp [Mp.push,hrep.next]
   have kat:(σ.push (.cells T (xs.map Value.string) .ro)).at σ.next = .cells T (xs.map Value.string) .ro:=ah.at_push_new _ _
   refine ⟨.tuple #[.slice (some ⟨σ.next,0,none⟩) xs.length 1,.int .i64 n],_,_,_,rfl,m.le_push ⟨g,0,cap * 1⟩,zbtr n ?_,hrep',e,zbhv ((k7 hr hnt).pushRo _).1 hnt,xr n ?_⟩
   · have:=bm.slice (m:=m.push ⟨g,0,cap * 1⟩) σ.next 0 xs.length 1 cap (by simp [Mp.push,hrep.next]) hcap (by rw [knw]; simp)
     rw [knw] at this
     exact this
   · by_cases hx:xs = []
     · subst hx; exact .slE _ _
     · have:=PR.sl (σ:=σ.push (.cells T (xs.map Value.string) .ro)) (xs.map TV.str) σ.next 0 1 T (xs.map Value.string) .ro (by simpa using hx) (by simp) kat (by simp) (by simp) (fun i hi => by
        have hi1:i < xs.length:=by simpa using hi
        simp only [List.getD_eq_getElem?_getD,List.getElem?_map,List.getElem?_eq_getElem hi1,Option.map_some,Option.getD_some]
        rfl) (fun i hi j hj => by
        have hi1:i < xs.length:=by simpa using hi
        obtain rfl:j = 0:=by omega
        simp only [List.getD_eq_getElem?_getD,List.getElem?_map,List.getElem?_eq_getElem hi1,Option.map_some,Option.getD_some,Nat.zero_add,Nat.mul_one,Nat.add_zero]
        exact .str _)
       simpa using this
open Go Go.RowKit Sh Ic
def rτ (r:Rd):TH:=⟨[⟨aq,[.str r.s_,.bool r.bad_]⟩],0⟩
theorem RdS.drew {W0 W:World} {p:Value} {τ:TH} (h:RdS W0 p τ W):RdS W0 p τ W.drew:=h.later ((Below.refl _ _).drew)
theorem sc1 {v:TV} {w:Value} (h:Sc v w):∀ i,i < [v].length → Sc ([v].getD i .undef) ([w].getD i undef):=fun i hi => by
 obtain rfl:i = 0:=by simpa using hi
 exact h
theorem sc0:∀ i,i < ([]:List TV).length → Sc (([]:List TV).getD i .undef) (([]:List Value).getD i undef):=fun i hi => absurd hi (Nat.not_lt_zero _)
theorem zbkb (s:ByteArray) (W:World):Calls Try.prog 31 #[.string s] W fun e W' => ∃ p,e = .returned p ∧ RdS W p (rτ ⟨s,false⟩) W' :=
 za90 gok (zcbj s ⟨s,false⟩ rfl ⟨[],0⟩ (Nat.le_refl _)) rfl (sc1 (.str s)) W
theorem numW_eq (l:List UInt8):zbem l = fk 0 l:=rfl
theorem text_some {s b t:ByteArray} (h:xo s = some (b,t)):Rd.text ⟨s,false⟩ 1048576 = (b,⟨t,false⟩) ∧ (s.size:Int) = 8 + b.size + t.size ∧ b.size ≤ 1048576 ∧ b = s.extract 8 (8 + b.size) ∧ t = s.extract (8 + b.size) s.size:=by
 unfold xo at h
 split at h
 · rename_i hc
   obtain ⟨h8,h0,h1,h2⟩:=hc
   rw [numW_eq] at *
   simp only [Option.some.injEq,Prod.mk.injEq] at h
   obtain ⟨rfl,rfl⟩:=h
   have e1:Rd.take ⟨s,false⟩ 8 = (s.extract 0 8,⟨s.extract 8 s.size,false⟩):=by unfold Rd.take; rw [if_pos ⟨rfl,by omega,by simp only; omega⟩]; rfl
   have e2:Rd.num ⟨s,false⟩ = (fk 0 (s.extract 0 8).data.toList,⟨s.extract 8 s.size,false⟩):=by unfold Rd.num; rw [e1]
   have e3:Rd.count ⟨s,false⟩ 1048576 = (fk 0 (s.extract 0 8).data.toList,⟨s.extract 8 s.size,false⟩):=by
    unfold Rd.count; rw [e2,if_neg (by simp only; omega)]
   generalize fk 0 (s.extract 0 8).data.toList = n at *
   obtain ⟨k,rfl⟩:=Int.eq_ofNat_of_zero_le h0
   have sz:(s.extract 8 s.size).size = s.size - 8:=by rw [ByteArray.size_extract]; omega
   have sb:(s.extract 8 (8 + k)).size = k:=by rw [ByteArray.size_extract]; omega
   have st:(s.extract (8 + k) s.size).size = s.size - (8 + k):=by rw [ByteArray.size_extract]; omega
   rw [Int.toNat_natCast]
   refine ⟨?_,by rw [sb,st]; omega,by rw [sb]; omega,by rw [sb],by rw [sb]⟩
   unfold Rd.text
   rw [e3]
   unfold Rd.take
   rw [if_pos ⟨rfl,by simp only; omega,by simp only; rw [sz]; omega⟩]
   simp only [Int.ofNat_eq_natCast,Int.toNat_natCast,Prod.mk.injEq,Rd,ac.mk.injEq,and_true]
   rw [sz,ByteArray.extract_extract,ByteArray.extract_extract]
   exact ⟨by congr 1; omega,by congr 1; omega⟩
 · cases h
theorem zae4 {s:ByteArray} (h:xo s = none):Rd.text ⟨s,false⟩ 1048576 = (⟨#[]⟩,⟨⟨#[]⟩,true⟩):=by
 unfold xo at h
 split at h
 · cases h
 · rename_i hc
   rw [numW_eq] at hc
   unfold Rd.text Rd.count Rd.num
   by_cases h8:8 ≤ s.size
   · have e1:Rd.take ⟨s,false⟩ 8 = (s.extract 0 8,⟨s.extract 8 s.size,false⟩):=by unfold Rd.take; rw [if_pos ⟨rfl,by omega,by simp only; omega⟩]; rfl
     have sz:(s.extract 8 s.size).size = s.size - 8:=by rw [ByteArray.size_extract]; omega
     rw [e1]
     simp only
     generalize fk 0 (s.extract 0 8).data.toList = n at *
     by_cases h1:n < 0 ∨ 1048576 < n
     · rw [if_pos h1]; rfl
     · rw [if_neg h1]
       unfold Rd.take
       rw [if_neg]
       · rfl
       · rintro ⟨-,q1,q2⟩
         simp only at q1 q2
         rw [sz] at q2
         exact hc ⟨h8,by omega,by omega,by omega⟩
   · have e1:Rd.take ⟨s,false⟩ 8 = (⟨#[]⟩,Rd.fail):=by
      unfold Rd.take; rw [if_neg]; rintro ⟨-,-,q⟩; simp only at q; omega
     rw [e1]
     simp only [Rd.fail]
     split <;> rfl
theorem zbdb {s b:ByteArray} {r:Rd} (h:Rd.text ⟨s,false⟩ 1048576 = (b,r)) {W0 W:World} {p:Value} (hp:RdS W0 p (rτ ⟨s,false⟩) W) :
 Calls Try.prog 32 #[p,.int .i64 1048576] W fun e W' => e = .returned (.string b) ∧ RdS W0 p (rτ r) W' :=
 zbnb gok (rv ⟨s,false⟩ 1048576 (b,r) (by rw [zbjq,h]) (rτ ⟨s,false⟩) 0 (Nat.zero_le _) rfl (Nat.one_pos) (Nat.le_refl _)) rfl (sc1 (.int .i64 1048576)) (.str b) hp
theorem zbft {r:Rd} {W0 W:World} {p:Value} (hp:RdS W0 p (rτ r) W) :
 Calls Try.prog 33 #[p] W fun e W' => e = .returned (.int .i64 (r.s_.size:Nat)) ∧ RdS W0 p (rτ r) W' :=
 zbnb gok (li r _ rfl (rτ r) 0 (Nat.zero_le _) rfl (Nat.one_pos)) rfl sc0 (.int .i64 _) hp
theorem zbcu {r:Rd} {W0 W:World} {p:Value} (hp:RdS W0 p (rτ r) W) :
 Calls Try.prog 34 #[p] W fun e W' => e = .returned (.bool r.bad_) ∧ RdS W0 p (rτ r) W' :=
 zbnb gok (ml r _ rfl (rτ r) 0 (Nat.zero_le _) rfl (Nat.one_pos)) rfl sc0 (.bool _) hp
theorem seal_f (s:ByteArray) (h:s.size < 10000000000):ub s = some (qy s):=by
 unfold ub qy
 rw [zbdx s h,obz,if_pos ⟨by omega,by rw [zboa]; omega⟩]
theorem zbmv {s:ByteArray} (h:s.size ≤ 1048576) (W:World):Calls Try.prog 16 #[.string s] W fun e W' => e = .returned (.string (qy s)) ∧ Below W.heap.size W W' :=
 zbcr gok (zbo5 s _ (seal_f s (by omega)) ⟨[],0⟩ (Nat.le_refl _)) rfl (sc1 (.str s)) (.str _) W
end Go.Proofs.Ytgkkienmocpnbaa.Wl
