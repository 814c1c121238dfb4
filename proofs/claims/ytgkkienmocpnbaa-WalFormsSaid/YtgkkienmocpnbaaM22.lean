import Derived.Test.YtgkkienmocpnbaaM21
set_option linter.unusedVariables false
set_option linter.unusedSimpArgs false
namespace Go.Proofs.Ytgkkienmocpnbaa
open Go Go.RowKit Sh Ic
theorem m5 (b X:ByteArray) (hb:b.size ≤ 300) (hX:X.size ≤ 10000) (h:ia (X ++ og b) = none):gr (og b ++ X ++ og b) = some ([b],((16 + b.size:Nat):Int)):=by
 have hr:fj (og b ++ X ++ og b) = [(b,16 + b.size)]:=by
  rw [ByteArray.append_assoc,zboj _ _ (by omega),uy h]
 rw [zbm8 _ (by rw [ByteArray.size_append,ByteArray.size_append,eq]; omega),zbov,zbow,hr]
 rfl
theorem zbb1 (v:Int) (t:ByteArray) (hv:I64 v) (h:v < 0 ∨ 1048576 < v ∨ (t.size:Int) < v):ia (kg v ++ t) = none:=by
 have e:(kg v ++ t).extract 0 8 = kg v:=zb5t _ _ 8 rfl
 have e2:zbem ((kg v ++ t).extract 0 8).data.toList = v:=by rw [e,Wl.numW_eq]; exact zbus v hv
 have ht:xo (kg v ++ t) = none:=by
  unfold xo
  rw [e2,if_neg]
  rintro ⟨_,h1,h2,h3⟩
  rw [ByteArray.size_append,gy] at h3
  omega
 unfold ia
 rw [ht]
 rfl
theorem zbb8 (b:ByteArray):(og b).extract 8 (og b).size = b ++ qy b:=by
 have e:og b = kg b.size ++ (b ++ qy b):=by unfold og fy; rw [ByteArray.append_assoc]
 rw [e]
 exact zbhy _ _ 8 rfl
theorem za9l (b:ByteArray) (v:Int) (hv:I64 v) (h:v < 0 ∨ 1048576 < v ∨ (24 + 2 * b.size:Int) < v):ia (kg v ++ (og b).extract 8 (og b).size ++ og b) = none:=by
 rw [zbb8,ByteArray.append_assoc]
 refine zbb1 v _ hv ?_
 rw [ByteArray.size_append,ByteArray.size_append,oa,eq]
 omega
theorem i9 (b g t:ByteArray) (hb:b.size ≤ 1048576) (hg:g.size = 8) (h:g ≠ qy b):ia (fy b ++ g ++ t) = none:=by
 have ht:xo (fy b ++ g ++ t) = some (b,g ++ t):=by rw [ByteArray.append_assoc]; exact zb5a b _ hb
 have e2:(fy b ++ g ++ t).extract (8 + b.size) (16 + b.size) = g:=by
  rw [zbm9 _ _ _ _ (by rw [ByteArray.size_append,d7,hg]; omega)]
  have:=zbhy (fy b) g (8 + b.size) (d7 b)
  rw [ByteArray.size_append,d7,hg] at this
  rw [show 16 + b.size = 8 + b.size + 8 from by omega]
  exact this
 unfold ia
 rw [ht]
 simp only [Option.bind_some]
 rw [if_neg]
 rintro ⟨_,q⟩
 exact h (e2 ▸ q)
theorem zbjc (y m:Int) (h0:0 ≤ y) (h1:y < 256) (m0:0 ≤ m) (m1:m < 255) :
 IntKind.u8.wrap ((BitVec.ofInt IntKind.u8.bits y ^^^ BitVec.ofInt IntKind.u8.bits (IntKind.u8.wrap (IntKind.i64.wrap (1 + m)))).toNat:Int) ≠ y:=by
 rw [w64 (by omega) (by omega),u8m (1 + m),u8m]
 show ((BitVec.ofInt 8 y ^^^ BitVec.ofInt 8 ((1 + m) % 256)).toNat:Int) % 256 ≠ y
 intro q
 have ha:(BitVec.ofInt 8 y).toNat = y.toNat:=by rw [BitVec.toNat_ofInt]; omega
 have hd:(BitVec.ofInt 8 ((1 + m) % 256)).toNat = (1 + m).toNat:=by rw [BitVec.toNat_ofInt]; omega
 generalize BitVec.ofInt 8 y = a at *
 generalize BitVec.ofInt 8 ((1 + m) % 256) = d at *
 have hx:=(a ^^^ d).isLt
 have e:(a ^^^ d) = a:=by
  apply BitVec.eq_of_toNat_eq
  omega
 have e2:d = 0#8:=by
  have:a ^^^ (a ^^^ d) = d:=by rw [← BitVec.xor_assoc,BitVec.xor_self,BitVec.zero_xor]
  rw [← this,e,BitVec.xor_self]
 rw [e2] at hd
 have:(0#8).toNat = 0:=rfl
 omega
theorem nl (a c:ByteArray):bo (a ++ c) = bo a ++ bo c:=by
 unfold bo; rw [ByteArray.data_append,Array.toList_append,List.map_append]
theorem zbbz (a c:List Int):ox (a ++ c) = ox a ++ ox c:=by
 apply ByteArray.ext
 rw [ByteArray.data_append]
 unfold ox
 rw [List.map_append]
 simp
theorem zbhm (s:ByteArray) (i:Nat) (h:i < s.size):∃ y:Int,(bo s)[i]? = some y ∧ ixL (bo s) (i:Int) = some y ∧ 0 ≤ y ∧ y < 256:=by
 refine ⟨_,?_,zbnt s i h,by omega,by have:=(s.data.getD i 0).toNat_lt; omega⟩
 have h1:=zbnt s i h
 rw [xx (by rw [aj]; exact h)] at h1
 rw [List.getElem?_eq_getElem (by rw [aj]; exact h)]
 exact h1
theorem zcff (s:ByteArray) (i:Nat) (y z:Int) (hy:(bo s)[i]? = some y) (y0:0 ≤ y) (y1:y < 256) (z0:0 ≤ z) (z1:z < 256) (hne:z ≠ y):ox ((bo s).set i z) ≠ s:=by
 intro q
 have q2:((bo s).set i z).map (fun n => UInt8.ofNat n.toNat) = (bo s).map fun n => UInt8.ofNat n.toNat:=by
  have h1:ox ((bo s).set i z) = ox (bo s):=q.trans (zboe s).symm
  unfold ox at h1
  injection h1 with h1
  simpa using congrArg Array.toList h1
 have q3:=congrArg (fun l => l[i]?) q2
 have hi:i < (bo s).length:=(List.getElem?_eq_some_iff.1 hy).1
 simp only [List.getElem?_map,hy,List.getElem?_set_self hi,Option.map_some,Option.some.injEq] at q3
 have q4:=congrArg UInt8.toNat q3
 rw [UInt8.toNat_ofNat',UInt8.toNat_ofNat'] at q4
 omega
theorem mz (b:ByteArray) (hb:b.size ≤ 300) (j:Nat) (hj:j < 8) (y z:Int) (hy:(bo (og b))[15 + b.size - j]? = some y) (y0:0 ≤ y) (y1:y < 256) (z0:0 ≤ z) (z1:z < 256) (hne:z ≠ y) :
 ia (ox ((bo (og b)).set (15 + b.size - j) z) ++ og b) = none:=by
 have hl:(bo (fy b)).length = 8 + b.size:=by rw [aj,d7]
 have e:bo (og b) = bo (fy b) ++ bo (qy b):=nl _ _
 rw [e,List.getElem?_append_right (by omega),hl] at hy
 rw [e,List.set_append_right _ _ (by omega),hl,zbbz,zboe]
 refine i9 b _ _ (by omega) ?_ (zcff _ _ y z hy y0 y1 z0 z1 hne)
 rw [gw,List.length_set,aj,oa]
theorem gc (b:ByteArray) (how by_:Int):nc b how by_ = some true:=by
 unfold nc
 by_cases c1:300 < b.size
 · rw [if_pos (by omega),yc,obz]
 rw [if_neg (by omega)]
 have hz:=eq b
 have hS:=zboa b
 have hm:(if (((SHA b).size:Nat):Int) < (8:Int) then (((SHA b).size:Nat):Int) else (8:Int)) = 8:=if_neg (by omega)
 have hi:ixL [b] (0:Int) = some b:=rfl
 have fin:∀ X:ByteArray,X.size ≤ 10000 → ia (X ++ og b) = none →
  (gr ((og b ++ X) ++ og b) >>= fun y24 =>
   if ((y24.1.length:Nat):Int) = (1:Int) then
    ixL y24.1 (0:Int) >>= fun y27 =>
    if y27 = b then
     if y24.2 = (((og b).size:Nat):Int) then
      bz >>= fun y31 =>
      some y31
     else
     some false
    else
    some false
   else
   some false) = some true:=fun X hX h => by
  rw [m5 b X (by omega) hX h,obz]
  simp only
  rw [if_pos (by rfl),hi,obz,if_pos rfl,if_pos (by rw [hz]),yc,obz]
 rw [zbm7 _ (by omega),obz,if_neg (by omega),zblk,obz,if_pos (nov (by rw [gy]; omega)),zbdx b (by omega),obz,hm,if_pos ⟨by omega,by omega⟩]
 have e8:(SHA b).extract 0 (8:Int).toNat = qy b:=rfl
 have et:kg ((b.size:Nat):Int) ++ b = fy b:=rfl
 rw [e8,et,if_pos (nov (by rw [d7,oa]; omega)),if_pos (by rfl),zbnm _ _ (by decide) (by decide),obz]
 have hx8:((og b).extract 8 (og b).size).size = 8 + b.size:=by rw [ByteArray.size_extract,hz]; omega
 have num:∀ v:Int,I64 v → (v < 0 ∨ 1048576 < v ∨ (24 + 2 * b.size:Int) < v) →
  (kg v ++ (og b).extract 8 (og b).size).size ≤ 10000 ∧ ia ((kg v ++ (og b).extract 8 (og b).size) ++ og b) = none:=fun v hv h =>
  ⟨by rw [ByteArray.size_append,gy,hx8]; omega,za9l b v hv h⟩
 by_cases k0:how % 4 = 0
 · have w:IntKind.i64.wrap ((-1:Int) - ((b.size:Nat):Int)) = -1 - (b.size:Int):=w64 (by omega) (by omega)
   obtain ⟨n1,n2⟩:=num (-1 - (b.size:Int)) ⟨by omega,by omega⟩ (by omega)
   rw [if_pos k0,if_pos ⟨by omega,by omega⟩,w,zblk,obz,if_pos (nov (by rw [gy,hx8]; omega)),if_pos (nov (by omega)),if_pos (nov (by rw [ByteArray.size_append]; omega)),fin _ n1 n2]
 rw [if_neg k0]
 by_cases k1:how % 4 = 1
 · obtain ⟨n1,n2⟩:=num 1099511627776 ⟨by omega,by omega⟩ (by omega)
   rw [if_pos k1,if_pos ⟨by omega,by omega⟩,zblk,obz,if_pos (nov (by rw [gy,hx8]; omega)),if_pos (nov (by omega)),if_pos (nov (by rw [ByteArray.size_append]; omega)),fin _ n1 n2]
 rw [if_neg k1]
 by_cases k2:how % 4 = 2
 · rw [if_pos k2,zbnm _ _ (by decide) (by decide),obz]
   have j0:0 ≤ by_ % 8:=Int.emod_nonneg _ (by decide)
   have j1:by_ % 8 < 8:=Int.emod_lt_of_pos _ (by decide)
   obtain ⟨j,hj⟩:=Int.eq_ofNat_of_zero_le j0
   rw [hj] at j1 ⊢
   have w1:IntKind.i64.wrap ((((og b).size:Nat):Int) - 1) = ((15 + b.size:Nat):Int):=by rw [w64 (by omega) (by omega)]; omega
   have w2:IntKind.i64.wrap (((15 + b.size:Nat):Int) - (j:Int)) = ((15 + b.size - j:Nat):Int):=by rw [w64 (by omega) (by omega)]; omega
   obtain ⟨y,hy,hy2,y0,y1⟩:=zbhm (og b) (15 + b.size - j) (by omega)
   have hlen:(bo (og b)).length = 16 + b.size:=by rw [aj,hz]
   rw [w1,w2,if_pos ⟨by omega,by omega⟩,hy2,obz,zbnm _ _ (by decide) (by decide),obz,Int.toNat_natCast,if_pos (by omega)]
   have m0:0 ≤ IntKind.i64.wrap (Int.tdiv by_ 8) % 255:=Int.emod_nonneg _ (by decide)
   have m1:IntKind.i64.wrap (Int.tdiv by_ 8) % 255 < 255:=Int.emod_lt_of_pos _ (by decide)
   have hne:=zbjc y _ y0 y1 m0 m1
   have z0:0 ≤ IntKind.u8.wrap ((BitVec.ofInt IntKind.u8.bits y ^^^ BitVec.ofInt IntKind.u8.bits (IntKind.u8.wrap (IntKind.i64.wrap (1 + IntKind.i64.wrap (Int.tdiv by_ 8) % 255)))).toNat:Int):=by rw [u8m]; omega
   have z1:IntKind.u8.wrap ((BitVec.ofInt IntKind.u8.bits y ^^^ BitVec.ofInt IntKind.u8.bits (IntKind.u8.wrap (IntKind.i64.wrap (1 + IntKind.i64.wrap (Int.tdiv by_ 8) % 255)))).toNat:Int) < 256:=by rw [u8m]; omega
   generalize IntKind.u8.wrap ((BitVec.ofInt IntKind.u8.bits y ^^^ BitVec.ofInt IntKind.u8.bits (IntKind.u8.wrap (IntKind.i64.wrap (1 + IntKind.i64.wrap (Int.tdiv by_ 8) % 255)))).toNat:Int) = z at *
   have sx:(ox ((bo (og b)).set (15 + b.size - j) z)).size = 16 + b.size:=by rw [gw,List.length_set,hlen]
   rw [if_pos (by rw [List.length_set]; omega),if_pos (nov (by rw [sx]; omega)),if_pos (nov (by rw [ByteArray.size_append,sx]; omega)),fin _ (by rw [sx]; omega) (mz b (by omega) j (by omega) y z hy y0 y1 z0 z1 hne)]
 · have w1:IntKind.i64.wrap (((b.size:Nat):Int) + 9) = (b.size:Int) + 9:=w64 (by omega) (by omega)
   have w2:IntKind.i64.wrap ((b.size:Int) + 9 + (((og b).size:Nat):Int)) = 25 + 2 * (b.size:Int):=by rw [w64 (by omega) (by omega)]; omega
   obtain ⟨n1,n2⟩:=num (25 + 2 * (b.size:Int)) ⟨by omega,by omega⟩ (by omega)
   rw [if_neg k2,if_pos ⟨by omega,by omega⟩,w1,w2,zblk,obz,if_pos (nov (by rw [gy,hx8]; omega)),if_pos (nov (by omega)),if_pos (nov (by rw [ByteArray.size_append]; omega)),fin _ n1 n2]
open Go Go.RowKit Sh Ic
open Sh.ArgT (enc)
theorem zcfg (b:ByteArray) (h k:Int) (_:Arg.ok b) (_:Arg.ok h) (_:Arg.ok k):Lw G km [enc b,enc h,enc k]:=⟨_,tc b h k true (gc b h k) ⟨[],0⟩ (Nat.le_refl _)⟩
end Go.Proofs.Ytgkkienmocpnbaa
