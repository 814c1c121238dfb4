import Derived.Test.YtjgpklmkdkkooaaM29
set_option linter.unusedSimpArgs false
set_option linter.unusedVariables false
set_option linter.unusedSectionVars false
/- HashkeyNone: keys that have no bytes. -/
namespace Go.Proofs.Ytjgpklmkdkkooaa
open Go Go.RowKit Sh Ic
open Sh.ArgT (enc)
theorem zb9c (v m:Int):qe v m = some (decide (0 ≤ v) && decide (v < m)):=by
 unfold qe
 by_cases c:0 ≤ v
 · rw [if_pos c,decide_eq_true c,Bool.true_and]
 · rw [if_neg c,decide_eq_false c,Bool.false_and]
theorem zb6u (v:Int):cn [v] = some (!(decide (0 ≤ v) && decide (v < 6))):=by
 unfold cn ip
 cases e:(decide (0 ≤ v) && decide (v < 6)) with
 | true =>
  have l:cj [v] 1 0 = some (.ex ()):=by
   rw [l0,bd,if_pos (by decide)]
   show ((some v >>= _) >>= _) = _
   rw [obz,t8,zb9c,obz,obz,e,if_neg (by decide),obz,LS.go,show IntKind.i64.wrap (0 + 1) = 1 from by decide,l0,bd,if_neg (by decide),obz,LS.go]
  show ((cj [v] 1 0 >>= _) >>= _) = _
  rw [l,obz,obz]
  rfl
 | false =>
  have l:cj [v] 1 0 = some (.rt 0):=by
   rw [l0,bd,if_pos (by decide)]
   show ((some v >>= _) >>= _) = _
   rw [obz,t8,zb9c,obz,obz,e,if_pos (by decide),obz,LS.go]
  show ((cj [v] 1 0 >>= _) >>= _) = _
  rw [l,obz,obz]
  rfl
theorem zccw (v:ByteArray):bq [v] = some (decide (¬ ((v.size:Nat):Int) = 512)):=by
 unfold bq fi
 cases e:(decide (¬ ((v.size:Nat):Int) = 512)) with
 | false =>
  have l:bp [v] 1 0 = some (.ex ()):=by
   rw [io,ax,if_pos (by decide)]
   show ((some v >>= _) >>= _) = _
   rw [obz,t7,obz,e,if_neg (by decide),obz,LS.go,show IntKind.i64.wrap (0 + 1) = 1 from by decide,io,ax,if_neg (by decide),obz,LS.go]
  show ((bp [v] 1 0 >>= _) >>= _) = _
  rw [l,obz,obz]
  rfl
 | true =>
  have l:bp [v] 1 0 = some (.rt 0):=by
   rw [io,ax,if_pos (by decide)]
   show ((some v >>= _) >>= _) = _
   rw [obz,t7,obz,e,if_pos rfl,obz,LS.go]
  show ((bp [v] 1 0 >>= _) >>= _) = _
  rw [l,obz,obz]
  rfl
theorem zb3t (k:ah) (h:ia k = some false):ep k = some ⟨#[]⟩:=by
 unfold ep
 rw [h,obz,if_neg (by decide)]
theorem zch1 (k:ah) (h:¬ (0 ≤ k.Lock ∧ k.Lock < 3)):ia k = some false:=by
 unfold ia
 rw [zb9c,obz,if_neg (by rw [Bool.and_eq_true,decide_eq_true_iff,decide_eq_true_iff]; exact h)]
theorem zbpo (k:ah) (h:64 < k.Secret.size):ia k = some false:=by
 by_cases c:0 ≤ k.Lock ∧ k.Lock < 3
 · unfold ia
   rw [zb9c,obz,if_pos (by rw [Bool.and_eq_true,decide_eq_true_iff,decide_eq_true_iff]; exact c),if_neg (by omega)]
 · exact zch1 k c
def K0 (p:List Int) (g:List ByteArray):ah:=⟨0,j3 0,p,g⟩
theorem s0:(j3 0).size = 7:=zb8e 0 (by decide)
theorem zcb6 (p:List Int) (g:List ByteArray):ia (K0 p g) = (if (0:Int) < ((p.length:Nat):Int) then if ((p.length:Nat):Int) ≤ (6:Int) then if ((g.length:Nat):Int) = ((p.length:Nat):Int) then cn p >>= fun y8 => if y8 = true then some false else bq g >>= fun y11 => some (!y11) else some false else some false else some false):=by
 unfold ia
 rw [zb9c,obz,if_pos (by show (decide ((0:Int) ≤ 0) && decide ((0:Int) < 3)) = true; decide),if_pos (by show (((j3 0).size:Nat):Int) ≤ 64; rw [s0]; decide)]
 rfl
theorem zby2 (v:Int) (g:List ByteArray):ia (K0 [v] g) = (if ((g.length:Nat):Int) = 1 then cn [v] >>= fun y8 => if y8 = true then some false else bq g >>= fun y11 => some (!y11) else some false):=by
 rw [zcb6]
 exact (if_pos (by show (0:Int) < ((1:Nat):Int); decide)).trans (if_pos (by show ((1:Nat):Int) ≤ 6; decide))
theorem sg0:(en (gv 0) 0 (j3 0)).size = 512:=zcms _ _ zcnf _
theorem zcb7:ia k2 = some true:=by
 have e:=zby2 0 [en (gv 0) 0 (j3 0)]
 have e:ia k2 = _:=e
 rw [e,if_pos (by show ((1:Nat):Int) = 1; rfl),zb6u,obz,if_neg (by decide),zccw,obz,sg0]
 rfl
theorem zbzn:∃ b,ep k2 = some b ∧ b.size = 559:=by
 obtain ⟨sg,hsg⟩:∃ sg,sg = en (gv 0) 0 (j3 0):=⟨_,rfl⟩
 obtain ⟨sc,hsc⟩:∃ sc,sc = j3 0:=⟨_,rfl⟩
 have z1:sg.size = 512:=by rw [hsg]; exact sg0
 have z2:sc.size = 7:=by rw [hsc]; exact s0
 have ek:k2 = ⟨0,sc,[0],[sg]⟩:=by rw [hsg,hsc]; rfl
 have m:=zcb7
 rw [ek] at m ⊢
 have n0:=zcjk
 have t0:(zbxg sc).size = 15:=by rw [zc83,z2]
 have t1:(zbxg sg).size = 520:=by rw [zc83,z1]
 unfold ep
 rw [m,obz,if_pos rfl,zcdu,obz,zbvl sc (by omega),obz,if_pos (by rw [n0,t0]; decide),zcdu,obz,if_pos (by rw [ByteArray.size_append,n0,t0,n0]; decide),if_pos (by rw [ByteArray.size_append,ByteArray.size_append,n0,t0,n0]; decide)]
 generalize hb:zbl9 0 ++ zbxg sc ++ zbl9 ((([(0:Int)]:List Int).length:Nat):Int) = b0
 have zb:b0.size = 31:=by rw [← hb,ByteArray.size_append,ByteArray.size_append,n0,t0,n0]
 have l1:l7 ⟨0,sc,[0],[sg]⟩ [0] 1 b0 0 = some (b0 ++ zbl9 0):=by
  rw [zc58,fo,if_pos (by decide)]
  show (((some (0:Int)) >>= _) >>= _) = _
  rw [obz,zcdu,obz,if_pos (by rw [zb,n0]; decide),obz,LS.go,show IntKind.i64.wrap (0 + 1) = 1 from by decide]
  show l7 ⟨0,sc,[0],[sg]⟩ [0] 1 (b0 ++ zbl9 0) 1 = _
  rw [zc58,fo,if_neg (by decide),obz,LS.go]
 have l2:l6 [sg] 1 (b0 ++ zbl9 0) 0 = some (b0 ++ zbl9 0 ++ zbxg sg):=by
  rw [zc59,fk,if_pos (by decide)]
  show (((some sg) >>= _) >>= _) = _
  rw [obz,zbvl sg (by omega),obz,if_pos (by rw [ByteArray.size_append,zb,n0,t1]; decide),obz,LS.go,show IntKind.i64.wrap (0 + 1) = 1 from by decide]
  show l6 [sg] 1 (b0 ++ zbl9 0 ++ zbxg sg) 1 = _
  rw [zc59,fk,if_neg (by decide),obz,LS.go]
 have zz:(b0 ++ zbl9 0 ++ zbxg sg).size = 559:=by rw [ByteArray.size_append,ByteArray.size_append,zb,n0,t1]
 refine ⟨b0 ++ zbl9 0 ++ zbxg sg,?_,zz⟩
 show (l7 ⟨0,sc,[0],[sg]⟩ [0] 1 b0 0 >>= _) = _
 rw [l1,obz]
 show (l6 [sg] 1 (b0 ++ zbl9 0) 0 >>= _) = _
 rw [l2,obz,if_pos (by rw [zz]; decide)]
theorem zcup (n:Nat):(yu (List.replicate n (0:Int))).size = n:=by rw [pz,List.length_replicate]
theorem zb5w (how n:Int):ue how n = some true:=by
 obtain ⟨b,hb,hz⟩:=zbzn
 unfold ue
 rw [zbtb,obz,zcru,obz,zcbm,obz,zbtd,obz,hb,obz,if_pos (by rw [hz]; rfl),zcrt n 100 (by decide) (by decide),obz,zcrt how 7 (by decide) (by decide),obz]
 obtain ⟨m,hm⟩:∃ m:Nat,n % 100 = (m:Int):=⟨(n % 100).toNat,by omega⟩
 have hm100:m < 100:=by omega
 rw [hm]
 obtain ⟨c,hc⟩:∃ c,c = how % 7:=⟨_,rfl⟩
 have hc7:c = 0 ∨ c = 1 ∨ c = 2 ∨ c = 3 ∨ c = 4 ∨ c = 5 ∨ c = 6:=by omega
 rw [← hc]
 clear hc
 have w1:IntKind.i64.wrap (1 + (m:Int)) = ((m + 1:Nat):Int):=by rw [w64 (by omega) (by omega)]; omega
 rw [w1]
 have e1:IntKind.i64.wrap ((2:Int) + ((m + 1:Nat):Int)) = ((m + 3:Nat):Int):=by rw [w64 (by omega) (by omega)]; omega
 have e2:IntKind.i64.wrap ((0:Int) - ((m + 1:Nat):Int)) = -((m + 1:Nat):Int):=by rw [w64 (by omega) (by omega)]; omega
 have e3:IntKind.i64.wrap ((64:Int) + ((m + 1:Nat):Int)) = ((m + 65:Nat):Int):=by rw [w64 (by omega) (by omega)]; omega
 have e4:IntKind.i64.wrap ((5:Int) + ((m + 1:Nat):Int)) = ((m + 6:Nat):Int):=by rw [w64 (by omega) (by omega)]; omega
 have e5:IntKind.i64.wrap ((512:Int) + ((m + 1:Nat):Int)) = ((m + 513:Nat):Int):=by rw [w64 (by omega) (by omega)]; omega
 rcases hc7 with rfl | rfl | rfl | rfl | rfl | rfl | rfl
 · rw [if_pos rfl,e1,zb3t _ (zch1 _ (by show ¬ (0 ≤ ((m + 3:Nat):Int) ∧ ((m + 3:Nat):Int) < 3); omega)),obz,if_pos rfl,zb3w,obz]
 · rw [if_neg (by decide),if_pos rfl,e2,zb3t _ (zch1 _ (by show ¬ (0 ≤ -((m + 1:Nat):Int) ∧ -((m + 1:Nat):Int) < 3); omega)),obz,if_pos rfl,zb3w,obz]
 · rw [if_neg (by decide),if_neg (by decide),if_pos rfl,e3,if_pos (by omega),if_pos (by omega),if_pos (by omega),Int.toNat_natCast,zb3t _ (zbpo _ (by show 64 < (yu (List.replicate (m + 65) (0:Int))).size; rw [zcup]; omega)),obz,if_pos rfl,zb3w,obz]
 · rw [if_neg (by decide),if_neg (by decide),if_neg (by decide),if_pos rfl,zb3t _ (by
    have e:=zcb6 [] [en (gv 0) 0 (j3 0)]
    rw [if_neg (by decide)] at e
    exact e),obz,if_pos rfl,zb3w,obz]
 · rw [if_neg (by decide),if_neg (by decide),if_neg (by decide),if_neg (by decide),if_pos rfl,e4,zb3t _ (by
    have e:=zby2 ((m + 6:Nat):Int) [en (gv 0) 0 (j3 0)]
    rw [if_pos (by show ((1:Nat):Int) = 1; rfl),zb6u,obz,if_pos (by rw [decide_eq_false (show ¬ ((m + 6:Nat):Int) < 6 by omega),Bool.and_false]; rfl)] at e
    exact e),obz,if_pos rfl,zb3w,obz]
 · rw [if_neg (by decide),if_neg (by decide),if_neg (by decide),if_neg (by decide),if_neg (by decide),if_pos rfl,if_pos (by decide),if_pos (by decide),zb3t _ (by
    have e:=zby2 0 ([en (gv 0) 0 (j3 0)] ++ [en (gv 0) 0 (j3 0)])
    rw [if_neg (by show ¬ ((2:Nat):Int) = 1; decide)] at e
    exact e),obz,if_pos rfl,zb3w,obz]
 · rw [if_neg (by decide),if_neg (by decide),if_neg (by decide),if_neg (by decide),if_neg (by decide),if_neg (by decide),e5,if_pos (by omega),if_pos (by omega),if_pos (by omega),Int.toNat_natCast,zb3t _ (by
    have e:=zby2 0 [yu (List.replicate (m + 513) (0:Int))]
    rw [if_pos (by show ((1:Nat):Int) = 1; rfl),zb6u,obz,if_neg (by decide),zccw,obz,zcup,decide_eq_true (show ¬ ((m + 513:Nat):Int) = 512 by omega)] at e
    exact e),obz,if_pos rfl,zb3w,obz]
theorem zdi7 (a b:Int) (_:Arg.ok a) (_:Arg.ok b):Lw G pw [enc a,enc b]:=⟨_,zdil a b true (zb5w a b) ⟨[],0⟩ (Nat.le_refl _)⟩
end Go.Proofs.Ytjgpklmkdkkooaa
