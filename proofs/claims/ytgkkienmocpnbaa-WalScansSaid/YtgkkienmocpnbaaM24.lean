import Derived.Test.YtgkkienmocpnbaaM23
set_option linter.unusedVariables false
set_option linter.unusedSimpArgs false
namespace Go.Proofs.Ytgkkienmocpnbaa
open Go Go.RowKit Sh Ic
theorem yi {s b t:ByteArray} {n:Nat} (h:ia s = some (b,n,t)):n = 16 + b.size ∧ t = s.extract (16 + b.size) s.size ∧ 16 + b.size ≤ s.size ∧ b.size ≤ 1048576:=by
 unfold ia at h
 cases ht:xo s with
 | none => rw [ht] at h; cases h
 | some y =>
  rw [ht] at h
  obtain ⟨c,u⟩:=y
  obtain ⟨_,hsz,hm,_,_⟩:=Wl.text_some ht
  simp only [Option.bind_some] at h
  split at h
  · rename_i hc
    simp only [Option.some.injEq,Prod.mk.injEq] at h
    obtain ⟨rfl,rfl,rfl⟩:=h
    have:=hc.1
    exact ⟨rfl,rfl,by omega,hm⟩
  · cases h
def j6 (s:ByteArray):List (ByteArray × Nat):=vu s.size s
theorem zbsm:∀ (k m:Nat) (s:ByteArray),s.size ≤ k → s.size ≤ m → vu k s = vu m s
 | 0,0,s,_,_ => rfl
 | 0,m + 1,s,h,_ => by
  have:ia s = none:=by
   cases hq:ia s with
   | none => rfl
   | some x =>
    obtain ⟨b,n,t⟩:=x
    have:=(yi hq).2.2.1
    omega
  unfold vu; rw [this]
 | k + 1,0,s,_,h => by
  have:ia s = none:=by
   cases hq:ia s with
   | none => rfl
   | some x =>
    obtain ⟨b,n,t⟩:=x
    have:=(yi hq).2.2.1
    omega
  unfold vu; rw [this]
 | k + 1,m + 1,s,h1,h2 => by
  unfold vu
  cases hq:ia s with
  | none => rfl
  | some x =>
   obtain ⟨b,n,t⟩:=x
   obtain ⟨_,e,h3,_⟩:=yi hq
   have:t.size = s.size - (16 + b.size):=by rw [e,ByteArray.size_extract]; omega
   simp only
   rw [zbsm k m t (by omega) (by omega)]
theorem uy {s:ByteArray} (h:ia s = none):j6 s = []:=by
 unfold j6
 cases s.size with
 | zero => rfl
 | succ k => unfold vu; rw [h]
theorem zbx7 {s b t:ByteArray} {n:Nat} (h:ia s = some (b,n,t)):j6 s = (b,n) :: j6 t:=by
 obtain ⟨_,e,h3,_⟩:=yi h
 have e2:t.size = s.size - (16 + b.size):=by rw [e,ByteArray.size_extract]; omega
 unfold j6
 rw [zbsm s.size (s.size + 1) s (Nat.le_refl _) (Nat.le_succ _)]
 conv => lhs; unfold vu
 rw [h]
 simp only
 rw [zbsm s.size t.size t (by omega) (Nat.le_refl _)]
def xr (l:List (ByteArray × Nat)):Nat:=(l.map Prod.snd).sum
theorem zbqv (s:ByteArray):za8w s = (j6 s).map Prod.fst:=rfl
theorem zbqw (s:ByteArray):zbju s = xr (j6 s):=rfl
theorem zblk (s:ByteArray) (g n:Nat) (h:g + n ≤ s.size):(s.extract g s.size).extract n (s.extract g s.size).size = s.extract (g + n) s.size:=by
 rw [ByteArray.size_extract,ByteArray.extract_extract]
 congr 1
 omega
theorem zbkz (s:ByteArray) (hs:s.size ≤ 1000000000):∀ (k:Nat) (l:List ByteArray) (g:Nat),s.size - g ≤ k → g ≤ s.size → l.length ≤ g →
 l4 s l (g:Int) = some (l ++ (j6 (s.extract g s.size)).map Prod.fst,((g + xr (j6 (s.extract g s.size)):Nat):Int)):=by
 intro k
 induction k with
 | zero =>
  intro l g hk hg hl
  obtain rfl:g = s.size:=by omega
  rw [zb73,de,if_pos ⟨by omega,by omega⟩,Int.toNat_natCast,zba6]
  have hz:(s.extract s.size s.size).size = 0:=by rw [ByteArray.size_extract]; omega
  have ht:xo (s.extract s.size s.size) = none:=by unfold xo; rw [if_neg (by rw [hz]; omega)]
  have hst:ia (s.extract s.size s.size) = none:=by unfold ia; rw [ht]; rfl
  rw [ht,uy hst,obz]
  simp only
  rw [if_pos trivial,obz,LS.go]
  simp [xr]
 | succ k ih =>
  intro l g hk hg hl
  generalize hu:s.extract g s.size = u
  have hsz:u.size = s.size - g:=by rw [← hu,ByteArray.size_extract]; omega
  rw [zb73,de,if_pos ⟨by omega,by omega⟩,Int.toNat_natCast,zba6,hu]
  cases ht:xo u with
  | none =>
   have hst:ia u = none:=by unfold ia; rw [ht]; rfl
   rw [uy hst,obz]
   simp only
   rw [if_pos trivial,obz,LS.go]
   simp [xr]
  | some x =>
   obtain ⟨b,t⟩:=x
   obtain ⟨_,hts,hbm,hbe,hte⟩:=Wl.text_some ht
   rw [obz]
   simp only
   rw [if_neg (by simp)]
   by_cases h8:8 ≤ t.size
   · have hex:t.extract 0 8 = u.extract (8 + b.size) (16 + b.size):=by
      rw [hte,ByteArray.extract_extract]
      have e:(u.extract (8 + b.size) u.size).size = u.size - (8 + b.size):=by rw [ByteArray.size_extract]; omega
      congr 1
      omega
     rw [if_neg (by omega),if_pos ⟨by omega,by omega⟩,zbhx b (by omega),obz,if_pos ⟨by omega,by rw [zbqe]; omega⟩,hex,show (SHA b).extract 0 8 = qy b from rfl]
     by_cases hq:u.extract (8 + b.size) (16 + b.size) = qy b
     · have hst:ia u = some (b,16 + b.size,u.extract (16 + b.size) u.size):=by unfold ia; rw [ht]; exact if_pos ⟨h8,hq⟩
       have hw:IntKind.i64.wrap (IntKind.i64.wrap ((g:Int) + ((b.size:Nat):Int)) + 16) = ((g + (16 + b.size):Nat):Int):=by
        rw [w64 (n:=(g:Int) + ((b.size:Nat):Int)) (by omega) (by omega),w64 (by omega) (by omega)]; omega
       rw [if_pos hq,if_pos (by omega),hw,obz,LS.go,ih _ _ (by omega) (by omega) (by rw [List.length_append]; show l.length + 1 ≤ _; omega),zbx7 hst]
       have he:u.extract (16 + b.size) u.size = s.extract (g + (16 + b.size)) s.size:=by rw [← hu]; exact zblk s g (16 + b.size) (by omega)
       rw [he]
       simp [xr,Nat.add_assoc]
     · have hst:ia u = none:=by unfold ia; rw [ht]; exact if_neg fun q => hq q.2
       rw [if_neg hq,uy hst,obz,LS.go]
       simp [xr]
   · have hst:ia u = none:=by unfold ia; rw [ht]; exact if_neg fun q => h8 q.1
     rw [if_pos (by omega),uy hst,obz,LS.go]
     simp [xr]
theorem zbll (s:ByteArray):s.extract 0 s.size = s:=by
 apply ByteArray.ext
 rw [ByteArray.data_extract]
 exact Array.extract_size
theorem zbk0 (s:ByteArray) (hs:s.size ≤ 1000000000):uh s = some (za8w s,(zbju s:Int)):=by
 unfold uh
 have e:=zbkz s hs s.size [] 0 (Nat.le_refl _) (Nat.zero_le _) (Nat.le_refl _)
 have e:l4 s [] (0:Int) = _:=e
 rw [e,obz,zbll,List.nil_append,Nat.zero_add,zbqv,zbqw]
theorem zbze (a b:ByteArray) (i j:Nat) (h:j ≤ a.size):(a ++ b).extract i j = a.extract i j:=by
 apply ByteArray.ext
 rw [ByteArray.data_extract,ByteArray.data_extract,ByteArray.data_append,Array.extract_append]
 have:(b.data.extract (i - a.data.size) (j - a.data.size)) = #[]:=by
  have hz:j - a.data.size = 0:=by have:a.data.size = a.size:=rfl; omega
  rw [hz]
  apply Array.eq_empty_of_size_eq_zero
  rw [Array.size_extract]
  omega
 rw [this,Array.append_empty]
theorem zckq (a b:ByteArray) (n:Nat) (h:a.size = n):(a ++ b).extract 0 n = a:=by rw [← h]; exact zclj a b
theorem zbqd (a b:ByteArray) (n:Nat) (h:a.size = n):(a ++ b).extract n (a ++ b).size = b:=by rw [← h]; exact zcli a b
theorem zckd (b t:ByteArray) (h:b.size ≤ 1048576):xo (fy b ++ t) = some (b,t):=by
 have e1:(fy b ++ t).extract 0 8 = kg b.size:=by
  unfold fy; rw [ByteArray.append_assoc]; exact zckq _ _ 8 rfl
 have e2:zbin ((fy b ++ t).extract 0 8).data.toList = (b.size:Int):=by
  rw [e1,Wl.numW_eq]; exact zcgi _ ⟨by omega,by omega⟩
 have sz:(fy b ++ t).size = 8 + b.size + t.size:=by rw [ByteArray.size_append,d7]
 unfold xo
 rw [e2,if_pos ⟨by omega,by omega,by omega,by omega⟩,Int.toNat_natCast]
 have e3:(fy b ++ t).extract (8 + b.size) (fy b ++ t).size = t:=zbqd _ _ _ (by rw [d7])
 have e4:(fy b ++ t).extract 8 (8 + b.size) = b:=by
  rw [zbze _ _ _ _ (by rw [d7]; omega)]
  have:=zbqd (kg b.size) b 8 rfl
  rw [ByteArray.size_append,gy] at this
  exact this
 rw [e3,e4]
theorem zbfw (b t:ByteArray) (h:b.size ≤ 1048576):ia (og b ++ t) = some (b,16 + b.size,t):=by
 have e0:og b ++ t = fy b ++ (qy b ++ t):=by unfold og; rw [ByteArray.append_assoc]
 have ht:xo (og b ++ t) = some (b,qy b ++ t):=by rw [e0]; exact zckd b _ h
 have e1:(og b ++ t).extract (16 + b.size) (og b ++ t).size = t:=zbqd _ _ _ (eq b)
 have e2:(og b ++ t).extract (8 + b.size) (16 + b.size) = qy b:=by
  rw [zbze _ _ _ _ (by rw [eq]; omega)]
  have:=zbqd (fy b) (qy b) (8 + b.size) (d7 b)
  unfold og
  rw [ByteArray.size_append,d7,oa] at this
  rw [show 16 + b.size = 8 + b.size + 8 from by omega]
  exact this
 unfold ia
 rw [ht]
 simp only [Option.bind_some]
 rw [if_pos ⟨by rw [ByteArray.size_append,oa]; omega,e2⟩,e1]
theorem zbta (b t:ByteArray) (h:b.size ≤ 1048576):j6 (og b ++ t) = (b,16 + b.size) :: j6 t:=zbx7 (zbfw b t h)
theorem zbzi {s:ByteArray} (h:s.size < 16):j6 s = []:=by
 refine uy ?_
 cases hq:ia s with
 | none => rfl
 | some x =>
  obtain ⟨b,n,t⟩:=x
  have:=(yi hq).2.2.1
  omega
theorem yc:bz = some true:=by
 have s1:(⟨#[97]⟩:ByteArray).size = 1:=rfl
 have s0:(⟨#[]⟩:ByteArray).size = 0:=rfl
 have sx:(⟨#[120]⟩:ByteArray).size = 1:=rfl
 have ea:(og ⟨#[97]⟩ ++ og ⟨#[]⟩).size = 33:=by rw [ByteArray.size_append,eq,eq,s1,s0]
 have eb:(og ⟨#[97]⟩ ++ og ⟨#[]⟩ ++ ⟨#[120]⟩).size = 34:=by rw [ByteArray.size_append,ea,sx]
 have er:j6 (og ⟨#[97]⟩ ++ og ⟨#[]⟩ ++ ⟨#[120]⟩) = [(⟨#[97]⟩,17),(⟨#[]⟩,16)]:=by
  rw [ByteArray.append_assoc,zbta _ _ (by rw [s1]; omega),zbta _ _ (by rw [s0]; omega),zbzi (by rw [sx]; omega),s1,s0]
 have e0:j6 (⟨#[]⟩:ByteArray) = []:=zbzi (by rw [s0]; omega)
 unfold bz
 rw [zbrz _ (by rw [s1]; omega),obz,zbrz _ (by rw [s0]; omega),obz,if_pos (by rw [← ByteArray.size_append,ea]; omega),if_pos (by rw [ea,sx]; omega),zbr0 _ (by rw [eb]; omega),obz,zbr0 _ (by rw [s0]; omega),obz]
 rw [zbqv,zbqw,zbqv,zbqw,er,e0]
 simp only [List.map_cons,List.map_nil,List.length_cons,List.length_nil]
 rw [if_pos (by decide)]
 have i0:ixL [(⟨#[97]⟩:ByteArray),⟨#[]⟩] (0:Int) = some ⟨#[97]⟩:=rfl
 have i1:ixL [(⟨#[97]⟩:ByteArray),⟨#[]⟩] (1:Int) = some ⟨#[]⟩:=rfl
 rw [i0,obz,if_pos rfl,i1,obz,if_pos rfl,eb]
 rfl
theorem zboi (l:List ByteArray) (hl:l.length < 1000000000) (n:Nat):∀ i,n + i = l.length → gc l l (i:Int) = some (.ex ()):=by
 induction n with
 | zero =>
  intro i h
  rw [rz,bu,if_neg (by omega),obz,LS.go]
 | succ n ih =>
  intro i h
  rw [rz,bu,if_pos (by omega),xx (by omega),obz,obz,if_pos rfl,obz,LS.go,xz i (by omega)]
  exact ih (i + 1) (by omega)
theorem zboj (l:List ByteArray) (hl:l.length < 1000000000):jo l l = some true:=by
 unfold jo
 have e:gc l l (0:Int) = some (.ex ()):=zboi l hl l.length 0 (by omega)
 rw [if_pos rfl,e,obz]
open Go Go.RowKit Sh Ic
def j8:List ByteArray → ByteArray
 | [] => ⟨#[]⟩
 | b :: r => og b ++ j8 r
theorem zb1r:∀ {L:List ByteArray},(∀ b ∈ L,b.size ≤ 200) → (j8 L).size ≤ L.length * 216 ∧ 16 * L.length ≤ (j8 L).size
 | [],_ => ⟨Nat.le_refl _,Nat.le_refl _⟩
 | b :: r,h => by
  have h1:=h b (by simp)
  have h2:=zb1r (L:=r) fun c hc => h c (by simp [hc])
  unfold j8
  rw [ByteArray.size_append,eq,List.length_cons]
  omega
theorem zcb6:∀ {L:List ByteArray} (t:ByteArray),(∀ b ∈ L,b.size ≤ 200) → j6 (j8 L ++ t) = L.map (fun b => (b,16 + b.size)) ++ j6 t
 | [],t,_ => by unfold j8; rw [zb5m]; rfl
 | b :: r,t,h => by
  have h1:=h b (by simp)
  unfold j8
  rw [ByteArray.append_assoc,zbta _ _ (by omega),zcb6 t fun c hc => h c (by simp [hc])]
  rfl
theorem zcdk:∀ {L:List ByteArray},xr (L.map fun b => (b,16 + b.size)) = (j8 L).size
 | [] => rfl
 | b :: r => by
  unfold j8
  rw [ByteArray.size_append,eq,← zcdk (L:=r)]
  simp [xr]
theorem zbku (a b:List (ByteArray × Nat)):xr (a ++ b) = xr a + xr b:=by simp [xr]
theorem zckc (L:List ByteArray) (i:Nat) (h:i < L.length):j8 (L.drop i) = og L[i] ++ j8 (L.drop (i + 1)):=by
 rw [List.drop_eq_getElem_cons h]; rfl
theorem zbkx (L:List ByteArray) (s:ByteArray) (hl:L.length ≤ 20) (n:Nat):∀ (i:Nat) (v:ByteArray),n + i = L.length → v.size ≤ 300 * i →
 (em L s v (i:Int) = some (.ex (v ++ j8 (L.drop i))) ∧ ∀ b ∈ L.drop i,b.size ≤ 200) ∨ em L s v (i:Int) = some (.rt true):=by
 induction n with
 | zero =>
  intro i v h hv
  left
  have e:L.drop i = []:=List.drop_eq_nil_of_le (by omega)
  rw [tu,ca,if_neg (by omega),obz,LS.go,e]
  exact ⟨by unfold j8; rw [zbl4],fun b hb => by simp at hb⟩
 | succ n ih =>
  intro i v h hv
  have hi:i < L.length:=by omega
  rw [tu,ca,if_pos (by omega),xx hi,obz]
  by_cases hb:200 < L[i].size
  · right
    rw [if_pos (by omega),yc,obz,obz,LS.go]
  · rw [if_neg (by omega),zbrz _ (by omega),obz,zboo _ (by omega),obz,if_pos rfl,if_pos (nov (by rw [eq]; omega)),obz,LS.go,xz i (by omega)]
    rcases ih (i + 1) (v ++ og L[i]) (by omega) (by rw [ByteArray.size_append,eq]; omega) with ⟨e,hq⟩ | e
    · left
      refine ⟨?_,fun b hm => ?_⟩
      · refine e.trans ?_
        rw [zckc L i hi,ByteArray.append_assoc]
      · rw [List.drop_eq_getElem_cons hi] at hm
        rcases List.mem_cons.1 hm with rfl | hm
        · omega
        · exact hq b hm
    · exact .inr e
theorem zaal (L:List ByteArray) (s:ByteArray):na L s = some true:=by
 unfold na
 by_cases hl:20 < L.length
 · rw [if_pos (by omega),yc,obz]
 · rw [if_neg (by omega)]
   by_cases hs:2000 < s.size
   · rw [if_pos (by omega),yc,obz]
   · rw [if_neg (by omega)]
     rcases zbkx L s (by omega) L.length 0 ⟨#[]⟩ (by omega) (Nat.le_refl _) with ⟨e,hq⟩ | e
     · have e:em L s ⟨#[]⟩ (0:Int) = some (.ex (j8 L)):=by
        rw [List.drop_zero,zb5m] at e; exact e
       rw [List.drop_zero] at hq
       obtain ⟨h1,h2⟩:=zb1r hq
       have hr:=zcb6 s hq
       have hz:(j8 L ++ s).size ≤ 10000:=by rw [ByteArray.size_append]; omega
       have hlen:(za8w (j8 L ++ s)).length = L.length + (j6 s).length:=by rw [zbqv,hr]; simp
       have hsum:zbju (j8 L ++ s) = (j8 L).size + xr (j6 s):=by rw [zbqw,hr,zbku,zcdk]
       have hrl:(j6 s).length ≤ s.size:=(Wl.recW_sum _ _).2
       rw [e,obz]
       simp only
       rw [if_pos (nov (by omega)),zbr0 _ (by omega),obz,zbk0 _ (by omega),obz]
       simp only
       rw [zboj _ (by omega),obz,if_pos rfl,if_pos trivial,if_pos (by omega),if_pos (by omega),yc,obz]
     · have e:em L s ⟨#[]⟩ (0:Int) = some (.rt true):=e
       rw [e,obz]
open Go Go.RowKit Sh Ic
open Sh.ArgT (enc)
theorem zcld (L:List ByteArray) (s:ByteArray) (_:Arg.ok L) (_:Arg.ok s):Lw G kl [enc L,enc s]:=⟨_,ta L s true (zaal L s) ⟨[],0⟩ (Nat.le_refl _)⟩
end Go.Proofs.Ytgkkienmocpnbaa
