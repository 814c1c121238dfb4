import Derived.Test.YtjgpklmkdkkooaaM29
set_option linter.unusedSimpArgs false
set_option linter.unusedVariables false
set_option linter.unusedSectionVars false
/- HashkeyRing: a key round a ring. -/
namespace Go.Proofs.Ytjgpklmkdkkooaa
open Go Go.RowKit Sh Ic
open Sh.ArgT (enc)
def pth (k : Nat) : Nat → List Nat
 | 0 => [0]
 | i + 1 => ((k - (i + 1)) % k) :: pth k i
def toI (p : List Nat) : List Int:=p.map fun v => ((v : Nat) : Int)
noncomputable def sgs : List Nat → List ByteArray
 | [] => []
 | v :: p => cj (gv v) 0 ((sgs p).headD (be 0)) :: sgs p
theorem zbwt (k : Nat) : ∀ i,(pth k i).length = i + 1
 | 0 => rfl
 | i + 1 => by rw [pth,List.length_cons,zbwt k i]
theorem zb04 {k : Nat} (hk : 0 < k) : ∀ i,∀ v ∈ pth k i,v < k
 | 0,v,h => by
  have : v = 0:=by simpa [pth] using h
  omega
 | i + 1,v,h => by
  rw [pth,List.mem_cons] at h
  rcases h with rfl | h
  · exact Nat.mod_lt _ hk
  · exact zb04 hk i v h
theorem zcox (k i : Nat) (hk : 0 < k) : ixL (toI (pth k i)) 0 = some (((k - i) % k : Nat) : Int):=by
 cases i with
 | zero => rw [Nat.sub_zero,Nat.mod_self]; rfl
 | succ i => rfl
theorem zcoy (k : Nat) : ∀ i,(pth k i)[i]? = some 0
 | 0 => rfl
 | i + 1 => by rw [pth,List.getElem?_cons_succ]; exact zcoy k i
theorem zb20 (p : List Nat) : (toI p).length = p.length:=List.length_map ..
theorem zbz0 {p : List Nat} {i v : Nat} (h : p[i]? = some v) : ixL (toI p) (i : Int) = some (v : Int) :=
 zbv5.2 ⟨by omega,by rw [Int.toNat_natCast]; unfold toI; rw [List.getElem?_map,h]; rfl⟩
theorem zb9w : ∀ p,(sgs p).length = p.length
 | [] => rfl
 | v :: p => by rw [sgs,List.length_cons,zb9w p,List.length_cons]
theorem zcgz : ∀ p,∀ x ∈ sgs p,x.size = 512
 | [],x,h => by cases h
 | v :: p,x,h => by
  rw [sgs,List.mem_cons] at h
  rcases h with rfl | h
  · exact zcli _ _ zcbr _
  · exact zcgz p x h
theorem za5e {l : List ByteArray} (h : ∀ x ∈ l,x.size = 512) : (l.headD (be 0)).size < 100000:=by
 cases l with
 | nil => show (be 0).size < _; rw [zbzc 0 (by decide)]; decide
 | cons x r => show x.size < _; rw [h x (by simp)]; decide
theorem zb0q : ∀ (p : List Nat) (i v : Nat),p[i]? = some v → (sgs p)[i]? = some (cj (gv v) 0 (((sgs p).drop (i + 1)).headD (be 0)))
 | [],i,v,h => by cases h
 | w :: p,0,v,h => by
  have : w = v:=by simpa using h
  subst this
  rw [sgs]; rfl
 | w :: p,i + 1,v,h => by
  rw [sgs,List.getElem?_cons_succ,List.drop_succ_cons]
  exact zb0q p i v (by simpa using h)
theorem zb4n (L n : Nat) : ∀ (k j : Nat),j < n → (sw L n k)[j]? = some ⟨t7 (k + j),upL (zbtl (k + j)) L 0⟩:=by
 induction n with
 | zero => intro k j h; omega
 | succ n ih =>
  intro k j h
  cases j with
  | zero => rfl
  | succ j =>
   rw [sw,List.getElem?_cons_succ,ih (k + 1) j (by omega),show k + 1 + j = k + (j + 1) by omega]
section
variable (k : Nat) (h2 : 2 ≤ k) (h6 : k ≤ 6)
include h2 h6
theorem zbxn (v : Nat) (hv : v < k) : ixL (pu k 5 6).Parties (v : Int) = some ⟨t7 v,[PUB (gv v) 0]⟩:=by
 refine zbv5.2 ⟨by omega,?_⟩
 rw [Int.toNat_natCast]
 have:=zb4n 1 k 0 v hv
 rw [Nat.zero_add] at this
 exact this
noncomputable def a6 (p : List Nat) : ah:=⟨0,be 0,toI p,sgs p⟩
omit h2 h6 in
theorem zb5g (p : List Nat) : a6 p = ⟨0,be 0,toI p,sgs p⟩:=rfl
theorem zbxe (p : List Nat) (hp : ∀ v ∈ p,v < k) (hl : p.length < 1000) : ∀ (i : Nat),i < p.length → ∃ x,eo (pu k 5 6) (a6 p) (((sgs p).drop (i + 1)).headD (be 0)) (i : Int) = some (.ex x):=by
 have step : ∀ i : Nat,i < p.length → eo (pu k 5 6) (a6 p) (((sgs p).drop (i + 1)).headD (be 0)) (i : Int) = eo (pu k 5 6) (a6 p) (((sgs p).drop i).headD (be 0)) ((i : Int) - 1):=by
  intro i hi
  obtain ⟨v,hv⟩ : ∃ v,p[i]? = some v:=⟨_,List.getElem?_eq_getElem hi⟩
  have hvk : v < k:=hp v (List.mem_of_getElem? hv)
  have sg:=zb0q p i v hv
  have sgx : ixL (sgs p) (i : Int) = some (cj (gv v) 0 (((sgs p).drop (i + 1)).headD (be 0))):=zbv5.2 ⟨by omega,by rw [Int.toNat_natCast]; exact sg⟩
  have hd : ((sgs p).drop i).headD (be 0) = cj (gv v) 0 (((sgs p).drop (i + 1)).headD (be 0)):=by
   have hi2 : i < (sgs p).length:=by rw [zb9w]; exact hi
   rw [List.drop_eq_getElem_cons hi2]
   rw [List.getElem?_eq_getElem hi2] at sg
   injection sg
  have mz : (((sgs p).drop (i + 1)).headD (be 0)).size < 100000:=za5e fun x hx => zcgz p x (List.mem_of_mem_drop hx)
  rw [hd]
  generalize ((sgs p).drop (i + 1)).headD (be 0) = msg at *
  have pa : ixL (a6 p).Path (i : Int) = some (v : Int):=zbz0 hv
  have sa : ixL (a6 p).Sigs (i : Int) = some (cj (gv v) 0 msg):=sgx
  have ky : ixL [PUB (gv v) 0] (a6 p).Lock = some (PUB (gv v) 0):=rfl
  have wr : IntKind.i64.wrap ((i : Int) - 1) = (i : Int) - 1:=by rw [w64 (by omega) (by omega)]
  rw [ql,dc,if_pos (by omega),n6,pa,obz,zbxn k h2 h6 v hvk,obz]
  show (((ixL [PUB (gv v) 0] (a6 p).Lock >>= _) >>= _) >>= _) = _
  rw [ky,obz,sa,obz,zbzo _ _ _ mz,obz,obz,zcnn (PUB (gv v) 0) (gv v) 0 zcbr msg,if_pos (decide_eq_true rfl),obz,LS.go,wr]
 intro i
 induction i with
 | zero =>
  intro hi
  rw [step 0 hi]
  exact ⟨_,by rw [ql,dc,if_neg (by omega),obz,LS.go]⟩
 | succ i ih =>
  intro hi
  rw [step (i + 1) hi,show (((i + 1 : Nat) : Int) - 1) = (i : Int) by omega]
  exact ih (by omega)
theorem zbrc (p : List Nat) (hp : ∀ v ∈ p,v < k) (hn : p.length ≠ 0) (hl : p.length < 1000) : i9 (pu k 5 6) (a6 p) = some true:=by
 obtain ⟨x,hx⟩:=zbxe k h2 h6 p hp hl (p.length - 1) (by omega)
 rw [show p.length - 1 + 1 = p.length by omega,List.drop_of_length_le (by rw [zb9w]; exact Nat.le_refl _)] at hx
 unfold i9
 have w : IntKind.i64.wrap ((((a6 p).Path.length : Nat) : Int) - (1 : Int)) = ((p.length - 1 : Nat) : Int):=by
  have : (a6 p).Path.length = p.length:=zb20 p
  rw [this,w64 (by omega) (by omega)]; omega
 rw [w]
 show (eo (pu k 5 6) (a6 p) (([] : List ByteArray).headD (be 0)) ((p.length - 1 : Nat) : Int) >>= _) = _
 rw [hx,obz]
theorem zbxj : zb78 (pu k 5 6) = true:=by
 have h:=zb2z k 5 6 h2 h6 (by decide) (by decide)
 have np : (pu k 5 6).Parties.length = k:=zb68 1 k 0
 have pr : prs (pu k 5 6).Arcs = zbpy k:=zcgy h2 h6
 unfold zb78
 rw [Bool.and_eq_true]
 constructor
 · refine zcdn.2 ⟨h,(zcgl (by rw [np]; exact h2)).2 (zcp3 k np h2 (fun j hj => ?_) ?_)⟩
   · rw [pr]
     unfold zbpy
     rw [List.mem_map]
     exact ⟨j,List.mem_range.2 (by omega),by rw [Nat.mod_eq_of_lt hj]⟩
   · rw [pr]
     unfold zbpy
     rw [List.mem_map]
     exact ⟨k - 1,List.mem_range.2 (by omega),by rw [show k - 1 + 1 = k by omega,Nat.mod_self]; rfl⟩
 · refine zbt8 h rfl ?_
   rw [pr]
   rcases k26 h2 h6 with e | e | e | e | e <;> rw [e] <;> decide
end
theorem zcre : ((List.range 5).all fun q => ((List.range (q + 2)).all fun i => zb2u (q + 2) (zbpy (q + 2)) (toI (pth (q + 2) i))) && !zb2u (q + 2) (zbpy (q + 2)) (toI (pth (q + 2) (q + 2)))) = true:=by decide +kernel
theorem zbk6 : ((List.range 5).all fun q => (List.range (q + 2)).all fun a => decide ((ixL (j5 (q + 2) 0 2) (a : Int)).map (·.To) = some (((a + 1) % (q + 2) : Nat) : Int)) && decide ((j5 (q + 2) 0 2).length = q + 2)) = true:=by decide +kernel
section
variable (k : Nat) (h2 : 2 ≤ k) (h6 : k ≤ 6)
include h2 h6
theorem zca6 (i : Nat) (hi : i < k) : paB (pu k 5 6) (toI (pth k i)) = true:=by
 have h:=zb2z k 5 6 h2 h6 (by decide) (by decide)
 have np : (pu k 5 6).Parties.length = k:=zb68 1 k 0
 have pr : prs (pu k 5 6).Arcs = zbpy k:=zcgy h2 h6
 have t:=zcre
 simp only [List.all_eq_true,List.mem_range,Bool.and_eq_true] at t
 have:=(t (k - 2) (by omega)).1 i (by omega)
 rw [show k - 2 + 2 = k by omega] at this
 rw [zb06 h,np,pr]; exact this
theorem zca7 : paB (pu k 5 6) (toI (pth k k)) = false:=by
 have h:=zb2z k 5 6 h2 h6 (by decide) (by decide)
 have np : (pu k 5 6).Parties.length = k:=zb68 1 k 0
 have pr : prs (pu k 5 6).Arcs = zbpy k:=zcgy h2 h6
 have t:=zcre
 simp only [List.all_eq_true,List.mem_range,Bool.and_eq_true,Bool.not_eq_true'] at t
 have:=(t (k - 2) (by omega)).2
 rw [show k - 2 + 2 = k by omega] at this
 rw [zb06 h,np,pr]; exact this
theorem zb11 (a : Nat) (ha : a < k) : (∃ y,ixL (pu k 5 6).Arcs (a : Int) = some y ∧ y.To = (((a + 1) % k : Nat) : Int)) ∧ (pu k 5 6).Arcs.length = k:=by
 have t:=zbk6
 simp only [List.all_eq_true,List.mem_range,Bool.and_eq_true,decide_eq_true_iff] at t
 have:=t (k - 2) (by omega) a (by omega)
 rw [show k - 2 + 2 = k by omega] at this
 obtain ⟨t1,t2⟩:=this
 obtain ⟨y,hy,e⟩:=Option.map_eq_some_iff.1 t1
 exact ⟨⟨y,hy,e⟩,t2⟩
theorem zb1w (a : Nat) (ha : a < k) (p : List Nat) (b : Bool) (hb : paB (pu k 5 6) (toI p) = b) (hl : p.length < 1000) {r : Option Bool}
 (hr : b = false → r = some false) (ht : b = true → (ixL (toI p) (0 : Int) >>= fun y18 => ixL (pu k 5 6).Arcs (a : Int) >>= fun y20 => if y18 = y20.To then
  ixL (toI p) (IntKind.i64.wrap ((((toI p).length : Nat) : Int) - (1 : Int))) >>= fun y23 => ixL (pu k 5 6).Leaders (0 : Int) >>= fun y25 => if y23 = y25 then
  if (((sgs p).length : Nat) : Int) = (((toI p).length : Nat) : Int) then i9 (pu k 5 6) (a6 p) >>= fun y29 => some y29 else some false else some false else some false) = r) : cq (pu k 5 6) (a : Int) (a6 p) = r:=by
 have h:=zb2z k 5 6 h2 h6 (by decide) (by decide)
 have hw:=zb2r h
 have al:=(zb11 k h2 h6 a ha).2
 have z:=zbzc 0 (by decide)
 unfold cq
 rw [zcf4 _ hw,obz,if_pos (zbxj k h2 h6),if_neg (by omega),if_neg (by rw [al]; omega),zb62 _ hw,obz,if_pos (by rw [zb6x h]; rfl),if_neg (by show ¬ (64 : Int) < ((be 0).size : Nat); rw [z]; decide)]
 show ((some (zbwo 0)) >>= _) = _
 rw [obz,zb6q _ (by show (be 0).size < _; rw [z]; decide),obz,if_pos (show SHA (a6 p).Secret = zbwo 0 from rfl)]
 show (ui (pu k 5 6) (toI p) >>= _) = _
 rw [zb18 _ hw _ (by rw [zb20]; exact hl),obz,hb]
 cases b with
 | false => rw [if_neg (by decide)]; exact (hr rfl).symm
 | true => rw [if_pos rfl]; exact ht rfl
theorem zbyh (i a : Nat) (hi : i < k) (ha : a < k) : cq (pu k 5 6) (a : Int) (a6 (pth k i)) = some (decide ((((a + 1) % k : Nat) : Int) = (((k - i) % k : Nat) : Int))):=by
 have hl : (pth k i).length < 1000:=by rw [zbwt]; omega
 refine zb1w k h2 h6 a ha (pth k i) true (zca6 k h2 h6 i hi) hl (fun h => by cases h) fun _ => ?_
 obtain ⟨⟨y,hy,ey⟩,_⟩:=zb11 k h2 h6 a ha
 rw [zcox k i (by omega),obz,hy,obz,ey]
 by_cases c : (((k - i) % k : Nat) : Int) = (((a + 1) % k : Nat) : Int)
 · have w : IntKind.i64.wrap ((((toI (pth k i)).length : Nat) : Int) - (1 : Int)) = (i : Int):=by
    rw [zb20,zbwt,w64 (by omega) (by omega)]; omega
   rw [if_pos c,w,zbz0 (zcoy k i),obz]
   show ((some (0 : Int)) >>= _) = _
   rw [obz,if_pos (show ((0 : Nat) : Int) = 0 from rfl),if_pos (by rw [zb9w,zb20]),zbrc k h2 h6 _ (zb04 (by omega) i) (by rw [zbwt]; omega) hl,obz,decide_eq_true c.symm]
 · rw [if_neg c,decide_eq_false fun e => c e.symm]
theorem zbyi : cq (pu k 5 6) ((k - 1 : Nat) : Int) (a6 (pth k k)) = some false :=
 zb1w k h2 h6 (k - 1) (by omega) (pth k k) false (zca7 k h2 h6) (by rw [zbwt]; omega) (fun _ => rfl) fun h => by cases h
theorem zbyd (i : Nat) (hi : i < k) : n7 (pu k 5 6) (a6 (pth k i)) (((k - (i + 1)) % k : Nat) : Int) (gv ((k - (i + 1)) % k)) = some (a6 (pth k (i + 1))):=by
 have h:=zb2z k 5 6 h2 h6 (by decide) (by decide)
 have hw:=zb2r h
 have np : (pu k 5 6).Parties.length = k:=zb68 1 k 0
 obtain ⟨q,hq⟩ : ∃ q,q = (k - (i + 1)) % k:=⟨_,rfl⟩
 have qk : q < k:=by rw [hq]; exact Nat.mod_lt _ (by omega)
 have pe : pth k (i + 1) = q :: pth k i:=by rw [pth,hq]
 rw [← hq,pe]
 have pl : (a6 (pth k i)).Path.length = i + 1:=by show (toI (pth k i)).length = _; rw [zb20,zbwt]
 have gl : (a6 (pth k i)).Sigs.length = i + 1:=by show (sgs (pth k i)).length = _; rw [zb9w,zbwt]
 obtain ⟨g,gs,hg⟩ : ∃ g gs,sgs (pth k i) = g :: gs:=by
  cases e : sgs (pth k i) with
  | nil =>
   have : (sgs (pth k i)).length = i + 1:=gl
   rw [e] at this
   cases this
  | cons g gs => exact ⟨g,gs,rfl⟩
 have gz : g.size = 512:=zcgz (pth k i) g (by rw [hg]; simp)
 have g0 : ixL (a6 (pth k i)).Sigs 0 = some g:=by show ixL (sgs (pth k i)) 0 = _; rw [hg]; rfl
 have en : sgs (q :: pth k i) = cj (gv q) 0 g :: sgs (pth k i):=by rw [sgs,hg]; rfl
 have el : n7 (pu k 5 6) (a6 (pth k i)) (q : Int) (gv q) = some ⟨0,be 0,[(q : Int)] ++ toI (pth k i),[cj (gv q) 0 g] ++ sgs (pth k i)⟩:=by
  unfold n7
  rw [zb62 _ hw,obz,if_pos (by rw [zb6x h]; rfl),if_neg (by omega),if_neg (by rw [np]; omega),if_neg (by rw [pl]; omega),if_neg (by rw [gl]; omega),g0,obz,if_pos (by rw [pl]; show (1 + (i + 1)) * 8 ≤ _; omega)]
  show (zbze (gv q) 0 g >>= _) = _
  rw [zbre _ (by rw [zcdk q (by omega)]; decide) 0 g (by rw [gz]; decide),obz,if_pos zcbr,if_pos (by rw [gl]; show (1 + (i + 1)) * 16 ≤ _; omega)]
  rfl
 rw [el,zb5g,en]
 rfl
theorem zcmm (i : Nat) (hi : i < k) : d5 (k : Int) (pu k 5 6) (a6 (pth k i)) (i : Int) (((k - i) % k : Nat) : Int) 0 = some (.ex ()):=by
 have e : (d5 (k : Int) (pu k 5 6) (a6 (pth k i)) (i : Int) (((k - i) % k : Nat) : Int) 0 = some (.ex ()) ∧ ∀ j,j < k → True) ∨ (d5 (k : Int) (pu k 5 6) (a6 (pth k i)) (i : Int) (((k - i) % k : Nat) : Int) 0 = some (.rt false) ∧ ∃ j,j < k ∧ ¬ True):=by
  refine zb48 (f:=fun a => d5 (k : Int) (pu k 5 6) (a6 (pth k i)) (i : Int) (((k - i) % k : Nat) : Int) (a : Int)) ?_ ?_ ?_
  · show d5 (k : Int) (pu k 5 6) (a6 (pth k i)) (i : Int) (((k - i) % k : Nat) : Int) ((k : Nat) : Int) = _
    rw [zc38,eg,if_neg (by omega),obz,LS.go]
  · intro a ha _
    show d5 (k : Int) (pu k 5 6) (a6 (pth k i)) (i : Int) (((k - i) % k : Nat) : Int) (a : Int) = d5 (k : Int) (pu k 5 6) (a6 (pth k i)) (i : Int) (((k - i) % k : Nat) : Int) ((a + 1 : Nat) : Int)
    have t : Int.tmod ((a + 1 : Nat) : Int) (k : Int) = (((a + 1) % k : Nat) : Int):=by rw [Int.tmod_eq_emod_of_nonneg (by omega)]; rfl
    rw [zc38,eg,if_pos (by omega),if_pos (by omega),zbyh k h2 h6 i a hi ha,obz,fi a (by omega),t,if_neg (by simp),obz,LS.go]
  · intro a ha h
    exact absurd trivial h
 rcases e with ⟨e,_⟩ | ⟨_,j,_,h⟩
 · exact e
 · exact absurd trivial h
theorem zb4p (n : Nat) : ∀ i : Nat,n + i = k → jo (k : Int) (pu k 5 6) (a6 (pth k i)) (i : Int) = some (.ex (a6 (pth k k))):=by
 induction n with
 | zero =>
  intro i h
  obtain rfl : i = k:=by omega
  rw [zc37,eh,if_neg (by omega),obz,LS.go]
 | succ n ih =>
  intro i h
  have hi : i < k:=by omega
  have pl : (a6 (pth k i)).Path.length = i + 1:=by show (toI (pth k i)).length = _; rw [zb20,zbwt]
  have w1 : IntKind.i64.wrap ((k : Int) - (i : Int)) = ((k - i : Nat) : Int):=by rw [w64 (by omega) (by omega)]; omega
  have t1 : Int.tmod ((k - i : Nat) : Int) (k : Int) = (((k - i) % k : Nat) : Int):=by rw [Int.tmod_eq_emod_of_nonneg (by omega)]; rfl
  have pk : (k - i) % k < k:=Nat.mod_lt _ (by omega)
  have hd : ixL (a6 (pth k i)).Path (0 : Int) = some (((k - i) % k : Nat) : Int):=zcox k i (by omega)
  have w2 : IntKind.i64.wrap ((((k - i) % k : Nat) : Int) + (k : Int)) = (((k - i) % k + k : Nat) : Int):=by rw [w64 (by omega) (by omega)]; omega
  have w3 : IntKind.i64.wrap ((((k - i) % k + k : Nat) : Int) - 1) = (((k - i) % k + k - 1 : Nat) : Int):=by rw [w64 (by omega) (by omega)]; omega
  have t2 : Int.tmod (((k - i) % k + k - 1 : Nat) : Int) (k : Int) = (((k - (i + 1)) % k : Nat) : Int):=by
   rw [Int.tmod_eq_emod_of_nonneg (by omega)]
   have : ((k - i) % k + k - 1) % k = (k - (i + 1)) % k:=by
    by_cases c : i = 0
    · subst c
      rw [Nat.sub_zero,Nat.mod_self,Nat.zero_add]
    · rw [Nat.mod_eq_of_lt (show k - i < k by omega),show k - i + k - 1 = k - (i + 1) + k by omega,Nat.add_mod_right]
   rw [← this]; rfl
  rw [zc37,eh,if_pos (by omega),if_pos (by omega),pl,fi i (by omega),if_pos rfl,hd,obz,w1,t1,if_pos rfl,zcmm k h2 h6 i hi,obz]
  show ((rh (Int.tmod (IntKind.i64.wrap ((IntKind.i64.wrap ((((k - i) % k : Nat) : Int) + (k : Int))) - (1 : Int))) (k : Int)) >>= _) >>= _) = _
  rw [w2,w3,t2,zbrh _ (by have:=Nat.mod_lt (k - (i + 1)) (show 0 < k by omega); omega),obz,zbyd k h2 h6 i hi,obz,obz,LS.go]
  show jo (k : Int) (pu k 5 6) (a6 (pth k (i + 1))) ((i + 1 : Nat) : Int) = _
  exact ih (i + 1) (by omega)
end
theorem zb4s (n : Int) : ud n = some true:=by
 obtain ⟨m,hm⟩ : ∃ m : Nat,n % 5 = (m : Int):=⟨(n % 5).toNat,by omega⟩
 obtain ⟨k,hk⟩ : ∃ k : Nat,k = m + 2:=⟨_,rfl⟩
 have h2 : 2 ≤ k:=by omega
 have h6 : k ≤ 6:=by omega
 have h:=zb2z k 5 6 h2 h6 (by decide) (by decide)
 have w1 : IntKind.i64.wrap (2 + (m : Int)) = (k : Int):=by rw [w64 (by omega) (by omega)]; omega
 have w2 : IntKind.i64.wrap ((k : Int) + 1) = ((k + 1 : Nat) : Int):=fi k (by omega)
 have w3 : IntKind.i64.wrap ((k : Int) - 1) = ((k - 1 : Nat) : Int):=by rw [w64 (by omega) (by omega)]; omega
 have pl : (a6 (pth k k)).Path.length = k + 1:=by show (toI (pth k k)).length = _; rw [zb20,zbwt]
 have mk:=zbs0 (pu k 5 6) h (zb2r h) rfl rfl (be 0) (gv 0) (by rw [zbzc 0 (by decide)]; decide) (by rw [zcdk 0 (by decide)]; decide)
 have k0 : (⟨0,be 0,[0],[cj (gv 0) 0 (be 0)]⟩ : ah) = a6 (pth k 0):=rfl
 rw [k0] at mk
 unfold ud
 rw [zda5 n 5 (by decide) (by decide),obz,hm,w1,zb0t k 5 6 (by omega) h6,obz,zcql,obz,zcau,obz,mk,obz]
 have lp : jo (k : Int) (pu k 5 6) (a6 (pth k 0)) 0 = some (.ex (a6 (pth k k))):=zb4p k h2 h6 k 0 rfl
 rw [lp,obz]
 show (if (((a6 (pth k k)).Path.length : Nat) : Int) = (IntKind.i64.wrap ((k : Int) + (1 : Int))) then cq (pu k 5 6) (IntKind.i64.wrap ((k : Int) - (1 : Int))) (a6 (pth k k)) >>= _ else _) = _
 rw [w2,w3,pl,if_pos rfl,zbyi k h2 h6,obz,if_neg (by decide),zdfi,obz]
theorem zdhn (a : Int) (_ : Arg.ok a) : Lw G pv [enc a]:=⟨_,zdg4 a true (zb4s a) ⟨[],0⟩ (Nat.le_refl _)⟩
end Go.Proofs.Ytjgpklmkdkkooaa
