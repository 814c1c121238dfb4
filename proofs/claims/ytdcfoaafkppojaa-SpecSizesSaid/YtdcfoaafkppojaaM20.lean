import Derived.Test.YtdcfoaafkppojaaM19
set_option linter.unusedVariables false
set_option linter.unusedSimpArgs false
set_option linter.unusedSectionVars false
open Nat (reduceEqDiff reduceAdd reduceMul reduceLT reduceLeDiff reduceSub)
open Int (reduceToNat reduceNe reduceEq reduceNeg reduceLE)
namespace Go.Proofs.Ytdcfoaafkppojaa
open Go Go.RowKit Sh Ic
def bare (l : List ByteArray) : List ac := l.map fun a => ⟨a,[]⟩
def za1y (l : List ac) : Ob := ⟨dq,l.flatMap ac.cells⟩
theorem partOb_app (l : List ByteArray) (a : ByteArray) : (⟨dq,(bare l).flatMap ac.cells ++ [.str a,.sl []]⟩ : Ob) = za1y (bare (l ++ [a])) := by
 unfold za1y bare; rw [List.map_append,List.flatMap_append]; rfl
theorem za4y (l : List ByteArray) : (bare l).length = l.length := List.length_map ..
def za0e (arcs : List TV) (start delta : Int) (idP n : Nat) : SpB := ⟨⟨#[114,105,110,103]⟩,idP,n,arcs,[.int .i64 0],start,delta⟩
def ring0 (arcs : List TV) (start delta : Int) : Ob := ⟨dj,[.str ⟨#[114,105,110,103]⟩,.slz,.sl arcs,.sl [.int .i64 0],.slz,.int .i64 start,.int .i64 delta]⟩
inductive RingL (arcs : List TV) (start delta : Int) (τ0 τ : TH) (id6 id7 B : Nat) : List ByteArray → Prop
 | nil (ha : τ.at id7 = some (ring0 arcs start delta)) : RingL arcs start delta τ0 τ id6 id7 B []
 | obj (idP : Nat) (l : List ByteArray) (hne : l.length ≠ 0) (h0 : τ0.next ≤ idP) (hB : B ≤ idP) (h6 : id6 < idP) (h1 : idP < id7) (ha : τ.at id7 = some ((za0e arcs start delta idP l.length).ob .slz)) (hp : τ.at idP = some (za1y (bare l))) : RingL arcs start delta τ0 τ id6 id7 B l
section
variable {τ : TH} {k : Nat} {a b : Ob}
theorem zaf4 (hn : τ.next = k) : ((τ.push a).push b).next = k + 2 := by rw [gy,gy,hn]
theorem zbao (hn : τ.next = k) : ((τ.push a).push b).at k = some a := by rw [zaen (by rw [gy]; omega),← hn]; exact zaqg
theorem zban (hn : τ.next = k) : ((τ.push a).push b).at (k + 1) = some b := by rw [← hn,← gy (b := a)]; exact zaqg
theorem two_at {j : Nat} (hj : j < τ.next) : ((τ.push a).push b).at j = τ.at j := by rw [zaen (by rw [gy]; omega),zaen hj]
end
set_option maxHeartbeats 1000000 in
theorem ring_1 (n : Nat) (hn : n ≤ 6) (arcs : List TV) (start delta : Int) (z6 : Ob) (id6 : Nat) (τ0 : TH) (hl0 : τ0.lock ≤ τ0.next) (r : List ByteArray) (h6 : τ0.next ≤ id6) (B : Nat) (Q : TEx → aw) (m : Nat) : ∀ (i : Nat) (l : List ByteArray) (id7 : Nat) (τ : TH),m + i = n → l.length = i → zapp o9 m i l = some r → zadc τ0 τ → RingL arcs start delta τ0 τ id6 id7 B l → τ0.next ≤ id7 → id7 < τ.next → id6 < id7 → τ.at id6 = some z6 → B ≤ τ.next →
 (∀ id7 τ,zadc τ0 τ → RingL arcs start delta τ0 τ id6 id7 B r → τ0.next ≤ id7 → id7 < τ.next → id6 < id7 → τ.at id6 = some z6 → Q (.exit 0) [(0,.int .i64 n),(6,.ptr id6 0),(7,.ptr id7 0),(8,.int .i64 n),(17,.bool false)] [] τ) →
 tW G (.loop [0,6,7,8] zac3) Q [(0,.int .i64 n),(6,.ptr id6 0),(7,.ptr id7 0),(8,.int .i64 (i : Int))] [] τ := by
 induction m with
 | zero =>
  intro i l id7 τ hi hl hr hg hv h07 h7 h67 ha6 hBn hQ
  obtain rfl : i = n := by omega
  injection hr with hr
  subst hr
  have c : ¬ (i : Int) < (i : Int) := by omega
  refine pb fun LQ hnx hr he => ?_
  simp -implicitDefEqProofs only [zac3,zamq,TT,Ic.t,ci,reduceEqDiff,reduceIte,reduceAdd,reduceMul,reduceLT,reduceLeDiff,reduceSub,reduceCtorEq,reduceEq,reduceNe,reduceToNat,Int.reduceLT,reduceLE,reduceNeg,c,he]
  exact hQ _ _ hg hv h07 h7 h67 ha6
 | succ m ih =>
  intro i l id7 τ hi hl hr hg hv h07 h7 h67 ha6 hBn hQ
  obtain ⟨x,hx,hr⟩ := ob hr
  have c : (i : Int) < (n : Int) := by omega
  have w1 : IntKind.i64.wrap ((i : Int) + 1) = ((i + 1 : Nat) : Int) := by rw [wA (by omega) (by omega)]; omega
  have hlk : τ.lock ≤ τ.next := by have := hg.lock; have := hg.next; omega
  have k1 := zaz8 _ _ hx
  have lt1 : ¬ τ.next + 1 < τ.next := by omega
  have l1 : τ.lock ≤ τ.next + 1 := by omega
  have h67n : ¬ id6 = id7 := by omega
  have hw7 : τ.lock ≤ id7 := by have := hg.lock; omega
  refine pb fun LQ hnx hrr he => ?_
  cases hv with
  | nil ha =>
   simp -implicitDefEqProofs only [zac3,zamq,TT,Ic.t,ci,reduceEqDiff,reduceIte,reduceAdd,reduceMul,reduceLT,reduceLeDiff,reduceSub,reduceCtorEq,reduceEq,reduceNe,reduceToNat,Int.reduceLT,reduceLE,reduceNeg,c,w1,hrr,ha,ring0,h7,hlk,hw7,k1]
   refine ⟨by unfold maxLen; omega,G_lift (h := ?_) ..⟩
   simp -implicitDefEqProofs only [TT,Ic.t,ci,reduceEqDiff,reduceIte,reduceAdd,reduceMul,reduceLT,reduceLeDiff,reduceSub,reduceCtorEq,reduceEq,reduceNe,reduceToNat,Int.reduceLT,reduceLE,reduceNeg,ha,ring0,h7,hw7,gy,zaen h7,h67n,lt1,l1,w1,Bool.and_false,Bool.false_eq_true]
   rw [hnx]
   simp -implicitDefEqProofs only [TT,Ic.t,ci,reduceEqDiff,reduceIte,reduceAdd,reduceMul,reduceLT,reduceLeDiff,reduceSub,reduceCtorEq,reduceEq,reduceNe,reduceToNat,Int.reduceLT,reduceLE,reduceNeg,lt1,List.flatMap_cons,List.flatMap_nil,List.append_nil,Bool.and_false,Bool.false_eq_true]
   have g1 := ((hg.put h07 ⟨dj,[]⟩).push (za1y (bare [x]))).push ((za0e arcs start delta τ.next 1).ob .slz)
   have q := ih (i + 1) [x] (τ.next + 1) _ (by omega) (by simp at hl ⊢; omega) hr g1 (.obj τ.next [x] (by simp) hg.next hBn (by omega) (by omega) (zban bo) (zbao bo)) (by have := hg.next; omega) (by rw [zaf4 bo]; omega) (by omega)
    (by rw [two_at (by rw [bo]; omega),o7 (by omega)]; exact ha6) (by first | (rw [zaf4 bo]; omega) | (rw [zaf4 nn]; omega)) hQ
   exact q
  | obj idP l hne h0 hB h6P h1 ha hp =>
   have m1 : l.length + 1 ≤ maxLen := by unfold maxLen; omega
   have m2 : (l.length + 1) * 40 ≤ 140737488355328 := by omega
   have f2 : ((bare l).flatMap ac.cells).length = l.length * 2 := by rw [zafr (k := 2) (fun _ => rfl),za4y]
   have hwP : τ.lock ≤ idP := by have := hg.lock; omega
   have hPn : idP < τ.next := by omega
   have e7 : (τ.put idP ⟨dq,[]⟩).at id7 = some ((za0e arcs start delta idP l.length).ob .slz) := by rw [o7 (by omega)]; exact ha
   simp -implicitDefEqProofs only [zac3,zamq,TT,Ic.t,ci,reduceEqDiff,reduceIte,reduceAdd,reduceMul,reduceLT,reduceLeDiff,reduceSub,reduceCtorEq,reduceEq,reduceNe,reduceToNat,Int.reduceLT,reduceLE,reduceNeg,c,w1,hrr,ha,hp,za1y,za0e,SpB.ob,h7,hlk,hw7,hwP,k1,m1,m2,f2,hne]
   refine G_lift (h := ?_) ..
   simp -implicitDefEqProofs only [TT,Ic.t,ci,reduceEqDiff,reduceIte,reduceAdd,reduceMul,reduceLT,reduceLeDiff,reduceSub,reduceCtorEq,reduceEq,reduceNe,reduceToNat,Int.reduceLT,reduceLE,reduceNeg,e7,za0e,SpB.ob,h7,hw7,gy,zaen h7,h67n,lt1,l1,w1,Bool.and_false,Bool.false_eq_true]
   rw [hnx]
   simp -implicitDefEqProofs only [TT,Ic.t,ci,reduceEqDiff,reduceIte,reduceAdd,reduceMul,reduceLT,reduceLeDiff,reduceSub,reduceCtorEq,reduceEq,reduceNe,reduceToNat,Int.reduceLT,reduceLE,reduceNeg,lt1,List.flatMap_cons,List.flatMap_nil,List.append_nil,Bool.and_false,Bool.false_eq_true]
   rw [partOb_app]
   have g1 := (((hg.put h0 ⟨dq,[]⟩).put h07 ⟨dj,[]⟩).push (za1y (bare (l ++ [x])))).push ((za0e arcs start delta τ.next (l.length + 1)).ob .slz)
   have nn : ((τ.put idP ⟨dq,[]⟩).put id7 ⟨dj,[]⟩).next = τ.next := by rw [bo,bo]
   have q := ih (i + 1) (l ++ [x]) (τ.next + 1) _ (by omega) (by rw [List.length_append,hl]; rfl) hr g1 (.obj τ.next (l ++ [x]) (by simp) hg.next hBn (by omega) (by omega) (by rw [List.length_append]; exact zban nn) (zbao nn)) (by have := hg.next; omega) (by rw [zaf4 nn]; omega) (by omega)
    (by rw [two_at (by rw [nn]; omega),o7 (by omega),o7 (by omega)]; exact ha6) (by first | (rw [zaf4 bo]; omega) | (rw [zaf4 nn]; omega)) hQ
   exact q
theorem zbcx {f : TV → Option TV} : ∀ {l k l' k' : List TV},zaua f l = some l' → zaua f k = some k' → zaua f (l ++ k) = some (l' ++ k')
 | [],k,l',k',h,h2 => by injection h with h; subst h; exact h2
 | v :: r,k,l',k',h,h2 => by
  simp only [zaua] at h
  cases hv : f v with
  | none => rw [hv] at h; cases h
  | some x =>
   rw [hv] at h
   cases hr : zaua f r with
   | none => rw [hr] at h; cases h
   | some y =>
    rw [hr] at h
    injection h with h
    subst h
    have := zbcx hr h2
    simp only [List.cons_append,zaua,hv,this]
theorem tfzL_fm {α : Type} {f : TV → Option TV} {c c' : α → List TV} (h : ∀ x,zaua f ((c x).map TV.rd) = some (c' x)) : ∀ l : List α,zaua f ((l.flatMap c).map TV.rd) = some (l.flatMap c')
 | [] => rfl
 | x :: r => by rw [List.flatMap_cons,List.map_append,List.flatMap_cons]; exact zbcx (h x) (tfzL_fm h r)
theorem fz_list2 {α : Type} {c c' : α → List TV} {k : Nat} {e : α → TV} (hk : k ≠ 0) (hc : ∀ x,(c x).length = k) (hc' : ∀ x,(c' x).length = k) (he : ∀ x,zbgb (c' x) = e x) (τ : TH) (n0 id m : Nat) (t : TypeId) (l : List α) (h0 : n0 ≤ id) (ha : τ.at id = some ⟨t,l.flatMap c⟩) (hl : l.length = m)
 (hf : ∀ x,zaua (zawh τ n0 1) ((c x).map TV.rd) = some (c' x)) : zawh τ n0 2 (.slm id 0 m k) = some (.sl (l.map e)) := by
 subst hl
 have tr : za3f τ id 0 (l.length * k) = some ((l.flatMap c).map TV.rd) := by
  unfold za3f
  rw [ha]
  simp only [Option.bind_some,zafr hc,Nat.zero_add,Nat.le_refl,if_true,List.drop_zero,fm_take hc]
 have n1 : ¬ (k = 0 ∨ id < n0) := by omega
 show (if k = 0 ∨ id < n0 then none else (za3f τ id 0 (l.length * k)).bind fun l' => (zaua (zawh τ n0 1) l').map fun l' => TV.sl (zah6 k l.length l')) = _
 rw [if_neg n1,tr,Option.bind_some,tfzL_fm hf l,Option.map_some,zazi hc' he]
theorem fz_rows (τ : TH) (n0 id m : Nat) (l : List ac) (h0 : n0 ≤ id) (ha : τ.at id = some (zayf l)) (hl : l.length = m) : zawh τ n0 2 (.slm id 0 m 2) = some (.sl (l.map ac.tv)) :=
 fz_list2 (c := zajw) (c' := ac.cells) (by decide) kc2 (fun _ => rfl) (fun _ => rfl) τ n0 id m _ l h0 ha hl fun x => by
  obtain ⟨a,ks⟩ := x
  cases ks <;> rfl
theorem listO_len (f : Int → Option ByteArray) (n : Nat) : ∀ (k : Nat) (l r : List ByteArray),zapp f n k l = some r → r.length = l.length + n := by
 induction n with
 | zero => intro k l r h; injection h with h; subst h; rfl
 | succ n ih => intro k l r h; obtain ⟨x,_,h⟩ := ob h; rw [ih _ _ _ h,List.length_append]; simp; omega
theorem rowsO_len (L : Nat) (rest : List ac) : ∀ (i : Nat) (d r : List ac),za6b L rest i d = some r → r.length = d.length + rest.length := by
 induction rest with
 | nil => intro i d r h; injection h with h; subst h; rfl
 | cons x rest ih => intro i d r h; obtain ⟨ks,_,h⟩ := ob h; rw [ih _ _ _ h,List.length_append]; simp; omega
theorem ring_Ru (n : Nat) (hn1 : 1 ≤ n) (hn : n ≤ 6) (start delta : Int) (al : List af) (accs lr : List ByteArray) (rows : List ac) (has : zaid n 0 2 = some al) (hac : zapp o9 n 0 [] = some accs) (hlr : zapp lockO 1 0 [] = some lr) (hrows : za6b 1 (bare accs) 0 [] = some rows)
 (τ : TH) (hl : τ.lock ≤ τ.next) : Ru G zabv [.int .i64 n,.int .i64 start,.int .i64 delta] τ (.agg (aq.cells ⟨⟨#[114,105,110,103]⟩,rows,al,[0],lr,start,delta⟩)) τ := by
 refine jt fun K hK => ?_
 rw [bx g_L00_Ring (Nat.le_of_ble_eq_true rfl)]
 have l1 : τ.lock ≤ τ.next + 1 := by omega
 have l2 : τ.lock ≤ τ.next + 2 := by omega
 have k1 := za97 _ _ _ _ has
 simp -implicitDefEqProofs only [zamq,TT,Ic.t,ci,reduceEqDiff,reduceIte,reduceAdd,reduceMul,reduceLT,reduceLeDiff,reduceSub,reduceCtorEq,reduceEq,reduceNe,reduceToNat,Int.reduceLT,reduceLE,reduceNeg,hl,l1,l2,k1]
 have c0 : (τ.push ⟨dj,[.str ⟨#[]⟩,.slz,.slz,.slz,.slz,.int .i64 0,.int .i64 0]⟩).next = τ.next + 1 := gy
 refine ring_1 n hn (al.map af.tv) start delta ⟨dj,[.str ⟨#[]⟩,.slz,.slz,.slz,.slz,.int .i64 0,.int .i64 0]⟩ τ.next τ hl accs (Nat.le_refl _) (τ.next + 2) _ n 0 [] (τ.next + 1) _ rfl rfl hac (((zadc.refl τ).push _).push _) (.nil (zban rfl)) (by omega) (by rw [zaf4 rfl]; omega) (by omega) (zbao rfl) (by rw [zaf4 rfl]; omega) ?_
 intro id7 τ1 hg1 hr1 h07 h71 h67 ha6
 have la : accs.length = n := by rw [listO_len _ _ _ _ _ hac]; simp
 cases hr1 with
 | nil ha => simp at la; omega
 | obj idP l hne h0 hB h6P h1 ha hp =>
  have lt7 : ¬ id7 < τ.next + 2 := by omega
  have hL : zaid n 0 2 = some al := has
  have kr := fun (K : aw) (fr : TF) (d : Option Nat) => nw (Γ := G) (d := d) (K := K) (fr := fr) (tk := []) (keyed_Ru (za0e (al.map af.tv) start delta idP accs.length) [] (bare accs) rows lr (by show 1 ≤ 6; omega) (by show accs.length ≤ 20; omega) (by show accs.length = _; rw [za4y]) hlr hrows τ1 (by have := hg1.lock; have := hg1.next; omega) hp (by show idP < _; omega) (by have := hg1.lock; show _ ≤ idP; omega)) (by simp -implicitDefEqProofs only [TT,Ic.t,ci,reduceEqDiff,reduceIte,reduceAdd,reduceMul,reduceLT,reduceLeDiff,reduceSub,reduceCtorEq,reduceEq,reduceNe,reduceToNat,Int.reduceLT,reduceLE,reduceNeg,za0e,h1,show idP < τ1.next by omega])
  simp only [za0e] at kr
  simp -implicitDefEqProofs only [TT,Ic.t,ci,reduceEqDiff,reduceIte,reduceAdd,reduceMul,reduceLT,reduceLeDiff,reduceSub,reduceCtorEq,reduceEq,reduceNe,reduceToNat,Int.reduceLT,reduceLE,reduceNeg,h71,lt7,ha,za0e,SpB.ob,kr]
  have hPn : idP < τ1.next := by omega
  have hb : (τ1.put idP (zayf rows)).at τ.next = some ⟨dj,[.str ⟨#[]⟩,.slz,.slz,.slz,.slz,.int .i64 0,.int .i64 0]⟩ := by rw [o7 (by omega)]; exact ha6
  refine G_stlift (hz := rfl) (hb := hb) (hc := ⟨by show τ1.lock ≤ _; have := hg1.lock; omega,by simp⟩) (hx := fun v e => by cases e) (h := ?_) ..
  obtain ⟨τ2,e2⟩ : ∃ τ2,τ2 = (τ1.put idP (zayf rows)).put τ.next ⟨dj,[]⟩ := ⟨_,rfl⟩
  have n2 : τ2.next = τ1.next := by rw [e2,bo,bo]
  have hg2 : zadc τ τ2 := by rw [e2]; exact (hg1.put (by omega) _).put (Nat.le_refl _) _
  have aP : τ2.at idP = some (zayf rows) := by rw [e2,o7 (by omega)]; exact zao7 hPn
  rw [← e2]
  have e3 : (τ1.put idP (zayf rows)).next = τ2.next := by rw [n2,bo]
  have lk2 : τ2.lock ≤ τ2.next := by have := hg2.lock; have := hg2.next; omega
  have hP2 : idP < τ2.next + 1 := by omega
  rw [e3]
  have rl : rows.length = accs.length := by rw [rowsO_len _ _ _ _ _ hrows,za4y]; simp
  have fr : ∀ x,zawh (τ2.push x) τ.next 2 (.slm idP 0 accs.length 2) = some (.sl (rows.map ac.tv)) := fun x => fz_rows _ _ _ _ _ h0 (by rw [zaen (by omega)]; exact aP) rl
  have cx : ∀ x,(τ2.push x).cut τ.next = τ := fun x => (hg2.push x).cut
  simp -implicitDefEqProofs only [TT,Ic.t,ci,reduceEqDiff,reduceIte,reduceAdd,reduceMul,reduceLT,reduceLeDiff,reduceSub,reduceCtorEq,reduceEq,reduceNe,reduceToNat,Int.reduceLT,reduceLE,reduceNeg,lk2,hP2,fr,cx]
  exact hK
noncomputable def zabq (n start delta : Int) : Option aq := if 1 ≤ n ∧ n ≤ 6 then
 zaid n 0 2 >>= fun al =>
 zapp o9 n.toNat 0 [] >>= fun accs =>
 zapp lockO 1 0 [] >>= fun lr =>
 za6b 1 (bare accs) 0 [] >>= fun rows =>
 some ⟨⟨#[114,105,110,103]⟩,rows,al,[0],lr,start,delta⟩ else none
theorem zawf (p1 p2 p3 : Int) (r : aq) (h : zabq p1 p2 p3 = some r) (lk : Bool) (d : Option Nat) (K : aw) (fr : TF) (tk : TK) (τ : TH) (hl : τ.lock ≤ τ.next) : fo G lk zabv [.int .i64 p1,.int .i64 p2,.int .i64 p3] d K fr tk τ = K (gc fr d (.agg (aq.cells r))) tk τ := by
 obtain ⟨⟨h1,h2⟩,h⟩ := ifS h
 obtain ⟨al,a1,h⟩ := ob h
 obtain ⟨accs,a2,h⟩ := ob h
 obtain ⟨lr,a3,h⟩ := ob h
 obtain ⟨rows,a4,h⟩ := ob h
 injection h with h
 subst h
 obtain ⟨n,rfl⟩ : ∃ n : Nat,p1 = (n : Int) := ⟨p1.toNat,by omega⟩
 have hr := fun τ hl => ring_Ru n (by omega) (by omega) p2 p3 al accs lr rows a1 a2 a3 a4 τ hl
 exact bn (hr _ hl) (hr _ (Nat.le_refl _)) (by simp -implicitDefEqProofs only [TT,Ic.t,ci,reduceEqDiff,reduceIte,reduceAdd,reduceLT,reduceCtorEq,reduceToNat])
end Go.Proofs.Ytdcfoaafkppojaa
open Nat (reduceEqDiff reduceAdd reduceLT)
open Int (reduceToNat reduceEq)
namespace Go.Proofs.Ytdcfoaafkppojaa
open Go Go.RowKit Sh Ic
noncomputable def tm (p1 : ByteArray) : Option Bool :=
 if (1 : Int) ≤ ((p1.size : Nat) : Int) then
  some (decide (((p1.size : Nat) : Int) ≤ (16 : Int)))
 else
 some false
theorem zaqs (p1 : ByteArray) (r : Bool) (h : tm p1 = some r) (τ : TH) (hl : τ.lock ≤ τ.next) : Ru G ub [.str p1] τ (.bool r) τ := by
 refine jt fun K hK => ?_
 rw [bx zbbi (Nat.le_of_ble_eq_true rfl)]
 unfold tm at h
 by_cases c1 : (1 : Int) ≤ ((p1.size : Nat) : Int)
 · rw [if_pos c1] at h
   injection h with h; subst h
   simp -implicitDefEqProofs only [zaz2,TT,Ic.t,ci,reduceEqDiff,reduceIte,reduceAdd,reduceLT,reduceCtorEq,reduceToNat,hl,c1,CL,LTN]
   exact hK
 rw [if_neg c1] at h
 injection h with h; subst h
 simp -implicitDefEqProofs only [zaz2,TT,Ic.t,ci,reduceEqDiff,reduceIte,reduceAdd,reduceLT,reduceCtorEq,reduceToNat,hl,c1,CL,LTN]
 exact hK
theorem zaio (p1 : ByteArray) (r : Bool) (h : tm p1 = some r) (lk : Bool) (d : Option Nat) (K : aw) (fr : TF) (tk : TK) (τ : TH) (hl : τ.lock ≤ τ.next) : fo G lk ub [.str p1] d K fr tk τ = K (gc fr d (.bool r)) tk τ :=
 bn (zaqs p1 r h τ  hl) (zaqs p1 r h (τ.locked τ.next)  (Nat.le_refl _) ) (by simp -implicitDefEqProofs only [TT,Ic.t,ci,reduceEqDiff,reduceIte,reduceAdd,reduceLT,reduceCtorEq,reduceToNat,hl,CL,LTN])
noncomputable def nj (p1 : Int) (p2 : Int) (p3 : Int) : Option Bool :=
 if p2 ≤ p1 then
  some (decide (p1 ≤ p3))
 else
 some false
theorem zax4 (p1 : Int) (p2 : Int) (p3 : Int) (r : Bool) (h : nj p1 p2 p3 = some r) (τ : TH) (hl : τ.lock ≤ τ.next) : Ru G nu [.int .i64 p1,.int .i64 p2,.int .i64 p3] τ (.bool r) τ := by
 refine jt fun K hK => ?_
 rw [bx g_spec_in (Nat.le_of_ble_eq_true rfl)]
 unfold nj at h
 by_cases c1 : p2 ≤ p1
 · rw [if_pos c1] at h
   injection h with h; subst h
   simp -implicitDefEqProofs only [za93,TT,Ic.t,ci,reduceEqDiff,reduceIte,reduceAdd,reduceLT,reduceCtorEq,reduceToNat,hl,c1,CL,LTN]
   exact hK
 rw [if_neg c1] at h
 injection h with h; subst h
 simp -implicitDefEqProofs only [za93,TT,Ic.t,ci,reduceEqDiff,reduceIte,reduceAdd,reduceLT,reduceCtorEq,reduceToNat,hl,c1,CL,LTN]
 exact hK
theorem pc (p1 : Int) (p2 : Int) (p3 : Int) (r : Bool) (h : nj p1 p2 p3 = some r) (lk : Bool) (d : Option Nat) (K : aw) (fr : TF) (tk : TK) (τ : TH) (hl : τ.lock ≤ τ.next) : fo G lk nu [.int .i64 p1,.int .i64 p2,.int .i64 p3] d K fr tk τ = K (gc fr d (.bool r)) tk τ :=
 bn (zax4 p1 p2 p3 r h τ  hl) (zax4 p1 p2 p3 r h (τ.locked τ.next)  (Nat.le_refl _) ) (by simp -implicitDefEqProofs only [TT,Ic.t,ci,reduceEqDiff,reduceIte,reduceAdd,reduceLT,reduceCtorEq,reduceToNat,hl,CL,LTN])
noncomputable def vt (p1 : ByteArray) (p2 : Int) : Option Bool :=
 some (decide (¬ (((p1.size : Nat) : Int) = p2)))
theorem zajk (p1 : ByteArray) (p2 : Int) (r : Bool) (h : vt p1 p2 = some r) (τ : TH) (o0 : Nat) (hl : τ.lock ≤ τ.next) (ha0 : τ.at o0 = some ⟨uq,[.int .i64 p2]⟩) (hi0 : o0 < τ.next) : Ru G ip [.str p1,.ptr o0 0] τ (.bool r) τ := by
 refine jt fun K hK => ?_
 rw [bx za0l (Nat.le_of_ble_eq_true rfl)]
 unfold vt at h
 injection h with h; subst h
 simp -implicitDefEqProofs only [za0x,TT,Ic.t,ci,reduceEqDiff,reduceIte,reduceAdd,reduceLT,reduceCtorEq,reduceToNat,hl,ha0,hi0,CL,LTN]
 exact hK
theorem zawj (p1 : ByteArray) (p2 : Int) (r : Bool) (h : vt p1 p2 = some r) (lk : Bool) (d : Option Nat) (K : aw) (fr : TF) (tk : TK) (τ : TH) (o0 : Nat) (hl : τ.lock ≤ τ.next) (ha0 : τ.at o0 = some ⟨uq,[.int .i64 p2]⟩) (hi0 : o0 < τ.next) : fo G lk ip [.str p1,.ptr o0 0] d K fr tk τ = K (gc fr d (.bool r)) tk τ :=
 bn (zajk p1 p2 r h τ o0 hl ha0 hi0) (zajk p1 p2 r h (τ.locked τ.next) o0 (Nat.le_refl _) (by rw [za0w]; exact ha0) hi0) (by simp -implicitDefEqProofs only [TT,Ic.t,ci,reduceEqDiff,reduceIte,reduceAdd,reduceLT,reduceCtorEq,reduceToNat,hl,ha0,hi0,CL,LTN])
noncomputable def bg (v0 : (List ByteArray)) (v1 : Int) (v2 : Int) (v3 : Int) : Option (LS (Int) (LX (Unit) (Int))) :=
 if v3 < v2 then
  ixL v0 v3 >>= fun y2 =>
  vt y2 v1 >>= fun y4 =>
  if y4 = true then
   some (.dn (.rt v3))
  else
  some (.nx (IntKind.i64.wrap (v3 + (1 : Int))))
 else
 some (.dn (.ex ()))
noncomputable def cp (v0 : (List ByteArray)) (v1 : Int) (v2 : Int) (v3 : Int) : Option (LX (Unit) (Int)) := sd (fun st => bg v0 v1 v2 st) v3
theorem mc (v0 : (List ByteArray)) (v1 : Int) (v2 : Int) (v3 : Int) : cp v0 v1 v2 v3 = bg v0 v1 v2 v3 >>= LS.go (fun st => cp v0 v1 v2 st) := gw (fun st => bg v0 v1 v2 st) v3
def fe (v0 : (List ByteArray)) (v1 : Int) (v2 : Int) (v3 : Int) (r : LX (Unit) (Int)) : Prop := ∀ (τ : TH) (o0 : Nat) (hl : τ.lock ≤ τ.next) (ha0 : τ.at o0 = some ⟨uq,[.int .i64 v1]⟩) (hi0 : o0 < τ.next) (Q : TEx → aw) (hQ0 : ∀ v : Unit,r = (.ex v) → ∀ (fr : TF) (tk2 : TK) (τ2 : TH),tk2.take 0 = [] → τ2.cut τ.next = τ → Q (.exit 0) fr tk2 τ2) (hQ1 : ∀ v : Int,r = (.rt v) → ∀ (tk2 : TK) (τ2 : TH),τ2.cut τ.next = τ → Q .ret [(4,.int .i64 v)] tk2 τ2) ,tW G (.loop [0,1,7,8] d7) Q [(0,.sl (List.map TV.str v0)),(1,.func ip [] [.ptr o0 0]),(7,.int .i64 v2),(8,.int .i64 v3)] [] τ
theorem u5 (v0 : (List ByteArray)) (v1 : Int) (v2 : Int) (v3 : Int) (r : LX (Unit) (Int)) (h : cp v0 v1 v2 v3 = some r) : fe v0 v1 v2 v3 r := by
 refine ff (f := fun st => bg v0 v1 v2 st) (P := fun st r => ∀ (v3 : Int),v3 = st → fe v0 v1 v2 v3 r) ?_ h v3 rfl
 clear h r v3
 intro st o h r ih v3 hst τ o0  hl ha0 hi0 Q hQ0 hQ1
 subst hst
 have h : bg v0 v1 v2 v3 = some o := h
 unfold bg at h
 refine pb fun LQ hn hr he => ?_
 by_cases c1 : v3 < v2
 · rw [if_pos c1] at h
   obtain ⟨y2,hy2,h⟩ := ob h
   have f3 := dd hy2
   have f3a := (f3.2.2 TV.str).1
   have f3b := (f3.2.2 TV.str).2
   try simp only [CL,MC,reduceToNat] at f3 f3a f3b
   obtain ⟨y4,hy4,h⟩ := ob h
   have k5 := zawj y2 v1 _ hy4
   try simp only [CL,MC,reduceToNat] at k5
   by_cases c6 : y4 = true
   · rw [if_pos c6] at h
     injection h with h; subst h
     obtain rfl : _ = r := ih
     simp -implicitDefEqProofs only [d7,di,TT,Ic.t,ci,reduceEqDiff,reduceIte,reduceAdd,reduceLT,reduceCtorEq,reduceToNat,hl,ha0,hi0,he,hr,c1,f3.1,f3.2.1,f3a,f3b,k5,c6,CL,LTN]
     exact hQ1 v3 rfl  _ _  (by first | exact kd (Nat.le_refl _) | (simp -implicitDefEqProofs only [TT,Ic.t,ci,reduceEqDiff,reduceIte,reduceAdd,reduceLT,reduceCtorEq,reduceToNat,hl,ha0,hi0,c1,f3.1,f3.2.1,f3a,f3b,k5,c6,CL,LTN]))
   rw [if_neg c6] at h
   have c6 := Bool.eq_false_iff.2 c6
   injection h with h; subst h
   have ih := ih (IntKind.i64.wrap (v3 + (1 : Int))) rfl
   unfold fe at ih
   simp -implicitDefEqProofs only [d7,di,TT,Ic.t,ci,reduceEqDiff,reduceIte,reduceAdd,reduceLT,reduceCtorEq,reduceToNat,hl,ha0,hi0,c1,f3.1,f3.2.1,f3a,f3b,k5,c6,CL,LTN]
   rw [hn]
   simp -implicitDefEqProofs only [TT,Ic.t,ci,reduceEqDiff,reduceIte,reduceAdd,reduceLT,reduceCtorEq,reduceToNat,hl,ha0,hi0,c1,f3.1,f3.2.1,f3a,f3b,k5,c6,CL,LTN]
   exact ih  τ o0   (by first | assumption | (simp only [ag,ak]; assumption)) (by simp -implicitDefEqProofs only [TT,Ic.t,ci,reduceEqDiff,reduceIte,reduceAdd,reduceLT,reduceCtorEq,reduceToNat,hl,ha0,hi0,c1,f3.1,f3.2.1,f3a,f3b,k5,c6,CL,LTN]) (by first | assumption | (simp only [ag,ak]; assumption)) Q hQ0 hQ1
 rw [if_neg c1] at h
 injection h with h; subst h
 obtain rfl : _ = r := ih
 simp -implicitDefEqProofs only [d7,di,TT,Ic.t,ci,reduceEqDiff,reduceIte,reduceAdd,reduceLT,reduceCtorEq,reduceToNat,hl,ha0,hi0,he,hr,c1,CL,LTN]
 exact hQ0 () rfl  _ _ _   (by first | rfl | (simp -implicitDefEqProofs only [TT,Ic.t,ci,reduceEqDiff,reduceIte,reduceAdd,reduceLT,reduceCtorEq,reduceToNat,hl,ha0,hi0,c1,CL,LTN])) (by first | exact kd (Nat.le_refl _) | (simp -implicitDefEqProofs only [TT,Ic.t,ci,reduceEqDiff,reduceIte,reduceAdd,reduceLT,reduceCtorEq,reduceToNat,hl,ha0,hi0,c1,CL,LTN]))
noncomputable def ei (p1 : (List ByteArray)) (p2 : Int) : Option Int :=
 cp p1 p2 ((p1.length : Nat) : Int) (0 : Int) >>= fun y1 =>
 match y1 with
 | .ex w2 =>
  some (-1 : Int)
 | .rt w4 =>
  some w4
theorem n7 (p1 : (List ByteArray)) (p2 : Int) (r : Int) (h : ei p1 p2 = some r) (τ : TH) (o0 : Nat) (hl : τ.lock ≤ τ.next) (ha0 : τ.at o0 = some ⟨uq,[.int .i64 p2]⟩) (hi0 : o0 < τ.next) : Ru G dk [.sl (List.map TV.str p1),.func ip [] [.ptr o0 0]] τ (.int .i64 r) τ := by
 refine jt fun K hK => ?_
 rw [bx zaav (Nat.le_of_ble_eq_true rfl)]
 unfold ei at h
 obtain ⟨y1,hy1,h⟩ := ob h
 simp -implicitDefEqProofs only [di,TT,Ic.t,ci,reduceEqDiff,reduceIte,reduceAdd,reduceLT,reduceCtorEq,reduceToNat,hl,ha0,hi0,CL,LTN]
 have Sy1 := u5 p1 p2 ((p1.length : Nat) : Int) (0 : Int) y1 hy1
 unfold fe at Sy1
 refine Sy1 _ o0 (by first | assumption | omega | (simp only [ag,ap,ak,bb]; omega)) (by simp -implicitDefEqProofs only [TT,Ic.t,ci,reduceEqDiff,reduceIte,reduceAdd,reduceLT,reduceCtorEq,reduceToNat,hl,ha0,hi0,CL,LTN]) (by first | assumption | omega | (simp only [ag,ap,ak,bb]; omega)) _ ?_ ?_
 · intro w2 e frq3 tkq3 τq3 htq3 hcq3
   subst e
   simp only at h
   have hcq3 := ga (n := τ.next) hcq3 (by first | omega | (simp only [ag,ap]; omega))
   try simp only [List.take_succ_cons,List.take_zero,List.take_nil,CL] at htq3
   try simp -implicitDefEqProofs only [TT,Ic.t,ci,reduceEqDiff,reduceIte,reduceAdd,reduceLT,reduceCtorEq,reduceToNat,hl,ha0,hi0,CL,LTN] at hcq3
   injection h with h; subst h
   simp -implicitDefEqProofs only [di,TT,Ic.t,ci,reduceEqDiff,reduceIte,reduceAdd,reduceLT,reduceCtorEq,reduceToNat,hl,ha0,hi0,htq3,hcq3,CL,LTN]
   exact hK
 intro w4 e tkq5 τq5 hcq5
 subst e
 simp only at h
 have hcq5 := ga (n := τ.next) hcq5 (by first | omega | (simp only [ag,ap]; omega))
 try simp -implicitDefEqProofs only [TT,Ic.t,ci,reduceEqDiff,reduceIte,reduceAdd,reduceLT,reduceCtorEq,reduceToNat,hl,ha0,hi0,CL,LTN] at hcq5
 injection h with h; subst h
 simp -implicitDefEqProofs only [di,TT,Ic.t,ci,reduceEqDiff,reduceIte,reduceAdd,reduceLT,reduceCtorEq,reduceToNat,hl,ha0,hi0,hcq5,CL,LTN]
 exact hK
theorem zv (p1 : (List ByteArray)) (p2 : Int) (r : Int) (h : ei p1 p2 = some r) (lk : Bool) (d : Option Nat) (K : aw) (fr : TF) (tk : TK) (τ : TH) (o0 : Nat) (hl : τ.lock ≤ τ.next) (ha0 : τ.at o0 = some ⟨uq,[.int .i64 p2]⟩) (hi0 : o0 < τ.next) : fo G lk dk [.sl (List.map TV.str p1),.func ip [] [.ptr o0 0]] d K fr tk τ = K (gc fr d (.int .i64 r)) tk τ :=
 bn (n7 p1 p2 r h τ o0 hl ha0 hi0) (n7 p1 p2 r h (τ.locked τ.next) o0 (Nat.le_refl _) (by rw [za0w]; exact ha0) hi0) (by simp -implicitDefEqProofs only [TT,Ic.t,ci,reduceEqDiff,reduceIte,reduceAdd,reduceLT,reduceCtorEq,reduceToNat,hl,ha0,hi0,CL,LTN])
noncomputable def cq (p1 : (List ByteArray)) (p2 : Int) : Option Bool :=
 ei p1 p2 >>= fun y1 =>
 some (decide ((0 : Int) ≤ y1))
theorem mm (p1 : (List ByteArray)) (p2 : Int) (r : Bool) (h : cq p1 p2 = some r) (τ : TH) (o0 : Nat) (hl : τ.lock ≤ τ.next) (ha0 : τ.at o0 = some ⟨uq,[.int .i64 p2]⟩) (hi0 : o0 < τ.next) : Ru G cw [.sl (List.map TV.str p1),.func ip [] [.ptr o0 0]] τ (.bool r) τ := by
 refine jt fun K hK => ?_
 rw [bx x8 (Nat.le_of_ble_eq_true rfl)]
 unfold cq at h
 obtain ⟨y1,hy1,h⟩ := ob h
 have k2 := zv p1 p2 _ hy1
 try simp only [CL,MC,reduceToNat] at k2
 injection h with h; subst h
 simp -implicitDefEqProofs only [yf,TT,Ic.t,ci,reduceEqDiff,reduceIte,reduceAdd,reduceLT,reduceCtorEq,reduceToNat,hl,ha0,hi0,k2,CL,LTN]
 exact hK
theorem u6 (p1 : (List ByteArray)) (p2 : Int) (r : Bool) (h : cq p1 p2 = some r) (lk : Bool) (d : Option Nat) (K : aw) (fr : TF) (tk : TK) (τ : TH) (o0 : Nat) (hl : τ.lock ≤ τ.next) (ha0 : τ.at o0 = some ⟨uq,[.int .i64 p2]⟩) (hi0 : o0 < τ.next) : fo G lk cw [.sl (List.map TV.str p1),.func ip [] [.ptr o0 0]] d K fr tk τ = K (gc fr d (.bool r)) tk τ :=
 bn (mm p1 p2 r h τ o0 hl ha0 hi0) (mm p1 p2 r h (τ.locked τ.next) o0 (Nat.le_refl _) (by rw [za0w]; exact ha0) hi0) (by simp -implicitDefEqProofs only [TT,Ic.t,ci,reduceEqDiff,reduceIte,reduceAdd,reduceLT,reduceCtorEq,reduceToNat,hl,ha0,hi0,CL,LTN])
noncomputable def tj (p1 : (List ByteArray)) (p2 : Int) (p3 : Int) : Option Bool :=
 if ((p1.length : Nat) : Int) = p2 then
  cq p1 p3 >>= fun y2 =>
  some (!y2)
 else
 some false
theorem zam5 (p1 : (List ByteArray)) (p2 : Int) (p3 : Int) (r : Bool) (h : tj p1 p2 p3 = some r) (τ : TH) (hl : τ.lock ≤ τ.next) : Ru G ua [.sl (List.map TV.str p1),.int .i64 p2,.int .i64 p3] τ (.bool r) τ := by
 refine jt fun K hK => ?_
 rw [bx za77 (Nat.le_of_ble_eq_true rfl)]
 unfold tj at h
 by_cases c1 : ((p1.length : Nat) : Int) = p2
 · rw [if_pos c1] at h
   obtain ⟨y2,hy2,h⟩ := ob h
   have k3 := u6 p1 p3 _ hy2
   try simp only [CL,MC,reduceToNat] at k3
   injection h with h; subst h
   simp -implicitDefEqProofs only [zawb,TT,Ic.t,ci,reduceEqDiff,reduceIte,reduceAdd,reduceLT,reduceCtorEq,reduceToNat,hl,eq_true c1,k3,CL,LTN]
   exact hK
 rw [if_neg c1] at h
 injection h with h; subst h
 simp -implicitDefEqProofs only [zawb,TT,Ic.t,ci,reduceEqDiff,reduceIte,reduceAdd,reduceLT,reduceCtorEq,reduceToNat,hl,c1,CL,LTN]
 exact hK
theorem zam6 (p1 : (List ByteArray)) (p2 : Int) (p3 : Int) (r : Bool) (h : tj p1 p2 p3 = some r) (lk : Bool) (d : Option Nat) (K : aw) (fr : TF) (tk : TK) (τ : TH) (hl : τ.lock ≤ τ.next) : fo G lk ua [.sl (List.map TV.str p1),.int .i64 p2,.int .i64 p3] d K fr tk τ = K (gc fr d (.bool r)) tk τ :=
 bn (zam5 p1 p2 p3 r h τ  hl) (zam5 p1 p2 p3 r h (τ.locked τ.next)  (Nat.le_refl _) ) (by simp -implicitDefEqProofs only [TT,Ic.t,ci,reduceEqDiff,reduceIte,reduceAdd,reduceLT,reduceCtorEq,reduceToNat,hl,CL,LTN])
noncomputable def zaeq (p1 : af) (p2 : Int) : Option Bool :=
 nj p1.From (0 : Int) (IntKind.i64.wrap (p2 - (1 : Int))) >>= fun y1 =>
 if y1 = true then
  nj p1.To (0 : Int) (IntKind.i64.wrap (p2 - (1 : Int))) >>= fun y4 =>
  if y4 = true then
   if p1.From = p1.To then
    some false
   else
   nj p1.Ledger (0 : Int) (3 : Int) >>= fun y8 =>
   if y8 = true then
    tm p1.Asset >>= fun y11 =>
    if y11 = true then
     nj p1.Amount (1 : Int) (1125899906842624 : Int) >>= fun y14 =>
     some y14
    else
    some false
   else
   some false
  else
  some false
 else
 some false
theorem zau6 (p1 : af) (p2 : Int) (r : Bool) (h : zaeq p1 p2 = some r) (τ : TH) (hl : τ.lock ≤ τ.next) : Ru G zaey [.agg [.int .i64 p1.From,.int .i64 p1.To,.int .i64 p1.Ledger,.str p1.Asset,.int .i64 p1.Amount],.int .i64 p2] τ (.bool r) τ := by
 refine jt fun K hK => ?_
 rw [bx g_spec_arc (Nat.le_of_ble_eq_true rfl)]
 unfold zaeq at h
 obtain ⟨y1,hy1,h⟩ := ob h
 have k2 := pc p1.From (0 : Int) (IntKind.i64.wrap (p2 - (1 : Int))) _ hy1
 try simp only [CL,MC,reduceToNat] at k2
 by_cases c3 : y1 = true
 · rw [if_pos c3] at h
   obtain ⟨y4,hy4,h⟩ := ob h
   have k5 := pc p1.To (0 : Int) (IntKind.i64.wrap (p2 - (1 : Int))) _ hy4
   try simp only [CL,MC,reduceToNat] at k5
   by_cases c6 : y4 = true
   · rw [if_pos c6] at h
     by_cases c7 : p1.From = p1.To
     · rw [if_pos c7] at h
       injection h with h; subst h
       simp -implicitDefEqProofs only [zaew,TT,Ic.t,ci,reduceEqDiff,reduceIte,reduceAdd,reduceLT,reduceCtorEq,reduceToNat,hl,k2,c3,k5,c6,eq_true c7,CL,LTN]
       first | exact hK | (simp only [hl,k2,c3,k5,c6,eq_true c7,CL] at hK; exact hK)
     rw [if_neg c7] at h
     obtain ⟨y8,hy8,h⟩ := ob h
     have k9 := pc p1.Ledger (0 : Int) (3 : Int) _ hy8
     try simp only [CL,MC,reduceToNat] at k9
     by_cases c10 : y8 = true
     · rw [if_pos c10] at h
       obtain ⟨y11,hy11,h⟩ := ob h
       have k12 := zaio p1.Asset _ hy11
       try simp only [CL,MC,reduceToNat] at k12
       by_cases c13 : y11 = true
       · rw [if_pos c13] at h
         obtain ⟨y14,hy14,h⟩ := ob h
         have k15 := pc p1.Amount (1 : Int) (1125899906842624 : Int) _ hy14
         try simp only [CL,MC,reduceToNat] at k15
         injection h with h; subst h
         simp -implicitDefEqProofs only [zaew,TT,Ic.t,ci,reduceEqDiff,reduceIte,reduceAdd,reduceLT,reduceCtorEq,reduceToNat,hl,k2,c3,k5,c6,c7,k9,c10,k12,c13,k15,CL,LTN]
         first | exact hK | (simp only [hl,k2,c3,k5,c6,c7,k9,c10,k12,c13,k15,CL] at hK; exact hK)
       rw [if_neg c13] at h
       have c13 := Bool.eq_false_iff.2 c13
       injection h with h; subst h
       simp -implicitDefEqProofs only [zaew,TT,Ic.t,ci,reduceEqDiff,reduceIte,reduceAdd,reduceLT,reduceCtorEq,reduceToNat,hl,k2,c3,k5,c6,c7,k9,c10,k12,c13,CL,LTN]
       first | exact hK | (simp only [hl,k2,c3,k5,c6,c7,k9,c10,k12,c13,CL] at hK; exact hK)
     rw [if_neg c10] at h
     have c10 := Bool.eq_false_iff.2 c10
     injection h with h; subst h
     simp -implicitDefEqProofs only [zaew,TT,Ic.t,ci,reduceEqDiff,reduceIte,reduceAdd,reduceLT,reduceCtorEq,reduceToNat,hl,k2,c3,k5,c6,c7,k9,c10,CL,LTN]
     first | exact hK | (simp only [hl,k2,c3,k5,c6,c7,k9,c10,CL] at hK; exact hK)
   rw [if_neg c6] at h
   have c6 := Bool.eq_false_iff.2 c6
   injection h with h; subst h
   simp -implicitDefEqProofs only [zaew,TT,Ic.t,ci,reduceEqDiff,reduceIte,reduceAdd,reduceLT,reduceCtorEq,reduceToNat,hl,k2,c3,k5,c6,CL,LTN]
   first | exact hK | (simp only [hl,k2,c3,k5,c6,CL] at hK; exact hK)
 rw [if_neg c3] at h
 have c3 := Bool.eq_false_iff.2 c3
 injection h with h; subst h
 simp -implicitDefEqProofs only [zaew,TT,Ic.t,ci,reduceEqDiff,reduceIte,reduceAdd,reduceLT,reduceCtorEq,reduceToNat,hl,k2,c3,CL,LTN]
 first | exact hK | (simp only [hl,k2,c3,CL] at hK; exact hK)
theorem za51 (p1 : af) (p2 : Int) (r : Bool) (h : zaeq p1 p2 = some r) (lk : Bool) (d : Option Nat) (K : aw) (fr : TF) (tk : TK) (τ : TH) (hl : τ.lock ≤ τ.next) : fo G lk zaey [.agg [.int .i64 p1.From,.int .i64 p1.To,.int .i64 p1.Ledger,.str p1.Asset,.int .i64 p1.Amount],.int .i64 p2] d K fr tk τ = K (gc fr d (.bool r)) tk τ :=
 bn (zau6 p1 p2 r h τ  hl) (zau6 p1 p2 r h (τ.locked τ.next)  (Nat.le_refl _) ) (by simp -implicitDefEqProofs only [TT,Ic.t,ci,reduceEqDiff,reduceIte,reduceAdd,reduceLT,reduceCtorEq,reduceToNat,hl,CL,LTN])
open Go Go.RowKit Sh Ic
def oq (l : List ByteArray) : Option Bool := if l.length ≤ 140737488355328 ∧ ∀ x ∈ l,x.size ≤ 140737488355328 then some (decide l.Nodup) else none
theorem zamr (p1 : List ByteArray) (r : Bool) (h : oq p1 = some r) (lk : Bool) (d : Option Nat) (K : aw) (fr : TF) (tk : TK) (τ : TH) (hl : τ.lock ≤ τ.next) : fo G lk g9 [.sl (List.map TV.str p1)] d K fr tk τ = K (gc fr d (.bool r)) tk τ := by
 unfold oq at h
 split at h
 · rename_i hc
   injection h with h
   subst h
   have hr : ∀ τ,Ru G g9 [.sl (p1.map TV.str)] τ (.bool (decide p1.Nodup)) τ := fun τ => zaz5 zatd (by
    have := zaw7 (key := keyS) (f := TV.str) (g := id) p1 (fun b hb => by show (if b.size ≤ 140737488355328 then some b else none) = some b; rw [if_pos (hc.2 b hb)])
    have hl : (p1.map TV.str).length ≤ 140737488355328 := by rw [List.length_map]; exact hc.1
    simp only [onceS,za3u,TV.list,if_pos hl,this,Option.map_some,List.map_id])
   exact bn (hr _) (hr _) (by simp -implicitDefEqProofs only [TT,Ic.t,Ic.ci,Nat.reduceEqDiff,reduceIte,Nat.reduceAdd,Nat.reduceLT,reduceCtorEq,Int.reduceToNat])
 · cases h
def z0 (l : List Int) : Option Bool := if l.length ≤ 140737488355328 ∧ ∀ x ∈ l,zanc x = true then some (decide l.Nodup) else none
theorem zauf (p1 : List Int) (r : Bool) (h : z0 p1 = some r) (lk : Bool) (d : Option Nat) (K : aw) (fr : TF) (tk : TK) (τ : TH) (hl : τ.lock ≤ τ.next) : fo G lk l7 [.sl (List.map (TV.int .i64) p1)] d K fr tk τ = K (gc fr d (.bool r)) tk τ := by
 unfold z0 at h
 split at h
 · rename_i hc
   injection h with h
   subst h
   have hr : ∀ τ,Ru G l7 [.sl (p1.map (TV.int .i64))] τ (.bool (decide p1.Nodup)) τ := fun τ => zaz5 zaze (by
    have := zaw7 (key := keyI) (f := TV.int .i64) (g := id) p1 (fun b hb => by show (if zanc b then some b else none) = some b; rw [if_pos (hc.2 b hb)])
    have hl : (p1.map (TV.int .i64)).length ≤ 140737488355328 := by rw [List.length_map]; exact hc.1
    simp only [onceI,za3u,TV.list,if_pos hl,this,Option.map_some,List.map_id])
   exact bn (hr _) (hr _) (by simp -implicitDefEqProofs only [TT,Ic.t,Ic.ci,Nat.reduceEqDiff,reduceIte,Nat.reduceAdd,Nat.reduceLT,reduceCtorEq,Int.reduceToNat])
 · cases h
def two (x : fk) : Int × Int := (x.e0,x.e1)
def ue (l : List fk) : Option Bool := if l.length ≤ 140737488355328 ∧ ∀ x ∈ l,(zanc x.e0 && zanc x.e1) = true then some (decide (l.map two).Nodup) else none
theorem zapl (p1 : List fk) (r : Bool) (h : ue p1 = some r) (lk : Bool) (d : Option Nat) (K : aw) (fr : TF) (tk : TK) (τ : TH) (hl : τ.lock ≤ τ.next) : fo G lk jo [.sl (List.map fk.tv p1)] d K fr tk τ = K (gc fr d (.bool r)) tk τ := by
 unfold ue at h
 split at h
 · rename_i hc
   injection h with h
   subst h
   have hr : ∀ τ,Ru G jo [.sl (p1.map fk.tv)] τ (.bool (decide (p1.map two).Nodup)) τ := fun τ => zaz5 zaut (by
    have := zaw7 (key := keyA) (f := fk.tv) (g := two) p1 (fun b hb => by
     show (if (zanc b.e0 && zanc b.e1) = true then some (b.e0,b.e1) else none) = some (b.e0,b.e1)
     rw [if_pos (hc.2 b hb)])
    have hl : (p1.map fk.tv).length ≤ 140737488355328 := by rw [List.length_map]; exact hc.1
    simp only [onceA,za3u,TV.list,if_pos hl,this,Option.map_some])
   exact bn (hr _) (hr _) (by simp -implicitDefEqProofs only [TT,Ic.t,Ic.ci,Nat.reduceEqDiff,reduceIte,Nat.reduceAdd,Nat.reduceLT,reduceCtorEq,Int.reduceToNat])
 · cases h
end Go.Proofs.Ytdcfoaafkppojaa
