import Derived.Test.YtdcfoaafkppojaaM20
set_option linter.unusedVariables false
set_option linter.unusedSimpArgs false
set_option linter.unusedSectionVars false
open Nat (reduceEqDiff reduceAdd reduceMul reduceLT reduceLeDiff reduceSub)
open Int (reduceToNat reduceNe reduceEq reduceNeg reduceLE)
namespace Go.Proofs.Ytdcfoaafkppojaa
open Go Go.RowKit Sh Ic
def bare (l : List ByteArray) : List ac := l.map fun a => ⟨a,[]⟩
def zb3u (l : List ac) : Ob := ⟨dq,l.flatMap ac.cells⟩
theorem zbkw (l : List ByteArray) (a : ByteArray) : (⟨dq,(bare l).flatMap ac.cells ++ [.str a,.sl []]⟩ : Ob) = zb3u (bare (l ++ [a])) := by
 unfold zb3u bare; rw [List.map_append,List.flatMap_append]; rfl
theorem zcee (l : List ByteArray) : (bare l).length = l.length := List.length_map ..
def zbtz (arcs : List TV) (start delta : Int) (idP n : Nat) : SpB := ⟨⟨#[114,105,110,103]⟩,idP,n,arcs,[.int .i64 0],start,delta⟩
def zb1a (arcs : List TV) (start delta : Int) : Ob := ⟨dk,[.str ⟨#[114,105,110,103]⟩,.slz,.sl arcs,.sl [.int .i64 0],.slz,.int .i64 start,.int .i64 delta]⟩
inductive zbv8 (arcs : List TV) (start delta : Int) (τ0 τ : TH) (id6 id7 B : Nat) : List ByteArray → Prop
 | nil (ha : τ.at id7 = some (zb1a arcs start delta)) : zbv8 arcs start delta τ0 τ id6 id7 B []
 | obj (idP : Nat) (l : List ByteArray) (hne : l.length ≠ 0) (h0 : τ0.next ≤ idP) (hB : B ≤ idP) (h6 : id6 < idP) (h1 : idP < id7) (ha : τ.at id7 = some ((zbtz arcs start delta idP l.length).ob .slz)) (hp : τ.at idP = some (zb3u (bare l))) : zbv8 arcs start delta τ0 τ id6 id7 B l
section
variable {τ : TH} {k : Nat} {a b : Ob}
theorem zbwo (hn : τ.next = k) : ((τ.push a).push b).next = k + 2 := by rw [g9,g9,hn]
theorem zcau (hn : τ.next = k) : ((τ.push a).push b).at k = some a := by rw [zbt9 (by rw [g9]; omega),← hn]; exact zb0a
theorem zcav (hn : τ.next = k) : ((τ.push a).push b).at (k + 1) = some b := by rw [← hn,← g9 (b := a)]; exact zb0a
theorem zbw0 {j : Nat} (hj : j < τ.next) : ((τ.push a).push b).at j = τ.at j := by rw [zbt9 (by rw [g9]; omega),zbt9 hj]
end
set_option maxHeartbeats 1000000 in
theorem zb59 (n : Nat) (hn : n ≤ 6) (arcs : List TV) (start delta : Int) (z6 : Ob) (id6 : Nat) (τ0 : TH) (hl0 : τ0.lock ≤ τ0.next) (r : List ByteArray) (h6 : τ0.next ≤ id6) (B : Nat) (Q : TEx → av) (m : Nat) : ∀ (i : Nat) (l : List ByteArray) (id7 : Nat) (τ : TH),m + i = n → l.length = i → zbj3 ph m i l = some r → zava τ0 τ → zbv8 arcs start delta τ0 τ id6 id7 B l → τ0.next ≤ id7 → id7 < τ.next → id6 < id7 → τ.at id6 = some z6 → B ≤ τ.next →
 (∀ id7 τ,zava τ0 τ → zbv8 arcs start delta τ0 τ id6 id7 B r → τ0.next ≤ id7 → id7 < τ.next → id6 < id7 → τ.at id6 = some z6 → Q (.exit 0) [(0,.int .i64 n),(6,.ptr id6 0),(7,.ptr id7 0),(8,.int .i64 n),(17,.bool false)] [] τ) →
 tW G (.loop [0,6,7,8] zb4z) Q [(0,.int .i64 n),(6,.ptr id6 0),(7,.ptr id7 0),(8,.int .i64 (i : Int))] [] τ := by
 induction m with
 | zero =>
  intro i l id7 τ hi hl hr hg hv h07 h7 h67 ha6 hBn hQ
  obtain rfl : i = n := by omega
  injection hr with hr
  subst hr
  have c : ¬ (i : Int) < (i : Int) := by omega
  refine pj fun LQ hnx hr he => ?_
  simp -implicitDefEqProofs only [zb4z,zb8w,TT,Ic.t,ci,reduceEqDiff,reduceIte,reduceAdd,reduceMul,reduceLT,reduceLeDiff,reduceSub,reduceCtorEq,reduceEq,reduceNe,reduceToNat,Int.reduceLT,reduceLE,reduceNeg,c,he]
  exact hQ _ _ hg hv h07 h7 h67 ha6
 | succ m ih =>
  intro i l id7 τ hi hl hr hg hv h07 h7 h67 ha6 hBn hQ
  obtain ⟨x,hx,hr⟩ := ob hr
  have c : (i : Int) < (n : Int) := by omega
  have w1 : IntKind.i64.wrap ((i : Int) + 1) = ((i + 1 : Nat) : Int) := by rw [wA (by omega) (by omega)]; omega
  have hlk : τ.lock ≤ τ.next := by have := hg.lock; have := hg.next; omega
  have k1 := zdbq _ _ hx
  have lt1 : ¬ τ.next + 1 < τ.next := by omega
  have l1 : τ.lock ≤ τ.next + 1 := by omega
  have h67n : ¬ id6 = id7 := by omega
  have hw7 : τ.lock ≤ id7 := by have := hg.lock; omega
  refine pj fun LQ hnx hrr he => ?_
  cases hv with
  | nil ha =>
   simp -implicitDefEqProofs only [zb4z,zb8w,TT,Ic.t,ci,reduceEqDiff,reduceIte,reduceAdd,reduceMul,reduceLT,reduceLeDiff,reduceSub,reduceCtorEq,reduceEq,reduceNe,reduceToNat,Int.reduceLT,reduceLE,reduceNeg,c,w1,hrr,ha,zb1a,h7,hlk,hw7,k1]
   refine ⟨by unfold maxLen; omega,zbzr (h := ?_) ..⟩
   simp -implicitDefEqProofs only [TT,Ic.t,ci,reduceEqDiff,reduceIte,reduceAdd,reduceMul,reduceLT,reduceLeDiff,reduceSub,reduceCtorEq,reduceEq,reduceNe,reduceToNat,Int.reduceLT,reduceLE,reduceNeg,ha,zb1a,h7,hw7,g9,zbt9 h7,h67n,lt1,l1,w1,Bool.and_false,Bool.false_eq_true]
   rw [hnx]
   simp -implicitDefEqProofs only [TT,Ic.t,ci,reduceEqDiff,reduceIte,reduceAdd,reduceMul,reduceLT,reduceLeDiff,reduceSub,reduceCtorEq,reduceEq,reduceNe,reduceToNat,Int.reduceLT,reduceLE,reduceNeg,lt1,List.flatMap_cons,List.flatMap_nil,List.append_nil,Bool.and_false,Bool.false_eq_true]
   have g1 := ((hg.put h07 ⟨dk,[]⟩).push (zb3u (bare [x]))).push ((zbtz arcs start delta τ.next 1).ob .slz)
   have q := ih (i + 1) [x] (τ.next + 1) _ (by omega) (by simp at hl ⊢; omega) hr g1 (.obj τ.next [x] (by simp) hg.next hBn (by omega) (by omega) (zcav bo) (zcau bo)) (by have := hg.next; omega) (by rw [zbwo bo]; omega) (by omega)
    (by rw [zbw0 (by rw [bo]; omega),pf (by omega)]; exact ha6) (by first | (rw [zbwo bo]; omega) | (rw [zbwo nn]; omega)) hQ
   exact q
  | obj idP l hne h0 hB h6P h1 ha hp =>
   have m1 : l.length + 1 ≤ maxLen := by unfold maxLen; omega
   have m2 : (l.length + 1) * 40 ≤ 140737488355328 := by omega
   have f2 : ((bare l).flatMap ac.cells).length = l.length * 2 := by rw [zbj7 (k := 2) (fun _ => rfl),zcee]
   have hwP : τ.lock ≤ idP := by have := hg.lock; omega
   have hPn : idP < τ.next := by omega
   have e7 : (τ.put idP ⟨dq,[]⟩).at id7 = some ((zbtz arcs start delta idP l.length).ob .slz) := by rw [pf (by omega)]; exact ha
   simp -implicitDefEqProofs only [zb4z,zb8w,TT,Ic.t,ci,reduceEqDiff,reduceIte,reduceAdd,reduceMul,reduceLT,reduceLeDiff,reduceSub,reduceCtorEq,reduceEq,reduceNe,reduceToNat,Int.reduceLT,reduceLE,reduceNeg,c,w1,hrr,ha,hp,zb3u,zbtz,SpB.ob,h7,hlk,hw7,hwP,k1,m1,m2,f2,hne]
   refine zbzr (h := ?_) ..
   simp -implicitDefEqProofs only [TT,Ic.t,ci,reduceEqDiff,reduceIte,reduceAdd,reduceMul,reduceLT,reduceLeDiff,reduceSub,reduceCtorEq,reduceEq,reduceNe,reduceToNat,Int.reduceLT,reduceLE,reduceNeg,e7,zbtz,SpB.ob,h7,hw7,g9,zbt9 h7,h67n,lt1,l1,w1,Bool.and_false,Bool.false_eq_true]
   rw [hnx]
   simp -implicitDefEqProofs only [TT,Ic.t,ci,reduceEqDiff,reduceIte,reduceAdd,reduceMul,reduceLT,reduceLeDiff,reduceSub,reduceCtorEq,reduceEq,reduceNe,reduceToNat,Int.reduceLT,reduceLE,reduceNeg,lt1,List.flatMap_cons,List.flatMap_nil,List.append_nil,Bool.and_false,Bool.false_eq_true]
   rw [zbkw]
   have g1 := (((hg.put h0 ⟨dq,[]⟩).put h07 ⟨dk,[]⟩).push (zb3u (bare (l ++ [x])))).push ((zbtz arcs start delta τ.next (l.length + 1)).ob .slz)
   have nn : ((τ.put idP ⟨dq,[]⟩).put id7 ⟨dk,[]⟩).next = τ.next := by rw [bo,bo]
   have q := ih (i + 1) (l ++ [x]) (τ.next + 1) _ (by omega) (by rw [List.length_append,hl]; rfl) hr g1 (.obj τ.next (l ++ [x]) (by simp) hg.next hBn (by omega) (by omega) (by rw [List.length_append]; exact zcav nn) (zcau nn)) (by have := hg.next; omega) (by rw [zbwo nn]; omega) (by omega)
    (by rw [zbw0 (by rw [nn]; omega),pf (by omega),pf (by omega)]; exact ha6) (by first | (rw [zbwo bo]; omega) | (rw [zbwo nn]; omega)) hQ
   exact q
theorem zckf {f : TV → Option TV} : ∀ {l k l' k' : List TV},zaty f l = some l' → zaty f k = some k' → zaty f (l ++ k) = some (l' ++ k')
 | [],k,l',k',h,h2 => by injection h with h; subst h; exact h2
 | v :: r,k,l',k',h,h2 => by
  simp only [zaty] at h
  cases hv : f v with
  | none => rw [hv] at h; cases h
  | some x =>
   rw [hv] at h
   cases hr : zaty f r with
   | none => rw [hr] at h; cases h
   | some y =>
    rw [hr] at h
    injection h with h
    subst h
    have := zckf hr h2
    simp only [List.cons_append,zaty,hv,this]
theorem zbnb {α : Type} {f : TV → Option TV} {c c' : α → List TV} (h : ∀ x,zaty f ((c x).map TV.rd) = some (c' x)) : ∀ l : List α,zaty f ((l.flatMap c).map TV.rd) = some (l.flatMap c')
 | [] => rfl
 | x :: r => by rw [List.flatMap_cons,List.map_append,List.flatMap_cons]; exact zckf (h x) (zbnb h r)
theorem zbvr {α : Type} {c c' : α → List TV} {k : Nat} {e : α → TV} (hk : k ≠ 0) (hc : ∀ x,(c x).length = k) (hc' : ∀ x,(c' x).length = k) (he : ∀ x,zbj9 (c' x) = e x) (τ : TH) (n0 id m : Nat) (t : TypeId) (l : List α) (h0 : n0 ≤ id) (ha : τ.at id = some ⟨t,l.flatMap c⟩) (hl : l.length = m)
 (hf : ∀ x,zaty (za4n τ n0 1) ((c x).map TV.rd) = some (c' x)) : za4n τ n0 2 (.slm id 0 m k) = some (.sl (l.map e)) := by
 subst hl
 have tr : zbjj τ id 0 (l.length * k) = some ((l.flatMap c).map TV.rd) := by
  unfold zbjj
  rw [ha]
  simp only [Option.bind_some,zbj7 hc,Nat.zero_add,Nat.le_refl,if_true,List.drop_zero,zbrt hc]
 have n1 : ¬ (k = 0 ∨ id < n0) := by omega
 show (if k = 0 ∨ id < n0 then none else (zbjj τ id 0 (l.length * k)).bind fun l' => (zaty (za4n τ n0 1) l').map fun l' => TV.sl (zbkg k l.length l')) = _
 rw [if_neg n1,tr,Option.bind_some,zbnb hf l,Option.map_some,zca8 hc' he]
theorem zb10 (τ : TH) (n0 id m : Nat) (l : List ac) (h0 : n0 ≤ id) (ha : τ.at id = some (zbma l)) (hl : l.length = m) : za4n τ n0 2 (.slm id 0 m 2) = some (.sl (l.map ac.tv)) :=
 zbvr (c := zblz) (c' := ac.cells) (by decide) kc2 (fun _ => rfl) (fun _ => rfl) τ n0 id m _ l h0 ha hl fun x => by
  obtain ⟨a,ks⟩ := x
  cases ks <;> rfl
theorem zbq0 (f : Int → Option ByteArray) (n : Nat) : ∀ (k : Nat) (l r : List ByteArray),zbj3 f n k l = some r → r.length = l.length + n := by
 induction n with
 | zero => intro k l r h; injection h with h; subst h; rfl
 | succ n ih => intro k l r h; obtain ⟨x,_,h⟩ := ob h; rw [ih _ _ _ h,List.length_append]; simp; omega
theorem zboc (L : Nat) (rest : List ac) : ∀ (i : Nat) (d r : List ac),zbwx L rest i d = some r → r.length = d.length + rest.length := by
 induction rest with
 | nil => intro i d r h; injection h with h; subst h; rfl
 | cons x rest ih => intro i d r h; obtain ⟨ks,_,h⟩ := ob h; rw [ih _ _ _ h,List.length_append]; simp; omega
theorem zb09 (n : Nat) (hn1 : 1 ≤ n) (hn : n ≤ 6) (start delta : Int) (al : List af) (accs lr : List ByteArray) (rows : List ac) (has : zb4p n 0 2 = some al) (hac : zbj3 ph n 0 [] = some accs) (hlr : zbj3 zbkz 1 0 [] = some lr) (hrows : zbwx 1 (bare accs) 0 [] = some rows)
 (τ : TH) (hl : τ.lock ≤ τ.next) : Ru G zb0k [.int .i64 n,.int .i64 start,.int .i64 delta] τ (.agg (aq.cells ⟨⟨#[114,105,110,103]⟩,rows,al,[0],lr,start,delta⟩)) τ := by
 refine jv fun K hK => ?_
 rw [bx zble (Nat.le_of_ble_eq_true rfl)]
 have l1 : τ.lock ≤ τ.next + 1 := by omega
 have l2 : τ.lock ≤ τ.next + 2 := by omega
 have k1 := zc5j _ _ _ _ has
 simp -implicitDefEqProofs only [zb8w,TT,Ic.t,ci,reduceEqDiff,reduceIte,reduceAdd,reduceMul,reduceLT,reduceLeDiff,reduceSub,reduceCtorEq,reduceEq,reduceNe,reduceToNat,Int.reduceLT,reduceLE,reduceNeg,hl,l1,l2,k1]
 have c0 : (τ.push ⟨dk,[.str ⟨#[]⟩,.slz,.slz,.slz,.slz,.int .i64 0,.int .i64 0]⟩).next = τ.next + 1 := g9
 refine zb59 n hn (al.map af.tv) start delta ⟨dk,[.str ⟨#[]⟩,.slz,.slz,.slz,.slz,.int .i64 0,.int .i64 0]⟩ τ.next τ hl accs (Nat.le_refl _) (τ.next + 2) _ n 0 [] (τ.next + 1) _ rfl rfl hac (((zava.refl τ).push _).push _) (.nil (zcav rfl)) (by omega) (by rw [zbwo rfl]; omega) (by omega) (zcau rfl) (by rw [zbwo rfl]; omega) ?_
 intro id7 τ1 hg1 hr1 h07 h71 h67 ha6
 have la : accs.length = n := by rw [zbq0 _ _ _ _ _ hac]; simp
 cases hr1 with
 | nil ha => simp at la; omega
 | obj idP l hne h0 hB h6P h1 ha hp =>
  have lt7 : ¬ id7 < τ.next + 2 := by omega
  have hL : zb4p n 0 2 = some al := has
  have kr := fun (K : av) (fr : TF) (d : Option Nat) => n7 (Γ := G) (d := d) (K := K) (fr := fr) (tk := []) (zbvb (zbtz (al.map af.tv) start delta idP accs.length) [] (bare accs) rows lr (by show 1 ≤ 6; omega) (by show accs.length ≤ 20; omega) (by show accs.length = _; rw [zcee]) hlr hrows τ1 (by have := hg1.lock; have := hg1.next; omega) hp (by show idP < _; omega) (by have := hg1.lock; show _ ≤ idP; omega)) (by simp -implicitDefEqProofs only [TT,Ic.t,ci,reduceEqDiff,reduceIte,reduceAdd,reduceMul,reduceLT,reduceLeDiff,reduceSub,reduceCtorEq,reduceEq,reduceNe,reduceToNat,Int.reduceLT,reduceLE,reduceNeg,zbtz,h1,show idP < τ1.next by omega])
  simp only [zbtz] at kr
  simp -implicitDefEqProofs only [TT,Ic.t,ci,reduceEqDiff,reduceIte,reduceAdd,reduceMul,reduceLT,reduceLeDiff,reduceSub,reduceCtorEq,reduceEq,reduceNe,reduceToNat,Int.reduceLT,reduceLE,reduceNeg,h71,lt7,ha,zbtz,SpB.ob,kr]
  have hPn : idP < τ1.next := by omega
  have hb : (τ1.put idP (zbma rows)).at τ.next = some ⟨dk,[.str ⟨#[]⟩,.slz,.slz,.slz,.slz,.int .i64 0,.int .i64 0]⟩ := by rw [pf (by omega)]; exact ha6
  refine zbwd (hz := rfl) (hb := hb) (hc := ⟨by show τ1.lock ≤ _; have := hg1.lock; omega,by simp⟩) (hx := fun v e => by cases e) (h := ?_) ..
  obtain ⟨τ2,e2⟩ : ∃ τ2,τ2 = (τ1.put idP (zbma rows)).put τ.next ⟨dk,[]⟩ := ⟨_,rfl⟩
  have n2 : τ2.next = τ1.next := by rw [e2,bo,bo]
  have hg2 : zava τ τ2 := by rw [e2]; exact (hg1.put (by omega) _).put (Nat.le_refl _) _
  have aP : τ2.at idP = some (zbma rows) := by rw [e2,pf (by omega)]; exact zbtp hPn
  rw [← e2]
  have e3 : (τ1.put idP (zbma rows)).next = τ2.next := by rw [n2,bo]
  have lk2 : τ2.lock ≤ τ2.next := by have := hg2.lock; have := hg2.next; omega
  have hP2 : idP < τ2.next + 1 := by omega
  rw [e3]
  have rl : rows.length = accs.length := by rw [zboc _ _ _ _ _ hrows,zcee]; simp
  have fr : ∀ x,za4n (τ2.push x) τ.next 2 (.slm idP 0 accs.length 2) = some (.sl (rows.map ac.tv)) := fun x => zb10 _ _ _ _ _ h0 (by rw [zbt9 (by omega)]; exact aP) rl
  have cx : ∀ x,(τ2.push x).cut τ.next = τ := fun x => (hg2.push x).cut
  simp -implicitDefEqProofs only [TT,Ic.t,ci,reduceEqDiff,reduceIte,reduceAdd,reduceMul,reduceLT,reduceLeDiff,reduceSub,reduceCtorEq,reduceEq,reduceNe,reduceToNat,Int.reduceLT,reduceLE,reduceNeg,lk2,hP2,fr,cx]
  exact hK
noncomputable def zb0l (n start delta : Int) : Option aq := if 1 ≤ n ∧ n ≤ 6 then
 zb4p n 0 2 >>= fun al =>
 zbj3 ph n.toNat 0 [] >>= fun accs =>
 zbj3 zbkz 1 0 [] >>= fun lr =>
 zbwx 1 (bare accs) 0 [] >>= fun rows =>
 some ⟨⟨#[114,105,110,103]⟩,rows,al,[0],lr,start,delta⟩ else none
theorem zcnk (p1 p2 p3 : Int) (r : aq) (h : zb0l p1 p2 p3 = some r) (lk : Bool) (d : Option Nat) (K : av) (fr : TF) (tk : TK) (τ : TH) (hl : τ.lock ≤ τ.next) : fp G lk zb0k [.int .i64 p1,.int .i64 p2,.int .i64 p3] d K fr tk τ = K (gg fr d (.agg (aq.cells r))) tk τ := by
 obtain ⟨⟨h1,h2⟩,h⟩ := ifS h
 obtain ⟨al,a1,h⟩ := ob h
 obtain ⟨accs,a2,h⟩ := ob h
 obtain ⟨lr,a3,h⟩ := ob h
 obtain ⟨rows,a4,h⟩ := ob h
 injection h with h
 subst h
 obtain ⟨n,rfl⟩ : ∃ n : Nat,p1 = (n : Int) := ⟨p1.toNat,by omega⟩
 have hr := fun τ hl => zb09 n (by omega) (by omega) p2 p3 al accs lr rows a1 a2 a3 a4 τ hl
 exact bn (hr _ hl) (hr _ (Nat.le_refl _)) (by simp -implicitDefEqProofs only [TT,Ic.t,ci,reduceEqDiff,reduceIte,reduceAdd,reduceLT,reduceCtorEq,reduceToNat])
end Go.Proofs.Ytdcfoaafkppojaa
open Nat (reduceEqDiff reduceAdd reduceLT)
open Int (reduceToNat reduceEq)
namespace Go.Proofs.Ytdcfoaafkppojaa
open Go Go.RowKit Sh Ic
noncomputable def t7 (p1 : ByteArray) : Option Bool :=
 if (1 : Int) ≤ ((p1.size : Nat) : Int) then
  some (decide (((p1.size : Nat) : Int) ≤ (16 : Int)))
 else
 some false
theorem zcqo (p1 : ByteArray) (r : Bool) (h : t7 p1 = some r) (τ : TH) (hl : τ.lock ≤ τ.next) : Ru G um [.str p1] τ (.bool r) τ := by
 refine jv fun K hK => ?_
 rw [bx zc4u (Nat.le_of_ble_eq_true rfl)]
 unfold t7 at h
 by_cases c1 : (1 : Int) ≤ ((p1.size : Nat) : Int)
 · rw [if_pos c1] at h
   injection h with h; subst h
   simp -implicitDefEqProofs only [zc2s,TT,Ic.t,ci,reduceEqDiff,reduceIte,reduceAdd,reduceLT,reduceCtorEq,reduceToNat,hl,c1,CL,LTN]
   exact hK
 rw [if_neg c1] at h
 injection h with h; subst h
 simp -implicitDefEqProofs only [zc2s,TT,Ic.t,ci,reduceEqDiff,reduceIte,reduceAdd,reduceLT,reduceCtorEq,reduceToNat,hl,c1,CL,LTN]
 exact hK
theorem zcdj (p1 : ByteArray) (r : Bool) (h : t7 p1 = some r) (lk : Bool) (d : Option Nat) (K : av) (fr : TF) (tk : TK) (τ : TH) (hl : τ.lock ≤ τ.next) : fp G lk um [.str p1] d K fr tk τ = K (gg fr d (.bool r)) tk τ :=
 bn (zcqo p1 r h τ  hl) (zcqo p1 r h (τ.locked τ.next)  (Nat.le_refl _) ) (by simp -implicitDefEqProofs only [TT,Ic.t,ci,reduceEqDiff,reduceIte,reduceAdd,reduceLT,reduceCtorEq,reduceToNat,hl,CL,LTN])
noncomputable def nw (p1 : Int) (p2 : Int) (p3 : Int) : Option Bool :=
 if p2 ≤ p1 then
  some (decide (p1 ≤ p3))
 else
 some false
theorem zcmd (p1 : Int) (p2 : Int) (p3 : Int) (r : Bool) (h : nw p1 p2 p3 = some r) (τ : TH) (hl : τ.lock ≤ τ.next) : Ru G n5 [.int .i64 p1,.int .i64 p2,.int .i64 p3] τ (.bool r) τ := by
 refine jv fun K hK => ?_
 rw [bx zbrr (Nat.le_of_ble_eq_true rfl)]
 unfold nw at h
 by_cases c1 : p2 ≤ p1
 · rw [if_pos c1] at h
   injection h with h; subst h
   simp -implicitDefEqProofs only [zclq,TT,Ic.t,ci,reduceEqDiff,reduceIte,reduceAdd,reduceLT,reduceCtorEq,reduceToNat,hl,c1,CL,LTN]
   exact hK
 rw [if_neg c1] at h
 injection h with h; subst h
 simp -implicitDefEqProofs only [zclq,TT,Ic.t,ci,reduceEqDiff,reduceIte,reduceAdd,reduceLT,reduceCtorEq,reduceToNat,hl,c1,CL,LTN]
 exact hK
theorem pk (p1 : Int) (p2 : Int) (p3 : Int) (r : Bool) (h : nw p1 p2 p3 = some r) (lk : Bool) (d : Option Nat) (K : av) (fr : TF) (tk : TK) (τ : TH) (hl : τ.lock ≤ τ.next) : fp G lk n5 [.int .i64 p1,.int .i64 p2,.int .i64 p3] d K fr tk τ = K (gg fr d (.bool r)) tk τ :=
 bn (zcmd p1 p2 p3 r h τ  hl) (zcmd p1 p2 p3 r h (τ.locked τ.next)  (Nat.le_refl _) ) (by simp -implicitDefEqProofs only [TT,Ic.t,ci,reduceEqDiff,reduceIte,reduceAdd,reduceLT,reduceCtorEq,reduceToNat,hl,CL,LTN])
noncomputable def wj (p1 : ByteArray) (p2 : Int) : Option Bool :=
 some (decide (¬ (((p1.size : Nat) : Int) = p2)))
theorem zctq (p1 : ByteArray) (p2 : Int) (r : Bool) (h : wj p1 p2 = some r) (τ : TH) (o0 : Nat) (hl : τ.lock ≤ τ.next) (ha0 : τ.at o0 = some ⟨u7,[.int .i64 p2]⟩) (hi0 : o0 < τ.next) : Ru G ir [.str p1,.ptr o0 0] τ (.bool r) τ := by
 refine jv fun K hK => ?_
 rw [bx zdbn (Nat.le_of_ble_eq_true rfl)]
 unfold wj at h
 injection h with h; subst h
 simp -implicitDefEqProofs only [zdbe,TT,Ic.t,ci,reduceEqDiff,reduceIte,reduceAdd,reduceLT,reduceCtorEq,reduceToNat,hl,ha0,hi0,CL,LTN]
 exact hK
theorem zc6i (p1 : ByteArray) (p2 : Int) (r : Bool) (h : wj p1 p2 = some r) (lk : Bool) (d : Option Nat) (K : av) (fr : TF) (tk : TK) (τ : TH) (o0 : Nat) (hl : τ.lock ≤ τ.next) (ha0 : τ.at o0 = some ⟨u7,[.int .i64 p2]⟩) (hi0 : o0 < τ.next) : fp G lk ir [.str p1,.ptr o0 0] d K fr tk τ = K (gg fr d (.bool r)) tk τ :=
 bn (zctq p1 p2 r h τ o0 hl ha0 hi0) (zctq p1 p2 r h (τ.locked τ.next) o0 (Nat.le_refl _) (by rw [zbtx]; exact ha0) hi0) (by simp -implicitDefEqProofs only [TT,Ic.t,ci,reduceEqDiff,reduceIte,reduceAdd,reduceLT,reduceCtorEq,reduceToNat,hl,ha0,hi0,CL,LTN])
noncomputable def bg (v0 : (List ByteArray)) (v1 : Int) (v2 : Int) (v3 : Int) : Option (LS (Int) (LX (Unit) (Int))) :=
 if v3 < v2 then
  ixL v0 v3 >>= fun y2 =>
  wj y2 v1 >>= fun y4 =>
  if y4 = true then
   some (.dn (.rt v3))
  else
  some (.nx (IntKind.i64.wrap (v3 + (1 : Int))))
 else
 some (.dn (.ex ()))
noncomputable def cp (v0 : (List ByteArray)) (v1 : Int) (v2 : Int) (v3 : Int) : Option (LX (Unit) (Int)) := sq (fun st => bg v0 v1 v2 st) v3
theorem mh (v0 : (List ByteArray)) (v1 : Int) (v2 : Int) (v3 : Int) : cp v0 v1 v2 v3 = bg v0 v1 v2 v3 >>= LS.go (fun st => cp v0 v1 v2 st) := gy (fun st => bg v0 v1 v2 st) v3
def ff (v0 : (List ByteArray)) (v1 : Int) (v2 : Int) (v3 : Int) (r : LX (Unit) (Int)) : Prop := ∀ (τ : TH) (o0 : Nat) (hl : τ.lock ≤ τ.next) (ha0 : τ.at o0 = some ⟨u7,[.int .i64 v1]⟩) (hi0 : o0 < τ.next) (Q : TEx → av) (hQ0 : ∀ v : Unit,r = (.ex v) → ∀ (fr : TF) (tk2 : TK) (τ2 : TH),tk2.take 0 = [] → τ2.cut τ.next = τ → Q (.exit 0) fr tk2 τ2) (hQ1 : ∀ v : Int,r = (.rt v) → ∀ (tk2 : TK) (τ2 : TH),τ2.cut τ.next = τ → Q .ret [(4,.int .i64 v)] tk2 τ2) ,tW G (.loop [0,1,7,8] d7) Q [(0,.sl (List.map TV.str v0)),(1,.func ir [] [.ptr o0 0]),(7,.int .i64 v2),(8,.int .i64 v3)] [] τ
theorem vi (v0 : (List ByteArray)) (v1 : Int) (v2 : Int) (v3 : Int) (r : LX (Unit) (Int)) (h : cp v0 v1 v2 v3 = some r) : ff v0 v1 v2 v3 r := by
 refine fg (f := fun st => bg v0 v1 v2 st) (P := fun st r => ∀ (v3 : Int),v3 = st → ff v0 v1 v2 v3 r) ?_ h v3 rfl
 clear h r v3
 intro st o h r ih v3 hst τ o0  hl ha0 hi0 Q hQ0 hQ1
 subst hst
 have h : bg v0 v1 v2 v3 = some o := h
 unfold bg at h
 refine pj fun LQ hn hr he => ?_
 by_cases c1 : v3 < v2
 · rw [if_pos c1] at h
   obtain ⟨y2,hy2,h⟩ := ob h
   have f3 := de hy2
   have f3a := (f3.2.2 TV.str).1
   have f3b := (f3.2.2 TV.str).2
   try simp only [CL,MC,reduceToNat] at f3 f3a f3b
   obtain ⟨y4,hy4,h⟩ := ob h
   have k5 := zc6i y2 v1 _ hy4
   try simp only [CL,MC,reduceToNat] at k5
   by_cases c6 : y4 = true
   · rw [if_pos c6] at h
     injection h with h; subst h
     obtain rfl : _ = r := ih
     simp -implicitDefEqProofs only [d7,dj,TT,Ic.t,ci,reduceEqDiff,reduceIte,reduceAdd,reduceLT,reduceCtorEq,reduceToNat,hl,ha0,hi0,he,hr,c1,f3.1,f3.2.1,f3a,f3b,k5,c6,CL,LTN]
     exact hQ1 v3 rfl  _ _  (by first | exact kf (Nat.le_refl _) | (simp -implicitDefEqProofs only [TT,Ic.t,ci,reduceEqDiff,reduceIte,reduceAdd,reduceLT,reduceCtorEq,reduceToNat,hl,ha0,hi0,c1,f3.1,f3.2.1,f3a,f3b,k5,c6,CL,LTN]))
   rw [if_neg c6] at h
   have c6 := Bool.eq_false_iff.2 c6
   injection h with h; subst h
   have ih := ih (IntKind.i64.wrap (v3 + (1 : Int))) rfl
   unfold ff at ih
   simp -implicitDefEqProofs only [d7,dj,TT,Ic.t,ci,reduceEqDiff,reduceIte,reduceAdd,reduceLT,reduceCtorEq,reduceToNat,hl,ha0,hi0,c1,f3.1,f3.2.1,f3a,f3b,k5,c6,CL,LTN]
   rw [hn]
   simp -implicitDefEqProofs only [TT,Ic.t,ci,reduceEqDiff,reduceIte,reduceAdd,reduceLT,reduceCtorEq,reduceToNat,hl,ha0,hi0,c1,f3.1,f3.2.1,f3a,f3b,k5,c6,CL,LTN]
   exact ih  τ o0   (by first | assumption | (simp only [ag,ak]; assumption)) (by simp -implicitDefEqProofs only [TT,Ic.t,ci,reduceEqDiff,reduceIte,reduceAdd,reduceLT,reduceCtorEq,reduceToNat,hl,ha0,hi0,c1,f3.1,f3.2.1,f3a,f3b,k5,c6,CL,LTN]) (by first | assumption | (simp only [ag,ak]; assumption)) Q hQ0 hQ1
 rw [if_neg c1] at h
 injection h with h; subst h
 obtain rfl : _ = r := ih
 simp -implicitDefEqProofs only [d7,dj,TT,Ic.t,ci,reduceEqDiff,reduceIte,reduceAdd,reduceLT,reduceCtorEq,reduceToNat,hl,ha0,hi0,he,hr,c1,CL,LTN]
 exact hQ0 () rfl  _ _ _   (by first | rfl | (simp -implicitDefEqProofs only [TT,Ic.t,ci,reduceEqDiff,reduceIte,reduceAdd,reduceLT,reduceCtorEq,reduceToNat,hl,ha0,hi0,c1,CL,LTN])) (by first | exact kf (Nat.le_refl _) | (simp -implicitDefEqProofs only [TT,Ic.t,ci,reduceEqDiff,reduceIte,reduceAdd,reduceLT,reduceCtorEq,reduceToNat,hl,ha0,hi0,c1,CL,LTN]))
noncomputable def ei (p1 : (List ByteArray)) (p2 : Int) : Option Int :=
 cp p1 p2 ((p1.length : Nat) : Int) (0 : Int) >>= fun y1 =>
 match y1 with
 | .ex w2 =>
  some (-1 : Int)
 | .rt w4 =>
  some w4
theorem oi (p1 : (List ByteArray)) (p2 : Int) (r : Int) (h : ei p1 p2 = some r) (τ : TH) (o0 : Nat) (hl : τ.lock ≤ τ.next) (ha0 : τ.at o0 = some ⟨u7,[.int .i64 p2]⟩) (hi0 : o0 < τ.next) : Ru G dl [.sl (List.map TV.str p1),.func ir [] [.ptr o0 0]] τ (.int .i64 r) τ := by
 refine jv fun K hK => ?_
 rw [bx zc9i (Nat.le_of_ble_eq_true rfl)]
 unfold ei at h
 obtain ⟨y1,hy1,h⟩ := ob h
 simp -implicitDefEqProofs only [dj,TT,Ic.t,ci,reduceEqDiff,reduceIte,reduceAdd,reduceLT,reduceCtorEq,reduceToNat,hl,ha0,hi0,CL,LTN]
 have Sy1 := vi p1 p2 ((p1.length : Nat) : Int) (0 : Int) y1 hy1
 unfold ff at Sy1
 refine Sy1 _ o0 (by first | assumption | omega | (simp only [ag,ap,ak,bb]; omega)) (by simp -implicitDefEqProofs only [TT,Ic.t,ci,reduceEqDiff,reduceIte,reduceAdd,reduceLT,reduceCtorEq,reduceToNat,hl,ha0,hi0,CL,LTN]) (by first | assumption | omega | (simp only [ag,ap,ak,bb]; omega)) _ ?_ ?_
 · intro w2 e frq3 tkq3 τq3 htq3 hcq3
   subst e
   simp only at h
   have hcq3 := gc (n := τ.next) hcq3 (by first | omega | (simp only [ag,ap]; omega))
   try simp only [List.take_succ_cons,List.take_zero,List.take_nil,CL] at htq3
   try simp -implicitDefEqProofs only [TT,Ic.t,ci,reduceEqDiff,reduceIte,reduceAdd,reduceLT,reduceCtorEq,reduceToNat,hl,ha0,hi0,CL,LTN] at hcq3
   injection h with h; subst h
   simp -implicitDefEqProofs only [dj,TT,Ic.t,ci,reduceEqDiff,reduceIte,reduceAdd,reduceLT,reduceCtorEq,reduceToNat,hl,ha0,hi0,htq3,hcq3,CL,LTN]
   exact hK
 intro w4 e tkq5 τq5 hcq5
 subst e
 simp only at h
 have hcq5 := gc (n := τ.next) hcq5 (by first | omega | (simp only [ag,ap]; omega))
 try simp -implicitDefEqProofs only [TT,Ic.t,ci,reduceEqDiff,reduceIte,reduceAdd,reduceLT,reduceCtorEq,reduceToNat,hl,ha0,hi0,CL,LTN] at hcq5
 injection h with h; subst h
 simp -implicitDefEqProofs only [dj,TT,Ic.t,ci,reduceEqDiff,reduceIte,reduceAdd,reduceLT,reduceCtorEq,reduceToNat,hl,ha0,hi0,hcq5,CL,LTN]
 exact hK
theorem zc9g (p1 : (List ByteArray)) (p2 : Int) (r : Int) (h : ei p1 p2 = some r) (lk : Bool) (d : Option Nat) (K : av) (fr : TF) (tk : TK) (τ : TH) (o0 : Nat) (hl : τ.lock ≤ τ.next) (ha0 : τ.at o0 = some ⟨u7,[.int .i64 p2]⟩) (hi0 : o0 < τ.next) : fp G lk dl [.sl (List.map TV.str p1),.func ir [] [.ptr o0 0]] d K fr tk τ = K (gg fr d (.int .i64 r)) tk τ :=
 bn (oi p1 p2 r h τ o0 hl ha0 hi0) (oi p1 p2 r h (τ.locked τ.next) o0 (Nat.le_refl _) (by rw [zbtx]; exact ha0) hi0) (by simp -implicitDefEqProofs only [TT,Ic.t,ci,reduceEqDiff,reduceIte,reduceAdd,reduceLT,reduceCtorEq,reduceToNat,hl,ha0,hi0,CL,LTN])
noncomputable def cq (p1 : (List ByteArray)) (p2 : Int) : Option Bool :=
 ei p1 p2 >>= fun y1 =>
 some (decide ((0 : Int) ≤ y1))
theorem mr (p1 : (List ByteArray)) (p2 : Int) (r : Bool) (h : cq p1 p2 = some r) (τ : TH) (o0 : Nat) (hl : τ.lock ≤ τ.next) (ha0 : τ.at o0 = some ⟨u7,[.int .i64 p2]⟩) (hi0 : o0 < τ.next) : Ru G cw [.sl (List.map TV.str p1),.func ir [] [.ptr o0 0]] τ (.bool r) τ := by
 refine jv fun K hK => ?_
 rw [bx yk (Nat.le_of_ble_eq_true rfl)]
 unfold cq at h
 obtain ⟨y1,hy1,h⟩ := ob h
 have k2 := zc9g p1 p2 _ hy1
 try simp only [CL,MC,reduceToNat] at k2
 injection h with h; subst h
 simp -implicitDefEqProofs only [yq,TT,Ic.t,ci,reduceEqDiff,reduceIte,reduceAdd,reduceLT,reduceCtorEq,reduceToNat,hl,ha0,hi0,k2,CL,LTN]
 exact hK
theorem vj (p1 : (List ByteArray)) (p2 : Int) (r : Bool) (h : cq p1 p2 = some r) (lk : Bool) (d : Option Nat) (K : av) (fr : TF) (tk : TK) (τ : TH) (o0 : Nat) (hl : τ.lock ≤ τ.next) (ha0 : τ.at o0 = some ⟨u7,[.int .i64 p2]⟩) (hi0 : o0 < τ.next) : fp G lk cw [.sl (List.map TV.str p1),.func ir [] [.ptr o0 0]] d K fr tk τ = K (gg fr d (.bool r)) tk τ :=
 bn (mr p1 p2 r h τ o0 hl ha0 hi0) (mr p1 p2 r h (τ.locked τ.next) o0 (Nat.le_refl _) (by rw [zbtx]; exact ha0) hi0) (by simp -implicitDefEqProofs only [TT,Ic.t,ci,reduceEqDiff,reduceIte,reduceAdd,reduceLT,reduceCtorEq,reduceToNat,hl,ha0,hi0,CL,LTN])
noncomputable def t6 (p1 : (List ByteArray)) (p2 : Int) (p3 : Int) : Option Bool :=
 if ((p1.length : Nat) : Int) = p2 then
  cq p1 p3 >>= fun y2 =>
  some (!y2)
 else
 some false
theorem zcsm (p1 : (List ByteArray)) (p2 : Int) (p3 : Int) (r : Bool) (h : t6 p1 p2 p3 = some r) (τ : TH) (hl : τ.lock ≤ τ.next) : Ru G ul [.sl (List.map TV.str p1),.int .i64 p2,.int .i64 p3] τ (.bool r) τ := by
 refine jv fun K hK => ?_
 rw [bx zc92 (Nat.le_of_ble_eq_true rfl)]
 unfold t6 at h
 by_cases c1 : ((p1.length : Nat) : Int) = p2
 · rw [if_pos c1] at h
   obtain ⟨y2,hy2,h⟩ := ob h
   have k3 := vj p1 p3 _ hy2
   try simp only [CL,MC,reduceToNat] at k3
   injection h with h; subst h
   simp -implicitDefEqProofs only [zcmv,TT,Ic.t,ci,reduceEqDiff,reduceIte,reduceAdd,reduceLT,reduceCtorEq,reduceToNat,hl,eq_true c1,k3,CL,LTN]
   exact hK
 rw [if_neg c1] at h
 injection h with h; subst h
 simp -implicitDefEqProofs only [zcmv,TT,Ic.t,ci,reduceEqDiff,reduceIte,reduceAdd,reduceLT,reduceCtorEq,reduceToNat,hl,c1,CL,LTN]
 exact hK
theorem zcsl (p1 : (List ByteArray)) (p2 : Int) (p3 : Int) (r : Bool) (h : t6 p1 p2 p3 = some r) (lk : Bool) (d : Option Nat) (K : av) (fr : TF) (tk : TK) (τ : TH) (hl : τ.lock ≤ τ.next) : fp G lk ul [.sl (List.map TV.str p1),.int .i64 p2,.int .i64 p3] d K fr tk τ = K (gg fr d (.bool r)) tk τ :=
 bn (zcsm p1 p2 p3 r h τ  hl) (zcsm p1 p2 p3 r h (τ.locked τ.next)  (Nat.le_refl _) ) (by simp -implicitDefEqProofs only [TT,Ic.t,ci,reduceEqDiff,reduceIte,reduceAdd,reduceLT,reduceCtorEq,reduceToNat,hl,CL,LTN])
noncomputable def zb3f (p1 : af) (p2 : Int) : Option Bool :=
 nw p1.From (0 : Int) (IntKind.i64.wrap (p2 - (1 : Int))) >>= fun y1 =>
 if y1 = true then
  nw p1.To (0 : Int) (IntKind.i64.wrap (p2 - (1 : Int))) >>= fun y4 =>
  if y4 = true then
   if p1.From = p1.To then
    some false
   else
   nw p1.Ledger (0 : Int) (3 : Int) >>= fun y8 =>
   if y8 = true then
    t7 p1.Asset >>= fun y11 =>
    if y11 = true then
     nw p1.Amount (1 : Int) (1125899906842624 : Int) >>= fun y14 =>
     some y14
    else
    some false
   else
   some false
  else
  some false
 else
 some false
theorem zcns (p1 : af) (p2 : Int) (r : Bool) (h : zb3f p1 p2 = some r) (τ : TH) (hl : τ.lock ≤ τ.next) : Ru G zb27 [.agg [.int .i64 p1.From,.int .i64 p1.To,.int .i64 p1.Ledger,.str p1.Asset,.int .i64 p1.Amount],.int .i64 p2] τ (.bool r) τ := by
 refine jv fun K hK => ?_
 rw [bx zbla (Nat.le_of_ble_eq_true rfl)]
 unfold zb3f at h
 obtain ⟨y1,hy1,h⟩ := ob h
 have k2 := pk p1.From (0 : Int) (IntKind.i64.wrap (p2 - (1 : Int))) _ hy1
 try simp only [CL,MC,reduceToNat] at k2
 by_cases c3 : y1 = true
 · rw [if_pos c3] at h
   obtain ⟨y4,hy4,h⟩ := ob h
   have k5 := pk p1.To (0 : Int) (IntKind.i64.wrap (p2 - (1 : Int))) _ hy4
   try simp only [CL,MC,reduceToNat] at k5
   by_cases c6 : y4 = true
   · rw [if_pos c6] at h
     by_cases c7 : p1.From = p1.To
     · rw [if_pos c7] at h
       injection h with h; subst h
       simp -implicitDefEqProofs only [zb29,TT,Ic.t,ci,reduceEqDiff,reduceIte,reduceAdd,reduceLT,reduceCtorEq,reduceToNat,hl,k2,c3,k5,c6,eq_true c7,CL,LTN]
       first | exact hK | (simp only [hl,k2,c3,k5,c6,eq_true c7,CL] at hK; exact hK)
     rw [if_neg c7] at h
     obtain ⟨y8,hy8,h⟩ := ob h
     have k9 := pk p1.Ledger (0 : Int) (3 : Int) _ hy8
     try simp only [CL,MC,reduceToNat] at k9
     by_cases c10 : y8 = true
     · rw [if_pos c10] at h
       obtain ⟨y11,hy11,h⟩ := ob h
       have k12 := zcdj p1.Asset _ hy11
       try simp only [CL,MC,reduceToNat] at k12
       by_cases c13 : y11 = true
       · rw [if_pos c13] at h
         obtain ⟨y14,hy14,h⟩ := ob h
         have k15 := pk p1.Amount (1 : Int) (1125899906842624 : Int) _ hy14
         try simp only [CL,MC,reduceToNat] at k15
         injection h with h; subst h
         simp -implicitDefEqProofs only [zb29,TT,Ic.t,ci,reduceEqDiff,reduceIte,reduceAdd,reduceLT,reduceCtorEq,reduceToNat,hl,k2,c3,k5,c6,c7,k9,c10,k12,c13,k15,CL,LTN]
         first | exact hK | (simp only [hl,k2,c3,k5,c6,c7,k9,c10,k12,c13,k15,CL] at hK; exact hK)
       rw [if_neg c13] at h
       have c13 := Bool.eq_false_iff.2 c13
       injection h with h; subst h
       simp -implicitDefEqProofs only [zb29,TT,Ic.t,ci,reduceEqDiff,reduceIte,reduceAdd,reduceLT,reduceCtorEq,reduceToNat,hl,k2,c3,k5,c6,c7,k9,c10,k12,c13,CL,LTN]
       first | exact hK | (simp only [hl,k2,c3,k5,c6,c7,k9,c10,k12,c13,CL] at hK; exact hK)
     rw [if_neg c10] at h
     have c10 := Bool.eq_false_iff.2 c10
     injection h with h; subst h
     simp -implicitDefEqProofs only [zb29,TT,Ic.t,ci,reduceEqDiff,reduceIte,reduceAdd,reduceLT,reduceCtorEq,reduceToNat,hl,k2,c3,k5,c6,c7,k9,c10,CL,LTN]
     first | exact hK | (simp only [hl,k2,c3,k5,c6,c7,k9,c10,CL] at hK; exact hK)
   rw [if_neg c6] at h
   have c6 := Bool.eq_false_iff.2 c6
   injection h with h; subst h
   simp -implicitDefEqProofs only [zb29,TT,Ic.t,ci,reduceEqDiff,reduceIte,reduceAdd,reduceLT,reduceCtorEq,reduceToNat,hl,k2,c3,k5,c6,CL,LTN]
   first | exact hK | (simp only [hl,k2,c3,k5,c6,CL] at hK; exact hK)
 rw [if_neg c3] at h
 have c3 := Bool.eq_false_iff.2 c3
 injection h with h; subst h
 simp -implicitDefEqProofs only [zb29,TT,Ic.t,ci,reduceEqDiff,reduceIte,reduceAdd,reduceLT,reduceCtorEq,reduceToNat,hl,k2,c3,CL,LTN]
 first | exact hK | (simp only [hl,k2,c3,CL] at hK; exact hK)
theorem zc96 (p1 : af) (p2 : Int) (r : Bool) (h : zb3f p1 p2 = some r) (lk : Bool) (d : Option Nat) (K : av) (fr : TF) (tk : TK) (τ : TH) (hl : τ.lock ≤ τ.next) : fp G lk zb27 [.agg [.int .i64 p1.From,.int .i64 p1.To,.int .i64 p1.Ledger,.str p1.Asset,.int .i64 p1.Amount],.int .i64 p2] d K fr tk τ = K (gg fr d (.bool r)) tk τ :=
 bn (zcns p1 p2 r h τ  hl) (zcns p1 p2 r h (τ.locked τ.next)  (Nat.le_refl _) ) (by simp -implicitDefEqProofs only [TT,Ic.t,ci,reduceEqDiff,reduceIte,reduceAdd,reduceLT,reduceCtorEq,reduceToNat,hl,CL,LTN])
open Go Go.RowKit Sh Ic
def o8 (l : List ByteArray) : Option Bool := if l.length ≤ 140737488355328 ∧ ∀ x ∈ l,x.size ≤ 140737488355328 then some (decide l.Nodup) else none
theorem zc75 (p1 : List ByteArray) (r : Bool) (h : o8 p1 = some r) (lk : Bool) (d : Option Nat) (K : av) (fr : TF) (tk : TK) (τ : TH) (hl : τ.lock ≤ τ.next) : fp G lk ib [.sl (List.map TV.str p1)] d K fr tk τ = K (gg fr d (.bool r)) tk τ := by
 unfold o8 at h
 split at h
 · rename_i hc
   injection h with h
   subst h
   have hr : ∀ τ,Ru G ib [.sl (p1.map TV.str)] τ (.bool (decide p1.Nodup)) τ := fun τ => zb5d zc64 (by
    have := zb77 (key := zcab) (f := TV.str) (g := id) p1 (fun b hb => by show (if b.size ≤ 140737488355328 then some b else none) = some b; rw [if_pos (hc.2 b hb)])
    have hl : (p1.map TV.str).length ≤ 140737488355328 := by rw [List.length_map]; exact hc.1
    simp only [zbp3,zbue,TV.list,if_pos hl,this,Option.map_some,List.map_id])
   exact bn (hr _) (hr _) (by simp -implicitDefEqProofs only [TT,Ic.t,Ic.ci,Nat.reduceEqDiff,reduceIte,Nat.reduceAdd,Nat.reduceLT,reduceCtorEq,Int.reduceToNat])
 · cases h
def zb9t (l : List Int) : Option Bool := if l.length ≤ 140737488355328 ∧ ∀ x ∈ l,j7 x = true then some (decide l.Nodup) else none
theorem zc60 (p1 : List Int) (r : Bool) (h : zb9t p1 = some r) (lk : Bool) (d : Option Nat) (K : av) (fr : TF) (tk : TK) (τ : TH) (hl : τ.lock ≤ τ.next) : fp G lk mc [.sl (List.map (TV.int .i64) p1)] d K fr tk τ = K (gg fr d (.bool r)) tk τ := by
 unfold zb9t at h
 split at h
 · rename_i hc
   injection h with h
   subst h
   have hr : ∀ τ,Ru G mc [.sl (p1.map (TV.int .i64))] τ (.bool (decide p1.Nodup)) τ := fun τ => zb5d zc5q (by
    have := zb77 (key := zcac) (f := TV.int .i64) (g := id) p1 (fun b hb => by show (if j7 b then some b else none) = some b; rw [if_pos (hc.2 b hb)])
    have hl : (p1.map (TV.int .i64)).length ≤ 140737488355328 := by rw [List.length_map]; exact hc.1
    simp only [zbp4,zbue,TV.list,if_pos hl,this,Option.map_some,List.map_id])
   exact bn (hr _) (hr _) (by simp -implicitDefEqProofs only [TT,Ic.t,Ic.ci,Nat.reduceEqDiff,reduceIte,Nat.reduceAdd,Nat.reduceLT,reduceCtorEq,Int.reduceToNat])
 · cases h
def two (x : fo) : Int × Int := (x.e0,x.e1)
def uq (l : List fo) : Option Bool := if l.length ≤ 140737488355328 ∧ ∀ x ∈ l,(j7 x.e0 && j7 x.e1) = true then some (decide (l.map two).Nodup) else none
theorem zc7q (p1 : List fo) (r : Bool) (h : uq p1 = some r) (lk : Bool) (d : Option Nat) (K : av) (fr : TF) (tk : TK) (τ : TH) (hl : τ.lock ≤ τ.next) : fp G lk jq [.sl (List.map fo.tv p1)] d K fr tk τ = K (gg fr d (.bool r)) tk τ := by
 unfold uq at h
 split at h
 · rename_i hc
   injection h with h
   subst h
   have hr : ∀ τ,Ru G jq [.sl (p1.map fo.tv)] τ (.bool (decide (p1.map two).Nodup)) τ := fun τ => zb5d zc6o (by
    have := zb77 (key := zcad) (f := fo.tv) (g := two) p1 (fun b hb => by
     show (if (j7 b.e0 && j7 b.e1) = true then some (b.e0,b.e1) else none) = some (b.e0,b.e1)
     rw [if_pos (hc.2 b hb)])
    have hl : (p1.map fo.tv).length ≤ 140737488355328 := by rw [List.length_map]; exact hc.1
    simp only [zbp5,zbue,TV.list,if_pos hl,this,Option.map_some])
   exact bn (hr _) (hr _) (by simp -implicitDefEqProofs only [TT,Ic.t,Ic.ci,Nat.reduceEqDiff,reduceIte,Nat.reduceAdd,Nat.reduceLT,reduceCtorEq,Int.reduceToNat])
 · cases h
end Go.Proofs.Ytdcfoaafkppojaa
