import Derived.Test.YtdcfoaafkppojaaM20
set_option linter.unusedVariables false
set_option linter.unusedSimpArgs false
set_option linter.unusedSectionVars false
open Nat (reduceEqDiff reduceAdd reduceMul reduceLT reduceLeDiff reduceSub)
open Int (reduceToNat reduceNe reduceEq reduceNeg reduceLE)
namespace Go.Proofs.Ytdcfoaafkppojaa
open Go Go.RowKit Sh Ic
def bare (l : List ByteArray) : List af := l.map fun a => ⟨a,[]⟩
def zbtq (l : List af) : Ob := ⟨ju,l.flatMap af.cells⟩
theorem zbcx (l : List ByteArray) (a : ByteArray) : (⟨ju,(bare l).flatMap af.cells ++ [.str a,.sl []]⟩ : Ob) = zbtq (bare (l ++ [a])) := by
 unfold zbtq bare; rw [List.map_append,List.flatMap_append]; rfl
theorem zbz7 (l : List ByteArray) : (bare l).length = l.length := List.length_map ..
def zbk8 (arcs : List TV) (start delta : Int) (idP n : Nat) : SpB := ⟨⟨#[114,105,110,103]⟩,idP,n,arcs,[.int .i64 0],start,delta⟩
def zbr7 (arcs : List TV) (start delta : Int) : Ob := ⟨aw,[.str ⟨#[114,105,110,103]⟩,.slz,.sl arcs,.sl [.int .i64 0],.slz,.int .i64 start,.int .i64 delta]⟩
inductive zbm5 (arcs : List TV) (start delta : Int) (τ0 τ : TH) (id6 id7 B : Nat) : List ByteArray → Prop
 | nil (ha : τ.at id7 = some (zbr7 arcs start delta)) : zbm5 arcs start delta τ0 τ id6 id7 B []
 | obj (idP : Nat) (l : List ByteArray) (hne : l.length ≠ 0) (h0 : τ0.next ≤ idP) (hB : B ≤ idP) (h6 : id6 < idP) (h1 : idP < id7) (ha : τ.at id7 = some ((zbk8 arcs start delta idP l.length).ob .slz)) (hp : τ.at idP = some (zbtq (bare l))) : zbm5 arcs start delta τ0 τ id6 id7 B l
section
variable {τ : TH} {k : Nat} {a b : Ob}
theorem zbnn (hn : τ.next = k) : ((τ.push a).push b).next = k + 2 := by rw [fg,fg,hn]
theorem zb3z (hn : τ.next = k) : ((τ.push a).push b).at k = some a := by rw [zk (by rw [fg]; omega),← hn]; exact zbq4
theorem zb30 (hn : τ.next = k) : ((τ.push a).push b).at (k + 1) = some b := by rw [← hn,← fg (b := a)]; exact zbq4
theorem zbnr {j : Nat} (hj : j < τ.next) : ((τ.push a).push b).at j = τ.at j := by rw [zk (by rw [fg]; omega),zk hj]
end
set_option maxHeartbeats 1000000 in
theorem zbwb (n : Nat) (hn : n ≤ 6) (arcs : List TV) (start delta : Int) (z6 : Ob) (id6 : Nat) (τ0 : TH) (hl0 : τ0.lock ≤ τ0.next) (r : List ByteArray) (h6 : τ0.next ≤ id6) (B : Nat) (Q : TEx → ap) (m : Nat) : ∀ (i : Nat) (l : List ByteArray) (id7 : Nat) (τ : TH),m + i = n → l.length = i → zbb3 mh m i l = some r → yb τ0 τ → zbm5 arcs start delta τ0 τ id6 id7 B l → τ0.next ≤ id7 → id7 < τ.next → id6 < id7 → τ.at id6 = some z6 → B ≤ τ.next →
 (∀ id7 τ,yb τ0 τ → zbm5 arcs start delta τ0 τ id6 id7 B r → τ0.next ≤ id7 → id7 < τ.next → id6 < id7 → τ.at id6 = some z6 → Q (.exit 0) [(0,.int .i64 n),(6,.ptr id6 0),(7,.ptr id7 0),(8,.int .i64 n),(17,.bool false)] [] τ) →
 tW G (.loop [0,6,7,8] x7) Q [(0,.int .i64 n),(6,.ptr id6 0),(7,.ptr id7 0),(8,.int .i64 (i : Int))] [] τ := by
 induction m with
 | zero =>
  intro i l id7 τ hi hl hr hg hv h07 h7 h67 ha6 hBn hQ
  obtain rfl : i = n := by omega
  injection hr with hr
  subst hr
  have c : ¬ (i : Int) < (i : Int) := by omega
  refine nk fun LQ hnx hr he => ?_
  simp only [x7,zby5,TT,Ic.t,ci,reduceEqDiff,reduceIte,reduceAdd,reduceMul,reduceLT,reduceLeDiff,reduceSub,reduceCtorEq,reduceEq,reduceNe,reduceToNat,Int.reduceLT,reduceLE,reduceNeg,c,he]
  exact hQ _ _ hg hv h07 h7 h67 ha6
 | succ m ih =>
  intro i l id7 τ hi hl hr hg hv h07 h7 h67 ha6 hBn hQ
  obtain ⟨x,hx,hr⟩ := ob hr
  have c : (i : Int) < (n : Int) := by omega
  have w1 : IntKind.i64.wrap ((i : Int) + 1) = ((i + 1 : Nat) : Int) := by rw [wA (by omega) (by omega)]; omega
  have hlk : τ.lock ≤ τ.next := by have := hg.lock; have := hg.next; omega
  have k1 := zcsq _ _ hx
  have lt1 : ¬ τ.next + 1 < τ.next := by omega
  have l1 : τ.lock ≤ τ.next + 1 := by omega
  have h67n : ¬ id6 = id7 := by omega
  have hw7 : τ.lock ≤ id7 := by have := hg.lock; omega
  refine nk fun LQ hnx hrr he => ?_
  cases hv with
  | nil ha =>
   simp only [x7,zby5,TT,Ic.t,ci,reduceEqDiff,reduceIte,reduceAdd,reduceMul,reduceLT,reduceLeDiff,reduceSub,reduceCtorEq,reduceEq,reduceNe,reduceToNat,Int.reduceLT,reduceLE,reduceNeg,c,w1,hrr,ha,zbr7,h7,hlk,hw7,k1]
   refine ⟨by unfold maxLen; omega,zbqp (h := ?_) ..⟩
   simp only [TT,Ic.t,ci,reduceEqDiff,reduceIte,reduceAdd,reduceMul,reduceLT,reduceLeDiff,reduceSub,reduceCtorEq,reduceEq,reduceNe,reduceToNat,Int.reduceLT,reduceLE,reduceNeg,ha,zbr7,h7,hw7,fg,zk h7,h67n,lt1,l1,w1,Bool.and_false,Bool.false_eq_true]
   rw [hnx]
   simp only [TT,Ic.t,ci,reduceEqDiff,reduceIte,reduceAdd,reduceMul,reduceLT,reduceLeDiff,reduceSub,reduceCtorEq,reduceEq,reduceNe,reduceToNat,Int.reduceLT,reduceLE,reduceNeg,lt1,List.flatMap_cons,List.flatMap_nil,List.append_nil,Bool.and_false,Bool.false_eq_true]
   have g1 := ((hg.put h07 ⟨aw,[]⟩).push (zbtq (bare [x]))).push ((zbk8 arcs start delta τ.next 1).ob .slz)
   have q := ih (i + 1) [x] (τ.next + 1) _ (by omega) (by simp at hl ⊢; omega) hr g1 (.obj τ.next [x] (by simp) hg.next hBn (by omega) (by omega) (zb30 ax) (zb3z ax)) (by have := hg.next; omega) (by rw [zbnn ax]; omega) (by omega)
    (by rw [zbnr (by rw [ax]; omega),mg (by omega)]; exact ha6) (by first | (rw [zbnn ax]; omega) | (rw [zbnn nn]; omega)) hQ
   exact q
  | obj idP l hne h0 hB h6P h1 ha hp =>
   have m1 : l.length + 1 ≤ maxLen := by unfold maxLen; omega
   have m2 : (l.length + 1) * 40 ≤ 140737488355328 := by omega
   have f2 : ((bare l).flatMap af.cells).length = l.length * 2 := by rw [zbb6 (k := 2) (fun _ => rfl),zbz7]
   have hwP : τ.lock ≤ idP := by have := hg.lock; omega
   have hPn : idP < τ.next := by omega
   have e7 : (τ.put idP ⟨ju,[]⟩).at id7 = some ((zbk8 arcs start delta idP l.length).ob .slz) := by rw [mg (by omega)]; exact ha
   simp only [x7,zby5,TT,Ic.t,ci,reduceEqDiff,reduceIte,reduceAdd,reduceMul,reduceLT,reduceLeDiff,reduceSub,reduceCtorEq,reduceEq,reduceNe,reduceToNat,Int.reduceLT,reduceLE,reduceNeg,c,w1,hrr,ha,hp,zbtq,zbk8,SpB.ob,h7,hlk,hw7,hwP,k1,m1,m2,f2,hne]
   refine zbqp (h := ?_) ..
   simp only [TT,Ic.t,ci,reduceEqDiff,reduceIte,reduceAdd,reduceMul,reduceLT,reduceLeDiff,reduceSub,reduceCtorEq,reduceEq,reduceNe,reduceToNat,Int.reduceLT,reduceLE,reduceNeg,e7,zbk8,SpB.ob,h7,hw7,fg,zk h7,h67n,lt1,l1,w1,Bool.and_false,Bool.false_eq_true]
   rw [hnx]
   simp only [TT,Ic.t,ci,reduceEqDiff,reduceIte,reduceAdd,reduceMul,reduceLT,reduceLeDiff,reduceSub,reduceCtorEq,reduceEq,reduceNe,reduceToNat,Int.reduceLT,reduceLE,reduceNeg,lt1,List.flatMap_cons,List.flatMap_nil,List.append_nil,Bool.and_false,Bool.false_eq_true]
   rw [zbcx]
   have g1 := (((hg.put h0 ⟨ju,[]⟩).put h07 ⟨aw,[]⟩).push (zbtq (bare (l ++ [x])))).push ((zbk8 arcs start delta τ.next (l.length + 1)).ob .slz)
   have nn : ((τ.put idP ⟨ju,[]⟩).put id7 ⟨aw,[]⟩).next = τ.next := by rw [ax,ax]
   have q := ih (i + 1) (l ++ [x]) (τ.next + 1) _ (by omega) (by rw [List.length_append,hl]; rfl) hr g1 (.obj τ.next (l ++ [x]) (by simp) hg.next hBn (by omega) (by omega) (by rw [List.length_append]; exact zb30 nn) (zb3z nn)) (by have := hg.next; omega) (by rw [zbnn nn]; omega) (by omega)
    (by rw [zbnr (by rw [nn]; omega),mg (by omega),mg (by omega)]; exact ha6) (by first | (rw [zbnn ax]; omega) | (rw [zbnn nn]; omega)) hQ
   exact q
theorem zcmh {f : TV → Option TV} : ∀ {l k l' k' : List TV},zah8 f l = some l' → zah8 f k = some k' → zah8 f (l ++ k) = some (l' ++ k')
 | [],k,l',k',h,h2 => by injection h with h; subst h; exact h2
 | v :: r,k,l',k',h,h2 => by
  simp only [zah8] at h
  cases hv : f v with
  | none => rw [hv] at h; cases h
  | some x =>
   rw [hv] at h
   cases hr : zah8 f r with
   | none => rw [hr] at h; cases h
   | some y =>
    rw [hr] at h
    injection h with h
    subst h
    have := zcmh hr h2
    simp only [List.cons_append,zah8,hv,this]
theorem zbez {α : Type} {f : TV → Option TV} {c c' : α → List TV} (h : ∀ x,zah8 f ((c x).map TV.rd) = some (c' x)) : ∀ l : List α,zah8 f ((l.flatMap c).map TV.rd) = some (l.flatMap c')
 | [] => rfl
 | x :: r => by rw [List.flatMap_cons,List.map_append,List.flatMap_cons]; exact zcmh (h x) (zbez h r)
theorem zbmq {α : Type} {c c' : α → List TV} {k : Nat} {e : α → TV} (hk : k ≠ 0) (hc : ∀ x,(c x).length = k) (hc' : ∀ x,(c' x).length = k) (he : ∀ x,zbcd (c' x) = e x) (τ : TH) (n0 id m : Nat) (t : TypeId) (l : List α) (h0 : n0 ≤ id) (ha : τ.at id = some ⟨t,l.flatMap c⟩) (hl : l.length = m)
 (hf : ∀ x,zah8 (zanc τ n0 1) ((c x).map TV.rd) = some (c' x)) : zanc τ n0 2 (.slm id 0 m k) = some (.sl (l.map e)) := by
 subst hl
 have tr : zbbt τ id 0 (l.length * k) = some ((l.flatMap c).map TV.rd) := by
  unfold zbbt
  rw [ha]
  simp only [Option.bind_some,zbb6 hc,Nat.zero_add,Nat.le_refl,if_true,List.drop_zero,zbji hc]
 have n1 : ¬ (k = 0 ∨ id < n0) := by omega
 show (if k = 0 ∨ id < n0 then none else (zbbt τ id 0 (l.length * k)).bind fun l' => (zah8 (zanc τ n0 1) l').map fun l' => TV.sl (zbck k l.length l')) = _
 rw [if_neg n1,tr,Option.bind_some,zbez hf l,Option.map_some,zb0t hc' he]
theorem zbsr (τ : TH) (n0 id m : Nat) (l : List af) (h0 : n0 ≤ id) (ha : τ.at id = some (zbd4 l)) (hl : l.length = m) : zanc τ n0 2 (.slm id 0 m 2) = some (.sl (l.map af.tv)) :=
 zbmq (c := zbdx) (c' := af.cells) (by decide) kc2 (fun _ => rfl) (fun _ => rfl) τ n0 id m _ l h0 ha hl fun x => by
  obtain ⟨a,ks⟩ := x
  cases ks <;> rfl
theorem zbir (f : Int → Option ByteArray) (n : Nat) : ∀ (k : Nat) (l r : List ByteArray),zbb3 f n k l = some r → r.length = l.length + n := by
 induction n with
 | zero => intro k l r h; injection h with h; subst h; rfl
 | succ n ih => intro k l r h; obtain ⟨x,_,h⟩ := ob h; rw [ih _ _ _ h,List.length_append]; simp; omega
theorem zbfx (L : Nat) (rest : List af) : ∀ (i : Nat) (d r : List af),zbnc L rest i d = some r → r.length = d.length + rest.length := by
 induction rest with
 | nil => intro i d r h; injection h with h; subst h; rfl
 | cons x rest ih => intro i d r h; obtain ⟨ks,_,h⟩ := ob h; rw [ih _ _ _ h,List.length_append]; simp; omega
theorem zbr6 (n : Nat) (hn1 : 1 ≤ n) (hn : n ≤ 6) (start delta : Int) (al : List aa) (accs lr : List ByteArray) (rows : List af) (has : zbu7 n 0 2 = some al) (hac : zbb3 mh n 0 [] = some accs) (hlr : zbb3 zbc0 1 0 [] = some lr) (hrows : zbnc 1 (bare accs) 0 [] = some rows)
 (τ : TH) (hl : τ.lock ≤ τ.next) : Ru G xo [.int .i64 n,.int .i64 start,.int .i64 delta] τ (.agg (ac.cells ⟨⟨#[114,105,110,103]⟩,rows,al,[0],lr,start,delta⟩)) τ := by
 refine kb fun K hK => ?_
 rw [cb zbde (Nat.le_of_ble_eq_true rfl)]
 have l1 : τ.lock ≤ τ.next + 1 := by omega
 have l2 : τ.lock ≤ τ.next + 2 := by omega
 have k1 := zcvm _ _ _ _ has
 simp only [zby5,TT,Ic.t,ci,reduceEqDiff,reduceIte,reduceAdd,reduceMul,reduceLT,reduceLeDiff,reduceSub,reduceCtorEq,reduceEq,reduceNe,reduceToNat,Int.reduceLT,reduceLE,reduceNeg,hl,l1,l2,k1]
 have c0 : (τ.push ⟨aw,[.str ⟨#[]⟩,.slz,.slz,.slz,.slz,.int .i64 0,.int .i64 0]⟩).next = τ.next + 1 := fg
 refine zbwb n hn (al.map aa.tv) start delta ⟨aw,[.str ⟨#[]⟩,.slz,.slz,.slz,.slz,.int .i64 0,.int .i64 0]⟩ τ.next τ hl accs (Nat.le_refl _) (τ.next + 2) _ n 0 [] (τ.next + 1) _ rfl rfl hac (((yb.refl τ).push _).push _) (.nil (zb30 rfl)) (by omega) (by rw [zbnn rfl]; omega) (by omega) (zb3z rfl) (by rw [zbnn rfl]; omega) ?_
 intro id7 τ1 hg1 hr1 h07 h71 h67 ha6
 have la : accs.length = n := by rw [zbir _ _ _ _ _ hac]; simp
 cases hr1 with
 | nil ha => simp at la; omega
 | obj idP l hne h0 hB h6P h1 ha hp =>
  have lt7 : ¬ id7 < τ.next + 2 := by omega
  have hL : zbu7 n 0 2 = some al := has
  have kr := fun (K : ap) (fr : TF) (d : Option Nat) => zb59 (Γ := G) (d := d) (K := K) (fr := fr) (tk := []) (zbmh (zbk8 (al.map aa.tv) start delta idP accs.length) [] (bare accs) rows lr (by show 1 ≤ 6; omega) (by show accs.length ≤ 20; omega) (by show accs.length = _; rw [zbz7]) hlr hrows τ1 (by have := hg1.lock; have := hg1.next; omega) hp (by show idP < _; omega) (by have := hg1.lock; show _ ≤ idP; omega)) (by simp only [TT,Ic.t,ci,reduceEqDiff,reduceIte,reduceAdd,reduceMul,reduceLT,reduceLeDiff,reduceSub,reduceCtorEq,reduceEq,reduceNe,reduceToNat,Int.reduceLT,reduceLE,reduceNeg,zbk8,h1,show idP < τ1.next by omega])
  simp only [zbk8] at kr
  simp only [TT,Ic.t,ci,reduceEqDiff,reduceIte,reduceAdd,reduceMul,reduceLT,reduceLeDiff,reduceSub,reduceCtorEq,reduceEq,reduceNe,reduceToNat,Int.reduceLT,reduceLE,reduceNeg,h71,lt7,ha,zbk8,SpB.ob,kr]
  have hPn : idP < τ1.next := by omega
  have hb : (τ1.put idP (zbd4 rows)).at τ.next = some ⟨aw,[.str ⟨#[]⟩,.slz,.slz,.slz,.slz,.int .i64 0,.int .i64 0]⟩ := by rw [mg (by omega)]; exact ha6
  refine zbm9 (hz := rfl) (hb := hb) (hc := ⟨by show τ1.lock ≤ _; have := hg1.lock; omega,by simp⟩) (hx := fun v e => by cases e) (h := ?_) ..
  obtain ⟨τ2,e2⟩ : ∃ τ2,τ2 = (τ1.put idP (zbd4 rows)).put τ.next ⟨aw,[]⟩ := ⟨_,rfl⟩
  have n2 : τ2.next = τ1.next := by rw [e2,ax,ax]
  have hg2 : yb τ τ2 := by rw [e2]; exact (hg1.put (by omega) _).put (Nat.le_refl _) _
  have aP : τ2.at idP = some (zbd4 rows) := by rw [e2,mg (by omega)]; exact zbla hPn
  rw [← e2]
  have e3 : (τ1.put idP (zbd4 rows)).next = τ2.next := by rw [n2,ax]
  have lk2 : τ2.lock ≤ τ2.next := by have := hg2.lock; have := hg2.next; omega
  have hP2 : idP < τ2.next + 1 := by omega
  rw [e3]
  have rl : rows.length = accs.length := by rw [zbfx _ _ _ _ _ hrows,zbz7]; simp
  have fr : ∀ x,zanc (τ2.push x) τ.next 2 (.slm idP 0 accs.length 2) = some (.sl (rows.map af.tv)) := fun x => zbsr _ _ _ _ _ h0 (by rw [zk (by omega)]; exact aP) rl
  have cx : ∀ x,(τ2.push x).cut τ.next = τ := fun x => (hg2.push x).cut
  simp only [TT,Ic.t,ci,reduceEqDiff,reduceIte,reduceAdd,reduceMul,reduceLT,reduceLeDiff,reduceSub,reduceCtorEq,reduceEq,reduceNe,reduceToNat,Int.reduceLT,reduceLE,reduceNeg,lk2,hP2,fr,cx]
  exact hK
noncomputable def xj (n start delta : Int) : Option ac := if 1 ≤ n ∧ n ≤ 6 then
 zbu7 n 0 2 >>= fun al =>
 zbb3 mh n.toNat 0 [] >>= fun accs =>
 zbb3 zbc0 1 0 [] >>= fun lr =>
 zbnc 1 (bare accs) 0 [] >>= fun rows =>
 some ⟨⟨#[114,105,110,103]⟩,rows,al,[0],lr,start,delta⟩ else none
theorem zcal (p1 p2 p3 : Int) (r : ac) (h : xj p1 p2 p3 = some r) (lk : Bool) (d : Option Nat) (K : ap) (fr : TF) (tk : TK) (τ : TH) (hl : τ.lock ≤ τ.next) : fj G lk xo [.int .i64 p1,.int .i64 p2,.int .i64 p3] d K fr tk τ = K (eo fr d (.agg (ac.cells r))) tk τ := by
 obtain ⟨⟨h1,h2⟩,h⟩ := ifS h
 obtain ⟨al,a1,h⟩ := ob h
 obtain ⟨accs,a2,h⟩ := ob h
 obtain ⟨lr,a3,h⟩ := ob h
 obtain ⟨rows,a4,h⟩ := ob h
 injection h with h
 subst h
 obtain ⟨n,rfl⟩ : ∃ n : Nat,p1 = (n : Int) := ⟨p1.toNat,by omega⟩
 have hr := fun τ hl => zbr6 n (by omega) (by omega) p2 p3 al accs lr rows a1 a2 a3 a4 τ hl
 exact av (hr _ hl) (hr _ (Nat.le_refl _)) (by simp only [TT,Ic.t,ci,reduceEqDiff,reduceIte,reduceAdd,reduceLT,reduceCtorEq,reduceToNat])
end Go.Proofs.Ytdcfoaafkppojaa
open Nat (reduceEqDiff reduceAdd reduceMul reduceLT reduceLeDiff reduceSub)
open Int (reduceToNat reduceNe reduceEq reduceNeg reduceLE)
namespace Go.Proofs.Ytdcfoaafkppojaa
open Go Go.RowKit Sh Ic
noncomputable def xk (p1 : Int) (p2 : Int) : Option Int :=
 if ¬ p2 = 0 then
  if (Int.tmod p1 p2) < (0 : Int) then
   some (IntKind.i64.wrap ((Int.tmod p1 p2) + p2))
  else
  some (Int.tmod p1 p2)
 else
  none
theorem zcb1 (p1 : Int) (p2 : Int) (r : Int) (h : xk p1 p2 = some r) (τ : TH) (hl : τ.lock ≤ τ.next) : Ru G xp [.int .i64 p1,.int .i64 p2] τ (.int .i64 r) τ := by
 refine kb fun K hK => ?_
 rw [cb zcu4 (Nat.le_of_ble_eq_true rfl)]
 unfold xk at h
 obtain ⟨c1,h⟩ := ifS h
 by_cases c2 : (Int.tmod p1 p2) < (0 : Int)
 · rw [if_pos c2] at h
   injection h with h; subst h
   simp only [zb9i,TT,Ic.t,ci,reduceEqDiff,reduceIte,reduceAdd,reduceLT,reduceCtorEq,reduceToNat,hl,c1,c2,CL,LTN]
   exact hK
 rw [if_neg c2] at h
 injection h with h; subst h
 simp only [zb9i,TT,Ic.t,ci,reduceEqDiff,reduceIte,reduceAdd,reduceLT,reduceCtorEq,reduceToNat,hl,c1,c2,CL,LTN]
 exact hK
theorem zcrc (p1 : Int) (p2 : Int) (r : Int) (h : xk p1 p2 = some r) (lk : Bool) (d : Option Nat) (K : ap) (fr : TF) (tk : TK) (τ : TH) (hl : τ.lock ≤ τ.next) : fj G lk xp [.int .i64 p1,.int .i64 p2] d K fr tk τ = K (eo fr d (.int .i64 r)) tk τ :=
 av (zcb1 p1 p2 r h τ  hl) (zcb1 p1 p2 r h (τ.locked τ.next)  (Nat.le_refl _) ) (by simp only [TT,Ic.t,ci,reduceEqDiff,reduceIte,reduceAdd,reduceLT,reduceCtorEq,reduceToNat,hl,CL,LTN])
noncomputable def b7 (v0 : (List Int)) (v1 : ByteArray) (v2 : (List af)) (v4 : (List Int)) (v5 : (List ByteArray)) (v6 : Int) (v7 : Int) (v3 : (List aa)) (v8 : Int) : Option (LS ((List aa) × Int) (ByteArray × (List af) × (List aa) × (List Int) × (List ByteArray) × Int × Int)) :=
 if (IntKind.i64.wrap (v8 + (1 : Int))) < ((v0.length : Nat) : Int) then
  ixL v0 v8 >>= fun y2 =>
  ixL v0 (IntKind.i64.wrap (v8 + (1 : Int))) >>= fun y4 =>
  if (v3.length + 1) * 48 ≤ 140737488355328 then
   some (.nx ((v3 ++ [(⟨y2,y4,(0 : Int),(⟨#[103,111,108,100]⟩ : ByteArray),(1 : Int)⟩ : aa)]),(IntKind.i64.wrap (v8 + (2 : Int)))))
  else
   none
 else
 some (.dn (v1,v2,v3,v4,v5,v6,v7))
noncomputable def en (v0 : (List Int)) (v1 : ByteArray) (v2 : (List af)) (v4 : (List Int)) (v5 : (List ByteArray)) (v6 : Int) (v7 : Int) (v3 : (List aa)) (v8 : Int) : Option (ByteArray × (List af) × (List aa) × (List Int) × (List ByteArray) × Int × Int) := qc (fun st => b7 v0 v1 v2 v4 v5 v6 v7 st.1 st.2) (v3,v8)
theorem va (v0 : (List Int)) (v1 : ByteArray) (v2 : (List af)) (v4 : (List Int)) (v5 : (List ByteArray)) (v6 : Int) (v7 : Int) (v3 : (List aa)) (v8 : Int) : en v0 v1 v2 v4 v5 v6 v7 v3 v8 = b7 v0 v1 v2 v4 v5 v6 v7 v3 v8 >>= LS.go (fun st => en v0 v1 v2 v4 v5 v6 v7 st.1 st.2) := ij (fun st => b7 v0 v1 v2 v4 v5 v6 v7 st.1 st.2) (v3,v8)
def kc (v0 : (List Int)) (v1 : ByteArray) (v2 : (List af)) (v4 : (List Int)) (v5 : (List ByteArray)) (v6 : Int) (v7 : Int) (v3 : (List aa)) (v8 : Int) (r : ByteArray × (List af) × (List aa) × (List Int) × (List ByteArray) × Int × Int) : Prop := ∀ (τ : TH) (o0 : Nat) (hl : τ.lock ≤ τ.next) (ha0 : τ.at o0 = some ⟨aw,[.str v1,.sl (List.map af.tv v2),oc du aa.tv v3,.sl (List.map (TV.int .i64) v4),.sl (List.map TV.str v5),.int .i64 v6,.int .i64 v7]⟩) (hi0 : o0 < τ.next) (hw0 : τ.lock ≤ o0) (Q : TEx → ap) (hQ0 : ∀ (fr : TF) (tk2 : TK) (τ2 : TH),tk2.take 0 = [] → τ2.cut τ.next = (τ.put o0 ⟨aw,[.str r.1,.sl (List.map af.tv r.2.1),oc du aa.tv r.2.2.1,.sl (List.map (TV.int .i64) r.2.2.2.1),.sl (List.map TV.str r.2.2.2.2.1),.int .i64 r.2.2.2.2.2.1,.int .i64 r.2.2.2.2.2.2]⟩) → Q (.exit 0) fr tk2 τ2) ,tW G (.loop [0,1,3] my) Q [(0,.sl (List.map (TV.int .i64) v0)),(1,.ptr o0 0),(3,.int .i64 v8)] [] τ
theorem zct9 (v0 : (List Int)) (v1 : ByteArray) (v2 : (List af)) (v4 : (List Int)) (v5 : (List ByteArray)) (v6 : Int) (v7 : Int) (v3 : (List aa)) (v8 : Int) (r : ByteArray × (List af) × (List aa) × (List Int) × (List ByteArray) × Int × Int) (h : en v0 v1 v2 v4 v5 v6 v7 v3 v8 = some r) : kc v0 v1 v2 v4 v5 v6 v7 v3 v8 r := by
 refine fi (f := fun st => b7 v0 v1 v2 v4 v5 v6 v7 st.1 st.2) (P := fun st r => ∀ (v3 : (List aa)) (v8 : Int),(v3,v8) = st → kc v0 v1 v2 v4 v5 v6 v7 v3 v8 r) ?_ h v3 v8 rfl
 clear h r v8 v3
 intro st o h r ih v3 v8 hst τ o0  hl ha0 hi0 hw0 Q hQ0
 subst hst
 have h : b7 v0 v1 v2 v4 v5 v6 v7 v3 v8 = some o := h
 unfold b7 at h
 refine nk fun LQ hn hr he => ?_
 by_cases c1 : (IntKind.i64.wrap (v8 + (1 : Int))) < ((v0.length : Nat) : Int)
 · rw [if_pos c1] at h
   obtain ⟨y2,hy2,h⟩ := ob h
   have f3 := bv hy2
   have f3a := (f3.2.2 (TV.int .i64)).1
   have f3b := (f3.2.2 (TV.int .i64)).2
   try simp only [CL,MC,reduceToNat] at f3 f3a f3b
   obtain ⟨y4,hy4,h⟩ := ob h
   have f5 := bv hy4
   have f5a := (f5.2.2 (TV.int .i64)).1
   have f5b := (f5.2.2 (TV.int .i64)).2
   try simp only [CL,MC,reduceToNat] at f5 f5a f5b
   obtain ⟨c6,h⟩ := ifS h
   have f7 : 1 ≤ maxLen := by unfold maxLen; omega
   have f8 : v3.length + 1 ≤ maxLen := by unfold maxLen; omega
   have f9 : ((List.map aa.tv v3).all fun e => e.cells.length == 5) = true := zbd2 (fun _ => rfl) _
   have f10 : List.map aa.tv v3 ++ List.map aa.tv [(⟨y2,y4,(0 : Int),(⟨#[103,111,108,100]⟩ : ByteArray),(1 : Int)⟩ : aa)] = List.map aa.tv (v3 ++ [(⟨y2,y4,(0 : Int),(⟨#[103,111,108,100]⟩ : ByteArray),(1 : Int)⟩ : aa)]) := zbm1 _ _
   try simp only [CL,List.map_cons,List.map_nil] at f10
   have f11 : TV.slo du (List.map aa.tv (v3 ++ [(⟨y2,y4,(0 : Int),(⟨#[103,111,108,100]⟩ : ByteArray),(1 : Int)⟩ : aa)])) = oc du aa.tv (v3 ++ [(⟨y2,y4,(0 : Int),(⟨#[103,111,108,100]⟩ : ByteArray),(1 : Int)⟩ : aa)]) := zbv6 (by simp)
   injection h with h; subst h
   have ih := ih (v3 ++ [(⟨y2,y4,(0 : Int),(⟨#[103,111,108,100]⟩ : ByteArray),(1 : Int)⟩ : aa)]) (IntKind.i64.wrap (v8 + (2 : Int))) rfl
   unfold kc at ih
   simp only [my,po,TT,Ic.t,ci,reduceEqDiff,reduceIte,reduceAdd,reduceMul,reduceLT,reduceLeDiff,reduceSub,reduceCtorEq,reduceEq,reduceNe,reduceToNat,Int.reduceLT,reduceLE,reduceNeg,OC,hl,ha0,hi0,hw0,c1,f3.1,f3.2.1,f3a,f3b,f5.1,f5.2.1,f5a,f5b,c6,f7,f8,f9,f10,f11,CL,LTN]
   rw [hn]
   simp only [TT,Ic.t,ci,reduceEqDiff,reduceIte,reduceAdd,reduceMul,reduceLT,reduceLeDiff,reduceSub,reduceCtorEq,reduceEq,reduceNe,reduceToNat,Int.reduceLT,reduceLE,reduceNeg,OC,hl,ha0,hi0,hw0,c1,f3.1,f3.2.1,f3a,f3b,f5.1,f5.2.1,f5a,f5b,c6,f7,f8,f9,f10,f11,CL,LTN]
   exact ih  (τ.put o0 ⟨aw,[.str v1,.sl (List.map af.tv v2),oc du aa.tv (v3 ++ [(⟨y2,y4,(0 : Int),(⟨#[103,111,108,100]⟩ : ByteArray),(1 : Int)⟩ : aa)]),.sl (List.map (TV.int .i64) v4),.sl (List.map TV.str v5),.int .i64 v6,.int .i64 v7]⟩) o0   (by first | assumption | (simp only [ag,ah]; assumption)) (by simp only [TT,Ic.t,ci,reduceEqDiff,reduceIte,reduceAdd,reduceMul,reduceLT,reduceLeDiff,reduceSub,reduceCtorEq,reduceEq,reduceNe,reduceToNat,Int.reduceLT,reduceLE,reduceNeg,OC,hl,ha0,hi0,hw0,c1,f3.1,f3.2.1,f3a,f3b,f5.1,f5.2.1,f5a,f5b,c6,f7,f8,f9,f10,f11,CL,LTN]) (by first | assumption | (simp only [ag,ah]; assumption)) (by first | assumption | (simp only [ag,ah]; assumption)) Q (fun fr tk2 τ2  ht hτ => hQ0 fr tk2 τ2  ht (by first | exact hτ | simpa only [ag,zbno,hl,ha0,hi0,hw0] using hτ))
 rw [if_neg c1] at h
 injection h with h; subst h
 obtain rfl : _ = r := ih
 simp only [my,po,TT,Ic.t,ci,reduceEqDiff,reduceIte,reduceAdd,reduceMul,reduceLT,reduceLeDiff,reduceSub,reduceCtorEq,reduceEq,reduceNe,reduceToNat,Int.reduceLT,reduceLE,reduceNeg,OC,hl,ha0,hi0,hw0,he,hr,c1,CL,LTN]
 exact hQ0  _ _ _   (by first | rfl | (simp only [TT,Ic.t,ci,reduceEqDiff,reduceIte,reduceAdd,reduceMul,reduceLT,reduceLeDiff,reduceSub,reduceCtorEq,reduceEq,reduceNe,reduceToNat,Int.reduceLT,reduceLE,reduceNeg,OC,hl,ha0,hi0,hw0,c1,CL,LTN])) (by first | exact jd (Nat.le_refl _) | (simp only [TT,Ic.t,ci,reduceEqDiff,reduceIte,reduceAdd,reduceMul,reduceLT,reduceLeDiff,reduceSub,reduceCtorEq,reduceEq,reduceNe,reduceToNat,Int.reduceLT,reduceLE,reduceNeg,OC,hl,ha0,hi0,hw0,zc ha0,c1,CL,LTN]))
noncomputable def eg (p1 : (List Int)) (p2 : ac) : Option (ByteArray × (List af) × (List aa) × (List Int) × (List ByteArray) × Int × Int) :=
 en p1 p2.ID p2.Parties p2.Leaders p2.Locks p2.Start p2.Delta [] (0 : Int) >>= fun y1 =>
 some (y1.1,y1.2.1,y1.2.2.1,y1.2.2.2.1,y1.2.2.2.2.1,y1.2.2.2.2.2.1,y1.2.2.2.2.2.2)
theorem zct4 (p1 : (List Int)) (p2 : ac) (r : ByteArray × (List af) × (List aa) × (List Int) × (List ByteArray) × Int × Int) (h : eg p1 p2 = some r) (τ : TH) (o0 : Nat) (hl : τ.lock ≤ τ.next) (ha0 : τ.at o0 = some ⟨aw,[.str p2.ID,.sl (List.map af.tv p2.Parties),.sl (List.map aa.tv p2.Arcs),.sl (List.map (TV.int .i64) p2.Leaders),.sl (List.map TV.str p2.Locks),.int .i64 p2.Start,.int .i64 p2.Delta]⟩) (hi0 : o0 < τ.next) (hw0 : τ.lock ≤ o0) : Ru G jq [.sl (List.map (TV.int .i64) p1),.ptr o0 0] τ (.tup []) (τ.put o0 ⟨aw,[.str r.1,.sl (List.map af.tv r.2.1),oc du aa.tv r.2.2.1,.sl (List.map (TV.int .i64) r.2.2.2.1),.sl (List.map TV.str r.2.2.2.2.1),.int .i64 r.2.2.2.2.2.1,.int .i64 r.2.2.2.2.2.2]⟩) := by
 refine kb fun K hK => ?_
 rw [cb zctw (Nat.le_of_ble_eq_true rfl)]
 unfold eg at h
 obtain ⟨y1,hy1,h⟩ := ob h
 simp only [po,TT,Ic.t,ci,reduceEqDiff,reduceIte,reduceAdd,reduceMul,reduceLT,reduceLeDiff,reduceSub,reduceCtorEq,reduceEq,reduceNe,reduceToNat,Int.reduceLT,reduceLE,reduceNeg,OC,hl,ha0,hi0,hw0,CL,LTN]
 have Sy1 := zct9 p1 p2.ID p2.Parties p2.Leaders p2.Locks p2.Start p2.Delta [] (0 : Int) y1 hy1
 unfold kc at Sy1
 refine Sy1 _ o0 (by first | assumption | omega | (simp only [ag,ak,ah,ay]; omega)) (by simp only [TT,Ic.t,ci,reduceEqDiff,reduceIte,reduceAdd,reduceMul,reduceLT,reduceLeDiff,reduceSub,reduceCtorEq,reduceEq,reduceNe,reduceToNat,Int.reduceLT,reduceLE,reduceNeg,OC,hl,ha0,hi0,hw0,CL,LTN]) (by first | assumption | omega | (simp only [ag,ak,ah,ay]; omega)) (by first | assumption | omega | (simp only [ag,ak,ah,ay]; omega)) _ ?_
 intro frq2 tkq2 τq2 htq2 hcq2
 have hcq2 := eu (n := τ.next) hcq2 (by first | omega | (simp only [ag,ak]; omega))
 try simp only [List.take_succ_cons,List.take_zero,List.take_nil,CL] at htq2
 try simp only [TT,Ic.t,ci,reduceEqDiff,reduceIte,reduceAdd,reduceMul,reduceLT,reduceLeDiff,reduceSub,reduceCtorEq,reduceEq,reduceNe,reduceToNat,Int.reduceLT,reduceLE,reduceNeg,OC,hl,ha0,hi0,hw0,CL,LTN] at hcq2
 injection h with h; subst h
 simp only [po,TT,Ic.t,ci,reduceEqDiff,reduceIte,reduceAdd,reduceMul,reduceLT,reduceLeDiff,reduceSub,reduceCtorEq,reduceEq,reduceNe,reduceToNat,Int.reduceLT,reduceLE,reduceNeg,OC,hl,ha0,hi0,hw0,htq2,hcq2,CL,LTN]
 exact hK
theorem mz (p1 : (List Int)) (p2 : ac) (r : ByteArray × (List af) × (List aa) × (List Int) × (List ByteArray) × Int × Int) (h : eg p1 p2 = some r) (d : Option Nat) (K : ap) (fr : TF) (tk : TK) (τ : TH) (o0 : Nat) (hl : τ.lock ≤ τ.next) (ha0 : τ.at o0 = some ⟨aw,[.str p2.ID,.sl (List.map af.tv p2.Parties),.sl (List.map aa.tv p2.Arcs),.sl (List.map (TV.int .i64) p2.Leaders),.sl (List.map TV.str p2.Locks),.int .i64 p2.Start,.int .i64 p2.Delta]⟩) (hi0 : o0 < τ.next) (hw0 : τ.lock ≤ o0) : fj G false jq [.sl (List.map (TV.int .i64) p1),.ptr o0 0] d K fr tk τ = K (eo fr d (.tup [])) tk (τ.put o0 ⟨aw,[.str r.1,.sl (List.map af.tv r.2.1),oc du aa.tv r.2.2.1,.sl (List.map (TV.int .i64) r.2.2.2.1),.sl (List.map TV.str r.2.2.2.2.1),.int .i64 r.2.2.2.2.2.1,.int .i64 r.2.2.2.2.2.2]⟩) :=
 zb59 (zct4 p1 p2 r h τ o0 hl ha0 hi0 hw0) (by simp only [TT,Ic.t,ci,reduceEqDiff,reduceIte,reduceAdd,reduceLT,reduceCtorEq,reduceToNat,OC,hl,ha0,hi0,hw0,CL,LTN])
noncomputable def pv (p1 : ByteArray) : Option Bool :=
 if (1 : Int) ≤ ((p1.size : Nat) : Int) then
  some (decide (((p1.size : Nat) : Int) ≤ (16 : Int)))
 else
 some false
theorem zcdc (p1 : ByteArray) (r : Bool) (h : pv p1 = some r) (τ : TH) (hl : τ.lock ≤ τ.next) : Ru G qo [.str p1] τ (.bool r) τ := by
 refine kb fun K hK => ?_
 rw [cb zcvd (Nat.le_of_ble_eq_true rfl)]
 unfold pv at h
 by_cases c1 : (1 : Int) ≤ ((p1.size : Nat) : Int)
 · rw [if_pos c1] at h
   injection h with h; subst h
   simp only [zb9j,TT,Ic.t,ci,reduceEqDiff,reduceIte,reduceAdd,reduceLT,reduceCtorEq,reduceToNat,hl,c1,CL,LTN]
   exact hK
 rw [if_neg c1] at h
 injection h with h; subst h
 simp only [zb9j,TT,Ic.t,ci,reduceEqDiff,reduceIte,reduceAdd,reduceLT,reduceCtorEq,reduceToNat,hl,c1,CL,LTN]
 exact hK
theorem zb2f (p1 : ByteArray) (r : Bool) (h : pv p1 = some r) (lk : Bool) (d : Option Nat) (K : ap) (fr : TF) (tk : TK) (τ : TH) (hl : τ.lock ≤ τ.next) : fj G lk qo [.str p1] d K fr tk τ = K (eo fr d (.bool r)) tk τ :=
 av (zcdc p1 r h τ  hl) (zcdc p1 r h (τ.locked τ.next)  (Nat.le_refl _) ) (by simp only [TT,Ic.t,ci,reduceEqDiff,reduceIte,reduceAdd,reduceLT,reduceCtorEq,reduceToNat,hl,CL,LTN])
noncomputable def ky (p1 : Int) (p2 : Int) (p3 : Int) : Option Bool :=
 if p2 ≤ p1 then
  some (decide (p1 ≤ p3))
 else
 some false
theorem zb90 (p1 : Int) (p2 : Int) (p3 : Int) (r : Bool) (h : ky p1 p2 p3 = some r) (τ : TH) (hl : τ.lock ≤ τ.next) : Ru G lm [.int .i64 p1,.int .i64 p2,.int .i64 p3] τ (.bool r) τ := by
 refine kb fun K hK => ?_
 rw [cb zbjf (Nat.le_of_ble_eq_true rfl)]
 unfold ky at h
 by_cases c1 : p2 ≤ p1
 · rw [if_pos c1] at h
   injection h with h; subst h
   simp only [zcm3,TT,Ic.t,ci,reduceEqDiff,reduceIte,reduceAdd,reduceLT,reduceCtorEq,reduceToNat,hl,c1,CL,LTN]
   exact hK
 rw [if_neg c1] at h
 injection h with h; subst h
 simp only [zcm3,TT,Ic.t,ci,reduceEqDiff,reduceIte,reduceAdd,reduceLT,reduceCtorEq,reduceToNat,hl,c1,CL,LTN]
 exact hK
theorem mm (p1 : Int) (p2 : Int) (p3 : Int) (r : Bool) (h : ky p1 p2 p3 = some r) (lk : Bool) (d : Option Nat) (K : ap) (fr : TF) (tk : TK) (τ : TH) (hl : τ.lock ≤ τ.next) : fj G lk lm [.int .i64 p1,.int .i64 p2,.int .i64 p3] d K fr tk τ = K (eo fr d (.bool r)) tk τ :=
 av (zb90 p1 p2 p3 r h τ  hl) (zb90 p1 p2 p3 r h (τ.locked τ.next)  (Nat.le_refl _) ) (by simp only [TT,Ic.t,ci,reduceEqDiff,reduceIte,reduceAdd,reduceLT,reduceCtorEq,reduceToNat,hl,CL,LTN])
noncomputable def se (p1 : ByteArray) (p2 : Int) : Option Bool :=
 some (decide (¬ (((p1.size : Nat) : Int) = p2)))
theorem zchw (p1 : ByteArray) (p2 : Int) (r : Bool) (h : se p1 p2 = some r) (τ : TH) (o0 : Nat) (hl : τ.lock ≤ τ.next) (ha0 : τ.at o0 = some ⟨dq,[.int .i64 p2]⟩) (hi0 : o0 < τ.next) : Ru G fy [.str p1,.ptr o0 0] τ (.bool r) τ := by
 refine kb fun K hK => ?_
 rw [cb zcr6 (Nat.le_of_ble_eq_true rfl)]
 unfold se at h
 injection h with h; subst h
 simp only [zcrw,TT,Ic.t,ci,reduceEqDiff,reduceIte,reduceAdd,reduceLT,reduceCtorEq,reduceToNat,hl,ha0,hi0,CL,LTN]
 exact hK
theorem zcs6 (p1 : ByteArray) (p2 : Int) (r : Bool) (h : se p1 p2 = some r) (lk : Bool) (d : Option Nat) (K : ap) (fr : TF) (tk : TK) (τ : TH) (o0 : Nat) (hl : τ.lock ≤ τ.next) (ha0 : τ.at o0 = some ⟨dq,[.int .i64 p2]⟩) (hi0 : o0 < τ.next) : fj G lk fy [.str p1,.ptr o0 0] d K fr tk τ = K (eo fr d (.bool r)) tk τ :=
 av (zchw p1 p2 r h τ o0 hl ha0 hi0) (zchw p1 p2 r h (τ.locked τ.next) o0 (Nat.le_refl _) (by rw [za4o]; exact ha0) hi0) (by simp only [TT,Ic.t,ci,reduceEqDiff,reduceIte,reduceAdd,reduceLT,reduceCtorEq,reduceToNat,hl,ha0,hi0,CL,LTN])
noncomputable def au (v0 : (List ByteArray)) (v1 : Int) (v2 : Int) (v3 : Int) : Option (LS (Int) (LX (Unit) (Int))) :=
 if v3 < v2 then
  ixL v0 v3 >>= fun y2 =>
  se y2 v1 >>= fun y4 =>
  if y4 = true then
   some (.dn (.rt v3))
  else
  some (.nx (IntKind.i64.wrap (v3 + (1 : Int))))
 else
 some (.dn (.ex ()))
noncomputable def bm (v0 : (List ByteArray)) (v1 : Int) (v2 : Int) (v3 : Int) : Option (LX (Unit) (Int)) := qc (fun st => au v0 v1 v2 st) v3
theorem jo (v0 : (List ByteArray)) (v1 : Int) (v2 : Int) (v3 : Int) : bm v0 v1 v2 v3 = au v0 v1 v2 v3 >>= LS.go (fun st => bm v0 v1 v2 st) := ij (fun st => au v0 v1 v2 st) v3
def dg (v0 : (List ByteArray)) (v1 : Int) (v2 : Int) (v3 : Int) (r : LX (Unit) (Int)) : Prop := ∀ (τ : TH) (o0 : Nat) (hl : τ.lock ≤ τ.next) (ha0 : τ.at o0 = some ⟨dq,[.int .i64 v1]⟩) (hi0 : o0 < τ.next) (Q : TEx → ap) (hQ0 : ∀ v : Unit,r = (.ex v) → ∀ (fr : TF) (tk2 : TK) (τ2 : TH),tk2.take 0 = [] → τ2.cut τ.next = τ → Q (.exit 0) fr tk2 τ2) (hQ1 : ∀ v : Int,r = (.rt v) → ∀ (tk2 : TK) (τ2 : TH),τ2.cut τ.next = τ → Q .ret [(4,.int .i64 v)] tk2 τ2) ,tW G (.loop [0,1,7,8] cw) Q [(0,.sl (List.map TV.str v0)),(1,.func fy [] [.ptr o0 0]),(7,.int .i64 v2),(8,.int .i64 v3)] [] τ
theorem rq (v0 : (List ByteArray)) (v1 : Int) (v2 : Int) (v3 : Int) (r : LX (Unit) (Int)) (h : bm v0 v1 v2 v3 = some r) : dg v0 v1 v2 v3 r := by
 refine fi (f := fun st => au v0 v1 v2 st) (P := fun st r => ∀ (v3 : Int),v3 = st → dg v0 v1 v2 v3 r) ?_ h v3 rfl
 clear h r v3
 intro st o h r ih v3 hst τ o0  hl ha0 hi0 Q hQ0 hQ1
 subst hst
 have h : au v0 v1 v2 v3 = some o := h
 unfold au at h
 refine nk fun LQ hn hr he => ?_
 by_cases c1 : v3 < v2
 · rw [if_pos c1] at h
   obtain ⟨y2,hy2,h⟩ := ob h
   have f3 := bv hy2
   have f3a := (f3.2.2 TV.str).1
   have f3b := (f3.2.2 TV.str).2
   try simp only [CL,MC,reduceToNat] at f3 f3a f3b
   obtain ⟨y4,hy4,h⟩ := ob h
   have k5 := zcs6 y2 v1 _ hy4
   try simp only [CL,MC,reduceToNat] at k5
   by_cases c6 : y4 = true
   · rw [if_pos c6] at h
     injection h with h; subst h
     obtain rfl : _ = r := ih
     simp only [cw,b9,TT,Ic.t,ci,reduceEqDiff,reduceIte,reduceAdd,reduceLT,reduceCtorEq,reduceToNat,hl,ha0,hi0,he,hr,c1,f3.1,f3.2.1,f3a,f3b,k5,c6,CL,LTN]
     exact hQ1 v3 rfl  _ _  (by first | exact jd (Nat.le_refl _) | (simp only [TT,Ic.t,ci,reduceEqDiff,reduceIte,reduceAdd,reduceLT,reduceCtorEq,reduceToNat,hl,ha0,hi0,c1,f3.1,f3.2.1,f3a,f3b,k5,c6,CL,LTN]))
   rw [if_neg c6] at h
   have c6 := Bool.eq_false_iff.2 c6
   injection h with h; subst h
   have ih := ih (IntKind.i64.wrap (v3 + (1 : Int))) rfl
   unfold dg at ih
   simp only [cw,b9,TT,Ic.t,ci,reduceEqDiff,reduceIte,reduceAdd,reduceLT,reduceCtorEq,reduceToNat,hl,ha0,hi0,c1,f3.1,f3.2.1,f3a,f3b,k5,c6,CL,LTN]
   rw [hn]
   simp only [TT,Ic.t,ci,reduceEqDiff,reduceIte,reduceAdd,reduceLT,reduceCtorEq,reduceToNat,hl,ha0,hi0,c1,f3.1,f3.2.1,f3a,f3b,k5,c6,CL,LTN]
   exact ih  τ o0   (by first | assumption | (simp only [ag,ah]; assumption)) (by simp only [TT,Ic.t,ci,reduceEqDiff,reduceIte,reduceAdd,reduceLT,reduceCtorEq,reduceToNat,hl,ha0,hi0,c1,f3.1,f3.2.1,f3a,f3b,k5,c6,CL,LTN]) (by first | assumption | (simp only [ag,ah]; assumption)) Q hQ0 hQ1
 rw [if_neg c1] at h
 injection h with h; subst h
 obtain rfl : _ = r := ih
 simp only [cw,b9,TT,Ic.t,ci,reduceEqDiff,reduceIte,reduceAdd,reduceLT,reduceCtorEq,reduceToNat,hl,ha0,hi0,he,hr,c1,CL,LTN]
 exact hQ0 () rfl  _ _ _   (by first | rfl | (simp only [TT,Ic.t,ci,reduceEqDiff,reduceIte,reduceAdd,reduceLT,reduceCtorEq,reduceToNat,hl,ha0,hi0,c1,CL,LTN])) (by first | exact jd (Nat.le_refl _) | (simp only [TT,Ic.t,ci,reduceEqDiff,reduceIte,reduceAdd,reduceLT,reduceCtorEq,reduceToNat,hl,ha0,hi0,c1,CL,LTN]))
noncomputable def de (p1 : (List ByteArray)) (p2 : Int) : Option Int :=
 bm p1 p2 ((p1.length : Nat) : Int) (0 : Int) >>= fun y1 =>
 match y1 with
 | .ex w2 =>
  some (-1 : Int)
 | .rt w4 =>
  some w4
theorem lp (p1 : (List ByteArray)) (p2 : Int) (r : Int) (h : de p1 p2 = some r) (τ : TH) (o0 : Nat) (hl : τ.lock ≤ τ.next) (ha0 : τ.at o0 = some ⟨dq,[.int .i64 p2]⟩) (hi0 : o0 < τ.next) : Ru G ca [.sl (List.map TV.str p1),.func fy [] [.ptr o0 0]] τ (.int .i64 r) τ := by
 refine kb fun K hK => ?_
 rw [cb vz (Nat.le_of_ble_eq_true rfl)]
 unfold de at h
 obtain ⟨y1,hy1,h⟩ := ob h
 simp only [b9,TT,Ic.t,ci,reduceEqDiff,reduceIte,reduceAdd,reduceLT,reduceCtorEq,reduceToNat,hl,ha0,hi0,CL,LTN]
 have Sy1 := rq p1 p2 ((p1.length : Nat) : Int) (0 : Int) y1 hy1
 unfold dg at Sy1
 refine Sy1 _ o0 (by first | assumption | omega | (simp only [ag,ak,ah,ay]; omega)) (by simp only [TT,Ic.t,ci,reduceEqDiff,reduceIte,reduceAdd,reduceLT,reduceCtorEq,reduceToNat,hl,ha0,hi0,CL,LTN]) (by first | assumption | omega | (simp only [ag,ak,ah,ay]; omega)) _ ?_ ?_
 · intro w2 e frq3 tkq3 τq3 htq3 hcq3
   subst e
   simp only at h
   have hcq3 := eu (n := τ.next) hcq3 (by first | omega | (simp only [ag,ak]; omega))
   try simp only [List.take_succ_cons,List.take_zero,List.take_nil,CL] at htq3
   try simp only [TT,Ic.t,ci,reduceEqDiff,reduceIte,reduceAdd,reduceLT,reduceCtorEq,reduceToNat,hl,ha0,hi0,CL,LTN] at hcq3
   injection h with h; subst h
   simp only [b9,TT,Ic.t,ci,reduceEqDiff,reduceIte,reduceAdd,reduceLT,reduceCtorEq,reduceToNat,hl,ha0,hi0,htq3,hcq3,CL,LTN]
   exact hK
 intro w4 e tkq5 τq5 hcq5
 subst e
 simp only at h
 have hcq5 := eu (n := τ.next) hcq5 (by first | omega | (simp only [ag,ak]; omega))
 try simp only [TT,Ic.t,ci,reduceEqDiff,reduceIte,reduceAdd,reduceLT,reduceCtorEq,reduceToNat,hl,ha0,hi0,CL,LTN] at hcq5
 injection h with h; subst h
 simp only [b9,TT,Ic.t,ci,reduceEqDiff,reduceIte,reduceAdd,reduceLT,reduceCtorEq,reduceToNat,hl,ha0,hi0,hcq5,CL,LTN]
 exact hK
theorem vf (p1 : (List ByteArray)) (p2 : Int) (r : Int) (h : de p1 p2 = some r) (lk : Bool) (d : Option Nat) (K : ap) (fr : TF) (tk : TK) (τ : TH) (o0 : Nat) (hl : τ.lock ≤ τ.next) (ha0 : τ.at o0 = some ⟨dq,[.int .i64 p2]⟩) (hi0 : o0 < τ.next) : fj G lk ca [.sl (List.map TV.str p1),.func fy [] [.ptr o0 0]] d K fr tk τ = K (eo fr d (.int .i64 r)) tk τ :=
 av (lp p1 p2 r h τ o0 hl ha0 hi0) (lp p1 p2 r h (τ.locked τ.next) o0 (Nat.le_refl _) (by rw [za4o]; exact ha0) hi0) (by simp only [TT,Ic.t,ci,reduceEqDiff,reduceIte,reduceAdd,reduceLT,reduceCtorEq,reduceToNat,hl,ha0,hi0,CL,LTN])
noncomputable def bn (p1 : (List ByteArray)) (p2 : Int) : Option Bool :=
 de p1 p2 >>= fun y1 =>
 some (decide ((0 : Int) ≤ y1))
theorem jx (p1 : (List ByteArray)) (p2 : Int) (r : Bool) (h : bn p1 p2 = some r) (τ : TH) (o0 : Nat) (hl : τ.lock ≤ τ.next) (ha0 : τ.at o0 = some ⟨dq,[.int .i64 p2]⟩) (hi0 : o0 < τ.next) : Ru G bp [.sl (List.map TV.str p1),.func fy [] [.ptr o0 0]] τ (.bool r) τ := by
 refine kb fun K hK => ?_
 rw [cb ud (Nat.le_of_ble_eq_true rfl)]
 unfold bn at h
 obtain ⟨y1,hy1,h⟩ := ob h
 have k2 := vf p1 p2 _ hy1
 try simp only [CL,MC,reduceToNat] at k2
 injection h with h; subst h
 simp only [ui,TT,Ic.t,ci,reduceEqDiff,reduceIte,reduceAdd,reduceLT,reduceCtorEq,reduceToNat,hl,ha0,hi0,k2,CL,LTN]
 exact hK
theorem rr (p1 : (List ByteArray)) (p2 : Int) (r : Bool) (h : bn p1 p2 = some r) (lk : Bool) (d : Option Nat) (K : ap) (fr : TF) (tk : TK) (τ : TH) (o0 : Nat) (hl : τ.lock ≤ τ.next) (ha0 : τ.at o0 = some ⟨dq,[.int .i64 p2]⟩) (hi0 : o0 < τ.next) : fj G lk bp [.sl (List.map TV.str p1),.func fy [] [.ptr o0 0]] d K fr tk τ = K (eo fr d (.bool r)) tk τ :=
 av (jx p1 p2 r h τ o0 hl ha0 hi0) (jx p1 p2 r h (τ.locked τ.next) o0 (Nat.le_refl _) (by rw [za4o]; exact ha0) hi0) (by simp only [TT,Ic.t,ci,reduceEqDiff,reduceIte,reduceAdd,reduceLT,reduceCtorEq,reduceToNat,hl,ha0,hi0,CL,LTN])
noncomputable def pu (p1 : (List ByteArray)) (p2 : Int) (p3 : Int) : Option Bool :=
 if ((p1.length : Nat) : Int) = p2 then
  bn p1 p3 >>= fun y2 =>
  some (!y2)
 else
 some false
theorem zcfk (p1 : (List ByteArray)) (p2 : Int) (p3 : Int) (r : Bool) (h : pu p1 p2 p3 = some r) (τ : TH) (hl : τ.lock ≤ τ.next) : Ru G qn [.sl (List.map TV.str p1),.int .i64 p2,.int .i64 p3] τ (.bool r) τ := by
 refine kb fun K hK => ?_
 rw [cb zcwd (Nat.le_of_ble_eq_true rfl)]
 unfold pu at h
 by_cases c1 : ((p1.length : Nat) : Int) = p2
 · rw [if_pos c1] at h
   obtain ⟨y2,hy2,h⟩ := ob h
   have k3 := rr p1 p3 _ hy2
   try simp only [CL,MC,reduceToNat] at k3
   injection h with h; subst h
   simp only [zcao,TT,Ic.t,ci,reduceEqDiff,reduceIte,reduceAdd,reduceLT,reduceCtorEq,reduceToNat,hl,eq_true c1,k3,CL,LTN]
   exact hK
 rw [if_neg c1] at h
 injection h with h; subst h
 simp only [zcao,TT,Ic.t,ci,reduceEqDiff,reduceIte,reduceAdd,reduceLT,reduceCtorEq,reduceToNat,hl,c1,CL,LTN]
 exact hK
theorem zcfj (p1 : (List ByteArray)) (p2 : Int) (p3 : Int) (r : Bool) (h : pu p1 p2 p3 = some r) (lk : Bool) (d : Option Nat) (K : ap) (fr : TF) (tk : TK) (τ : TH) (hl : τ.lock ≤ τ.next) : fj G lk qn [.sl (List.map TV.str p1),.int .i64 p2,.int .i64 p3] d K fr tk τ = K (eo fr d (.bool r)) tk τ :=
 av (zcfk p1 p2 p3 r h τ  hl) (zcfk p1 p2 p3 r h (τ.locked τ.next)  (Nat.le_refl _) ) (by simp only [TT,Ic.t,ci,reduceEqDiff,reduceIte,reduceAdd,reduceLT,reduceCtorEq,reduceToNat,hl,CL,LTN])
noncomputable def zn (p1 : aa) (p2 : Int) : Option Bool :=
 ky p1.From (0 : Int) (IntKind.i64.wrap (p2 - (1 : Int))) >>= fun y1 =>
 if y1 = true then
  ky p1.To (0 : Int) (IntKind.i64.wrap (p2 - (1 : Int))) >>= fun y4 =>
  if y4 = true then
   if p1.From = p1.To then
    some false
   else
   ky p1.Ledger (0 : Int) (3 : Int) >>= fun y8 =>
   if y8 = true then
    pv p1.Asset >>= fun y11 =>
    if y11 = true then
     ky p1.Amount (1 : Int) (1125899906842624 : Int) >>= fun y14 =>
     some y14
    else
    some false
   else
   some false
  else
  some false
 else
 some false
theorem zcbi (p1 : aa) (p2 : Int) (r : Bool) (h : zn p1 p2 = some r) (τ : TH) (hl : τ.lock ≤ τ.next) : Ru G zw [.agg [.int .i64 p1.From,.int .i64 p1.To,.int .i64 p1.Ledger,.str p1.Asset,.int .i64 p1.Amount],.int .i64 p2] τ (.bool r) τ := by
 refine kb fun K hK => ?_
 rw [cb zbda (Nat.le_of_ble_eq_true rfl)]
 unfold zn at h
 obtain ⟨y1,hy1,h⟩ := ob h
 have k2 := mm p1.From (0 : Int) (IntKind.i64.wrap (p2 - (1 : Int))) _ hy1
 try simp only [CL,MC,reduceToNat] at k2
 by_cases c3 : y1 = true
 · rw [if_pos c3] at h
   obtain ⟨y4,hy4,h⟩ := ob h
   have k5 := mm p1.To (0 : Int) (IntKind.i64.wrap (p2 - (1 : Int))) _ hy4
   try simp only [CL,MC,reduceToNat] at k5
   by_cases c6 : y4 = true
   · rw [if_pos c6] at h
     by_cases c7 : p1.From = p1.To
     · rw [if_pos c7] at h
       injection h with h; subst h
       simp only [zu,TT,Ic.t,ci,reduceEqDiff,reduceIte,reduceAdd,reduceLT,reduceCtorEq,reduceToNat,hl,k2,c3,k5,c6,eq_true c7,CL,LTN]
       first | exact hK | (simp only [hl,k2,c3,k5,c6,eq_true c7,CL] at hK; exact hK)
     rw [if_neg c7] at h
     obtain ⟨y8,hy8,h⟩ := ob h
     have k9 := mm p1.Ledger (0 : Int) (3 : Int) _ hy8
     try simp only [CL,MC,reduceToNat] at k9
     by_cases c10 : y8 = true
     · rw [if_pos c10] at h
       obtain ⟨y11,hy11,h⟩ := ob h
       have k12 := zb2f p1.Asset _ hy11
       try simp only [CL,MC,reduceToNat] at k12
       by_cases c13 : y11 = true
       · rw [if_pos c13] at h
         obtain ⟨y14,hy14,h⟩ := ob h
         have k15 := mm p1.Amount (1 : Int) (1125899906842624 : Int) _ hy14
         try simp only [CL,MC,reduceToNat] at k15
         injection h with h; subst h
         simp only [zu,TT,Ic.t,ci,reduceEqDiff,reduceIte,reduceAdd,reduceLT,reduceCtorEq,reduceToNat,hl,k2,c3,k5,c6,c7,k9,c10,k12,c13,k15,CL,LTN]
         first | exact hK | (simp only [hl,k2,c3,k5,c6,c7,k9,c10,k12,c13,k15,CL] at hK; exact hK)
       rw [if_neg c13] at h
       have c13 := Bool.eq_false_iff.2 c13
       injection h with h; subst h
       simp only [zu,TT,Ic.t,ci,reduceEqDiff,reduceIte,reduceAdd,reduceLT,reduceCtorEq,reduceToNat,hl,k2,c3,k5,c6,c7,k9,c10,k12,c13,CL,LTN]
       first | exact hK | (simp only [hl,k2,c3,k5,c6,c7,k9,c10,k12,c13,CL] at hK; exact hK)
     rw [if_neg c10] at h
     have c10 := Bool.eq_false_iff.2 c10
     injection h with h; subst h
     simp only [zu,TT,Ic.t,ci,reduceEqDiff,reduceIte,reduceAdd,reduceLT,reduceCtorEq,reduceToNat,hl,k2,c3,k5,c6,c7,k9,c10,CL,LTN]
     first | exact hK | (simp only [hl,k2,c3,k5,c6,c7,k9,c10,CL] at hK; exact hK)
   rw [if_neg c6] at h
   have c6 := Bool.eq_false_iff.2 c6
   injection h with h; subst h
   simp only [zu,TT,Ic.t,ci,reduceEqDiff,reduceIte,reduceAdd,reduceLT,reduceCtorEq,reduceToNat,hl,k2,c3,k5,c6,CL,LTN]
   first | exact hK | (simp only [hl,k2,c3,k5,c6,CL] at hK; exact hK)
 rw [if_neg c3] at h
 have c3 := Bool.eq_false_iff.2 c3
 injection h with h; subst h
 simp only [zu,TT,Ic.t,ci,reduceEqDiff,reduceIte,reduceAdd,reduceLT,reduceCtorEq,reduceToNat,hl,k2,c3,CL,LTN]
 first | exact hK | (simp only [hl,k2,c3,CL] at hK; exact hK)
theorem zcqt (p1 : aa) (p2 : Int) (r : Bool) (h : zn p1 p2 = some r) (lk : Bool) (d : Option Nat) (K : ap) (fr : TF) (tk : TK) (τ : TH) (hl : τ.lock ≤ τ.next) : fj G lk zw [.agg [.int .i64 p1.From,.int .i64 p1.To,.int .i64 p1.Ledger,.str p1.Asset,.int .i64 p1.Amount],.int .i64 p2] d K fr tk τ = K (eo fr d (.bool r)) tk τ :=
 av (zcbi p1 p2 r h τ  hl) (zcbi p1 p2 r h (τ.locked τ.next)  (Nat.le_refl _) ) (by simp only [TT,Ic.t,ci,reduceEqDiff,reduceIte,reduceAdd,reduceLT,reduceCtorEq,reduceToNat,hl,CL,LTN])
open Go Go.RowKit Sh Ic
def ma (l : List ByteArray) : Option Bool := if l.length ≤ 140737488355328 ∧ ∀ x ∈ l,x.size ≤ 140737488355328 then some (decide l.Nodup) else none
theorem zct5 (p1 : List ByteArray) (r : Bool) (h : ma p1 = some r) (lk : Bool) (d : Option Nat) (K : ap) (fr : TF) (tk : TK) (τ : TH) (hl : τ.lock ≤ τ.next) : fj G lk fo [.sl (List.map TV.str p1)] d K fr tk τ = K (eo fr d (.bool r)) tk τ := by
 unfold ma at h
 split at h
 · rename_i hc
   injection h with h
   subst h
   have hr : ∀ τ,Ru G fo [.sl (p1.map TV.str)] τ (.bool (decide p1.Nodup)) τ := fun τ => zb3h zcty (by
    have := zbyh (key := zbzz) (f := TV.str) (g := id) p1 (fun b hb => by show (if b.size ≤ 140737488355328 then some b else none) = some b; rw [if_pos (hc.2 b hb)])
    have hl : (p1.map TV.str).length ≤ 140737488355328 := by rw [List.length_map]; exact hc.1
    simp only [zbhs,zbln,TV.list,if_pos hl,this,Option.map_some,List.map_id])
   exact av (hr _) (hr _) (by simp only [TT,Ic.t,Ic.ci,Nat.reduceEqDiff,reduceIte,Nat.reduceAdd,Nat.reduceLT,reduceCtorEq,Int.reduceToNat])
 · cases h
def vk (l : List Int) : Option Bool := if l.length ≤ 140737488355328 ∧ ∀ x ∈ l,za7f x = true then some (decide l.Nodup) else none
theorem zctp (p1 : List Int) (r : Bool) (h : vk p1 = some r) (lk : Bool) (d : Option Nat) (K : ap) (fr : TF) (tk : TK) (τ : TH) (hl : τ.lock ≤ τ.next) : fj G lk jn [.sl (List.map (TV.int .i64) p1)] d K fr tk τ = K (eo fr d (.bool r)) tk τ := by
 unfold vk at h
 split at h
 · rename_i hc
   injection h with h
   subst h
   have hr : ∀ τ,Ru G jn [.sl (p1.map (TV.int .i64))] τ (.bool (decide p1.Nodup)) τ := fun τ => zb3h zcsj (by
    have := zbyh (key := zbz0) (f := TV.int .i64) (g := id) p1 (fun b hb => by show (if za7f b then some b else none) = some b; rw [if_pos (hc.2 b hb)])
    have hl : (p1.map (TV.int .i64)).length ≤ 140737488355328 := by rw [List.length_map]; exact hc.1
    simp only [zbht,zbln,TV.list,if_pos hl,this,Option.map_some,List.map_id])
   exact av (hr _) (hr _) (by simp only [TT,Ic.t,Ic.ci,Nat.reduceEqDiff,reduceIte,Nat.reduceAdd,Nat.reduceLT,reduceCtorEq,Int.reduceToNat])
 · cases h
def two (x : dk) : Int × Int := (x.e0,x.e1)
def qr (l : List dk) : Option Bool := if l.length ≤ 140737488355328 ∧ ∀ x ∈ l,(za7f x.e0 && za7f x.e1) = true then some (decide (l.map two).Nodup) else none
theorem zct2 (p1 : List dk) (r : Bool) (h : qr p1 = some r) (lk : Bool) (d : Option Nat) (K : ap) (fr : TF) (tk : TK) (τ : TH) (hl : τ.lock ≤ τ.next) : fj G lk g8 [.sl (List.map dk.tv p1)] d K fr tk τ = K (eo fr d (.bool r)) tk τ := by
 unfold qr at h
 split at h
 · rename_i hc
   injection h with h
   subst h
   have hr : ∀ τ,Ru G g8 [.sl (p1.map dk.tv)] τ (.bool (decide (p1.map two).Nodup)) τ := fun τ => zb3h zctf (by
    have := zbyh (key := zbz1) (f := dk.tv) (g := two) p1 (fun b hb => by
     show (if (za7f b.e0 && za7f b.e1) = true then some (b.e0,b.e1) else none) = some (b.e0,b.e1)
     rw [if_pos (hc.2 b hb)])
    have hl : (p1.map dk.tv).length ≤ 140737488355328 := by rw [List.length_map]; exact hc.1
    simp only [zbhu,zbln,TV.list,if_pos hl,this,Option.map_some])
   exact av (hr _) (hr _) (by simp only [TT,Ic.t,Ic.ci,Nat.reduceEqDiff,reduceIte,Nat.reduceAdd,Nat.reduceLT,reduceCtorEq,Int.reduceToNat])
 · cases h
end Go.Proofs.Ytdcfoaafkppojaa
