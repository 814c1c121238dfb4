import Derived.Test.YtdcfoaafkppojaaM20
set_option linter.unusedVariables false
set_option linter.unusedSimpArgs false
set_option linter.unusedSectionVars false
open Nat (reduceEqDiff reduceAdd reduceMul reduceLT reduceLeDiff reduceSub)
open Int (reduceToNat reduceNe reduceEq reduceNeg reduceLE)
namespace Go.Proofs.Ytdcfoaafkppojaa
open Go Go.RowKit Sh Ic
def bare (l : List ByteArray) : List af := l.map fun a => ⟨a,[]⟩
def zbsq (l : List af) : Ob := ⟨j9,l.flatMap af.cells⟩
theorem zbb8 (l : List ByteArray) (a : ByteArray) : (⟨j9,(bare l).flatMap af.cells ++ [.str a,.sl []]⟩ : Ob) = zbsq (bare (l ++ [a])) := by
 unfold zbsq bare; rw [List.map_append,List.flatMap_append]; rfl
theorem zby0 (l : List ByteArray) : (bare l).length = l.length := List.length_map ..
def zbke (arcs : List TV) (start delta : Int) (idP n : Nat) : SpB := ⟨⟨#[114,105,110,103]⟩,idP,n,arcs,[.int .i64 0],start,delta⟩
def zbq7 (arcs : List TV) (start delta : Int) : Ob := ⟨a9,[.str ⟨#[114,105,110,103]⟩,.slz,.sl arcs,.sl [.int .i64 0],.slz,.int .i64 start,.int .i64 delta]⟩
inductive zbmd (arcs : List TV) (start delta : Int) (τ0 τ : TH) (id6 id7 B : Nat) : List ByteArray → Prop
 | nil (ha : τ.at id7 = some (zbq7 arcs start delta)) : zbmd arcs start delta τ0 τ id6 id7 B []
 | obj (idP : Nat) (l : List ByteArray) (hne : l.length ≠ 0) (h0 : τ0.next ≤ idP) (hB : B ≤ idP) (h6 : id6 < idP) (h1 : idP < id7) (ha : τ.at id7 = some ((zbke arcs start delta idP l.length).ob .slz)) (hp : τ.at idP = some (zbsq (bare l))) : zbmd arcs start delta τ0 τ id6 id7 B l
section
variable {τ : TH} {k : Nat} {a b : Ob}
theorem zbmu (hn : τ.next = k) : ((τ.push a).push b).next = k + 2 := by rw [ff,ff,hn]
theorem zb2l (hn : τ.next = k) : ((τ.push a).push b).at k = some a := by rw [y0 (by rw [ff]; omega),← hn]; exact zbp2
theorem zb2m (hn : τ.next = k) : ((τ.push a).push b).at (k + 1) = some b := by rw [← hn,← ff (b := a)]; exact zbp2
theorem zbmy {j : Nat} (hj : j < τ.next) : ((τ.push a).push b).at j = τ.at j := by rw [y0 (by rw [ff]; omega),y0 hj]
end
set_option maxHeartbeats 1000000 in
theorem zbu7 (n : Nat) (hn : n ≤ 6) (arcs : List TV) (start delta : Int) (z6 : Ob) (id6 : Nat) (τ0 : TH) (hl0 : τ0.lock ≤ τ0.next) (r : List ByteArray) (h6 : τ0.next ≤ id6) (B : Nat) (Q : TEx → aq) (m : Nat) : ∀ (i : Nat) (l : List ByteArray) (id7 : Nat) (τ : TH),m + i = n → l.length = i → zbbc mo m i l = some r → x5 τ0 τ → zbmd arcs start delta τ0 τ id6 id7 B l → τ0.next ≤ id7 → id7 < τ.next → id6 < id7 → τ.at id6 = some z6 → B ≤ τ.next →
 (∀ id7 τ,x5 τ0 τ → zbmd arcs start delta τ0 τ id6 id7 B r → τ0.next ≤ id7 → id7 < τ.next → id6 < id7 → τ.at id6 = some z6 → Q (.exit 0) [(0,.int .i64 n),(6,.ptr id6 0),(7,.ptr id7 0),(8,.int .i64 n),(17,.bool false)] [] τ) →
 tW G (.loop [0,6,7,8] xw) Q [(0,.int .i64 n),(6,.ptr id6 0),(7,.ptr id7 0),(8,.int .i64 (i : Int))] [] τ := by
 induction m with
 | zero =>
  intro i l id7 τ hi hl hr hg hv h07 h7 h67 ha6 hBn hQ
  obtain rfl : i = n := by omega
  injection hr with hr
  subst hr
  have c : ¬ (i : Int) < (i : Int) := by omega
  refine nv fun LQ hnx hr he => ?_
  simp only [xw,zbxt,TT,Ic.t,ci,reduceEqDiff,reduceIte,reduceAdd,reduceMul,reduceLT,reduceLeDiff,reduceSub,reduceCtorEq,reduceEq,reduceNe,reduceToNat,Int.reduceLT,reduceLE,reduceNeg,c,he]
  exact hQ _ _ hg hv h07 h7 h67 ha6
 | succ m ih =>
  intro i l id7 τ hi hl hr hg hv h07 h7 h67 ha6 hBn hQ
  obtain ⟨x,hx,hr⟩ := ob hr
  have c : (i : Int) < (n : Int) := by omega
  have w1 : IntKind.i64.wrap ((i : Int) + 1) = ((i + 1 : Nat) : Int) := by rw [wA (by omega) (by omega)]; omega
  have hlk : τ.lock ≤ τ.next := by have := hg.lock; have := hg.next; omega
  have k1 := zcqn _ _ hx
  have lt1 : ¬ τ.next + 1 < τ.next := by omega
  have l1 : τ.lock ≤ τ.next + 1 := by omega
  have h67n : ¬ id6 = id7 := by omega
  have hw7 : τ.lock ≤ id7 := by have := hg.lock; omega
  refine nv fun LQ hnx hrr he => ?_
  cases hv with
  | nil ha =>
   simp only [xw,zbxt,TT,Ic.t,ci,reduceEqDiff,reduceIte,reduceAdd,reduceMul,reduceLT,reduceLeDiff,reduceSub,reduceCtorEq,reduceEq,reduceNe,reduceToNat,Int.reduceLT,reduceLE,reduceNeg,c,w1,hrr,ha,zbq7,h7,hlk,hw7,k1]
   refine ⟨by unfold maxLen; omega,zbpo (h := ?_) ..⟩
   simp only [TT,Ic.t,ci,reduceEqDiff,reduceIte,reduceAdd,reduceMul,reduceLT,reduceLeDiff,reduceSub,reduceCtorEq,reduceEq,reduceNe,reduceToNat,Int.reduceLT,reduceLE,reduceNeg,ha,zbq7,h7,hw7,ff,y0 h7,h67n,lt1,l1,w1,Bool.and_false,Bool.false_eq_true]
   rw [hnx]
   simp only [TT,Ic.t,ci,reduceEqDiff,reduceIte,reduceAdd,reduceMul,reduceLT,reduceLeDiff,reduceSub,reduceCtorEq,reduceEq,reduceNe,reduceToNat,Int.reduceLT,reduceLE,reduceNeg,lt1,List.flatMap_cons,List.flatMap_nil,List.append_nil,Bool.and_false,Bool.false_eq_true]
   have g1 := ((hg.put h07 ⟨a9,[]⟩).push (zbsq (bare [x]))).push ((zbke arcs start delta τ.next 1).ob .slz)
   have q := ih (i + 1) [x] (τ.next + 1) _ (by omega) (by simp at hl ⊢; omega) hr g1 (.obj τ.next [x] (by simp) hg.next hBn (by omega) (by omega) (zb2m ax) (zb2l ax)) (by have := hg.next; omega) (by rw [zbmu ax]; omega) (by omega)
    (by rw [zbmy (by rw [ax]; omega),mn (by omega)]; exact ha6) (by first | (rw [zbmu ax]; omega) | (rw [zbmu nn]; omega)) hQ
   exact q
  | obj idP l hne h0 hB h6P h1 ha hp =>
   have m1 : l.length + 1 ≤ maxLen := by unfold maxLen; omega
   have m2 : (l.length + 1) * 40 ≤ 140737488355328 := by omega
   have f2 : ((bare l).flatMap af.cells).length = l.length * 2 := by rw [zbbf (k := 2) (fun _ => rfl),zby0]
   have hwP : τ.lock ≤ idP := by have := hg.lock; omega
   have hPn : idP < τ.next := by omega
   have e7 : (τ.put idP ⟨j9,[]⟩).at id7 = some ((zbke arcs start delta idP l.length).ob .slz) := by rw [mn (by omega)]; exact ha
   simp only [xw,zbxt,TT,Ic.t,ci,reduceEqDiff,reduceIte,reduceAdd,reduceMul,reduceLT,reduceLeDiff,reduceSub,reduceCtorEq,reduceEq,reduceNe,reduceToNat,Int.reduceLT,reduceLE,reduceNeg,c,w1,hrr,ha,hp,zbsq,zbke,SpB.ob,h7,hlk,hw7,hwP,k1,m1,m2,f2,hne]
   refine zbpo (h := ?_) ..
   simp only [TT,Ic.t,ci,reduceEqDiff,reduceIte,reduceAdd,reduceMul,reduceLT,reduceLeDiff,reduceSub,reduceCtorEq,reduceEq,reduceNe,reduceToNat,Int.reduceLT,reduceLE,reduceNeg,e7,zbke,SpB.ob,h7,hw7,ff,y0 h7,h67n,lt1,l1,w1,Bool.and_false,Bool.false_eq_true]
   rw [hnx]
   simp only [TT,Ic.t,ci,reduceEqDiff,reduceIte,reduceAdd,reduceMul,reduceLT,reduceLeDiff,reduceSub,reduceCtorEq,reduceEq,reduceNe,reduceToNat,Int.reduceLT,reduceLE,reduceNeg,lt1,List.flatMap_cons,List.flatMap_nil,List.append_nil,Bool.and_false,Bool.false_eq_true]
   rw [zbb8]
   have g1 := (((hg.put h0 ⟨j9,[]⟩).put h07 ⟨a9,[]⟩).push (zbsq (bare (l ++ [x])))).push ((zbke arcs start delta τ.next (l.length + 1)).ob .slz)
   have nn : ((τ.put idP ⟨j9,[]⟩).put id7 ⟨a9,[]⟩).next = τ.next := by rw [ax,ax]
   have q := ih (i + 1) (l ++ [x]) (τ.next + 1) _ (by omega) (by rw [List.length_append,hl]; rfl) hr g1 (.obj τ.next (l ++ [x]) (by simp) hg.next hBn (by omega) (by omega) (by rw [List.length_append]; exact zb2m nn) (zb2l nn)) (by have := hg.next; omega) (by rw [zbmu nn]; omega) (by omega)
    (by rw [zbmy (by rw [nn]; omega),mn (by omega),mn (by omega)]; exact ha6) (by first | (rw [zbmu ax]; omega) | (rw [zbmu nn]; omega)) hQ
   exact q
theorem zcla {f : TV → Option TV} : ∀ {l k l' k' : List TV},oc f l = some l' → oc f k = some k' → oc f (l ++ k) = some (l' ++ k')
 | [],k,l',k',h,h2 => by injection h with h; subst h; exact h2
 | v :: r,k,l',k',h,h2 => by
  simp only [oc] at h
  cases hv : f v with
  | none => rw [hv] at h; cases h
  | some x =>
   rw [hv] at h
   cases hr : oc f r with
   | none => rw [hr] at h; cases h
   | some y =>
    rw [hr] at h
    injection h with h
    subst h
    have := zcla hr h2
    simp only [List.cons_append,oc,hv,this]
theorem zbd8 {α : Type} {f : TV → Option TV} {c c' : α → List TV} (h : ∀ x,oc f ((c x).map TV.rd) = some (c' x)) : ∀ l : List α,oc f ((l.flatMap c).map TV.rd) = some (l.flatMap c')
 | [] => rfl
 | x :: r => by rw [List.flatMap_cons,List.map_append,List.flatMap_cons]; exact zcla (h x) (zbd8 h r)
theorem zblx {α : Type} {c c' : α → List TV} {k : Nat} {e : α → TV} (hk : k ≠ 0) (hc : ∀ x,(c x).length = k) (hc' : ∀ x,(c' x).length = k) (he : ∀ x,zbbo (c' x) = e x) (τ : TH) (n0 id m : Nat) (t : TypeId) (l : List α) (h0 : n0 ≤ id) (ha : τ.at id = some ⟨t,l.flatMap c⟩) (hl : l.length = m)
 (hf : ∀ x,oc (zah0 τ n0 1) ((c x).map TV.rd) = some (c' x)) : zah0 τ n0 2 (.slm id 0 m k) = some (.sl (l.map e)) := by
 subst hl
 have tr : za8g τ id 0 (l.length * k) = some ((l.flatMap c).map TV.rd) := by
  unfold za8g
  rw [ha]
  simp only [Option.bind_some,zbbf hc,Nat.zero_add,Nat.le_refl,if_true,List.drop_zero,zbij hc]
 have n1 : ¬ (k = 0 ∨ id < n0) := by omega
 show (if k = 0 ∨ id < n0 then none else (za8g τ id 0 (l.length * k)).bind fun l' => (oc (zah0 τ n0 1) l').map fun l' => TV.sl (zbbt k l.length l')) = _
 rw [if_neg n1,tr,Option.bind_some,zbd8 hf l,Option.map_some,zbzm hc' he]
theorem zbrs (τ : TH) (n0 id m : Nat) (l : List af) (h0 : n0 ≤ id) (ha : τ.at id = some (zbde l)) (hl : l.length = m) : zah0 τ n0 2 (.slm id 0 m 2) = some (.sl (l.map af.tv)) :=
 zblx (c := zbc6) (c' := af.cells) (by decide) kc2 (fun _ => rfl) (fun _ => rfl) τ n0 id m _ l h0 ha hl fun x => by
  obtain ⟨a,ks⟩ := x
  cases ks <;> rfl
theorem zbhs (f : Int → Option ByteArray) (n : Nat) : ∀ (k : Nat) (l r : List ByteArray),zbbc f n k l = some r → r.length = l.length + n := by
 induction n with
 | zero => intro k l r h; injection h with h; subst h; rfl
 | succ n ih => intro k l r h; obtain ⟨x,_,h⟩ := ob h; rw [ih _ _ _ h,List.length_append]; simp; omega
theorem zbe5 (L : Nat) (rest : List af) : ∀ (i : Nat) (d r : List af),zbmi L rest i d = some r → r.length = d.length + rest.length := by
 induction rest with
 | nil => intro i d r h; injection h with h; subst h; rfl
 | cons x rest ih => intro i d r h; obtain ⟨ks,_,h⟩ := ob h; rw [ih _ _ _ h,List.length_append]; simp; omega
theorem zbq5 (n : Nat) (hn1 : 1 ≤ n) (hn : n ≤ 6) (start delta : Int) (al : List aa) (accs lr : List ByteArray) (rows : List af) (has : zbt5 n 0 2 = some al) (hac : zbbc mo n 0 [] = some accs) (hlr : zbbc zbcb 1 0 [] = some lr) (hrows : zbmi 1 (bare accs) 0 [] = some rows)
 (τ : TH) (hl : τ.lock ≤ τ.next) : Ru G xk [.int .i64 n,.int .i64 start,.int .i64 delta] τ (.agg (ac.cells ⟨⟨#[114,105,110,103]⟩,rows,al,[0],lr,start,delta⟩)) τ := by
 refine li fun K hK => ?_
 rw [ce zbcp (Nat.le_of_ble_eq_true rfl)]
 have l1 : τ.lock ≤ τ.next + 1 := by omega
 have l2 : τ.lock ≤ τ.next + 2 := by omega
 have k1 := zctz _ _ _ _ has
 simp only [zbxt,TT,Ic.t,ci,reduceEqDiff,reduceIte,reduceAdd,reduceMul,reduceLT,reduceLeDiff,reduceSub,reduceCtorEq,reduceEq,reduceNe,reduceToNat,Int.reduceLT,reduceLE,reduceNeg,hl,l1,l2,k1]
 have c0 : (τ.push ⟨a9,[.str ⟨#[]⟩,.slz,.slz,.slz,.slz,.int .i64 0,.int .i64 0]⟩).next = τ.next + 1 := ff
 refine zbu7 n hn (al.map aa.tv) start delta ⟨a9,[.str ⟨#[]⟩,.slz,.slz,.slz,.slz,.int .i64 0,.int .i64 0]⟩ τ.next τ hl accs (Nat.le_refl _) (τ.next + 2) _ n 0 [] (τ.next + 1) _ rfl rfl hac (((x5.refl τ).push _).push _) (.nil (zb2m rfl)) (by omega) (by rw [zbmu rfl]; omega) (by omega) (zb2l rfl) (by rw [zbmu rfl]; omega) ?_
 intro id7 τ1 hg1 hr1 h07 h71 h67 ha6
 have la : accs.length = n := by rw [zbhs _ _ _ _ _ hac]; simp
 cases hr1 with
 | nil ha => simp at la; omega
 | obj idP l hne h0 hB h6P h1 ha hp =>
  have lt7 : ¬ id7 < τ.next + 2 := by omega
  have hL : zbt5 n 0 2 = some al := has
  have kr := fun (K : aq) (fr : TF) (d : Option Nat) => zbl7 (Γ := G) (d := d) (K := K) (fr := fr) (tk := []) (zblo (zbke (al.map aa.tv) start delta idP accs.length) [] (bare accs) rows lr (by show 1 ≤ 6; omega) (by show accs.length ≤ 20; omega) (by show accs.length = _; rw [zby0]) hlr hrows τ1 (by have := hg1.lock; have := hg1.next; omega) hp (by show idP < _; omega) (by have := hg1.lock; show _ ≤ idP; omega)) (by simp only [TT,Ic.t,ci,reduceEqDiff,reduceIte,reduceAdd,reduceMul,reduceLT,reduceLeDiff,reduceSub,reduceCtorEq,reduceEq,reduceNe,reduceToNat,Int.reduceLT,reduceLE,reduceNeg,zbke,h1,show idP < τ1.next by omega])
  simp only [zbke] at kr
  simp only [TT,Ic.t,ci,reduceEqDiff,reduceIte,reduceAdd,reduceMul,reduceLT,reduceLeDiff,reduceSub,reduceCtorEq,reduceEq,reduceNe,reduceToNat,Int.reduceLT,reduceLE,reduceNeg,h71,lt7,ha,zbke,SpB.ob,kr]
  have hPn : idP < τ1.next := by omega
  have hb : (τ1.put idP (zbde rows)).at τ.next = some ⟨a9,[.str ⟨#[]⟩,.slz,.slz,.slz,.slz,.int .i64 0,.int .i64 0]⟩ := by rw [mn (by omega)]; exact ha6
  refine zbmh (hz := rfl) (hb := hb) (hc := ⟨by show τ1.lock ≤ _; have := hg1.lock; omega,by simp⟩) (hx := fun v e => by cases e) (h := ?_) ..
  obtain ⟨τ2,e2⟩ : ∃ τ2,τ2 = (τ1.put idP (zbde rows)).put τ.next ⟨a9,[]⟩ := ⟨_,rfl⟩
  have n2 : τ2.next = τ1.next := by rw [e2,ax,ax]
  have hg2 : x5 τ τ2 := by rw [e2]; exact (hg1.put (by omega) _).put (Nat.le_refl _) _
  have aP : τ2.at idP = some (zbde rows) := by rw [e2,mn (by omega)]; exact zbkf hPn
  rw [← e2]
  have e3 : (τ1.put idP (zbde rows)).next = τ2.next := by rw [n2,ax]
  have lk2 : τ2.lock ≤ τ2.next := by have := hg2.lock; have := hg2.next; omega
  have hP2 : idP < τ2.next + 1 := by omega
  rw [e3]
  have rl : rows.length = accs.length := by rw [zbe5 _ _ _ _ _ hrows,zby0]; simp
  have fr : ∀ x,zah0 (τ2.push x) τ.next 2 (.slm idP 0 accs.length 2) = some (.sl (rows.map af.tv)) := fun x => zbrs _ _ _ _ _ h0 (by rw [y0 (by omega)]; exact aP) rl
  have cx : ∀ x,(τ2.push x).cut τ.next = τ := fun x => (hg2.push x).cut
  simp only [TT,Ic.t,ci,reduceEqDiff,reduceIte,reduceAdd,reduceMul,reduceLT,reduceLeDiff,reduceSub,reduceCtorEq,reduceEq,reduceNe,reduceToNat,Int.reduceLT,reduceLE,reduceNeg,lk2,hP2,fr,cx]
  exact hK
noncomputable def zj (n start delta : Int) : Option ac := if 1 ≤ n ∧ n ≤ 6 then
 zbt5 n 0 2 >>= fun al =>
 zbbc mo n.toNat 0 [] >>= fun accs =>
 zbbc zbcb 1 0 [] >>= fun lr =>
 zbmi 1 (bare accs) 0 [] >>= fun rows =>
 some ⟨⟨#[114,105,110,103]⟩,rows,al,[0],lr,start,delta⟩ else none
theorem zb9y (p1 p2 p3 : Int) (r : ac) (h : zj p1 p2 p3 = some r) (lk : Bool) (d : Option Nat) (K : aq) (fr : TF) (tk : TK) (τ : TH) (hl : τ.lock ≤ τ.next) : fi G lk xk [.int .i64 p1,.int .i64 p2,.int .i64 p3] d K fr tk τ = K (ew fr d (.agg (ac.cells r))) tk τ := by
 obtain ⟨⟨h1,h2⟩,h⟩ := ifS h
 obtain ⟨al,a1,h⟩ := ob h
 obtain ⟨accs,a2,h⟩ := ob h
 obtain ⟨lr,a3,h⟩ := ob h
 obtain ⟨rows,a4,h⟩ := ob h
 injection h with h
 subst h
 obtain ⟨n,rfl⟩ : ∃ n : Nat,p1 = (n : Int) := ⟨p1.toNat,by omega⟩
 have hr := fun τ hl => zbq5 n (by omega) (by omega) p2 p3 al accs lr rows a1 a2 a3 a4 τ hl
 exact aw (hr _ hl) (hr _ (Nat.le_refl _)) (by simp only [TT,Ic.t,ci,reduceEqDiff,reduceIte,reduceAdd,reduceLT,reduceCtorEq,reduceToNat])
end Go.Proofs.Ytdcfoaafkppojaa
open Nat (reduceEqDiff reduceAdd reduceLT)
open Int (reduceToNat reduceEq)
namespace Go.Proofs.Ytdcfoaafkppojaa
open Go Go.RowKit Sh Ic
noncomputable def pu (p1 : ByteArray) : Option Bool :=
 if (1 : Int) ≤ ((p1.size : Nat) : Int) then
  some (decide (((p1.size : Nat) : Int) ≤ (16 : Int)))
 else
 some false
theorem zcca (p1 : ByteArray) (r : Bool) (h : pu p1 = some r) (τ : TH) (hl : τ.lock ≤ τ.next) : Ru G qo [.str p1] τ (.bool r) τ := by
 refine li fun K hK => ?_
 rw [ce zctl (Nat.le_of_ble_eq_true rfl)]
 unfold pu at h
 by_cases c1 : (1 : Int) ≤ ((p1.size : Nat) : Int)
 · rw [if_pos c1] at h
   injection h with h; subst h
   simp only [zb71,TT,Ic.t,ci,reduceEqDiff,reduceIte,reduceAdd,reduceLT,reduceCtorEq,reduceToNat,hl,c1,CL,LTN]
   exact hK
 rw [if_neg c1] at h
 injection h with h; subst h
 simp only [zb71,TT,Ic.t,ci,reduceEqDiff,reduceIte,reduceAdd,reduceLT,reduceCtorEq,reduceToNat,hl,c1,CL,LTN]
 exact hK
theorem zb1e (p1 : ByteArray) (r : Bool) (h : pu p1 = some r) (lk : Bool) (d : Option Nat) (K : aq) (fr : TF) (tk : TK) (τ : TH) (hl : τ.lock ≤ τ.next) : fi G lk qo [.str p1] d K fr tk τ = K (ew fr d (.bool r)) tk τ :=
 aw (zcca p1 r h τ  hl) (zcca p1 r h (τ.locked τ.next)  (Nat.le_refl _) ) (by simp only [TT,Ic.t,ci,reduceEqDiff,reduceIte,reduceAdd,reduceLT,reduceCtorEq,reduceToNat,hl,CL,LTN])
noncomputable def lq (p1 : Int) (p2 : Int) (p3 : Int) : Option Bool :=
 if p2 ≤ p1 then
  some (decide (p1 ≤ p3))
 else
 some false
theorem zb8m (p1 : Int) (p2 : Int) (p3 : Int) (r : Bool) (h : lq p1 p2 p3 = some r) (τ : TH) (hl : τ.lock ≤ τ.next) : Ru G lz [.int .i64 p1,.int .i64 p2,.int .i64 p3] τ (.bool r) τ := by
 refine li fun K hK => ?_
 rw [ce zbig (Nat.le_of_ble_eq_true rfl)]
 unfold lq at h
 by_cases c1 : p2 ≤ p1
 · rw [if_pos c1] at h
   injection h with h; subst h
   simp only [zcl4,TT,Ic.t,ci,reduceEqDiff,reduceIte,reduceAdd,reduceLT,reduceCtorEq,reduceToNat,hl,c1,CL,LTN]
   exact hK
 rw [if_neg c1] at h
 injection h with h; subst h
 simp only [zcl4,TT,Ic.t,ci,reduceEqDiff,reduceIte,reduceAdd,reduceLT,reduceCtorEq,reduceToNat,hl,c1,CL,LTN]
 exact hK
theorem ms (p1 : Int) (p2 : Int) (p3 : Int) (r : Bool) (h : lq p1 p2 p3 = some r) (lk : Bool) (d : Option Nat) (K : aq) (fr : TF) (tk : TK) (τ : TH) (hl : τ.lock ≤ τ.next) : fi G lk lz [.int .i64 p1,.int .i64 p2,.int .i64 p3] d K fr tk τ = K (ew fr d (.bool r)) tk τ :=
 aw (zb8m p1 p2 p3 r h τ  hl) (zb8m p1 p2 p3 r h (τ.locked τ.next)  (Nat.le_refl _) ) (by simp only [TT,Ic.t,ci,reduceEqDiff,reduceIte,reduceAdd,reduceLT,reduceCtorEq,reduceToNat,hl,CL,LTN])
noncomputable def si (p1 : ByteArray) (p2 : Int) : Option Bool :=
 some (decide (¬ (((p1.size : Nat) : Int) = p2)))
theorem zcgr (p1 : ByteArray) (p2 : Int) (r : Bool) (h : si p1 p2 = some r) (τ : TH) (o0 : Nat) (hl : τ.lock ≤ τ.next) (ha0 : τ.at o0 = some ⟨de,[.int .i64 p2]⟩) (hi0 : o0 < τ.next) : Ru G fv [.str p1,.ptr o0 0] τ (.bool r) τ := by
 refine li fun K hK => ?_
 rw [ce zcqx (Nat.le_of_ble_eq_true rfl)]
 unfold si at h
 injection h with h; subst h
 simp only [zcqg,TT,Ic.t,ci,reduceEqDiff,reduceIte,reduceAdd,reduceLT,reduceCtorEq,reduceToNat,hl,ha0,hi0,CL,LTN]
 exact hK
theorem zcrv (p1 : ByteArray) (p2 : Int) (r : Bool) (h : si p1 p2 = some r) (lk : Bool) (d : Option Nat) (K : aq) (fr : TF) (tk : TK) (τ : TH) (o0 : Nat) (hl : τ.lock ≤ τ.next) (ha0 : τ.at o0 = some ⟨de,[.int .i64 p2]⟩) (hi0 : o0 < τ.next) : fi G lk fv [.str p1,.ptr o0 0] d K fr tk τ = K (ew fr d (.bool r)) tk τ :=
 aw (zcgr p1 p2 r h τ o0 hl ha0 hi0) (zcgr p1 p2 r h (τ.locked τ.next) o0 (Nat.le_refl _) (by rw [zaqi]; exact ha0) hi0) (by simp only [TT,Ic.t,ci,reduceEqDiff,reduceIte,reduceAdd,reduceLT,reduceCtorEq,reduceToNat,hl,ha0,hi0,CL,LTN])
noncomputable def av (v0 : (List ByteArray)) (v1 : Int) (v2 : Int) (v3 : Int) : Option (LS (Int) (LX (Unit) (Int))) :=
 if v3 < v2 then
  ixL v0 v3 >>= fun y2 =>
  si y2 v1 >>= fun y4 =>
  if y4 = true then
   some (.dn (.rt v3))
  else
  some (.nx (IntKind.i64.wrap (v3 + (1 : Int))))
 else
 some (.dn (.ex ()))
noncomputable def bn (v0 : (List ByteArray)) (v1 : Int) (v2 : Int) (v3 : Int) : Option (LX (Unit) (Int)) := qb (fun st => av v0 v1 v2 st) v3
theorem jx (v0 : (List ByteArray)) (v1 : Int) (v2 : Int) (v3 : Int) : bn v0 v1 v2 v3 = av v0 v1 v2 v3 >>= LS.go (fun st => bn v0 v1 v2 st) := ig (fun st => av v0 v1 v2 st) v3
def dk (v0 : (List ByteArray)) (v1 : Int) (v2 : Int) (v3 : Int) (r : LX (Unit) (Int)) : Prop := ∀ (τ : TH) (o0 : Nat) (hl : τ.lock ≤ τ.next) (ha0 : τ.at o0 = some ⟨de,[.int .i64 v1]⟩) (hi0 : o0 < τ.next) (Q : TEx → aq) (hQ0 : ∀ v : Unit,r = (.ex v) → ∀ (fr : TF) (tk2 : TK) (τ2 : TH),tk2.take 0 = [] → τ2.cut τ.next = τ → Q (.exit 0) fr tk2 τ2) (hQ1 : ∀ v : Int,r = (.rt v) → ∀ (tk2 : TK) (τ2 : TH),τ2.cut τ.next = τ → Q .ret [(4,.int .i64 v)] tk2 τ2) ,tW G (.loop [0,1,7,8] cv) Q [(0,.sl (List.map TV.str v0)),(1,.func fv [] [.ptr o0 0]),(7,.int .i64 v2),(8,.int .i64 v3)] [] τ
theorem ru (v0 : (List ByteArray)) (v1 : Int) (v2 : Int) (v3 : Int) (r : LX (Unit) (Int)) (h : bn v0 v1 v2 v3 = some r) : dk v0 v1 v2 v3 r := by
 refine fh (f := fun st => av v0 v1 v2 st) (P := fun st r => ∀ (v3 : Int),v3 = st → dk v0 v1 v2 v3 r) ?_ h v3 rfl
 clear h r v3
 intro st o h r ih v3 hst τ o0  hl ha0 hi0 Q hQ0 hQ1
 subst hst
 have h : av v0 v1 v2 v3 = some o := h
 unfold av at h
 refine nv fun LQ hn hr he => ?_
 by_cases c1 : v3 < v2
 · rw [if_pos c1] at h
   obtain ⟨y2,hy2,h⟩ := ob h
   have f3 := bx hy2
   have f3a := (f3.2.2 TV.str).1
   have f3b := (f3.2.2 TV.str).2
   try simp only [CL,MC,reduceToNat] at f3 f3a f3b
   obtain ⟨y4,hy4,h⟩ := ob h
   have k5 := zcrv y2 v1 _ hy4
   try simp only [CL,MC,reduceToNat] at k5
   by_cases c6 : y4 = true
   · rw [if_pos c6] at h
     injection h with h; subst h
     obtain rfl : _ = r := ih
     simp only [cv,b9,TT,Ic.t,ci,reduceEqDiff,reduceIte,reduceAdd,reduceLT,reduceCtorEq,reduceToNat,hl,ha0,hi0,he,hr,c1,f3.1,f3.2.1,f3a,f3b,k5,c6,CL,LTN]
     exact hQ1 v3 rfl  _ _  (by first | exact jf (Nat.le_refl _) | (simp only [TT,Ic.t,ci,reduceEqDiff,reduceIte,reduceAdd,reduceLT,reduceCtorEq,reduceToNat,hl,ha0,hi0,c1,f3.1,f3.2.1,f3a,f3b,k5,c6,CL,LTN]))
   rw [if_neg c6] at h
   have c6 := Bool.eq_false_iff.2 c6
   injection h with h; subst h
   have ih := ih (IntKind.i64.wrap (v3 + (1 : Int))) rfl
   unfold dk at ih
   simp only [cv,b9,TT,Ic.t,ci,reduceEqDiff,reduceIte,reduceAdd,reduceLT,reduceCtorEq,reduceToNat,hl,ha0,hi0,c1,f3.1,f3.2.1,f3a,f3b,k5,c6,CL,LTN]
   rw [hn]
   simp only [TT,Ic.t,ci,reduceEqDiff,reduceIte,reduceAdd,reduceLT,reduceCtorEq,reduceToNat,hl,ha0,hi0,c1,f3.1,f3.2.1,f3a,f3b,k5,c6,CL,LTN]
   exact ih  τ o0   (by first | assumption | (simp only [ag,ah]; assumption)) (by simp only [TT,Ic.t,ci,reduceEqDiff,reduceIte,reduceAdd,reduceLT,reduceCtorEq,reduceToNat,hl,ha0,hi0,c1,f3.1,f3.2.1,f3a,f3b,k5,c6,CL,LTN]) (by first | assumption | (simp only [ag,ah]; assumption)) Q hQ0 hQ1
 rw [if_neg c1] at h
 injection h with h; subst h
 obtain rfl : _ = r := ih
 simp only [cv,b9,TT,Ic.t,ci,reduceEqDiff,reduceIte,reduceAdd,reduceLT,reduceCtorEq,reduceToNat,hl,ha0,hi0,he,hr,c1,CL,LTN]
 exact hQ0 () rfl  _ _ _   (by first | rfl | (simp only [TT,Ic.t,ci,reduceEqDiff,reduceIte,reduceAdd,reduceLT,reduceCtorEq,reduceToNat,hl,ha0,hi0,c1,CL,LTN])) (by first | exact jf (Nat.le_refl _) | (simp only [TT,Ic.t,ci,reduceEqDiff,reduceIte,reduceAdd,reduceLT,reduceCtorEq,reduceToNat,hl,ha0,hi0,c1,CL,LTN]))
noncomputable def di (p1 : (List ByteArray)) (p2 : Int) : Option Int :=
 bn p1 p2 ((p1.length : Nat) : Int) (0 : Int) >>= fun y1 =>
 match y1 with
 | .ex w2 =>
  some (-1 : Int)
 | .rt w4 =>
  some w4
theorem l4 (p1 : (List ByteArray)) (p2 : Int) (r : Int) (h : di p1 p2 = some r) (τ : TH) (o0 : Nat) (hl : τ.lock ≤ τ.next) (ha0 : τ.at o0 = some ⟨de,[.int .i64 p2]⟩) (hi0 : o0 < τ.next) : Ru G ca [.sl (List.map TV.str p1),.func fv [] [.ptr o0 0]] τ (.int .i64 r) τ := by
 refine li fun K hK => ?_
 rw [ce vv (Nat.le_of_ble_eq_true rfl)]
 unfold di at h
 obtain ⟨y1,hy1,h⟩ := ob h
 simp only [b9,TT,Ic.t,ci,reduceEqDiff,reduceIte,reduceAdd,reduceLT,reduceCtorEq,reduceToNat,hl,ha0,hi0,CL,LTN]
 have Sy1 := ru p1 p2 ((p1.length : Nat) : Int) (0 : Int) y1 hy1
 unfold dk at Sy1
 refine Sy1 _ o0 (by first | assumption | omega | (simp only [ag,am,ah,az]; omega)) (by simp only [TT,Ic.t,ci,reduceEqDiff,reduceIte,reduceAdd,reduceLT,reduceCtorEq,reduceToNat,hl,ha0,hi0,CL,LTN]) (by first | assumption | omega | (simp only [ag,am,ah,az]; omega)) _ ?_ ?_
 · intro w2 e frq3 tkq3 τq3 htq3 hcq3
   subst e
   simp only at h
   have hcq3 := eq (n := τ.next) hcq3 (by first | omega | (simp only [ag,am]; omega))
   try simp only [List.take_succ_cons,List.take_zero,List.take_nil,CL] at htq3
   try simp only [TT,Ic.t,ci,reduceEqDiff,reduceIte,reduceAdd,reduceLT,reduceCtorEq,reduceToNat,hl,ha0,hi0,CL,LTN] at hcq3
   injection h with h; subst h
   simp only [b9,TT,Ic.t,ci,reduceEqDiff,reduceIte,reduceAdd,reduceLT,reduceCtorEq,reduceToNat,hl,ha0,hi0,htq3,hcq3,CL,LTN]
   exact hK
 intro w4 e tkq5 τq5 hcq5
 subst e
 simp only at h
 have hcq5 := eq (n := τ.next) hcq5 (by first | omega | (simp only [ag,am]; omega))
 try simp only [TT,Ic.t,ci,reduceEqDiff,reduceIte,reduceAdd,reduceLT,reduceCtorEq,reduceToNat,hl,ha0,hi0,CL,LTN] at hcq5
 injection h with h; subst h
 simp only [b9,TT,Ic.t,ci,reduceEqDiff,reduceIte,reduceAdd,reduceLT,reduceCtorEq,reduceToNat,hl,ha0,hi0,hcq5,CL,LTN]
 exact hK
theorem ve (p1 : (List ByteArray)) (p2 : Int) (r : Int) (h : di p1 p2 = some r) (lk : Bool) (d : Option Nat) (K : aq) (fr : TF) (tk : TK) (τ : TH) (o0 : Nat) (hl : τ.lock ≤ τ.next) (ha0 : τ.at o0 = some ⟨de,[.int .i64 p2]⟩) (hi0 : o0 < τ.next) : fi G lk ca [.sl (List.map TV.str p1),.func fv [] [.ptr o0 0]] d K fr tk τ = K (ew fr d (.int .i64 r)) tk τ :=
 aw (l4 p1 p2 r h τ o0 hl ha0 hi0) (l4 p1 p2 r h (τ.locked τ.next) o0 (Nat.le_refl _) (by rw [zaqi]; exact ha0) hi0) (by simp only [TT,Ic.t,ci,reduceEqDiff,reduceIte,reduceAdd,reduceLT,reduceCtorEq,reduceToNat,hl,ha0,hi0,CL,LTN])
noncomputable def bp (p1 : (List ByteArray)) (p2 : Int) : Option Bool :=
 di p1 p2 >>= fun y1 =>
 some (decide ((0 : Int) ≤ y1))
theorem kc (p1 : (List ByteArray)) (p2 : Int) (r : Bool) (h : bp p1 p2 = some r) (τ : TH) (o0 : Nat) (hl : τ.lock ≤ τ.next) (ha0 : τ.at o0 = some ⟨de,[.int .i64 p2]⟩) (hi0 : o0 < τ.next) : Ru G bq [.sl (List.map TV.str p1),.func fv [] [.ptr o0 0]] τ (.bool r) τ := by
 refine li fun K hK => ?_
 rw [ce uf (Nat.le_of_ble_eq_true rfl)]
 unfold bp at h
 obtain ⟨y1,hy1,h⟩ := ob h
 have k2 := ve p1 p2 _ hy1
 try simp only [CL,MC,reduceToNat] at k2
 injection h with h; subst h
 simp only [ui,TT,Ic.t,ci,reduceEqDiff,reduceIte,reduceAdd,reduceLT,reduceCtorEq,reduceToNat,hl,ha0,hi0,k2,CL,LTN]
 exact hK
theorem rv (p1 : (List ByteArray)) (p2 : Int) (r : Bool) (h : bp p1 p2 = some r) (lk : Bool) (d : Option Nat) (K : aq) (fr : TF) (tk : TK) (τ : TH) (o0 : Nat) (hl : τ.lock ≤ τ.next) (ha0 : τ.at o0 = some ⟨de,[.int .i64 p2]⟩) (hi0 : o0 < τ.next) : fi G lk bq [.sl (List.map TV.str p1),.func fv [] [.ptr o0 0]] d K fr tk τ = K (ew fr d (.bool r)) tk τ :=
 aw (kc p1 p2 r h τ o0 hl ha0 hi0) (kc p1 p2 r h (τ.locked τ.next) o0 (Nat.le_refl _) (by rw [zaqi]; exact ha0) hi0) (by simp only [TT,Ic.t,ci,reduceEqDiff,reduceIte,reduceAdd,reduceLT,reduceCtorEq,reduceToNat,hl,ha0,hi0,CL,LTN])
noncomputable def pt (p1 : (List ByteArray)) (p2 : Int) (p3 : Int) : Option Bool :=
 if ((p1.length : Nat) : Int) = p2 then
  bp p1 p3 >>= fun y2 =>
  some (!y2)
 else
 some false
theorem zcel (p1 : (List ByteArray)) (p2 : Int) (p3 : Int) (r : Bool) (h : pt p1 p2 p3 = some r) (τ : TH) (hl : τ.lock ≤ τ.next) : Ru G qn [.sl (List.map TV.str p1),.int .i64 p2,.int .i64 p3] τ (.bool r) τ := by
 refine li fun K hK => ?_
 rw [ce zcuf (Nat.le_of_ble_eq_true rfl)]
 unfold pt at h
 by_cases c1 : ((p1.length : Nat) : Int) = p2
 · rw [if_pos c1] at h
   obtain ⟨y2,hy2,h⟩ := ob h
   have k3 := rv p1 p3 _ hy2
   try simp only [CL,MC,reduceToNat] at k3
   injection h with h; subst h
   simp only [zb88,TT,Ic.t,ci,reduceEqDiff,reduceIte,reduceAdd,reduceLT,reduceCtorEq,reduceToNat,hl,eq_true c1,k3,CL,LTN]
   exact hK
 rw [if_neg c1] at h
 injection h with h; subst h
 simp only [zb88,TT,Ic.t,ci,reduceEqDiff,reduceIte,reduceAdd,reduceLT,reduceCtorEq,reduceToNat,hl,c1,CL,LTN]
 exact hK
theorem zcek (p1 : (List ByteArray)) (p2 : Int) (p3 : Int) (r : Bool) (h : pt p1 p2 p3 = some r) (lk : Bool) (d : Option Nat) (K : aq) (fr : TF) (tk : TK) (τ : TH) (hl : τ.lock ≤ τ.next) : fi G lk qn [.sl (List.map TV.str p1),.int .i64 p2,.int .i64 p3] d K fr tk τ = K (ew fr d (.bool r)) tk τ :=
 aw (zcel p1 p2 p3 r h τ  hl) (zcel p1 p2 p3 r h (τ.locked τ.next)  (Nat.le_refl _) ) (by simp only [TT,Ic.t,ci,reduceEqDiff,reduceIte,reduceAdd,reduceLT,reduceCtorEq,reduceToNat,hl,CL,LTN])
noncomputable def zc (p1 : aa) (p2 : Int) : Option Bool :=
 lq p1.From (0 : Int) (IntKind.i64.wrap (p2 - (1 : Int))) >>= fun y1 =>
 if y1 = true then
  lq p1.To (0 : Int) (IntKind.i64.wrap (p2 - (1 : Int))) >>= fun y4 =>
  if y4 = true then
   if p1.From = p1.To then
    some false
   else
   lq p1.Ledger (0 : Int) (3 : Int) >>= fun y8 =>
   if y8 = true then
    pu p1.Asset >>= fun y11 =>
    if y11 = true then
     lq p1.Amount (1 : Int) (1125899906842624 : Int) >>= fun y14 =>
     some y14
    else
    some false
   else
   some false
  else
  some false
 else
 some false
theorem zb95 (p1 : aa) (p2 : Int) (r : Bool) (h : zc p1 p2 = some r) (τ : TH) (hl : τ.lock ≤ τ.next) : Ru G zk [.agg [.int .i64 p1.From,.int .i64 p1.To,.int .i64 p1.Ledger,.str p1.Asset,.int .i64 p1.Amount],.int .i64 p2] τ (.bool r) τ := by
 refine li fun K hK => ?_
 rw [ce zbcl (Nat.le_of_ble_eq_true rfl)]
 unfold zc at h
 obtain ⟨y1,hy1,h⟩ := ob h
 have k2 := ms p1.From (0 : Int) (IntKind.i64.wrap (p2 - (1 : Int))) _ hy1
 try simp only [CL,MC,reduceToNat] at k2
 by_cases c3 : y1 = true
 · rw [if_pos c3] at h
   obtain ⟨y4,hy4,h⟩ := ob h
   have k5 := ms p1.To (0 : Int) (IntKind.i64.wrap (p2 - (1 : Int))) _ hy4
   try simp only [CL,MC,reduceToNat] at k5
   by_cases c6 : y4 = true
   · rw [if_pos c6] at h
     by_cases c7 : p1.From = p1.To
     · rw [if_pos c7] at h
       injection h with h; subst h
       simp only [zh,TT,Ic.t,ci,reduceEqDiff,reduceIte,reduceAdd,reduceLT,reduceCtorEq,reduceToNat,hl,k2,c3,k5,c6,eq_true c7,CL,LTN]
       first | exact hK | (simp only [hl,k2,c3,k5,c6,eq_true c7,CL] at hK; exact hK)
     rw [if_neg c7] at h
     obtain ⟨y8,hy8,h⟩ := ob h
     have k9 := ms p1.Ledger (0 : Int) (3 : Int) _ hy8
     try simp only [CL,MC,reduceToNat] at k9
     by_cases c10 : y8 = true
     · rw [if_pos c10] at h
       obtain ⟨y11,hy11,h⟩ := ob h
       have k12 := zb1e p1.Asset _ hy11
       try simp only [CL,MC,reduceToNat] at k12
       by_cases c13 : y11 = true
       · rw [if_pos c13] at h
         obtain ⟨y14,hy14,h⟩ := ob h
         have k15 := ms p1.Amount (1 : Int) (1125899906842624 : Int) _ hy14
         try simp only [CL,MC,reduceToNat] at k15
         injection h with h; subst h
         simp only [zh,TT,Ic.t,ci,reduceEqDiff,reduceIte,reduceAdd,reduceLT,reduceCtorEq,reduceToNat,hl,k2,c3,k5,c6,c7,k9,c10,k12,c13,k15,CL,LTN]
         first | exact hK | (simp only [hl,k2,c3,k5,c6,c7,k9,c10,k12,c13,k15,CL] at hK; exact hK)
       rw [if_neg c13] at h
       have c13 := Bool.eq_false_iff.2 c13
       injection h with h; subst h
       simp only [zh,TT,Ic.t,ci,reduceEqDiff,reduceIte,reduceAdd,reduceLT,reduceCtorEq,reduceToNat,hl,k2,c3,k5,c6,c7,k9,c10,k12,c13,CL,LTN]
       first | exact hK | (simp only [hl,k2,c3,k5,c6,c7,k9,c10,k12,c13,CL] at hK; exact hK)
     rw [if_neg c10] at h
     have c10 := Bool.eq_false_iff.2 c10
     injection h with h; subst h
     simp only [zh,TT,Ic.t,ci,reduceEqDiff,reduceIte,reduceAdd,reduceLT,reduceCtorEq,reduceToNat,hl,k2,c3,k5,c6,c7,k9,c10,CL,LTN]
     first | exact hK | (simp only [hl,k2,c3,k5,c6,c7,k9,c10,CL] at hK; exact hK)
   rw [if_neg c6] at h
   have c6 := Bool.eq_false_iff.2 c6
   injection h with h; subst h
   simp only [zh,TT,Ic.t,ci,reduceEqDiff,reduceIte,reduceAdd,reduceLT,reduceCtorEq,reduceToNat,hl,k2,c3,k5,c6,CL,LTN]
   first | exact hK | (simp only [hl,k2,c3,k5,c6,CL] at hK; exact hK)
 rw [if_neg c3] at h
 have c3 := Bool.eq_false_iff.2 c3
 injection h with h; subst h
 simp only [zh,TT,Ic.t,ci,reduceEqDiff,reduceIte,reduceAdd,reduceLT,reduceCtorEq,reduceToNat,hl,k2,c3,CL,LTN]
 first | exact hK | (simp only [hl,k2,c3,CL] at hK; exact hK)
theorem zcpe (p1 : aa) (p2 : Int) (r : Bool) (h : zc p1 p2 = some r) (lk : Bool) (d : Option Nat) (K : aq) (fr : TF) (tk : TK) (τ : TH) (hl : τ.lock ≤ τ.next) : fi G lk zk [.agg [.int .i64 p1.From,.int .i64 p1.To,.int .i64 p1.Ledger,.str p1.Asset,.int .i64 p1.Amount],.int .i64 p2] d K fr tk τ = K (ew fr d (.bool r)) tk τ :=
 aw (zb95 p1 p2 r h τ  hl) (zb95 p1 p2 r h (τ.locked τ.next)  (Nat.le_refl _) ) (by simp only [TT,Ic.t,ci,reduceEqDiff,reduceIte,reduceAdd,reduceLT,reduceCtorEq,reduceToNat,hl,CL,LTN])
open Go Go.RowKit Sh Ic
def mi (l : List ByteArray) : Option Bool := if l.length ≤ 140737488355328 ∧ ∀ x ∈ l,x.size ≤ 140737488355328 then some (decide l.Nodup) else none
theorem zcsk (p1 : List ByteArray) (r : Bool) (h : mi p1 = some r) (lk : Bool) (d : Option Nat) (K : aq) (fr : TF) (tk : TK) (τ : TH) (hl : τ.lock ≤ τ.next) : fi G lk fj [.sl (List.map TV.str p1)] d K fr tk τ = K (ew fr d (.bool r)) tk τ := by
 unfold mi at h
 split at h
 · rename_i hc
   injection h with h
   subst h
   have hr : ∀ τ,Ru G fj [.sl (p1.map TV.str)] τ (.bool (decide p1.Nodup)) τ := fun τ => zb16 zcsd (by
    have := zbw7 (key := zbyr) (f := TV.str) (g := id) p1 (fun b hb => by show (if b.size ≤ 140737488355328 then some b else none) = some b; rw [if_pos (hc.2 b hb)])
    have hl : (p1.map TV.str).length ≤ 140737488355328 := by rw [List.length_map]; exact hc.1
    simp only [zbgx,zbkq,TV.list,if_pos hl,this,Option.map_some,List.map_id])
   exact aw (hr _) (hr _) (by simp only [TT,Ic.t,Ic.ci,Nat.reduceEqDiff,reduceIte,Nat.reduceAdd,Nat.reduceLT,reduceCtorEq,Int.reduceToNat])
 · cases h
def vj (l : List Int) : Option Bool := if l.length ≤ 140737488355328 ∧ ∀ x ∈ l,za36 x = true then some (decide l.Nodup) else none
theorem zcsc (p1 : List Int) (r : Bool) (h : vj p1 = some r) (lk : Bool) (d : Option Nat) (K : aq) (fr : TF) (tk : TK) (τ : TH) (hl : τ.lock ≤ τ.next) : fi G lk jw [.sl (List.map (TV.int .i64) p1)] d K fr tk τ = K (ew fr d (.bool r)) tk τ := by
 unfold vj at h
 split at h
 · rename_i hc
   injection h with h
   subst h
   have hr : ∀ τ,Ru G jw [.sl (p1.map (TV.int .i64))] τ (.bool (decide p1.Nodup)) τ := fun τ => zb16 zcq4 (by
    have := zbw7 (key := zbys) (f := TV.int .i64) (g := id) p1 (fun b hb => by show (if za36 b then some b else none) = some b; rw [if_pos (hc.2 b hb)])
    have hl : (p1.map (TV.int .i64)).length ≤ 140737488355328 := by rw [List.length_map]; exact hc.1
    simp only [zbgy,zbkq,TV.list,if_pos hl,this,Option.map_some,List.map_id])
   exact aw (hr _) (hr _) (by simp only [TT,Ic.t,Ic.ci,Nat.reduceEqDiff,reduceIte,Nat.reduceAdd,Nat.reduceLT,reduceCtorEq,Int.reduceToNat])
 · cases h
def two (x : dq) : Int × Int := (x.e0,x.e1)
def qr (l : List dq) : Option Bool := if l.length ≤ 140737488355328 ∧ ∀ x ∈ l,(za36 x.e0 && za36 x.e1) = true then some (decide (l.map two).Nodup) else none
theorem zcsi (p1 : List dq) (r : Bool) (h : qr p1 = some r) (lk : Bool) (d : Option Nat) (K : aq) (fr : TF) (tk : TK) (τ : TH) (hl : τ.lock ≤ τ.next) : fi G lk g7 [.sl (List.map dq.tv p1)] d K fr tk τ = K (ew fr d (.bool r)) tk τ := by
 unfold qr at h
 split at h
 · rename_i hc
   injection h with h
   subst h
   have hr : ∀ τ,Ru G g7 [.sl (p1.map dq.tv)] τ (.bool (decide (p1.map two).Nodup)) τ := fun τ => zb16 zcrz (by
    have := zbw7 (key := zbyt) (f := dq.tv) (g := two) p1 (fun b hb => by
     show (if (za36 b.e0 && za36 b.e1) = true then some (b.e0,b.e1) else none) = some (b.e0,b.e1)
     rw [if_pos (hc.2 b hb)])
    have hl : (p1.map dq.tv).length ≤ 140737488355328 := by rw [List.length_map]; exact hc.1
    simp only [zbgz,zbkq,TV.list,if_pos hl,this,Option.map_some])
   exact aw (hr _) (hr _) (by simp only [TT,Ic.t,Ic.ci,Nat.reduceEqDiff,reduceIte,Nat.reduceAdd,Nat.reduceLT,reduceCtorEq,Int.reduceToNat])
 · cases h
end Go.Proofs.Ytdcfoaafkppojaa
