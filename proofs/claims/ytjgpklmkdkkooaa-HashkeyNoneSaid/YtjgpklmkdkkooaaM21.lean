import Derived.Test.YtjgpklmkdkkooaaM20
set_option linter.unusedVariables false
set_option linter.unusedSimpArgs false
set_option linter.unusedSectionVars false
open Nat (reduceEqDiff reduceAdd reduceMul reduceLT reduceLeDiff reduceSub)
open Int (reduceToNat reduceNe reduceEq reduceNeg reduceLE)
namespace Go.Proofs.Ytjgpklmkdkkooaa
open Go Go.RowKit Sh Ic
def bare (l:List ByteArray):List aj:=l.map fun a => ⟨a,[]⟩
def zb7f (l:List aj):Ob:=⟨n9,l.flatMap aj.cells⟩
theorem zbpm (l:List ByteArray) (a:ByteArray):(⟨n9,(bare l).flatMap aj.cells ++ [.str a,.sl []]⟩:Ob) = zb7f (bare (l ++ [a])):=by
 unfold zb7f bare; rw [List.map_append,List.flatMap_append]; rfl
theorem zchr (l:List ByteArray):(bare l).length = l.length:=List.length_map ..
def zbxl (arcs:List TV) (start delta:Int) (idP n:Nat):SpB:=⟨⟨#[114,105,110,103]⟩,idP,n,arcs,[.int .i64 0],start,delta⟩
def zb5k (arcs:List TV) (start delta:Int):Ob:=⟨bh,[.str ⟨#[114,105,110,103]⟩,.slz,.sl arcs,.sl [.int .i64 0],.slz,.int .i64 start,.int .i64 delta]⟩
inductive zbzs (arcs:List TV) (start delta:Int) (τ0 τ:TH) (id6 id7 B:Nat):List ByteArray → Prop
 | nil (ha:τ.at id7 = some (zb5k arcs start delta)):zbzs arcs start delta τ0 τ id6 id7 B []
 | obj (idP:Nat) (l:List ByteArray) (hne:l.length ≠ 0) (h0:τ0.next ≤ idP) (hB:B ≤ idP) (h6:id6 < idP) (h1:idP < id7) (ha:τ.at id7 = some ((zbxl arcs start delta idP l.length).ob .slz)) (hp:τ.at idP = some (zb7f (bare l))):zbzs arcs start delta τ0 τ id6 id7 B l
section
variable {τ:TH} {k:Nat} {a b:Ob}
theorem zbz6 (hn:τ.next = k):((τ.push a).push b).next = k + 2:=by rw [jm,jm,hn]
theorem zchg (hn:τ.next = k):((τ.push a).push b).at k = some a:=by rw [zbx0 (by rw [jm]; omega),← hn]; exact zb3n
theorem zchh (hn:τ.next = k):((τ.push a).push b).at (k + 1) = some b:=by rw [← hn,← jm (b:=a)]; exact zb3n
theorem zb0r {j:Nat} (hj:j < τ.next):((τ.push a).push b).at j = τ.at j:=by rw [zbx0 (by rw [jm]; omega),zbx0 hj]
end
set_option maxHeartbeats 1000000 in
theorem zcbr (n:Nat) (hn:n ≤ 6) (arcs:List TV) (start delta:Int) (z6:Ob) (id6:Nat) (τ0:TH) (hl0:τ0.lock ≤ τ0.next) (r:List ByteArray) (h6:τ0.next ≤ id6) (B:Nat) (Q:TEx → ap) (m:Nat):∀ (i:Nat) (l:List ByteArray) (id7:Nat) (τ:TH),m + i = n → l.length = i → za2e r9 m i l = some r → j5 τ0 τ → zbzs arcs start delta τ0 τ id6 id7 B l → τ0.next ≤ id7 → id7 < τ.next → id6 < id7 → τ.at id6 = some z6 → B ≤ τ.next →
 (∀ id7 τ,j5 τ0 τ → zbzs arcs start delta τ0 τ id6 id7 B r → τ0.next ≤ id7 → id7 < τ.next → id6 < id7 → τ.at id6 = some z6 → Q (.exit 0) [(0,.int .i64 n),(6,.ptr id6 0),(7,.ptr id7 0),(8,.int .i64 n),(17,.bool false)] [] τ) →
 tW G (.loop [0,6,7,8] zb9y) Q [(0,.int .i64 n),(6,.ptr id6 0),(7,.ptr id7 0),(8,.int .i64 (i:Int))] [] τ:=by
 induction m with
 | zero =>
  intro i l id7 τ hi hl hr hg hv h07 h7 h67 ha6 hBn hQ
  obtain rfl:i = n:=by omega
  injection hr with hr
  subst hr
  have c:¬ (i:Int) < (i:Int):=by omega
  refine mo fun LQ hnx hr he => ?_
  simp only [zb9y,zcem,TT,Ic.t,ci,reduceEqDiff,reduceCtorEq,c,he]
  exact hQ _ _ hg hv h07 h7 h67 ha6
 | succ m ih =>
  intro i l id7 τ hi hl hr hg hv h07 h7 h67 ha6 hBn hQ
  obtain ⟨x,hx,hr⟩:=ob hr
  have c:(i:Int) < (n:Int):=by omega
  have w1:IntKind.i64.wrap ((i:Int) + 1) = ((i + 1:Nat):Int):=by rw [wA (by omega) (by omega)]; omega
  have hlk:τ.lock ≤ τ.next:=by have:=hg.lock; have:=hg.next; omega
  have k1:=zdix _ _ hx
  have lt1:¬ τ.next + 1 < τ.next:=by omega
  have l1:τ.lock ≤ τ.next + 1:=by omega
  have h67n:¬ id6 = id7:=by omega
  have hw7:τ.lock ≤ id7:=by have:=hg.lock; omega
  refine mo fun LQ hnx hrr he => ?_
  cases hv with
  | nil ha =>
   simp only [zb9y,zcem,TT,Ic.t,ci,reduceEqDiff,reduceAdd,reduceLeDiff,reduceCtorEq,c,ha,zb5k,hlk,k1]
   refine ⟨by unfold maxLen; omega,zb28 (h:=?_) ..⟩
   simp only [TT,Ic.t,reduceEqDiff,reduceAdd,reduceLT,reduceLeDiff,reduceCtorEq,ha,zb5k,h7,hw7,zbx0 h7,h67n,lt1,l1,w1,Bool.and_false,Bool.false_eq_true]
   rw [hnx]
   simp only [TT,reduceEqDiff,reduceCtorEq,lt1,List.flatMap_cons,List.flatMap_nil,Bool.and_false,Bool.false_eq_true]
   have g1:=((hg.put h07 ⟨bh,[]⟩).push (zb7f (bare [x]))).push ((zbxl arcs start delta τ.next 1).ob .slz)
   have q:=ih (i + 1) [x] (τ.next + 1) _ (by omega) (by simp at hl ⊢; omega) hr g1 (.obj τ.next [x] (by simp) hg.next hBn (by omega) (by omega) (zchh br) (zchg br)) (by have:=hg.next; omega) (by rw [zbz6 br]; omega) (by omega)
    (by rw [zb0r (by rw [br]; omega),ry (by omega)]; exact ha6) (by first | (rw [zbz6 br]; omega) | (rw [zbz6 nn]; omega)) hQ
   exact q
  | obj idP l hne h0 hB h6P h1 ha hp =>
   have m1:l.length + 1 ≤ maxLen:=by unfold maxLen; omega
   have m2:(l.length + 1) * 40 ≤ 140737488355328:=by omega
   have f2:((bare l).flatMap aj.cells).length = l.length * 2:=by rw [za6y (k:=2) (fun _ => rfl),zchr]
   have hwP:τ.lock ≤ idP:=by have:=hg.lock; omega
   have hPn:idP < τ.next:=by omega
   have e7:(τ.put idP ⟨n9,[]⟩).at id7 = some ((zbxl arcs start delta idP l.length).ob .slz):=by rw [ry (by omega)]; exact ha
   simp only [zb9y,zcem,TT,Ic.t,ci,reduceEqDiff,reduceAdd,reduceLeDiff,reduceCtorEq,c,ha,hp,zb7f,zbxl,SpB.ob,hlk,hwP,k1,m1,m2,f2,hne]
   refine zb28 (h:=?_) ..
   simp only [TT,Ic.t,reduceEqDiff,reduceAdd,reduceLT,reduceLeDiff,reduceCtorEq,e7,zbxl,SpB.ob,h7,hw7,h67n,lt1,l1,w1,Bool.and_false,Bool.false_eq_true]
   rw [hnx]
   simp only [TT,reduceEqDiff,reduceCtorEq,lt1,List.flatMap_cons,List.flatMap_nil,Bool.and_false,Bool.false_eq_true]
   rw [zbpm]
   have g1:=(((hg.put h0 ⟨n9,[]⟩).put h07 ⟨bh,[]⟩).push (zb7f (bare (l ++ [x])))).push ((zbxl arcs start delta τ.next (l.length + 1)).ob .slz)
   have nn:((τ.put idP ⟨n9,[]⟩).put id7 ⟨bh,[]⟩).next = τ.next:=by rw [br,br]
   have q:=ih (i + 1) (l ++ [x]) (τ.next + 1) _ (by omega) (by rw [List.length_append,hl]; rfl) hr g1 (.obj τ.next (l ++ [x]) (by simp) hg.next hBn (by omega) (by omega) (by rw [List.length_append]; exact zchh nn) (zchg nn)) (by have:=hg.next; omega) (by rw [zbz6 nn]; omega) (by omega)
    (by rw [zb0r (by rw [nn]; omega),ry (by omega),ry (by omega)]; exact ha6) (by first | (rw [zbz6 br]; omega) | (rw [zbz6 nn]; omega)) hQ
   exact q
theorem zcq4 {f:TV → Option TV}:∀ {l k l' k':List TV},j6 f l = some l' → j6 f k = some k' → j6 f (l ++ k) = some (l' ++ k')
 | [],k,l',k',h,h2 => by injection h with h; subst h; exact h2
 | v :: r,k,l',k',h,h2 => by
  simp only [j6] at h
  cases hv:f v with
  | none => rw [hv] at h; cases h
  | some x =>
   rw [hv] at h
   cases hr:j6 f r with
   | none => rw [hr] at h; cases h
   | some y =>
    rw [hr] at h
    injection h with h
    subst h
    have:=zcq4 hr h2
    simp only [List.cons_append,j6,hv,this]
theorem zbry {α:Type} {f:TV → Option TV} {c c':α → List TV} (h:∀ x,j6 f ((c x).map TV.rd) = some (c' x)):∀ l:List α,j6 f ((l.flatMap c).map TV.rd) = some (l.flatMap c')
 | [] => rfl
 | x :: r => by rw [List.flatMap_cons,List.map_append,List.flatMap_cons]; exact zcq4 (h x) (zbry h r)
theorem zbzf {α:Type} {c c':α → List TV} {k:Nat} {e:α → TV} (hk:k ≠ 0) (hc:∀ x,(c x).length = k) (hc':∀ x,(c' x).length = k) (he:∀ x,zac6 (c' x) = e x) (τ:TH) (n0 id m:Nat) (t:TypeId) (l:List α) (h0:n0 ≤ id) (ha:τ.at id = some ⟨t,l.flatMap c⟩) (hl:l.length = m)
 (hf:∀ x,j6 (mz τ n0 1) ((c x).map TV.rd) = some (c' x)):mz τ n0 2 (.slm id 0 m k) = some (.sl (l.map e)):=by
 subst hl
 have tr:sa τ id 0 (l.length * k) = some ((l.flatMap c).map TV.rd):=by
  unfold sa
  rw [ha]
  simp only [Option.bind_some,za6y hc,Nat.zero_add,Nat.le_refl,if_true,List.drop_zero,zbvb hc]
 have n1:¬ (k = 0 ∨ id < n0):=by omega
 show (if k = 0 ∨ id < n0 then none else (sa τ id 0 (l.length * k)).bind fun l' => (j6 (mz τ n0 1) l').map fun l' => TV.sl (zbk5 k l.length l')) = _
 rw [if_neg n1,tr,Option.bind_some,zbry hf l,Option.map_some,zcly hc' he]
theorem zb6c (τ:TH) (n0 id m:Nat) (l:List aj) (h0:n0 ≤ id) (ha:τ.at id = some (zbq9 l)) (hl:l.length = m):mz τ n0 2 (.slm id 0 m 2) = some (.sl (l.map aj.tv)) :=
 zbzf (c:=zbqo) (c':=aj.cells) (by decide) kc2 (fun _ => rfl) (fun _ => rfl) τ n0 id m _ l h0 ha hl fun x => by
  obtain ⟨a,ks⟩:=x
  cases ks <;> rfl
theorem zbui (f:Int → Option ByteArray) (n:Nat):∀ (k:Nat) (l r:List ByteArray),za2e f n k l = some r → r.length = l.length + n:=by
 induction n with
 | zero => intro k l r h; injection h with h; subst h; rfl
 | succ n ih => intro k l r h; obtain ⟨x,_,h⟩:=ob h; rw [ih _ _ _ h,List.length_append]; simp; omega
theorem zbst (L:Nat) (rest:List aj):∀ (i:Nat) (d r:List aj),zbzx L rest i d = some r → r.length = d.length + rest.length:=by
 induction rest with
 | nil => intro i d r h; injection h with h; subst h; rfl
 | cons x rest ih => intro i d r h; obtain ⟨ks,_,h⟩:=ob h; rw [ih _ _ _ h,List.length_append]; simp; omega
theorem zb5j (n:Nat) (hn1:1 ≤ n) (hn:n ≤ 6) (start delta:Int) (al:List ac) (accs lr:List ByteArray) (rows:List aj) (has:zb9r n 0 2 = some al) (hac:za2e r9 n 0 [] = some accs) (hlr:za2e zbpp 1 0 [] = some lr) (hrows:zbzx 1 (bare accs) 0 [] = some rows)
 (τ:TH) (hl:τ.lock ≤ τ.next):Ru G zb0e [.int .i64 n,.int .i64 start,.int .i64 delta] τ (.agg (af.cells ⟨⟨#[114,105,110,103]⟩,rows,al,[0],lr,start,delta⟩)) τ:=by
 refine gp fun K hK => ?_
 rw [bc zbp5 (Nat.le_of_ble_eq_true rfl)]
 have l1:τ.lock ≤ τ.next + 1:=by omega
 have l2:τ.lock ≤ τ.next + 2:=by omega
 have k1:=zddn _ _ _ _ has
 simp only [zcem,TT,Ic.t,ci,reduceEqDiff,reduceAdd,reduceLeDiff,reduceCtorEq,l1,k1]
 have c0:(τ.push ⟨bh,[.str ⟨#[]⟩,.slz,.slz,.slz,.slz,.int .i64 0,.int .i64 0]⟩).next = τ.next + 1:=jm
 refine zcbr n hn (al.map ac.tv) start delta ⟨bh,[.str ⟨#[]⟩,.slz,.slz,.slz,.slz,.int .i64 0,.int .i64 0]⟩ τ.next τ hl accs (Nat.le_refl _) (τ.next + 2) _ n 0 [] (τ.next + 1) _ rfl rfl hac (((j5.refl τ).push _).push _) (.nil (zchh rfl)) (by omega) (by rw [zbz6 rfl]; omega) (by omega) (zchg rfl) (by rw [zbz6 rfl]; omega) ?_
 intro id7 τ1 hg1 hr1 h07 h71 h67 ha6
 have la:accs.length = n:=by rw [zbui _ _ _ _ _ hac]; simp
 cases hr1 with
 | nil ha => simp at la; omega
 | obj idP l hne h0 hB h6P h1 ha hp =>
  have lt7:¬ id7 < τ.next + 2:=by omega
  have hL:zb9r n 0 2 = some al:=has
  have kr:=fun (K:ap) (fr:TF) (d:Option Nat) => zbz3 (Γ:=G) (d:=d) (K:=K) (fr:=fr) (tk:=[]) (zby4 (zbxl (al.map ac.tv) start delta idP accs.length) [] (bare accs) rows lr (by show 1 ≤ 6; omega) (by show accs.length ≤ 20; omega) (by show accs.length = _; rw [zchr]) hlr hrows τ1 (by have:=hg1.lock; have:=hg1.next; omega) hp (by show idP < _; omega) (by have:=hg1.lock; show _ ≤ idP; omega)) (by simp only [TT,zbxl,show idP < τ1.next by omega])
  simp only [zbxl] at kr
  simp only [TT,reduceEqDiff,reduceAdd,reduceLT,reduceCtorEq,lt7,ha,zbxl,SpB.ob,kr]
  have hPn:idP < τ1.next:=by omega
  have hb:(τ1.put idP (zbq9 rows)).at τ.next = some ⟨bh,[.str ⟨#[]⟩,.slz,.slz,.slz,.slz,.int .i64 0,.int .i64 0]⟩:=by rw [ry (by omega)]; exact ha6
  refine zbzv (hz:=rfl) (hb:=hb) (hc:=⟨by show τ1.lock ≤ _; have:=hg1.lock; omega,by simp⟩) (hx:=fun v e => by cases e) (h:=?_) ..
  obtain ⟨τ2,e2⟩:∃ τ2,τ2 = (τ1.put idP (zbq9 rows)).put τ.next ⟨bh,[]⟩:=⟨_,rfl⟩
  have n2:τ2.next = τ1.next:=by rw [e2,br,br]
  have hg2:j5 τ τ2:=by rw [e2]; exact (hg1.put (by omega) _).put (Nat.le_refl _) _
  have aP:τ2.at idP = some (zbq9 rows):=by rw [e2,ry (by omega)]; exact zbw9 hPn
  rw [← e2]
  have e3:(τ1.put idP (zbq9 rows)).next = τ2.next:=by rw [n2,br]
  have lk2:τ2.lock ≤ τ2.next:=by have:=hg2.lock; have:=hg2.next; omega
  have hP2:idP < τ2.next + 1:=by omega
  rw [e3]
  have rl:rows.length = accs.length:=by rw [zbst _ _ _ _ _ hrows,zchr]; simp
  have fr:∀ x,mz (τ2.push x) τ.next 2 (.slm idP 0 accs.length 2) = some (.sl (rows.map aj.tv)):=fun x => zb6c _ _ _ _ _ h0 (by rw [zbx0 (by omega)]; exact aP) rl
  have cx:∀ x,(τ2.push x).cut τ.next = τ:=fun x => (hg2.push x).cut
  simp only [TT,reduceEqDiff,reduceAdd,reduceCtorEq,lk2,hP2,fr,cx]
  exact hK
noncomputable def zb8d (n start delta:Int):Option af:=if 1 ≤ n ∧ n ≤ 6 then
 zb9r n 0 2 >>= fun al =>
 za2e r9 n.toNat 0 [] >>= fun accs =>
 za2e zbpp 1 0 [] >>= fun lr =>
 zbzx 1 (bare accs) 0 [] >>= fun rows =>
 some ⟨⟨#[114,105,110,103]⟩,rows,al,[0],lr,start,delta⟩ else none
theorem zcz7 (p1 p2 p3:Int) (r:af) (h:zb8d p1 p2 p3 = some r) (lk:Bool) (d:Option Nat) (K:ap) (fr:TF) (tk:TK) (τ:TH) (hl:τ.lock ≤ τ.next):du G lk zb0e [.int .i64 p1,.int .i64 p2,.int .i64 p3] d K fr tk τ = K (fp fr d (.agg (af.cells r))) tk τ:=by
 obtain ⟨⟨h1,h2⟩,h⟩:=ifS h
 obtain ⟨al,a1,h⟩:=ob h
 obtain ⟨accs,a2,h⟩:=ob h
 obtain ⟨lr,a3,h⟩:=ob h
 obtain ⟨rows,a4,h⟩:=ob h
 injection h with h
 subst h
 obtain ⟨n,rfl⟩:∃ n:Nat,p1 = (n:Int):=⟨p1.toNat,by omega⟩
 have hr:=fun τ hl => zb5j n (by omega) (by omega) p2 p3 al accs lr rows a1 a2 a3 a4 τ hl
 exact au (hr _ hl) (hr _ (Nat.le_refl _)) (by simp only [TT])
end Go.Proofs.Ytjgpklmkdkkooaa
open Nat (reduceEqDiff reduceAdd reduceLT)
open Int (reduceToNat reduceEq)
namespace Go.Proofs.Ytjgpklmkdkkooaa
open Go Go.RowKit Sh Ic
noncomputable def w9 (p1:ByteArray):Option Bool :=
 if (1:Int) ≤ ((p1.size:Nat):Int) then
  some (decide (((p1.size:Nat):Int) ≤ (16:Int)))
 else
 some false
theorem zcw4 (p1:ByteArray) (r:Bool) (h:w9 p1 = some r) (τ:TH) (hl:τ.lock ≤ τ.next):Ru G xz [.str p1] τ (.bool r) τ:=by
 refine gp fun K hK => ?_
 rw [bc zdc5 (Nat.le_of_ble_eq_true rfl)]
 unfold w9 at h
 by_cases c1:(1:Int) ≤ ((p1.size:Nat):Int)
 · rw [if_pos c1] at h
   injection h with h; subst h
   simp only [zc7k,TT,Ic.t,ci,reduceEqDiff,reduceCtorEq,c1]
   exact hK
 rw [if_neg c1] at h
 injection h with h; subst h
 simp only [zc7k,TT,Ic.t,ci,reduceEqDiff,reduceCtorEq,c1]
 exact hK
theorem zcju (p1:ByteArray) (r:Bool) (h:w9 p1 = some r) (lk:Bool) (d:Option Nat) (K:ap) (fr:TF) (tk:TK) (τ:TH) (hl:τ.lock ≤ τ.next):du G lk xz [.str p1] d K fr tk τ = K (fp fr d (.bool r)) tk τ :=
 au (zcw4 p1 r h τ  hl) (zcw4 p1 r h (τ.locked τ.next)  (Nat.le_refl _) ) (by simp only [TT])
noncomputable def p9 (p1:Int) (p2:Int) (p3:Int):Option Bool :=
 if p2 ≤ p1 then
  some (decide (p1 ≤ p3))
 else
 some false
theorem zc8h (p1:Int) (p2:Int) (p3:Int) (r:Bool) (h:p9 p1 p2 p3 = some r) (τ:TH) (hl:τ.lock ≤ τ.next):Ru G qi [.int .i64 p1,.int .i64 p2,.int .i64 p3] τ (.bool r) τ:=by
 refine gp fun K hK => ?_
 rw [bc zbu6 (Nat.le_of_ble_eq_true rfl)]
 unfold p9 at h
 by_cases c1:p2 ≤ p1
 · rw [if_pos c1] at h
   injection h with h; subst h
   simp only [zcr9,TT,Ic.t,reduceEqDiff,reduceAdd,reduceCtorEq,c1]
   exact hK
 rw [if_neg c1] at h
 injection h with h; subst h
 simp only [zcr9,TT,Ic.t,reduceEqDiff,reduceAdd,reduceCtorEq,c1]
 exact hK
theorem sm (p1:Int) (p2:Int) (p3:Int) (r:Bool) (h:p9 p1 p2 p3 = some r) (lk:Bool) (d:Option Nat) (K:ap) (fr:TF) (tk:TK) (τ:TH) (hl:τ.lock ≤ τ.next):du G lk qi [.int .i64 p1,.int .i64 p2,.int .i64 p3] d K fr tk τ = K (fp fr d (.bool r)) tk τ :=
 au (zc8h p1 p2 p3 r h τ  hl) (zc8h p1 p2 p3 r h (τ.locked τ.next)  (Nat.le_refl _) ) (by simp only [TT])
noncomputable def z5 (p1:ByteArray) (p2:Int):Option Bool :=
 some (decide (¬ (((p1.size:Nat):Int) = p2)))
theorem zc2f (p1:ByteArray) (p2:Int) (r:Bool) (h:z5 p1 p2 = some r) (τ:TH) (o0:Nat) (hl:τ.lock ≤ τ.next) (ha0:τ.at o0 = some ⟨jy,[.int .i64 p2]⟩) (hi0:o0 < τ.next):Ru G jz [.str p1,.ptr o0 0] τ (.bool r) τ:=by
 refine gp fun K hK => ?_
 rw [bc zdi1 (Nat.le_of_ble_eq_true rfl)]
 unfold z5 at h
 injection h with h; subst h
 simp only [zdfv,TT,Ic.t,reduceEqDiff,reduceAdd,reduceCtorEq,ha0]
 exact hK
theorem zdkd (p1:ByteArray) (p2:Int) (r:Bool) (h:z5 p1 p2 = some r) (lk:Bool) (d:Option Nat) (K:ap) (fr:TF) (tk:TK) (τ:TH) (o0:Nat) (hl:τ.lock ≤ τ.next) (ha0:τ.at o0 = some ⟨jy,[.int .i64 p2]⟩) (hi0:o0 < τ.next):du G lk jz [.str p1,.ptr o0 0] d K fr tk τ = K (fp fr d (.bool r)) tk τ :=
 au (zc2f p1 p2 r h τ o0 hl ha0 hi0) (zc2f p1 p2 r h (τ.locked τ.next) o0 (Nat.le_refl _) (by rw [ww]; exact ha0) hi0) (by simp only [TT,hi0])
noncomputable def bb (v0:(List ByteArray)) (v1:Int) (v2:Int) (v3:Int):Option (LS (Int) (LX (Unit) (Int))) :=
 if v3 < v2 then
  ixL v0 v3 >>= fun y2 =>
  z5 y2 v1 >>= fun y4 =>
  if y4 = true then
   some (.dn (.rt v3))
  else
  some (.nx (IntKind.i64.wrap (v3 + (1:Int))))
 else
 some (.dn (.ex ()))
noncomputable def de (v0:(List ByteArray)) (v1:Int) (v2:Int) (v3:Int):Option (LX (Unit) (Int)):=oq (fun st => bb v0 v1 v2 st) v3
theorem nz (v0:(List ByteArray)) (v1:Int) (v2:Int) (v3:Int):de v0 v1 v2 v3 = bb v0 v1 v2 v3 >>= LS.go (fun st => de v0 v1 v2 st):=ew (fun st => bb v0 v1 v2 st) v3
def gc (v0:(List ByteArray)) (v1:Int) (v2:Int) (v3:Int) (r:LX (Unit) (Int)):Prop:=∀ (τ:TH) (o0:Nat) (hl:τ.lock ≤ τ.next) (ha0:τ.at o0 = some ⟨jy,[.int .i64 v1]⟩) (hi0:o0 < τ.next) (Q:TEx → ap) (hQ0:∀ v:Unit,r = (.ex v) → ∀ (fr:TF) (tk2:TK) (τ2:TH),tk2.take 0 = [] → τ2.cut τ.next = τ → Q (.exit 0) fr tk2 τ2) (hQ1:∀ v:Int,r = (.rt v) → ∀ (tk2:TK) (τ2:TH),τ2.cut τ.next = τ → Q .ret [(4,.int .i64 v)] tk2 τ2) ,tW G (.loop [0,1,7,8] bm) Q [(0,.sl (List.map TV.str v0)),(1,.func jz [] [.ptr o0 0]),(7,.int .i64 v2),(8,.int .i64 v3)] [] τ
theorem zk (v0:(List ByteArray)) (v1:Int) (v2:Int) (v3:Int) (r:LX (Unit) (Int)) (h:de v0 v1 v2 v3 = some r):gc v0 v1 v2 v3 r:=by
 refine di (f:=fun st => bb v0 v1 v2 st) (P:=fun st r => ∀ (v3:Int),v3 = st → gc v0 v1 v2 v3 r) ?_ h v3 rfl
 clear h r v3
 intro st o h r ih v3 hst τ o0  hl ha0 hi0 Q hQ0 hQ1
 subst hst
 have h:bb v0 v1 v2 v3 = some o:=h
 unfold bb at h
 refine mo fun LQ hn hr he => ?_
 by_cases c1:v3 < v2
 · rw [if_pos c1] at h
   obtain ⟨y2,hy2,h⟩:=ob h
   have f3:=av hy2
   have f3a:=(f3.2.2 TV.str).1
   have f3b:=(f3.2.2 TV.str).2
   try simp only [CL,MC,reduceToNat] at f3 f3a f3b
   obtain ⟨y4,hy4,h⟩:=ob h
   have k5:=zdkd y2 v1 _ hy4
   try simp only [CL,MC,reduceToNat] at k5
   by_cases c6:y4 = true
   · rw [if_pos c6] at h
     injection h with h; subst h
     obtain rfl:_ = r:=ih
     simp only [bm,ay,TT,Ic.t,ci,reduceEqDiff,reduceCtorEq,hl,ha0,hi0,he,hr,c1,f3.1,f3.2.1,f3a,k5,c6]
     exact hQ1 v3 rfl  _ _  (by first | exact fx (Nat.le_refl _) | (simp only [TT]))
   rw [if_neg c6] at h
   have c6:=Bool.eq_false_iff.2 c6
   injection h with h; subst h
   have ih:=ih (IntKind.i64.wrap (v3 + (1:Int))) rfl
   unfold gc at ih
   simp only [bm,ay,TT,Ic.t,ci,reduceEqDiff,reduceCtorEq,hl,ha0,hi0,c1,f3.1,f3.2.1,f3a,k5,c6]
   rw [hn]
   simp only [TT,reduceEqDiff,reduceCtorEq,hi0]
   exact ih  τ o0   (by first | assumption | (simp only [aa,ag]; assumption)) (by simp only [ha0]) (by first | assumption | (simp only [aa,ag]; assumption)) Q hQ0 hQ1
 rw [if_neg c1] at h
 injection h with h; subst h
 obtain rfl:_ = r:=ih
 simp only [bm,ay,TT,Ic.t,ci,reduceEqDiff,reduceCtorEq,he,c1]
 exact hQ0 () rfl  _ _ _   (by first | rfl | (simp only [TT,Ic.t,ci,reduceEqDiff,reduceIte,reduceAdd,reduceLT,reduceCtorEq,reduceToNat,hl,ha0,hi0,c1,CL,LTN])) (by first | exact fx (Nat.le_refl _) | (simp only [TT]))
noncomputable def fv (p1:(List ByteArray)) (p2:Int):Option Int :=
 de p1 p2 ((p1.length:Nat):Int) (0:Int) >>= fun y1 =>
 match y1 with
 | .ex w2 =>
  some (-1:Int)
 | .rt w4 =>
  some w4
theorem qo (p1:(List ByteArray)) (p2:Int) (r:Int) (h:fv p1 p2 = some r) (τ:TH) (o0:Nat) (hl:τ.lock ≤ τ.next) (ha0:τ.at o0 = some ⟨jy,[.int .i64 p2]⟩) (hi0:o0 < τ.next):Ru G ca [.sl (List.map TV.str p1),.func jz [] [.ptr o0 0]] τ (.int .i64 r) τ:=by
 refine gp fun K hK => ?_
 rw [bc sy (Nat.le_of_ble_eq_true rfl)]
 unfold fv at h
 obtain ⟨y1,hy1,h⟩:=ob h
 simp only [ay,TT,Ic.t,ci,reduceEqDiff,reduceAdd,reduceCtorEq]
 have Sy1:=zk p1 p2 ((p1.length:Nat):Int) (0:Int) y1 hy1
 unfold gc at Sy1
 refine Sy1 _ o0 (by first | assumption | omega | (simp only [aa,ak,ag,aq]; omega)) (by simp only [ha0]) (by first | assumption | omega | (simp only [aa,ak,ag,aq]; omega)) _ ?_ ?_
 · intro w2 e frq3 tkq3 τq3 htq3 hcq3
   subst e
   simp only at h
   have hcq3:=dp (n:=τ.next) hcq3 (by first | omega | (simp only [aa,ak]; omega))
   try simp only [List.take_zero] at htq3
   try simp only [TT] at hcq3
   injection h with h; subst h
   simp only [TT,hcq3]
   exact hK
 intro w4 e tkq5 τq5 hcq5
 subst e
 simp only at h
 have hcq5:=dp (n:=τ.next) hcq5 (by first | omega | (simp only [aa,ak]; omega))
 try simp only [TT] at hcq5
 injection h with h; subst h
 simp only [TT,hcq5]
 exact hK
theorem zdii (p1:(List ByteArray)) (p2:Int) (r:Int) (h:fv p1 p2 = some r) (lk:Bool) (d:Option Nat) (K:ap) (fr:TF) (tk:TK) (τ:TH) (o0:Nat) (hl:τ.lock ≤ τ.next) (ha0:τ.at o0 = some ⟨jy,[.int .i64 p2]⟩) (hi0:o0 < τ.next):du G lk ca [.sl (List.map TV.str p1),.func jz [] [.ptr o0 0]] d K fr tk τ = K (fp fr d (.int .i64 r)) tk τ :=
 au (qo p1 p2 r h τ o0 hl ha0 hi0) (qo p1 p2 r h (τ.locked τ.next) o0 (Nat.le_refl _) (by rw [ww]; exact ha0) hi0) (by simp only [TT,hi0])
noncomputable def df (p1:(List ByteArray)) (p2:Int):Option Bool :=
 fv p1 p2 >>= fun y1 =>
 some (decide ((0:Int) ≤ y1))
theorem od (p1:(List ByteArray)) (p2:Int) (r:Bool) (h:df p1 p2 = some r) (τ:TH) (o0:Nat) (hl:τ.lock ≤ τ.next) (ha0:τ.at o0 = some ⟨jy,[.int .i64 p2]⟩) (hi0:o0 < τ.next):Ru G bf [.sl (List.map TV.str p1),.func jz [] [.ptr o0 0]] τ (.bool r) τ:=by
 refine gp fun K hK => ?_
 rw [bc qf (Nat.le_of_ble_eq_true rfl)]
 unfold df at h
 obtain ⟨y1,hy1,h⟩:=ob h
 have k2:=zdii p1 p2 _ hy1
 try simp only [CL,MC,reduceToNat] at k2
 injection h with h; subst h
 simp only [qh,TT,Ic.t,ci,reduceEqDiff,reduceAdd,reduceCtorEq,hl,ha0,hi0,k2]
 exact hK
theorem zl (p1:(List ByteArray)) (p2:Int) (r:Bool) (h:df p1 p2 = some r) (lk:Bool) (d:Option Nat) (K:ap) (fr:TF) (tk:TK) (τ:TH) (o0:Nat) (hl:τ.lock ≤ τ.next) (ha0:τ.at o0 = some ⟨jy,[.int .i64 p2]⟩) (hi0:o0 < τ.next):du G lk bf [.sl (List.map TV.str p1),.func jz [] [.ptr o0 0]] d K fr tk τ = K (fp fr d (.bool r)) tk τ :=
 au (od p1 p2 r h τ o0 hl ha0 hi0) (od p1 p2 r h (τ.locked τ.next) o0 (Nat.le_refl _) (by rw [ww]; exact ha0) hi0) (by simp only [TT,hi0])
noncomputable def wz (p1:(List ByteArray)) (p2:Int) (p3:Int):Option Bool :=
 if ((p1.length:Nat):Int) = p2 then
  df p1 p3 >>= fun y2 =>
  some (!y2)
 else
 some false
theorem zczw (p1:(List ByteArray)) (p2:Int) (p3:Int) (r:Bool) (h:wz p1 p2 p3 = some r) (τ:TH) (hl:τ.lock ≤ τ.next):Ru G xx [.sl (List.map TV.str p1),.int .i64 p2,.int .i64 p3] τ (.bool r) τ:=by
 refine gp fun K hK => ?_
 rw [bc zdeg (Nat.le_of_ble_eq_true rfl)]
 unfold wz at h
 by_cases c1:((p1.length:Nat):Int) = p2
 · rw [if_pos c1] at h
   obtain ⟨y2,hy2,h⟩:=ob h
   have k3:=zl p1 p3 _ hy2
   try simp only [CL,MC,reduceToNat] at k3
   injection h with h; subst h
   simp only [zc8z,TT,Ic.t,reduceEqDiff,reduceAdd,reduceLT,reduceCtorEq,hl,eq_true c1,k3]
   exact hK
 rw [if_neg c1] at h
 injection h with h; subst h
 simp only [zc8z,TT,Ic.t,reduceEqDiff,reduceAdd,reduceCtorEq,c1]
 exact hK
theorem zczv (p1:(List ByteArray)) (p2:Int) (p3:Int) (r:Bool) (h:wz p1 p2 p3 = some r) (lk:Bool) (d:Option Nat) (K:ap) (fr:TF) (tk:TK) (τ:TH) (hl:τ.lock ≤ τ.next):du G lk xx [.sl (List.map TV.str p1),.int .i64 p2,.int .i64 p3] d K fr tk τ = K (fp fr d (.bool r)) tk τ :=
 au (zczw p1 p2 p3 r h τ  hl) (zczw p1 p2 p3 r h (τ.locked τ.next)  (Nat.le_refl _) ) (by simp only [TT])
noncomputable def zb7y (p1:ac) (p2:Int):Option Bool :=
 p9 p1.From (0:Int) (IntKind.i64.wrap (p2 - (1:Int))) >>= fun y1 =>
 if y1 = true then
  p9 p1.To (0:Int) (IntKind.i64.wrap (p2 - (1:Int))) >>= fun y4 =>
  if y4 = true then
   if p1.From = p1.To then
    some false
   else
   p9 p1.Ledger (0:Int) (3:Int) >>= fun y8 =>
   if y8 = true then
    w9 p1.Asset >>= fun y11 =>
    if y11 = true then
     p9 p1.Amount (1:Int) (1125899906842624:Int) >>= fun y14 =>
     some y14
    else
    some false
   else
   some false
  else
  some false
 else
 some false
theorem zdak (p1:ac) (p2:Int) (r:Bool) (h:zb7y p1 p2 = some r) (τ:TH) (hl:τ.lock ≤ τ.next):Ru G zb70 [.agg p1.cells,.int .i64 p2] τ (.bool r) τ:=by
 refine gp fun K hK => ?_
 rw [bc zbpz (Nat.le_of_ble_eq_true rfl)]
 unfold zb7y at h
 obtain ⟨y1,hy1,h⟩:=ob h
 have k2:=sm p1.From (0:Int) (IntKind.i64.wrap (p2 - (1:Int))) _ hy1
 try simp only [CL,MC,reduceToNat] at k2
 by_cases c3:y1 = true
 · rw [if_pos c3] at h
   obtain ⟨y4,hy4,h⟩:=ob h
   have k5:=sm p1.To (0:Int) (IntKind.i64.wrap (p2 - (1:Int))) _ hy4
   try simp only [CL,MC,reduceToNat] at k5
   by_cases c6:y4 = true
   · rw [if_pos c6] at h
     by_cases c7:p1.From = p1.To
     · rw [if_pos c7] at h
       injection h with h; subst h
       simp only [zb71,TT,Ic.t,ci,reduceEqDiff,reduceAdd,reduceCtorEq,hl,k2,c3,k5,c6,eq_true c7,CL]
       first | exact hK | (simp only [hl,k2,c3,k5,c6,eq_true c7,CL] at hK; exact hK)
     rw [if_neg c7] at h
     obtain ⟨y8,hy8,h⟩:=ob h
     have k9:=sm p1.Ledger (0:Int) (3:Int) _ hy8
     try simp only [CL,MC,reduceToNat] at k9
     by_cases c10:y8 = true
     · rw [if_pos c10] at h
       obtain ⟨y11,hy11,h⟩:=ob h
       have k12:=zcju p1.Asset _ hy11
       try simp only [CL,MC,reduceToNat] at k12
       by_cases c13:y11 = true
       · rw [if_pos c13] at h
         obtain ⟨y14,hy14,h⟩:=ob h
         have k15:=sm p1.Amount (1:Int) (1125899906842624:Int) _ hy14
         try simp only [CL,MC,reduceToNat] at k15
         injection h with h; subst h
         simp only [zb71,TT,Ic.t,ci,reduceEqDiff,reduceAdd,reduceCtorEq,hl,k2,c3,k5,c6,c7,k9,c10,k12,c13,k15,CL]
         first | exact hK | (simp only [hl,k2,c3,k5,c6,c7,k9,c10,k12,c13,k15,CL] at hK; exact hK)
       rw [if_neg c13] at h
       have c13:=Bool.eq_false_iff.2 c13
       injection h with h; subst h
       simp only [zb71,TT,Ic.t,ci,reduceEqDiff,reduceAdd,reduceCtorEq,hl,k2,c3,k5,c6,c7,k9,c10,k12,c13,CL]
       first | exact hK | (simp only [hl,k2,c3,k5,c6,c7,k9,c10,k12,c13,CL] at hK; exact hK)
     rw [if_neg c10] at h
     have c10:=Bool.eq_false_iff.2 c10
     injection h with h; subst h
     simp only [zb71,TT,Ic.t,ci,reduceEqDiff,reduceAdd,reduceCtorEq,hl,k2,c3,k5,c6,c7,k9,c10,CL]
     first | exact hK | (simp only [hl,k2,c3,k5,c6,c7,k9,c10,CL] at hK; exact hK)
   rw [if_neg c6] at h
   have c6:=Bool.eq_false_iff.2 c6
   injection h with h; subst h
   simp only [zb71,TT,Ic.t,ci,reduceEqDiff,reduceAdd,reduceCtorEq,hl,k2,c3,k5,c6,CL]
   first | exact hK | (simp only [hl,k2,c3,k5,c6,CL] at hK; exact hK)
 rw [if_neg c3] at h
 have c3:=Bool.eq_false_iff.2 c3
 injection h with h; subst h
 simp only [zb71,TT,Ic.t,ci,reduceEqDiff,reduceAdd,reduceCtorEq,hl,k2,c3,CL]
 first | exact hK | (simp only [hl,k2,c3,CL] at hK; exact hK)
theorem zdew (p1:ac) (p2:Int) (r:Bool) (h:zb7y p1 p2 = some r) (lk:Bool) (d:Option Nat) (K:ap) (fr:TF) (tk:TK) (τ:TH) (hl:τ.lock ≤ τ.next):du G lk zb70 [.agg p1.cells,.int .i64 p2] d K fr tk τ = K (fp fr d (.bool r)) tk τ :=
 au (zdak p1 p2 r h τ  hl) (zdak p1 p2 r h (τ.locked τ.next)  (Nat.le_refl _) ) (by simp only [TT,CL])
open Go Go.RowKit Sh Ic
def rm (l:List ByteArray):Option Bool:=if l.length ≤ 140737488355328 ∧ ∀ x ∈ l,x.size ≤ 140737488355328 then some (decide l.Nodup) else none
theorem zdgl (p1:List ByteArray) (r:Bool) (h:rm p1 = some r) (lk:Bool) (d:Option Nat) (K:ap) (fr:TF) (tk:TK) (τ:TH) (hl:τ.lock ≤ τ.next):du G lk jq [.sl (List.map TV.str p1)] d K fr tk τ = K (fp fr d (.bool r)) tk τ:=by
 unfold rm at h
 split at h
 · rename_i hc
   injection h with h
   subst h
   have hr:∀ τ,Ru G jq [.sl (p1.map TV.str)] τ (.bool (decide p1.Nodup)) τ:=fun τ => zcai zdlc (by
    have:=zcf6 (key:=zcgx) (f:=TV.str) (g:=id) p1 (fun b hb => by show (if b.size ≤ 140737488355328 then some b else none) = some b; rw [if_pos (hc.2 b hb)])
    have hl:(p1.map TV.str).length ≤ 140737488355328:=by rw [List.length_map]; exact hc.1
    simp only [zbty,zbxv,TV.list,if_pos hl,this,Option.map_some,List.map_id])
   exact au (hr _) (hr _) (by simp only [TT])
 · cases h
def zcfv (l:List Int):Option Bool:=if l.length ≤ 140737488355328 ∧ ∀ x ∈ l,oc x = true then some (decide l.Nodup) else none
theorem zdk1 (p1:List Int) (r:Bool) (h:zcfv p1 = some r) (lk:Bool) (d:Option Nat) (K:ap) (fr:TF) (tk:TK) (τ:TH) (hl:τ.lock ≤ τ.next):du G lk ny [.sl (List.map (TV.int .i64) p1)] d K fr tk τ = K (fp fr d (.bool r)) tk τ:=by
 unfold zcfv at h
 split at h
 · rename_i hc
   injection h with h
   subst h
   have hr:∀ τ,Ru G ny [.sl (p1.map (TV.int .i64))] τ (.bool (decide p1.Nodup)) τ:=fun τ => zcai zdjl (by
    have:=zcf6 (key:=zcgy) (f:=TV.int .i64) (g:=id) p1 (fun b hb => by show (if oc b then some b else none) = some b; rw [if_pos (hc.2 b hb)])
    have hl:(p1.map (TV.int .i64)).length ≤ 140737488355328:=by rw [List.length_map]; exact hc.1
    simp only [zbtz,zbxv,TV.list,if_pos hl,this,Option.map_some,List.map_id])
   exact au (hr _) (hr _) (by simp only [TT])
 · cases h
def two (x:gj):Int × Int:=(x.e0,x.e1)
def x8 (l:List gj):Option Bool:=if l.length ≤ 140737488355328 ∧ ∀ x ∈ l,(oc x.e0 && oc x.e1) = true then some (decide (l.map two).Nodup) else none
theorem zdgd (p1:List gj) (r:Bool) (h:x8 p1 = some r) (lk:Bool) (d:Option Nat) (K:ap) (fr:TF) (tk:TK) (τ:TH) (hl:τ.lock ≤ τ.next):du G lk lw [.sl (List.map gj.tv p1)] d K fr tk τ = K (fp fr d (.bool r)) tk τ:=by
 unfold x8 at h
 split at h
 · rename_i hc
   injection h with h
   subst h
   have hr:∀ τ,Ru G lw [.sl (p1.map gj.tv)] τ (.bool (decide (p1.map two).Nodup)) τ:=fun τ => zcai zdkt (by
    have:=zcf6 (key:=zcgz) (f:=gj.tv) (g:=two) p1 (fun b hb => by
     show (if (oc b.e0 && oc b.e1) = true then some (b.e0,b.e1) else none) = some (b.e0,b.e1)
     rw [if_pos (hc.2 b hb)])
    have hl:(p1.map gj.tv).length ≤ 140737488355328:=by rw [List.length_map]; exact hc.1
    simp only [zbt0,zbxv,TV.list,if_pos hl,this,Option.map_some])
   exact au (hr _) (hr _) (by simp only [TT])
 · cases h
end Go.Proofs.Ytjgpklmkdkkooaa
