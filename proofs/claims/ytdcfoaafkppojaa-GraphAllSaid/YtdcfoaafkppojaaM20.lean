import Derived.Test.YtdcfoaafkppojaaM19
set_option linter.unusedVariables false
set_option linter.unusedSimpArgs false
set_option linter.unusedSectionVars false
open Nat (reduceEqDiff reduceAdd reduceMul reduceLT reduceLeDiff reduceSub)
open Int (reduceToNat reduceNe reduceEq reduceNeg reduceLE)
namespace Go.Proofs.Ytdcfoaafkppojaa
open Go Go.RowKit Sh Ic
def bare (l : List ByteArray) : List ag := l.map fun a => ⟨a,[]⟩
def zb5x (l : List ag) : Ob := ⟨jj,l.flatMap ag.cells⟩
theorem zbnh (l : List ByteArray) (a : ByteArray) : (⟨jj,(bare l).flatMap ag.cells ++ [.str a,.sl []]⟩ : Ob) = zb5x (bare (l ++ [a])) := by
 unfold zb5x bare; rw [List.map_append,List.flatMap_append]; rfl
theorem zcgo (l : List ByteArray) : (bare l).length = l.length := List.length_map ..
def zbwi (arcs : List TV) (start delta : Int) (idP n : Nat) : SpB := ⟨⟨#[114,105,110,103]⟩,idP,n,arcs,[.int .i64 0],start,delta⟩
def zb28 (arcs : List TV) (start delta : Int) : Ob := ⟨am,[.str ⟨#[114,105,110,103]⟩,.slz,.sl arcs,.sl [.int .i64 0],.slz,.int .i64 start,.int .i64 delta]⟩
inductive zbye (arcs : List TV) (start delta : Int) (τ0 τ : TH) (id6 id7 B : Nat) : List ByteArray → Prop
 | nil (ha : τ.at id7 = some (zb28 arcs start delta)) : zbye arcs start delta τ0 τ id6 id7 B []
 | obj (idP : Nat) (l : List ByteArray) (hne : l.length ≠ 0) (h0 : τ0.next ≤ idP) (hB : B ≤ idP) (h6 : id6 < idP) (h1 : idP < id7) (ha : τ.at id7 = some ((zbwi arcs start delta idP l.length).ob .slz)) (hp : τ.at idP = some (zb5x (bare l))) : zbye arcs start delta τ0 τ id6 id7 B l
section
variable {τ : TH} {k : Nat} {a b : Ob}
theorem zb40 (hn : τ.next = k) : ((τ.push a).push b).next = k + 2 := by rw [io,io,hn]
theorem zccr (hn : τ.next = k) : ((τ.push a).push b).at k = some a := by rw [zbyt (by rw [io]; omega),← hn]; exact zb10
theorem zccs (hn : τ.next = k) : ((τ.push a).push b).at (k + 1) = some b := by rw [← hn,← io (b := a)]; exact zb10
theorem zby0 {j : Nat} (hj : j < τ.next) : ((τ.push a).push b).at j = τ.at j := by rw [zbyt (by rw [io]; omega),zbyt hj]
end
set_option maxHeartbeats 1000000 in
theorem zb8b (n : Nat) (hn : n ≤ 6) (arcs : List TV) (start delta : Int) (z6 : Ob) (id6 : Nat) (τ0 : TH) (hl0 : τ0.lock ≤ τ0.next) (r : List ByteArray) (h6 : τ0.next ≤ id6) (B : Nat) (Q : TEx → au) (m : Nat) : ∀ (i : Nat) (l : List ByteArray) (id7 : Nat) (τ : TH),m + i = n → l.length = i → zbmn o5 m i l = some r → zblq τ0 τ → zbye arcs start delta τ0 τ id6 id7 B l → τ0.next ≤ id7 → id7 < τ.next → id6 < id7 → τ.at id6 = some z6 → B ≤ τ.next →
 (∀ id7 τ,zblq τ0 τ → zbye arcs start delta τ0 τ id6 id7 B r → τ0.next ≤ id7 → id7 < τ.next → id6 < id7 → τ.at id6 = some z6 → Q (.exit 0) [(0,.int .i64 n),(6,.ptr id6 0),(7,.ptr id7 0),(8,.int .i64 n),(17,.bool false)] [] τ) →
 tW G (.loop [0,6,7,8] zb60) Q [(0,.int .i64 n),(6,.ptr id6 0),(7,.ptr id7 0),(8,.int .i64 (i : Int))] [] τ := by
 induction m with
 | zero =>
  intro i l id7 τ hi hl hr hg hv h07 h7 h67 ha6 hBn hQ
  obtain rfl : i = n := by omega
  injection hr with hr
  subst hr
  have c : ¬ (i : Int) < (i : Int) := by omega
  refine jo fun LQ hnx hr he => ?_
  simp only [zb60,zcak,TT,Ic.t,ci,reduceEqDiff,reduceCtorEq,c,he]
  exact hQ _ _ hg hv h07 h7 h67 ha6
 | succ m ih =>
  intro i l id7 τ hi hl hr hg hv h07 h7 h67 ha6 hBn hQ
  obtain ⟨x,hx,hr⟩ := ob hr
  have c : (i : Int) < (n : Int) := by omega
  have w1 : IntKind.i64.wrap ((i : Int) + 1) = ((i + 1 : Nat) : Int) := by rw [wA (by omega) (by omega)]; omega
  have hlk : τ.lock ≤ τ.next := by have := hg.lock; have := hg.next; omega
  have k1 := zdfw _ _ hx
  have lt1 : ¬ τ.next + 1 < τ.next := by omega
  have l1 : τ.lock ≤ τ.next + 1 := by omega
  have h67n : ¬ id6 = id7 := by omega
  have hw7 : τ.lock ≤ id7 := by have := hg.lock; omega
  refine jo fun LQ hnx hrr he => ?_
  cases hv with
  | nil ha =>
   simp only [zb60,zcak,TT,Ic.t,ci,reduceEqDiff,reduceAdd,reduceLeDiff,reduceCtorEq,c,ha,zb28,hlk,k1]
   refine ⟨by unfold maxLen; omega,zb1o (h := ?_) ..⟩
   simp only [TT,reduceEqDiff,reduceAdd,reduceLT,reduceLeDiff,reduceCtorEq,ha,zb28,h7,hw7,zbyt h7,h67n,lt1,l1,w1,Bool.and_false,Bool.false_eq_true]
   rw [hnx]
   simp only [TT,reduceEqDiff,reduceCtorEq,lt1,List.flatMap_cons,List.flatMap_nil,Bool.and_false,Bool.false_eq_true]
   have g1 := ((hg.put h07 ⟨am,[]⟩).push (zb5x (bare [x]))).push ((zbwi arcs start delta τ.next 1).ob .slz)
   have q := ih (i + 1) [x] (τ.next + 1) _ (by omega) (by simp at hl ⊢; omega) hr g1 (.obj τ.next [x] (by simp) hg.next hBn (by omega) (by omega) (zccs bb) (zccr bb)) (by have := hg.next; omega) (by rw [zb40 bb]; omega) (by omega)
    (by rw [zby0 (by rw [bb]; omega),ox (by omega)]; exact ha6) (by rw [zb40 bb]; omega) hQ
   exact q
  | obj idP l hne h0 hB h6P h1 ha hp =>
   have m1 : l.length + 1 ≤ maxLen := by unfold maxLen; omega
   have m2 : (l.length + 1) * 40 ≤ 140737488355328 := by omega
   have f2 : ((bare l).flatMap ag.cells).length = l.length * 2 := by rw [zbms (k := 2) (fun _ => rfl),zcgo]
   have hwP : τ.lock ≤ idP := by have := hg.lock; omega
   have hPn : idP < τ.next := by omega
   have e7 : (τ.put idP ⟨jj,[]⟩).at id7 = some ((zbwi arcs start delta idP l.length).ob .slz) := by rw [ox (by omega)]; exact ha
   simp only [zb60,zcak,TT,Ic.t,ci,reduceEqDiff,reduceAdd,reduceLeDiff,reduceCtorEq,c,ha,hp,zb5x,zbwi,SpB.ob,hlk,hwP,k1,m1,m2,f2,hne]
   refine zb1o (h := ?_) ..
   simp only [TT,reduceEqDiff,reduceAdd,reduceLT,reduceLeDiff,reduceCtorEq,e7,zbwi,SpB.ob,h7,hw7,h67n,lt1,l1,w1,Bool.and_false,Bool.false_eq_true]
   rw [hnx]
   simp only [TT,reduceEqDiff,reduceCtorEq,lt1,List.flatMap_cons,List.flatMap_nil,Bool.and_false,Bool.false_eq_true]
   rw [zbnh]
   have g1 := (((hg.put h0 ⟨jj,[]⟩).put h07 ⟨am,[]⟩).push (zb5x (bare (l ++ [x])))).push ((zbwi arcs start delta τ.next (l.length + 1)).ob .slz)
   have nn : ((τ.put idP ⟨jj,[]⟩).put id7 ⟨am,[]⟩).next = τ.next := by rw [bb,bb]
   have q := ih (i + 1) (l ++ [x]) (τ.next + 1) _ (by omega) (by rw [List.length_append,hl]; rfl) hr g1 (.obj τ.next (l ++ [x]) (by simp) hg.next hBn (by omega) (by omega) (by rw [List.length_append]; exact zccs nn) (zccr nn)) (by have := hg.next; omega) (by rw [zb40 nn]; omega) (by omega)
    (by rw [zby0 (by rw [nn]; omega),ox (by omega),ox (by omega)]; exact ha6) (by rw [zb40 nn]; omega) hQ
   exact q
theorem zcmq {f : TV → Option TV} : ∀ {l k l' k' : List TV},zbiy f l = some l' → zbiy f k = some k' → zbiy f (l ++ k) = some (l' ++ k')
 | [],k,l',k',h,h2 => by injection h with h; subst h; exact h2
 | v :: r,k,l',k',h,h2 => by
  simp only [zbiy] at h
  cases hv : f v with
  | none => rw [hv] at h; cases h
  | some x =>
   rw [hv] at h
   cases hr : zbiy f r with
   | none => rw [hr] at h; cases h
   | some y =>
    rw [hr] at h
    injection h with h
    subst h
    have := zcmq hr h2
    simp only [List.cons_append,zbiy,hv,this]
theorem zbpv {α : Type} {f : TV → Option TV} {c c' : α → List TV} (h : ∀ x,zbiy f ((c x).map TV.rd) = some (c' x)) : ∀ l : List α,zbiy f ((l.flatMap c).map TV.rd) = some (l.flatMap c')
 | [] => rfl
 | x :: r => by rw [List.flatMap_cons,List.map_append,List.flatMap_cons]; exact zcmq (h x) (zbpv h r)
theorem zbx0 {α : Type} {c c' : α → List TV} {k : Nat} {e : α → TV} (hk : k ≠ 0) (hc : ∀ x,(c x).length = k) (hc' : ∀ x,(c' x).length = k) (he : ∀ x,zbmv (c' x) = e x) (τ : TH) (n0 id m : Nat) (t : TypeId) (l : List α) (h0 : n0 ≤ id) (ha : τ.at id = some ⟨t,l.flatMap c⟩) (hl : l.length = m)
 (hf : ∀ x,zbiy (zblg τ n0 1) ((c x).map TV.rd) = some (c' x)) : zblg τ n0 2 (.slm id 0 m k) = some (.sl (l.map e)) := by
 subst hl
 have tr : zbl3 τ id 0 (l.length * k) = some ((l.flatMap c).map TV.rd) := by
  unfold zbl3
  rw [ha]
  simp only [Option.bind_some,zbms hc,Nat.zero_add,Nat.le_refl,if_true,List.drop_zero,zbua hc]
 have n1 : ¬ (k = 0 ∨ id < n0) := by omega
 show (if k = 0 ∨ id < n0 then none else (zbl3 τ id 0 (l.length * k)).bind fun l' => (zbiy (zblg τ n0 1) l').map fun l' => TV.sl (zbm1 k l.length l')) = _
 rw [if_neg n1,tr,Option.bind_some,zbpv hf l,Option.map_some,zcg8 hc' he]
theorem zb3t (τ : TH) (n0 id m : Nat) (l : List ag) (h0 : n0 ≤ id) (ha : τ.at id = some (zbo4 l)) (hl : l.length = m) : zblg τ n0 2 (.slm id 0 m 2) = some (.sl (l.map ag.tv)) :=
 zbx0 (c := zboq) (c' := ag.cells) (by decide) kc2 (fun _ => rfl) (fun _ => rfl) τ n0 id m _ l h0 ha hl fun x => by
  obtain ⟨a,ks⟩ := x
  cases ks <;> rfl
theorem zbtd (f : Int → Option ByteArray) (n : Nat) : ∀ (k : Nat) (l r : List ByteArray),zbmn f n k l = some r → r.length = l.length + n := by
 induction n with
 | zero => intro k l r h; injection h with h; subst h; rfl
 | succ n ih => intro k l r h; obtain ⟨x,_,h⟩ := ob h; rw [ih _ _ _ h,List.length_append]; simp; omega
theorem zbqt (L : Nat) (rest : List ag) : ∀ (i : Nat) (d r : List ag),zbyx L rest i d = some r → r.length = d.length + rest.length := by
 induction rest with
 | nil => intro i d r h; injection h with h; subst h; rfl
 | cons x rest ih => intro i d r h; obtain ⟨ks,_,h⟩ := ob h; rw [ih _ _ _ h,List.length_append]; simp; omega
theorem zb27 (n : Nat) (hn1 : 1 ≤ n) (hn : n ≤ 6) (start delta : Int) (al : List ac) (accs lr : List ByteArray) (rows : List ag) (has : zb6v n 0 2 = some al) (hac : zbmn o5 n 0 [] = some accs) (hlr : zbmn zbnk 1 0 [] = some lr) (hrows : zbyx 1 (bare accs) 0 [] = some rows)
 (τ : TH) (hl : τ.lock ≤ τ.next) : Ru G zb42 [.int .i64 n,.int .i64 start,.int .i64 delta] τ (.agg (aa.cells ⟨⟨#[114,105,110,103]⟩,rows,al,[0],lr,start,delta⟩)) τ := by
 refine jv fun K hK => ?_
 rw [bh zbn2 (Nat.le_of_ble_eq_true rfl)]
 have l1 : τ.lock ≤ τ.next + 1 := by omega
 have l2 : τ.lock ≤ τ.next + 2 := by omega
 have k1 := zda1 _ _ _ _ has
 simp only [zcak,TT,Ic.t,ci,reduceEqDiff,reduceAdd,reduceLeDiff,reduceCtorEq,l1,k1]
 have c0 : (τ.push ⟨am,[.str ⟨#[]⟩,.slz,.slz,.slz,.slz,.int .i64 0,.int .i64 0]⟩).next = τ.next + 1 := io
 refine zb8b n hn (al.map ac.tv) start delta ⟨am,[.str ⟨#[]⟩,.slz,.slz,.slz,.slz,.int .i64 0,.int .i64 0]⟩ τ.next τ hl accs (Nat.le_refl _) (τ.next + 2) _ n 0 [] (τ.next + 1) _ rfl rfl hac (((zblq.refl τ).push _).push _) (.nil (zccs rfl)) (by omega) (by rw [zb40 rfl]; omega) (by omega) (zccr rfl) (by rw [zb40 rfl]; omega) ?_
 intro id7 τ1 hg1 hr1 h07 h71 h67 ha6
 have la : accs.length = n := by rw [zbtd _ _ _ _ _ hac]; simp
 cases hr1 with
 | nil ha => simp at la; omega
 | obj idP l hne h0 hB h6P h1 ha hp =>
  have lt7 : ¬ id7 < τ.next + 2 := by omega
  have hL : zb6v n 0 2 = some al := has
  have kr := fun (K : au) (fr : TF) (d : Option Nat) => zbya (Γ := G) (d := d) (K := K) (fr := fr) (tk := []) (zbxs (zbwi (al.map ac.tv) start delta idP accs.length) [] (bare accs) rows lr (by show 1 ≤ 6; omega) (by show accs.length ≤ 20; omega) (by show accs.length = _; rw [zcgo]) hlr hrows τ1 (by have := hg1.lock; have := hg1.next; omega) hp (by show idP < _; omega) (by have := hg1.lock; show _ ≤ idP; omega)) (by simp only [TT,zbwi,show idP < τ1.next by omega])
  simp only [zbwi] at kr
  simp only [TT,reduceEqDiff,reduceAdd,reduceLT,reduceCtorEq,lt7,ha,zbwi,SpB.ob,kr]
  have hPn : idP < τ1.next := by omega
  have hb : (τ1.put idP (zbo4 rows)).at τ.next = some ⟨am,[.str ⟨#[]⟩,.slz,.slz,.slz,.slz,.int .i64 0,.int .i64 0]⟩ := by rw [ox (by omega)]; exact ha6
  refine zbyi (hz := rfl) (hb := hb) (hc := ⟨by show τ1.lock ≤ _; have := hg1.lock; omega,by simp⟩) (hx := fun v e => by cases e) (h := ?_) ..
  obtain ⟨τ2,e2⟩ : ∃ τ2,τ2 = (τ1.put idP (zbo4 rows)).put τ.next ⟨am,[]⟩ := ⟨_,rfl⟩
  have n2 : τ2.next = τ1.next := by rw [e2,bb,bb]
  have hg2 : zblq τ τ2 := by rw [e2]; exact (hg1.put (by omega) _).put (Nat.le_refl _) _
  have aP : τ2.at idP = some (zbo4 rows) := by rw [e2,ox (by omega)]; exact zbv7 hPn
  rw [← e2]
  have e3 : (τ1.put idP (zbo4 rows)).next = τ2.next := by rw [n2,bb]
  have lk2 : τ2.lock ≤ τ2.next := by have := hg2.lock; have := hg2.next; omega
  have hP2 : idP < τ2.next + 1 := by omega
  rw [e3]
  have rl : rows.length = accs.length := by rw [zbqt _ _ _ _ _ hrows,zcgo]; simp
  have fr : ∀ x,zblg (τ2.push x) τ.next 2 (.slm idP 0 accs.length 2) = some (.sl (rows.map ag.tv)) := fun x => zb3t _ _ _ _ _ h0 (by rw [zbyt (by omega)]; exact aP) rl
  have cx : ∀ x,(τ2.push x).cut τ.next = τ := fun x => (hg2.push x).cut
  simp only [TT,reduceEqDiff,reduceAdd,reduceCtorEq,lk2,hP2,fr,cx]
  exact hK
noncomputable def zb6u (n start delta : Int) : Option aa := if 1 ≤ n ∧ n ≤ 6 then
 zb6v n 0 2 >>= fun al =>
 zbmn o5 n.toNat 0 [] >>= fun accs =>
 zbmn zbnk 1 0 [] >>= fun lr =>
 zbyx 1 (bare accs) 0 [] >>= fun rows =>
 some ⟨⟨#[114,105,110,103]⟩,rows,al,[0],lr,start,delta⟩ else none
theorem zdbd (p1 p2 p3 : Int) (r : aa) (h : zb6u p1 p2 p3 = some r) (lk : Bool) (d : Option Nat) (K : au) (fr : TF) (tk : TK) (τ : TH) (hl : τ.lock ≤ τ.next) : eo G lk zb42 [.int .i64 p1,.int .i64 p2,.int .i64 p3] d K fr tk τ = K (fv fr d (.agg (aa.cells r))) tk τ := by
 obtain ⟨⟨h1,h2⟩,h⟩ := ifS h
 obtain ⟨al,a1,h⟩ := ob h
 obtain ⟨accs,a2,h⟩ := ob h
 obtain ⟨lr,a3,h⟩ := ob h
 obtain ⟨rows,a4,h⟩ := ob h
 injection h with h
 subst h
 obtain ⟨n,rfl⟩ : ∃ n : Nat,p1 = (n : Int) := ⟨p1.toNat,by omega⟩
 have hr := fun τ hl => zb27 n (by omega) (by omega) p2 p3 al accs lr rows a1 a2 a3 a4 τ hl
 exact av (hr _ hl) (hr _ (Nat.le_refl _)) (by simp only [TT])
end Go.Proofs.Ytdcfoaafkppojaa
open Nat (reduceEqDiff reduceAdd reduceLT)
open Int (reduceToNat reduceEq)
namespace Go.Proofs.Ytdcfoaafkppojaa
open Go Go.RowKit Sh Ic
noncomputable def tj (p1 : ByteArray) : Option Bool :=
 if (1 : Int) ≤ ((p1.size : Nat) : Int) then
  some (decide (((p1.size : Nat) : Int) ≤ (16 : Int)))
 else
 some false
theorem zcu0 (p1 : ByteArray) (r : Bool) (h : tj p1 = some r) (τ : TH) (hl : τ.lock ≤ τ.next) : Ru G ur [.str p1] τ (.bool r) τ := by
 refine jv fun K hK => ?_
 rw [bh zdai (Nat.le_of_ble_eq_true rfl)]
 unfold tj at h
 by_cases c1 : (1 : Int) ≤ ((p1.size : Nat) : Int)
 · rw [if_pos c1] at h
   injection h with h; subst h
   simp only [zc7e,TT,Ic.t,ci,reduceEqDiff,reduceCtorEq,c1]
   exact hK
 rw [if_neg c1] at h
 injection h with h; subst h
 simp only [zc7e,TT,Ic.t,ci,reduceEqDiff,reduceCtorEq,c1]
 exact hK
theorem zcet (p1 : ByteArray) (r : Bool) (h : tj p1 = some r) (lk : Bool) (d : Option Nat) (K : au) (fr : TF) (tk : TK) (τ : TH) (hl : τ.lock ≤ τ.next) : eo G lk ur [.str p1] d K fr tk τ = K (fv fr d (.bool r)) tk τ :=
 av (zcu0 p1 r h τ hl) (zcu0 p1 r h (τ.locked τ.next) (Nat.le_refl _) ) (by simp only [TT])
noncomputable def nm (p1 : Int) (p2 : Int) (p3 : Int) : Option Bool :=
 if p2 ≤ p1 then
  some (decide (p1 ≤ p3))
 else
 some false
theorem zc76 (p1 : Int) (p2 : Int) (p3 : Int) (r : Bool) (h : nm p1 p2 p3 = some r) (τ : TH) (hl : τ.lock ≤ τ.next) : Ru G ny [.int .i64 p1,.int .i64 p2,.int .i64 p3] τ (.bool r) τ := by
 refine jv fun K hK => ?_
 rw [bh zbt6 (Nat.le_of_ble_eq_true rfl)]
 unfold nm at h
 by_cases c1 : p2 ≤ p1
 · rw [if_pos c1] at h
   injection h with h; subst h
   simp only [zcnc,TT,Ic.t,reduceEqDiff,reduceAdd,reduceCtorEq,c1]
   exact hK
 rw [if_neg c1] at h
 injection h with h; subst h
 simp only [zcnc,TT,Ic.t,reduceEqDiff,reduceAdd,reduceCtorEq,c1]
 exact hK
theorem pa (p1 : Int) (p2 : Int) (p3 : Int) (r : Bool) (h : nm p1 p2 p3 = some r) (lk : Bool) (d : Option Nat) (K : au) (fr : TF) (tk : TK) (τ : TH) (hl : τ.lock ≤ τ.next) : eo G lk ny [.int .i64 p1,.int .i64 p2,.int .i64 p3] d K fr tk τ = K (fv fr d (.bool r)) tk τ :=
 av (zc76 p1 p2 p3 r h τ hl) (zc76 p1 p2 p3 r h (τ.locked τ.next) (Nat.le_refl _) ) (by simp only [TT])
noncomputable def ww (p1 : ByteArray) (p2 : Int) : Option Bool :=
 some (decide (¬ (((p1.size : Nat) : Int) = p2)))
theorem zc2t (p1 : ByteArray) (p2 : Int) (r : Bool) (h : ww p1 p2 = some r) (τ : TH) (o0 : Nat) (hl : τ.lock ≤ τ.next) (ha0 : τ.at o0 = some ⟨cy,[.int .i64 p2]⟩) (hi0 : o0 < τ.next) : Ru G jc [.str p1,.ptr o0 0] τ (.bool r) τ := by
 refine jv fun K hK => ?_
 rw [bh zdfv (Nat.le_of_ble_eq_true rfl)]
 unfold ww at h
 injection h with h; subst h
 simp only [zdff,TT,Ic.t,reduceEqDiff,reduceAdd,reduceCtorEq,ha0]
 exact hK
theorem zdby (p1 : ByteArray) (p2 : Int) (r : Bool) (h : ww p1 p2 = some r) (lk : Bool) (d : Option Nat) (K : au) (fr : TF) (tk : TK) (τ : TH) (o0 : Nat) (hl : τ.lock ≤ τ.next) (ha0 : τ.at o0 = some ⟨cy,[.int .i64 p2]⟩) (hi0 : o0 < τ.next) : eo G lk jc [.str p1,.ptr o0 0] d K fr tk τ = K (fv fr d (.bool r)) tk τ :=
 av (zc2t p1 p2 r h τ o0 hl ha0 hi0) (zc2t p1 p2 r h (τ.locked τ.next) o0 (Nat.le_refl _) (by rw [zbls]; exact ha0) hi0) (by simp only [TT,hi0])
noncomputable def ay (v0 : (List ByteArray)) (v1 : Int) (v2 : Int) (v3 : Int) : Option (LS (Int) (LX (Unit) (Int))) :=
 if v3 < v2 then
  ixL v0 v3 >>= fun y2 =>
  ww y2 v1 >>= fun y4 =>
  if y4 = true then
   some (.dn (.rt v3))
  else
  some (.nx (IntKind.i64.wrap (v3 + (1 : Int))))
 else
 some (.dn (.ex ()))
noncomputable def bv (v0 : (List ByteArray)) (v1 : Int) (v2 : Int) (v3 : Int) : Option (LX (Unit) (Int)) := kx (fun st => ay v0 v1 v2 st) v3
theorem mc (v0 : (List ByteArray)) (v1 : Int) (v2 : Int) (v3 : Int) : bv v0 v1 v2 v3 = ay v0 v1 v2 v3 >>= LS.go (fun st => bv v0 v1 v2 st) := bu (fun st => ay v0 v1 v2 st) v3
def dx (v0 : (List ByteArray)) (v1 : Int) (v2 : Int) (v3 : Int) (r : LX (Unit) (Int)) : Prop := ∀ (τ : TH) (o0 : Nat) (hl : τ.lock ≤ τ.next) (ha0 : τ.at o0 = some ⟨cy,[.int .i64 v1]⟩) (hi0 : o0 < τ.next) (Q : TEx → au) (hQ0 : ∀ v : Unit,r = (.ex v) → ∀ (fr : TF) (tk2 : TK) (τ2 : TH),tk2.take 0 = [] → τ2.cut τ.next = τ → Q (.exit 0) fr tk2 τ2) (hQ1 : ∀ v : Int,r = (.rt v) → ∀ (tk2 : TK) (τ2 : TH),τ2.cut τ.next = τ → Q .ret [(4,.int .i64 v)] tk2 τ2) ,tW G (.loop [0,1,7,8] dc) Q [(0,.sl (List.map TV.str v0)),(1,.func jc [] [.ptr o0 0]),(7,.int .i64 v2),(8,.int .i64 v3)] [] τ
theorem vq (v0 : (List ByteArray)) (v1 : Int) (v2 : Int) (v3 : Int) (r : LX (Unit) (Int)) (h : bv v0 v1 v2 v3 = some r) : dx v0 v1 v2 v3 r := by
 refine bf (f := fun st => ay v0 v1 v2 st) (P := fun st r => ∀ (v3 : Int),v3 = st → dx v0 v1 v2 v3 r) ?_ h v3 rfl
 clear h r v3
 intro st o h r ih v3 hst τ o0 hl ha0 hi0 Q hQ0 hQ1
 subst hst
 have h : ay v0 v1 v2 v3 = some o := h
 unfold ay at h
 refine jo fun LQ hn hr he => ?_
 by_cases c1 : v3 < v2
 · rw [if_pos c1] at h
   obtain ⟨y2,hy2,h⟩ := ob h
   have f3 := aw hy2
   have f3a := (f3.2.2 TV.str).1
   have f3b := (f3.2.2 TV.str).2
   try simp only [CL,MC,reduceToNat] at f3 f3a f3b
   obtain ⟨y4,hy4,h⟩ := ob h
   have k5 := zdby y2 v1 _ hy4
   try simp only [CL,MC,reduceToNat] at k5
   by_cases c6 : y4 = true
   · rw [if_pos c6] at h
     injection h with h; subst h
     obtain rfl : _ = r := ih
     simp only [dc,ce,TT,Ic.t,ci,reduceEqDiff,reduceCtorEq,hl,ha0,hi0,he,hr,c1,f3.1,f3.2.1,f3a,k5,c6]
     exact hQ1 v3 rfl _ _ (by simp only [TT])
   rw [if_neg c6] at h
   have c6 := Bool.eq_false_iff.2 c6
   injection h with h; subst h
   have ih := ih (IntKind.i64.wrap (v3 + (1 : Int))) rfl
   unfold dx at ih
   simp only [dc,ce,TT,Ic.t,ci,reduceEqDiff,reduceCtorEq,hl,ha0,hi0,c1,f3.1,f3.2.1,f3a,k5,c6]
   rw [hn]
   simp only [TT,reduceEqDiff,reduceCtorEq,hi0]
   exact ih τ o0 (by assumption) (by simp only [ha0]) (by assumption) Q hQ0 hQ1
 rw [if_neg c1] at h
 injection h with h; subst h
 obtain rfl : _ = r := ih
 simp only [dc,ce,TT,Ic.t,ci,reduceEqDiff,reduceCtorEq,he,c1]
 exact hQ0 () rfl _ _ _ (by rfl) (by simp only [TT])
noncomputable def du (p1 : (List ByteArray)) (p2 : Int) : Option Int :=
 bv p1 p2 ((p1.length : Nat) : Int) (0 : Int) >>= fun y1 =>
 match y1 with
 | .ex w2 =>
  some (-1 : Int)
 | .rt w4 =>
  some w4
theorem nz (p1 : (List ByteArray)) (p2 : Int) (r : Int) (h : du p1 p2 = some r) (τ : TH) (o0 : Nat) (hl : τ.lock ≤ τ.next) (ha0 : τ.at o0 = some ⟨cy,[.int .i64 p2]⟩) (hi0 : o0 < τ.next) : Ru G cg [.sl (List.map TV.str p1),.func jc [] [.ptr o0 0]] τ (.int .i64 r) τ := by
 refine jv fun K hK => ?_
 rw [bh zdd1 (Nat.le_of_ble_eq_true rfl)]
 unfold du at h
 obtain ⟨y1,hy1,h⟩ := ob h
 simp only [ce,TT,Ic.t,ci,reduceEqDiff,reduceAdd,reduceCtorEq]
 have Sy1 := vq p1 p2 ((p1.length : Nat) : Int) (0 : Int) y1 hy1
 unfold dx at Sy1
 refine Sy1 _ o0 (by assumption) (by simp only [ha0]) (by assumption) _ ?_ ?_
 · intro w2 e frq3 tkq3 τq3 htq3 hcq3
   subst e
   simp only at h
   have hcq3 := az (n := τ.next) hcq3 (by omega)
   try simp only [List.take_zero] at htq3
   try simp only [TT] at hcq3
   injection h with h; subst h
   simp only [TT,hcq3]
   exact hK
 intro w4 e tkq5 τq5 hcq5
 subst e
 simp only at h
 have hcq5 := az (n := τ.next) hcq5 (by omega)
 try simp only [TT] at hcq5
 injection h with h; subst h
 simp only [TT,hcq5]
 exact hK
theorem z0 (p1 : (List ByteArray)) (p2 : Int) (r : Int) (h : du p1 p2 = some r) (lk : Bool) (d : Option Nat) (K : au) (fr : TF) (tk : TK) (τ : TH) (o0 : Nat) (hl : τ.lock ≤ τ.next) (ha0 : τ.at o0 = some ⟨cy,[.int .i64 p2]⟩) (hi0 : o0 < τ.next) : eo G lk cg [.sl (List.map TV.str p1),.func jc [] [.ptr o0 0]] d K fr tk τ = K (fv fr d (.int .i64 r)) tk τ :=
 av (nz p1 p2 r h τ o0 hl ha0 hi0) (nz p1 p2 r h (τ.locked τ.next) o0 (Nat.le_refl _) (by rw [zbls]; exact ha0) hi0) (by simp only [TT,hi0])
noncomputable def bx (p1 : (List ByteArray)) (p2 : Int) : Option Bool :=
 du p1 p2 >>= fun y1 =>
 some (decide ((0 : Int) ≤ y1))
theorem ml (p1 : (List ByteArray)) (p2 : Int) (r : Bool) (h : bx p1 p2 = some r) (τ : TH) (o0 : Nat) (hl : τ.lock ≤ τ.next) (ha0 : τ.at o0 = some ⟨cy,[.int .i64 p2]⟩) (hi0 : o0 < τ.next) : Ru G bz [.sl (List.map TV.str p1),.func jc [] [.ptr o0 0]] τ (.bool r) τ := by
 refine jv fun K hK => ?_
 rw [bh yl (Nat.le_of_ble_eq_true rfl)]
 unfold bx at h
 obtain ⟨y1,hy1,h⟩ := ob h
 have k2 := z0 p1 p2 _ hy1
 try simp only [CL,MC,reduceToNat] at k2
 injection h with h; subst h
 simp only [yo,TT,Ic.t,ci,reduceEqDiff,reduceAdd,reduceCtorEq,hl,ha0,hi0,k2]
 exact hK
theorem vt (p1 : (List ByteArray)) (p2 : Int) (r : Bool) (h : bx p1 p2 = some r) (lk : Bool) (d : Option Nat) (K : au) (fr : TF) (tk : TK) (τ : TH) (o0 : Nat) (hl : τ.lock ≤ τ.next) (ha0 : τ.at o0 = some ⟨cy,[.int .i64 p2]⟩) (hi0 : o0 < τ.next) : eo G lk bz [.sl (List.map TV.str p1),.func jc [] [.ptr o0 0]] d K fr tk τ = K (fv fr d (.bool r)) tk τ :=
 av (ml p1 p2 r h τ o0 hl ha0 hi0) (ml p1 p2 r h (τ.locked τ.next) o0 (Nat.le_refl _) (by rw [zbls]; exact ha0) hi0) (by simp only [TT,hi0])
noncomputable def ti (p1 : (List ByteArray)) (p2 : Int) (p3 : Int) : Option Bool :=
 if ((p1.length : Nat) : Int) = p2 then
  bx p1 p3 >>= fun y2 =>
  some (!y2)
 else
 some false
theorem zcx6 (p1 : (List ByteArray)) (p2 : Int) (p3 : Int) (r : Bool) (h : ti p1 p2 p3 = some r) (τ : TH) (hl : τ.lock ≤ τ.next) : Ru G uq [.sl (List.map TV.str p1),.int .i64 p2,.int .i64 p3] τ (.bool r) τ := by
 refine jv fun K hK => ?_
 rw [bh zdbx (Nat.le_of_ble_eq_true rfl)]
 unfold ti at h
 by_cases c1 : ((p1.length : Nat) : Int) = p2
 · rw [if_pos c1] at h
   obtain ⟨y2,hy2,h⟩ := ob h
   have k3 := vt p1 p3 _ hy2
   try simp only [CL,MC,reduceToNat] at k3
   injection h with h; subst h
   simp only [zcqb,TT,Ic.t,reduceEqDiff,reduceAdd,reduceLT,reduceCtorEq,hl,eq_true c1,k3]
   exact hK
 rw [if_neg c1] at h
 injection h with h; subst h
 simp only [zcqb,TT,Ic.t,reduceEqDiff,reduceAdd,reduceCtorEq,c1]
 exact hK
theorem zcx5 (p1 : (List ByteArray)) (p2 : Int) (p3 : Int) (r : Bool) (h : ti p1 p2 p3 = some r) (lk : Bool) (d : Option Nat) (K : au) (fr : TF) (tk : TK) (τ : TH) (hl : τ.lock ≤ τ.next) : eo G lk uq [.sl (List.map TV.str p1),.int .i64 p2,.int .i64 p3] d K fr tk τ = K (fv fr d (.bool r)) tk τ :=
 av (zcx6 p1 p2 p3 r h τ hl) (zcx6 p1 p2 p3 r h (τ.locked τ.next) (Nat.le_refl _) ) (by simp only [TT])
noncomputable def zb5f (p1 : ac) (p2 : Int) : Option Bool :=
 nm p1.From (0 : Int) (IntKind.i64.wrap (p2 - (1 : Int))) >>= fun y1 =>
 if y1 = true then
  nm p1.To (0 : Int) (IntKind.i64.wrap (p2 - (1 : Int))) >>= fun y4 =>
  if y4 = true then
   if p1.From = p1.To then
    some false
   else
   nm p1.Ledger (0 : Int) (3 : Int) >>= fun y8 =>
   if y8 = true then
    tj p1.Asset >>= fun y11 =>
    if y11 = true then
     nm p1.Amount (1 : Int) (1125899906842624 : Int) >>= fun y14 =>
     some y14
    else
    some false
   else
   some false
  else
  some false
 else
 some false
theorem zcr3 (p1 : ac) (p2 : Int) (r : Bool) (h : zb5f p1 p2 = some r) (τ : TH) (hl : τ.lock ≤ τ.next) : Ru G zb47 [.agg [.int .i64 p1.From,.int .i64 p1.To,.int .i64 p1.Ledger,.str p1.Asset,.int .i64 p1.Amount],.int .i64 p2] τ (.bool r) τ := by
 refine jv fun K hK => ?_
 rw [bh zbnv (Nat.le_of_ble_eq_true rfl)]
 unfold zb5f at h
 obtain ⟨y1,hy1,h⟩ := ob h
 have k2 := pa p1.From (0 : Int) (IntKind.i64.wrap (p2 - (1 : Int))) _ hy1
 try simp only [CL,MC,reduceToNat] at k2
 by_cases c3 : y1 = true
 · rw [if_pos c3] at h
   obtain ⟨y4,hy4,h⟩ := ob h
   have k5 := pa p1.To (0 : Int) (IntKind.i64.wrap (p2 - (1 : Int))) _ hy4
   try simp only [CL,MC,reduceToNat] at k5
   by_cases c6 : y4 = true
   · rw [if_pos c6] at h
     by_cases c7 : p1.From = p1.To
     · rw [if_pos c7] at h
       injection h with h; subst h
       simp only [zb5a,TT,Ic.t,ci,reduceEqDiff,reduceAdd,reduceCtorEq,hl,k2,c3,k5,c6,eq_true c7]
       first | exact hK | (simp only [hl,k2,c3,k5,c6,eq_true c7,CL] at hK; exact hK)
     rw [if_neg c7] at h
     obtain ⟨y8,hy8,h⟩ := ob h
     have k9 := pa p1.Ledger (0 : Int) (3 : Int) _ hy8
     try simp only [CL,MC,reduceToNat] at k9
     by_cases c10 : y8 = true
     · rw [if_pos c10] at h
       obtain ⟨y11,hy11,h⟩ := ob h
       have k12 := zcet p1.Asset _ hy11
       try simp only [CL,MC,reduceToNat] at k12
       by_cases c13 : y11 = true
       · rw [if_pos c13] at h
         obtain ⟨y14,hy14,h⟩ := ob h
         have k15 := pa p1.Amount (1 : Int) (1125899906842624 : Int) _ hy14
         try simp only [CL,MC,reduceToNat] at k15
         injection h with h; subst h
         simp only [zb5a,TT,Ic.t,ci,reduceEqDiff,reduceAdd,reduceCtorEq,hl,k2,c3,k5,c6,c7,k9,c10,k12,c13,k15]
         first | exact hK | (simp only [hl,k2,c3,k5,c6,c7,k9,c10,k12,c13,k15,CL] at hK; exact hK)
       rw [if_neg c13] at h
       have c13 := Bool.eq_false_iff.2 c13
       injection h with h; subst h
       simp only [zb5a,TT,Ic.t,ci,reduceEqDiff,reduceAdd,reduceCtorEq,hl,k2,c3,k5,c6,c7,k9,c10,k12,c13]
       first | exact hK | (simp only [hl,k2,c3,k5,c6,c7,k9,c10,k12,c13,CL] at hK; exact hK)
     rw [if_neg c10] at h
     have c10 := Bool.eq_false_iff.2 c10
     injection h with h; subst h
     simp only [zb5a,TT,Ic.t,ci,reduceEqDiff,reduceAdd,reduceCtorEq,hl,k2,c3,k5,c6,c7,k9,c10]
     first | exact hK | (simp only [hl,k2,c3,k5,c6,c7,k9,c10,CL] at hK; exact hK)
   rw [if_neg c6] at h
   have c6 := Bool.eq_false_iff.2 c6
   injection h with h; subst h
   simp only [zb5a,TT,Ic.t,ci,reduceEqDiff,reduceAdd,reduceCtorEq,hl,k2,c3,k5,c6]
   first | exact hK | (simp only [hl,k2,c3,k5,c6,CL] at hK; exact hK)
 rw [if_neg c3] at h
 have c3 := Bool.eq_false_iff.2 c3
 injection h with h; subst h
 simp only [zb5a,TT,Ic.t,ci,reduceEqDiff,reduceAdd,reduceCtorEq,hl,k2,c3]
 first | exact hK | (simp only [hl,k2,c3,CL] at hK; exact hK)
theorem zdd2 (p1 : ac) (p2 : Int) (r : Bool) (h : zb5f p1 p2 = some r) (lk : Bool) (d : Option Nat) (K : au) (fr : TF) (tk : TK) (τ : TH) (hl : τ.lock ≤ τ.next) : eo G lk zb47 [.agg [.int .i64 p1.From,.int .i64 p1.To,.int .i64 p1.Ledger,.str p1.Asset,.int .i64 p1.Amount],.int .i64 p2] d K fr tk τ = K (fv fr d (.bool r)) tk τ :=
 av (zcr3 p1 p2 r h τ hl) (zcr3 p1 p2 r h (τ.locked τ.next) (Nat.le_refl _) ) (by simp only [TT])
open Go Go.RowKit Sh Ic
def ol (l : List ByteArray) : Option Bool := if l.length ≤ 140737488355328 ∧ ∀ x ∈ l,x.size ≤ 140737488355328 then some (decide l.Nodup) else none
theorem zdc8 (p1 : List ByteArray) (r : Bool) (h : ol p1 = some r) (lk : Bool) (d : Option Nat) (K : au) (fr : TF) (tk : TK) (τ : TH) (hl : τ.lock ≤ τ.next) : eo G lk iu [.sl (List.map TV.str p1)] d K fr tk τ = K (fv fr d (.bool r)) tk τ := by
 unfold ol at h
 split at h
 · rename_i hc
   injection h with h
   subst h
   have hr : ∀ τ,Ru G iu [.sl (p1.map TV.str)] τ (.bool (decide p1.Nodup)) τ := fun τ => zcca zdcy (by
    have := zcbq (key := zcb1) (f := TV.str) (g := id) p1 (fun b hb => by show (if b.size ≤ 140737488355328 then some b else none) = some b; rw [if_pos (hc.2 b hb)])
    have hl : (p1.map TV.str).length ≤ 140737488355328 := by rw [List.length_map]; exact hc.1
    simp only [zbsi,zbwv,TV.list,if_pos hl,this,Option.map_some,List.map_id])
   exact av (hr _) (hr _) (by simp only [TT])
 · cases h
def z8 (l : List Int) : Option Bool := if l.length ≤ 140737488355328 ∧ ∀ x ∈ l,zblw x = true then some (decide l.Nodup) else none
theorem zdcw (p1 : List Int) (r : Bool) (h : z8 p1 = some r) (lk : Bool) (d : Option Nat) (K : au) (fr : TF) (tk : TK) (τ : TH) (hl : τ.lock ≤ τ.next) : eo G lk mb [.sl (List.map (TV.int .i64) p1)] d K fr tk τ = K (fv fr d (.bool r)) tk τ := by
 unfold z8 at h
 split at h
 · rename_i hc
   injection h with h
   subst h
   have hr : ∀ τ,Ru G mb [.sl (p1.map (TV.int .i64))] τ (.bool (decide p1.Nodup)) τ := fun τ => zcca zdgj (by
    have := zcbq (key := zcb2) (f := TV.int .i64) (g := id) p1 (fun b hb => by show (if zblw b then some b else none) = some b; rw [if_pos (hc.2 b hb)])
    have hl : (p1.map (TV.int .i64)).length ≤ 140737488355328 := by rw [List.length_map]; exact hc.1
    simp only [zbsj,zbwv,TV.list,if_pos hl,this,Option.map_some,List.map_id])
   exact av (hr _) (hr _) (by simp only [TT])
 · cases h
def two (x : ei) : Int × Int := (x.e0,x.e1)
def uu (l : List ei) : Option Bool := if l.length ≤ 140737488355328 ∧ ∀ x ∈ l,(zblw x.e0 && zblw x.e1) = true then some (decide (l.map two).Nodup) else none
theorem zdc7 (p1 : List ei) (r : Bool) (h : uu p1 = some r) (lk : Bool) (d : Option Nat) (K : au) (fr : TF) (tk : TK) (τ : TH) (hl : τ.lock ≤ τ.next) : eo G lk j8 [.sl (List.map ei.tv p1)] d K fr tk τ = K (fv fr d (.bool r)) tk τ := by
 unfold uu at h
 split at h
 · rename_i hc
   injection h with h
   subst h
   have hr : ∀ τ,Ru G j8 [.sl (p1.map ei.tv)] τ (.bool (decide (p1.map two).Nodup)) τ := fun τ => zcca zdcd (by
    have := zcbq (key := zcb3) (f := ei.tv) (g := two) p1 (fun b hb => by
     show (if (zblw b.e0 && zblw b.e1) = true then some (b.e0,b.e1) else none) = some (b.e0,b.e1)
     rw [if_pos (hc.2 b hb)])
    have hl : (p1.map ei.tv).length ≤ 140737488355328 := by rw [List.length_map]; exact hc.1
    simp only [zbsk,zbwv,TV.list,if_pos hl,this,Option.map_some])
   exact av (hr _) (hr _) (by simp only [TT])
 · cases h
end Go.Proofs.Ytdcfoaafkppojaa
