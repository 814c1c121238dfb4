/- handsellaw00.Ring by hand. -/
import Derived.Test.YtdcfoaafkppojaaHKeyed
set_option linter.unusedVariables false
set_option linter.unusedSimpArgs false
set_option linter.unusedSectionVars false
namespace Go.Proofs.Ytdcfoaafkppojaa
open Go Go.RowKit Sh Ic
def bare (l : List ByteArray) : List ac := l.map fun a => ⟨a,[]⟩
def zate (l : List ac) : Ob := ⟨fe,l.flatMap ac.cells⟩
theorem partOb_app (l : List ByteArray) (a : ByteArray) : (⟨fe,(bare l).flatMap ac.cells ++ [.str a,.sl []]⟩ : Ob) = zate (bare (l ++ [a])) := by
  unfold zate bare; rw [List.map_append,List.flatMap_append]; rfl
theorem zav2 (l : List ByteArray) : (bare l).length = l.length := List.length_map ..
def zar1 (arcs : List TV) (start delta : Int) (idP n : Nat) : SpB := ⟨⟨#[114,105,110,103]⟩,idP,n,arcs,[.int .i64 0],start,delta⟩
def ring0 (arcs : List TV) (start delta : Int) : Ob := ⟨aq,[.str ⟨#[114,105,110,103]⟩,.slz,.sl arcs,.sl [.int .i64 0],.slz,.int .i64 start,.int .i64 delta]⟩
inductive RingL (arcs : List TV) (start delta : Int) (τ0 τ : TH) (id6 id7 B : Nat) : List ByteArray → Prop
  | nil (ha : τ.at id7 = some (ring0 arcs start delta)) : RingL arcs start delta τ0 τ id6 id7 B []
  | obj (idP : Nat) (l : List ByteArray) (hne : l.length ≠ 0) (h0 : τ0.next ≤ idP) (hB : B ≤ idP) (h6 : id6 < idP) (h1 : idP < id7) (ha : τ.at id7 = some ((zar1 arcs start delta idP l.length).ob .slz)) (hp : τ.at idP = some (zate (bare l))) : RingL arcs start delta τ0 τ id6 id7 B l
section
variable {τ : TH} {k : Nat} {a b : Ob}
theorem wv (hn : τ.next = k) : ((τ.push a).push b).next = k + 2 := by rw [ep,ep,hn]
theorem za1b (hn : τ.next = k) : ((τ.push a).push b).at k = some a := by rw [um (by rw [ep]; omega),← hn]; exact zah5
theorem za1a (hn : τ.next = k) : ((τ.push a).push b).at (k + 1) = some b := by rw [← hn,← ep (b := a)]; exact zah5
theorem two_at {j : Nat} (hj : j < τ.next) : ((τ.push a).push b).at j = τ.at j := by rw [um (by rw [ep]; omega),um hj]
end
set_option maxHeartbeats 1000000 in
theorem ring_1 (n : Nat) (hn : n ≤ 6) (arcs : List TV) (start delta : Int) (z6 : Ob) (id6 : Nat) (τ0 : TH) (hl0 : τ0.lock ≤ τ0.next) (r : List ByteArray) (h6 : τ0.next ≤ id6) (B : Nat) (Q : TEx → au) (m : Nat) : ∀ (i : Nat) (l : List ByteArray) (id7 : Nat) (τ : TH),m + i = n → l.length = i → zahr jl m i l = some r → tq τ0 τ → RingL arcs start delta τ0 τ id6 id7 B l → τ0.next ≤ id7 → id7 < τ.next → id6 < id7 → τ.at id6 = some z6 → B ≤ τ.next →
    (∀ id7 τ,tq τ0 τ → RingL arcs start delta τ0 τ id6 id7 B r → τ0.next ≤ id7 → id7 < τ.next → id6 < id7 → τ.at id6 = some z6 → Q (.exit 0) [(0,.int .i64 n),(6,.ptr id6 0),(7,.ptr id7 0),(8,.int .i64 n),(17,.bool false)] [] τ) →
    tW G (.loop [0,6,7,8] tm) Q [(0,.int .i64 n),(6,.ptr id6 0),(7,.ptr id7 0),(8,.int .i64 (i : Int))] [] τ := by
  induction m with
  | zero =>
    intro i l id7 τ hi hl hr hg hv h07 h7 h67 ha6 hBn hQ
    obtain rfl : i = n := by omega
    injection hr with hr
    subst hr
    have c : ¬ (i : Int) < (i : Int) := by omega
    refine jm fun LQ hnx hr he => ?_
    simp -implicitDefEqProofs only [tm,zaev,TT,Ic.t,Ic.ci,Nat.reduceEqDiff,reduceIte,Nat.reduceAdd,Nat.reduceMul,Nat.reduceLT,Nat.reduceLeDiff,Nat.reduceSub,reduceCtorEq,Int.reduceEq,Int.reduceNe,Int.reduceToNat,Int.reduceLT,Int.reduceLE,Int.reduceNeg,c,he]
    exact hQ _ _ hg hv h07 h7 h67 ha6
  | succ m ih =>
    intro i l id7 τ hi hl hr hg hv h07 h7 h67 ha6 hBn hQ
    obtain ⟨x,hx,hr⟩ := ob hr
    have c : (i : Int) < (n : Int) := by omega
    have w1 : IntKind.i64.wrap ((i : Int) + 1) = ((i + 1 : Nat) : Int) := by rw [wA (by omega) (by omega)]; omega
    have hlk : τ.lock ≤ τ.next := by have := hg.lock; have := hg.next; omega
    have k1 := zarw _ _ hx
    have lt1 : ¬ τ.next + 1 < τ.next := by omega
    have l1 : τ.lock ≤ τ.next + 1 := by omega
    have h67n : ¬ id6 = id7 := by omega
    have hw7 : τ.lock ≤ id7 := by have := hg.lock; omega
    refine jm fun LQ hnx hrr he => ?_
    cases hv with
    | nil ha =>
      simp -implicitDefEqProofs only [tm,zaev,TT,Ic.t,Ic.ci,Nat.reduceEqDiff,reduceIte,Nat.reduceAdd,Nat.reduceMul,Nat.reduceLT,Nat.reduceLeDiff,Nat.reduceSub,reduceCtorEq,Int.reduceEq,Int.reduceNe,Int.reduceToNat,Int.reduceLT,Int.reduceLE,Int.reduceNeg,c,w1,hrr,ha,ring0,h7,hlk,hw7,k1]
      refine ⟨by unfold maxLen; omega,G_lift (h := ?_) ..⟩
      simp -implicitDefEqProofs only [TT,Ic.t,Ic.ci,Nat.reduceEqDiff,reduceIte,Nat.reduceAdd,Nat.reduceMul,Nat.reduceLT,Nat.reduceLeDiff,Nat.reduceSub,reduceCtorEq,Int.reduceEq,Int.reduceNe,Int.reduceToNat,Int.reduceLT,Int.reduceLE,Int.reduceNeg,ha,ring0,h7,hw7,ep,um h7,h67n,lt1,l1,w1,Bool.and_false,Bool.false_eq_true]
      rw [hnx]
      simp -implicitDefEqProofs only [TT,Ic.t,Ic.ci,Nat.reduceEqDiff,reduceIte,Nat.reduceAdd,Nat.reduceMul,Nat.reduceLT,Nat.reduceLeDiff,Nat.reduceSub,reduceCtorEq,Int.reduceEq,Int.reduceNe,Int.reduceToNat,Int.reduceLT,Int.reduceLE,Int.reduceNeg,lt1,List.flatMap_cons,List.flatMap_nil,List.append_nil,Bool.and_false,Bool.false_eq_true]
      have g1 := ((hg.put h07 ⟨aq,[]⟩).push (zate (bare [x]))).push ((zar1 arcs start delta τ.next 1).ob .slz)
      have q := ih (i + 1) [x] (τ.next + 1) _ (by omega) (by simp at hl ⊢; omega) hr g1 (.obj τ.next [x] (by simp) hg.next hBn (by omega) (by omega) (za1a az) (za1b az)) (by have := hg.next; omega) (by rw [wv az]; omega) (by omega)
        (by rw [two_at (by rw [az]; omega),jj (by omega)]; exact ha6) (by first | (rw [wv az]; omega) | (rw [wv nn]; omega)) hQ
      exact q
    | obj idP l hne h0 hB h6P h1 ha hp =>
      have m1 : l.length + 1 ≤ maxLen := by unfold maxLen; omega
      have m2 : (l.length + 1) * 40 ≤ 140737488355328 := by omega
      have f2 : ((bare l).flatMap ac.cells).length = l.length * 2 := by rw [vo (k := 2) (fun _ => rfl),zav2]
      have hwP : τ.lock ≤ idP := by have := hg.lock; omega
      have hPn : idP < τ.next := by omega
      have e7 : (τ.put idP ⟨fe,[]⟩).at id7 = some ((zar1 arcs start delta idP l.length).ob .slz) := by rw [jj (by omega)]; exact ha
      simp -implicitDefEqProofs only [tm,zaev,TT,Ic.t,Ic.ci,Nat.reduceEqDiff,reduceIte,Nat.reduceAdd,Nat.reduceMul,Nat.reduceLT,Nat.reduceLeDiff,Nat.reduceSub,reduceCtorEq,Int.reduceEq,Int.reduceNe,Int.reduceToNat,Int.reduceLT,Int.reduceLE,Int.reduceNeg,c,w1,hrr,ha,hp,zate,zar1,SpB.ob,h7,hlk,hw7,hwP,k1,m1,m2,f2,hne]
      refine G_lift (h := ?_) ..
      simp -implicitDefEqProofs only [TT,Ic.t,Ic.ci,Nat.reduceEqDiff,reduceIte,Nat.reduceAdd,Nat.reduceMul,Nat.reduceLT,Nat.reduceLeDiff,Nat.reduceSub,reduceCtorEq,Int.reduceEq,Int.reduceNe,Int.reduceToNat,Int.reduceLT,Int.reduceLE,Int.reduceNeg,e7,zar1,SpB.ob,h7,hw7,ep,um h7,h67n,lt1,l1,w1,Bool.and_false,Bool.false_eq_true]
      rw [hnx]
      simp -implicitDefEqProofs only [TT,Ic.t,Ic.ci,Nat.reduceEqDiff,reduceIte,Nat.reduceAdd,Nat.reduceMul,Nat.reduceLT,Nat.reduceLeDiff,Nat.reduceSub,reduceCtorEq,Int.reduceEq,Int.reduceNe,Int.reduceToNat,Int.reduceLT,Int.reduceLE,Int.reduceNeg,lt1,List.flatMap_cons,List.flatMap_nil,List.append_nil,Bool.and_false,Bool.false_eq_true]
      rw [partOb_app]
      have g1 := (((hg.put h0 ⟨fe,[]⟩).put h07 ⟨aq,[]⟩).push (zate (bare (l ++ [x])))).push ((zar1 arcs start delta τ.next (l.length + 1)).ob .slz)
      have nn : ((τ.put idP ⟨fe,[]⟩).put id7 ⟨aq,[]⟩).next = τ.next := by rw [az,az]
      have q := ih (i + 1) (l ++ [x]) (τ.next + 1) _ (by omega) (by rw [List.length_append,hl]; rfl) hr g1 (.obj τ.next (l ++ [x]) (by simp) hg.next hBn (by omega) (by omega) (by rw [List.length_append]; exact za1a nn) (za1b nn)) (by have := hg.next; omega) (by rw [wv nn]; omega) (by omega)
        (by rw [two_at (by rw [nn]; omega),jj (by omega),jj (by omega)]; exact ha6) (by first | (rw [wv az]; omega) | (rw [wv nn]; omega)) hQ
      exact q
theorem za3a {f : TV → Option TV} : ∀ {l k l' k' : List TV},zalh f l = some l' → zalh f k = some k' → zalh f (l ++ k) = some (l' ++ k')
  | [],k,l',k',h,h2 => by injection h with h; subst h; exact h2
  | v :: r,k,l',k',h,h2 => by
    simp only [zalh] at h
    cases hv : f v with
    | none => rw [hv] at h; cases h
    | some x =>
      rw [hv] at h
      cases hr : zalh f r with
      | none => rw [hr] at h; cases h
      | some y =>
        rw [hr] at h
        injection h with h
        subst h
        have := za3a hr h2
        simp only [List.cons_append,zalh,hv,this]
theorem tfzL_fm {α : Type} {f : TV → Option TV} {c c' : α → List TV} (h : ∀ x,zalh f ((c x).map TV.rd) = some (c' x)) : ∀ l : List α,zalh f ((l.flatMap c).map TV.rd) = some (l.flatMap c')
  | [] => rfl
  | x :: r => by rw [List.flatMap_cons,List.map_append,List.flatMap_cons]; exact za3a (h x) (tfzL_fm h r)
theorem fz_list2 {α : Type} {c c' : α → List TV} {k : Nat} {e : α → TV} (hk : k ≠ 0) (hc : ∀ x,(c x).length = k) (hc' : ∀ x,(c' x).length = k) (he : ∀ x,za57 (c' x) = e x) (τ : TH) (n0 id m : Nat) (t : TypeId) (l : List α) (h0 : n0 ≤ id) (ha : τ.at id = some ⟨t,l.flatMap c⟩) (hl : l.length = m)
    (hf : ∀ x,zalh (zan6 τ n0 1) ((c x).map TV.rd) = some (c' x)) : zan6 τ n0 2 (.slm id 0 m k) = some (.sl (l.map e)) := by
  subst hl
  have tr : zauq τ id 0 (l.length * k) = some ((l.flatMap c).map TV.rd) := by
    unfold zauq
    rw [ha]
    simp only [Option.bind_some,vo hc,Nat.zero_add,Nat.le_refl,if_true,List.drop_zero,fm_take hc]
  have n1 : ¬ (k = 0 ∨ id < n0) := by omega
  show (if k = 0 ∨ id < n0 then none else (zauq τ id 0 (l.length * k)).bind fun l' => (zalh (zan6 τ n0 1) l').map fun l' => TV.sl (yv k l.length l')) = _
  rw [if_neg n1,tr,Option.bind_some,tfzL_fm hf l,Option.map_some,zaq3 hc' he]
theorem fz_rows (τ : TH) (n0 id m : Nat) (l : List ac) (h0 : n0 ≤ id) (ha : τ.at id = some (zapr l)) (hl : l.length = m) : zan6 τ n0 2 (.slm id 0 m 2) = some (.sl (l.map ac.tv)) :=
  fz_list2 (c := zabx) (c' := ac.cells) (by decide) kc2 (fun _ => rfl) (fun _ => rfl) τ n0 id m _ l h0 ha hl fun x => by
    obtain ⟨a,ks⟩ := x
    cases ks <;> rfl
theorem listO_len (f : Int → Option ByteArray) (n : Nat) : ∀ (k : Nat) (l r : List ByteArray),zahr f n k l = some r → r.length = l.length + n := by
  induction n with
  | zero => intro k l r h; injection h with h; subst h; rfl
  | succ n ih => intro k l r h; obtain ⟨x,_,h⟩ := ob h; rw [ih _ _ _ h,List.length_append]; simp; omega
theorem rowsO_len (L : Nat) (rest : List ac) : ∀ (i : Nat) (d r : List ac),zaw2 L rest i d = some r → r.length = d.length + rest.length := by
  induction rest with
  | nil => intro i d r h; injection h with h; subst h; rfl
  | cons x rest ih => intro i d r h; obtain ⟨ks,_,h⟩ := ob h; rw [ih _ _ _ h,List.length_append]; simp; omega
theorem ring_Ru (n : Nat) (hn1 : 1 ≤ n) (hn : n ≤ 6) (start delta : Int) (al : List af) (accs lr : List ByteArray) (rows : List ac) (has : ze n 0 2 = some al) (hac : zahr jl n 0 [] = some accs) (hlr : zahr lockO 1 0 [] = some lr) (hrows : zaw2 1 (bare accs) 0 [] = some rows)
    (τ : TH) (hl : τ.lock ≤ τ.next) : Ru G u5 [.int .i64 n,.int .i64 start,.int .i64 delta] τ (.agg (aa.cells ⟨⟨#[114,105,110,103]⟩,rows,al,[0],lr,start,delta⟩)) τ := by
  refine jk fun K hK => ?_
  rw [b7 g_L00_Ring (Nat.le_of_ble_eq_true rfl)]
  have l1 : τ.lock ≤ τ.next + 1 := by omega
  have l2 : τ.lock ≤ τ.next + 2 := by omega
  have k1 := za0u _ _ _ _ has
  simp -implicitDefEqProofs only [zaev,TT,Ic.t,Ic.ci,Nat.reduceEqDiff,reduceIte,Nat.reduceAdd,Nat.reduceMul,Nat.reduceLT,Nat.reduceLeDiff,Nat.reduceSub,reduceCtorEq,Int.reduceEq,Int.reduceNe,Int.reduceToNat,Int.reduceLT,Int.reduceLE,Int.reduceNeg,hl,l1,l2,k1]
  have c0 : (τ.push ⟨aq,[.str ⟨#[]⟩,.slz,.slz,.slz,.slz,.int .i64 0,.int .i64 0]⟩).next = τ.next + 1 := ep
  refine ring_1 n hn (al.map af.tv) start delta ⟨aq,[.str ⟨#[]⟩,.slz,.slz,.slz,.slz,.int .i64 0,.int .i64 0]⟩ τ.next τ hl accs (Nat.le_refl _) (τ.next + 2) _ n 0 [] (τ.next + 1) _ rfl rfl hac (((tq.refl τ).push _).push _) (.nil (za1a rfl)) (by omega) (by rw [wv rfl]; omega) (by omega) (za1b rfl) (by rw [wv rfl]; omega) ?_
  intro id7 τ1 hg1 hr1 h07 h71 h67 ha6
  have la : accs.length = n := by rw [listO_len _ _ _ _ _ hac]; simp
  cases hr1 with
  | nil ha => simp at la; omega
  | obj idP l hne h0 hB h6P h1 ha hp =>
    have lt7 : ¬ id7 < τ.next + 2 := by omega
    have hL : ze n 0 2 = some al := has
    have kr := fun (K : au) (fr : TF) (d : Option Nat) => callK_wr (Γ := G) (d := d) (K := K) (fr := fr) (tk := []) (keyed_Ru (zar1 (al.map af.tv) start delta idP accs.length) [] (bare accs) rows lr (by show 1 ≤ 6; omega) (by show accs.length ≤ 20; omega) (by show accs.length = _; rw [zav2]) hlr hrows τ1 (by have := hg1.lock; have := hg1.next; omega) hp (by show idP < _; omega) (by have := hg1.lock; show _ ≤ idP; omega)) (by simp -implicitDefEqProofs only [TT,Ic.t,Ic.ci,Nat.reduceEqDiff,reduceIte,Nat.reduceAdd,Nat.reduceMul,Nat.reduceLT,Nat.reduceLeDiff,Nat.reduceSub,reduceCtorEq,Int.reduceEq,Int.reduceNe,Int.reduceToNat,Int.reduceLT,Int.reduceLE,Int.reduceNeg,zar1,h1,show idP < τ1.next by omega])
    simp only [zar1] at kr
    simp -implicitDefEqProofs only [TT,Ic.t,Ic.ci,Nat.reduceEqDiff,reduceIte,Nat.reduceAdd,Nat.reduceMul,Nat.reduceLT,Nat.reduceLeDiff,Nat.reduceSub,reduceCtorEq,Int.reduceEq,Int.reduceNe,Int.reduceToNat,Int.reduceLT,Int.reduceLE,Int.reduceNeg,h71,lt7,ha,zar1,SpB.ob,kr]
    have hPn : idP < τ1.next := by omega
    have hb : (τ1.put idP (zapr rows)).at τ.next = some ⟨aq,[.str ⟨#[]⟩,.slz,.slz,.slz,.slz,.int .i64 0,.int .i64 0]⟩ := by rw [jj (by omega)]; exact ha6
    refine G_stlift (hz := rfl) (hb := hb) (hc := ⟨by show τ1.lock ≤ _; have := hg1.lock; omega,by simp⟩) (hx := fun v e => by cases e) (h := ?_) ..
    obtain ⟨τ2,e2⟩ : ∃ τ2,τ2 = (τ1.put idP (zapr rows)).put τ.next ⟨aq,[]⟩ := ⟨_,rfl⟩
    have n2 : τ2.next = τ1.next := by rw [e2,az,az]
    have hg2 : tq τ τ2 := by rw [e2]; exact (hg1.put (by omega) _).put (Nat.le_refl _) _
    have aP : τ2.at idP = some (zapr rows) := by rw [e2,jj (by omega)]; exact zag3 hPn
    rw [← e2]
    have e3 : (τ1.put idP (zapr rows)).next = τ2.next := by rw [n2,az]
    have lk2 : τ2.lock ≤ τ2.next := by have := hg2.lock; have := hg2.next; omega
    have hP2 : idP < τ2.next + 1 := by omega
    rw [e3]
    have rl : rows.length = accs.length := by rw [rowsO_len _ _ _ _ _ hrows,zav2]; simp
    have fr : ∀ x,zan6 (τ2.push x) τ.next 2 (.slm idP 0 accs.length 2) = some (.sl (rows.map ac.tv)) := fun x => fz_rows _ _ _ _ _ h0 (by rw [um (by omega)]; exact aP) rl
    have cx : ∀ x,(τ2.push x).cut τ.next = τ := fun x => (hg2.push x).cut
    simp -implicitDefEqProofs only [TT,Ic.t,Ic.ci,Nat.reduceEqDiff,reduceIte,Nat.reduceAdd,Nat.reduceMul,Nat.reduceLT,Nat.reduceLeDiff,Nat.reduceSub,reduceCtorEq,Int.reduceEq,Int.reduceNe,Int.reduceToNat,Int.reduceLT,Int.reduceLE,Int.reduceNeg,lk2,hP2,fr,cx]
    exact hK
noncomputable def zf (n start delta : Int) : Option aa := if 1 ≤ n ∧ n ≤ 6 then
  ze n 0 2 >>= fun al =>
  zahr jl n.toNat 0 [] >>= fun accs =>
  zahr lockO 1 0 [] >>= fun lr =>
  zaw2 1 (bare accs) 0 [] >>= fun rows =>
  some ⟨⟨#[114,105,110,103]⟩,rows,al,[0],lr,start,delta⟩ else none
theorem za0w (p1 p2 p3 : Int) (r : aa) (h : zf p1 p2 p3 = some r) (lk : Bool) (d : Option Nat) (K : au) (fr : TF) (tk : TK) (τ : TH) (hl : τ.lock ≤ τ.next) : fv G lk u5 [.int .i64 p1,.int .i64 p2,.int .i64 p3] d K fr tk τ = K (fu fr d (.agg (aa.cells r))) tk τ := by
  obtain ⟨⟨h1,h2⟩,h⟩ := ifS h
  obtain ⟨al,a1,h⟩ := ob h
  obtain ⟨accs,a2,h⟩ := ob h
  obtain ⟨lr,a3,h⟩ := ob h
  obtain ⟨rows,a4,h⟩ := ob h
  injection h with h
  subst h
  obtain ⟨n,rfl⟩ : ∃ n : Nat,p1 = (n : Int) := ⟨p1.toNat,by omega⟩
  have hr := fun τ hl => ring_Ru n (by omega) (by omega) p2 p3 al accs lr rows a1 a2 a3 a4 τ hl
  exact aw (hr _ hl) (hr _ (Nat.le_refl _)) (by simp -implicitDefEqProofs only [TT,Ic.t,Ic.ci,Nat.reduceEqDiff,reduceIte,Nat.reduceAdd,Nat.reduceLT,reduceCtorEq,Int.reduceToNat])
end Go.Proofs.Ytdcfoaafkppojaa
