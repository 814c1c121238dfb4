/- handsellaw00.keyed by hand: locks and keys of a swap whose parties have none yet. -/
import Derived.Test.YtdcfoaafkppojaaHArcs
set_option linter.unusedVariables false
set_option linter.unusedSimpArgs false
set_option linter.unusedSectionVars false
namespace Go.Proofs.Ytdcfoaafkppojaa
open Go Go.RowKit Sh Ic
def kcS (l : List ByteArray) : TV := match l with | [] => .slz | x :: r => .slo ek ((x :: r).map TV.str)
theorem za1r (l : List ByteArray) (x : ByteArray) : kcS (l ++ [x]) = .slo ek (l.map TV.str ++ [.str x]) := by
  cases l with
  | nil => rfl
  | cons y r => show TV.slo ek (List.map TV.str (y :: (r ++ [x]))) = _; simp
theorem kcS_cons (x : ByteArray) (r : List ByteArray) : kcS (x :: r) = .slo ek (TV.str x :: r.map TV.str) := rfl
structure SpB where
  ID : ByteArray
  idP : Nat
  n : Nat
  arcs : List TV
  leaders : List TV
  start : Int
  delta : Int
def SpB.ob (b : SpB) (locks : TV) : Ob := ⟨aq,[.str b.ID,.slm b.idP 0 b.n 2,.sl b.arcs,.sl b.leaders,locks,.int .i64 b.start,.int .i64 b.delta]⟩
def zahr (f : Int → Option ByteArray) : Nat → Nat → List ByteArray → Option (List ByteArray)
  | 0,_,l => some l
  | n + 1,k,l => f (k : Int) >>= fun x => zahr f n (k + 1) (l ++ [x])
noncomputable def lockO (k : Int) : Option ByteArray := qx k >>= vt
noncomputable def keyO (i k : Int) : Option ByteArray := uv i >>= fun s => qw s k
theorem zalr (τ : TH) (id : Nat) (a b : Ob) : (τ.put id a).put id b = τ.put id b := by
  show TH.mk ((τ.o.set id a).set id b) τ.lock = TH.mk (τ.o.set id b) τ.lock
  rw [List.set_set]
theorem keyed_1 (b : SpB) (id1 id2 : Nat) (hL : b.leaders.length ≤ 6) (r : List ByteArray) (Q : TEx → au) (m : Nat) : ∀ (k : Nat) (ls : List ByteArray) (τ : TH),m + k = b.leaders.length → ls.length = k → zahr lockO m k ls = some r →
    τ.at id1 = some (b.ob (kcS ls)) → id1 < τ.next → id2 < τ.next → τ.lock ≤ id1 → τ.lock ≤ τ.next → b.idP < τ.next →
    (Q (.exit 0) [(1,.ptr id1 0),(2,.ptr id2 0),(3,.int .i64 b.leaders.length),(11,.bool false)] [] (τ.put id1 (b.ob (kcS r)))) →
    tW G (.loop [1,2,3] ru) Q [(1,.ptr id1 0),(2,.ptr id2 0),(3,.int .i64 (k : Int))] [] τ := by
  induction m with
  | zero =>
    intro k ls τ hi hk hr ha h1 h2 hw hl hP hQ
    obtain rfl : k = b.leaders.length := by omega
    injection hr with hr
    subst hr
    rw [xa ha] at hQ
    have c : ¬ (b.leaders.length : Int) < (b.leaders.length : Int) := by omega
    refine jm fun LQ hnx hr he => ?_
    simp -implicitDefEqProofs only [ru,j9,TT,Ic.t,Ic.ci,Nat.reduceEqDiff,reduceIte,Nat.reduceAdd,Nat.reduceMul,Nat.reduceLT,Nat.reduceLeDiff,Nat.reduceSub,reduceCtorEq,Int.reduceEq,Int.reduceNe,Int.reduceToNat,Int.reduceLT,Int.reduceLE,Int.reduceNeg,c,he,ha,SpB.ob,h1]
    exact hQ
  | succ m ih =>
    intro k ls τ hi hk hr ha h1 h2 hw hl hP hQ
    obtain ⟨x,hx,hr⟩ := ob hr
    obtain ⟨s,hs,hx⟩ := ob hx
    have c : (k : Int) < (b.leaders.length : Int) := by omega
    have w1 : IntKind.i64.wrap ((k : Int) + 1) = ((k + 1 : Nat) : Int) := by rw [wA (by omega) (by omega)]; omega
    have k1 := zasj _ _ hs
    have k2 := zart _ _ hx
    have m1 : ls.length + 1 ≤ maxLen := by unfold maxLen; omega
    have m2 : (ls.length + 1) * 16 ≤ 140737488355328 := by omega
    refine jm fun LQ hnx hrr he => ?_
    cases ls with
    | nil =>
      have ha' : τ.at id1 = some (b.ob .slz) := ha
      simp -implicitDefEqProofs only [ru,j9,TT,Ic.t,Ic.ci,Nat.reduceEqDiff,reduceIte,Nat.reduceAdd,Nat.reduceMul,Nat.reduceLT,Nat.reduceLeDiff,Nat.reduceSub,reduceCtorEq,Int.reduceEq,Int.reduceNe,Int.reduceToNat,Int.reduceLT,Int.reduceLE,Int.reduceNeg,c,hrr,ha',SpB.ob,h1,h2,hw,hl,hP,w1,k1,k2,m1,m2]
      refine ⟨⟨by unfold maxLen; omega,by unfold maxLen; omega⟩,?_⟩
      rw [hnx]
      simp -implicitDefEqProofs only [TT,Ic.t,Ic.ci,Nat.reduceEqDiff,reduceIte,Nat.reduceAdd,Nat.reduceMul,Nat.reduceLT,Nat.reduceLeDiff,Nat.reduceSub,reduceCtorEq,Int.reduceEq,Int.reduceNe,Int.reduceToNat,Int.reduceLT,Int.reduceLE,Int.reduceNeg,h1,h2,hP]
      refine ih (k + 1) _ _ (by omega) (by simp at hk ⊢; omega) hr (by rw [zag3 h1,za1r]; rfl) (by rw [az]; exact h1) (by rw [az]; exact h2) hw (by rw [az]; exact hl) (by rw [az]; exact hP) ?_
      rw [zalr]
      exact hQ
    | cons y ys =>
      have ha' : τ.at id1 = some (b.ob (.slo ek (TV.str y :: ys.map TV.str))) := ha
      simp -implicitDefEqProofs only [ru,j9,TT,Ic.t,Ic.ci,Nat.reduceEqDiff,reduceIte,Nat.reduceAdd,Nat.reduceMul,Nat.reduceLT,Nat.reduceLeDiff,Nat.reduceSub,reduceCtorEq,Int.reduceEq,Int.reduceNe,Int.reduceToNat,Int.reduceLT,Int.reduceLE,Int.reduceNeg,c,hrr,ha',SpB.ob,h1,h2,hw,hl,hP,w1,k1,k2,m1,m2]
      simp only [List.length_cons] at m1 m2
      refine ⟨⟨by unfold maxLen; omega,allc (fun _ => rfl) _,by omega,by unfold maxLen; omega⟩,?_⟩
      rw [hnx]
      simp -implicitDefEqProofs only [TT,Ic.t,Ic.ci,Nat.reduceEqDiff,reduceIte,Nat.reduceAdd,Nat.reduceMul,Nat.reduceLT,Nat.reduceLeDiff,Nat.reduceSub,reduceCtorEq,Int.reduceEq,Int.reduceNe,Int.reduceToNat,Int.reduceLT,Int.reduceLE,Int.reduceNeg,h1,h2,hP]
      refine ih (k + 1) _ _ (by omega) (by simp at hk ⊢; omega) hr (by rw [zag3 h1,za1r]; rfl) (by rw [az]; exact h1) (by rw [az]; exact h2) hw (by rw [az]; exact hl) (by rw [az]; exact hP) ?_
      rw [zalr]
      exact hQ
theorem fm_get {α : Type} {c : α → List TV} {k : Nat} (hc : ∀ x,(c x).length = k) {j : Nat} (hj : j < k) : ∀ (l : List α) (i : Nat) (h : i < l.length),(l.flatMap c)[i * k + j]? = (c l[i])[j]?
  | [],i,h => by simp at h
  | x :: r,0,h => by
    rw [List.flatMap_cons,Nat.zero_mul,Nat.zero_add,List.getElem?_append_left (by rw [hc]; exact hj)]
    rfl
  | x :: r,i + 1,h => by
    have := fm_get hc hj r i (by simpa using h)
    have a : (i + 1) * k + j = k + (i * k + j) := by rw [Nat.succ_mul]; omega
    rw [List.flatMap_cons,a,List.getElem?_append_right (by rw [hc]; omega),hc,Nat.add_sub_cancel_left,this]
    rfl
def zabx (p : ac) : List TV := [.str p.Account,kcS p.Keys]
theorem kc2 (p : ac) : (zabx p).length = 2 := rfl
def zapr (l : List ac) : Ob := ⟨fe,l.flatMap zabx⟩
def za3o (l : List ac) (t : List TV) : Ob := ⟨fe,l.flatMap zabx ++ t⟩
theorem za3n (rows : List ac) (t : List TV) (i : Nat) (h : i < rows.length) (a : ByteArray) (k k' : List ByteArray) (hr : rows[i] = ⟨a,k⟩) : (⟨fe,(rows.flatMap zabx ++ t).set (i * 2 + 1) (kcS k')⟩ : Ob) = za3o (rows.set i ⟨a,k'⟩) t := by
  unfold za3o
  rw [List.set_append_left _ _ (by rw [vo kc2]; omega),zay4 kc2 (y := ⟨a,k'⟩) (by decide) rows i h (by rw [hr]; rfl)]
theorem rowT_nil (d r : List ac) (x : ac) : (⟨fe,(d.flatMap zabx ++ (x :: r).flatMap ac.cells).set (d.length * 2 + 1) .slz⟩ : Ob) = za3o (d ++ [⟨x.Account,[]⟩]) (r.flatMap ac.cells) := by
  unfold za3o
  rw [List.set_append_right _ _ (by rw [vo kc2]; omega),vo kc2,Nat.add_sub_cancel_left,List.flatMap_cons,List.flatMap_append,List.append_assoc]
  rfl
theorem jj {τ : TH} {id j : Nat} {b : Ob} (h : id ≠ j) : (τ.put id b).at j = τ.at j := by
  show (τ.o.set id b)[j]? = τ.o[j]?
  exact List.getElem?_set_ne h
set_option maxHeartbeats 1000000 in
theorem keyed_3 (b : SpB) (lk : TV) (id1 id2 i : Nat) (hi6 : i ≤ 100) (hib : i < b.n) (t : List TV) (hL : b.leaders.length ≤ 6) (a : ByteArray) (r : List ByteArray) (Q : TEx → au) (m : Nat) : ∀ (k : Nat) (ks : List ByteArray) (rows : List ac) (τ : TH) (hin : i < rows.length),rows[i] = ⟨a,ks⟩ → m + k = b.leaders.length → ks.length = k → zahr (keyO i) m k ks = some r →
    τ.at id1 = some (b.ob lk) → τ.at b.idP = some (za3o rows t) → id1 < τ.next → id2 < τ.next → τ.lock ≤ b.idP → τ.lock ≤ τ.next → b.idP < id1 →
    (Q (.exit 4) [(1,.ptr id1 0),(2,.ptr id2 0),(4,.int .i64 (i : Int)),(5,.int .i64 b.leaders.length),(38,.bool false)] [] (τ.put b.idP (za3o (rows.set i ⟨a,r⟩) t))) →
    tW G (.loop [1,2,4,5] rr) Q [(1,.ptr id1 0),(2,.ptr id2 0),(4,.int .i64 (i : Int)),(5,.int .i64 (k : Int))] [] τ := by
  induction m with
  | zero =>
    intro k ks rows τ hin hrow hi hk hr ha hp h1 h2 hw hl hP hQ
    obtain rfl : k = b.leaders.length := by omega
    injection hr with hr
    subst hr
    have e : rows.set i ⟨a,ks⟩ = rows := by rw [← hrow]; exact List.set_getElem_self hin
    rw [e,xa hp] at hQ
    have c : ¬ (b.leaders.length : Int) < (b.leaders.length : Int) := by omega
    refine jm fun LQ hnx hr he => ?_
    simp -implicitDefEqProofs only [rr,j9,TT,Ic.t,Ic.ci,Nat.reduceEqDiff,reduceIte,Nat.reduceAdd,Nat.reduceLT,reduceCtorEq,Int.reduceToNat,c,he,ha,SpB.ob,h1]
    exact hQ
  | succ m ih =>
    intro k ks rows τ hin hrow hi hk hr ha hp h1 h2 hw hl hP hQ
    obtain ⟨x,hx,hr⟩ := ob hr
    obtain ⟨s,hs,hx⟩ := ob hx
    have c : (k : Int) < (b.leaders.length : Int) := by omega
    have ci : (0 : Int) ≤ (i : Int) := by omega
    have cin : (i : Int) < (b.n : Int) := by omega
    have w1 : IntKind.i64.wrap ((k : Int) + 1) = ((k + 1 : Nat) : Int) := by rw [wA (by omega) (by omega)]; omega
    have k1 := za0v _ _ hs
    have k2 := zasi _ _ _ hx
    have m1 : ks.length + 1 ≤ maxLen := by unfold maxLen; omega
    have m2 : (ks.length + 1) * 16 ≤ 140737488355328 := by omega
    have f2 : (rows.flatMap zabx ++ t).length = rows.length * 2 + t.length := by rw [List.length_append,vo kc2 rows]
    have o2 : i * 2 + 1 + 1 ≤ rows.length * 2 + t.length := by omega
    have ne : b.idP ≠ id1 := by omega
    have hPn : b.idP < τ.next := by omega
    have g := fm_get kc2 (j := 1) (by decide) rows i hin
    rw [hrow] at g
    have g : (rows.flatMap zabx ++ t)[i * 2 + 1]? = (zabx ⟨a,ks⟩)[1]? := by rw [List.getElem?_append_left (by rw [vo kc2 rows]; omega)]; exact g
    refine jm fun LQ hnx hrr he => ?_
    cases ks with
    | nil =>
      have g' : (rows.flatMap zabx ++ t)[i * 2 + 1]? = some .slz := g
      simp -implicitDefEqProofs only [kx,kw,ku,List.isEmpty_cons,g8,tD,pnK,gz,List.filter_cons,List.filter_nil,List.filterMap_cons,List.filterMap_nil,b9,eq,me,d6,Ins.dsts,Ins.looks,I.ops,ti,rg,List.all_cons,List.all_nil,List.any_cons,List.any_nil,List.contains_cons,List.contains_nil,List.append_nil,List.nil_append,List.cons_append,Option.toList_some,Option.toList_none,Option.isSome_some,Option.isSome_none,Bool.and_true,Bool.true_and,Bool.and_false,Bool.false_and,Bool.or_false,Bool.false_or,Bool.or_true,Bool.true_or,Bool.not_false,Bool.not_true,and_true,true_and,and_false,false_and,Nat.reduceBEq,bne_iff_ne,rr,j9,TT,Ic.t,Ic.ci,Nat.reduceEqDiff,reduceIte,Nat.reduceAdd,Nat.reduceLT,reduceCtorEq,Int.reduceToNat,c,ci,cin,hrr,ha,hp,g',SpB.ob,za3o,h1,h2,hw,hl,hPn,nq ne,w1,k1,k2,m1,m2,f2,o2]
      refine ⟨⟨by unfold maxLen; omega,by unfold maxLen; omega⟩,?_⟩
      rw [hnx]
      simp -implicitDefEqProofs only [TT,Ic.t,Ic.ci,Nat.reduceEqDiff,reduceIte,Nat.reduceAdd,Nat.reduceLT,reduceCtorEq,Int.reduceToNat,h1,h2,hPn]
      have es := za3n rows t i hin a [] [x] hrow
      rw [show kcS [x] = .slo ek [TV.str x] from rfl] at es
      rw [es]
      have hin' : i < (rows.set i ⟨a,[x]⟩).length := by rw [List.length_set]; exact hin
      refine ih (k + 1) [x] _ _ hin' (List.getElem_set_self ..) (by omega) (by simp at hk ⊢; omega) hr (by rw [jj (by omega)]; exact ha) (zag3 hPn) (by rw [az]; exact h1) (by rw [az]; exact h2) hw (by rw [az]; exact hl) hP ?_
      rw [zalr,List.set_set]
      exact hQ
    | cons y ys =>
      have g' : (rows.flatMap zabx ++ t)[i * 2 + 1]? = some (.slo ek (TV.str y :: ys.map TV.str)) := g
      simp -implicitDefEqProofs only [kx,kw,ku,List.isEmpty_cons,g8,tD,pnK,gz,List.filter_cons,List.filter_nil,List.filterMap_cons,List.filterMap_nil,b9,eq,me,d6,Ins.dsts,Ins.looks,I.ops,ti,rg,List.all_cons,List.all_nil,List.any_cons,List.any_nil,List.contains_cons,List.contains_nil,List.append_nil,List.nil_append,List.cons_append,Option.toList_some,Option.toList_none,Option.isSome_some,Option.isSome_none,Bool.and_true,Bool.true_and,Bool.and_false,Bool.false_and,Bool.or_false,Bool.false_or,Bool.or_true,Bool.true_or,Bool.not_false,Bool.not_true,and_true,true_and,and_false,false_and,Nat.reduceBEq,bne_iff_ne,rr,j9,TT,Ic.t,Ic.ci,Nat.reduceEqDiff,reduceIte,Nat.reduceAdd,Nat.reduceLT,reduceCtorEq,Int.reduceToNat,c,ci,cin,hrr,ha,hp,g',SpB.ob,za3o,h1,h2,hw,hl,hPn,nq ne,w1,k1,k2,m1,m2,f2,o2]
      simp only [List.length_cons] at m1 m2
      refine ⟨⟨by unfold maxLen; omega,allc (fun _ => rfl) _,by omega,by unfold maxLen; omega⟩,?_⟩
      rw [hnx]
      simp -implicitDefEqProofs only [TT,Ic.t,Ic.ci,Nat.reduceEqDiff,reduceIte,Nat.reduceAdd,Nat.reduceLT,reduceCtorEq,Int.reduceToNat,h1,h2,hPn]
      refine ⟨by rw [List.length_set,f2]; omega,?_⟩
      rw [List.set_set]
      have es := za3n rows t i hin a (y :: ys) (y :: ys ++ [x]) hrow
      rw [show kcS (y :: ys ++ [x]) = .slo ek (TV.str y :: (ys.map TV.str ++ [TV.str x])) from za1r (y :: ys) x] at es
      rw [es]
      have hin' : i < (rows.set i ⟨a,y :: ys ++ [x]⟩).length := by rw [List.length_set]; exact hin
      refine ih (k + 1) (y :: ys ++ [x]) _ _ hin' (List.getElem_set_self ..) (by omega) (by simp at hk ⊢; omega) hr (by rw [jj (by omega)]; exact ha) (zag3 hPn) (by rw [az]; exact h1) (by rw [az]; exact h2) hw (by rw [az]; exact hl) hP ?_
      rw [zalr,List.set_set]
      exact hQ
noncomputable def zaw2 (L : Nat) : List ac → Nat → List ac → Option (List ac)
  | [],_,d => some d
  | x :: r,i,d => zahr (keyO (i : Int)) L 0 [] >>= fun ks => zaw2 L r (i + 1) (d ++ [⟨x.Account,ks⟩])
set_option maxHeartbeats 1000000 in
theorem keyed_2 (b : SpB) (lk : TV) (id1 id2 : Nat) (hL : b.leaders.length ≤ 6) (hn : b.n ≤ 20) (r : List ac) (Q : TEx → au) (rest : List ac) : ∀ (d : List ac) (τ : TH),rest.length + d.length = b.n → zaw2 b.leaders.length rest d.length d = some r →
    τ.at id1 = some (b.ob lk) → τ.at b.idP = some (za3o d (rest.flatMap ac.cells)) → id1 < τ.next → id2 < τ.next → τ.lock ≤ b.idP → τ.lock ≤ τ.next → b.idP < id1 →
    (Q (.exit 2) [(1,.ptr id1 0),(2,.ptr id2 0),(4,.int .i64 b.n),(26,.bool false)] [] (τ.put b.idP (zapr r))) →
    tW G (.loop [1,2,4] ul) Q [(1,.ptr id1 0),(2,.ptr id2 0),(4,.int .i64 (d.length : Int))] [] τ := by
  induction rest with
  | nil =>
    intro d τ hi hr ha hp h1 h2 hw hl hP hQ
    have hi : d.length = b.n := by simpa using hi
    injection hr with hr
    subst hr
    have hp : τ.at b.idP = some (zapr d) := by rw [hp]; unfold za3o zapr; rw [List.flatMap_nil,List.append_nil]
    rw [xa hp] at hQ
    have c : ¬ (b.n : Int) < (b.n : Int) := by omega
    refine jm fun LQ hnx hr he => ?_
    simp -implicitDefEqProofs only [ul,j9,TT,Ic.t,Ic.ci,Nat.reduceEqDiff,reduceIte,Nat.reduceAdd,Nat.reduceLT,reduceCtorEq,Int.reduceToNat,c,he,ha,SpB.ob,h1,hi]
    exact hQ
  | cons x rest ih =>
    intro d τ hi hr ha hp h1 h2 hw hl hP hQ
    have hi : rest.length + d.length + 1 = b.n := by simp at hi; omega
    obtain ⟨ks,hks,hr⟩ := ob hr
    have c : (d.length : Int) < (b.n : Int) := by omega
    have ci : (0 : Int) ≤ (d.length : Int) := by omega
    have w1 : IntKind.i64.wrap ((d.length : Int) + 1) = ((d.length + 1 : Nat) : Int) := by rw [wA (by omega) (by omega)]; omega
    have f2 : (d.flatMap zabx ++ (x :: rest).flatMap ac.cells).length = b.n * 2 := by rw [List.length_append,vo kc2 d,vo (c := ac.cells) (k := 2) (fun _ => rfl),List.length_cons]; omega
    have o2 : d.length * 2 + 1 + 1 ≤ b.n * 2 := by omega
    have ne : b.idP ≠ id1 := by omega
    have hPn : b.idP < τ.next := by omega
    have es := rowT_nil d rest x
    refine jm fun LQ hnx hrr he => ?_
    simp -implicitDefEqProofs only [ul,j9,TT,Ic.t,Ic.ci,Nat.reduceEqDiff,reduceIte,Nat.reduceAdd,Nat.reduceLT,reduceCtorEq,Int.reduceToNat,c,ci,w1,hrr,ha,hp,SpB.ob,za3o,h1,h2,hw,hl,hPn,nq ne,f2,o2]
    rw [es]
    have hin' : d.length < (d ++ [(⟨x.Account,[]⟩ : ac)]).length := by simp
    refine keyed_3 b lk id1 id2 d.length (by omega) (by omega) _ hL x.Account ks _ b.leaders.length 0 [] _ _ hin' (by simp) rfl rfl hks (by rw [jj (by omega)]; exact ha) (zag3 hPn) (by rw [az]; exact h1) (by rw [az]; exact h2) hw (by rw [az]; exact hl) hP ?_
    rw [zalr,List.set_append_right _ _ (Nat.le_refl _),Nat.sub_self,List.set_cons_zero]
    simp -implicitDefEqProofs only [TT,Ic.t,Ic.ci,Nat.reduceEqDiff,reduceIte,Nat.reduceAdd,Nat.reduceLT,reduceCtorEq,Int.reduceToNat,w1,h1,h2,hPn]
    rw [hnx]
    simp -implicitDefEqProofs only [TT,Ic.t,Ic.ci,Nat.reduceEqDiff,reduceIte,Nat.reduceAdd,Nat.reduceLT,reduceCtorEq,Int.reduceToNat,h1,h2,hPn]
    have el : (d ++ [(⟨x.Account,ks⟩ : ac)]).length = d.length + 1 := by simp
    have ih := ih (d ++ [⟨x.Account,ks⟩])
    rw [el] at ih
    refine ih _ (by omega) hr (by rw [jj (by omega)]; exact ha) (zag3 hPn) (by rw [az]; exact h1) (by rw [az]; exact h2) hw (by rw [az]; exact hl) hP ?_
    rw [zalr]
    exact hQ
theorem um {τ : TH} {b : Ob} {id : Nat} (h : id < τ.next) : (τ.push b).at id = τ.at id := by
  show (τ.o ++ [b])[id]? = τ.o[id]?
  exact List.getElem?_append_left h
theorem zatw {τ : TH} {n id : Nat} {b : Ob} (h : n ≤ id) : (τ.put id b).cut n = τ.cut n := by
  show TH.mk ((τ.o.set id b).take n) τ.lock = TH.mk (τ.o.take n) τ.lock
  rw [List.take_set_of_le h]
theorem keyed_Ru (b : SpB) (L0 : List TV) (rows r : List ac) (lr : List ByteArray) (hL : b.leaders.length ≤ 6) (hn : b.n ≤ 20) (hbn : b.n = rows.length) (hlr : zahr lockO b.leaders.length 0 [] = some lr) (hr : zaw2 b.leaders.length rows 0 [] = some r)
    (τ : TH) (hl : τ.lock ≤ τ.next) (hp : τ.at b.idP = some (za3o [] (rows.flatMap ac.cells))) (hP : b.idP < τ.next) (hw : τ.lock ≤ b.idP) :
    Ru G wd [.agg [.str b.ID,.slm b.idP 0 b.n 2,.sl b.arcs,.sl b.leaders,.sl L0,.int .i64 b.start,.int .i64 b.delta]] τ (.agg [.str b.ID,.slm b.idP 0 b.n 2,.sl b.arcs,.sl b.leaders,.sl (lr.map TV.str),.int .i64 b.start,.int .i64 b.delta]) (τ.put b.idP (zapr r)) := by
  refine jk fun K hK => ?_
  rw [b7 za2a (Nat.le_of_ble_eq_true rfl)]
  have P1 : b.idP < τ.next + 1 := by omega
  have l1 : τ.lock ≤ τ.next + 1 := by omega
  have l2 : τ.lock ≤ τ.next + 2 := by omega
  simp -implicitDefEqProofs only [j9,TT,Ic.t,Ic.ci,Nat.reduceEqDiff,reduceIte,Nat.reduceAdd,Nat.reduceMul,Nat.reduceLT,Nat.reduceLeDiff,Nat.reduceSub,reduceCtorEq,Int.reduceEq,Int.reduceNe,Int.reduceToNat,Int.reduceLT,Int.reduceLE,Int.reduceNeg,hP,hl,hw,P1,l1,l2]
  obtain ⟨z,hz⟩ : ∃ z : Ob,z = ⟨aq,[.str ⟨#[]⟩,.slz,.slz,.slz,.slz,.int .i64 0,.int .i64 0]⟩ := ⟨_,rfl⟩
  rw [← hz]
  obtain ⟨τ1,e1⟩ : ∃ τ1,τ1 = (τ.push (b.ob .slz)).push z := ⟨_,rfl⟩
  have n0 : (τ.push (b.ob .slz)).next = τ.next + 1 := ep
  have n1 : τ1.next = τ.next + 2 := by rw [e1,ep,n0]
  have a1 : τ1.at τ.next = some (b.ob .slz) := by rw [e1,um (by rw [n0]; omega)]; exact zah5
  have a2 : τ1.at (τ.next + 1) = some z := by rw [e1,← n0]; exact zah5
  have aP : τ1.at b.idP = some (za3o [] (rows.flatMap ac.cells)) := by rw [e1,um (by rw [n0]; omega),um hP]; exact hp
  have lk1 : τ1.lock = τ.lock := by rw [e1]; rfl
  have cu : τ1.cut τ.next = τ := by rw [e1]; exact (((tq.refl τ).push _).push z).cut
  have eb : b.ob .slz = ⟨aq,[.str b.ID,.slm b.idP 0 b.n 2,.sl b.arcs,.sl b.leaders,.slz,.int .i64 b.start,.int .i64 b.delta]⟩ := rfl
  rw [← eb,← e1]
  refine keyed_1 b τ.next (τ.next + 1) hL lr _ b.leaders.length 0 [] τ1 rfl rfl hlr a1 (by omega) (by omega) (by omega) (by omega) (by omega) ?_
  have P2 : τ.next < τ1.next := by omega
  have P3 : τ.next + 1 < τ1.next := by omega
  simp -implicitDefEqProofs only [TT,Ic.t,Ic.ci,Nat.reduceEqDiff,reduceIte,Nat.reduceAdd,Nat.reduceMul,Nat.reduceLT,Nat.reduceLeDiff,Nat.reduceSub,reduceCtorEq,Int.reduceEq,Int.reduceNe,Int.reduceToNat,Int.reduceLT,Int.reduceLE,Int.reduceNeg,P2,P3]
  obtain ⟨τ2,e2⟩ : ∃ τ2,τ2 = τ1.put τ.next (b.ob (kcS lr)) := ⟨_,rfl⟩
  rw [← e2]
  have n2 : τ2.next = τ.next + 2 := by rw [e2,az,n1]
  have b1 : τ2.at τ.next = some (b.ob (kcS lr)) := by rw [e2]; exact zag3 (by omega)
  have b2 : τ2.at (τ.next + 1) = some z := by rw [e2,jj (by omega)]; exact a2
  have bP : τ2.at b.idP = some (za3o [] (rows.flatMap ac.cells)) := by rw [e2,jj (by omega)]; exact aP
  have lk2 : τ2.lock = τ.lock := by rw [e2]; exact lk1
  refine keyed_2 b _ τ.next (τ.next + 1) hL hn r _ rows [] τ2 hbn.symm hr b1 bP (by omega) (by omega) (by omega) (by omega) (by omega) ?_
  obtain ⟨τ3,e3⟩ : ∃ τ3,τ3 = τ2.put b.idP (zapr r) := ⟨_,rfl⟩
  rw [← e3]
  have n3 : τ3.next = τ.next + 2 := by rw [e3,az,n2]
  have c1 : τ3.at τ.next = some (b.ob (kcS lr)) := by rw [e3,jj (by omega)]; exact b1
  have c2 : τ3.at (τ.next + 1) = some z := by rw [e3,jj (by omega)]; exact b2
  have lk3 : τ3.lock = τ.lock := by rw [e3]; exact lk2
  have cu3 : ∀ x : Ob,(τ3.put (τ.next + 1) x).cut τ.next = τ.put b.idP (zapr r) := fun x => by
    have q : (τ3.put (τ.next + 1) x).cut τ.next = τ3.cut τ.next := zatw (by omega)
    rw [q,e3,cut_put hP,e2,zatw (Nat.le_refl _),cu]
  have P4 : τ.next < τ2.next := by omega
  have P5 : τ.next + 1 < τ2.next := by omega
  have P6 : τ.next < τ3.next := by omega
  have P7 : τ.next + 1 < τ3.next := by omega
  have l3 : τ3.lock ≤ τ.next + 1 := by omega
  have P8 : b.idP < τ.next + 2 := by omega
  have ct : τ3.cut τ2.next = τ3 := zavs (by omega)
  cases lr with
  | nil =>
    rw [show kcS [] = .slz from rfl] at c1
    simp -implicitDefEqProofs only [TT,Ic.t,Ic.ci,Nat.reduceEqDiff,reduceIte,Nat.reduceAdd,Nat.reduceMul,Nat.reduceLT,Nat.reduceLeDiff,Nat.reduceSub,reduceCtorEq,Int.reduceEq,Int.reduceNe,Int.reduceToNat,Int.reduceLT,Int.reduceLE,Int.reduceNeg,P4,P5,P6,P7,P8,c1,c2,hz,SpB.ob,l3,cu3,hP,ct]
    exact hK
  | cons y ys =>
    rw [kcS_cons] at c1
    simp -implicitDefEqProofs only [TT,Ic.t,Ic.ci,Nat.reduceEqDiff,reduceIte,Nat.reduceAdd,Nat.reduceMul,Nat.reduceLT,Nat.reduceLeDiff,Nat.reduceSub,reduceCtorEq,Int.reduceEq,Int.reduceNe,Int.reduceToNat,Int.reduceLT,Int.reduceLE,Int.reduceNeg,P4,P5,P6,P7,P8,c1,c2,hz,SpB.ob,l3,cu3,hP,ct]
    exact hK
end Go.Proofs.Ytdcfoaafkppojaa
