/- handsellaw00.keyed by hand: locks and keys of a swap whose parties have none yet. -/
import Derived.Test.YtdcfoaafkppojaaHArcs
set_option linter.unusedVariables false
set_option linter.unusedSimpArgs false
set_option linter.unusedSectionVars false
namespace Go.Proofs.Ytdcfoaafkppojaa
open Go Go.RowKit Sh Ic
def kcS (l : List ByteArray) : TV := match l with | [] => .slz | x :: r => .slo T_string ((x :: r).map TV.str)
theorem kcS_app (l : List ByteArray) (x : ByteArray) : kcS (l ++ [x]) = .slo T_string (l.map TV.str ++ [.str x]) := by
  cases l with
  | nil => rfl
  | cons y r => show TV.slo T_string (List.map TV.str (y :: (r ++ [x]))) = _; simp
theorem kcS_cons (x : ByteArray) (r : List ByteArray) : kcS (x :: r) = .slo T_string (TV.str x :: r.map TV.str) := rfl
structure SpB where
  ID : ByteArray
  idP : Nat
  n : Nat
  arcs : List TV
  leaders : List TV
  start : Int
  delta : Int
def SpB.ob (b : SpB) (locks : TV) : Ob := ⟨T_api_Spec,[.str b.ID,.slm b.idP 0 b.n 2,.sl b.arcs,.sl b.leaders,locks,.int .i64 b.start,.int .i64 b.delta]⟩
def listO (f : Int → Option ByteArray) : Nat → Nat → List ByteArray → Option (List ByteArray)
  | 0,_,l => some l
  | n + 1,k,l => f (k : Int) >>= fun x => listO f n (k + 1) (l ++ [x])
noncomputable def lockO (k : Int) : Option ByteArray := handsellaw00_Secret_f k >>= handselref01_Sum_f
noncomputable def keyO (i k : Int) : Option ByteArray := handsellaw00_Seed_f i >>= fun s => handselref02_Public_f s k
theorem put_put (τ : TH) (id : Nat) (a b : Ob) : (τ.put id a).put id b = τ.put id b := by
  show TH.mk ((τ.o.set id a).set id b) τ.lock = TH.mk (τ.o.set id b) τ.lock
  rw [List.set_set]
theorem keyed_1 (b : SpB) (id1 id2 : Nat) (hL : b.leaders.length ≤ 6) (r : List ByteArray) (Q : TEx → TCont) (m : Nat) : ∀ (k : Nat) (ls : List ByteArray) (τ : TH),m + k = b.leaders.length → ls.length = k → listO lockO m k ls = some r →
    τ.at id1 = some (b.ob (kcS ls)) → id1 < τ.next → id2 < τ.next → τ.lock ≤ id1 → τ.lock ≤ τ.next → b.idP < τ.next →
    (Q (.exit 0) [(1,.ptr id1 0),(2,.ptr id2 0),(3,.int .i64 b.leaders.length),(11,.bool false)] [] (τ.put id1 (b.ob (kcS r)))) →
    tW G (.loop [1,2,3] l_handsellaw00_keyed_1) Q [(1,.ptr id1 0),(2,.ptr id2 0),(3,.int .i64 (k : Int))] [] τ := by
  induction m with
  | zero =>
    intro k ls τ hi hk hr ha h1 h2 hw hl hP hQ
    obtain rfl : k = b.leaders.length := by omega
    injection hr with hr
    subst hr
    rw [put_same ha] at hQ
    have c : ¬ (b.leaders.length : Int) < (b.leaders.length : Int) := by omega
    refine tW_lp fun LQ hnx hr he => ?_
    simp -implicitDefEqProofs only [l_handsellaw00_keyed_1,U_handsellaw00_keyed,TT,Ic.t,Ic.ci,Nat.reduceEqDiff,reduceIte,Nat.reduceAdd,Nat.reduceMul,Nat.reduceLT,Nat.reduceLeDiff,Nat.reduceSub,reduceCtorEq,Int.reduceEq,Int.reduceNe,Int.reduceToNat,Int.reduceLT,Int.reduceLE,Int.reduceNeg,c,he,ha,SpB.ob,h1]
    exact hQ
  | succ m ih =>
    intro k ls τ hi hk hr ha h1 h2 hw hl hP hQ
    obtain ⟨x,hx,hr⟩ := ob hr
    obtain ⟨s,hs,hx⟩ := ob hx
    have c : (k : Int) < (b.leaders.length : Int) := by omega
    have w1 : IntKind.i64.wrap ((k : Int) + 1) = ((k + 1 : Nat) : Int) := by rw [wA (by omega) (by omega)]; omega
    have k1 := handsellaw00_Secret_f_k _ _ hs
    have k2 := handselref01_Sum_f_k _ _ hx
    have m1 : ls.length + 1 ≤ maxLen := by unfold maxLen; omega
    have m2 : (ls.length + 1) * 16 ≤ 140737488355328 := by omega
    refine tW_lp fun LQ hnx hrr he => ?_
    cases ls with
    | nil =>
      have ha' : τ.at id1 = some (b.ob .slz) := ha
      simp -implicitDefEqProofs only [l_handsellaw00_keyed_1,U_handsellaw00_keyed,TT,Ic.t,Ic.ci,Nat.reduceEqDiff,reduceIte,Nat.reduceAdd,Nat.reduceMul,Nat.reduceLT,Nat.reduceLeDiff,Nat.reduceSub,reduceCtorEq,Int.reduceEq,Int.reduceNe,Int.reduceToNat,Int.reduceLT,Int.reduceLE,Int.reduceNeg,c,hrr,ha',SpB.ob,h1,h2,hw,hl,hP,w1,k1,k2,m1,m2]
      refine ⟨⟨by unfold maxLen; omega,by unfold maxLen; omega⟩,?_⟩
      rw [hnx]
      simp -implicitDefEqProofs only [TT,Ic.t,Ic.ci,Nat.reduceEqDiff,reduceIte,Nat.reduceAdd,Nat.reduceMul,Nat.reduceLT,Nat.reduceLeDiff,Nat.reduceSub,reduceCtorEq,Int.reduceEq,Int.reduceNe,Int.reduceToNat,Int.reduceLT,Int.reduceLE,Int.reduceNeg,h1,h2,hP]
      refine ih (k + 1) _ _ (by omega) (by simp at hk ⊢; omega) hr (by rw [at_put h1,kcS_app]; rfl) (by rw [next_put]; exact h1) (by rw [next_put]; exact h2) hw (by rw [next_put]; exact hl) (by rw [next_put]; exact hP) ?_
      rw [put_put]
      exact hQ
    | cons y ys =>
      have ha' : τ.at id1 = some (b.ob (.slo T_string (TV.str y :: ys.map TV.str))) := ha
      simp -implicitDefEqProofs only [l_handsellaw00_keyed_1,U_handsellaw00_keyed,TT,Ic.t,Ic.ci,Nat.reduceEqDiff,reduceIte,Nat.reduceAdd,Nat.reduceMul,Nat.reduceLT,Nat.reduceLeDiff,Nat.reduceSub,reduceCtorEq,Int.reduceEq,Int.reduceNe,Int.reduceToNat,Int.reduceLT,Int.reduceLE,Int.reduceNeg,c,hrr,ha',SpB.ob,h1,h2,hw,hl,hP,w1,k1,k2,m1,m2]
      simp only [List.length_cons] at m1 m2
      refine ⟨⟨by unfold maxLen; omega,allc (fun _ => rfl) _,by omega,by unfold maxLen; omega⟩,?_⟩
      rw [hnx]
      simp -implicitDefEqProofs only [TT,Ic.t,Ic.ci,Nat.reduceEqDiff,reduceIte,Nat.reduceAdd,Nat.reduceMul,Nat.reduceLT,Nat.reduceLeDiff,Nat.reduceSub,reduceCtorEq,Int.reduceEq,Int.reduceNe,Int.reduceToNat,Int.reduceLT,Int.reduceLE,Int.reduceNeg,h1,h2,hP]
      refine ih (k + 1) _ _ (by omega) (by simp at hk ⊢; omega) hr (by rw [at_put h1,kcS_app]; rfl) (by rw [next_put]; exact h1) (by rw [next_put]; exact h2) hw (by rw [next_put]; exact hl) (by rw [next_put]; exact hP) ?_
      rw [put_put]
      exact hQ
theorem fm_get {α : Type} {c : α → List TV} {k : Nat} (hc : ∀ x,(c x).length = k) {j : Nat} (hj : j < k) : ∀ (l : List α) (i : Nat) (h : i < l.length),(l.flatMap c)[i * k + j]? = (c l[i])[j]?
  | [],i,h => by simp at h
  | x :: r,0,h => by
    rw [List.flatMap_cons,Nat.zero_mul,Nat.zero_add,List.getElem?_append_left (by rw [hc]; exact hj)]
    rfl
  | x :: r,i + 1,h => by
    have := fm_get hc hj r i (by simpa using h)
    have a : (i + 1) * k + j = k + (i * k + j) := by rw [Nat.succ_mul]; omega
    rw [List.flatMap_cons,a,List.getElem?_append_right (by rw [hc]; omega),hc,Nat.add_sub_cancel_left,this]
    rfl
def kcells (p : S_api_Party) : List TV := [.str p.Account,kcS p.Keys]
theorem kc2 (p : S_api_Party) : (kcells p).length = 2 := rfl
def rowOb (l : List S_api_Party) : Ob := ⟨T_api_Party,l.flatMap kcells⟩
def rowT (l : List S_api_Party) (t : List TV) : Ob := ⟨T_api_Party,l.flatMap kcells ++ t⟩
theorem rowT_set (rows : List S_api_Party) (t : List TV) (i : Nat) (h : i < rows.length) (a : ByteArray) (k k' : List ByteArray) (hr : rows[i] = ⟨a,k⟩) : (⟨T_api_Party,(rows.flatMap kcells ++ t).set (i * 2 + 1) (kcS k')⟩ : Ob) = rowT (rows.set i ⟨a,k'⟩) t := by
  unfold rowT
  rw [List.set_append_left _ _ (by rw [fm_len kc2]; omega),fm_set kc2 (y := ⟨a,k'⟩) (by decide) rows i h (by rw [hr]; rfl)]
theorem rowT_nil (d r : List S_api_Party) (x : S_api_Party) : (⟨T_api_Party,(d.flatMap kcells ++ (x :: r).flatMap S_api_Party.cells).set (d.length * 2 + 1) .slz⟩ : Ob) = rowT (d ++ [⟨x.Account,[]⟩]) (r.flatMap S_api_Party.cells) := by
  unfold rowT
  rw [List.set_append_right _ _ (by rw [fm_len kc2]; omega),fm_len kc2,Nat.add_sub_cancel_left,List.flatMap_cons,List.flatMap_append,List.append_assoc]
  rfl
theorem at_put_ne {τ : TH} {id j : Nat} {b : Ob} (h : id ≠ j) : (τ.put id b).at j = τ.at j := by
  show (τ.o.set id b)[j]? = τ.o[j]?
  exact List.getElem?_set_ne h
set_option maxHeartbeats 1000000 in
theorem keyed_3 (b : SpB) (lk : TV) (id1 id2 i : Nat) (hi6 : i ≤ 100) (hib : i < b.n) (t : List TV) (hL : b.leaders.length ≤ 6) (a : ByteArray) (r : List ByteArray) (Q : TEx → TCont) (m : Nat) : ∀ (k : Nat) (ks : List ByteArray) (rows : List S_api_Party) (τ : TH) (hin : i < rows.length),rows[i] = ⟨a,ks⟩ → m + k = b.leaders.length → ks.length = k → listO (keyO i) m k ks = some r →
    τ.at id1 = some (b.ob lk) → τ.at b.idP = some (rowT rows t) → id1 < τ.next → id2 < τ.next → τ.lock ≤ b.idP → τ.lock ≤ τ.next → b.idP < id1 →
    (Q (.exit 4) [(1,.ptr id1 0),(2,.ptr id2 0),(4,.int .i64 (i : Int)),(5,.int .i64 b.leaders.length),(38,.bool false)] [] (τ.put b.idP (rowT (rows.set i ⟨a,r⟩) t))) →
    tW G (.loop [1,2,4,5] l_handsellaw00_keyed_3) Q [(1,.ptr id1 0),(2,.ptr id2 0),(4,.int .i64 (i : Int)),(5,.int .i64 (k : Int))] [] τ := by
  induction m with
  | zero =>
    intro k ks rows τ hin hrow hi hk hr ha hp h1 h2 hw hl hP hQ
    obtain rfl : k = b.leaders.length := by omega
    injection hr with hr
    subst hr
    have e : rows.set i ⟨a,ks⟩ = rows := by rw [← hrow]; exact List.set_getElem_self hin
    rw [e,put_same hp] at hQ
    have c : ¬ (b.leaders.length : Int) < (b.leaders.length : Int) := by omega
    refine tW_lp fun LQ hnx hr he => ?_
    simp -implicitDefEqProofs only [l_handsellaw00_keyed_3,U_handsellaw00_keyed,TT,Ic.t,Ic.ci,Nat.reduceEqDiff,reduceIte,Nat.reduceAdd,Nat.reduceMul,Nat.reduceLT,Nat.reduceLeDiff,Nat.reduceSub,reduceCtorEq,Int.reduceEq,Int.reduceNe,Int.reduceToNat,Int.reduceLT,Int.reduceLE,Int.reduceNeg,c,he,ha,SpB.ob,h1]
    exact hQ
  | succ m ih =>
    intro k ks rows τ hin hrow hi hk hr ha hp h1 h2 hw hl hP hQ
    obtain ⟨x,hx,hr⟩ := ob hr
    obtain ⟨s,hs,hx⟩ := ob hx
    have c : (k : Int) < (b.leaders.length : Int) := by omega
    have ci : (0 : Int) ≤ (i : Int) := by omega
    have cin : (i : Int) < (b.n : Int) := by omega
    have w1 : IntKind.i64.wrap ((k : Int) + 1) = ((k + 1 : Nat) : Int) := by rw [wA (by omega) (by omega)]; omega
    have k1 := handsellaw00_Seed_f_k _ _ hs
    have k2 := handselref02_Public_f_k _ _ _ hx
    have m1 : ks.length + 1 ≤ maxLen := by unfold maxLen; omega
    have m2 : (ks.length + 1) * 16 ≤ 140737488355328 := by omega
    have f2 : (rows.flatMap kcells ++ t).length = rows.length * 2 + t.length := by rw [List.length_append,fm_len kc2 rows]
    have o2 : i * 2 + 1 + 1 ≤ rows.length * 2 + t.length := by omega
    have ne : b.idP ≠ id1 := by omega
    have hPn : b.idP < τ.next := by omega
    have g := fm_get kc2 (j := 1) (by decide) rows i hin
    rw [hrow] at g
    have g : (rows.flatMap kcells ++ t)[i * 2 + 1]? = (kcells ⟨a,ks⟩)[1]? := by rw [List.getElem?_append_left (by rw [fm_len kc2 rows]; omega)]; exact g
    refine tW_lp fun LQ hnx hrr he => ?_
    cases ks with
    | nil =>
      have g' : (rows.flatMap kcells ++ t)[i * 2 + 1]? = some .slz := g
      simp -implicitDefEqProofs only [tPre_0,tPre_1,tPre_2,List.isEmpty_cons,tW_draw,tD,pnK,toldOf,List.filter_cons,List.filter_nil,List.filterMap_cons,List.filterMap_nil,staysTold,rdWhere,touch,freeOf,Ins.dsts,Ins.looks,I.ops,tmpsO,clsI,List.all_cons,List.all_nil,List.any_cons,List.any_nil,List.contains_cons,List.contains_nil,List.append_nil,List.nil_append,List.cons_append,Option.toList_some,Option.toList_none,Option.isSome_some,Option.isSome_none,Bool.and_true,Bool.true_and,Bool.and_false,Bool.false_and,Bool.or_false,Bool.false_or,Bool.or_true,Bool.true_or,Bool.not_false,Bool.not_true,and_true,true_and,and_false,false_and,Nat.reduceBEq,bne_iff_ne,l_handsellaw00_keyed_3,U_handsellaw00_keyed,TT,Ic.t,Ic.ci,Nat.reduceEqDiff,reduceIte,Nat.reduceAdd,Nat.reduceMul,Nat.reduceLT,Nat.reduceLeDiff,Nat.reduceSub,reduceCtorEq,Int.reduceEq,Int.reduceNe,Int.reduceToNat,Int.reduceLT,Int.reduceLE,Int.reduceNeg,c,ci,cin,hrr,ha,hp,g',SpB.ob,rowT,h1,h2,hw,hl,hPn,nq ne,w1,k1,k2,m1,m2,f2,o2]
      refine ⟨⟨by unfold maxLen; omega,by unfold maxLen; omega⟩,?_⟩
      rw [hnx]
      simp -implicitDefEqProofs only [TT,Ic.t,Ic.ci,Nat.reduceEqDiff,reduceIte,Nat.reduceAdd,Nat.reduceMul,Nat.reduceLT,Nat.reduceLeDiff,Nat.reduceSub,reduceCtorEq,Int.reduceEq,Int.reduceNe,Int.reduceToNat,Int.reduceLT,Int.reduceLE,Int.reduceNeg,h1,h2,hPn]
      have es := rowT_set rows t i hin a [] [x] hrow
      rw [show kcS [x] = .slo T_string [TV.str x] from rfl] at es
      rw [es]
      have hin' : i < (rows.set i ⟨a,[x]⟩).length := by rw [List.length_set]; exact hin
      refine ih (k + 1) [x] _ _ hin' (List.getElem_set_self ..) (by omega) (by simp at hk ⊢; omega) hr (by rw [at_put_ne (by omega)]; exact ha) (at_put hPn) (by rw [next_put]; exact h1) (by rw [next_put]; exact h2) hw (by rw [next_put]; exact hl) hP ?_
      rw [put_put,List.set_set]
      exact hQ
    | cons y ys =>
      have g' : (rows.flatMap kcells ++ t)[i * 2 + 1]? = some (.slo T_string (TV.str y :: ys.map TV.str)) := g
      simp -implicitDefEqProofs only [tPre_0,tPre_1,tPre_2,List.isEmpty_cons,tW_draw,tD,pnK,toldOf,List.filter_cons,List.filter_nil,List.filterMap_cons,List.filterMap_nil,staysTold,rdWhere,touch,freeOf,Ins.dsts,Ins.looks,I.ops,tmpsO,clsI,List.all_cons,List.all_nil,List.any_cons,List.any_nil,List.contains_cons,List.contains_nil,List.append_nil,List.nil_append,List.cons_append,Option.toList_some,Option.toList_none,Option.isSome_some,Option.isSome_none,Bool.and_true,Bool.true_and,Bool.and_false,Bool.false_and,Bool.or_false,Bool.false_or,Bool.or_true,Bool.true_or,Bool.not_false,Bool.not_true,and_true,true_and,and_false,false_and,Nat.reduceBEq,bne_iff_ne,l_handsellaw00_keyed_3,U_handsellaw00_keyed,TT,Ic.t,Ic.ci,Nat.reduceEqDiff,reduceIte,Nat.reduceAdd,Nat.reduceMul,Nat.reduceLT,Nat.reduceLeDiff,Nat.reduceSub,reduceCtorEq,Int.reduceEq,Int.reduceNe,Int.reduceToNat,Int.reduceLT,Int.reduceLE,Int.reduceNeg,c,ci,cin,hrr,ha,hp,g',SpB.ob,rowT,h1,h2,hw,hl,hPn,nq ne,w1,k1,k2,m1,m2,f2,o2]
      simp only [List.length_cons] at m1 m2
      refine ⟨⟨by unfold maxLen; omega,allc (fun _ => rfl) _,by omega,by unfold maxLen; omega⟩,?_⟩
      rw [hnx]
      simp -implicitDefEqProofs only [TT,Ic.t,Ic.ci,Nat.reduceEqDiff,reduceIte,Nat.reduceAdd,Nat.reduceMul,Nat.reduceLT,Nat.reduceLeDiff,Nat.reduceSub,reduceCtorEq,Int.reduceEq,Int.reduceNe,Int.reduceToNat,Int.reduceLT,Int.reduceLE,Int.reduceNeg,h1,h2,hPn]
      refine ⟨by rw [List.length_set,f2]; omega,?_⟩
      rw [List.set_set]
      have es := rowT_set rows t i hin a (y :: ys) (y :: ys ++ [x]) hrow
      rw [show kcS (y :: ys ++ [x]) = .slo T_string (TV.str y :: (ys.map TV.str ++ [TV.str x])) from kcS_app (y :: ys) x] at es
      rw [es]
      have hin' : i < (rows.set i ⟨a,y :: ys ++ [x]⟩).length := by rw [List.length_set]; exact hin
      refine ih (k + 1) (y :: ys ++ [x]) _ _ hin' (List.getElem_set_self ..) (by omega) (by simp at hk ⊢; omega) hr (by rw [at_put_ne (by omega)]; exact ha) (at_put hPn) (by rw [next_put]; exact h1) (by rw [next_put]; exact h2) hw (by rw [next_put]; exact hl) hP ?_
      rw [put_put,List.set_set]
      exact hQ
noncomputable def rowsO (L : Nat) : List S_api_Party → Nat → List S_api_Party → Option (List S_api_Party)
  | [],_,d => some d
  | x :: r,i,d => listO (keyO (i : Int)) L 0 [] >>= fun ks => rowsO L r (i + 1) (d ++ [⟨x.Account,ks⟩])
set_option maxHeartbeats 1000000 in
theorem keyed_2 (b : SpB) (lk : TV) (id1 id2 : Nat) (hL : b.leaders.length ≤ 6) (hn : b.n ≤ 20) (r : List S_api_Party) (Q : TEx → TCont) (rest : List S_api_Party) : ∀ (d : List S_api_Party) (τ : TH),rest.length + d.length = b.n → rowsO b.leaders.length rest d.length d = some r →
    τ.at id1 = some (b.ob lk) → τ.at b.idP = some (rowT d (rest.flatMap S_api_Party.cells)) → id1 < τ.next → id2 < τ.next → τ.lock ≤ b.idP → τ.lock ≤ τ.next → b.idP < id1 →
    (Q (.exit 2) [(1,.ptr id1 0),(2,.ptr id2 0),(4,.int .i64 b.n),(26,.bool false)] [] (τ.put b.idP (rowOb r))) →
    tW G (.loop [1,2,4] l_handsellaw00_keyed_2) Q [(1,.ptr id1 0),(2,.ptr id2 0),(4,.int .i64 (d.length : Int))] [] τ := by
  induction rest with
  | nil =>
    intro d τ hi hr ha hp h1 h2 hw hl hP hQ
    have hi : d.length = b.n := by simpa using hi
    injection hr with hr
    subst hr
    have hp : τ.at b.idP = some (rowOb d) := by rw [hp]; unfold rowT rowOb; rw [List.flatMap_nil,List.append_nil]
    rw [put_same hp] at hQ
    have c : ¬ (b.n : Int) < (b.n : Int) := by omega
    refine tW_lp fun LQ hnx hr he => ?_
    simp -implicitDefEqProofs only [l_handsellaw00_keyed_2,U_handsellaw00_keyed,TT,Ic.t,Ic.ci,Nat.reduceEqDiff,reduceIte,Nat.reduceAdd,Nat.reduceMul,Nat.reduceLT,Nat.reduceLeDiff,Nat.reduceSub,reduceCtorEq,Int.reduceEq,Int.reduceNe,Int.reduceToNat,Int.reduceLT,Int.reduceLE,Int.reduceNeg,c,he,ha,SpB.ob,h1,hi]
    exact hQ
  | cons x rest ih =>
    intro d τ hi hr ha hp h1 h2 hw hl hP hQ
    have hi : rest.length + d.length + 1 = b.n := by simp at hi; omega
    obtain ⟨ks,hks,hr⟩ := ob hr
    have c : (d.length : Int) < (b.n : Int) := by omega
    have ci : (0 : Int) ≤ (d.length : Int) := by omega
    have w1 : IntKind.i64.wrap ((d.length : Int) + 1) = ((d.length + 1 : Nat) : Int) := by rw [wA (by omega) (by omega)]; omega
    have f2 : (d.flatMap kcells ++ (x :: rest).flatMap S_api_Party.cells).length = b.n * 2 := by rw [List.length_append,fm_len kc2 d,fm_len (c := S_api_Party.cells) (k := 2) (fun _ => rfl),List.length_cons]; omega
    have o2 : d.length * 2 + 1 + 1 ≤ b.n * 2 := by omega
    have ne : b.idP ≠ id1 := by omega
    have hPn : b.idP < τ.next := by omega
    have es := rowT_nil d rest x
    refine tW_lp fun LQ hnx hrr he => ?_
    simp -implicitDefEqProofs only [l_handsellaw00_keyed_2,U_handsellaw00_keyed,TT,Ic.t,Ic.ci,Nat.reduceEqDiff,reduceIte,Nat.reduceAdd,Nat.reduceMul,Nat.reduceLT,Nat.reduceLeDiff,Nat.reduceSub,reduceCtorEq,Int.reduceEq,Int.reduceNe,Int.reduceToNat,Int.reduceLT,Int.reduceLE,Int.reduceNeg,c,ci,w1,hrr,ha,hp,SpB.ob,rowT,h1,h2,hw,hl,hPn,nq ne,f2,o2]
    rw [es]
    have hin' : d.length < (d ++ [(⟨x.Account,[]⟩ : S_api_Party)]).length := by simp
    refine keyed_3 b lk id1 id2 d.length (by omega) (by omega) _ hL x.Account ks _ b.leaders.length 0 [] _ _ hin' (by simp) rfl rfl hks (by rw [at_put_ne (by omega)]; exact ha) (at_put hPn) (by rw [next_put]; exact h1) (by rw [next_put]; exact h2) hw (by rw [next_put]; exact hl) hP ?_
    rw [put_put,List.set_append_right _ _ (Nat.le_refl _),Nat.sub_self,List.set_cons_zero]
    simp -implicitDefEqProofs only [TT,Ic.t,Ic.ci,Nat.reduceEqDiff,reduceIte,Nat.reduceAdd,Nat.reduceMul,Nat.reduceLT,Nat.reduceLeDiff,Nat.reduceSub,reduceCtorEq,Int.reduceEq,Int.reduceNe,Int.reduceToNat,Int.reduceLT,Int.reduceLE,Int.reduceNeg,w1,h1,h2,hPn]
    rw [hnx]
    simp -implicitDefEqProofs only [TT,Ic.t,Ic.ci,Nat.reduceEqDiff,reduceIte,Nat.reduceAdd,Nat.reduceMul,Nat.reduceLT,Nat.reduceLeDiff,Nat.reduceSub,reduceCtorEq,Int.reduceEq,Int.reduceNe,Int.reduceToNat,Int.reduceLT,Int.reduceLE,Int.reduceNeg,h1,h2,hPn]
    have el : (d ++ [(⟨x.Account,ks⟩ : S_api_Party)]).length = d.length + 1 := by simp
    have ih := ih (d ++ [⟨x.Account,ks⟩])
    rw [el] at ih
    refine ih _ (by omega) hr (by rw [at_put_ne (by omega)]; exact ha) (at_put hPn) (by rw [next_put]; exact h1) (by rw [next_put]; exact h2) hw (by rw [next_put]; exact hl) hP ?_
    rw [put_put]
    exact hQ
theorem at_pushN {τ : TH} {b : Ob} {id : Nat} (h : id < τ.next) : (τ.push b).at id = τ.at id := by
  show (τ.o ++ [b])[id]? = τ.o[id]?
  exact List.getElem?_append_left h
theorem cut_put_ge {τ : TH} {n id : Nat} {b : Ob} (h : n ≤ id) : (τ.put id b).cut n = τ.cut n := by
  show TH.mk ((τ.o.set id b).take n) τ.lock = TH.mk (τ.o.take n) τ.lock
  rw [List.take_set_of_le h]
theorem keyed_Ru (b : SpB) (L0 : List TV) (rows r : List S_api_Party) (lr : List ByteArray) (hL : b.leaders.length ≤ 6) (hn : b.n ≤ 20) (hbn : b.n = rows.length) (hlr : listO lockO b.leaders.length 0 [] = some lr) (hr : rowsO b.leaders.length rows 0 [] = some r)
    (τ : TH) (hl : τ.lock ≤ τ.next) (hp : τ.at b.idP = some (rowT [] (rows.flatMap S_api_Party.cells))) (hP : b.idP < τ.next) (hw : τ.lock ≤ b.idP) :
    Ru G F_handsellaw00_keyed [.agg [.str b.ID,.slm b.idP 0 b.n 2,.sl b.arcs,.sl b.leaders,.sl L0,.int .i64 b.start,.int .i64 b.delta]] τ (.agg [.str b.ID,.slm b.idP 0 b.n 2,.sl b.arcs,.sl b.leaders,.sl (lr.map TV.str),.int .i64 b.start,.int .i64 b.delta]) (τ.put b.idP (rowOb r)) := by
  refine Ru_of fun K hK => ?_
  rw [tC_code g_handsellaw00_keyed (Nat.le_of_ble_eq_true rfl)]
  have P1 : b.idP < τ.next + 1 := by omega
  have l1 : τ.lock ≤ τ.next + 1 := by omega
  have l2 : τ.lock ≤ τ.next + 2 := by omega
  simp -implicitDefEqProofs only [U_handsellaw00_keyed,TT,Ic.t,Ic.ci,Nat.reduceEqDiff,reduceIte,Nat.reduceAdd,Nat.reduceMul,Nat.reduceLT,Nat.reduceLeDiff,Nat.reduceSub,reduceCtorEq,Int.reduceEq,Int.reduceNe,Int.reduceToNat,Int.reduceLT,Int.reduceLE,Int.reduceNeg,hP,hl,hw,P1,l1,l2]
  obtain ⟨z,hz⟩ : ∃ z : Ob,z = ⟨T_api_Spec,[.str ⟨#[]⟩,.slz,.slz,.slz,.slz,.int .i64 0,.int .i64 0]⟩ := ⟨_,rfl⟩
  rw [← hz]
  obtain ⟨τ1,e1⟩ : ∃ τ1,τ1 = (τ.push (b.ob .slz)).push z := ⟨_,rfl⟩
  have n0 : (τ.push (b.ob .slz)).next = τ.next + 1 := next_push
  have n1 : τ1.next = τ.next + 2 := by rw [e1,next_push,n0]
  have a1 : τ1.at τ.next = some (b.ob .slz) := by rw [e1,at_pushN (by rw [n0]; omega)]; exact at_push
  have a2 : τ1.at (τ.next + 1) = some z := by rw [e1,← n0]; exact at_push
  have aP : τ1.at b.idP = some (rowT [] (rows.flatMap S_api_Party.cells)) := by rw [e1,at_pushN (by rw [n0]; omega),at_pushN hP]; exact hp
  have lk1 : τ1.lock = τ.lock := by rw [e1]; rfl
  have cu : τ1.cut τ.next = τ := by rw [e1]; exact (((Grown.refl τ).push _).push z).cut
  have eb : b.ob .slz = ⟨T_api_Spec,[.str b.ID,.slm b.idP 0 b.n 2,.sl b.arcs,.sl b.leaders,.slz,.int .i64 b.start,.int .i64 b.delta]⟩ := rfl
  rw [← eb,← e1]
  refine keyed_1 b τ.next (τ.next + 1) hL lr _ b.leaders.length 0 [] τ1 rfl rfl hlr a1 (by omega) (by omega) (by omega) (by omega) (by omega) ?_
  have P2 : τ.next < τ1.next := by omega
  have P3 : τ.next + 1 < τ1.next := by omega
  simp -implicitDefEqProofs only [TT,Ic.t,Ic.ci,Nat.reduceEqDiff,reduceIte,Nat.reduceAdd,Nat.reduceMul,Nat.reduceLT,Nat.reduceLeDiff,Nat.reduceSub,reduceCtorEq,Int.reduceEq,Int.reduceNe,Int.reduceToNat,Int.reduceLT,Int.reduceLE,Int.reduceNeg,P2,P3]
  obtain ⟨τ2,e2⟩ : ∃ τ2,τ2 = τ1.put τ.next (b.ob (kcS lr)) := ⟨_,rfl⟩
  rw [← e2]
  have n2 : τ2.next = τ.next + 2 := by rw [e2,next_put,n1]
  have b1 : τ2.at τ.next = some (b.ob (kcS lr)) := by rw [e2]; exact at_put (by omega)
  have b2 : τ2.at (τ.next + 1) = some z := by rw [e2,at_put_ne (by omega)]; exact a2
  have bP : τ2.at b.idP = some (rowT [] (rows.flatMap S_api_Party.cells)) := by rw [e2,at_put_ne (by omega)]; exact aP
  have lk2 : τ2.lock = τ.lock := by rw [e2]; exact lk1
  refine keyed_2 b _ τ.next (τ.next + 1) hL hn r _ rows [] τ2 hbn.symm hr b1 bP (by omega) (by omega) (by omega) (by omega) (by omega) ?_
  obtain ⟨τ3,e3⟩ : ∃ τ3,τ3 = τ2.put b.idP (rowOb r) := ⟨_,rfl⟩
  rw [← e3]
  have n3 : τ3.next = τ.next + 2 := by rw [e3,next_put,n2]
  have c1 : τ3.at τ.next = some (b.ob (kcS lr)) := by rw [e3,at_put_ne (by omega)]; exact b1
  have c2 : τ3.at (τ.next + 1) = some z := by rw [e3,at_put_ne (by omega)]; exact b2
  have lk3 : τ3.lock = τ.lock := by rw [e3]; exact lk2
  have cu3 : ∀ x : Ob,(τ3.put (τ.next + 1) x).cut τ.next = τ.put b.idP (rowOb r) := fun x => by
    have q : (τ3.put (τ.next + 1) x).cut τ.next = τ3.cut τ.next := cut_put_ge (by omega)
    rw [q,e3,cut_put hP,e2,cut_put_ge (Nat.le_refl _),cu]
  have P4 : τ.next < τ2.next := by omega
  have P5 : τ.next + 1 < τ2.next := by omega
  have P6 : τ.next < τ3.next := by omega
  have P7 : τ.next + 1 < τ3.next := by omega
  have l3 : τ3.lock ≤ τ.next + 1 := by omega
  have P8 : b.idP < τ.next + 2 := by omega
  have ct : τ3.cut τ2.next = τ3 := cut_all (by omega)
  cases lr with
  | nil =>
    rw [show kcS [] = .slz from rfl] at c1
    simp -implicitDefEqProofs only [TT,Ic.t,Ic.ci,Nat.reduceEqDiff,reduceIte,Nat.reduceAdd,Nat.reduceMul,Nat.reduceLT,Nat.reduceLeDiff,Nat.reduceSub,reduceCtorEq,Int.reduceEq,Int.reduceNe,Int.reduceToNat,Int.reduceLT,Int.reduceLE,Int.reduceNeg,P4,P5,P6,P7,P8,c1,c2,hz,SpB.ob,l3,cu3,hP,ct]
    exact hK
  | cons y ys =>
    rw [kcS_cons] at c1
    simp -implicitDefEqProofs only [TT,Ic.t,Ic.ci,Nat.reduceEqDiff,reduceIte,Nat.reduceAdd,Nat.reduceMul,Nat.reduceLT,Nat.reduceLeDiff,Nat.reduceSub,reduceCtorEq,Int.reduceEq,Int.reduceNe,Int.reduceToNat,Int.reduceLT,Int.reduceLE,Int.reduceNeg,P4,P5,P6,P7,P8,c1,c2,hz,SpB.ob,l3,cu3,hP,ct]
    exact hK
end Go.Proofs.Ytdcfoaafkppojaa
