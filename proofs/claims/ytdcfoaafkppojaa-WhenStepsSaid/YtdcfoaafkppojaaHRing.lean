/- handsellaw00.Ring by hand. -/
import Derived.Test.YtdcfoaafkppojaaHKeyed
set_option linter.unusedVariables false
set_option linter.unusedSimpArgs false
set_option linter.unusedSectionVars false
namespace Go.Proofs.Ytdcfoaafkppojaa
open Go Go.RowKit Sh Ic
def bare (l : List ByteArray) : List S_api_Party := l.map fun a => ⟨a,[]⟩
def partOb (l : List S_api_Party) : Ob := ⟨T_api_Party,l.flatMap S_api_Party.cells⟩
theorem partOb_app (l : List ByteArray) (a : ByteArray) : (⟨T_api_Party,(bare l).flatMap S_api_Party.cells ++ [.str a,.sl []]⟩ : Ob) = partOb (bare (l ++ [a])) := by
  unfold partOb bare; rw [List.map_append,List.flatMap_append]; rfl
theorem bare_len (l : List ByteArray) : (bare l).length = l.length := List.length_map ..
def ringB (arcs : List TV) (start delta : Int) (idP n : Nat) : SpB := ⟨⟨#[114,105,110,103]⟩,idP,n,arcs,[.int .i64 0],start,delta⟩
def ring0 (arcs : List TV) (start delta : Int) : Ob := ⟨T_api_Spec,[.str ⟨#[114,105,110,103]⟩,.slz,.sl arcs,.sl [.int .i64 0],.slz,.int .i64 start,.int .i64 delta]⟩
inductive RingL (arcs : List TV) (start delta : Int) (τ0 τ : TH) (id6 id7 B : Nat) : List ByteArray → Prop
  | nil (ha : τ.at id7 = some (ring0 arcs start delta)) : RingL arcs start delta τ0 τ id6 id7 B []
  | obj (idP : Nat) (l : List ByteArray) (hne : l.length ≠ 0) (h0 : τ0.next ≤ idP) (hB : B ≤ idP) (h6 : id6 < idP) (h1 : idP < id7) (ha : τ.at id7 = some ((ringB arcs start delta idP l.length).ob .slz)) (hp : τ.at idP = some (partOb (bare l))) : RingL arcs start delta τ0 τ id6 id7 B l
section
variable {τ : TH} {k : Nat} {a b : Ob}
theorem two_next (hn : τ.next = k) : ((τ.push a).push b).next = k + 2 := by rw [next_push,next_push,hn]
theorem two_at0 (hn : τ.next = k) : ((τ.push a).push b).at k = some a := by rw [at_pushN (by rw [next_push]; omega),← hn]; exact at_push
theorem two_at1 (hn : τ.next = k) : ((τ.push a).push b).at (k + 1) = some b := by rw [← hn,← next_push (b := a)]; exact at_push
theorem two_at {j : Nat} (hj : j < τ.next) : ((τ.push a).push b).at j = τ.at j := by rw [at_pushN (by rw [next_push]; omega),at_pushN hj]
end
set_option maxHeartbeats 1000000 in
theorem ring_1 (n : Nat) (hn : n ≤ 6) (arcs : List TV) (start delta : Int) (z6 : Ob) (id6 : Nat) (τ0 : TH) (hl0 : τ0.lock ≤ τ0.next) (r : List ByteArray) (h6 : τ0.next ≤ id6) (B : Nat) (Q : TEx → TCont) (m : Nat) : ∀ (i : Nat) (l : List ByteArray) (id7 : Nat) (τ : TH),m + i = n → l.length = i → listO handsellaw00_Account_f m i l = some r → Grown τ0 τ → RingL arcs start delta τ0 τ id6 id7 B l → τ0.next ≤ id7 → id7 < τ.next → id6 < id7 → τ.at id6 = some z6 → B ≤ τ.next →
    (∀ id7 τ,Grown τ0 τ → RingL arcs start delta τ0 τ id6 id7 B r → τ0.next ≤ id7 → id7 < τ.next → id6 < id7 → τ.at id6 = some z6 → Q (.exit 0) [(0,.int .i64 n),(6,.ptr id6 0),(7,.ptr id7 0),(8,.int .i64 n),(17,.bool false)] [] τ) →
    tW G (.loop [0,6,7,8] l_handsellaw00_Ring_1) Q [(0,.int .i64 n),(6,.ptr id6 0),(7,.ptr id7 0),(8,.int .i64 (i : Int))] [] τ := by
  induction m with
  | zero =>
    intro i l id7 τ hi hl hr hg hv h07 h7 h67 ha6 hBn hQ
    obtain rfl : i = n := by omega
    injection hr with hr
    subst hr
    have c : ¬ (i : Int) < (i : Int) := by omega
    refine tW_lp fun LQ hnx hr he => ?_
    simp -implicitDefEqProofs only [l_handsellaw00_Ring_1,U_handsellaw00_Ring,TT,Ic.t,Ic.ci,Nat.reduceEqDiff,reduceIte,Nat.reduceAdd,Nat.reduceMul,Nat.reduceLT,Nat.reduceLeDiff,Nat.reduceSub,reduceCtorEq,Int.reduceEq,Int.reduceNe,Int.reduceToNat,Int.reduceLT,Int.reduceLE,Int.reduceNeg,c,he]
    exact hQ _ _ hg hv h07 h7 h67 ha6
  | succ m ih =>
    intro i l id7 τ hi hl hr hg hv h07 h7 h67 ha6 hBn hQ
    obtain ⟨x,hx,hr⟩ := ob hr
    have c : (i : Int) < (n : Int) := by omega
    have w1 : IntKind.i64.wrap ((i : Int) + 1) = ((i + 1 : Nat) : Int) := by rw [wA (by omega) (by omega)]; omega
    have hlk : τ.lock ≤ τ.next := by have := hg.lock; have := hg.next; omega
    have k1 := handsellaw00_Account_f_k _ _ hx
    have lt1 : ¬ τ.next + 1 < τ.next := by omega
    have l1 : τ.lock ≤ τ.next + 1 := by omega
    have h67n : ¬ id6 = id7 := by omega
    have hw7 : τ.lock ≤ id7 := by have := hg.lock; omega
    refine tW_lp fun LQ hnx hrr he => ?_
    cases hv with
    | nil ha =>
      simp -implicitDefEqProofs only [l_handsellaw00_Ring_1,U_handsellaw00_Ring,TT,Ic.t,Ic.ci,Nat.reduceEqDiff,reduceIte,Nat.reduceAdd,Nat.reduceMul,Nat.reduceLT,Nat.reduceLeDiff,Nat.reduceSub,reduceCtorEq,Int.reduceEq,Int.reduceNe,Int.reduceToNat,Int.reduceLT,Int.reduceLE,Int.reduceNeg,c,w1,hrr,ha,ring0,h7,hlk,hw7,k1]
      refine ⟨by unfold maxLen; omega,G_lift (h := ?_) ..⟩
      simp -implicitDefEqProofs only [TT,Ic.t,Ic.ci,Nat.reduceEqDiff,reduceIte,Nat.reduceAdd,Nat.reduceMul,Nat.reduceLT,Nat.reduceLeDiff,Nat.reduceSub,reduceCtorEq,Int.reduceEq,Int.reduceNe,Int.reduceToNat,Int.reduceLT,Int.reduceLE,Int.reduceNeg,ha,ring0,h7,hw7,next_push,at_pushN h7,h67n,lt1,l1,w1,Bool.and_false,Bool.false_eq_true]
      rw [hnx]
      simp -implicitDefEqProofs only [TT,Ic.t,Ic.ci,Nat.reduceEqDiff,reduceIte,Nat.reduceAdd,Nat.reduceMul,Nat.reduceLT,Nat.reduceLeDiff,Nat.reduceSub,reduceCtorEq,Int.reduceEq,Int.reduceNe,Int.reduceToNat,Int.reduceLT,Int.reduceLE,Int.reduceNeg,lt1,List.flatMap_cons,List.flatMap_nil,List.append_nil,Bool.and_false,Bool.false_eq_true]
      have g1 := ((hg.put h07 ⟨T_api_Spec,[]⟩).push (partOb (bare [x]))).push ((ringB arcs start delta τ.next 1).ob .slz)
      have q := ih (i + 1) [x] (τ.next + 1) _ (by omega) (by simp at hl ⊢; omega) hr g1 (.obj τ.next [x] (by simp) hg.next hBn (by omega) (by omega) (two_at1 next_put) (two_at0 next_put)) (by have := hg.next; omega) (by rw [two_next next_put]; omega) (by omega)
        (by rw [two_at (by rw [next_put]; omega),at_put_ne (by omega)]; exact ha6) (by first | (rw [two_next next_put]; omega) | (rw [two_next nn]; omega)) hQ
      exact q
    | obj idP l hne h0 hB h6P h1 ha hp =>
      have m1 : l.length + 1 ≤ maxLen := by unfold maxLen; omega
      have m2 : (l.length + 1) * 40 ≤ 140737488355328 := by omega
      have f2 : ((bare l).flatMap S_api_Party.cells).length = l.length * 2 := by rw [fm_len (k := 2) (fun _ => rfl),bare_len]
      have hwP : τ.lock ≤ idP := by have := hg.lock; omega
      have hPn : idP < τ.next := by omega
      have e7 : (τ.put idP ⟨T_api_Party,[]⟩).at id7 = some ((ringB arcs start delta idP l.length).ob .slz) := by rw [at_put_ne (by omega)]; exact ha
      simp -implicitDefEqProofs only [l_handsellaw00_Ring_1,U_handsellaw00_Ring,TT,Ic.t,Ic.ci,Nat.reduceEqDiff,reduceIte,Nat.reduceAdd,Nat.reduceMul,Nat.reduceLT,Nat.reduceLeDiff,Nat.reduceSub,reduceCtorEq,Int.reduceEq,Int.reduceNe,Int.reduceToNat,Int.reduceLT,Int.reduceLE,Int.reduceNeg,c,w1,hrr,ha,hp,partOb,ringB,SpB.ob,h7,hlk,hw7,hwP,k1,m1,m2,f2,hne]
      refine G_lift (h := ?_) ..
      simp -implicitDefEqProofs only [TT,Ic.t,Ic.ci,Nat.reduceEqDiff,reduceIte,Nat.reduceAdd,Nat.reduceMul,Nat.reduceLT,Nat.reduceLeDiff,Nat.reduceSub,reduceCtorEq,Int.reduceEq,Int.reduceNe,Int.reduceToNat,Int.reduceLT,Int.reduceLE,Int.reduceNeg,e7,ringB,SpB.ob,h7,hw7,next_push,at_pushN h7,h67n,lt1,l1,w1,Bool.and_false,Bool.false_eq_true]
      rw [hnx]
      simp -implicitDefEqProofs only [TT,Ic.t,Ic.ci,Nat.reduceEqDiff,reduceIte,Nat.reduceAdd,Nat.reduceMul,Nat.reduceLT,Nat.reduceLeDiff,Nat.reduceSub,reduceCtorEq,Int.reduceEq,Int.reduceNe,Int.reduceToNat,Int.reduceLT,Int.reduceLE,Int.reduceNeg,lt1,List.flatMap_cons,List.flatMap_nil,List.append_nil,Bool.and_false,Bool.false_eq_true]
      rw [partOb_app]
      have g1 := (((hg.put h0 ⟨T_api_Party,[]⟩).put h07 ⟨T_api_Spec,[]⟩).push (partOb (bare (l ++ [x])))).push ((ringB arcs start delta τ.next (l.length + 1)).ob .slz)
      have nn : ((τ.put idP ⟨T_api_Party,[]⟩).put id7 ⟨T_api_Spec,[]⟩).next = τ.next := by rw [next_put,next_put]
      have q := ih (i + 1) (l ++ [x]) (τ.next + 1) _ (by omega) (by rw [List.length_append,hl]; rfl) hr g1 (.obj τ.next (l ++ [x]) (by simp) hg.next hBn (by omega) (by omega) (by rw [List.length_append]; exact two_at1 nn) (two_at0 nn)) (by have := hg.next; omega) (by rw [two_next nn]; omega) (by omega)
        (by rw [two_at (by rw [nn]; omega),at_put_ne (by omega),at_put_ne (by omega)]; exact ha6) (by first | (rw [two_next next_put]; omega) | (rw [two_next nn]; omega)) hQ
      exact q
theorem tfzL_app {f : TV → Option TV} : ∀ {l k l' k' : List TV},tfzL f l = some l' → tfzL f k = some k' → tfzL f (l ++ k) = some (l' ++ k')
  | [],k,l',k',h,h2 => by injection h with h; subst h; exact h2
  | v :: r,k,l',k',h,h2 => by
    simp only [tfzL] at h
    cases hv : f v with
    | none => rw [hv] at h; cases h
    | some x =>
      rw [hv] at h
      cases hr : tfzL f r with
      | none => rw [hr] at h; cases h
      | some y =>
        rw [hr] at h
        injection h with h
        subst h
        have := tfzL_app hr h2
        simp only [List.cons_append,tfzL,hv,this]
theorem tfzL_fm {α : Type} {f : TV → Option TV} {c c' : α → List TV} (h : ∀ x,tfzL f ((c x).map TV.rd) = some (c' x)) : ∀ l : List α,tfzL f ((l.flatMap c).map TV.rd) = some (l.flatMap c')
  | [] => rfl
  | x :: r => by rw [List.flatMap_cons,List.map_append,List.flatMap_cons]; exact tfzL_app (h x) (tfzL_fm h r)
theorem fz_list2 {α : Type} {c c' : α → List TV} {k : Nat} {e : α → TV} (hk : k ≠ 0) (hc : ∀ x,(c x).length = k) (hc' : ∀ x,(c' x).length = k) (he : ∀ x,elem (c' x) = e x) (τ : TH) (n0 id m : Nat) (t : TypeId) (l : List α) (h0 : n0 ≤ id) (ha : τ.at id = some ⟨t,l.flatMap c⟩) (hl : l.length = m)
    (hf : ∀ x,tfzL (tfzS τ n0 1) ((c x).map TV.rd) = some (c' x)) : tfzS τ n0 2 (.slm id 0 m k) = some (.sl (l.map e)) := by
  subst hl
  have tr : trow τ id 0 (l.length * k) = some ((l.flatMap c).map TV.rd) := by
    unfold trow
    rw [ha]
    simp only [Option.bind_some,fm_len hc,Nat.zero_add,Nat.le_refl,if_true,List.drop_zero,fm_take hc]
  have n1 : ¬ (k = 0 ∨ id < n0) := by omega
  show (if k = 0 ∨ id < n0 then none else (trow τ id 0 (l.length * k)).bind fun l' => (tfzL (tfzS τ n0 1) l').map fun l' => TV.sl (chunks k l.length l')) = _
  rw [if_neg n1,tr,Option.bind_some,tfzL_fm hf l,Option.map_some,fm_chunks hc' he]
theorem fz_rows (τ : TH) (n0 id m : Nat) (l : List S_api_Party) (h0 : n0 ≤ id) (ha : τ.at id = some (rowOb l)) (hl : l.length = m) : tfzS τ n0 2 (.slm id 0 m 2) = some (.sl (l.map S_api_Party.tv)) :=
  fz_list2 (c := kcells) (c' := S_api_Party.cells) (by decide) kc2 (fun _ => rfl) (fun _ => rfl) τ n0 id m _ l h0 ha hl fun x => by
    obtain ⟨a,ks⟩ := x
    cases ks <;> rfl
theorem listO_len (f : Int → Option ByteArray) (n : Nat) : ∀ (k : Nat) (l r : List ByteArray),listO f n k l = some r → r.length = l.length + n := by
  induction n with
  | zero => intro k l r h; injection h with h; subst h; rfl
  | succ n ih => intro k l r h; obtain ⟨x,_,h⟩ := ob h; rw [ih _ _ _ h,List.length_append]; simp; omega
theorem rowsO_len (L : Nat) (rest : List S_api_Party) : ∀ (i : Nat) (d r : List S_api_Party),rowsO L rest i d = some r → r.length = d.length + rest.length := by
  induction rest with
  | nil => intro i d r h; injection h with h; subst h; rfl
  | cons x rest ih => intro i d r h; obtain ⟨ks,_,h⟩ := ob h; rw [ih _ _ _ h,List.length_append]; simp; omega
theorem ring_Ru (n : Nat) (hn1 : 1 ≤ n) (hn : n ≤ 6) (start delta : Int) (al : List S_api_Arc) (accs lr : List ByteArray) (rows : List S_api_Party) (has : handsellaw00_arcs_f n 0 2 = some al) (hac : listO handsellaw00_Account_f n 0 [] = some accs) (hlr : listO lockO 1 0 [] = some lr) (hrows : rowsO 1 (bare accs) 0 [] = some rows)
    (τ : TH) (hl : τ.lock ≤ τ.next) : Ru G F_handsellaw00_Ring [.int .i64 n,.int .i64 start,.int .i64 delta] τ (.agg (S_api_Spec.cells ⟨⟨#[114,105,110,103]⟩,rows,al,[0],lr,start,delta⟩)) τ := by
  refine Ru_of fun K hK => ?_
  rw [tC_code g_handsellaw00_Ring (Nat.le_of_ble_eq_true rfl)]
  have l1 : τ.lock ≤ τ.next + 1 := by omega
  have l2 : τ.lock ≤ τ.next + 2 := by omega
  have k1 := handsellaw00_arcs_f_k _ _ _ _ has
  simp -implicitDefEqProofs only [U_handsellaw00_Ring,TT,Ic.t,Ic.ci,Nat.reduceEqDiff,reduceIte,Nat.reduceAdd,Nat.reduceMul,Nat.reduceLT,Nat.reduceLeDiff,Nat.reduceSub,reduceCtorEq,Int.reduceEq,Int.reduceNe,Int.reduceToNat,Int.reduceLT,Int.reduceLE,Int.reduceNeg,hl,l1,l2,k1]
  have c0 : (τ.push ⟨T_api_Spec,[.str ⟨#[]⟩,.slz,.slz,.slz,.slz,.int .i64 0,.int .i64 0]⟩).next = τ.next + 1 := next_push
  refine ring_1 n hn (al.map S_api_Arc.tv) start delta ⟨T_api_Spec,[.str ⟨#[]⟩,.slz,.slz,.slz,.slz,.int .i64 0,.int .i64 0]⟩ τ.next τ hl accs (Nat.le_refl _) (τ.next + 2) _ n 0 [] (τ.next + 1) _ rfl rfl hac (((Grown.refl τ).push _).push _) (.nil (two_at1 rfl)) (by omega) (by rw [two_next rfl]; omega) (by omega) (two_at0 rfl) (by rw [two_next rfl]; omega) ?_
  intro id7 τ1 hg1 hr1 h07 h71 h67 ha6
  have la : accs.length = n := by rw [listO_len _ _ _ _ _ hac]; simp
  cases hr1 with
  | nil ha => simp at la; omega
  | obj idP l hne h0 hB h6P h1 ha hp =>
    have lt7 : ¬ id7 < τ.next + 2 := by omega
    have hL : handsellaw00_arcs_f n 0 2 = some al := has
    have kr := fun (K : TCont) (fr : TF) (d : Option Nat) => callK_wr (Γ := G) (d := d) (K := K) (fr := fr) (tk := []) (keyed_Ru (ringB (al.map S_api_Arc.tv) start delta idP accs.length) [] (bare accs) rows lr (by show 1 ≤ 6; omega) (by show accs.length ≤ 20; omega) (by show accs.length = _; rw [bare_len]) hlr hrows τ1 (by have := hg1.lock; have := hg1.next; omega) hp (by show idP < _; omega) (by have := hg1.lock; show _ ≤ idP; omega)) (by simp -implicitDefEqProofs only [TT,Ic.t,Ic.ci,Nat.reduceEqDiff,reduceIte,Nat.reduceAdd,Nat.reduceMul,Nat.reduceLT,Nat.reduceLeDiff,Nat.reduceSub,reduceCtorEq,Int.reduceEq,Int.reduceNe,Int.reduceToNat,Int.reduceLT,Int.reduceLE,Int.reduceNeg,ringB,h1,show idP < τ1.next by omega])
    simp only [ringB] at kr
    simp -implicitDefEqProofs only [TT,Ic.t,Ic.ci,Nat.reduceEqDiff,reduceIte,Nat.reduceAdd,Nat.reduceMul,Nat.reduceLT,Nat.reduceLeDiff,Nat.reduceSub,reduceCtorEq,Int.reduceEq,Int.reduceNe,Int.reduceToNat,Int.reduceLT,Int.reduceLE,Int.reduceNeg,h71,lt7,ha,ringB,SpB.ob,kr]
    have hPn : idP < τ1.next := by omega
    have hb : (τ1.put idP (rowOb rows)).at τ.next = some ⟨T_api_Spec,[.str ⟨#[]⟩,.slz,.slz,.slz,.slz,.int .i64 0,.int .i64 0]⟩ := by rw [at_put_ne (by omega)]; exact ha6
    refine G_stlift (hz := rfl) (hb := hb) (hc := ⟨by show τ1.lock ≤ _; have := hg1.lock; omega,by simp⟩) (hx := fun v e => by cases e) (h := ?_) ..
    obtain ⟨τ2,e2⟩ : ∃ τ2,τ2 = (τ1.put idP (rowOb rows)).put τ.next ⟨T_api_Spec,[]⟩ := ⟨_,rfl⟩
    have n2 : τ2.next = τ1.next := by rw [e2,next_put,next_put]
    have hg2 : Grown τ τ2 := by rw [e2]; exact (hg1.put (by omega) _).put (Nat.le_refl _) _
    have aP : τ2.at idP = some (rowOb rows) := by rw [e2,at_put_ne (by omega)]; exact at_put hPn
    rw [← e2]
    have e3 : (τ1.put idP (rowOb rows)).next = τ2.next := by rw [n2,next_put]
    have lk2 : τ2.lock ≤ τ2.next := by have := hg2.lock; have := hg2.next; omega
    have hP2 : idP < τ2.next + 1 := by omega
    rw [e3]
    have rl : rows.length = accs.length := by rw [rowsO_len _ _ _ _ _ hrows,bare_len]; simp
    have fr : ∀ x,tfzS (τ2.push x) τ.next 2 (.slm idP 0 accs.length 2) = some (.sl (rows.map S_api_Party.tv)) := fun x => fz_rows _ _ _ _ _ h0 (by rw [at_pushN (by omega)]; exact aP) rl
    have cx : ∀ x,(τ2.push x).cut τ.next = τ := fun x => (hg2.push x).cut
    simp -implicitDefEqProofs only [TT,Ic.t,Ic.ci,Nat.reduceEqDiff,reduceIte,Nat.reduceAdd,Nat.reduceMul,Nat.reduceLT,Nat.reduceLeDiff,Nat.reduceSub,reduceCtorEq,Int.reduceEq,Int.reduceNe,Int.reduceToNat,Int.reduceLT,Int.reduceLE,Int.reduceNeg,lk2,hP2,fr,cx]
    exact hK
noncomputable def handsellaw00_Ring_f (n start delta : Int) : Option S_api_Spec := if 1 ≤ n ∧ n ≤ 6 then
  handsellaw00_arcs_f n 0 2 >>= fun al =>
  listO handsellaw00_Account_f n.toNat 0 [] >>= fun accs =>
  listO lockO 1 0 [] >>= fun lr =>
  rowsO 1 (bare accs) 0 [] >>= fun rows =>
  some ⟨⟨#[114,105,110,103]⟩,rows,al,[0],lr,start,delta⟩ else none
theorem handsellaw00_Ring_f_k (p1 p2 p3 : Int) (r : S_api_Spec) (h : handsellaw00_Ring_f p1 p2 p3 = some r) (lk : Bool) (d : Option Nat) (K : TCont) (fr : TF) (tk : TK) (τ : TH) (hl : τ.lock ≤ τ.next) : callK G lk F_handsellaw00_Ring [.int .i64 p1,.int .i64 p2,.int .i64 p3] d K fr tk τ = K (tput fr d (.agg (S_api_Spec.cells r))) tk τ := by
  obtain ⟨⟨h1,h2⟩,h⟩ := ifS h
  obtain ⟨al,a1,h⟩ := ob h
  obtain ⟨accs,a2,h⟩ := ob h
  obtain ⟨lr,a3,h⟩ := ob h
  obtain ⟨rows,a4,h⟩ := ob h
  injection h with h
  subst h
  obtain ⟨n,rfl⟩ : ∃ n : Nat,p1 = (n : Int) := ⟨p1.toNat,by omega⟩
  have hr := fun τ hl => ring_Ru n (by omega) (by omega) p2 p3 al accs lr rows a1 a2 a3 a4 τ hl
  exact callK_rdo (hr _ hl) (hr _ (Nat.le_refl _)) (by simp -implicitDefEqProofs only [TT,Ic.t,Ic.ci,Nat.reduceEqDiff,reduceIte,Nat.reduceAdd,Nat.reduceMul,Nat.reduceLT,Nat.reduceLeDiff,Nat.reduceSub,reduceCtorEq,Int.reduceEq,Int.reduceNe,Int.reduceToNat,Int.reduceLT,Int.reduceLE,Int.reduceNeg])
end Go.Proofs.Ytdcfoaafkppojaa
