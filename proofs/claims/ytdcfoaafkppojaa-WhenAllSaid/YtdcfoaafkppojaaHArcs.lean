/- handsellaw00.arcs by hand: a ring, some more arcs, each on its ledger. -/
import Derived.Test.YtdcfoaafkppojaaD5
import Derived.IntWalk
set_option linter.unusedVariables false
set_option linter.unusedSimpArgs false
set_option linter.unusedSectionVars false
namespace Go.Proofs.Ytdcfoaafkppojaa
open Go Go.RowKit Sh Ic
theorem wA {n : Int} (h1 : -9223372036854775808 ≤ n) (h2 : n ≤ 9223372036854775807) : IntKind.i64.wrap n = n := IntWalk.i64_in n ⟨h1,h2⟩
theorem vo {α : Type} {c : α → List TV} {k : Nat} (hc : ∀ x,(c x).length = k) : ∀ l : List α,(l.flatMap c).length = l.length * k
  | [] => by simp
  | x :: r => by rw [List.flatMap_cons,List.length_append,hc,vo hc r,List.length_cons,Nat.succ_mul,Nat.add_comm]
theorem zay4 {α : Type} {c : α → List TV} {k : Nat} (hc : ∀ x,(c x).length = k) {j : Nat} (hj : j < k) {v : TV} {y : α} : ∀ (l : List α) (i : Nat) (h : i < l.length),c y = (c l[i]).set j v → (l.flatMap c).set (i * k + j) v = (l.set i y).flatMap c
  | [],i,h,_ => by simp at h
  | x :: r,0,h,e => by
    simp only [List.getElem_cons_zero] at e
    rw [List.flatMap_cons,List.set_cons_zero,List.flatMap_cons,e,Nat.zero_mul,Nat.zero_add,List.set_append_left _ _ (by rw [hc]; exact hj)]
  | x :: r,i + 1,h,e => by
    simp only [List.getElem_cons_succ] at e
    have := zay4 hc hj r i (by simpa using h) e
    have a : (i + 1) * k + j = k + (i * k + j) := by rw [Nat.succ_mul]; omega
    rw [List.flatMap_cons,List.set_cons_succ,List.flatMap_cons,a,List.set_append_right _ _ (by rw [hc]; omega),hc,Nat.add_sub_cancel_left,this]
theorem fm_take {α : Type} {c : α → List TV} {k : Nat} (hc : ∀ x,(c x).length = k) (l : List α) : (l.flatMap c).take (l.length * k) = l.flatMap c := by
  rw [List.take_of_length_le]; rw [vo hc]; exact Nat.le_refl _
theorem zaq3 {α : Type} {c : α → List TV} {k : Nat} (hc : ∀ x,(c x).length = k) {e : α → TV} (he : ∀ x,za57 (c x) = e x) : ∀ l : List α,yv k l.length (l.flatMap c) = l.map e
  | [] => rfl
  | x :: r => by
    rw [List.length_cons,yv,List.flatMap_cons,List.take_append_of_le_length (by rw [hc]; exact Nat.le_refl _),List.take_of_length_le (by rw [hc]; exact Nat.le_refl _),he,List.drop_append,List.drop_of_length_le (by rw [hc]; exact Nat.le_refl _),hc,Nat.sub_self,List.drop_zero,List.nil_append,zaq3 hc he r]
    rfl
structure tq (τ0 τ : TH) : Prop where
  lock : τ.lock = τ0.lock
  next : τ0.next ≤ τ.next
  cut : τ.cut τ0.next = τ0
theorem tq.refl (τ : TH) : tq τ τ := ⟨rfl,Nat.le_refl _,by unfold TH.cut TH.next; rw [List.take_length]⟩
theorem tq.push {τ0 τ : TH} (h : tq τ0 τ) (b : Ob) : tq τ0 (τ.push b) := by
  refine ⟨h.lock,?_,?_⟩
  · have := h.next
    show τ0.o.length ≤ (τ.o ++ [b]).length
    rw [List.length_append]
    exact Nat.le_trans this (Nat.le_add_right _ _)
  · rw [← h.cut]
    show TH.mk ((τ.o ++ [b]).take (TH.next (TH.cut τ τ0.next))) τ.lock = TH.mk (τ.o.take τ0.next) τ.lock
    rw [h.cut,List.take_append_of_le_length h.next]
theorem tq.put {τ0 τ : TH} (h : tq τ0 τ) {id : Nat} (hi : τ0.next ≤ id) (b : Ob) : tq τ0 (τ.put id b) := by
  refine ⟨h.lock,?_,?_⟩
  · show τ0.o.length ≤ (τ.o.set id b).length
    rw [List.length_set]; exact h.next
  · have e : (τ.o.set id b).take τ0.next = τ.o.take τ0.next := List.take_set_of_le hi
    have c := h.cut
    unfold TH.cut at c ⊢
    show TH.mk ((τ.o.set id b).take τ0.next) τ.lock = τ0
    rw [e]; exact c
theorem zah5 {τ : TH} {b : Ob} : (τ.push b).at τ.next = some b := by
  show (τ.o ++ [b])[τ.o.length]? = some b
  simp
theorem ep {τ : TH} {b : Ob} : (τ.push b).next = τ.next + 1 := by show (τ.o ++ [b]).length = _; simp [TH.next]
theorem az {τ : TH} {b : Ob} {id : Nat} : (τ.put id b).next = τ.next := by show (τ.o.set id b).length = _; simp [TH.next]
theorem za7i {τ : TH} {b b' : Ob} {id : Nat} : ((τ.put id b').push b).at τ.next = some b := by
  have := zah5 (τ := τ.put id b') (b := b)
  rwa [az] at this
theorem zag3 {τ : TH} {b : Ob} {id : Nat} (h : id < τ.next) : (τ.put id b).at id = some b := by
  show (τ.o.set id b)[id]? = some b
  exact List.getElem?_set_self h
def zari (l : List af) : Ob := ⟨ou,l.flatMap af.cells⟩
theorem arc5 (x : af) : (af.cells x).length = 5 := rfl
inductive ArcL (τ0 τ : TH) : TV → List af → Prop
  | nil : ArcL τ0 τ .slz []
  | obj (id n : Nat) (l : List af) (hn : l.length = n) (hne : n ≠ 0) (h0 : τ0.next ≤ id) (h1 : id < τ.next) (ha : τ.at id = some (zari l)) : ArcL τ0 τ (.slm id 0 n 5) l
def arcA (a b : Nat) : af := ⟨(a : Int),(b : Int),0,⟨#[]⟩,0⟩
def addR (n : Nat) : Nat → Nat → List af → List af
  | 0,_,l => l
  | k + 1,i,l => addR n k (i + 1) (l ++ [arcA i ((i + 1) % n)])
theorem zaku (l : List af) (a b : Nat) : (⟨ou,l.flatMap af.cells ++ [.int .i64 (a : Int),.int .i64 (b : Int),.int .i64 0,.str ⟨#[]⟩,.int .i64 0]⟩ : Ob) = zari (l ++ [arcA a b]) := by
  unfold zari; rw [List.flatMap_append]; rfl
theorem arcs_1 (n : Nat) (hn : n ≤ 6) (bits led : Int) (τ0 : TH) (hl0 : τ0.lock ≤ τ0.next) (Q : TEx → au) (k : Nat) : ∀ (i : Nat) (l : List af) (v : TV) (τ : TH),k + i = n → l.length = i → tq τ0 τ → ArcL τ0 τ v l →
    (∀ v τ,tq τ0 τ → ArcL τ0 τ v (addR n k i l) → Q (.exit 0) [(0,.int .i64 n),(1,.int .i64 bits),(2,.int .i64 led),(7,v),(8,.int .i64 n),(14,.bool false)] [] τ) →
    tW G (.loop [0,1,2,7,8] qr) Q [(0,.int .i64 n),(1,.int .i64 bits),(2,.int .i64 led),(7,v),(8,.int .i64 (i : Int))] [] τ := by
  induction k with
  | zero =>
    intro i l v τ hi hl hg hv hQ
    obtain rfl : i = n := by omega
    have c : ¬ (i : Int) < (i : Int) := by omega
    refine jm fun LQ hnx hr he => ?_
    cases hv with
    | nil =>
      simp -implicitDefEqProofs only [qr,cz,TT,Ic.t,Ic.ci,Nat.reduceEqDiff,reduceIte,Nat.reduceAdd,Nat.reduceMul,Nat.reduceLT,Nat.reduceLeDiff,Nat.reduceSub,reduceCtorEq,Int.reduceEq,Int.reduceNe,Int.reduceToNat,Int.reduceLT,Int.reduceLE,Int.reduceNeg,c,he]
      exact hQ _ _ hg .nil
    | obj id m l hm hne h0 h1 ha =>
      simp -implicitDefEqProofs only [qr,cz,TT,Ic.t,Ic.ci,Nat.reduceEqDiff,reduceIte,Nat.reduceAdd,Nat.reduceMul,Nat.reduceLT,Nat.reduceLeDiff,Nat.reduceSub,reduceCtorEq,Int.reduceEq,Int.reduceNe,Int.reduceToNat,Int.reduceLT,Int.reduceLE,Int.reduceNeg,c,he]
      exact hQ _ _ hg (.obj id m l hm hne h0 h1 ha)
  | succ k ih =>
    intro i l v τ hi hl hg hv hQ
    have c : (i : Int) < (n : Int) := by omega
    have c0 : ¬ (n : Int) = 0 := by omega
    have w1 : IntKind.i64.wrap ((i : Int) + 1) = ((i + 1 : Nat) : Int) := by rw [wA (by omega) (by omega)]; omega
    have w2 : Int.tmod ((i + 1 : Nat) : Int) (n : Int) = (((i + 1) % n : Nat) : Int) := by rw [Int.tmod_eq_emod_of_nonneg (by omega)]; omega
    have hlk : τ.lock ≤ τ.next := by have := hg.lock; have := hg.next; omega
    have lt : ¬ τ.next < τ.next := by omega
    refine jm fun LQ hnx hr he => ?_
    cases hv with
    | nil =>
      have e := zaku [] i ((i + 1) % n)
      simp only [List.flatMap_nil,List.nil_append] at e
      have m1 : 1 ≤ maxLen := by unfold maxLen; omega
      simp -implicitDefEqProofs only [qr,cz,TT,Ic.t,Ic.ci,Nat.reduceEqDiff,reduceIte,Nat.reduceAdd,Nat.reduceMul,Nat.reduceLT,Nat.reduceLeDiff,Nat.reduceSub,reduceCtorEq,Int.reduceEq,Int.reduceNe,Int.reduceToNat,Int.reduceLT,Int.reduceLE,Int.reduceNeg,c,c0,w1,w2,hr,m1]
      rw [hnx]
      simp -implicitDefEqProofs only [TT,Ic.t,Ic.ci,Nat.reduceEqDiff,reduceIte,Nat.reduceAdd,Nat.reduceMul,Nat.reduceLT,Nat.reduceLeDiff,Nat.reduceSub,reduceCtorEq,Int.reduceEq,Int.reduceNe,Int.reduceToNat,Int.reduceLT,Int.reduceLE,Int.reduceNeg,List.flatMap_cons,List.flatMap_nil,List.append_nil,lt,e]
      exact ih (i + 1) _ _ _ (by omega) (by simp at hl ⊢; omega) (hg.push _) (.obj τ.next 1 [arcA i ((i + 1) % n)] rfl (by omega) hg.next (by rw [ep]; omega) zah5) hQ
    | obj id m l hm hne h0 h1 ha =>
      have e := zaku l i ((i + 1) % n)
      have m1 : m + 1 ≤ maxLen := by unfold maxLen; omega
      have m2 : (m + 1) * 48 ≤ 140737488355328 := by omega
      have f5 : (l.flatMap af.cells).length = m * 5 := by rw [vo arc5,hm]
      have hw : τ.lock ≤ id := by have := hg.lock; omega
      simp -implicitDefEqProofs only [qr,cz,TT,Ic.t,Ic.ci,Nat.reduceEqDiff,reduceIte,Nat.reduceAdd,Nat.reduceMul,Nat.reduceLT,Nat.reduceLeDiff,Nat.reduceSub,reduceCtorEq,Int.reduceEq,Int.reduceNe,Int.reduceToNat,Int.reduceLT,Int.reduceLE,Int.reduceNeg,c,c0,w1,w2,hr,m1,m2,ha,zari,f5,hne,hw]
      rw [hnx]
      simp -implicitDefEqProofs only [TT,Ic.t,Ic.ci,Nat.reduceEqDiff,reduceIte,Nat.reduceAdd,Nat.reduceMul,Nat.reduceLT,Nat.reduceLeDiff,Nat.reduceSub,reduceCtorEq,Int.reduceEq,Int.reduceNe,Int.reduceToNat,Int.reduceLT,Int.reduceLE,Int.reduceNeg,List.flatMap_cons,List.flatMap_nil,List.append_nil,lt,e]
      exact ih (i + 1) _ _ _ (by omega) (by simp; omega) ((hg.put h0 _).push _) (.obj τ.next (m + 1) (l ++ [arcA i ((i + 1) % n)]) (by simp; omega) (by omega) hg.next (by rw [ep,az]; omega) za7i) hQ
def zacj (n a b : Nat) (s : List af × Nat) : List af × Nat :=
  if a = b ∨ b = (a + 1) % n then s else (if s.2 % 2 = 1 ∧ s.1.length < 8 then s.1 ++ [arcA a b] else s.1,s.2 / 2)
def za0l (n a : Nat) : Nat → Nat → List af × Nat → List af × Nat
  | 0,_,s => s
  | k + 1,b,s => za0l n a k (b + 1) (zacj n a b s)
def addA (n : Nat) : Nat → Nat → List af × Nat → List af × Nat
  | 0,_,s => s
  | k + 1,a,s => addA n k (a + 1) (za0l n a n 0 s)
theorem stepB_bd (n a b : Nat) (s : List af × Nat) : (zacj n a b s).1.length ≤ s.1.length + 1 ∧ (zacj n a b s).2 ≤ s.2 := by
  unfold zacj
  split
  · exact ⟨by omega,Nat.le_refl _⟩
  · refine ⟨?_,Nat.div_le_self _ _⟩
    show (if _ then _ else _ : List af).length ≤ _
    split
    · simp
    · omega
set_option maxHeartbeats 1000000 in
theorem arcs_3 (n a : Nat) (hn : n ≤ 6) (ha6 : a < n) (led : Int) (τ0 : TH) (hl0 : τ0.lock ≤ τ0.next) (Q : TEx → au) (k : Nat) : ∀ (b : Nat) (l : List af) (bits : Nat) (v : TV) (τ : TH),k + b = n → l.length ≤ 8 → bits ≤ 4294967296 → tq τ0 τ → ArcL τ0 τ v l →
    (∀ v τ,tq τ0 τ → ArcL τ0 τ v (za0l n a k b (l,bits)).1 → (za0l n a k b (l,bits)).1.length ≤ 8 → (za0l n a k b (l,bits)).2 ≤ 4294967296 → Q (.exit 4) [(0,.int .i64 n),(1,.int .i64 ((za0l n a k b (l,bits)).2 : Nat)),(2,.int .i64 led),(7,v),(9,.int .i64 (a : Int)),(10,.int .i64 n),(33,.bool false)] [] τ) →
    tW G (.loop [0,1,2,7,9,10] fj) Q [(0,.int .i64 n),(1,.int .i64 (bits : Int)),(2,.int .i64 led),(7,v),(9,.int .i64 (a : Int)),(10,.int .i64 (b : Int))] [] τ := by
  induction k with
  | zero =>
    intro b l bits v τ hi hl hb hg hv hQ
    obtain rfl : b = n := by omega
    have c : ¬ (b : Int) < (b : Int) := by omega
    refine jm fun LQ hnx hr he => ?_
    cases hv with
    | nil =>
      simp -implicitDefEqProofs only [fj,cz,TT,Ic.t,Ic.ci,Nat.reduceEqDiff,reduceIte,Nat.reduceAdd,Nat.reduceMul,Nat.reduceLT,Nat.reduceLeDiff,Nat.reduceSub,reduceCtorEq,Int.reduceEq,Int.reduceNe,Int.reduceToNat,Int.reduceLT,Int.reduceLE,Int.reduceNeg,c,he]
      exact hQ _ _ hg .nil hl hb
    | obj id m l hm hne h0 h1 ha =>
      simp -implicitDefEqProofs only [fj,cz,TT,Ic.t,Ic.ci,Nat.reduceEqDiff,reduceIte,Nat.reduceAdd,Nat.reduceMul,Nat.reduceLT,Nat.reduceLeDiff,Nat.reduceSub,reduceCtorEq,Int.reduceEq,Int.reduceNe,Int.reduceToNat,Int.reduceLT,Int.reduceLE,Int.reduceNeg,c,he]
      exact hQ _ _ hg (.obj id m l hm hne h0 h1 ha) hl hb
  | succ k ih =>
    intro b l bits v τ hi hl hb hg hv hQ
    have c : (b : Int) < (n : Int) := by omega
    have c0 : ¬ (n : Int) = 0 := by omega
    have w1 : IntKind.i64.wrap ((b : Int) + 1) = ((b + 1 : Nat) : Int) := by rw [wA (by omega) (by omega)]; omega
    have w0 : IntKind.i64.wrap ((a : Int) + 1) = ((a + 1 : Nat) : Int) := by rw [wA (by omega) (by omega)]; omega
    have w2 : Int.tmod ((a + 1 : Nat) : Int) (n : Int) = (((a + 1) % n : Nat) : Int) := by rw [Int.tmod_eq_emod_of_nonneg (by omega)]; omega
    have w3 : Int.tmod (bits : Int) 2 = ((bits % 2 : Nat) : Int) := by rw [Int.tmod_eq_emod_of_nonneg (by omega)]; omega
    have w4 : IntKind.i64.wrap (Int.tdiv (bits : Int) 2) = ((bits / 2 : Nat) : Int) := by rw [Int.tdiv_eq_ediv_of_nonneg (by omega),wA (by omega) (by omega)]; omega
    have hlk : τ.lock ≤ τ.next := by have := hg.lock; have := hg.next; omega
    have lt : ¬ τ.next < τ.next := by omega
    have go : zacj n a b (l,bits) = zacj n a b (l,bits) := rfl
    refine jm fun LQ hnx hr he => ?_
    by_cases x1 : (a : Int) = (b : Int)
    · have st : zacj n a b (l,bits) = (l,bits) := if_pos (.inl (by omega))
      have hQ' := hQ
      simp only [za0l,st] at hQ'
      cases hv with
      | nil =>
        simp -implicitDefEqProofs only [fj,cz,TT,Ic.t,Ic.ci,Nat.reduceEqDiff,reduceIte,Nat.reduceAdd,Nat.reduceMul,Nat.reduceLT,Nat.reduceLeDiff,Nat.reduceSub,reduceCtorEq,Int.reduceEq,Int.reduceNe,Int.reduceToNat,Int.reduceLT,Int.reduceLE,Int.reduceNeg,c,c0,w0,w1,w2,eq_true x1,hr]
        rw [hnx]
        simp -implicitDefEqProofs only [TT,Ic.t,Ic.ci,Nat.reduceEqDiff,reduceIte,Nat.reduceAdd,Nat.reduceMul,Nat.reduceLT,Nat.reduceLeDiff,Nat.reduceSub,reduceCtorEq,Int.reduceEq,Int.reduceNe,Int.reduceToNat,Int.reduceLT,Int.reduceLE,Int.reduceNeg,lt]
        exact ih (b + 1) _ _ _ _ (by omega) hl (by omega) hg .nil hQ'
      | obj id m l hm hne h0 h1 ha =>
        subst hm
        simp -implicitDefEqProofs only [fj,cz,TT,Ic.t,Ic.ci,Nat.reduceEqDiff,reduceIte,Nat.reduceAdd,Nat.reduceMul,Nat.reduceLT,Nat.reduceLeDiff,Nat.reduceSub,reduceCtorEq,Int.reduceEq,Int.reduceNe,Int.reduceToNat,Int.reduceLT,Int.reduceLE,Int.reduceNeg,c,c0,w0,w1,w2,eq_true x1,hr]
        rw [hnx]
        simp -implicitDefEqProofs only [TT,Ic.t,Ic.ci,Nat.reduceEqDiff,reduceIte,Nat.reduceAdd,Nat.reduceMul,Nat.reduceLT,Nat.reduceLeDiff,Nat.reduceSub,reduceCtorEq,Int.reduceEq,Int.reduceNe,Int.reduceToNat,Int.reduceLT,Int.reduceLE,Int.reduceNeg,lt,h1]
        exact ih (b + 1) _ _ _ _ (by omega) hl (by omega) hg (.obj id _ l rfl hne h0 h1 ha) hQ'
    · by_cases x2 : (b : Int) = (((a + 1) % n : Nat) : Int)
      · have st : zacj n a b (l,bits) = (l,bits) := if_pos (.inr (by omega))
        have hQ' := hQ
        simp only [za0l,st] at hQ'
        cases hv with
        | nil =>
          simp -implicitDefEqProofs only [fj,cz,TT,Ic.t,Ic.ci,Nat.reduceEqDiff,reduceIte,Nat.reduceAdd,Nat.reduceMul,Nat.reduceLT,Nat.reduceLeDiff,Nat.reduceSub,reduceCtorEq,Int.reduceEq,Int.reduceNe,Int.reduceToNat,Int.reduceLT,Int.reduceLE,Int.reduceNeg,c,c0,w0,w1,w2,x1,eq_true x2,hr]
          rw [hnx]
          simp -implicitDefEqProofs only [TT,Ic.t,Ic.ci,Nat.reduceEqDiff,reduceIte,Nat.reduceAdd,Nat.reduceMul,Nat.reduceLT,Nat.reduceLeDiff,Nat.reduceSub,reduceCtorEq,Int.reduceEq,Int.reduceNe,Int.reduceToNat,Int.reduceLT,Int.reduceLE,Int.reduceNeg,lt]
          exact ih (b + 1) _ _ _ _ (by omega) hl (by omega) hg .nil hQ'
        | obj id m l hm hne h0 h1 ha =>
          subst hm
          simp -implicitDefEqProofs only [fj,cz,TT,Ic.t,Ic.ci,Nat.reduceEqDiff,reduceIte,Nat.reduceAdd,Nat.reduceMul,Nat.reduceLT,Nat.reduceLeDiff,Nat.reduceSub,reduceCtorEq,Int.reduceEq,Int.reduceNe,Int.reduceToNat,Int.reduceLT,Int.reduceLE,Int.reduceNeg,c,c0,w0,w1,w2,x1,eq_true x2,hr]
          rw [hnx]
          simp -implicitDefEqProofs only [TT,Ic.t,Ic.ci,Nat.reduceEqDiff,reduceIte,Nat.reduceAdd,Nat.reduceMul,Nat.reduceLT,Nat.reduceLeDiff,Nat.reduceSub,reduceCtorEq,Int.reduceEq,Int.reduceNe,Int.reduceToNat,Int.reduceLT,Int.reduceLE,Int.reduceNeg,lt,h1]
          exact ih (b + 1) _ _ _ _ (by omega) hl (by omega) hg (.obj id _ l rfl hne h0 h1 ha) hQ'
      · have nx : ¬ (a = b ∨ b = (a + 1) % n) := by omega
        by_cases x3 : ((bits % 2 : Nat) : Int) = 1
        · by_cases x4 : (l.length : Int) < 8
          · have st : zacj n a b (l,bits) = (l ++ [arcA a b],bits / 2) := by
              unfold zacj
              rw [if_neg nx,if_pos ⟨by show bits % 2 = 1; omega,by show l.length < 8; omega⟩]
            have hQ' := hQ
            simp only [za0l,st] at hQ'
            cases hv with
            | nil =>
              have e := zaku [] a b
              simp only [List.flatMap_nil,List.nil_append] at e
              have m1 : 1 ≤ maxLen := by unfold maxLen; omega
              simp -implicitDefEqProofs only [fj,cz,TT,Ic.t,Ic.ci,Nat.reduceEqDiff,reduceIte,Nat.reduceAdd,Nat.reduceMul,Nat.reduceLT,Nat.reduceLeDiff,Nat.reduceSub,reduceCtorEq,Int.reduceEq,Int.reduceNe,Int.reduceToNat,Int.reduceLT,Int.reduceLE,Int.reduceNeg,c,c0,w0,w1,w2,w3,w4,x1,x2,eq_true x3,hr,m1]
              rw [hnx]
              simp -implicitDefEqProofs only [TT,Ic.t,Ic.ci,Nat.reduceEqDiff,reduceIte,Nat.reduceAdd,Nat.reduceMul,Nat.reduceLT,Nat.reduceLeDiff,Nat.reduceSub,reduceCtorEq,Int.reduceEq,Int.reduceNe,Int.reduceToNat,Int.reduceLT,Int.reduceLE,Int.reduceNeg,List.flatMap_cons,List.flatMap_nil,List.append_nil,lt,e]
              exact ih (b + 1) _ _ _ _ (by omega) (by simp) (by omega) (hg.push _) (.obj τ.next 1 [arcA a b] rfl (by omega) hg.next (by rw [ep]; omega) zah5) hQ'
            | obj id m l hm hne h0 h1 ha =>
              have e := zaku l a b
              subst hm
              have m1 : l.length + 1 ≤ maxLen := by unfold maxLen; omega
              have m2 : (l.length + 1) * 48 ≤ 140737488355328 := by omega
              have f5 : (l.flatMap af.cells).length = l.length * 5 := vo arc5 l
              have hw : τ.lock ≤ id := by have := hg.lock; omega
              simp -implicitDefEqProofs only [fj,cz,TT,Ic.t,Ic.ci,Nat.reduceEqDiff,reduceIte,Nat.reduceAdd,Nat.reduceMul,Nat.reduceLT,Nat.reduceLeDiff,Nat.reduceSub,reduceCtorEq,Int.reduceEq,Int.reduceNe,Int.reduceToNat,Int.reduceLT,Int.reduceLE,Int.reduceNeg,c,c0,w0,w1,w2,w3,w4,x1,x2,eq_true x3,x4,hr,m1,m2,ha,zari,f5,hne,hw]
              rw [hnx]
              simp -implicitDefEqProofs only [TT,Ic.t,Ic.ci,Nat.reduceEqDiff,reduceIte,Nat.reduceAdd,Nat.reduceMul,Nat.reduceLT,Nat.reduceLeDiff,Nat.reduceSub,reduceCtorEq,Int.reduceEq,Int.reduceNe,Int.reduceToNat,Int.reduceLT,Int.reduceLE,Int.reduceNeg,List.flatMap_cons,List.flatMap_nil,List.append_nil,lt,e]
              exact ih (b + 1) _ _ _ _ (by omega) (by simp; omega) (by omega) ((hg.put h0 _).push _) (.obj τ.next (l.length + 1) (l ++ [arcA a b]) (by simp) (by omega) hg.next (by rw [ep,az]; omega) za7i) hQ'
          · have st : zacj n a b (l,bits) = (l,bits / 2) := by
              unfold zacj
              rw [if_neg nx,if_neg (fun h => x4 (by have := h.2; show (l.length : Int) < 8; simp only at this; omega))]
            have hQ' := hQ
            simp only [za0l,st] at hQ'
            cases hv with
            | nil => exact (x4 (by simp)).elim
            | obj id m l hm hne h0 h1 ha =>
              subst hm
              simp -implicitDefEqProofs only [fj,cz,TT,Ic.t,Ic.ci,Nat.reduceEqDiff,reduceIte,Nat.reduceAdd,Nat.reduceMul,Nat.reduceLT,Nat.reduceLeDiff,Nat.reduceSub,reduceCtorEq,Int.reduceEq,Int.reduceNe,Int.reduceToNat,Int.reduceLT,Int.reduceLE,Int.reduceNeg,c,c0,w0,w1,w2,w3,w4,x1,x2,eq_true x3,x4,hr]
              rw [hnx]
              simp -implicitDefEqProofs only [TT,Ic.t,Ic.ci,Nat.reduceEqDiff,reduceIte,Nat.reduceAdd,Nat.reduceMul,Nat.reduceLT,Nat.reduceLeDiff,Nat.reduceSub,reduceCtorEq,Int.reduceEq,Int.reduceNe,Int.reduceToNat,Int.reduceLT,Int.reduceLE,Int.reduceNeg,lt,h1]
              exact ih (b + 1) _ _ _ _ (by omega) hl (by omega) hg (.obj id _ l rfl hne h0 h1 ha) hQ'
        · have st : zacj n a b (l,bits) = (l,bits / 2) := by
            unfold zacj
            rw [if_neg nx,if_neg (fun h => x3 (by have := h.1; simp only at this; omega))]
          have hQ' := hQ
          simp only [za0l,st] at hQ'
          cases hv with
          | nil =>
            simp -implicitDefEqProofs only [fj,cz,TT,Ic.t,Ic.ci,Nat.reduceEqDiff,reduceIte,Nat.reduceAdd,Nat.reduceMul,Nat.reduceLT,Nat.reduceLeDiff,Nat.reduceSub,reduceCtorEq,Int.reduceEq,Int.reduceNe,Int.reduceToNat,Int.reduceLT,Int.reduceLE,Int.reduceNeg,c,c0,w0,w1,w2,w3,w4,x1,x2,x3,hr]
            rw [hnx]
            simp -implicitDefEqProofs only [TT,Ic.t,Ic.ci,Nat.reduceEqDiff,reduceIte,Nat.reduceAdd,Nat.reduceMul,Nat.reduceLT,Nat.reduceLeDiff,Nat.reduceSub,reduceCtorEq,Int.reduceEq,Int.reduceNe,Int.reduceToNat,Int.reduceLT,Int.reduceLE,Int.reduceNeg,lt]
            exact ih (b + 1) _ _ _ _ (by omega) hl (by omega) hg .nil hQ'
          | obj id m l hm hne h0 h1 ha =>
            subst hm
            simp -implicitDefEqProofs only [fj,cz,TT,Ic.t,Ic.ci,Nat.reduceEqDiff,reduceIte,Nat.reduceAdd,Nat.reduceMul,Nat.reduceLT,Nat.reduceLeDiff,Nat.reduceSub,reduceCtorEq,Int.reduceEq,Int.reduceNe,Int.reduceToNat,Int.reduceLT,Int.reduceLE,Int.reduceNeg,c,c0,w0,w1,w2,w3,w4,x1,x2,x3,hr]
            rw [hnx]
            simp -implicitDefEqProofs only [TT,Ic.t,Ic.ci,Nat.reduceEqDiff,reduceIte,Nat.reduceAdd,Nat.reduceMul,Nat.reduceLT,Nat.reduceLeDiff,Nat.reduceSub,reduceCtorEq,Int.reduceEq,Int.reduceNe,Int.reduceToNat,Int.reduceLT,Int.reduceLE,Int.reduceNeg,lt,h1]
            exact ih (b + 1) _ _ _ _ (by omega) hl (by omega) hg (.obj id _ l rfl hne h0 h1 ha) hQ'
theorem tq.cutN {τ0 τ : TH} (h : tq τ0 τ) {m : Nat} (hm : τ0.next ≤ m) : tq τ0 (τ.cut m) := by
  refine ⟨h.lock,?_,by rw [za2f hm]; exact h.cut⟩
  show τ0.o.length ≤ (τ.o.take m).length
  have := h.next
  rw [List.length_take]
  unfold TH.next at *
  omega
theorem ArcL.cutN {τ0 τ : TH} {m id n : Nat} {l : List af} (hn : l.length = n) (hne : n ≠ 0) (h0 : τ0.next ≤ id) (h1 : id < τ.next) (ha : τ.at id = some (zari l)) (hm : id < m) : ArcL τ0 (τ.cut m) (.slm id 0 n 5) l := by
  refine .obj id n l hn hne h0 ?_ ?_
  · show id < (τ.o.take m).length
    rw [List.length_take]
    unfold TH.next at h1
    omega
  · show (τ.o.take m)[id]? = _
    rw [List.getElem?_take,if_pos hm]; exact ha
theorem cut2 (τ : TH) (n : Nat) : (τ.cut n).cut n = τ.cut n := za2f (Nat.le_refl _)
theorem addB_nx (n a k b : Nat) (s : List af × Nat) : za0l n a (k + 1) b s = za0l n a k (b + 1) (zacj n a b s) := rfl
set_option maxHeartbeats 1000000 in
theorem arcs_2 (n : Nat) (hn : n ≤ 6) (led : Int) (τ0 : TH) (hl0 : τ0.lock ≤ τ0.next) (Q : TEx → au) (k : Nat) : ∀ (a : Nat) (l : List af) (bits : Nat) (v : TV) (τ : TH),k + a = n → l.length ≤ 8 → bits ≤ 4294967296 → tq τ0 τ → ArcL τ0 τ v l →
    (∀ v τ,tq τ0 τ → ArcL τ0 τ v (addA n k a (l,bits)).1 → (addA n k a (l,bits)).1.length ≤ 8 → (addA n k a (l,bits)).2 ≤ 4294967296 → Q (.exit 2) [(0,.int .i64 n),(1,.int .i64 ((addA n k a (l,bits)).2 : Nat)),(2,.int .i64 led),(7,v),(9,.int .i64 n),(28,.bool false)] [] τ) →
    tW G (.loop [0,1,2,7,9] qp) Q [(0,.int .i64 n),(1,.int .i64 (bits : Int)),(2,.int .i64 led),(7,v),(9,.int .i64 (a : Int))] [] τ := by
  induction k with
  | zero =>
    intro a l bits v τ hi hl hb hg hv hQ
    obtain rfl : a = n := by omega
    have c : ¬ (a : Int) < (a : Int) := by omega
    refine jm fun LQ hnx hr he => ?_
    cases hv with
    | nil =>
      simp -implicitDefEqProofs only [qp,cz,TT,Ic.t,Ic.ci,Nat.reduceEqDiff,reduceIte,Nat.reduceAdd,Nat.reduceLT,reduceCtorEq,Int.reduceToNat,c,he]
      exact hQ _ _ hg .nil hl hb
    | obj id m l hm hne h0 h1 ha =>
      simp -implicitDefEqProofs only [qp,cz,TT,Ic.t,Ic.ci,Nat.reduceEqDiff,reduceIte,Nat.reduceAdd,Nat.reduceLT,reduceCtorEq,Int.reduceToNat,c,he]
      exact hQ _ _ hg (.obj id m l hm hne h0 h1 ha) hl hb
  | succ k ih =>
    intro a l bits v τ hi hl hb hg hv hQ
    have c : (a : Int) < (n : Int) := by omega
    have w1 : IntKind.i64.wrap ((a : Int) + 1) = ((a + 1 : Nat) : Int) := by rw [wA (by omega) (by omega)]; omega
    have hlk : τ.lock ≤ τ.next := by have := hg.lock; have := hg.next; omega
    refine jm fun LQ hnx hr he => ?_
    have inner := fun Q hq => arcs_3 n a hn (by omega) led τ0 hl0 Q n 0 l bits v τ rfl hl hb hg hv hq
    cases hv with
    | nil =>
      simp -implicitDefEqProofs only [qp,cz,TT,Ic.t,Ic.ci,Nat.reduceEqDiff,reduceIte,Nat.reduceAdd,Nat.reduceLT,reduceCtorEq,Int.reduceToNat,c,w1,hr]
      refine inner _ fun v τ' hg' hv' hl' hb' => ?_
      have hQ' := hQ
      simp only [addA] at hQ'
      generalize za0l n a n 0 ([],bits) = s at hv' hl' hb' hQ' ⊢
      obtain ⟨l2,b2⟩ := s
      simp only at hv' hl' hb' hQ' ⊢
      cases hv' with
      | nil =>
        simp -implicitDefEqProofs only [TT,Ic.t,Ic.ci,Nat.reduceEqDiff,reduceIte,Nat.reduceAdd,Nat.reduceLT,reduceCtorEq,Int.reduceToNat,w1]
        rw [hnx]
        simp -implicitDefEqProofs only [TT,Ic.t,Ic.ci,Nat.reduceEqDiff,reduceIte,Nat.reduceAdd,Nat.reduceLT,reduceCtorEq,Int.reduceToNat,cut2]
        exact ih (a + 1) _ _ _ _ (by omega) hl' hb' (hg'.cutN hg.next) .nil hQ'
      | obj id' m' l' hm' hne' h0' h1' ha' =>
        by_cases hid : id' < τ.next
        · simp -implicitDefEqProofs only [TT,Ic.t,Ic.ci,Nat.reduceEqDiff,reduceIte,Nat.reduceAdd,Nat.reduceLT,reduceCtorEq,Int.reduceToNat,w1,hid]
          rw [hnx]
          simp -implicitDefEqProofs only [TT,Ic.t,Ic.ci,Nat.reduceEqDiff,reduceIte,Nat.reduceAdd,Nat.reduceLT,reduceCtorEq,Int.reduceToNat,hid,cut2]
          exact ih (a + 1) _ _ _ _ (by omega) hl' hb' (hg'.cutN hg.next) (.cutN hm' hne' h0' h1' ha' hid) hQ'
        · simp -implicitDefEqProofs only [TT,Ic.t,Ic.ci,Nat.reduceEqDiff,reduceIte,Nat.reduceAdd,Nat.reduceLT,reduceCtorEq,Int.reduceToNat,w1,hid]
          rw [hnx]
          simp -implicitDefEqProofs only [TT,Ic.t,Ic.ci,Nat.reduceEqDiff,reduceIte,Nat.reduceAdd,Nat.reduceLT,reduceCtorEq,Int.reduceToNat,hid]
          exact ih (a + 1) _ _ _ _ (by omega) hl' hb' hg' (.obj id' m' l2 hm' hne' h0' h1' ha') hQ'
    | obj id m l hm hne h0 h1 ha =>
      simp -implicitDefEqProofs only [qp,cz,TT,Ic.t,Ic.ci,Nat.reduceEqDiff,reduceIte,Nat.reduceAdd,Nat.reduceLT,reduceCtorEq,Int.reduceToNat,c,w1,hr,h1]
      refine inner _ fun v τ' hg' hv' hl' hb' => ?_
      have hQ' := hQ
      simp only [addA] at hQ'
      generalize za0l n a n 0 (l,bits) = s at hv' hl' hb' hQ' ⊢
      obtain ⟨l2,b2⟩ := s
      simp only at hv' hl' hb' hQ' ⊢
      cases hv' with
      | nil =>
        simp -implicitDefEqProofs only [TT,Ic.t,Ic.ci,Nat.reduceEqDiff,reduceIte,Nat.reduceAdd,Nat.reduceLT,reduceCtorEq,Int.reduceToNat,w1]
        rw [hnx]
        simp -implicitDefEqProofs only [TT,Ic.t,Ic.ci,Nat.reduceEqDiff,reduceIte,Nat.reduceAdd,Nat.reduceLT,reduceCtorEq,Int.reduceToNat,cut2]
        exact ih (a + 1) _ _ _ _ (by omega) hl' hb' (hg'.cutN hg.next) .nil hQ'
      | obj id' m' l' hm' hne' h0' h1' ha' =>
        by_cases hid : id' < τ.next
        · simp -implicitDefEqProofs only [TT,Ic.t,Ic.ci,Nat.reduceEqDiff,reduceIte,Nat.reduceAdd,Nat.reduceLT,reduceCtorEq,Int.reduceToNat,w1,hid]
          rw [hnx]
          simp -implicitDefEqProofs only [TT,Ic.t,Ic.ci,Nat.reduceEqDiff,reduceIte,Nat.reduceAdd,Nat.reduceLT,reduceCtorEq,Int.reduceToNat,hid,cut2]
          exact ih (a + 1) _ _ _ _ (by omega) hl' hb' (hg'.cutN hg.next) (.cutN hm' hne' h0' h1' ha' hid) hQ'
        · simp -implicitDefEqProofs only [TT,Ic.t,Ic.ci,Nat.reduceEqDiff,reduceIte,Nat.reduceAdd,Nat.reduceLT,reduceCtorEq,Int.reduceToNat,w1,hid]
          rw [hnx]
          simp -implicitDefEqProofs only [TT,Ic.t,Ic.ci,Nat.reduceEqDiff,reduceIte,Nat.reduceAdd,Nat.reduceLT,reduceCtorEq,Int.reduceToNat,hid]
          exact ih (a + 1) _ _ _ _ (by omega) hl' hb' hg' (.obj id' m' l2 hm' hne' h0' h1' ha') hQ'
def dress (bits led i : Nat) (x : af) : af :=
  { x with Ledger := (((i + led) % (1 + led % 3) : Nat) : Int),Asset := if (i + bits) % 2 = 0 then ⟨#[103,111,108,100]⟩ else ⟨#[115,97,108,116]⟩,Amount := ((1 + (7 * i + led) % 20 : Nat) : Int) }
def zaq6 (bits led : Nat) : Nat → Nat → List af → List af
  | 0,_,l => l
  | k + 1,i,l => match l[i]? with
    | some x => zaq6 bits led k (i + 1) (l.set i (dress bits led i x))
    | none => l
theorem three (l : List af) (i : Nat) (h : i < l.length) (x : af) (hx : l[i] = x) (A B : Int) (g : ByteArray) :
    (((l.flatMap af.cells).set (i * 5 + 2) (.int .i64 A)).set (i * 5 + 3) (.str g)).set (i * 5 + 4) (.int .i64 B) = (l.set i { x with Ledger := A,Asset := g,Amount := B }).flatMap af.cells := by
  have s1 := zay4 arc5 (j := 2) (v := .int .i64 A) (y := { x with Ledger := A }) (by decide) l i h (by rw [hx]; rfl)
  have s2 := zay4 arc5 (j := 3) (v := .str g) (y := { x with Ledger := A,Asset := g }) (by decide) (l.set i { x with Ledger := A }) i (by rw [List.length_set]; exact h) (by rw [List.getElem_set_self]; rfl)
  have s3 := zay4 arc5 (j := 4) (v := .int .i64 B) (y := { x with Ledger := A,Asset := g,Amount := B }) (by decide) (l.set i { x with Ledger := A,Asset := g }) i (by rw [List.length_set]; exact h) (by rw [List.getElem_set_self]; rfl)
  rw [List.set_set] at s2 s3
  rw [s1,s2,s3]
theorem za6a (bits led i : Nat) (x : af) (g : ByteArray) (h : (if (i + bits) % 2 = 0 then (⟨#[103,111,108,100]⟩ : ByteArray) else ⟨#[115,97,108,116]⟩) = g) : ({ x with Ledger := (((i + led) % (1 + led % 3) : Nat) : Int),Asset := g,Amount := ((1 + (7 * i + led) % 20 : Nat) : Int) } : af) = dress bits led i x := by
  rw [← h]; rfl
set_option maxHeartbeats 1000000 in
theorem arcs_4 (bits led : Nat) (hbits : bits ≤ 4294967296) (hled : led ≤ 4294967296) (N : Nat) (hN : N ≤ 20) (τ0 : TH) (hl0 : τ0.lock ≤ τ0.next) (id : Nat) (h0 : τ0.next ≤ id) (Q : TEx → au) (k : Nat) : ∀ (i : Nat) (l : List af) (τ : TH),k + i = N → l.length = N → tq τ0 τ → id < τ.next → τ.at id = some (zari l) →
    (∀ τ,tq τ0 τ → id < τ.next → τ.at id = some (zari (zaq6 bits led k i l)) → (zaq6 bits led k i l).length = N → Q (.exit 6) [(1,.int .i64 bits),(2,.int .i64 led),(7,.slm id 0 N 5),(11,.int .i64 N),(66,.bool false)] [] τ) →
    tW G (.loop [1,2,7,11] tj) Q [(1,.int .i64 bits),(2,.int .i64 led),(7,.slm id 0 N 5),(11,.int .i64 (i : Int))] [] τ := by
  induction k with
  | zero =>
    intro i l τ hi hl hg h1 ha hQ
    obtain rfl : i = N := by omega
    have c : ¬ (i : Int) < (i : Int) := by omega
    refine jm fun LQ hnx hr he => ?_
    simp -implicitDefEqProofs only [tj,cz,TT,Ic.t,Ic.ci,Nat.reduceEqDiff,reduceIte,Nat.reduceAdd,Nat.reduceMul,Nat.reduceLT,Nat.reduceLeDiff,Nat.reduceSub,reduceCtorEq,Int.reduceEq,Int.reduceNe,Int.reduceToNat,Int.reduceLT,Int.reduceLE,Int.reduceNeg,c,he]
    exact hQ _ hg h1 ha hl
  | succ k ih =>
    intro i l τ hi hl hg h1 ha hQ
    have hil : i < l.length := by omega
    have c : (i : Int) < (N : Int) := by omega
    have ci : (0 : Int) ≤ (i : Int) := by omega
    have w1 : IntKind.i64.wrap ((i : Int) + 1) = ((i + 1 : Nat) : Int) := by rw [wA (by omega) (by omega)]; omega
    have v1 : IntKind.i64.wrap ((i : Int) + (led : Int)) = ((i + led : Nat) : Int) := by rw [wA (by omega) (by omega)]; omega
    have v2 : Int.tmod (led : Int) 3 = ((led % 3 : Nat) : Int) := by rw [Int.tmod_eq_emod_of_nonneg (by omega)]; omega
    have v3 : IntKind.i64.wrap (1 + ((led % 3 : Nat) : Int)) = ((1 + led % 3 : Nat) : Int) := by rw [wA (by omega) (by omega)]; omega
    have v3' : ¬ ((1 + led % 3 : Nat) : Int) = 0 := by omega
    have v4 : Int.tmod ((i + led : Nat) : Int) ((1 + led % 3 : Nat) : Int) = (((i + led) % (1 + led % 3) : Nat) : Int) := by rw [Int.tmod_eq_emod_of_nonneg (by omega)]; rfl
    have v5 : IntKind.i64.wrap ((i : Int) + (bits : Int)) = ((i + bits : Nat) : Int) := by rw [wA (by omega) (by omega)]; omega
    have v6 : IntKind.i64.wrap (7 * (i : Int)) = ((7 * i : Nat) : Int) := by rw [wA (by omega) (by omega)]; omega
    have v7 : IntKind.i64.wrap (((7 * i : Nat) : Int) + (led : Int)) = ((7 * i + led : Nat) : Int) := by rw [wA (by omega) (by omega)]; omega
    have v8 : Int.tmod ((7 * i + led : Nat) : Int) 20 = (((7 * i + led) % 20 : Nat) : Int) := by rw [Int.tmod_eq_emod_of_nonneg (by omega)]; omega
    have v9 : IntKind.i64.wrap (1 + (((7 * i + led) % 20 : Nat) : Int)) = ((1 + (7 * i + led) % 20 : Nat) : Int) := by rw [wA (by omega) (by omega)]; omega
    have hlk : τ.lock ≤ τ.next := by have := hg.lock; have := hg.next; omega
    have hw : τ.lock ≤ id := by have := hg.lock; omega
    have f5 : (l.flatMap af.cells).length = N * 5 := by rw [vo arc5,hl]
    have o2 : i * 5 + 2 + 1 ≤ N * 5 := by omega
    have o3 : i * 5 + 3 + 1 ≤ N * 5 := by omega
    have o4 : i * 5 + 4 + 1 ≤ N * 5 := by omega
    obtain ⟨x,hx⟩ : ∃ x,l[i] = x := ⟨_,rfl⟩
    have hd : zaq6 bits led (k + 1) i l = zaq6 bits led k (i + 1) (l.set i (dress bits led i x)) := by
      rw [zaq6,List.getElem?_eq_getElem hil,hx]
    have hQ' := hQ
    rw [hd] at hQ'
    refine jm fun LQ hnx hr he => ?_
    by_cases p : (i + bits) % 2 = 0
    · have v6' : Int.tmod ((i + bits : Nat) : Int) 2 = 0 := by rw [Int.tmod_eq_emod_of_nonneg (by omega)]; omega
      simp -implicitDefEqProofs only [tj,cz,TT,Ic.t,Ic.ci,Nat.reduceEqDiff,reduceIte,Nat.reduceAdd,Nat.reduceMul,Nat.reduceLT,Nat.reduceLeDiff,Nat.reduceSub,reduceCtorEq,Int.reduceEq,Int.reduceNe,Int.reduceToNat,Int.reduceLT,Int.reduceLE,Int.reduceNeg,c,ci,w1,v1,v2,v3,v3',v4,v5,v6,v6',v7,v8,v9,hr,ha,h1,hw,zari,f5,o2,o3,o4]
      refine ⟨by decide,by rw [List.length_set,f5]; omega,by rw [List.length_set,List.length_set,f5]; omega,?_⟩
      rw [three l i hil x hx,za6a bits led i x _ (if_pos p)]
      rw [hnx]
      simp -implicitDefEqProofs only [TT,Ic.t,Ic.ci,Nat.reduceEqDiff,reduceIte,Nat.reduceAdd,Nat.reduceMul,Nat.reduceLT,Nat.reduceLeDiff,Nat.reduceSub,reduceCtorEq,Int.reduceEq,Int.reduceNe,Int.reduceToNat,Int.reduceLT,Int.reduceLE,Int.reduceNeg,h1]
      exact ih (i + 1) _ _ (by omega) (by rw [List.length_set]; exact hl) (hg.put h0 _) (by rw [az]; exact h1) (zag3 h1) hQ'
    · have v6' : Int.tmod ((i + bits : Nat) : Int) 2 = 1 := by rw [Int.tmod_eq_emod_of_nonneg (by omega)]; omega
      simp -implicitDefEqProofs only [tj,cz,TT,Ic.t,Ic.ci,Nat.reduceEqDiff,reduceIte,Nat.reduceAdd,Nat.reduceMul,Nat.reduceLT,Nat.reduceLeDiff,Nat.reduceSub,reduceCtorEq,Int.reduceEq,Int.reduceNe,Int.reduceToNat,Int.reduceLT,Int.reduceLE,Int.reduceNeg,c,ci,w1,v1,v2,v3,v3',v4,v5,v6,v6',v7,v8,v9,hr,ha,h1,hw,zari,f5,o2,o3,o4]
      refine ⟨by decide,by rw [List.length_set,f5]; omega,by rw [List.length_set,List.length_set,f5]; omega,?_⟩
      rw [three l i hil x hx,za6a bits led i x _ (if_neg p)]
      rw [hnx]
      simp -implicitDefEqProofs only [TT,Ic.t,Ic.ci,Nat.reduceEqDiff,reduceIte,Nat.reduceAdd,Nat.reduceMul,Nat.reduceLT,Nat.reduceLeDiff,Nat.reduceSub,reduceCtorEq,Int.reduceEq,Int.reduceNe,Int.reduceToNat,Int.reduceLT,Int.reduceLE,Int.reduceNeg,h1]
      exact ih (i + 1) _ _ (by omega) (by rw [List.length_set]; exact hl) (hg.put h0 _) (by rw [az]; exact h1) (zag3 h1) hQ'
theorem addR_len (n k : Nat) : ∀ (i : Nat) (l : List af),(addR n k i l).length = l.length + k := by
  induction k with
  | zero => intro i l; rfl
  | succ k ih => intro i l; rw [addR,ih,List.length_append]; simp; omega
def zaoh (n bits led : Nat) : List af :=
  let s := addA n n 0 (addR n n 0 [],bits)
  zaq6 s.2 led s.1.length 0 s.1
theorem stepB_ge (n a b : Nat) (s : List af × Nat) : s.1.length ≤ (zacj n a b s).1.length := by
  unfold zacj
  split
  · exact Nat.le_refl _
  · show _ ≤ (if _ then _ else _ : List af).length
    split
    · simp
    · exact Nat.le_refl _
theorem addB_ge (n a k : Nat) : ∀ (b : Nat) (s : List af × Nat),s.1.length ≤ (za0l n a k b s).1.length := by
  induction k with
  | zero => intro b s; exact Nat.le_refl _
  | succ k ih => intro b s; rw [za0l]; exact Nat.le_trans (stepB_ge ..) (ih ..)
theorem addA_ge (n k : Nat) : ∀ (a : Nat) (s : List af × Nat),s.1.length ≤ (addA n k a s).1.length := by
  induction k with
  | zero => intro b s; exact Nat.le_refl _
  | succ k ih => intro b s; rw [addA]; exact Nat.le_trans (addB_ge ..) (ih ..)
theorem zaud {τ : TH} {m id : Nat} (h : id < m) : (τ.cut m).at id = τ.at id := by
  show (τ.o.take m)[id]? = τ.o[id]?
  rw [List.getElem?_take,if_pos h]
theorem xb {τ : TH} {m id : Nat} (h : id < τ.next) (hm : id < m) : id < (τ.cut m).next := by
  show id < (τ.o.take m).length
  rw [List.length_take]
  unfold TH.next at h
  omega
theorem tfzL_id {f : TV → Option TV} : ∀ {l : List TV},(∀ v ∈ l,f v = some v) → zalh f l = some l
  | [],_ => rfl
  | v :: r,h => by
    have e := tfzL_id (l := r) (fun w hw => h w (List.mem_cons_of_mem _ hw))
    simp only [zalh,h v (List.mem_cons_self ..),e]
theorem map_idf {f : TV → TV} : ∀ {l : List TV},(∀ v ∈ l,f v = v) → l.map f = l
  | [],_ => rfl
  | v :: r,h => by rw [List.map_cons,h v (by simp),map_idf (fun w hw => h w (List.mem_cons_of_mem _ hw))]
theorem fz_list {α : Type} {c : α → List TV} {k : Nat} {e : α → TV} (hk : k ≠ 0) (hc : ∀ x,(c x).length = k) (he : ∀ x,za57 (c x) = e x) (τ : TH) (n0 id m : Nat) (t : TypeId) (l : List α) (h0 : n0 ≤ id) (ha : τ.at id = some ⟨t,l.flatMap c⟩) (hl : l.length = m)
    (hf : ∀ x,∀ v ∈ c x,zan6 τ n0 1 v = some v ∧ v.rd = v) : zan6 τ n0 2 (.slm id 0 m k) = some (.sl (l.map e)) := by
  have hx : ∀ v ∈ l.flatMap c,zan6 τ n0 1 v = some v ∧ v.rd = v := fun v hv => by
    obtain ⟨x,_,hv⟩ := List.mem_flatMap.1 hv
    exact hf x v hv
  subst hl
  have tr : zauq τ id 0 (l.length * k) = some (l.flatMap c) := by
    unfold zauq
    rw [ha]
    simp only [Option.bind_some,vo hc,Nat.zero_add,Nat.le_refl,if_true,List.drop_zero,fm_take hc]
    rw [map_idf fun v hv => (hx v hv).2]
  have n1 : ¬ (k = 0 ∨ id < n0) := by omega
  show (if k = 0 ∨ id < n0 then none else (zauq τ id 0 (l.length * k)).bind fun l' => (zalh (zan6 τ n0 1) l').map fun l' => TV.sl (yv k l.length l')) = _
  rw [if_neg n1,tr,Option.bind_some,tfzL_id fun v hv => (hx v hv).1,Option.map_some,zaq3 hc he]
theorem zavm {τ0 τ : TH} {id m : Nat} {l : List af} (hg : tq τ0 τ) (h0 : τ0.next ≤ id) (ha : τ.at id = some (zari l)) (hl : l.length = m) (K : TV → TH → Prop) : fzK (zan6 τ τ0.next 2 (.slm id 0 m 5)) τ0 K τ = K (.sl (l.map af.tv)) τ0 := by
  rw [fz_list (e := af.tv) (by decide) arc5 (fun _ => rfl) τ τ0.next id m _ l h0 ha hl (fun x v hv => by
    simp only [af.cells,List.mem_cons,List.not_mem_nil,or_false] at hv
    rcases hv with rfl | rfl | rfl | rfl | rfl <;> exact ⟨rfl,rfl⟩)]
  show K _ (τ.cut τ0.next) = _
  rw [hg.cut]
theorem arcs_Ru (n bits led : Nat) (hn1 : 1 ≤ n) (hn : n ≤ 6) (hb : bits ≤ 4294967296) (hled : led ≤ 4294967296) (τ : TH) (hl : τ.lock ≤ τ.next) : Ru G uz [.int .i64 n,.int .i64 bits,.int .i64 led] τ (.sl (List.map af.tv (zaoh n bits led))) τ := by
  refine jk fun K hK => ?_
  rw [b7 g_L00_arcs (Nat.le_of_ble_eq_true rfl)]
  have l1 := fun Q hq => arcs_1 n hn bits led τ hl Q n 0 [] .slz τ rfl rfl (tq.refl τ) .nil hq
  simp -implicitDefEqProofs only [cz,TT,Ic.t,Ic.ci,Nat.reduceEqDiff,reduceIte,Nat.reduceAdd,Nat.reduceLT,reduceCtorEq,Int.reduceToNat,hl]
  refine l1 _ fun v τ' hg' hv' => ?_
  have ln : (addR n n 0 []).length = n := by rw [addR_len]; simp
  unfold zaoh at hK
  generalize addR n n 0 [] = r at hv' ln hK
  cases hv' with
  | nil => simp at ln; omega
  | obj id m _ hm hne h0 h1 ha =>
    have nid : ¬ id < τ.next := by omega
    have l2 := fun Q hq => arcs_2 n hn led τ hl Q n 0 r bits (.slm id 0 m 5) τ' rfl (by omega) hb hg' (.obj id m r hm hne h0 h1 ha) hq
    simp -implicitDefEqProofs only [TT,Ic.t,Ic.ci,Nat.reduceEqDiff,reduceIte,Nat.reduceAdd,Nat.reduceLT,reduceCtorEq,Int.reduceToNat,nid]
    refine l2 _ fun v τ2 hg2 hv2 hlen hb2 => ?_
    have ge := addA_ge n n 0 (r,bits)
    generalize addA n n 0 (r,bits) = s at hv2 hlen hb2 ge hK ⊢
    obtain ⟨r2,bits2⟩ := s
    simp only at hv2 hlen hb2 ge hK ⊢
    cases hv2 with
    | nil => simp only [List.length_nil] at ge; omega
    | obj id2 m2 _ hm2 hne2 h02 h12 ha2 =>
      have nid2 : ¬ id2 < τ.next := by omega
      simp -implicitDefEqProofs only [TT,Ic.t,Ic.ci,Nat.reduceEqDiff,reduceIte,Nat.reduceAdd,Nat.reduceLT,reduceCtorEq,Int.reduceToNat,nid2]
      by_cases hid : id2 < τ'.next
      · rw [if_pos hid]
        refine arcs_4 bits2 led hb2 hled m2 (by omega) τ hl id2 h02 _ m2 0 r2 _ rfl hm2 (hg2.cutN hg'.next) (xb h12 hid) (by rw [zaud hid]; exact ha2) fun τ3 hg3 h13 ha3 hlen3 => ?_
        simp -implicitDefEqProofs only [TT,Ic.t,Ic.ci,Nat.reduceEqDiff,reduceIte,Nat.reduceAdd,Nat.reduceLT,reduceCtorEq,Int.reduceToNat,nid2]
        rw [zavm hg3 h02 ha3 hlen3,zavm (hg3.cutN (hg2.cutN hg'.next).next) h02 (by rw [zaud (xb h12 hid)]; exact ha3) hlen3,ite_self,← hm2]
        exact hK
      · rw [if_neg hid]
        refine arcs_4 bits2 led hb2 hled m2 (by omega) τ hl id2 h02 _ m2 0 r2 _ rfl hm2 hg2 h12 ha2 fun τ3 hg3 h13 ha3 hlen3 => ?_
        simp -implicitDefEqProofs only [TT,Ic.t,Ic.ci,Nat.reduceEqDiff,reduceIte,Nat.reduceAdd,Nat.reduceLT,reduceCtorEq,Int.reduceToNat,nid2]
        rw [zavm hg3 h02 ha3 hlen3,zavm (hg3.cutN hg2.next) h02 (by rw [zaud h12]; exact ha3) hlen3,ite_self,← hm2]
        exact hK
def ze (n bits led : Int) : Option (List af) := if (1 ≤ n ∧ n ≤ 6) ∧ (0 ≤ bits ∧ bits ≤ 4294967296) ∧ 0 ≤ led ∧ led ≤ 4294967296 then some (zaoh n.toNat bits.toNat led.toNat) else none
theorem za0u (p1 p2 p3 : Int) (r : List af) (h : ze p1 p2 p3 = some r) (lk : Bool) (d : Option Nat) (K : au) (fr : TF) (tk : TK) (τ : TH) (hl : τ.lock ≤ τ.next) : fv G lk uz [.int .i64 p1,.int .i64 p2,.int .i64 p3] d K fr tk τ = K (fu fr d (.sl (List.map af.tv r))) tk τ := by
  obtain ⟨⟨h1,h2,h3⟩,h⟩ := ifS h
  injection h with h
  subst h
  obtain ⟨n,rfl⟩ : ∃ n : Nat,p1 = (n : Int) := ⟨p1.toNat,by omega⟩
  obtain ⟨b,rfl⟩ : ∃ n : Nat,p2 = (n : Int) := ⟨p2.toNat,by omega⟩
  obtain ⟨c,rfl⟩ : ∃ n : Nat,p3 = (n : Int) := ⟨p3.toNat,by omega⟩
  simp only [Int.toNat_natCast]
  have hr := fun τ hl => arcs_Ru n b c (by omega) (by omega) (by omega) (by omega) τ hl
  exact aw (hr _ hl) (hr _ (Nat.le_refl _)) (by simp -implicitDefEqProofs only [TT,Ic.t,Ic.ci,Nat.reduceEqDiff,reduceIte,Nat.reduceAdd,Nat.reduceLT,reduceCtorEq,Int.reduceToNat])
end Go.Proofs.Ytdcfoaafkppojaa
