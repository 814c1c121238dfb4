import Derived.Test.YtjgpklmkdkkooaaD1
import Derived.IntWalk
set_option linter.unusedVariables false
set_option linter.unusedSimpArgs false
set_option linter.unusedSectionVars false
open Nat (reduceEqDiff reduceAdd reduceMul reduceLT reduceLeDiff reduceSub)
open Int (reduceToNat reduceNe reduceEq reduceNeg reduceLE)
namespace Go.Proofs.Ytjgpklmkdkkooaa
open Go Go.RowKit Sh Ic
theorem wA {n:Int} (h1:-9223372036854775808 ≤ n) (h2:n ≤ 9223372036854775807):IntKind.i64.wrap n = n:=IntWalk.i64_in n ⟨h1,h2⟩
theorem za6y {α:Type} {c:α → List TV} {k:Nat} (hc:∀ x,(c x).length = k):∀ l:List α,(l.flatMap c).length = l.length * k
 | [] => by simp
 | x :: r => by rw [List.flatMap_cons,List.length_append,hc,za6y hc r,List.length_cons,Nat.succ_mul,Nat.add_comm]
theorem zb86 {α:Type} {c:α → List TV} {k:Nat} (hc:∀ x,(c x).length = k) {j:Nat} (hj:j < k) {v:TV} {y:α}:∀ (l:List α) (i:Nat) (h:i < l.length),c y = (c l[i]).set j v → (l.flatMap c).set (i * k + j) v = (l.set i y).flatMap c
 | [],i,h,_ => by simp at h
 | x :: r,0,h,e => by
  simp only [List.getElem_cons_zero] at e
  rw [List.flatMap_cons,List.set_cons_zero,List.flatMap_cons,e,Nat.zero_mul,Nat.zero_add,List.set_append_left _ _ (by rw [hc]; exact hj)]
 | x :: r,i + 1,h,e => by
  simp only [List.getElem_cons_succ] at e
  have:=zb86 hc hj r i (by simpa using h) e
  have a:(i + 1) * k + j = k + (i * k + j):=by rw [Nat.succ_mul]; omega
  rw [List.flatMap_cons,List.set_cons_succ,List.flatMap_cons,a,List.set_append_right _ _ (by rw [hc]; omega),hc,Nat.add_sub_cancel_left,this]
theorem zbvb {α:Type} {c:α → List TV} {k:Nat} (hc:∀ x,(c x).length = k) (l:List α):(l.flatMap c).take (l.length * k) = l.flatMap c:=by
 rw [List.take_of_length_le]; rw [za6y hc]; exact Nat.le_refl _
theorem zcly {α:Type} {c:α → List TV} {k:Nat} (hc:∀ x,(c x).length = k) {e:α → TV} (he:∀ x,zac6 (c x) = e x):∀ l:List α,zbk5 k l.length (l.flatMap c) = l.map e
 | [] => rfl
 | x :: r => by
  rw [List.length_cons,zbk5,List.flatMap_cons,List.take_append_of_le_length (by rw [hc]; exact Nat.le_refl _),List.take_of_length_le (by rw [hc]; exact Nat.le_refl _),he,List.drop_append,List.drop_of_length_le (by rw [hc]; exact Nat.le_refl _),hc,Nat.sub_self,List.drop_zero,List.nil_append,zcly hc he r]
  rfl
structure j5 (τ0 τ:TH):Prop where
 lock:τ.lock = τ0.lock
 next:τ0.next ≤ τ.next
 cut:τ.cut τ0.next = τ0
theorem j5.refl (τ:TH):j5 τ τ:=⟨rfl,Nat.le_refl _,by unfold TH.cut TH.next; rw [List.take_length]⟩
theorem j5.push {τ0 τ:TH} (h:j5 τ0 τ) (b:Ob):j5 τ0 (τ.push b):=by
 refine ⟨h.lock,?_,?_⟩
 · have:=h.next
   show τ0.o.length ≤ (τ.o ++ [b]).length
   rw [List.length_append]
   exact Nat.le_trans this (Nat.le_add_right _ _)
 · rw [← h.cut]
   show TH.mk ((τ.o ++ [b]).take (TH.next (TH.cut τ τ0.next))) τ.lock = TH.mk (τ.o.take τ0.next) τ.lock
   rw [h.cut,List.take_append_of_le_length h.next]
theorem j5.put {τ0 τ:TH} (h:j5 τ0 τ) {id:Nat} (hi:τ0.next ≤ id) (b:Ob):j5 τ0 (τ.put id b):=by
 refine ⟨h.lock,?_,?_⟩
 · show τ0.o.length ≤ (τ.o.set id b).length
   rw [List.length_set]; exact h.next
 · have e:(τ.o.set id b).take τ0.next = τ.o.take τ0.next:=List.take_set_of_le hi
   have c:=h.cut
   unfold TH.cut at c ⊢
   show TH.mk ((τ.o.set id b).take τ0.next) τ.lock = τ0
   rw [e]; exact c
theorem zb3n {τ:TH} {b:Ob}:(τ.push b).at τ.next = some b:=by
 show (τ.o ++ [b])[τ.o.length]? = some b
 simp
theorem jm {τ:TH} {b:Ob}:(τ.push b).next = τ.next + 1:=by show (τ.o ++ [b]).length = _; simp [TH.next]
theorem br {τ:TH} {b:Ob} {id:Nat}:(τ.put id b).next = τ.next:=by show (τ.o.set id b).length = _; simp [TH.next]
theorem zcoa {τ:TH} {b b':Ob} {id:Nat}:((τ.put id b').push b).at τ.next = some b:=by
 have:=zb3n (τ:=τ.put id b') (b:=b)
 rwa [br] at this
theorem zbw9 {τ:TH} {b:Ob} {id:Nat} (h:id < τ.next):(τ.put id b).at id = some b:=by
 show (τ.o.set id b)[id]? = some b
 exact List.getElem?_set_self h
def zbq8 (l:List ac):Ob:=⟨r7,l.flatMap ac.cells⟩
theorem zb64 (x:ac):(ac.cells x).length = 5:=rfl
inductive zbxr (τ0 τ:TH):TV → List ac → Prop
 | nil:zbxr τ0 τ .slz []
 | obj (id n:Nat) (l:List ac) (hn:l.length = n) (hne:n ≠ 0) (h0:τ0.next ≤ id) (h1:id < τ.next) (ha:τ.at id = some (zbq8 l)):zbxr τ0 τ (.slm id 0 n 5) l
def zb2v (a b:Nat):ac:=⟨(a:Int),(b:Int),0,⟨#[]⟩,0⟩
def zb65 (n:Nat):Nat → Nat → List ac → List ac
 | 0,_,l => l
 | k + 1,i,l => zb65 n k (i + 1) (l ++ [zb2v i ((i + 1) % n)])
theorem zcgg (l:List ac) (a b:Nat):(⟨r7,l.flatMap ac.cells ++ [.int .i64 (a:Int),.int .i64 (b:Int),.int .i64 0,.str ⟨#[]⟩,.int .i64 0]⟩:Ob) = zbq8 (l ++ [zb2v a b]):=by
 unfold zbq8; rw [List.flatMap_append]; rfl
theorem zcc7 (n:Nat) (hn:n ≤ 6) (bits led:Int) (τ0:TH) (hl0:τ0.lock ≤ τ0.next) (Q:TEx → ap) (k:Nat):∀ (i:Nat) (l:List ac) (v:TV) (τ:TH),k + i = n → l.length = i → j5 τ0 τ → zbxr τ0 τ v l →
 (∀ v τ,j5 τ0 τ → zbxr τ0 τ v (zb65 n k i l) → Q (.exit 0) [(0,.int .i64 n),(1,.int .i64 bits),(2,.int .i64 led),(7,v),(8,.int .i64 n),(14,.bool false)] [] τ) →
 tW G (.loop [0,1,2,7,8] zb8q) Q [(0,.int .i64 n),(1,.int .i64 bits),(2,.int .i64 led),(7,v),(8,.int .i64 (i:Int))] [] τ:=by
 induction k with
 | zero =>
  intro i l v τ hi hl hg hv hQ
  obtain rfl:i = n:=by omega
  have c:¬ (i:Int) < (i:Int):=by omega
  refine mo fun LQ hnx hr he => ?_
  cases hv with
  | nil =>
   simp only [zb8q,gh,TT,Ic.t,ci,reduceEqDiff,reduceAdd,reduceLeDiff,reduceCtorEq,c,he]
   exact hQ _ _ hg .nil
  | obj id m l hm hne h0 h1 ha =>
   simp only [zb8q,gh,TT,Ic.t,ci,reduceEqDiff,reduceAdd,reduceLeDiff,reduceCtorEq,c,he]
   exact hQ _ _ hg (.obj id m l hm hne h0 h1 ha)
 | succ k ih =>
  intro i l v τ hi hl hg hv hQ
  have c:(i:Int) < (n:Int):=by omega
  have c0:¬ (n:Int) = 0:=by omega
  have w1:IntKind.i64.wrap ((i:Int) + 1) = ((i + 1:Nat):Int):=by rw [wA (by omega) (by omega)]; omega
  have w2:Int.tmod ((i + 1:Nat):Int) (n:Int) = (((i + 1) % n:Nat):Int):=by rw [Int.tmod_eq_emod_of_nonneg (by omega)]; omega
  have hlk:τ.lock ≤ τ.next:=by have:=hg.lock; have:=hg.next; omega
  have lt:¬ τ.next < τ.next:=by omega
  refine mo fun LQ hnx hr he => ?_
  cases hv with
  | nil =>
   have e:=zcgg [] i ((i + 1) % n)
   simp only [List.flatMap_nil,List.nil_append] at e
   have m1:1 ≤ maxLen:=by unfold maxLen; omega
   simp only [zb8q,gh,TT,Ic.t,ci,reduceEqDiff,reduceAdd,reduceLeDiff,reduceCtorEq,c,c0,w1,w2,m1]
   rw [hnx]
   simp only [TT,reduceEqDiff,reduceCtorEq,List.flatMap_cons,List.flatMap_nil,lt,e]
   exact ih (i + 1) _ _ _ (by omega) (by simp at hl ⊢; omega) (hg.push _) (.obj τ.next 1 [zb2v i ((i + 1) % n)] rfl (by omega) hg.next (by rw [jm]; omega) zb3n) hQ
  | obj id m l hm hne h0 h1 ha =>
   have e:=zcgg l i ((i + 1) % n)
   have m1:m + 1 ≤ maxLen:=by unfold maxLen; omega
   have m2:(m + 1) * 48 ≤ 140737488355328:=by omega
   have f5:(l.flatMap ac.cells).length = m * 5:=by rw [za6y zb64,hm]
   have hw:τ.lock ≤ id:=by have:=hg.lock; omega
   simp only [zb8q,gh,TT,Ic.t,ci,reduceEqDiff,reduceAdd,reduceLeDiff,reduceCtorEq,c,c0,w1,w2,m1,m2,ha,zbq8,f5,hne,hw]
   rw [hnx]
   simp only [TT,reduceEqDiff,reduceCtorEq,List.flatMap_cons,List.flatMap_nil,lt,e]
   exact ih (i + 1) _ _ _ (by omega) (by simp; omega) ((hg.put h0 _).push _) (.obj τ.next (m + 1) (l ++ [zb2v i ((i + 1) % n)]) (by simp; omega) (by omega) hg.next (by rw [jm,br]; omega) zcoa) hQ
def zbje (n a b:Nat) (s:List ac × Nat):List ac × Nat :=
 if a = b ∨ b = (a + 1) % n then s else (if s.2 % 2 = 1 ∧ s.1.length < 8 then s.1 ++ [zb2v a b] else s.1,s.2 / 2)
def za14 (n a:Nat):Nat → Nat → List ac × Nat → List ac × Nat
 | 0,_,s => s
 | k + 1,b,s => za14 n a k (b + 1) (zbje n a b s)
def zbwo (n:Nat):Nat → Nat → List ac × Nat → List ac × Nat
 | 0,_,s => s
 | k + 1,a,s => zbwo n k (a + 1) (za14 n a n 0 s)
set_option maxHeartbeats 1000000 in
theorem zcc5 (n a:Nat) (hn:n ≤ 6) (ha6:a < n) (led:Int) (τ0:TH) (hl0:τ0.lock ≤ τ0.next) (Q:TEx → ap) (k:Nat):∀ (b:Nat) (l:List ac) (bits:Nat) (v:TV) (τ:TH),k + b = n → l.length ≤ 8 → bits ≤ 4294967296 → j5 τ0 τ → zbxr τ0 τ v l →
 (∀ v τ,j5 τ0 τ → zbxr τ0 τ v (za14 n a k b (l,bits)).1 → (za14 n a k b (l,bits)).1.length ≤ 8 → (za14 n a k b (l,bits)).2 ≤ 4294967296 → Q (.exit 4) [(0,.int .i64 n),(1,.int .i64 ((za14 n a k b (l,bits)).2:Nat)),(2,.int .i64 led),(7,v),(9,.int .i64 (a:Int)),(10,.int .i64 n),(33,.bool false)] [] τ) →
 tW G (.loop [0,1,2,7,9,10] lc) Q [(0,.int .i64 n),(1,.int .i64 (bits:Int)),(2,.int .i64 led),(7,v),(9,.int .i64 (a:Int)),(10,.int .i64 (b:Int))] [] τ:=by
 induction k with
 | zero =>
  intro b l bits v τ hi hl hb hg hv hQ
  obtain rfl:b = n:=by omega
  have c:¬ (b:Int) < (b:Int):=by omega
  refine mo fun LQ hnx hr he => ?_
  cases hv with
  | nil =>
   simp only [lc,gh,TT,Ic.t,ci,reduceEqDiff,reduceCtorEq,c,he]
   exact hQ _ _ hg .nil hl hb
  | obj id m l hm hne h0 h1 ha =>
   simp only [lc,gh,TT,Ic.t,ci,reduceEqDiff,reduceCtorEq,c,he]
   exact hQ _ _ hg (.obj id m l hm hne h0 h1 ha) hl hb
 | succ k ih =>
  intro b l bits v τ hi hl hb hg hv hQ
  have c:(b:Int) < (n:Int):=by omega
  have c0:¬ (n:Int) = 0:=by omega
  have w1:IntKind.i64.wrap ((b:Int) + 1) = ((b + 1:Nat):Int):=by rw [wA (by omega) (by omega)]; omega
  have w0:IntKind.i64.wrap ((a:Int) + 1) = ((a + 1:Nat):Int):=by rw [wA (by omega) (by omega)]; omega
  have w2:Int.tmod ((a + 1:Nat):Int) (n:Int) = (((a + 1) % n:Nat):Int):=by rw [Int.tmod_eq_emod_of_nonneg (by omega)]; omega
  have w3:Int.tmod (bits:Int) 2 = ((bits % 2:Nat):Int):=by rw [Int.tmod_eq_emod_of_nonneg (by omega)]; omega
  have w4:IntKind.i64.wrap (Int.tdiv (bits:Int) 2) = ((bits / 2:Nat):Int):=by rw [Int.tdiv_eq_ediv_of_nonneg (by omega),wA (by omega) (by omega)]; omega
  have hlk:τ.lock ≤ τ.next:=by have:=hg.lock; have:=hg.next; omega
  have lt:¬ τ.next < τ.next:=by omega
  have go:zbje n a b (l,bits) = zbje n a b (l,bits):=rfl
  refine mo fun LQ hnx hr he => ?_
  by_cases x1:(a:Int) = (b:Int)
  · have st:zbje n a b (l,bits) = (l,bits):=if_pos (.inl (by omega))
    have hQ':=hQ
    simp only [za14,st] at hQ'
    cases hv with
    | nil =>
     simp only [lc,gh,TT,Ic.t,ci,reduceEqDiff,reduceCtorEq,reduceEq,c,w1,eq_true x1]
     rw [hnx]
     simp only [TT,reduceEqDiff,reduceCtorEq]
     exact ih (b + 1) _ _ _ _ (by omega) hl (by omega) hg .nil hQ'
    | obj id m l hm hne h0 h1 ha =>
     subst hm
     simp only [lc,gh,TT,Ic.t,ci,reduceEqDiff,reduceCtorEq,reduceEq,c,w1,eq_true x1]
     rw [hnx]
     simp only [TT,reduceEqDiff,reduceCtorEq,h1]
     exact ih (b + 1) _ _ _ _ (by omega) hl (by omega) hg (.obj id _ l rfl hne h0 h1 ha) hQ'
  · by_cases x2:(b:Int) = (((a + 1) % n:Nat):Int)
    · have st:zbje n a b (l,bits) = (l,bits):=if_pos (.inr (by omega))
      have hQ':=hQ
      simp only [za14,st] at hQ'
      cases hv with
      | nil =>
       simp only [lc,gh,TT,Ic.t,ci,reduceEqDiff,reduceCtorEq,reduceEq,c,c0,w0,w1,w2,x1,eq_true x2]
       rw [hnx]
       simp only [TT,reduceEqDiff,reduceCtorEq]
       exact ih (b + 1) _ _ _ _ (by omega) hl (by omega) hg .nil hQ'
      | obj id m l hm hne h0 h1 ha =>
       subst hm
       simp only [lc,gh,TT,Ic.t,ci,reduceEqDiff,reduceCtorEq,reduceEq,c,c0,w0,w1,w2,x1,eq_true x2]
       rw [hnx]
       simp only [TT,reduceEqDiff,reduceCtorEq,h1]
       exact ih (b + 1) _ _ _ _ (by omega) hl (by omega) hg (.obj id _ l rfl hne h0 h1 ha) hQ'
    · have nx:¬ (a = b ∨ b = (a + 1) % n):=by omega
      by_cases x3:((bits % 2:Nat):Int) = 1
      · by_cases x4:(l.length:Int) < 8
        · have st:zbje n a b (l,bits) = (l ++ [zb2v a b],bits / 2):=by
           unfold zbje
           rw [if_neg nx,if_pos ⟨by show bits % 2 = 1; omega,by show l.length < 8; omega⟩]
          have hQ':=hQ
          simp only [za14,st] at hQ'
          cases hv with
          | nil =>
           have e:=zcgg [] a b
           simp only [List.flatMap_nil,List.nil_append] at e
           have m1:1 ≤ maxLen:=by unfold maxLen; omega
           simp only [lc,gh,TT,Ic.t,ci,reduceEqDiff,reduceAdd,reduceLeDiff,reduceCtorEq,reduceEq,Int.reduceLT,c,c0,w0,w1,w2,w3,w4,x1,x2,eq_true x3,m1]
           rw [hnx]
           simp only [TT,reduceEqDiff,reduceCtorEq,List.flatMap_cons,List.flatMap_nil,lt,e]
           exact ih (b + 1) _ _ _ _ (by omega) (by simp) (by omega) (hg.push _) (.obj τ.next 1 [zb2v a b] rfl (by omega) hg.next (by rw [jm]; omega) zb3n) hQ'
          | obj id m l hm hne h0 h1 ha =>
           have e:=zcgg l a b
           subst hm
           have m1:l.length + 1 ≤ maxLen:=by unfold maxLen; omega
           have m2:(l.length + 1) * 48 ≤ 140737488355328:=by omega
           have f5:(l.flatMap ac.cells).length = l.length * 5:=za6y zb64 l
           have hw:τ.lock ≤ id:=by have:=hg.lock; omega
           simp only [lc,gh,TT,Ic.t,ci,reduceEqDiff,reduceAdd,reduceLeDiff,reduceCtorEq,reduceEq,c,c0,w0,w1,w2,w3,w4,x1,x2,eq_true x3,x4,m1,m2,ha,zbq8,f5,hne,hw]
           rw [hnx]
           simp only [TT,reduceEqDiff,reduceCtorEq,List.flatMap_cons,List.flatMap_nil,lt,e]
           exact ih (b + 1) _ _ _ _ (by omega) (by simp; omega) (by omega) ((hg.put h0 _).push _) (.obj τ.next (l.length + 1) (l ++ [zb2v a b]) (by simp) (by omega) hg.next (by rw [jm,br]; omega) zcoa) hQ'
        · have st:zbje n a b (l,bits) = (l,bits / 2):=by
           unfold zbje
           rw [if_neg nx,if_neg (fun h => x4 (by have:=h.2; show (l.length:Int) < 8; simp only at this; omega))]
          have hQ':=hQ
          simp only [za14,st] at hQ'
          cases hv with
          | nil => exact (x4 (by simp)).elim
          | obj id m l hm hne h0 h1 ha =>
           subst hm
           simp only [lc,gh,TT,Ic.t,ci,reduceEqDiff,reduceAdd,reduceLeDiff,reduceCtorEq,reduceEq,c,c0,w0,w1,w2,w3,w4,x1,x2,eq_true x3,x4]
           rw [hnx]
           simp only [TT,reduceEqDiff,reduceCtorEq,h1]
           exact ih (b + 1) _ _ _ _ (by omega) hl (by omega) hg (.obj id _ l rfl hne h0 h1 ha) hQ'
      · have st:zbje n a b (l,bits) = (l,bits / 2):=by
         unfold zbje
         rw [if_neg nx,if_neg (fun h => x3 (by have:=h.1; simp only at this; omega))]
        have hQ':=hQ
        simp only [za14,st] at hQ'
        cases hv with
        | nil =>
         simp only [lc,gh,TT,Ic.t,ci,reduceEqDiff,reduceAdd,reduceLeDiff,reduceCtorEq,reduceEq,c,c0,w0,w1,w2,w3,w4,x1,x2,x3]
         rw [hnx]
         simp only [TT,reduceEqDiff,reduceCtorEq]
         exact ih (b + 1) _ _ _ _ (by omega) hl (by omega) hg .nil hQ'
        | obj id m l hm hne h0 h1 ha =>
         subst hm
         simp only [lc,gh,TT,Ic.t,ci,reduceEqDiff,reduceAdd,reduceLeDiff,reduceCtorEq,reduceEq,c,c0,w0,w1,w2,w3,w4,x1,x2,x3]
         rw [hnx]
         simp only [TT,reduceEqDiff,reduceCtorEq,h1]
         exact ih (b + 1) _ _ _ _ (by omega) hl (by omega) hg (.obj id _ l rfl hne h0 h1 ha) hQ'
theorem j5.cutN {τ0 τ:TH} (h:j5 τ0 τ) {m:Nat} (hm:τ0.next ≤ m):j5 τ0 (τ.cut m):=by
 refine ⟨h.lock,?_,by rw [zb3q hm]; exact h.cut⟩
 show τ0.o.length ≤ (τ.o.take m).length
 have:=h.next
 rw [List.length_take]
 unfold TH.next at *
 omega
theorem zbxr.cutN {τ0 τ:TH} {m id n:Nat} {l:List ac} (hn:l.length = n) (hne:n ≠ 0) (h0:τ0.next ≤ id) (h1:id < τ.next) (ha:τ.at id = some (zbq8 l)) (hm:id < m):zbxr τ0 (τ.cut m) (.slm id 0 n 5) l:=by
 refine .obj id n l hn hne h0 ?_ ?_
 · show id < (τ.o.take m).length
   rw [List.length_take]
   unfold TH.next at h1
   omega
 · show (τ.o.take m)[id]? = _
   rw [List.getElem?_take,if_pos hm]; exact ha
theorem zcg2 (τ:TH) (n:Nat):(τ.cut n).cut n = τ.cut n:=zb3q (Nat.le_refl _)
set_option maxHeartbeats 1000000 in
theorem zcc6 (n:Nat) (hn:n ≤ 6) (led:Int) (τ0:TH) (hl0:τ0.lock ≤ τ0.next) (Q:TEx → ap) (k:Nat):∀ (a:Nat) (l:List ac) (bits:Nat) (v:TV) (τ:TH),k + a = n → l.length ≤ 8 → bits ≤ 4294967296 → j5 τ0 τ → zbxr τ0 τ v l →
 (∀ v τ,j5 τ0 τ → zbxr τ0 τ v (zbwo n k a (l,bits)).1 → (zbwo n k a (l,bits)).1.length ≤ 8 → (zbwo n k a (l,bits)).2 ≤ 4294967296 → Q (.exit 2) [(0,.int .i64 n),(1,.int .i64 ((zbwo n k a (l,bits)).2:Nat)),(2,.int .i64 led),(7,v),(9,.int .i64 n),(28,.bool false)] [] τ) →
 tW G (.loop [0,1,2,7,9] zb8r) Q [(0,.int .i64 n),(1,.int .i64 (bits:Int)),(2,.int .i64 led),(7,v),(9,.int .i64 (a:Int))] [] τ:=by
 induction k with
 | zero =>
  intro a l bits v τ hi hl hb hg hv hQ
  obtain rfl:a = n:=by omega
  have c:¬ (a:Int) < (a:Int):=by omega
  refine mo fun LQ hnx hr he => ?_
  cases hv with
  | nil =>
   simp only [zb8r,gh,TT,Ic.t,ci,reduceEqDiff,reduceCtorEq,c,he]
   exact hQ _ _ hg .nil hl hb
  | obj id m l hm hne h0 h1 ha =>
   simp only [zb8r,gh,TT,Ic.t,ci,reduceEqDiff,reduceCtorEq,c,he]
   exact hQ _ _ hg (.obj id m l hm hne h0 h1 ha) hl hb
 | succ k ih =>
  intro a l bits v τ hi hl hb hg hv hQ
  have c:(a:Int) < (n:Int):=by omega
  have w1:IntKind.i64.wrap ((a:Int) + 1) = ((a + 1:Nat):Int):=by rw [wA (by omega) (by omega)]; omega
  have hlk:τ.lock ≤ τ.next:=by have:=hg.lock; have:=hg.next; omega
  refine mo fun LQ hnx hr he => ?_
  have inner:=fun Q hq => zcc5 n a hn (by omega) led τ0 hl0 Q n 0 l bits v τ rfl hl hb hg hv hq
  cases hv with
  | nil =>
   simp only [zb8r,gh,TT,Ic.t,ci,reduceEqDiff,reduceCtorEq,c]
   refine inner _ fun v τ' hg' hv' hl' hb' => ?_
   have hQ':=hQ
   simp only [zbwo] at hQ'
   generalize za14 n a n 0 ([],bits) = s at hv' hl' hb' hQ' ⊢
   obtain ⟨l2,b2⟩:=s
   simp only at hv' hl' hb' hQ' ⊢
   cases hv' with
   | nil =>
    simp only [TT,Ic.t,reduceEqDiff,reduceCtorEq,w1]
    rw [hnx]
    simp only [TT,reduceEqDiff,reduceCtorEq,zcg2]
    exact ih (a + 1) _ _ _ _ (by omega) hl' hb' (hg'.cutN hg.next) .nil hQ'
   | obj id' m' l' hm' hne' h0' h1' ha' =>
    by_cases hid:id' < τ.next
    · simp only [TT,Ic.t,reduceEqDiff,reduceCtorEq,w1,hid]
      rw [hnx]
      simp only [TT,reduceEqDiff,reduceCtorEq,hid,zcg2]
      exact ih (a + 1) _ _ _ _ (by omega) hl' hb' (hg'.cutN hg.next) (.cutN hm' hne' h0' h1' ha' hid) hQ'
    · simp only [TT,Ic.t,reduceEqDiff,reduceCtorEq,w1,hid]
      rw [hnx]
      simp only [TT,reduceEqDiff,reduceCtorEq,hid]
      exact ih (a + 1) _ _ _ _ (by omega) hl' hb' hg' (.obj id' m' l2 hm' hne' h0' h1' ha') hQ'
  | obj id m l hm hne h0 h1 ha =>
   simp only [zb8r,gh,TT,Ic.t,ci,reduceEqDiff,reduceCtorEq,c]
   refine inner _ fun v τ' hg' hv' hl' hb' => ?_
   have hQ':=hQ
   simp only [zbwo] at hQ'
   generalize za14 n a n 0 (l,bits) = s at hv' hl' hb' hQ' ⊢
   obtain ⟨l2,b2⟩:=s
   simp only at hv' hl' hb' hQ' ⊢
   cases hv' with
   | nil =>
    simp only [TT,Ic.t,reduceEqDiff,reduceCtorEq,w1]
    rw [hnx]
    simp only [TT,reduceEqDiff,reduceCtorEq,zcg2]
    exact ih (a + 1) _ _ _ _ (by omega) hl' hb' (hg'.cutN hg.next) .nil hQ'
   | obj id' m' l' hm' hne' h0' h1' ha' =>
    by_cases hid:id' < τ.next
    · simp only [TT,Ic.t,reduceEqDiff,reduceCtorEq,w1,hid]
      rw [hnx]
      simp only [TT,reduceEqDiff,reduceCtorEq,hid,zcg2]
      exact ih (a + 1) _ _ _ _ (by omega) hl' hb' (hg'.cutN hg.next) (.cutN hm' hne' h0' h1' ha' hid) hQ'
    · simp only [TT,Ic.t,reduceEqDiff,reduceCtorEq,w1,hid]
      rw [hnx]
      simp only [TT,reduceEqDiff,reduceCtorEq,hid]
      exact ih (a + 1) _ _ _ _ (by omega) hl' hb' hg' (.obj id' m' l2 hm' hne' h0' h1' ha') hQ'
def zb6q (bits led i:Nat) (x:ac):ac :=
 { x with Ledger:=(((i + led) % (1 + led % 3):Nat):Int),Asset:=if (i + bits) % 2 = 0 then ⟨#[103,111,108,100]⟩ else ⟨#[115,97,108,116]⟩,Amount:=((1 + (7 * i + led) % 20:Nat):Int) }
def zb4h (bits led:Nat):Nat → Nat → List ac → List ac
 | 0,_,l => l
 | k + 1,i,l => match l[i]? with
  | some x => zb4h bits led k (i + 1) (l.set i (zb6q bits led i x))
  | none => l
theorem zca7 (l:List ac) (i:Nat) (h:i < l.length) (x:ac) (hx:l[i] = x) (A B:Int) (g:ByteArray) :
 (((l.flatMap ac.cells).set (i * 5 + 2) (.int .i64 A)).set (i * 5 + 3) (.str g)).set (i * 5 + 4) (.int .i64 B) = (l.set i { x with Ledger:=A,Asset:=g,Amount:=B }).flatMap ac.cells:=by
 have s1:=zb86 zb64 (j:=2) (v:=.int .i64 A) (y:={ x with Ledger:=A }) (by decide) l i h (by rw [hx]; rfl)
 have s2:=zb86 zb64 (j:=3) (v:=.str g) (y:={ x with Ledger:=A,Asset:=g }) (by decide) (l.set i { x with Ledger:=A }) i (by rw [List.length_set]; exact h) (by rw [List.getElem_set_self]; rfl)
 have s3:=zb86 zb64 (j:=4) (v:=.int .i64 B) (y:={ x with Ledger:=A,Asset:=g,Amount:=B }) (by decide) (l.set i { x with Ledger:=A,Asset:=g }) i (by rw [List.length_set]; exact h) (by rw [List.getElem_set_self]; rfl)
 rw [List.set_set] at s2 s3
 rw [s1,s2,s3]
theorem zcpv (bits led i:Nat) (x:ac) (g:ByteArray) (h:(if (i + bits) % 2 = 0 then (⟨#[103,111,108,100]⟩:ByteArray) else ⟨#[115,97,108,116]⟩) = g):({ x with Ledger:=(((i + led) % (1 + led % 3):Nat):Int),Asset:=g,Amount:=((1 + (7 * i + led) % 20:Nat):Int) }:ac) = zb6q bits led i x:=by
 rw [← h]; rfl
set_option maxHeartbeats 1000000 in
theorem zb2u (bits led:Nat) (hbits:bits ≤ 4294967296) (hled:led ≤ 4294967296) (N:Nat) (hN:N ≤ 20) (τ0:TH) (hl0:τ0.lock ≤ τ0.next) (id:Nat) (h0:τ0.next ≤ id) (Q:TEx → ap) (k:Nat):∀ (i:Nat) (l:List ac) (τ:TH),k + i = N → l.length = N → j5 τ0 τ → id < τ.next → τ.at id = some (zbq8 l) →
 (∀ τ,j5 τ0 τ → id < τ.next → τ.at id = some (zbq8 (zb4h bits led k i l)) → (zb4h bits led k i l).length = N → Q (.exit 6) [(1,.int .i64 bits),(2,.int .i64 led),(7,.slm id 0 N 5),(11,.int .i64 N),(66,.bool false)] [] τ) →
 tW G (.loop [1,2,7,11] zb9z) Q [(1,.int .i64 bits),(2,.int .i64 led),(7,.slm id 0 N 5),(11,.int .i64 (i:Int))] [] τ:=by
 induction k with
 | zero =>
  intro i l τ hi hl hg h1 ha hQ
  obtain rfl:i = N:=by omega
  have c:¬ (i:Int) < (i:Int):=by omega
  refine mo fun LQ hnx hr he => ?_
  simp only [zb9z,gh,TT,Ic.t,ci,reduceEqDiff,reduceCtorEq,reduceEq,c,he]
  exact hQ _ hg h1 ha hl
 | succ k ih =>
  intro i l τ hi hl hg h1 ha hQ
  have hil:i < l.length:=by omega
  have c:(i:Int) < (N:Int):=by omega
  have ci:(0:Int) ≤ (i:Int):=by omega
  have w1:IntKind.i64.wrap ((i:Int) + 1) = ((i + 1:Nat):Int):=by rw [wA (by omega) (by omega)]; omega
  have v1:IntKind.i64.wrap ((i:Int) + (led:Int)) = ((i + led:Nat):Int):=by rw [wA (by omega) (by omega)]; omega
  have v2:Int.tmod (led:Int) 3 = ((led % 3:Nat):Int):=by rw [Int.tmod_eq_emod_of_nonneg (by omega)]; omega
  have v3:IntKind.i64.wrap (1 + ((led % 3:Nat):Int)) = ((1 + led % 3:Nat):Int):=by rw [wA (by omega) (by omega)]; omega
  have v3':¬ ((1 + led % 3:Nat):Int) = 0:=by omega
  have v4:Int.tmod ((i + led:Nat):Int) ((1 + led % 3:Nat):Int) = (((i + led) % (1 + led % 3):Nat):Int):=by rw [Int.tmod_eq_emod_of_nonneg (by omega)]; rfl
  have v5:IntKind.i64.wrap ((i:Int) + (bits:Int)) = ((i + bits:Nat):Int):=by rw [wA (by omega) (by omega)]; omega
  have v6:IntKind.i64.wrap (7 * (i:Int)) = ((7 * i:Nat):Int):=by rw [wA (by omega) (by omega)]; omega
  have v7:IntKind.i64.wrap (((7 * i:Nat):Int) + (led:Int)) = ((7 * i + led:Nat):Int):=by rw [wA (by omega) (by omega)]; omega
  have v8:Int.tmod ((7 * i + led:Nat):Int) 20 = (((7 * i + led) % 20:Nat):Int):=by rw [Int.tmod_eq_emod_of_nonneg (by omega)]; omega
  have v9:IntKind.i64.wrap (1 + (((7 * i + led) % 20:Nat):Int)) = ((1 + (7 * i + led) % 20:Nat):Int):=by rw [wA (by omega) (by omega)]; omega
  have hlk:τ.lock ≤ τ.next:=by have:=hg.lock; have:=hg.next; omega
  have hw:τ.lock ≤ id:=by have:=hg.lock; omega
  have f5:(l.flatMap ac.cells).length = N * 5:=by rw [za6y zb64,hl]
  have o2:i * 5 + 2 + 1 ≤ N * 5:=by omega
  have o3:i * 5 + 3 + 1 ≤ N * 5:=by omega
  have o4:i * 5 + 4 + 1 ≤ N * 5:=by omega
  obtain ⟨x,hx⟩:∃ x,l[i] = x:=⟨_,rfl⟩
  have hd:zb4h bits led (k + 1) i l = zb4h bits led k (i + 1) (l.set i (zb6q bits led i x)):=by
   rw [zb4h,List.getElem?_eq_getElem hil,hx]
  have hQ':=hQ
  rw [hd] at hQ'
  refine mo fun LQ hnx hr he => ?_
  by_cases p:(i + bits) % 2 = 0
  · have v6':Int.tmod ((i + bits:Nat):Int) 2 = 0:=by rw [Int.tmod_eq_emod_of_nonneg (by omega)]; omega
    simp only [zb9z,gh,TT,Ic.t,reduceEqDiff,reduceAdd,reduceLeDiff,reduceCtorEq,reduceEq,reduceLE,c,ci,w1,v1,v2,v3,v3',v4,v5,v6,v6',v7,v8,v9,ha,h1,hw,zbq8,f5,o2]
    refine ⟨by decide,by rw [List.length_set,f5]; omega,by rw [List.length_set,List.length_set,f5]; omega,?_⟩
    rw [zca7 l i hil x hx,zcpv bits led i x _ (if_pos p)]
    rw [hnx]
    simp only [TT,reduceEqDiff,h1]
    exact ih (i + 1) _ _ (by omega) (by rw [List.length_set]; exact hl) (hg.put h0 _) (by rw [br]; exact h1) (zbw9 h1) hQ'
  · have v6':Int.tmod ((i + bits:Nat):Int) 2 = 1:=by rw [Int.tmod_eq_emod_of_nonneg (by omega)]; omega
    simp only [zb9z,gh,TT,Ic.t,reduceEqDiff,reduceAdd,reduceLeDiff,reduceCtorEq,reduceEq,reduceToNat,reduceLE,c,ci,w1,v1,v2,v3,v3',v4,v5,v6,v6',v7,v8,v9,ha,h1,hw,zbq8,f5,o2]
    refine ⟨by decide,by rw [List.length_set,f5]; omega,by rw [List.length_set,List.length_set,f5]; omega,?_⟩
    rw [zca7 l i hil x hx,zcpv bits led i x _ (if_neg p)]
    rw [hnx]
    simp only [TT,reduceEqDiff,h1]
    exact ih (i + 1) _ _ (by omega) (by rw [List.length_set]; exact hl) (hg.put h0 _) (by rw [br]; exact h1) (zbw9 h1) hQ'
theorem zbzp (n k:Nat):∀ (i:Nat) (l:List ac),(zb65 n k i l).length = l.length + k:=by
 induction k with
 | zero => intro i l; rfl
 | succ k ih => intro i l; rw [zb65,ih,List.length_append]; simp; omega
def zac7 (n bits led:Nat):List ac :=
 let s:=zbwo n n 0 (zb65 n n 0 [],bits)
 zb4h s.2 led s.1.length 0 s.1
theorem zbyh (n a b:Nat) (s:List ac × Nat):s.1.length ≤ (zbje n a b s).1.length:=by
 unfold zbje
 split
 · exact Nat.le_refl _
 · show _ ≤ (if _ then _ else _:List ac).length
   split
   · simp
   · exact Nat.le_refl _
theorem zb66 (n a k:Nat):∀ (b:Nat) (s:List ac × Nat),s.1.length ≤ (za14 n a k b s).1.length:=by
 induction k with
 | zero => intro b s; exact Nat.le_refl _
 | succ k ih => intro b s; rw [za14]; exact Nat.le_trans (zbyh ..) (ih ..)
theorem zb67 (n k:Nat):∀ (a:Nat) (s:List ac × Nat),s.1.length ≤ (zbwo n k a s).1.length:=by
 induction k with
 | zero => intro b s; exact Nat.le_refl _
 | succ k ih => intro b s; rw [zbwo]; exact Nat.le_trans (zb66 ..) (ih ..)
theorem zb69 {τ:TH} {m id:Nat} (h:id < m):(τ.cut m).at id = τ.at id:=by
 show (τ.o.take m)[id]? = τ.o[id]?
 rw [List.getElem?_take,if_pos h]
theorem zbz4 {τ:TH} {m id:Nat} (h:id < τ.next) (hm:id < m):id < (τ.cut m).next:=by
 show id < (τ.o.take m).length
 rw [List.length_take]
 unfold TH.next at h
 omega
theorem zbrx {f:TV → Option TV}:∀ {l:List TV},(∀ v ∈ l,f v = some v) → j6 f l = some l
 | [],_ => rfl
 | v :: r,h => by
  have e:=zbrx (l:=r) (fun w hw => h w (List.mem_cons_of_mem _ hw))
  simp only [j6,h v (List.mem_cons_self ..),e]
theorem zbt8 {f:TV → TV}:∀ {l:List TV},(∀ v ∈ l,f v = v) → l.map f = l
 | [],_ => rfl
 | v :: r,h => by rw [List.map_cons,h v (by simp),zbt8 (fun w hw => h w (List.mem_cons_of_mem _ hw))]
theorem zbu9 {α:Type} {c:α → List TV} {k:Nat} {e:α → TV} (hk:k ≠ 0) (hc:∀ x,(c x).length = k) (he:∀ x,zac6 (c x) = e x) (τ:TH) (n0 id m:Nat) (t:TypeId) (l:List α) (h0:n0 ≤ id) (ha:τ.at id = some ⟨t,l.flatMap c⟩) (hl:l.length = m)
 (hf:∀ x,∀ v ∈ c x,mz τ n0 1 v = some v ∧ v.rd = v):mz τ n0 2 (.slm id 0 m k) = some (.sl (l.map e)):=by
 have hx:∀ v ∈ l.flatMap c,mz τ n0 1 v = some v ∧ v.rd = v:=fun v hv => by
  obtain ⟨x,_,hv⟩:=List.mem_flatMap.1 hv
  exact hf x v hv
 subst hl
 have tr:sa τ id 0 (l.length * k) = some (l.flatMap c):=by
  unfold sa
  rw [ha]
  simp only [Option.bind_some,za6y hc,Nat.zero_add,Nat.le_refl,if_true,List.drop_zero,zbvb hc]
  rw [zbt8 fun v hv => (hx v hv).2]
 have n1:¬ (k = 0 ∨ id < n0):=by omega
 show (if k = 0 ∨ id < n0 then none else (sa τ id 0 (l.length * k)).bind fun l' => (j6 (mz τ n0 1) l').map fun l' => TV.sl (zbk5 k l.length l')) = _
 rw [if_neg n1,tr,Option.bind_some,zbrx fun v hv => (hx v hv).1,Option.map_some,zcly hc he]
theorem zcd8 {τ0 τ:TH} {id m:Nat} {l:List ac} (hg:j5 τ0 τ) (h0:τ0.next ≤ id) (ha:τ.at id = some (zbq8 l)) (hl:l.length = m) (K:TV → TH → Prop):fzK (mz τ τ0.next 2 (.slm id 0 m 5)) τ0 K τ = K (.sl (l.map ac.tv)) τ0:=by
 rw [zbu9 (e:=ac.tv) (by decide) zb64 (fun _ => rfl) τ τ0.next id m _ l h0 ha hl (fun x v hv => by
  simp only [ac.cells,List.mem_cons,List.not_mem_nil,or_false] at hv
  rcases hv with rfl | rfl | rfl | rfl | rfl <;> exact ⟨rfl,rfl⟩)]
 show K _ (τ.cut τ0.next) = _
 rw [hg.cut]
theorem zb63 (n bits led:Nat) (hn1:1 ≤ n) (hn:n ≤ 6) (hb:bits ≤ 4294967296) (hled:led ≤ 4294967296) (τ:TH) (hl:τ.lock ≤ τ.next):Ru G zb7z [.int .i64 n,.int .i64 bits,.int .i64 led] τ (.sl (List.map ac.tv (zac7 n bits led))) τ:=by
 refine gp fun K hK => ?_
 rw [bc zbp3 (Nat.le_of_ble_eq_true rfl)]
 have l1:=fun Q hq => zcc7 n hn bits led τ hl Q n 0 [] .slz τ rfl rfl (j5.refl τ) .nil hq
 simp only [gh,TT,ci,reduceEqDiff,reduceAdd,reduceCtorEq]
 refine l1 _ fun v τ' hg' hv' => ?_
 have ln:(zb65 n n 0 []).length = n:=by rw [zbzp]; simp
 unfold zac7 at hK
 generalize zb65 n n 0 [] = r at hv' ln hK
 cases hv' with
 | nil => simp at ln; omega
 | obj id m _ hm hne h0 h1 ha =>
  have nid:¬ id < τ.next:=by omega
  have l2:=fun Q hq => zcc6 n hn led τ hl Q n 0 r bits (.slm id 0 m 5) τ' rfl (by omega) hb hg' (.obj id m r hm hne h0 h1 ha) hq
  simp only [TT,reduceEqDiff,reduceCtorEq,nid]
  refine l2 _ fun v τ2 hg2 hv2 hlen hb2 => ?_
  have ge:=zb67 n n 0 (r,bits)
  generalize zbwo n n 0 (r,bits) = s at hv2 hlen hb2 ge hK ⊢
  obtain ⟨r2,bits2⟩:=s
  simp only at hv2 hlen hb2 ge hK ⊢
  cases hv2 with
  | nil => simp only [List.length_nil] at ge; omega
  | obj id2 m2 _ hm2 hne2 h02 h12 ha2 =>
   have nid2:¬ id2 < τ.next:=by omega
   simp only [TT,reduceEqDiff,reduceCtorEq]
   by_cases hid:id2 < τ'.next
   · rw [if_pos hid]
     refine zb2u bits2 led hb2 hled m2 (by omega) τ hl id2 h02 _ m2 0 r2 _ rfl hm2 (hg2.cutN hg'.next) (zbz4 h12 hid) (by rw [zb69 hid]; exact ha2) fun τ3 hg3 h13 ha3 hlen3 => ?_
     simp only [TT,Ic.t,reduceEqDiff]
     rw [zcd8 hg3 h02 ha3 hlen3,zcd8 (hg3.cutN (hg2.cutN hg'.next).next) h02 (by rw [zb69 (zbz4 h12 hid)]; exact ha3) hlen3,ite_self,← hm2]
     exact hK
   · rw [if_neg hid]
     refine zb2u bits2 led hb2 hled m2 (by omega) τ hl id2 h02 _ m2 0 r2 _ rfl hm2 hg2 h12 ha2 fun τ3 hg3 h13 ha3 hlen3 => ?_
     simp only [TT,Ic.t,reduceEqDiff]
     rw [zcd8 hg3 h02 ha3 hlen3,zcd8 (hg3.cutN hg2.next) h02 (by rw [zb69 h12]; exact ha3) hlen3,ite_self,← hm2]
     exact hK
def zb9r (n bits led:Int):Option (List ac):=if (1 ≤ n ∧ n ≤ 6) ∧ (0 ≤ bits ∧ bits ≤ 4294967296) ∧ 0 ≤ led ∧ led ≤ 4294967296 then some (zac7 n.toNat bits.toNat led.toNat) else none
theorem zddn (p1 p2 p3:Int) (r:List ac) (h:zb9r p1 p2 p3 = some r) (lk:Bool) (d:Option Nat) (K:ap) (fr:TF) (tk:TK) (τ:TH) (hl:τ.lock ≤ τ.next):du G lk zb7z [.int .i64 p1,.int .i64 p2,.int .i64 p3] d K fr tk τ = K (fp fr d (.sl (List.map ac.tv r))) tk τ:=by
 obtain ⟨⟨h1,h2,h3⟩,h⟩:=ifS h
 injection h with h
 subst h
 obtain ⟨n,rfl⟩:∃ n:Nat,p1 = (n:Int):=⟨p1.toNat,by omega⟩
 obtain ⟨b,rfl⟩:∃ n:Nat,p2 = (n:Int):=⟨p2.toNat,by omega⟩
 obtain ⟨c,rfl⟩:∃ n:Nat,p3 = (n:Int):=⟨p3.toNat,by omega⟩
 simp only [Int.toNat_natCast]
 have hr:=fun τ hl => zb63 n b c (by omega) (by omega) (by omega) (by omega) τ hl
 exact au (hr _ hl) (hr _ (Nat.le_refl _)) (by simp only [TT])
end Go.Proofs.Ytjgpklmkdkkooaa
open Nat (reduceEqDiff reduceAdd reduceMul reduceLT reduceLeDiff reduceSub)
open Int (reduceToNat reduceNe reduceEq reduceNeg reduceLE)
namespace Go.Proofs.Ytjgpklmkdkkooaa
open Go Go.RowKit Sh Ic
def kcS (l:List ByteArray):TV:=match l with | [] => .slz | x :: r => .slo a9 ((x :: r).map TV.str)
theorem zcg7 (l:List ByteArray) (x:ByteArray):kcS (l ++ [x]) = .slo a9 (l.map TV.str ++ [.str x]):=by
 cases l with
 | nil => rfl
 | cons y r => show TV.slo a9 (List.map TV.str (y :: (r ++ [x]))) = _; simp
theorem zby6 (x:ByteArray) (r:List ByteArray):kcS (x :: r) = .slo a9 (TV.str x :: r.map TV.str):=rfl
structure SpB where
 ID:ByteArray
 idP:Nat
 n:Nat
 arcs:List TV
 leaders:List TV
 start:Int
 delta:Int
def SpB.ob (b:SpB) (locks:TV):Ob:=⟨bh,[.str b.ID,.slm b.idP 0 b.n 2,.sl b.arcs,.sl b.leaders,locks,.int .i64 b.start,.int .i64 b.delta]⟩
def za2e (f:Int → Option ByteArray):Nat → Nat → List ByteArray → Option (List ByteArray)
 | 0,_,l => some l
 | n + 1,k,l => f (k:Int) >>= fun x => za2e f n (k + 1) (l ++ [x])
noncomputable def zbpp (k:Int):Option ByteArray:=pj k >>= zb3y
noncomputable def zccg (i k:Int):Option ByteArray:=rh i >>= fun s => zb8k s k
theorem zb8t (τ:TH) (id:Nat) (a b:Ob):(τ.put id a).put id b = τ.put id b:=by
 show TH.mk ((τ.o.set id a).set id b) τ.lock = TH.mk (τ.o.set id b) τ.lock
 rw [List.set_set]
theorem zb55 (b:SpB) (id1 id2:Nat) (hL:b.leaders.length ≤ 6) (r:List ByteArray) (Q:TEx → ap) (m:Nat):∀ (k:Nat) (ls:List ByteArray) (τ:TH),m + k = b.leaders.length → ls.length = k → za2e zbpp m k ls = some r →
 τ.at id1 = some (b.ob (kcS ls)) → id1 < τ.next → id2 < τ.next → τ.lock ≤ id1 → τ.lock ≤ τ.next → b.idP < τ.next →
 (Q (.exit 0) [(1,.ptr id1 0),(2,.ptr id2 0),(3,.int .i64 b.leaders.length),(11,.bool false)] [] (τ.put id1 (b.ob (kcS r)))) →
 tW G (.loop [1,2,3] zb98) Q [(1,.ptr id1 0),(2,.ptr id2 0),(3,.int .i64 (k:Int))] [] τ:=by
 induction m with
 | zero =>
  intro k ls τ hi hk hr ha h1 h2 hw hl hP hQ
  obtain rfl:k = b.leaders.length:=by omega
  injection hr with hr
  subst hr
  rw [jj ha] at hQ
  have c:¬ (b.leaders.length:Int) < (b.leaders.length:Int):=by omega
  refine mo fun LQ hnx hr he => ?_
  simp only [zb98,ur,TT,Ic.t,ci,reduceEqDiff,reduceCtorEq,c,he,ha,SpB.ob]
  exact hQ
 | succ m ih =>
  intro k ls τ hi hk hr ha h1 h2 hw hl hP hQ
  obtain ⟨x,hx,hr⟩:=ob hr
  obtain ⟨s,hs,hx⟩:=ob hx
  have c:(k:Int) < (b.leaders.length:Int):=by omega
  have w1:IntKind.i64.wrap ((k:Int) + 1) = ((k + 1:Nat):Int):=by rw [wA (by omega) (by omega)]; omega
  have k1:=zclb _ _ hs
  have k2:=zc7b _ _ hx
  have m1:ls.length + 1 ≤ maxLen:=by unfold maxLen; omega
  have m2:(ls.length + 1) * 16 ≤ 140737488355328:=by omega
  refine mo fun LQ hnx hrr he => ?_
  cases ls with
  | nil =>
   have ha':τ.at id1 = some (b.ob .slz):=ha
   simp only [zb98,ur,TT,Ic.t,ci,reduceEqDiff,reduceAdd,reduceLeDiff,reduceCtorEq,c,ha',SpB.ob,h1,h2,hw,hl,w1,k1,k2]
   refine ⟨⟨by unfold maxLen; omega,by unfold maxLen; omega⟩,?_⟩
   rw [hnx]
   simp only [TT,reduceEqDiff,h1,h2]
   refine ih (k + 1) _ _ (by omega) (by simp at hk ⊢; omega) hr (by rw [zbw9 h1,zcg7]; rfl) (by rw [br]; exact h1) (by rw [br]; exact h2) hw (by rw [br]; exact hl) (by rw [br]; exact hP) ?_
   rw [zb8t]
   exact hQ
  | cons y ys =>
   have ha':τ.at id1 = some (b.ob (.slo a9 (TV.str y :: ys.map TV.str))):=ha
   simp only [zb98,ur,TT,Ic.t,ci,reduceEqDiff,reduceAdd,reduceLeDiff,reduceCtorEq,c,ha',SpB.ob,h1,h2,hw,hl,w1,k1,k2]
   simp only [List.length_cons] at m1 m2
   refine ⟨⟨by unfold maxLen; omega,zbwj (fun _ => rfl) _,by omega,by unfold maxLen; omega⟩,?_⟩
   rw [hnx]
   simp only [TT,reduceEqDiff,h1,h2]
   refine ih (k + 1) _ _ (by omega) (by simp at hk ⊢; omega) hr (by rw [zbw9 h1,zcg7]; rfl) (by rw [br]; exact h1) (by rw [br]; exact h2) hw (by rw [br]; exact hl) (by rw [br]; exact hP) ?_
   rw [zb8t]
   exact hQ
theorem zb2l {α:Type} {c:α → List TV} {k:Nat} (hc:∀ x,(c x).length = k) {j:Nat} (hj:j < k):∀ (l:List α) (i:Nat) (h:i < l.length),(l.flatMap c)[i * k + j]? = (c l[i])[j]?
 | [],i,h => by simp at h
 | x :: r,0,h => by
  rw [List.flatMap_cons,Nat.zero_mul,Nat.zero_add,List.getElem?_append_left (by rw [hc]; exact hj)]
  rfl
 | x :: r,i + 1,h => by
  have:=zb2l hc hj r i (by simpa using h)
  have a:(i + 1) * k + j = k + (i * k + j):=by rw [Nat.succ_mul]; omega
  rw [List.flatMap_cons,a,List.getElem?_append_right (by rw [hc]; omega),hc,Nat.add_sub_cancel_left,this]
  rfl
def zbqo (p:aj):List TV:=[.str p.Account,kcS p.Keys]
theorem kc2 (p:aj):(zbqo p).length = 2:=rfl
def zbq9 (l:List aj):Ob:=⟨n9,l.flatMap zbqo⟩
def zbeh (l:List aj) (t:List TV):Ob:=⟨n9,l.flatMap zbqo ++ t⟩
theorem zcra (rows:List aj) (t:List TV) (i:Nat) (h:i < rows.length) (a:ByteArray) (k k':List ByteArray) (hr:rows[i] = ⟨a,k⟩):(⟨n9,(rows.flatMap zbqo ++ t).set (i * 2 + 1) (kcS k')⟩:Ob) = zbeh (rows.set i ⟨a,k'⟩) t:=by
 unfold zbeh
 rw [List.set_append_left _ _ (by rw [za6y kc2]; omega),zb86 kc2 (y:=⟨a,k'⟩) (by decide) rows i h (by rw [hr]; rfl)]
theorem zbym (d r:List aj) (x:aj):(⟨n9,(d.flatMap zbqo ++ (x :: r).flatMap aj.cells).set (d.length * 2 + 1) .slz⟩:Ob) = zbeh (d ++ [⟨x.Account,[]⟩]) (r.flatMap aj.cells):=by
 unfold zbeh
 rw [List.set_append_right _ _ (by rw [za6y kc2]; omega),za6y kc2,Nat.add_sub_cancel_left,List.flatMap_cons,List.flatMap_append,List.append_assoc]
 rfl
theorem ry {τ:TH} {id j:Nat} {b:Ob} (h:id ≠ j):(τ.put id b).at j = τ.at j:=by
 show (τ.o.set id b)[j]? = τ.o[j]?
 exact List.getElem?_set_ne h
set_option maxHeartbeats 1000000 in
theorem zb53 (b:SpB) (lk:TV) (id1 id2 i:Nat) (hi6:i ≤ 100) (hib:i < b.n) (t:List TV) (hL:b.leaders.length ≤ 6) (a:ByteArray) (r:List ByteArray) (Q:TEx → ap) (m:Nat):∀ (k:Nat) (ks:List ByteArray) (rows:List aj) (τ:TH) (hin:i < rows.length),rows[i] = ⟨a,ks⟩ → m + k = b.leaders.length → ks.length = k → za2e (zccg i) m k ks = some r →
 τ.at id1 = some (b.ob lk) → τ.at b.idP = some (zbeh rows t) → id1 < τ.next → id2 < τ.next → τ.lock ≤ b.idP → τ.lock ≤ τ.next → b.idP < id1 →
 (Q (.exit 4) [(1,.ptr id1 0),(2,.ptr id2 0),(4,.int .i64 (i:Int)),(5,.int .i64 b.leaders.length),(38,.bool false)] [] (τ.put b.idP (zbeh (rows.set i ⟨a,r⟩) t))) →
 tW G (.loop [1,2,4,5] zb95) Q [(1,.ptr id1 0),(2,.ptr id2 0),(4,.int .i64 (i:Int)),(5,.int .i64 (k:Int))] [] τ:=by
 induction m with
 | zero =>
  intro k ks rows τ hin hrow hi hk hr ha hp h1 h2 hw hl hP hQ
  obtain rfl:k = b.leaders.length:=by omega
  injection hr with hr
  subst hr
  have e:rows.set i ⟨a,ks⟩ = rows:=by rw [← hrow]; exact List.set_getElem_self hin
  rw [e,jj hp] at hQ
  have c:¬ (b.leaders.length:Int) < (b.leaders.length:Int):=by omega
  refine mo fun LQ hnx hr he => ?_
  simp only [zb95,ur,TT,Ic.t,ci,reduceEqDiff,reduceCtorEq,c,he,ha,SpB.ob]
  exact hQ
 | succ m ih =>
  intro k ks rows τ hin hrow hi hk hr ha hp h1 h2 hw hl hP hQ
  obtain ⟨x,hx,hr⟩:=ob hr
  obtain ⟨s,hs,hx⟩:=ob hx
  have c:(k:Int) < (b.leaders.length:Int):=by omega
  have ci:(0:Int) ≤ (i:Int):=by omega
  have cin:(i:Int) < (b.n:Int):=by omega
  have w1:IntKind.i64.wrap ((k:Int) + 1) = ((k + 1:Nat):Int):=by rw [wA (by omega) (by omega)]; omega
  have k1:=zcli _ _ hs
  have k2:=zdfs _ _ _ hx
  have m1:ks.length + 1 ≤ maxLen:=by unfold maxLen; omega
  have m2:(ks.length + 1) * 16 ≤ 140737488355328:=by omega
  have f2:(rows.flatMap zbqo ++ t).length = rows.length * 2 + t.length:=by rw [List.length_append,za6y kc2 rows]
  have o2:i * 2 + 1 + 1 ≤ rows.length * 2 + t.length:=by omega
  have ne:b.idP ≠ id1:=by omega
  have hPn:b.idP < τ.next:=by omega
  have g:=zb2l kc2 (j:=1) (by decide) rows i hin
  rw [hrow] at g
  have g:(rows.flatMap zbqo ++ t)[i * 2 + 1]? = (zbqo ⟨a,ks⟩)[1]?:=by rw [List.getElem?_append_left (by rw [za6y kc2 rows]; omega)]; exact g
  refine mo fun LQ hnx hrr he => ?_
  cases ks with
  | nil =>
   have g':(rows.flatMap zbqo ++ t)[i * 2 + 1]? = some .slz:=g
   simp only [jg,je,List.isEmpty_cons,ei,tD,pnK,kj,gq,List.filter_cons,List.filter_nil,List.filterMap_cons,List.filterMap_nil,bg,dg,mf,dm,Ins.dsts,Ins.looks,I.ops,pt,ta,List.all_cons,List.all_nil,List.any_cons,List.any_nil,List.contains_cons,List.contains_nil,List.nil_append,List.cons_append,Option.toList_some,Option.isSome_some,Option.isSome_none,Bool.and_true,Bool.true_and,Bool.or_false,Bool.or_true,Bool.not_false,and_true,true_and,and_false,Nat.reduceBEq,bne_iff_ne,zb95,ur,TT,Ic.t,reduceEqDiff,reduceAdd,reduceCtorEq,c,ci,cin,ha,hp,g',SpB.ob,zbeh,h1,h2,hw,hl,hPn,nq ne,w1,k1,k2]
   refine ⟨⟨by unfold maxLen; omega,by unfold maxLen; omega⟩,?_⟩
   rw [hnx]
   simp only [TT,reduceEqDiff,h1,h2]
   refine ⟨by rw [List.length_set,f2]; omega,?_⟩
   rw [List.set_set]
   have es:=zcra rows t i hin a [] [x] hrow
   rw [show kcS [x] = .slo a9 [TV.str x] from rfl] at es
   rw [es]
   have hin':i < (rows.set i ⟨a,[x]⟩).length:=by rw [List.length_set]; exact hin
   refine ih (k + 1) [x] _ _ hin' (List.getElem_set_self ..) (by omega) (by simp at hk ⊢; omega) hr (by rw [ry (by omega)]; exact ha) (zbw9 hPn) (by rw [br]; exact h1) (by rw [br]; exact h2) hw (by rw [br]; exact hl) hP ?_
   rw [zb8t,List.set_set]
   exact hQ
  | cons y ys =>
   have g':(rows.flatMap zbqo ++ t)[i * 2 + 1]? = some (.slo a9 (TV.str y :: ys.map TV.str)):=g
   simp only [jg,je,List.isEmpty_cons,ei,tD,pnK,kj,gq,List.filter_cons,List.filter_nil,List.filterMap_cons,List.filterMap_nil,bg,dg,mf,dm,Ins.dsts,Ins.looks,I.ops,pt,ta,List.all_cons,List.all_nil,List.any_cons,List.any_nil,List.contains_cons,List.contains_nil,List.nil_append,List.cons_append,Option.toList_some,Option.isSome_some,Option.isSome_none,Bool.and_true,Bool.true_and,Bool.or_false,Bool.or_true,Bool.not_false,and_true,true_and,and_false,Nat.reduceBEq,bne_iff_ne,zb95,ur,TT,Ic.t,reduceEqDiff,reduceAdd,reduceCtorEq,c,ci,cin,ha,hp,g',SpB.ob,zbeh,h1,h2,hw,hl,hPn,nq ne,w1,k1,k2]
   simp only [List.length_cons] at m1 m2
   refine ⟨⟨by unfold maxLen; omega,zbwj (fun _ => rfl) _,by omega,by unfold maxLen; omega⟩,?_⟩
   rw [hnx]
   simp only [TT,reduceEqDiff,h1,h2]
   refine ⟨by rw [List.length_set,f2]; omega,?_⟩
   rw [List.set_set]
   have es:=zcra rows t i hin a (y :: ys) (y :: ys ++ [x]) hrow
   rw [show kcS (y :: ys ++ [x]) = .slo a9 (TV.str y :: (ys.map TV.str ++ [TV.str x])) from zcg7 (y :: ys) x] at es
   rw [es]
   have hin':i < (rows.set i ⟨a,y :: ys ++ [x]⟩).length:=by rw [List.length_set]; exact hin
   refine ih (k + 1) (y :: ys ++ [x]) _ _ hin' (List.getElem_set_self ..) (by omega) (by simp at hk ⊢; omega) hr (by rw [ry (by omega)]; exact ha) (zbw9 hPn) (by rw [br]; exact h1) (by rw [br]; exact h2) hw (by rw [br]; exact hl) hP ?_
   rw [zb8t,List.set_set]
   exact hQ
noncomputable def zbzx (L:Nat):List aj → Nat → List aj → Option (List aj)
 | [],_,d => some d
 | x :: r,i,d => za2e (zccg (i:Int)) L 0 [] >>= fun ks => zbzx L r (i + 1) (d ++ [⟨x.Account,ks⟩])
set_option maxHeartbeats 1000000 in
theorem zb54 (b:SpB) (lk:TV) (id1 id2:Nat) (hL:b.leaders.length ≤ 6) (hn:b.n ≤ 20) (r:List aj) (Q:TEx → ap) (rest:List aj):∀ (d:List aj) (τ:TH),rest.length + d.length = b.n → zbzx b.leaders.length rest d.length d = some r →
 τ.at id1 = some (b.ob lk) → τ.at b.idP = some (zbeh d (rest.flatMap aj.cells)) → id1 < τ.next → id2 < τ.next → τ.lock ≤ b.idP → τ.lock ≤ τ.next → b.idP < id1 →
 (Q (.exit 2) [(1,.ptr id1 0),(2,.ptr id2 0),(4,.int .i64 b.n),(26,.bool false)] [] (τ.put b.idP (zbq9 r))) →
 tW G (.loop [1,2,4] zcfe) Q [(1,.ptr id1 0),(2,.ptr id2 0),(4,.int .i64 (d.length:Int))] [] τ:=by
 induction rest with
 | nil =>
  intro d τ hi hr ha hp h1 h2 hw hl hP hQ
  have hi:d.length = b.n:=by simpa using hi
  injection hr with hr
  subst hr
  have hp:τ.at b.idP = some (zbq9 d):=by rw [hp]; unfold zbeh zbq9; rw [List.flatMap_nil,List.append_nil]
  rw [jj hp] at hQ
  have c:¬ (b.n:Int) < (b.n:Int):=by omega
  refine mo fun LQ hnx hr he => ?_
  simp only [zcfe,ur,TT,Ic.t,ci,reduceEqDiff,reduceCtorEq,c,he,ha,SpB.ob,hi]
  exact hQ
 | cons x rest ih =>
  intro d τ hi hr ha hp h1 h2 hw hl hP hQ
  have hi:rest.length + d.length + 1 = b.n:=by simp at hi; omega
  obtain ⟨ks,hks,hr⟩:=ob hr
  have c:(d.length:Int) < (b.n:Int):=by omega
  have ci:(0:Int) ≤ (d.length:Int):=by omega
  have w1:IntKind.i64.wrap ((d.length:Int) + 1) = ((d.length + 1:Nat):Int):=by rw [wA (by omega) (by omega)]; omega
  have f2:(d.flatMap zbqo ++ (x :: rest).flatMap aj.cells).length = b.n * 2:=by rw [List.length_append,za6y kc2 d,za6y (c:=aj.cells) (k:=2) (fun _ => rfl),List.length_cons]; omega
  have o2:d.length * 2 + 1 + 1 ≤ b.n * 2:=by omega
  have ne:b.idP ≠ id1:=by omega
  have hPn:b.idP < τ.next:=by omega
  have es:=zbym d rest x
  refine mo fun LQ hnx hrr he => ?_
  simp only [zcfe,ur,TT,Ic.t,reduceEqDiff,reduceAdd,reduceCtorEq,c,ci,ha,hp,SpB.ob,zbeh,hw,f2,o2]
  rw [es]
  have hin':d.length < (d ++ [(⟨x.Account,[]⟩:aj)]).length:=by simp
  refine zb53 b lk id1 id2 d.length (by omega) (by omega) _ hL x.Account ks _ b.leaders.length 0 [] _ _ hin' (by simp) rfl rfl hks (by rw [ry (by omega)]; exact ha) (zbw9 hPn) (by rw [br]; exact h1) (by rw [br]; exact h2) hw (by rw [br]; exact hl) hP ?_
  rw [zb8t,List.set_append_right _ _ (Nat.le_refl _),Nat.sub_self,List.set_cons_zero]
  simp only [TT,Ic.t,reduceEqDiff,w1,h1,h2]
  rw [hnx]
  simp only [TT,reduceEqDiff,h1,h2]
  have el:(d ++ [(⟨x.Account,ks⟩:aj)]).length = d.length + 1:=by simp
  have ih:=ih (d ++ [⟨x.Account,ks⟩])
  rw [el] at ih
  refine ih _ (by omega) hr (by rw [ry (by omega)]; exact ha) (zbw9 hPn) (by rw [br]; exact h1) (by rw [br]; exact h2) hw (by rw [br]; exact hl) hP ?_
  rw [zb8t]
  exact hQ
theorem zbx0 {τ:TH} {b:Ob} {id:Nat} (h:id < τ.next):(τ.push b).at id = τ.at id:=by
 show (τ.o ++ [b])[id]? = τ.o[id]?
 exact List.getElem?_append_left h
theorem zctz {τ:TH} {n id:Nat} {b:Ob} (h:n ≤ id):(τ.put id b).cut n = τ.cut n:=by
 show TH.mk ((τ.o.set id b).take n) τ.lock = TH.mk (τ.o.take n) τ.lock
 rw [List.take_set_of_le h]
theorem zby4 (b:SpB) (L0:List TV) (rows r:List aj) (lr:List ByteArray) (hL:b.leaders.length ≤ 6) (hn:b.n ≤ 20) (hbn:b.n = rows.length) (hlr:za2e zbpp b.leaders.length 0 [] = some lr) (hr:zbzx b.leaders.length rows 0 [] = some r)
 (τ:TH) (hl:τ.lock ≤ τ.next) (hp:τ.at b.idP = some (zbeh [] (rows.flatMap aj.cells))) (hP:b.idP < τ.next) (hw:τ.lock ≤ b.idP) :
 Ru G zb9t [.agg [.str b.ID,.slm b.idP 0 b.n 2,.sl b.arcs,.sl b.leaders,.sl L0,.int .i64 b.start,.int .i64 b.delta]] τ (.agg [.str b.ID,.slm b.idP 0 b.n 2,.sl b.arcs,.sl b.leaders,.sl (lr.map TV.str),.int .i64 b.start,.int .i64 b.delta]) (τ.put b.idP (zbq9 r)):=by
 refine gp fun K hK => ?_
 rw [bc zddh (Nat.le_of_ble_eq_true rfl)]
 have P1:b.idP < τ.next + 1:=by omega
 have l1:τ.lock ≤ τ.next + 1:=by omega
 have l2:τ.lock ≤ τ.next + 2:=by omega
 simp only [ur,TT,Ic.t,ci,reduceEqDiff,reduceAdd,reduceLT,reduceLeDiff,reduceCtorEq,hP,hl]
 obtain ⟨z,hz⟩:∃ z:Ob,z = ⟨bh,[.str ⟨#[]⟩,.slz,.slz,.slz,.slz,.int .i64 0,.int .i64 0]⟩:=⟨_,rfl⟩
 rw [← hz]
 obtain ⟨τ1,e1⟩:∃ τ1,τ1 = (τ.push (b.ob .slz)).push z:=⟨_,rfl⟩
 have n0:(τ.push (b.ob .slz)).next = τ.next + 1:=jm
 have n1:τ1.next = τ.next + 2:=by rw [e1,jm,n0]
 have a1:τ1.at τ.next = some (b.ob .slz):=by rw [e1,zbx0 (by rw [n0]; omega)]; exact zb3n
 have a2:τ1.at (τ.next + 1) = some z:=by rw [e1,← n0]; exact zb3n
 have aP:τ1.at b.idP = some (zbeh [] (rows.flatMap aj.cells)):=by rw [e1,zbx0 (by rw [n0]; omega),zbx0 hP]; exact hp
 have lk1:τ1.lock = τ.lock:=by rw [e1]; rfl
 have cu:τ1.cut τ.next = τ:=by rw [e1]; exact (((j5.refl τ).push _).push z).cut
 have eb:b.ob .slz = ⟨bh,[.str b.ID,.slm b.idP 0 b.n 2,.sl b.arcs,.sl b.leaders,.slz,.int .i64 b.start,.int .i64 b.delta]⟩:=rfl
 rw [← eb,← e1]
 refine zb55 b τ.next (τ.next + 1) hL lr _ b.leaders.length 0 [] τ1 rfl rfl hlr a1 (by omega) (by omega) (by omega) (by omega) (by omega) ?_
 have P2:τ.next < τ1.next:=by omega
 have P3:τ.next + 1 < τ1.next:=by omega
 simp only [TT,reduceEqDiff,P2,P3]
 obtain ⟨τ2,e2⟩:∃ τ2,τ2 = τ1.put τ.next (b.ob (kcS lr)):=⟨_,rfl⟩
 rw [← e2]
 have n2:τ2.next = τ.next + 2:=by rw [e2,br,n1]
 have b1:τ2.at τ.next = some (b.ob (kcS lr)):=by rw [e2]; exact zbw9 (by omega)
 have b2:τ2.at (τ.next + 1) = some z:=by rw [e2,ry (by omega)]; exact a2
 have bP:τ2.at b.idP = some (zbeh [] (rows.flatMap aj.cells)):=by rw [e2,ry (by omega)]; exact aP
 have lk2:τ2.lock = τ.lock:=by rw [e2]; exact lk1
 refine zb54 b _ τ.next (τ.next + 1) hL hn r _ rows [] τ2 hbn.symm hr b1 bP (by omega) (by omega) (by omega) (by omega) (by omega) ?_
 obtain ⟨τ3,e3⟩:∃ τ3,τ3 = τ2.put b.idP (zbq9 r):=⟨_,rfl⟩
 rw [← e3]
 have n3:τ3.next = τ.next + 2:=by rw [e3,br,n2]
 have c1:τ3.at τ.next = some (b.ob (kcS lr)):=by rw [e3,ry (by omega)]; exact b1
 have c2:τ3.at (τ.next + 1) = some z:=by rw [e3,ry (by omega)]; exact b2
 have lk3:τ3.lock = τ.lock:=by rw [e3]; exact lk2
 have cu3:∀ x:Ob,(τ3.put (τ.next + 1) x).cut τ.next = τ.put b.idP (zbq9 r):=fun x => by
  have q:(τ3.put (τ.next + 1) x).cut τ.next = τ3.cut τ.next:=zctz (by omega)
  rw [q,e3,zb6r hP,e2,zctz (Nat.le_refl _),cu]
 have P4:τ.next < τ2.next:=by omega
 have P5:τ.next + 1 < τ2.next:=by omega
 have P6:τ.next < τ3.next:=by omega
 have P7:τ.next + 1 < τ3.next:=by omega
 have l3:τ3.lock ≤ τ.next + 1:=by omega
 have P8:b.idP < τ.next + 2:=by omega
 have ct:τ3.cut τ2.next = τ3:=zcd6 (by omega)
 cases lr with
 | nil =>
  rw [show kcS [] = .slz from rfl] at c1
  simp only [TT,reduceEqDiff,reduceAdd,reduceCtorEq,P4,P5,P7,P8,c1,c2,hz,SpB.ob,l3,cu3,hP,ct]
  exact hK
 | cons y ys =>
  rw [zby6] at c1
  simp only [TT,reduceEqDiff,reduceAdd,reduceCtorEq,P4,P5,P7,P8,c1,c2,hz,SpB.ob,l3,cu3,hP,ct]
  exact hK
end Go.Proofs.Ytjgpklmkdkkooaa
