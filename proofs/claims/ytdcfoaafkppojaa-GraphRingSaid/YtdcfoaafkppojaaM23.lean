import Derived.Test.YtdcfoaafkppojaaD4
import Derived.IntWalk
set_option linter.unusedVariables false
set_option linter.unusedSimpArgs false
set_option linter.unusedSectionVars false
open Nat (reduceEqDiff reduceAdd reduceLT)
open Int (reduceToNat reduceEq)
namespace Go.Proofs.Ytdcfoaafkppojaa
open Go Go.RowKit Sh Ic
noncomputable def iq (p1 : ac) (p2 : (List Int)) : Option Bool :=
 kl p1 >>= fun y1 =>
 if y1 = true then
  if ((p2.length : Nat) : Int) = (0 : Int) then
   some false
  else
  ej p1 p2 p2 ((p2.length : Nat) : Int) (0 : Int) >>= fun y5 =>
  match y5 with
  | .ex w6 =>
   some true
  | .rt w8 =>
   some w8
 else
 some false
theorem zcc9 (p1 : ac) (p2 : (List Int)) (r : Bool) (h : iq p1 p2 = some r) (τ : TH) (hl : τ.lock ≤ τ.next) : Ru G iv [.agg [.str p1.ID,.sl (List.map af.tv p1.Parties),.sl (List.map aa.tv p1.Arcs),.sl (List.map (TV.int .i64) p1.Leaders),.sl (List.map TV.str p1.Locks),.int .i64 p1.Start,.int .i64 p1.Delta],.sl (List.map (TV.int .i64) p2)] τ (.bool r) τ := by
 refine li fun K hK => ?_
 rw [ce zcud (Nat.le_of_ble_eq_true rfl)]
 unfold iq at h
 obtain ⟨y1,hy1,h⟩ := ob h
 have k2 := sj p1 _ hy1
 try simp only [CL,MC,reduceToNat] at k2
 by_cases c3 : y1 = true
 · rw [if_pos c3] at h
   by_cases c4 : ((p2.length : Nat) : Int) = (0 : Int)
   · rw [if_pos c4] at h
     injection h with h; subst h
     simp only [ir,TT,Ic.t,ci,reduceEqDiff,reduceIte,reduceAdd,reduceLT,reduceCtorEq,reduceToNat,hl,k2,c3,eq_true c4,CL,LTN]
     first | exact hK | (simp only [hl,k2,c3,eq_true c4,CL] at hK; exact hK)
   rw [if_neg c4] at h
   obtain ⟨y5,hy5,h⟩ := ob h
   simp only [ir,TT,Ic.t,ci,reduceEqDiff,reduceIte,reduceAdd,reduceLT,reduceCtorEq,reduceToNat,hl,k2,c3,c4,CL,LTN]
   have Sy5 := zcr6 p1 p2 p2 ((p2.length : Nat) : Int) (0 : Int) y5 hy5
   unfold nm at Sy5
   refine Sy5 _ τ.next (τ.next + 1) (by first | assumption | omega | (simp only [ag,am,ah,az]; omega)) (by simp only [TT,Ic.t,ci,reduceEqDiff,reduceIte,reduceAdd,reduceLT,reduceCtorEq,reduceToNat,hl,k2,c3,c4,CL,LTN]) (by first | assumption | omega | (simp only [ag,am,ah,az]; omega)) (by simp only [TT,Ic.t,ci,reduceEqDiff,reduceIte,reduceAdd,reduceLT,reduceCtorEq,reduceToNat,hl,k2,c3,c4,CL,LTN]) (by first | assumption | omega | (simp only [ag,am,ah,az]; omega)) _ ?_ ?_
   · intro w6 e frq7 tkq7 τq7 htq7 hcq7
     subst e
     simp only at h
     have hcq7 := eq (n := τ.next + 2) hcq7 (by first | omega | (simp only [ag,am]; omega))
     try simp only [List.take_succ_cons,List.take_zero,List.take_nil,CL] at htq7
     try simp only [TT,Ic.t,ci,reduceEqDiff,reduceIte,reduceAdd,reduceLT,reduceCtorEq,reduceToNat,hl,k2,c3,c4,CL,LTN] at hcq7
     injection h with h; subst h
     simp only [ir,TT,Ic.t,ci,reduceEqDiff,reduceIte,reduceAdd,reduceLT,reduceCtorEq,reduceToNat,hl,k2,c3,c4,htq7,hcq7,CL,LTN]
     first | exact hK | (simp only [hl,k2,c3,c4,htq7,hcq7,CL] at hK; exact hK)
   intro w8 e tkq9 τq9 hcq9
   subst e
   simp only at h
   have hcq9 := eq (n := τ.next) hcq9 (by first | omega | (simp only [ag,am]; omega))
   try simp only [TT,Ic.t,ci,reduceEqDiff,reduceIte,reduceAdd,reduceLT,reduceCtorEq,reduceToNat,hl,k2,c3,c4,CL,LTN] at hcq9
   injection h with h; subst h
   simp only [ir,TT,Ic.t,ci,reduceEqDiff,reduceIte,reduceAdd,reduceLT,reduceCtorEq,reduceToNat,hl,k2,c3,c4,hcq9,CL,LTN]
   first | exact hK | (simp only [hl,k2,c3,c4,hcq9,CL] at hK; exact hK)
 rw [if_neg c3] at h
 have c3 := Bool.eq_false_iff.2 c3
 injection h with h; subst h
 simp only [ir,TT,Ic.t,ci,reduceEqDiff,reduceIte,reduceAdd,reduceLT,reduceCtorEq,reduceToNat,hl,k2,c3,CL,LTN]
 first | exact hK | (simp only [hl,k2,c3,CL] at hK; exact hK)
theorem mz (p1 : ac) (p2 : (List Int)) (r : Bool) (h : iq p1 p2 = some r) (lk : Bool) (d : Option Nat) (K : aq) (fr : TF) (tk : TK) (τ : TH) (hl : τ.lock ≤ τ.next) : fi G lk iv [.agg [.str p1.ID,.sl (List.map af.tv p1.Parties),.sl (List.map aa.tv p1.Arcs),.sl (List.map (TV.int .i64) p1.Leaders),.sl (List.map TV.str p1.Locks),.int .i64 p1.Start,.int .i64 p1.Delta],.sl (List.map (TV.int .i64) p2)] d K fr tk τ = K (ew fr d (.bool r)) tk τ :=
 aw (zcc9 p1 p2 r h τ  hl) (zcc9 p1 p2 r h (τ.locked τ.next)  (Nat.le_refl _) ) (by simp only [TT,Ic.t,ci,reduceEqDiff,reduceIte,reduceAdd,reduceLT,reduceCtorEq,reduceToNat,hl,CL,LTN])
noncomputable def ov (p1 : Int) : Option Bool :=
 some true
theorem zcf1 (p1 : Int) (r : Bool) (h : ov p1 = some r) (τ : TH) (hl : τ.lock ≤ τ.next) : Ru G g8 [.int .i64 p1] τ (.bool r) τ := by
 refine li fun K hK => ?_
 rw [ce zcqv (Nat.le_of_ble_eq_true rfl)]
 unfold ov at h
 injection h with h; subst h
 simp only [zcqe,TT,Ic.t,ci,reduceEqDiff,reduceIte,reduceAdd,reduceLT,reduceCtorEq,reduceToNat,hl,CL,LTN]
 exact hK
theorem zcrp (p1 : Int) (r : Bool) (h : ov p1 = some r) (lk : Bool) (d : Option Nat) (K : aq) (fr : TF) (tk : TK) (τ : TH) (hl : τ.lock ≤ τ.next) : fi G lk g8 [.int .i64 p1] d K fr tk τ = K (ew fr d (.bool r)) tk τ :=
 aw (zcf1 p1 r h τ  hl) (zcf1 p1 r h (τ.locked τ.next)  (Nat.le_refl _) ) (by simp only [TT,Ic.t,ci,reduceEqDiff,reduceIte,reduceAdd,reduceLT,reduceCtorEq,reduceToNat,hl,CL,LTN])
end Go.Proofs.Ytdcfoaafkppojaa
open Nat (reduceEqDiff reduceAdd reduceLT)
open Int (reduceToNat reduceEq)
namespace Go.Proofs.Ytdcfoaafkppojaa
open Go Go.RowKit Sh Ic
theorem reW {n : Int} (h1 : -9223372036854775808 ≤ n) (h2 : n ≤ 9223372036854775807) : IntKind.i64.wrap n = n := IntWalk.i64_in n ⟨h1,h2⟩
def reX (back : Bool) (a : aa) : Int := if back = true then a.To else a.From
def reY (back : Bool) (a : aa) : Int := if back = true then a.From else a.To
def reA (back : Bool) (v : Int) (p : Int → Option Bool) : List aa → List Bool → List Int → Option (List Bool × List Int)
 | [],mg,todo => some (mg,todo)
 | a :: r,mg,todo =>
  if reX back a = v then
   ixL mg (reY back a) >>= fun b =>
   if b = true then reA back v p r mg todo else
   p (reY back a) >>= fun t =>
   if t = true then (if todo.length < 1000000 then reA back v p r (mg.set (reY back a).toNat true) (todo ++ [reY back a]) else none)
   else reA back v p r mg todo
  else reA back v p r mg todo
def reS (back : Bool) (p : Int → Option Bool) (A : List aa) (st : List Bool × List Int) : Option (LS (List Bool × List Int) (List Bool)) :=
 if 0 < st.2.length then
  if st.2.length < 2000000 then
   ixL st.2 ((st.2.length - 1 : Nat) : Int) >>= fun v =>
   reA back v p A st.1 (st.2.take (st.2.length - 1)) >>= fun st' => some (.nx st')
  else none
 else some (.dn st.1)
noncomputable def reF (s : ac) (o : Int) (back : Bool) (p : Int → Option Bool) : Option (List Bool) :=
 if s.Parties.length < 1000000 ∧ s.Arcs.length < 1000000 then qb (reS back p s.Arcs) (List.replicate s.Parties.length false,[o]) else none
def zbyl (s : ac) : Ob := ⟨a9,s.cells⟩
def zbo7 (l : List Bool) : Ob := ⟨zbwu,l.map TV.bool⟩
def zbtd (l : List Int) : Ob := ⟨de,l.map (TV.int .i64)⟩
theorem ml {τ : TH} {b : Ob} : (τ.push b).next = τ.next + 1 := by show (τ.o ++ [b]).length = _; simp [TH.next]
theorem mv {τ : TH} {b : Ob} {id : Nat} : (τ.put id b).next = τ.next := by show (τ.o.set id b).length = _; simp [TH.next]
theorem zbxy {τ : TH} {b : Ob} : (τ.push b).at τ.next = some b := by
 show (τ.o ++ [b])[τ.o.length]? = some b
 simp
theorem mw {τ : TH} {b : Ob} {id : Nat} (h : id < τ.next) : (τ.push b).at id = τ.at id := by
 show (τ.o ++ [b])[id]? = τ.o[id]?
 exact List.getElem?_append_left h
theorem zbfo {τ : TH} {b : Ob} {id : Nat} (h : id < τ.next) : (τ.put id b).at id = some b := by
 show (τ.o.set id b)[id]? = some b
 exact List.getElem?_set_self h
theorem zd {τ : TH} {b : Ob} {id k : Nat} (h : ¬ id = k) : (τ.put id b).at k = τ.at k := by
 show (τ.o.set id b)[k]? = τ.o[k]?
 exact List.getElem?_set_ne h
theorem zbt2 {τ : TH} {n id : Nat} (h : id < n) : (τ.cut n).at id = τ.at id := by
 show (τ.o.take n)[id]? = τ.o[id]?
 exact List.getElem?_take_of_lt h
structure RI (τ0 : TH) (s : ac) (np : Nat) (mg : List Bool) (todo junk : List Int) (id : Nat) (τ : TH) : Prop where
 lock : τ.lock = τ0.lock
 cut : τ.cut τ0.next = τ0
 o4 : τ.at τ0.next = some (zbyl s)
 o9 : τ.at (τ0.next + 1) = some (zbo7 mg)
 lo : τ0.next + 2 ≤ id
 hi : id < τ.next
 o10 : τ.at id = some (zbtd (todo ++ junk))
 ne : todo ++ junk ≠ []
 ln : mg.length = np
section
variable {τ0 τ : TH} {s : ac} {np : Nat} {mg : List Bool} {todo junk : List Int} {id : Nat}
theorem RI.next (h : RI τ0 s np mg todo junk id τ) : τ0.next + 2 < τ.next := by have := h.lo; have := h.hi; omega
theorem tx {τ : TH} {b : Ob} {n : Nat} (h : n ≤ τ.next) : (τ.push b).cut n = τ.cut n := by
 show TH.mk ((τ.o ++ [b]).take n) τ.lock = TH.mk (τ.o.take n) τ.lock
 rw [List.take_append_of_le_length h]
theorem zb7n {τ : TH} {b : Ob} {n k : Nat} (h : n ≤ k) : (τ.put k b).cut n = τ.cut n := by
 show TH.mk ((τ.o.set k b).take n) τ.lock = TH.mk (τ.o.take n) τ.lock
 rw [List.take_set_of_le h]
theorem RI.push (h : RI τ0 s np mg todo junk id τ) (b : Ob) : RI τ0 s np mg todo junk id (τ.push b) := by
 have hn := h.next
 exact ⟨h.lock,by rw [tx (by omega)]; exact h.cut,by rw [mw (by omega)]; exact h.o4,by rw [mw (by omega)]; exact h.o9,h.lo,by rw [ml]; exact Nat.lt_succ_of_lt h.hi,by rw [mw h.hi]; exact h.o10,h.ne,h.ln⟩
theorem RI.cutN (h : RI τ0 s np mg todo junk id τ) {n : Nat} (hn : id < n) : RI τ0 s np mg todo junk id (τ.cut n) := by
 have h1 := h.lo
 refine ⟨h.lock,?_,by rw [zbt2 (by omega)]; exact h.o4,by rw [zbt2 (by omega)]; exact h.o9,h1,?_,by rw [zbt2 hn]; exact h.o10,h.ne,h.ln⟩
 · rw [zbp3 (by omega)]; exact h.cut
 · have := h.hi
   show id < (τ.o.take n).length
   rw [List.length_take]
   have e : τ.next = τ.o.length := rfl
   omega
theorem RI.see (h : RI τ0 s np mg todo junk id τ) (k : Nat) : RI τ0 s np (mg.set k true) todo junk id (τ.put (τ0.next + 1) (zbo7 (mg.set k true))) := by
 have hn := h.next
 have h1 := h.lo
 exact ⟨h.lock,by rw [zb7n (by omega)]; exact h.cut,by rw [zd (by omega)]; exact h.o4,by rw [zbfo (by omega)],h1,by rw [mv]; exact h.hi,by rw [zd (by omega)]; exact h.o10,h.ne,by rw [List.length_set]; exact h.ln⟩
theorem RI.add (h : RI τ0 s np mg todo junk id τ) (y : Int) : RI τ0 s np mg (todo ++ [y]) [] τ.next ((τ.put id ⟨de,[]⟩).push (zbtd (todo ++ [y]))) := by
 have hn := h.next
 have h1 := h.lo
 refine ⟨h.lock,?_,?_,?_,by omega,?_,?_,by simp,h.ln⟩
 · rw [tx (by rw [mv]; omega),zb7n (by omega)]; exact h.cut
 · rw [mw (by rw [mv]; omega),zd (by omega)]; exact h.o4
 · rw [mw (by rw [mv]; omega),zd (by omega)]; exact h.o9
 · rw [ml,mv]; omega
 · have := zbxy (τ := τ.put id ⟨de,[]⟩) (b := zbtd (todo ++ [y]))
   rw [mv] at this
   rw [List.append_nil]; exact this
theorem RI.drop (h : RI τ0 s np mg todo junk id τ) (k : Nat) : RI τ0 s np mg (todo.take k) (todo.drop k ++ junk) id τ :=
 ⟨h.lock,h.cut,h.o4,h.o9,h.lo,h.hi,by rw [← List.append_assoc,List.take_append_drop]; exact h.o10,by rw [← List.append_assoc,List.take_append_drop]; exact h.ne,h.ln⟩
end
def zb3n (τ0 : TH) (f : FuncId) (b : List TV) (p : Int → Option Bool) : Prop :=
 (∀ n,τ0.next ≤ n → fp n b = true ∧ ltL n 0 b = true) ∧ ∀ (v : Int) (r : Bool),p v = some r → ∀ (lk : Bool) (d : Option Nat) (K : aq) (fr : TF) (tk : TK) (τ : TH),τ.lock = τ0.lock → τ0.next ≤ τ.next → τ.cut τ0.next = τ0 → fi G lk f (.int .i64 v :: b) d K fr tk τ = K (ew fr d (.bool r)) tk τ
set_option maxHeartbeats 1000000 in
theorem zbq8 (τ0 : TH) (hl0 : τ0.lock ≤ τ0.next) (s : ac) (np : Nat) (hnp : np < 1000000) (back : Bool) (f : FuncId) (b : List TV) (p : Int → Option Bool) (hf : zb3n τ0 f b p) (v : Int) (A : List aa) (hA : A.length < 1000000) (Q : TEx → aq) (seen' : List Bool) (todo' : List Int) (m : Nat) :
 ∀ (i : Nat) (mg : List Bool) (todo junk : List Int) (id : Nat) (τ : TH),m + i = A.length → RI τ0 s np mg todo junk id τ → reA back v p (A.drop i) mg todo = some (seen',todo') →
 (∀ junk id τ,RI τ0 s np seen' todo' junk id τ → Q (.exit 2) [(2,.bool back),(3,.func f [] b),(4,.ptr τ0.next 0),(9,.slm (τ0.next + 1) 0 np 1),(10,.slm id 0 todo'.length 1),(12,.int .i64 v),(37,.sl (A.map aa.tv)),(38,.int .i64 A.length),(39,.int .i64 A.length),(40,.bool false)] [] τ) →
 tW G (.loop [2,3,4,9,10,12,37,38,39] ei) Q [(2,.bool back),(3,.func f [] b),(4,.ptr τ0.next 0),(9,.slm (τ0.next + 1) 0 np 1),(10,.slm id 0 todo.length 1),(12,.int .i64 v),(37,.sl (A.map aa.tv)),(38,.int .i64 A.length),(39,.int .i64 (i : Int))] [] τ := by
 induction m with
 | zero =>
  intro i mg todo junk id τ hi hI hr hQ
  obtain rfl : i = A.length := by omega
  have c : ¬ ((A.length : Nat) : Int) < ((A.length : Nat) : Int) := by omega
  rw [List.drop_of_length_le (Nat.le_refl _)] at hr
  injection hr with hr
  injection hr with h1 h2
  subst h1 h2
  refine nv fun LQ hnx hr he => ?_
  simp only [ei,d9,TT,Ic.t,ci,reduceEqDiff,reduceIte,reduceAdd,reduceLT,reduceCtorEq,reduceToNat,c,he]
  exact hQ _ _ _ hI
 | succ m ih =>
  intro i mg todo junk id τ hi hI hr hQ
  have hin : i < A.length := by omega
  have c : (i : Int) < ((A.length : Nat) : Int) := by omega
  have w1 : IntKind.i64.wrap ((i : Int) + 1) = ((i + 1 : Nat) : Int) := by rw [reW (by omega) (by omega)]; omega
  obtain ⟨a,ha⟩ : ∃ a,a = A[i] := ⟨_,rfl⟩
  have hx : ixL A (i : Int) = some a := by rw [sd hin,ha]
  have f0 := bx hx
  have fa := (f0.2.2 aa.tv).1
  have fb := (f0.2.2 aa.tv).2
  try simp only [CL,MC,reduceToNat] at f0 fa fb
  rw [List.drop_eq_getElem_cons hin,← ha,reA] at hr
  have hn := hI.next
  have l1 : τ.lock ≤ τ.next := by rw [hI.lock]; omega
  refine nv fun LQ hnx hrr he => ?_
  have h4 : τ0.next < τ.next := by omega
  have h9 : τ0.next + 1 < τ.next := by omega
  have h9l : τ.lock ≤ τ0.next + 1 := by rw [hI.lock]; omega
  have lb := (hf.1 τ.next (by omega)).2
  have ub := (hf.1 (τ.next + 1) (by omega)).1
  have hi := hI.hi
  have o9 : τ.at (τ0.next + 1) = some ⟨zbwu,List.map TV.bool mg⟩ := hI.o9
  have o10 : τ.at id = some ⟨de,List.map (TV.int .i64) (todo ++ junk)⟩ := hI.o10
  have ne1 : ¬ τ0.next + 1 = τ.next := by omega
  have hid : τ.lock ≤ id := by rw [hI.lock]; have := hI.lo; omega
  cases back with
  | false =>
   rw [show reX false a = a.From from rfl,show reY false a = a.To from rfl] at hr
   by_cases c1 : a.From = v
   · rw [if_pos c1] at hr
     obtain ⟨q,hq,hr⟩ := ob hr
     have g0 := bx hq
     have ga := (g0.2.2 TV.bool).1
     have gb := (g0.2.2 TV.bool).2
     have gl : a.To < (np : Int) := by have := g0.2.1; rw [hI.ln] at this; exact this
     cases q with
     | true =>
      rw [if_pos rfl] at hr
      simp only [ei,d9,TT,Ic.t,ci,reduceEqDiff,reduceIte,reduceAdd,reduceLT,reduceCtorEq,reduceToNat,c,w1,hrr,f0.1,f0.2.1,fa,fb,l1,eq_true c1,g0.1,gl,ga,gb,o9,h9,ne1,CL]
      rw [hnx]
      simp only [TT,Ic.t,ci,reduceEqDiff,reduceIte,reduceAdd,reduceLT,reduceCtorEq,reduceToNat,hrr,lb,h4,h9,hi,decide_true,Bool.and_true]
      exact ih (i + 1) mg todo junk id τ (by omega) hI hr hQ
     | false =>
      rw [if_neg (by decide)] at hr
      obtain ⟨t,ht,hr⟩ := ob hr
      have k1 := fun (d : Option Nat) (K : aq) (fr : TF) (tk : TK) => hf.2 a.To t ht false d K fr tk (τ.push ⟨jv,[.int .i64 a.From,.int .i64 a.To,.int .i64 a.Ledger,.str a.Asset,.int .i64 a.Amount]⟩) hI.lock (by rw [ml]; omega) (by rw [tx (by omega)]; exact hI.cut)
      cases t with
      | false =>
       rw [if_neg (by decide)] at hr
       simp only [ei,d9,TT,Ic.t,ci,reduceEqDiff,reduceIte,reduceAdd,reduceLT,reduceCtorEq,reduceToNat,c,w1,hrr,f0.1,f0.2.1,fa,fb,l1,eq_true c1,g0.1,gl,ga,gb,o9,h9,ne1,ub,k1,CL]
       rw [hnx]
       simp only [TT,Ic.t,ci,reduceEqDiff,reduceIte,reduceAdd,reduceLT,reduceCtorEq,reduceToNat,hrr,lb,h4,h9,hi,decide_true,Bool.and_true]
       exact ih (i + 1) mg todo junk id τ (by omega) hI hr hQ
      | true =>
       rw [if_pos rfl] at hr
       obtain ⟨hlen,hr⟩ := ifS hr
       have m1 : todo.length + 1 ≤ maxLen := by unfold maxLen; omega
       have m2 : (todo.length + 1) * 8 ≤ 140737488355328 := by omega
       have m3 : todo.length ≤ todo.length + junk.length := by omega
       have e10 : ∀ X Y,((τ.put (τ0.next + 1) X).push Y).at id = some ⟨de,List.map (TV.int .i64) (todo ++ junk)⟩ := by
        intro X Y
        rw [mw (by rw [mv]; exact hi),zd (by have := hI.lo; omega)]
        exact o10
       have nem : (List.map (TV.int .i64) (todo ++ junk) = []) = False := eq_false fun h => hI.ne (List.map_eq_nil_iff.1 h)
       have tk1 : List.take todo.length (List.map (TV.int .i64) (todo ++ junk)) ++ [.int .i64 a.To] = List.map (TV.int .i64) (todo ++ [a.To]) := by
        rw [← List.map_take,List.take_append_of_le_length (Nat.le_refl _),List.take_length,List.map_append]; rfl
       have lt1 : ¬ τ.next + 1 < τ.next := by omega
       simp only [ei,d9,TT,Ic.t,ci,reduceEqDiff,reduceIte,reduceAdd,reduceLT,reduceCtorEq,reduceToNat,c,w1,hrr,f0.1,f0.2.1,fa,fb,l1,eq_true c1,g0.1,gl,ga,gb,o9,h9,h9l,ne1,ub,k1,o10,m1,m2,m3,hid,CL]
       refine ⟨by omega,?_⟩
       have hI2 := ((hI.see a.To.toNat).push ⟨jv,[.int .i64 a.From,.int .i64 a.To,.int .i64 a.Ledger,.str a.Asset,.int .i64 a.Amount]⟩).add a.To
       rw [ml,mv] at hI2
       unfold zbo7 zbtd at hI2
       rw [← zbu4 (enc := TV.bool)] at hI2
       simp only [TT,Ic.t,ci,reduceEqDiff,reduceIte,reduceAdd,reduceLT,reduceCtorEq,reduceToNat,e10,m1,m2,m3,hid,nem,List.flatMap_cons,List.flatMap_nil,List.append_nil,tk1,lt1,w1,lb,h4,h9,decide_true,decide_false,Bool.and_true,Bool.and_false,Bool.false_eq_true]
       rw [hnx]
       simp only [TT,Ic.t,ci,reduceEqDiff,reduceIte,reduceAdd,reduceLT,reduceCtorEq,reduceToNat,lb,h4,h9,lt1,decide_true,decide_false,Bool.and_true,Bool.and_false,Bool.false_eq_true]
       have q := ih (i + 1) _ _ _ _ _ (by omega) hI2 hr hQ
       rw [List.length_append] at q
       exact q
   · rw [if_neg c1] at hr
     simp only [ei,d9,TT,Ic.t,ci,reduceEqDiff,reduceIte,reduceAdd,reduceLT,reduceCtorEq,reduceToNat,c,w1,hrr,f0.1,f0.2.1,fa,fb,l1,c1,CL]
     rw [hnx]
     simp only [TT,Ic.t,ci,reduceEqDiff,reduceIte,reduceAdd,reduceLT,reduceCtorEq,reduceToNat,hrr,lb,h4,h9,hi,decide_true,Bool.and_true]
     exact ih (i + 1) mg todo junk id τ (by omega) hI hr hQ
  | true =>
   rw [show reX true a = a.To from rfl,show reY true a = a.From from rfl] at hr
   by_cases c1 : a.To = v
   · rw [if_pos c1] at hr
     obtain ⟨q,hq,hr⟩ := ob hr
     have g0 := bx hq
     have ga := (g0.2.2 TV.bool).1
     have gb := (g0.2.2 TV.bool).2
     have gl : a.From < (np : Int) := by have := g0.2.1; rw [hI.ln] at this; exact this
     cases q with
     | true =>
      rw [if_pos rfl] at hr
      simp only [ei,d9,TT,Ic.t,ci,reduceEqDiff,reduceIte,reduceAdd,reduceLT,reduceCtorEq,reduceToNat,c,w1,hrr,f0.1,f0.2.1,fa,fb,l1,eq_true c1,g0.1,gl,ga,gb,o9,h9,ne1,CL]
      rw [hnx]
      simp only [TT,Ic.t,ci,reduceEqDiff,reduceIte,reduceAdd,reduceLT,reduceCtorEq,reduceToNat,hrr,lb,h4,h9,hi,decide_true,Bool.and_true]
      exact ih (i + 1) mg todo junk id τ (by omega) hI hr hQ
     | false =>
      rw [if_neg (by decide)] at hr
      obtain ⟨t,ht,hr⟩ := ob hr
      have k1 := fun (d : Option Nat) (K : aq) (fr : TF) (tk : TK) => hf.2 a.From t ht false d K fr tk (τ.push ⟨jv,[.int .i64 a.From,.int .i64 a.To,.int .i64 a.Ledger,.str a.Asset,.int .i64 a.Amount]⟩) hI.lock (by rw [ml]; omega) (by rw [tx (by omega)]; exact hI.cut)
      cases t with
      | false =>
       rw [if_neg (by decide)] at hr
       simp only [ei,d9,TT,Ic.t,ci,reduceEqDiff,reduceIte,reduceAdd,reduceLT,reduceCtorEq,reduceToNat,c,w1,hrr,f0.1,f0.2.1,fa,fb,l1,eq_true c1,g0.1,gl,ga,gb,o9,h9,ne1,ub,k1,CL]
       rw [hnx]
       simp only [TT,Ic.t,ci,reduceEqDiff,reduceIte,reduceAdd,reduceLT,reduceCtorEq,reduceToNat,hrr,lb,h4,h9,hi,decide_true,Bool.and_true]
       exact ih (i + 1) mg todo junk id τ (by omega) hI hr hQ
      | true =>
       rw [if_pos rfl] at hr
       obtain ⟨hlen,hr⟩ := ifS hr
       have m1 : todo.length + 1 ≤ maxLen := by unfold maxLen; omega
       have m2 : (todo.length + 1) * 8 ≤ 140737488355328 := by omega
       have m3 : todo.length ≤ todo.length + junk.length := by omega
       have e10 : ∀ X Y,((τ.put (τ0.next + 1) X).push Y).at id = some ⟨de,List.map (TV.int .i64) (todo ++ junk)⟩ := by
        intro X Y
        rw [mw (by rw [mv]; exact hi),zd (by have := hI.lo; omega)]
        exact o10
       have nem : (List.map (TV.int .i64) (todo ++ junk) = []) = False := eq_false fun h => hI.ne (List.map_eq_nil_iff.1 h)
       have tk1 : List.take todo.length (List.map (TV.int .i64) (todo ++ junk)) ++ [.int .i64 a.From] = List.map (TV.int .i64) (todo ++ [a.From]) := by
        rw [← List.map_take,List.take_append_of_le_length (Nat.le_refl _),List.take_length,List.map_append]; rfl
       have lt1 : ¬ τ.next + 1 < τ.next := by omega
       simp only [ei,d9,TT,Ic.t,ci,reduceEqDiff,reduceIte,reduceAdd,reduceLT,reduceCtorEq,reduceToNat,c,w1,hrr,f0.1,f0.2.1,fa,fb,l1,eq_true c1,g0.1,gl,ga,gb,o9,h9,h9l,ne1,ub,k1,o10,m1,m2,m3,hid,CL]
       refine ⟨by omega,?_⟩
       have hI2 := ((hI.see a.From.toNat).push ⟨jv,[.int .i64 a.From,.int .i64 a.To,.int .i64 a.Ledger,.str a.Asset,.int .i64 a.Amount]⟩).add a.From
       rw [ml,mv] at hI2
       unfold zbo7 zbtd at hI2
       rw [← zbu4 (enc := TV.bool)] at hI2
       simp only [TT,Ic.t,ci,reduceEqDiff,reduceIte,reduceAdd,reduceLT,reduceCtorEq,reduceToNat,e10,m1,m2,m3,hid,nem,List.flatMap_cons,List.flatMap_nil,List.append_nil,tk1,lt1,w1,lb,h4,h9,decide_true,decide_false,Bool.and_true,Bool.and_false,Bool.false_eq_true]
       rw [hnx]
       simp only [TT,Ic.t,ci,reduceEqDiff,reduceIte,reduceAdd,reduceLT,reduceCtorEq,reduceToNat,lb,h4,h9,lt1,decide_true,decide_false,Bool.and_true,Bool.and_false,Bool.false_eq_true]
       have q := ih (i + 1) _ _ _ _ _ (by omega) hI2 hr hQ
       rw [List.length_append] at q
       exact q
   · rw [if_neg c1] at hr
     simp only [ei,d9,TT,Ic.t,ci,reduceEqDiff,reduceIte,reduceAdd,reduceLT,reduceCtorEq,reduceToNat,c,w1,hrr,f0.1,f0.2.1,fa,fb,l1,c1,CL]
     rw [hnx]
     simp only [TT,Ic.t,ci,reduceEqDiff,reduceIte,reduceAdd,reduceLT,reduceCtorEq,reduceToNat,hrr,lb,h4,h9,hi,decide_true,Bool.and_true]
     exact ih (i + 1) mg todo junk id τ (by omega) hI hr hQ
theorem zbq9 (τ0 : TH) (hl0 : τ0.lock ≤ τ0.next) (s : ac) (np : Nat) (hnp : np < 1000000) (back : Bool) (f : FuncId) (b : List TV) (p : Int → Option Bool) (hf : zb3n τ0 f b p) (hA : s.Arcs.length < 1000000) (Q : TEx → aq) (r : List Bool) (st : List Bool × List Int) (h : qb (reS back p s.Arcs) st = some r) :
 ∀ (junk : List Int) (id : Nat) (τ : TH),RI τ0 s np st.1 st.2 junk id τ →
 (∀ junk id τ,RI τ0 s np r [] junk id τ → Q (.exit 0) [(2,.bool back),(3,.func f [] b),(4,.ptr τ0.next 0),(9,.slm (τ0.next + 1) 0 np 1),(10,.slm id 0 0 1),(11,.int .i64 0),(26,.bool true)] [] τ) →
 tW G (.loop [2,3,4,9,10] nk) Q [(2,.bool back),(3,.func f [] b),(4,.ptr τ0.next 0),(9,.slm (τ0.next + 1) 0 np 1),(10,.slm id 0 st.2.length 1)] [] τ := by
 refine fh (f := reS back p s.Arcs) (P := fun st r => ∀ (junk : List Int) (id : Nat) (τ : TH),RI τ0 s np st.1 st.2 junk id τ → (∀ junk id τ,RI τ0 s np r [] junk id τ → Q (.exit 0) [(2,.bool back),(3,.func f [] b),(4,.ptr τ0.next 0),(9,.slm (τ0.next + 1) 0 np 1),(10,.slm id 0 0 1),(11,.int .i64 0),(26,.bool true)] [] τ) → tW G (.loop [2,3,4,9,10] nk) Q [(2,.bool back),(3,.func f [] b),(4,.ptr τ0.next 0),(9,.slm (τ0.next + 1) 0 np 1),(10,.slm id 0 st.2.length 1)] [] τ) ?_ h
 clear h st r
 rintro ⟨mg,todo⟩ o hs r hor junk id τ hI hQ
 have hs : reS back p s.Arcs (mg,todo) = some o := hs
 unfold reS at hs
 simp only at hs hI ⊢
 refine nv fun LQ hnx hrr he => ?_
 by_cases c : 0 < todo.length
 · rw [if_pos c] at hs
   obtain ⟨c2,hs⟩ := ifS hs
   obtain ⟨v,hv,hs⟩ := ob hs
   obtain ⟨⟨seen',todo'⟩,ha,hs⟩ := ob hs
   injection hs with hs
   subst hs
   obtain ⟨k,hk⟩ : ∃ k,todo.length - 1 = k := ⟨_,rfl⟩
   rw [hk] at hv ha
   have f0 := bx hv
   have hk2 : k < todo.length := by omega
   have c0 : ¬ ((todo.length : Nat) : Int) = 0 := by omega
   have w1 : IntKind.i64.wrap ((todo.length : Int) - 1) = (k : Int) := by rw [reW (by omega) (by omega)]; omega
   have b0 : (0 : Int) ≤ (k : Int) := by omega
   have b1 : (k : Int) < ((todo.length : Nat) : Int) := by omega
   have b2 : (k : Int) ≤ ((todo.length : Nat) : Int) := by omega
   have o4 : τ.at τ0.next = some ⟨a9,s.cells⟩ := hI.o4
   have o10 : τ.at id = some ⟨de,List.map (TV.int .i64) (todo ++ junk)⟩ := hI.o10
   have fb := (f0.2.2 (TV.int .i64)).2
   rw [Int.toNat_natCast] at fb
   have fc : (List.map (TV.int .i64) (todo ++ junk))[k]? = some (.int .i64 v) := by rw [List.map_append,List.getElem?_append_left (by rw [List.length_map]; exact hk2)]; exact fb
   have hn := hI.next
   have hi := hI.hi
   have h4 : τ0.next < τ.next := by omega
   have h9 : τ0.next + 1 < τ.next := by omega
   have lb := (hf.1 τ.next (by omega)).2
   have l2 := zbq8 τ0 hl0 s np hnp back f b p hf v s.Arcs hA
   have lt : (todo.take k).length = k := by rw [List.length_take]; omega
   simp only [nk,d9,TT,Ic.t,ci,reduceEqDiff,reduceIte,reduceAdd,reduceLT,reduceCtorEq,reduceToNat,c0,w1,b0,b1,b2,o4,o10,fc,h4,hi,CL,MC]
   have q := fun Q hQ => l2 Q seen' todo' s.Arcs.length 0 mg (todo.take k) (todo.drop k ++ junk) id τ rfl (hI.drop k) (by rw [List.drop_zero]; exact ha) hQ
   rw [lt] at q
   refine q _ fun junk' id' τ' hI' => ?_
   simp only [nk,d9,TT,Ic.t,ci,reduceEqDiff,reduceIte,reduceAdd,reduceLT,reduceCtorEq,reduceToNat,h4,h9,lb,CL]
   by_cases hc : id' < τ.next
   · simp only [if_pos hc]
     rw [zbp3 (Nat.le_refl _),hnx]
     simp only [TT,Ic.t,ci,reduceEqDiff,reduceIte,reduceAdd,reduceLT,reduceCtorEq,reduceToNat,h4,h9,lb,hc]
     simp only [zbp3 (Nat.le_refl _),ite_self]
     exact hor _ _ _ (hI'.cutN hc) hQ
   · simp only [if_neg hc]
     rw [hnx]
     simp only [TT,Ic.t,ci,reduceEqDiff,reduceIte,reduceAdd,reduceLT,reduceCtorEq,reduceToNat,h4,h9,lb,hc]
     exact hor _ _ _ hI' hQ
 · rw [if_neg c] at hs
   injection hs with hs
   subst hs
   obtain rfl : _ = r := hor
   obtain rfl : todo = [] := List.eq_nil_of_length_eq_zero (by omega)
   have z : ((([] : List Int).length : Nat) : Int) = 0 := rfl
   have z2 : ([] : List Int).length = 0 := rfl
   simp only [nk,d9,TT,Ic.t,ci,reduceEqDiff,reduceIte,reduceAdd,reduceLT,reduceCtorEq,reduceToNat,he,hrr,CL,z,z2]
   exact hQ _ _ _ hI
theorem zbl0 {τ0 τ : TH} {m : Nat} {l : List Bool} (hg : τ.cut τ0.next = τ0) (ha : τ.at (τ0.next + 1) = some (zbo7 l)) (hl : l.length = m) (K : TV → TH → Prop) : fzK (zah0 τ τ0.next 2 (.slm (τ0.next + 1) 0 m 1)) τ0 K τ = K (.sl (l.map TV.bool)) τ0 := by
 rw [zbii (c := fun x => [TV.bool x]) (e := TV.bool) (by decide) (fun _ => rfl) (fun _ => rfl) τ τ0.next (τ0.next + 1) m zbwu l (by omega) (by rw [ha]; unfold zbo7; rw [List.map_eq_flatMap]) hl (fun x v hv => by
  simp only [List.mem_singleton] at hv
  subst hv; exact ⟨rfl,rfl⟩)]
 show K _ (τ.cut τ0.next) = _
 rw [hg]
theorem zcke (τ0 : TH) (hl0 : τ0.lock ≤ τ0.next) (s : ac) (o : Int) (back : Bool) (f : FuncId) (b : List TV) (p : Int → Option Bool) (hf : zb3n τ0 f b p) (r : List Bool) (h : reF s o back p = some r) :
 Ru G il [.agg [.str s.ID,.sl (List.map af.tv s.Parties),.sl (List.map aa.tv s.Arcs),.sl (List.map (TV.int .i64) s.Leaders),.sl (List.map TV.str s.Locks),.int .i64 s.Start,.int .i64 s.Delta],.int .i64 o,.bool back,.func f [] b] τ0 (.sl (List.map TV.bool r)) τ0 := by
 unfold reF at h
 obtain ⟨⟨hp,hA⟩,h⟩ := ifS h
 refine li fun K hK => ?_
 rw [ce zcpv (Nat.le_of_ble_eq_true rfl)]
 have m1 : ((s.Parties.length : Nat) : Int) * ((1 : Nat) : Int) ≤ 140737488355328 := by omega
 have m2 : ((s.Parties.length : Nat) : Int) ≤ 9223372036854775807 := by omega
 have m0 : (0 : Int) ≤ ((s.Parties.length : Nat) : Int) := by omega
 have f2 : (List.replicate s.Parties.length [.bool false]).flatten = List.map TV.bool (List.replicate s.Parties.length false) := zblz (enc := TV.bool) _ _
 have hI : RI τ0 s s.Parties.length (List.replicate s.Parties.length false) [o] [] (τ0.next + 2) (((τ0.push (zbyl s)).push (zbo7 (List.replicate s.Parties.length false))).push (zbtd [o])) := by
  have n1 : (τ0.push (zbyl s)).next = τ0.next + 1 := ml
  have n2 : ((τ0.push (zbyl s)).push (zbo7 (List.replicate s.Parties.length false))).next = τ0.next + 2 := by rw [ml,n1]
  refine ⟨rfl,?_,?_,?_,Nat.le_refl _,by rw [ml,n2]; omega,?_,by simp,List.length_replicate⟩
  · rw [tx (by omega),tx (by omega),tx (Nat.le_refl _)]
    show TH.mk (τ0.o.take τ0.o.length) τ0.lock = τ0
    rw [List.take_length]
  · rw [mw (by omega),mw (by omega),zbxy]
  · rw [mw (by omega),← n1,zbxy]
  · rw [← n2,zbxy]; rfl
 simp only [d9,TT,Ic.t,ci,reduceEqDiff,reduceIte,reduceAdd,reduceLT,reduceCtorEq,reduceToNat,hl0,m0,m1,m2,f2,CL,MC]
 refine ⟨Int.le_refl _,?_⟩
 have q := fun Q hQ => zbq9 τ0 hl0 s s.Parties.length hp back f b p hf hA Q r _ h [] (τ0.next + 2) _ hI hQ
 refine q _ fun junk id τ hI' => ?_
 have lt9 : τ0.next + 1 < τ0.next + 3 := by omega
 simp only [d9,TT,Ic.t,ci,reduceEqDiff,reduceIte,reduceAdd,reduceLT,reduceCtorEq,reduceToNat,lt9]
 have c3 : (τ.cut (τ0.next + 3)).cut τ0.next = τ0 := by rw [zbp3 (by omega)]; exact hI'.cut
 rw [zbl0 c3 (by rw [zbt2 lt9]; exact hI'.o9) hI'.ln]
 exact hK
end Go.Proofs.Ytdcfoaafkppojaa
