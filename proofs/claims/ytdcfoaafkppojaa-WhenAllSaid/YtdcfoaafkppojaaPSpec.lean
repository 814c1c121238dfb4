/- spec.Check and the document's Check: the same, as functions of lists. -/
import Derived.Test.YtdcfoaafkppojaaPSha
set_option linter.unusedSimpArgs false
set_option linter.unusedVariables false
namespace Go.Proofs.Ytdcfoaafkppojaa
open Go Go.RowKit Sh Ic
def rp (s : ByteArray) : Bool := decide (1 ≤ s.size) && decide (s.size ≤ 16)
def inB (n lo hi : Int) : Bool := decide (lo ≤ n) && decide (n ≤ hi)
theorem kp {n lo hi : Int} : inB n lo hi = true ↔ lo ≤ n ∧ n ≤ hi := by unfold inB; rw [Bool.and_eq_true,decide_eq_true_iff,decide_eq_true_iff]
theorem zatg {s : ByteArray} : rp s = true ↔ 1 ≤ s.size ∧ s.size ≤ 16 := by unfold rp; rw [Bool.and_eq_true,decide_eq_true_iff,decide_eq_true_iff]
theorem name_f (s : ByteArray) : mg s = some (rp s) := by
  unfold mg rp
  by_cases h : 1 ≤ s.size
  · rw [if_pos (by omega),decide_eq_true h,Bool.true_and]
    congr 1
    exact decide_eq_decide.2 ⟨fun _ => by omega,fun _ => by omega⟩
  · rw [if_neg (by omega),decide_eq_false h,Bool.false_and]
theorem in_f (n lo hi : Int) : ir n lo hi = some (inB n lo hi) := by
  unfold ir inB
  by_cases h : lo ≤ n
  · rw [if_pos h,decide_eq_true h,Bool.true_and]
  · rw [if_neg h,decide_eq_false h,Bool.false_and]
theorem za58 {α : Type} (l : List α) (p : α → Bool) (i : Nat) (h : i < l.length) : (l.drop i).any p = (p l[i] || (l.drop (i + 1)).any p) := by
  rw [List.drop_eq_getElem_cons h,List.any_cons]
theorem idxS (l : List ByteArray) (c : Int) (hl : l.length < 1000000) (n : Nat) : ∀ i : Nat,n + i = l.length → ∃ r,bd l c (l.length : Nat) (i : Int) = some r ∧
    ((∃ v,r = .rt v ∧ 0 ≤ v ∧ ((l.drop i).any fun x => decide (¬ ((x.size : Nat) : Int) = c)) = true) ∨ (r = .ex () ∧ ((l.drop i).any fun x => decide (¬ ((x.size : Nat) : Int) = c)) = false)) := by
  induction n with
  | zero =>
    intro i h
    refine ⟨.ex (),?_,.inr ⟨rfl,?_⟩⟩
    · rw [g7,ar,if_neg (by omega),obz,LS.go]
    · rw [List.drop_of_length_le (by omega)]; rfl
  | succ n ih =>
    intro i h
    have hi : i < l.length := by omega
    rw [g7,ar,if_pos (by omega),sq hi,obz,om,obz,za58 _ _ _ hi]
    by_cases p : decide (¬ ((l[i].size : Nat) : Int) = c) = true
    · rw [if_pos p,obz,LS.go]
      exact ⟨_,rfl,.inl ⟨_,rfl,by omega,by rw [p]; rfl⟩⟩
    · have p' := Bool.eq_false_iff.2 p
      rw [if_neg p,obz,LS.go,tn i (by omega),p',Bool.false_or]
      exact ih (i + 1) (by omega)
theorem contS (l : List ByteArray) (c : Int) (hl : l.length < 1000000) : bf l c = some (l.any fun x => decide (¬ ((x.size : Nat) : Int) = c)) := by
  obtain ⟨r,h,q⟩ := idxS l c hl l.length 0 rfl
  rw [List.drop_zero] at q
  have h : bd l c (l.length : Nat) 0 = some r := h
  unfold bf ch
  rw [h,obz]
  rcases q with ⟨v,rfl,h0,q⟩ | ⟨rfl,q⟩
  · show some (decide (0 ≤ v)) = _
    rw [q,decide_eq_true h0]
  · show some (decide ((0 : Int) ≤ -1)) = _
    rw [q]; rfl
def zapo (l : List ByteArray) (n sz : Int) : Bool := decide ((l.length : Int) = n) && !l.any fun x => decide (¬ ((x.size : Nat) : Int) = sz)
theorem sized_f (l : List ByteArray) (n sz : Int) (hn : n < 1000000) : mf l n sz = some (zapo l n sz) := by
  unfold mf zapo
  by_cases h : (l.length : Int) = n
  · rw [if_pos h,contS l sz (by omega),obz,decide_eq_true h,Bool.true_and]
  · rw [if_neg h,decide_eq_false h,Bool.false_and]
theorem yc {l : List ByteArray} {n sz : Int} : zapo l n sz = true ↔ (l.length : Int) = n ∧ ∀ x ∈ l,(x.size : Int) = sz := by
  unfold zapo
  rw [Bool.and_eq_true,decide_eq_true_iff,Bool.not_eq_true',List.any_eq_false]
  refine and_congr_right fun _ => ⟨fun h x hx => ?_,fun h x hx => ?_⟩
  · have := h x hx
    simpa using this
  · simpa using h x hx
def zals (n : Int) (a : af) : Bool := inB a.From 0 (n - 1) && (inB a.To 0 (n - 1) && (decide (a.From ≠ a.To) && (inB a.Ledger 0 3 && (rp a.Asset && inB a.Amount 1 1125899906842624))))
theorem arc_f (a : af) (n : Int) (hn : 0 ≤ n ∧ n < 1000000) : up a n = some (zals n a) := by
  unfold up zals
  have w : IntKind.i64.wrap (n - 1) = n - 1 := wA (by omega) (by omega)
  rw [w,in_f,obz]
  cases inB a.From 0 (n - 1) with
  | false => rfl
  | true =>
    rw [if_pos rfl,in_f,obz]
    cases inB a.To 0 (n - 1) with
    | false => rfl
    | true =>
      rw [if_pos rfl]
      by_cases e : a.From = a.To
      · rw [if_pos e,decide_eq_false (fun h => h e)]; rfl
      · rw [if_neg e,decide_eq_true e,in_f,obz]
        cases inB a.Ledger 0 3 with
        | false => rfl
        | true =>
          rw [if_pos rfl,name_f,obz]
          cases rp a.Asset with
          | false => rfl
          | true => rw [if_pos rfl,in_f,obz]; rfl
def zau0 (nl : Int) (p : ac) : Bool := rp p.Account && zapo p.Keys nl 16
theorem za59 {α : Type} (l : List α) (p : α → Bool) (i : Nat) (h : i < l.length) : (l.drop i).all p = (p l[i] && (l.drop (i + 1)).all p) := by
  rw [List.drop_eq_getElem_cons h,List.all_cons]
theorem chk1 (s : aa) (np nl : Int) (hnl : nl < 1000000) (hp : s.Parties.length < 1000000) (n : Nat) : ∀ i : Nat,n + i = s.Parties.length →
    iu s np nl s.Parties (s.Parties.length : Nat) ((s.Parties.take i).map ac.Account) (i : Int) = some (if (s.Parties.drop i).all (zau0 nl) = true then .ex (s.Parties.map ac.Account) else .rt false) := by
  induction n with
  | zero =>
    intro i h
    rw [w8,dx,if_neg (by omega),obz,LS.go,List.drop_of_length_le (by omega),List.take_of_length_le (by omega)]; rfl
  | succ n ih =>
    intro i h
    have hi : i < s.Parties.length := by omega
    rw [w8,dx,if_pos (by omega),sq hi,obz,name_f,obz,za59 _ _ _ hi]
    unfold zau0
    cases rp s.Parties[i].Account with
    | false => rfl
    | true =>
      rw [if_pos rfl,sized_f _ _ _ hnl,obz]
      cases zapo s.Parties[i].Keys nl 16 with
      | false => rfl
      | true =>
        have e : (s.Parties.take i).map ac.Account ++ [s.Parties[i].Account] = (s.Parties.take (i + 1)).map ac.Account := by
          rw [List.take_succ_eq_append_getElem hi,List.map_append]; rfl
        rw [if_pos rfl,if_pos (by rw [List.length_map,List.length_take]; omega),obz,LS.go,tn i (by omega)]
        show iu s np nl s.Parties _ ((s.Parties.take i).map ac.Account ++ [s.Parties[i].Account]) _ = _
        rw [e,ih (i + 1) (by omega)]
        rfl
def ways (l : List af) : List da := l.map fun a => ⟨a.From,a.To⟩
theorem chk2 (s : aa) (np : Int) (acc : List ByteArray) (hnp : 0 ≤ np ∧ np < 1000000) (hp : s.Arcs.length < 1000000) (n : Nat) : ∀ i : Nat,n + i = s.Arcs.length →
    gt s np acc s.Arcs (s.Arcs.length : Nat) (ways (s.Arcs.take i)) (i : Int) = some (if (s.Arcs.drop i).all (zals np) = true then .ex (ways s.Arcs) else .rt false) := by
  induction n with
  | zero =>
    intro i h
    rw [wz,dw,if_neg (by omega),obz,LS.go,List.drop_of_length_le (by omega),List.take_of_length_le (by omega)]; rfl
  | succ n ih =>
    intro i h
    have hi : i < s.Arcs.length := by omega
    rw [wz,dw,if_pos (by omega),sq hi,obz,arc_f _ _ hnp,obz,za59 _ _ _ hi]
    show (if zals np s.Arcs[i] = true then _ else _ : Option _) >>= _ = _
    cases zals np s.Arcs[i] with
    | false => rfl
    | true =>
      have e : ways (s.Arcs.take i) ++ [(⟨s.Arcs[i].From,s.Arcs[i].To⟩ : da)] = ways (s.Arcs.take (i + 1)) := by
        unfold ways; rw [List.take_succ_eq_append_getElem hi,List.map_append]; rfl
      rw [if_pos rfl,if_pos (by unfold ways; rw [List.length_map,List.length_take]; omega),obz,LS.go,tn i (by omega)]
      show gt s np acc s.Arcs _ (ways (s.Arcs.take i) ++ [(⟨s.Arcs[i].From,s.Arcs[i].To⟩ : da)]) _ = _
      rw [e,ih (i + 1) (by omega)]
      rfl
end Go.Proofs.Ytdcfoaafkppojaa
