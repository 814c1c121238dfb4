/- spec.Check and the document's Check: the same, as functions of lists. -/
import Derived.Test.YtdcfoaafkppojaaPSha
set_option linter.unusedSimpArgs false
set_option linter.unusedVariables false
namespace Go.Proofs.Ytdcfoaafkppojaa
open Go Go.RowKit Sh Ic
def okName (s : ByteArray) : Bool := decide (1 ≤ s.size) && decide (s.size ≤ 16)
def inB (n lo hi : Int) : Bool := decide (lo ≤ n) && decide (n ≤ hi)
theorem inB_iff {n lo hi : Int} : inB n lo hi = true ↔ lo ≤ n ∧ n ≤ hi := by unfold inB; rw [Bool.and_eq_true,decide_eq_true_iff,decide_eq_true_iff]
theorem okName_iff {s : ByteArray} : okName s = true ↔ 1 ≤ s.size ∧ s.size ≤ 16 := by unfold okName; rw [Bool.and_eq_true,decide_eq_true_iff,decide_eq_true_iff]
theorem name_f (s : ByteArray) : spec_name_f s = some (okName s) := by
  unfold spec_name_f okName
  by_cases h : 1 ≤ s.size
  · rw [if_pos (by omega),decide_eq_true h,Bool.true_and]
    congr 1
    exact decide_eq_decide.2 ⟨fun _ => by omega,fun _ => by omega⟩
  · rw [if_neg (by omega),decide_eq_false h,Bool.false_and]
theorem in_f (n lo hi : Int) : spec_in_f n lo hi = some (inB n lo hi) := by
  unfold spec_in_f inB
  by_cases h : lo ≤ n
  · rw [if_pos h,decide_eq_true h,Bool.true_and]
  · rw [if_neg h,decide_eq_false h,Bool.false_and]
theorem drop_any {α : Type} (l : List α) (p : α → Bool) (i : Nat) (h : i < l.length) : (l.drop i).any p = (p l[i] || (l.drop (i + 1)).any p) := by
  rw [List.drop_eq_getElem_cons h,List.any_cons]
theorem idxS (l : List ByteArray) (c : Int) (hl : l.length < 1000000) (n : Nat) : ∀ i : Nat,n + i = l.length → ∃ r,slices_IndexFunc_string_string_f_l1 l c (l.length : Nat) (i : Int) = some r ∧
    ((∃ v,r = .rt v ∧ 0 ≤ v ∧ ((l.drop i).any fun x => decide (¬ ((x.size : Nat) : Int) = c)) = true) ∨ (r = .ex () ∧ ((l.drop i).any fun x => decide (¬ ((x.size : Nat) : Int) = c)) = false)) := by
  induction n with
  | zero =>
    intro i h
    refine ⟨.ex (),?_,.inr ⟨rfl,?_⟩⟩
    · rw [slices_IndexFunc_string_string_f_l1_eq,slices_IndexFunc_string_string_f_l1_step,if_neg (by omega),obz,LS.go]
    · rw [List.drop_of_length_le (by omega)]; rfl
  | succ n ih =>
    intro i h
    have hi : i < l.length := by omega
    rw [slices_IndexFunc_string_string_f_l1_eq,slices_IndexFunc_string_string_f_l1_step,if_pos (by omega),ixL_nat hi,obz,spec_sized_1_f,obz,drop_any _ _ _ hi]
    by_cases p : decide (¬ ((l[i].size : Nat) : Int) = c) = true
    · rw [if_pos p,obz,LS.go]
      exact ⟨_,rfl,.inl ⟨_,rfl,by omega,by rw [p]; rfl⟩⟩
    · have p' := Bool.eq_false_iff.2 p
      rw [if_neg p,obz,LS.go,inc64 i (by omega),p',Bool.false_or]
      exact ih (i + 1) (by omega)
theorem contS (l : List ByteArray) (c : Int) (hl : l.length < 1000000) : slices_ContainsFunc_string_string_f l c = some (l.any fun x => decide (¬ ((x.size : Nat) : Int) = c)) := by
  obtain ⟨r,h,q⟩ := idxS l c hl l.length 0 rfl
  rw [List.drop_zero] at q
  have h : slices_IndexFunc_string_string_f_l1 l c (l.length : Nat) 0 = some r := h
  unfold slices_ContainsFunc_string_string_f slices_IndexFunc_string_string_f
  rw [h,obz]
  rcases q with ⟨v,rfl,h0,q⟩ | ⟨rfl,q⟩
  · show some (decide (0 ≤ v)) = _
    rw [q,decide_eq_true h0]
  · show some (decide ((0 : Int) ≤ -1)) = _
    rw [q]; rfl
def sizedB (l : List ByteArray) (n sz : Int) : Bool := decide ((l.length : Int) = n) && !l.any fun x => decide (¬ ((x.size : Nat) : Int) = sz)
theorem sized_f (l : List ByteArray) (n sz : Int) (hn : n < 1000000) : spec_sized_f l n sz = some (sizedB l n sz) := by
  unfold spec_sized_f sizedB
  by_cases h : (l.length : Int) = n
  · rw [if_pos h,contS l sz (by omega),obz,decide_eq_true h,Bool.true_and]
  · rw [if_neg h,decide_eq_false h,Bool.false_and]
theorem sizedB_iff {l : List ByteArray} {n sz : Int} : sizedB l n sz = true ↔ (l.length : Int) = n ∧ ∀ x ∈ l,(x.size : Int) = sz := by
  unfold sizedB
  rw [Bool.and_eq_true,decide_eq_true_iff,Bool.not_eq_true',List.any_eq_false]
  refine and_congr_right fun _ => ⟨fun h x hx => ?_,fun h x hx => ?_⟩
  · have := h x hx
    simpa using this
  · simpa using h x hx
def okArc (n : Int) (a : S_api_Arc) : Bool := inB a.From 0 (n - 1) && (inB a.To 0 (n - 1) && (decide (a.From ≠ a.To) && (inB a.Ledger 0 3 && (okName a.Asset && inB a.Amount 1 1125899906842624))))
theorem arc_f (a : S_api_Arc) (n : Int) (hn : 0 ≤ n ∧ n < 1000000) : spec_arc_f a n = some (okArc n a) := by
  unfold spec_arc_f okArc
  have w : IntKind.i64.wrap (n - 1) = n - 1 := wA (by omega) (by omega)
  rw [w,in_f,obz]
  cases inB a.From 0 (n - 1) with
  | false => rfl
  | true =>
    rw [if_pos rfl,in_f,obz]
    cases inB a.To 0 (n - 1) with
    | false => rfl
    | true =>
      rw [if_pos rfl]
      by_cases e : a.From = a.To
      · rw [if_pos e,decide_eq_false (fun h => h e)]; rfl
      · rw [if_neg e,decide_eq_true e,in_f,obz]
        cases inB a.Ledger 0 3 with
        | false => rfl
        | true =>
          rw [if_pos rfl,name_f,obz]
          cases okName a.Asset with
          | false => rfl
          | true => rw [if_pos rfl,in_f,obz]; rfl
def okPty (nl : Int) (p : S_api_Party) : Bool := okName p.Account && sizedB p.Keys nl 16
theorem drop_all {α : Type} (l : List α) (p : α → Bool) (i : Nat) (h : i < l.length) : (l.drop i).all p = (p l[i] && (l.drop (i + 1)).all p) := by
  rw [List.drop_eq_getElem_cons h,List.all_cons]
theorem chk1 (s : S_api_Spec) (np nl : Int) (hnl : nl < 1000000) (hp : s.Parties.length < 1000000) (n : Nat) : ∀ i : Nat,n + i = s.Parties.length →
    spec_Check_f_l1 s np nl s.Parties (s.Parties.length : Nat) ((s.Parties.take i).map S_api_Party.Account) (i : Int) = some (if (s.Parties.drop i).all (okPty nl) = true then .ex (s.Parties.map S_api_Party.Account) else .rt false) := by
  induction n with
  | zero =>
    intro i h
    rw [spec_Check_f_l1_eq,spec_Check_f_l1_step,if_neg (by omega),obz,LS.go,List.drop_of_length_le (by omega),List.take_of_length_le (by omega)]; rfl
  | succ n ih =>
    intro i h
    have hi : i < s.Parties.length := by omega
    rw [spec_Check_f_l1_eq,spec_Check_f_l1_step,if_pos (by omega),ixL_nat hi,obz,name_f,obz,drop_all _ _ _ hi]
    unfold okPty
    cases okName s.Parties[i].Account with
    | false => rfl
    | true =>
      rw [if_pos rfl,sized_f _ _ _ hnl,obz]
      cases sizedB s.Parties[i].Keys nl 16 with
      | false => rfl
      | true =>
        have e : (s.Parties.take i).map S_api_Party.Account ++ [s.Parties[i].Account] = (s.Parties.take (i + 1)).map S_api_Party.Account := by
          rw [List.take_succ_eq_append_getElem hi,List.map_append]; rfl
        rw [if_pos rfl,if_pos (by rw [List.length_map,List.length_take]; omega),obz,LS.go,inc64 i (by omega)]
        show spec_Check_f_l1 s np nl s.Parties _ ((s.Parties.take i).map S_api_Party.Account ++ [s.Parties[i].Account]) _ = _
        rw [e,ih (i + 1) (by omega)]
        rfl
def ways (l : List S_api_Arc) : List A_2_Int := l.map fun a => ⟨a.From,a.To⟩
theorem chk2 (s : S_api_Spec) (np : Int) (acc : List ByteArray) (hnp : 0 ≤ np ∧ np < 1000000) (hp : s.Arcs.length < 1000000) (n : Nat) : ∀ i : Nat,n + i = s.Arcs.length →
    spec_Check_f_l2 s np acc s.Arcs (s.Arcs.length : Nat) (ways (s.Arcs.take i)) (i : Int) = some (if (s.Arcs.drop i).all (okArc np) = true then .ex (ways s.Arcs) else .rt false) := by
  induction n with
  | zero =>
    intro i h
    rw [spec_Check_f_l2_eq,spec_Check_f_l2_step,if_neg (by omega),obz,LS.go,List.drop_of_length_le (by omega),List.take_of_length_le (by omega)]; rfl
  | succ n ih =>
    intro i h
    have hi : i < s.Arcs.length := by omega
    rw [spec_Check_f_l2_eq,spec_Check_f_l2_step,if_pos (by omega),ixL_nat hi,obz,arc_f _ _ hnp,obz,drop_all _ _ _ hi]
    show (if okArc np s.Arcs[i] = true then _ else _ : Option _) >>= _ = _
    cases okArc np s.Arcs[i] with
    | false => rfl
    | true =>
      have e : ways (s.Arcs.take i) ++ [(⟨s.Arcs[i].From,s.Arcs[i].To⟩ : A_2_Int)] = ways (s.Arcs.take (i + 1)) := by
        unfold ways; rw [List.take_succ_eq_append_getElem hi,List.map_append]; rfl
      rw [if_pos rfl,if_pos (by unfold ways; rw [List.length_map,List.length_take]; omega),obz,LS.go,inc64 i (by omega)]
      show spec_Check_f_l2 s np acc s.Arcs _ (ways (s.Arcs.take i) ++ [(⟨s.Arcs[i].From,s.Arcs[i].To⟩ : A_2_Int)]) _ = _
      rw [e,ih (i + 1) (by omega)]
      rfl
end Go.Proofs.Ytdcfoaafkppojaa
