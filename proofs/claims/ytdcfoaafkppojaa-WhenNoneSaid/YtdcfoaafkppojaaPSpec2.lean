/- spec.Check as a whole. -/
import Derived.Test.YtdcfoaafkppojaaPSpec
set_option linter.unusedSimpArgs false
set_option linter.unusedVariables false
namespace Go.Proofs.Ytdcfoaafkppojaa
open Go Go.RowKit Sh Ic
theorem idxI (l : List Int) (c : Int) (hc : 0 ≤ c ∧ c < 1000000) (hl : l.length < 1000000) (n : Nat) : ∀ i : Nat,n + i = l.length → ∃ r,slices_IndexFunc_int_int_f_l1 l c (l.length : Nat) (i : Int) = some r ∧
    ((∃ v,r = .rt v ∧ 0 ≤ v ∧ ((l.drop i).any fun x => !inB x 0 (c - 1)) = true) ∨ (r = .ex () ∧ ((l.drop i).any fun x => !inB x 0 (c - 1)) = false)) := by
  have w : IntKind.i64.wrap (c - 1) = c - 1 := wA (by omega) (by omega)
  induction n with
  | zero =>
    intro i h
    refine ⟨.ex (),?_,.inr ⟨rfl,?_⟩⟩
    · rw [slices_IndexFunc_int_int_f_l1_eq,slices_IndexFunc_int_int_f_l1_step,if_neg (by omega),obz,LS.go]
    · rw [List.drop_of_length_le (by omega)]; rfl
  | succ n ih =>
    intro i h
    have hi : i < l.length := by omega
    rw [slices_IndexFunc_int_int_f_l1_eq,slices_IndexFunc_int_int_f_l1_step,if_pos (by omega),ixL_nat hi,obz,spec_Check_1_f,w,in_f,obz,obz,drop_any _ _ _ hi]
    by_cases p : (!inB l[i] 0 (c - 1)) = true
    · rw [if_pos p,obz,LS.go]
      exact ⟨_,rfl,.inl ⟨_,rfl,by omega,by rw [p]; rfl⟩⟩
    · have p' := Bool.eq_false_iff.2 p
      rw [if_neg p,obz,LS.go,inc64 i (by omega),p',Bool.false_or]
      exact ih (i + 1) (by omega)
theorem contI (l : List Int) (c : Int) (hc : 0 ≤ c ∧ c < 1000000) (hl : l.length < 1000000) : slices_ContainsFunc_int_int_f l c = some (l.any fun x => !inB x 0 (c - 1)) := by
  obtain ⟨r,h,q⟩ := idxI l c hc hl l.length 0 rfl
  rw [List.drop_zero] at q
  have h : slices_IndexFunc_int_int_f_l1 l c (l.length : Nat) 0 = some r := h
  unfold slices_ContainsFunc_int_int_f slices_IndexFunc_int_int_f
  rw [h,obz]
  rcases q with ⟨v,rfl,h0,q⟩ | ⟨rfl,q⟩
  · show some (decide (0 ≤ v)) = _
    rw [q,decide_eq_true h0]
  · show some (decide ((0 : Int) ≤ -1)) = _
    rw [q]; rfl
structure Ok (s : S_api_Spec) : Prop where
  id : okName s.ID = true
  np : 2 ≤ s.Parties.length ∧ s.Parties.length ≤ 6
  nl : 1 ≤ s.Leaders.length ∧ s.Leaders.length ≤ 3
  na : 1 ≤ s.Arcs.length ∧ s.Arcs.length ≤ 12
  locks : s.Locks.length = s.Leaders.length ∧ ∀ x ∈ s.Locks,x.size = 32
  start : 0 ≤ s.Start ∧ s.Start ≤ 1099511627776
  delta : 1 ≤ s.Delta ∧ s.Delta ≤ 1048576
  parties : ∀ p ∈ s.Parties,okPty (s.Leaders.length : Nat) p = true
  arcs : ∀ a ∈ s.Arcs,okArc (s.Parties.length : Nat) a = true
  accts : (s.Parties.map S_api_Party.Account).Nodup
  ways : (s.Arcs.map fun a => (a.From,a.To)).Nodup
  leads : s.Leaders.Nodup
  inl : ∀ v ∈ s.Leaders,0 ≤ v ∧ v < s.Parties.length
structure Wf (s : S_api_Spec) : Prop where
  leads : ∀ v ∈ s.Leaders,ok64 v = true
  start : ok64 s.Start = true
  delta : ok64 s.Delta = true
theorem ok64_of {n : Int} (h1 : -9223372036854775808 ≤ n) (h2 : n ≤ 9223372036854775807) : ok64 n = true := by
  unfold ok64; rw [decide_eq_true h1,decide_eq_true h2]; rfl
open Classical in
noncomputable def okS (s : S_api_Spec) : Bool := decide (Ok s)
open Classical in
theorem okS_true {s : S_api_Spec} (h : Ok s) : okS s = true := by unfold okS; exact decide_eq_true h
open Classical in
theorem okS_false {s : S_api_Spec} (h : ¬ Ok s) : okS s = false := by unfold okS; exact decide_eq_false h
open Classical in
theorem okS_iff {s : S_api_Spec} : okS s = true ↔ Ok s := by unfold okS; exact decide_eq_true_iff
theorem Check_f (s : S_api_Spec) (hw : Wf s) : spec_Check_f s = some (okS s) := by
  unfold spec_Check_f
  rw [name_f,obz]
  by_cases h1 : okName s.ID = true
  rotate_left
  · rw [if_neg h1,okS_false fun h => h1 h.id]
  rw [if_pos h1,in_f,obz]
  by_cases h2 : inB (s.Parties.length : Nat) 2 6 = true
  rotate_left
  · rw [if_neg h2,okS_false fun h => h2 (inB_iff.2 ⟨by have := h.np; omega,by have := h.np; omega⟩)]
  have h2' := inB_iff.1 h2
  rw [if_pos h2,in_f,obz]
  by_cases h3 : inB (s.Leaders.length : Nat) 1 3 = true
  rotate_left
  · rw [if_neg h3,okS_false fun h => h3 (inB_iff.2 ⟨by have := h.nl; omega,by have := h.nl; omega⟩)]
  have h3' := inB_iff.1 h3
  rw [if_pos h3,in_f,obz]
  by_cases h4 : inB (s.Arcs.length : Nat) 1 12 = true
  rotate_left
  · rw [if_neg h4,okS_false fun h => h4 (inB_iff.2 ⟨by have := h.na; omega,by have := h.na; omega⟩)]
  have h4' := inB_iff.1 h4
  rw [if_pos h4,sized_f _ _ _ (by omega),obz]
  by_cases h5 : sizedB s.Locks (s.Leaders.length : Nat) 32 = true
  rotate_left
  · rw [if_neg h5,okS_false fun h => h5 (sizedB_iff.2 ⟨by have := h.locks.1; omega,fun x hx => by have := h.locks.2 x hx; omega⟩)]
  have h5' := sizedB_iff.1 h5
  rw [if_pos h5,in_f,obz]
  by_cases h6 : inB s.Start 0 1099511627776 = true
  rotate_left
  · rw [if_neg h6,okS_false fun h => h6 (inB_iff.2 h.start)]
  rw [if_pos h6,in_f,obz]
  by_cases h7 : inB s.Delta 1 1048576 = true
  rotate_left
  · rw [if_neg h7,okS_false fun h => h7 (inB_iff.2 h.delta)]
  have e1 := chk1 s (s.Parties.length : Nat) (s.Leaders.length : Nat) (by omega) (by omega) s.Parties.length 0 rfl
  have e1 : spec_Check_f_l1 s (s.Parties.length : Nat) (s.Leaders.length : Nat) s.Parties (s.Parties.length : Nat) [] 0 = _ := e1
  rw [if_pos h7,e1,obz,List.drop_zero]
  by_cases h8 : s.Parties.all (okPty (s.Leaders.length : Nat)) = true
  rotate_left
  · rw [if_neg h8,okS_false fun h => h8 (List.all_eq_true.2 h.parties)]
  rw [if_pos h8]
  have h8' := List.all_eq_true.1 h8
  have e2 := chk2 s (s.Parties.length : Nat) (s.Parties.map S_api_Party.Account) (by omega) (by omega) s.Arcs.length 0 rfl
  have e2 : spec_Check_f_l2 s (s.Parties.length : Nat) (s.Parties.map S_api_Party.Account) s.Arcs (s.Arcs.length : Nat) [] 0 = _ := e2
  show spec_Check_f_l2 s (s.Parties.length : Nat) (s.Parties.map S_api_Party.Account) s.Arcs (s.Arcs.length : Nat) [] 0 >>= _ = _
  rw [e2,obz,List.drop_zero]
  by_cases h9 : s.Arcs.all (okArc (s.Parties.length : Nat)) = true
  rotate_left
  · rw [if_neg h9,okS_false fun h => h9 (List.all_eq_true.2 h.arcs)]
  rw [if_pos h9]
  have h9' := List.all_eq_true.1 h9
  show spec_once_string_f (s.Parties.map S_api_Party.Account) >>= _ = _
  have o1 : spec_once_string_f (s.Parties.map S_api_Party.Account) = some (decide (s.Parties.map S_api_Party.Account).Nodup) := if_pos ⟨by rw [List.length_map]; omega,fun x hx => by
    obtain ⟨p,hp,rfl⟩ := List.mem_map.1 hx
    have := h8' p hp
    unfold okPty at this
    rw [Bool.and_eq_true,okName_iff] at this
    omega⟩
  rw [o1,obz]
  by_cases h10 : (s.Parties.map S_api_Party.Account).Nodup
  rotate_left
  · rw [if_neg (by rw [decide_eq_true_iff]; exact h10),okS_false fun h => h10 h.accts]
  rw [if_pos (decide_eq_true h10)]
  have em : (ways s.Arcs).map two = s.Arcs.map fun a => (a.From,a.To) := by unfold ways; rw [List.map_map]; rfl
  have o2 : spec_once_2_int_f (ways s.Arcs) = some (decide ((s.Arcs.map fun a => (a.From,a.To)).Nodup)) := by
    rw [← em]
    exact if_pos ⟨by unfold ways; rw [List.length_map]; omega,fun x hx => by
      obtain ⟨a,ha,rfl⟩ := List.mem_map.1 hx
      have := h9' a ha
      unfold okArc at this
      rw [Bool.and_eq_true,Bool.and_eq_true,inB_iff,inB_iff] at this
      rw [Bool.and_eq_true]
      exact ⟨ok64_of (by show _ ≤ a.From; omega) (by show a.From ≤ _; omega),ok64_of (by show _ ≤ a.To; omega) (by show a.To ≤ _; omega)⟩⟩
  rw [o2,obz]
  by_cases h11 : (s.Arcs.map fun a => (a.From,a.To)).Nodup
  rotate_left
  · rw [if_neg (by rw [decide_eq_true_iff]; exact h11),okS_false fun h => h11 h.ways]
  have o3 : spec_once_int_f s.Leaders = some (decide s.Leaders.Nodup) := if_pos ⟨by omega,hw.leads⟩
  rw [if_pos (decide_eq_true h11),o3,obz]
  by_cases h12 : s.Leaders.Nodup
  rotate_left
  · rw [if_neg (by rw [decide_eq_true_iff]; exact h12),okS_false fun h => h12 h.leads]
  rw [if_pos (decide_eq_true h12),contI _ _ ⟨by omega,by omega⟩ (by omega),obz]
  cases h13 : s.Leaders.any fun x => !inB x 0 ((s.Parties.length : Nat) - 1) with
  | true =>
    rw [okS_false fun h => by
      rw [List.any_eq_true] at h13
      obtain ⟨x,hx,h13⟩ := h13
      have := h.inl x hx
      rw [Bool.not_eq_true',← Bool.not_eq_true,inB_iff] at h13
      omega]
    rfl
  | false =>
    rw [List.any_eq_false] at h13
    rw [okS_true ⟨h1,⟨by omega,by omega⟩,⟨by omega,by omega⟩,⟨by omega,by omega⟩,⟨by omega,fun x hx => by have := h5'.2 x hx; omega⟩,inB_iff.1 h6,inB_iff.1 h7,h8',h9',h10,h11,h12,fun v hv => by
      have := h13 v hv
      rw [Bool.not_eq_true',Bool.not_eq_false,inB_iff] at this
      omega⟩]
    rfl
theorem loopX {f : Nat → Option (LX Unit Bool)} {N : Nat} {P : Nat → Prop} (he : f N = some (.ex ())) (hs : ∀ k,k < N → P k → f k = f (k + 1)) (hb : ∀ k,k < N → ¬ P k → f k = some (.rt false)) :
    (f 0 = some (.ex ()) ∧ ∀ j,j < N → P j) ∨ (f 0 = some (.rt false) ∧ ∃ j,j < N ∧ ¬ P j) := by
  have go : ∀ n k,n + k = N → (f k = some (.ex ()) ∧ ∀ j,k ≤ j → j < N → P j) ∨ (f k = some (.rt false) ∧ ∃ j,j < N ∧ ¬ P j) := by
    intro n
    induction n with
    | zero =>
      intro k h
      obtain rfl : k = N := by omega
      exact .inl ⟨he,fun j h1 h2 => by omega⟩
    | succ n ih =>
      intro k h
      by_cases p : P k
      · rw [hs k (by omega) p]
        rcases ih (k + 1) (by omega) with ⟨h1,h2⟩ | h1
        · refine .inl ⟨h1,fun j h3 h4 => ?_⟩
          by_cases e : j = k
          · rw [e]; exact p
          · exact h2 j (by omega) h4
        · exact .inr h1
      · exact .inr ⟨hb k (by omega) p,k,by omega,p⟩
  rcases go N 0 rfl with ⟨h1,h2⟩ | h
  · exact .inl ⟨h1,fun j h => h2 j (Nat.zero_le _) h⟩
  · exact .inr h
theorem at_of {α : Type} {l : List α} {i : Nat} {x : α} (h : l[i]? = some x) : i < l.length ∧ ixL l (i : Int) = some x := by
  obtain ⟨h1,h2⟩ := List.getElem?_eq_some_iff.1 h
  exact ⟨h1,by rw [ixL_nat h1,h2]⟩
theorem at_ex {α : Type} {l : List α} {i : Nat} (h : i < l.length) : ∃ x,l[i]? = some x := ⟨_,List.getElem?_eq_getElem h⟩
theorem nodup_ix {α β : Type} {l : List α} {f : α → β} : (∀ (j : Nat) (x : α),l[j]? = some x → ∀ k : Nat,k < j → ∀ y,l[k]? = some y → f y ≠ f x) ↔ (l.map f).Nodup := by
  unfold List.Nodup
  rw [List.pairwise_iff_getElem]
  constructor
  · intro h i j hi hj hij
    rw [List.length_map] at hi hj
    rw [List.getElem_map,List.getElem_map]
    exact h j _ (List.getElem?_eq_getElem hj) i hij _ (List.getElem?_eq_getElem hi)
  · intro h j x hj k hk y hy
    obtain ⟨h1,h2⟩ := List.getElem?_eq_some_iff.1 hj
    obtain ⟨h3,h4⟩ := List.getElem?_eq_some_iff.1 hy
    have := h k j (by rw [List.length_map]; exact h3) (by rw [List.length_map]; exact h1) hk
    rw [List.getElem_map,List.getElem_map,h2,h4] at this
    exact this
end Go.Proofs.Ytdcfoaafkppojaa
