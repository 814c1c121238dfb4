/- spec.Check as a whole. -/
import Derived.Test.YtdcfoaafkppojaaPSpec
set_option linter.unusedSimpArgs false
set_option linter.unusedVariables false
namespace Go.Proofs.Ytdcfoaafkppojaa
open Go Go.RowKit Sh Ic
theorem idxI (l : List Int) (c : Int) (hc : 0 ≤ c ∧ c < 1000000) (hl : l.length < 1000000) (n : Nat) : ∀ i : Nat,n + i = l.length → ∃ r,bv l c (l.length : Nat) (i : Int) = some r ∧
    ((∃ v,r = .rt v ∧ 0 ≤ v ∧ ((l.drop i).any fun x => !inB x 0 (c - 1)) = true) ∨ (r = .ex () ∧ ((l.drop i).any fun x => !inB x 0 (c - 1)) = false)) := by
  have w : IntKind.i64.wrap (c - 1) = c - 1 := wA (by omega) (by omega)
  induction n with
  | zero =>
    intro i h
    refine ⟨.ex (),?_,.inr ⟨rfl,?_⟩⟩
    · rw [jt,ay,if_neg (by omega),obz,LS.go]
    · rw [List.drop_of_length_le (by omega)]; rfl
  | succ n ih =>
    intro i h
    have hi : i < l.length := by omega
    rw [jt,ay,if_pos (by omega),sq hi,obz,oo,w,in_f,obz,obz,za58 _ _ _ hi]
    by_cases p : (!inB l[i] 0 (c - 1)) = true
    · rw [if_pos p,obz,LS.go]
      exact ⟨_,rfl,.inl ⟨_,rfl,by omega,by rw [p]; rfl⟩⟩
    · have p' := Bool.eq_false_iff.2 p
      rw [if_neg p,obz,LS.go,tn i (by omega),p',Bool.false_or]
      exact ih (i + 1) (by omega)
theorem contI (l : List Int) (c : Int) (hc : 0 ≤ c ∧ c < 1000000) (hl : l.length < 1000000) : bw l c = some (l.any fun x => !inB x 0 (c - 1)) := by
  obtain ⟨r,h,q⟩ := idxI l c hc hl l.length 0 rfl
  rw [List.drop_zero] at q
  have h : bv l c (l.length : Nat) 0 = some r := h
  unfold bw eo
  rw [h,obz]
  rcases q with ⟨v,rfl,h0,q⟩ | ⟨rfl,q⟩
  · show some (decide (0 ≤ v)) = _
    rw [q,decide_eq_true h0]
  · show some (decide ((0 : Int) ≤ -1)) = _
    rw [q]; rfl
structure Ok (s : aa) : Prop where
  id : rp s.ID = true
  np : 2 ≤ s.Parties.length ∧ s.Parties.length ≤ 6
  nl : 1 ≤ s.Leaders.length ∧ s.Leaders.length ≤ 3
  na : 1 ≤ s.Arcs.length ∧ s.Arcs.length ≤ 12
  locks : s.Locks.length = s.Leaders.length ∧ ∀ x ∈ s.Locks,x.size = 32
  start : 0 ≤ s.Start ∧ s.Start ≤ 1099511627776
  delta : 1 ≤ s.Delta ∧ s.Delta ≤ 1048576
  parties : ∀ p ∈ s.Parties,zau0 (s.Leaders.length : Nat) p = true
  arcs : ∀ a ∈ s.Arcs,zals (s.Parties.length : Nat) a = true
  accts : (s.Parties.map ac.Account).Nodup
  ways : (s.Arcs.map fun a => (a.From,a.To)).Nodup
  leads : s.Leaders.Nodup
  inl : ∀ v ∈ s.Leaders,0 ≤ v ∧ v < s.Parties.length
structure Wf (s : aa) : Prop where
  leads : ∀ v ∈ s.Leaders,zaos v = true
  start : zaos s.Start = true
  delta : zaos s.Delta = true
theorem zapz {n : Int} (h1 : -9223372036854775808 ≤ n) (h2 : n ≤ 9223372036854775807) : zaos n = true := by
  unfold zaos; rw [decide_eq_true h1,decide_eq_true h2]; rfl
open Classical in
noncomputable def okS (s : aa) : Bool := decide (Ok s)
open Classical in
theorem zaor {s : aa} (h : Ok s) : okS s = true := by unfold okS; exact decide_eq_true h
open Classical in
theorem ji {s : aa} (h : ¬ Ok s) : okS s = false := by unfold okS; exact decide_eq_false h
open Classical in
theorem zz {s : aa} : okS s = true ↔ Ok s := by unfold okS; exact decide_eq_true_iff
theorem Check_f (s : aa) (hw : Wf s) : mh s = some (okS s) := by
  unfold mh
  rw [name_f,obz]
  by_cases h1 : rp s.ID = true
  rotate_left
  · rw [if_neg h1,ji fun h => h1 h.id]
  rw [if_pos h1,in_f,obz]
  by_cases h2 : inB (s.Parties.length : Nat) 2 6 = true
  rotate_left
  · rw [if_neg h2,ji fun h => h2 (kp.2 ⟨by have := h.np; omega,by have := h.np; omega⟩)]
  have h2' := kp.1 h2
  rw [if_pos h2,in_f,obz]
  by_cases h3 : inB (s.Leaders.length : Nat) 1 3 = true
  rotate_left
  · rw [if_neg h3,ji fun h => h3 (kp.2 ⟨by have := h.nl; omega,by have := h.nl; omega⟩)]
  have h3' := kp.1 h3
  rw [if_pos h3,in_f,obz]
  by_cases h4 : inB (s.Arcs.length : Nat) 1 12 = true
  rotate_left
  · rw [if_neg h4,ji fun h => h4 (kp.2 ⟨by have := h.na; omega,by have := h.na; omega⟩)]
  have h4' := kp.1 h4
  rw [if_pos h4,sized_f _ _ _ (by omega),obz]
  by_cases h5 : zapo s.Locks (s.Leaders.length : Nat) 32 = true
  rotate_left
  · rw [if_neg h5,ji fun h => h5 (yc.2 ⟨by have := h.locks.1; omega,fun x hx => by have := h.locks.2 x hx; omega⟩)]
  have h5' := yc.1 h5
  rw [if_pos h5,in_f,obz]
  by_cases h6 : inB s.Start 0 1099511627776 = true
  rotate_left
  · rw [if_neg h6,ji fun h => h6 (kp.2 h.start)]
  rw [if_pos h6,in_f,obz]
  by_cases h7 : inB s.Delta 1 1048576 = true
  rotate_left
  · rw [if_neg h7,ji fun h => h7 (kp.2 h.delta)]
  have e1 := chk1 s (s.Parties.length : Nat) (s.Leaders.length : Nat) (by omega) (by omega) s.Parties.length 0 rfl
  have e1 : iu s (s.Parties.length : Nat) (s.Leaders.length : Nat) s.Parties (s.Parties.length : Nat) [] 0 = _ := e1
  rw [if_pos h7,e1,obz,List.drop_zero]
  by_cases h8 : s.Parties.all (zau0 (s.Leaders.length : Nat)) = true
  rotate_left
  · rw [if_neg h8,ji fun h => h8 (List.all_eq_true.2 h.parties)]
  rw [if_pos h8]
  have h8' := List.all_eq_true.1 h8
  have e2 := chk2 s (s.Parties.length : Nat) (s.Parties.map ac.Account) (by omega) (by omega) s.Arcs.length 0 rfl
  have e2 : gt s (s.Parties.length : Nat) (s.Parties.map ac.Account) s.Arcs (s.Arcs.length : Nat) [] 0 = _ := e2
  show gt s (s.Parties.length : Nat) (s.Parties.map ac.Account) s.Arcs (s.Arcs.length : Nat) [] 0 >>= _ = _
  rw [e2,obz,List.drop_zero]
  by_cases h9 : s.Arcs.all (zals (s.Parties.length : Nat)) = true
  rotate_left
  · rw [if_neg h9,ji fun h => h9 (List.all_eq_true.2 h.arcs)]
  rw [if_pos h9]
  have h9' := List.all_eq_true.1 h9
  show jg (s.Parties.map ac.Account) >>= _ = _
  have o1 : jg (s.Parties.map ac.Account) = some (decide (s.Parties.map ac.Account).Nodup) := if_pos ⟨by rw [List.length_map]; omega,fun x hx => by
    obtain ⟨p,hp,rfl⟩ := List.mem_map.1 hx
    have := h8' p hp
    unfold zau0 at this
    rw [Bool.and_eq_true,zatg] at this
    omega⟩
  rw [o1,obz]
  by_cases h10 : (s.Parties.map ac.Account).Nodup
  rotate_left
  · rw [if_neg (by rw [decide_eq_true_iff]; exact h10),ji fun h => h10 h.accts]
  rw [if_pos (decide_eq_true h10)]
  have em : (ways s.Arcs).map two = s.Arcs.map fun a => (a.From,a.To) := by unfold ways; rw [List.map_map]; rfl
  have o2 : nh (ways s.Arcs) = some (decide ((s.Arcs.map fun a => (a.From,a.To)).Nodup)) := by
    rw [← em]
    exact if_pos ⟨by unfold ways; rw [List.length_map]; omega,fun x hx => by
      obtain ⟨a,ha,rfl⟩ := List.mem_map.1 hx
      have := h9' a ha
      unfold zals at this
      rw [Bool.and_eq_true,Bool.and_eq_true,kp,kp] at this
      rw [Bool.and_eq_true]
      exact ⟨zapz (by show _ ≤ a.From; omega) (by show a.From ≤ _; omega),zapz (by show _ ≤ a.To; omega) (by show a.To ≤ _; omega)⟩⟩
  rw [o2,obz]
  by_cases h11 : (s.Arcs.map fun a => (a.From,a.To)).Nodup
  rotate_left
  · rw [if_neg (by rw [decide_eq_true_iff]; exact h11),ji fun h => h11 h.ways]
  have o3 : ri s.Leaders = some (decide s.Leaders.Nodup) := if_pos ⟨by omega,hw.leads⟩
  rw [if_pos (decide_eq_true h11),o3,obz]
  by_cases h12 : s.Leaders.Nodup
  rotate_left
  · rw [if_neg (by rw [decide_eq_true_iff]; exact h12),ji fun h => h12 h.leads]
  rw [if_pos (decide_eq_true h12),contI _ _ ⟨by omega,by omega⟩ (by omega),obz]
  cases h13 : s.Leaders.any fun x => !inB x 0 ((s.Parties.length : Nat) - 1) with
  | true =>
    rw [ji fun h => by
      rw [List.any_eq_true] at h13
      obtain ⟨x,hx,h13⟩ := h13
      have := h.inl x hx
      rw [Bool.not_eq_true',← Bool.not_eq_true,kp] at h13
      omega]
    rfl
  | false =>
    rw [List.any_eq_false] at h13
    rw [zaor ⟨h1,⟨by omega,by omega⟩,⟨by omega,by omega⟩,⟨by omega,by omega⟩,⟨by omega,fun x hx => by have := h5'.2 x hx; omega⟩,kp.1 h6,kp.1 h7,h8',h9',h10,h11,h12,fun v hv => by
      have := h13 v hv
      rw [Bool.not_eq_true',Bool.not_eq_false,kp] at this
      omega⟩]
    rfl
theorem zax8 {f : Nat → Option (LX Unit Bool)} {N : Nat} {P : Nat → Prop} (he : f N = some (.ex ())) (hs : ∀ k,k < N → P k → f k = f (k + 1)) (hb : ∀ k,k < N → ¬ P k → f k = some (.rt false)) :
    (f 0 = some (.ex ()) ∧ ∀ j,j < N → P j) ∨ (f 0 = some (.rt false) ∧ ∃ j,j < N ∧ ¬ P j) := by
  have go : ∀ n k,n + k = N → (f k = some (.ex ()) ∧ ∀ j,k ≤ j → j < N → P j) ∨ (f k = some (.rt false) ∧ ∃ j,j < N ∧ ¬ P j) := by
    intro n
    induction n with
    | zero =>
      intro k h
      obtain rfl : k = N := by omega
      exact .inl ⟨he,fun j h1 h2 => by omega⟩
    | succ n ih =>
      intro k h
      by_cases p : P k
      · rw [hs k (by omega) p]
        rcases ih (k + 1) (by omega) with ⟨h1,h2⟩ | h1
        · refine .inl ⟨h1,fun j h3 h4 => ?_⟩
          by_cases e : j = k
          · rw [e]; exact p
          · exact h2 j (by omega) h4
        · exact .inr h1
      · exact .inr ⟨hb k (by omega) p,k,by omega,p⟩
  rcases go N 0 rfl with ⟨h1,h2⟩ | h
  · exact .inl ⟨h1,fun j h => h2 j (Nat.zero_le _) h⟩
  · exact .inr h
theorem wq {α : Type} {l : List α} {i : Nat} {x : α} (h : l[i]? = some x) : i < l.length ∧ ixL l (i : Int) = some x := by
  obtain ⟨h1,h2⟩ := List.getElem?_eq_some_iff.1 h
  exact ⟨h1,by rw [sq h1,h2]⟩
theorem zaec {α : Type} {l : List α} {i : Nat} (h : i < l.length) : ∃ x,l[i]? = some x := ⟨_,List.getElem?_eq_getElem h⟩
theorem zaep {α β : Type} {l : List α} {f : α → β} : (∀ (j : Nat) (x : α),l[j]? = some x → ∀ k : Nat,k < j → ∀ y,l[k]? = some y → f y ≠ f x) ↔ (l.map f).Nodup := by
  unfold List.Nodup
  rw [List.pairwise_iff_getElem]
  constructor
  · intro h i j hi hj hij
    rw [List.length_map] at hi hj
    rw [List.getElem_map,List.getElem_map]
    exact h j _ (List.getElem?_eq_getElem hj) i hij _ (List.getElem?_eq_getElem hi)
  · intro h j x hj k hk y hy
    obtain ⟨h1,h2⟩ := List.getElem?_eq_some_iff.1 hj
    obtain ⟨h3,h4⟩ := List.getElem?_eq_some_iff.1 hy
    have := h k j (by rw [List.length_map]; exact h3) (by rw [List.length_map]; exact h1) hk
    rw [List.getElem_map,List.getElem_map,h2,h4] at this
    exact this
end Go.Proofs.Ytdcfoaafkppojaa
