/- Deadlines as the document has them; any swap. -/
import Derived.Test.YtdcfoaafkppojaaPWhen
import Derived.Test.YtdcfoaafkppojaaPSpec4
set_option linter.unusedSimpArgs false
set_option linter.unusedVariables false
namespace Go.Proofs.Ytdcfoaafkppojaa
open Go Go.RowKit Sh Ic
theorem zahp (s : aa) (hl : s.Arcs.length < 1000000000000) (k : Int) : ij s k = some (dl s k) := by
  unfold ij dl
  rw [zaop s hl,obz]
  by_cases h : okS s = true
  · have np := (zz.1 h).np
    have e : (if ((s.Parties.length : Nat) : Int) < (if k < (1 : Int) then (1 : Int) else k) then ((s.Parties.length : Nat) : Int) else (if k < (1 : Int) then (1 : Int) else k)) = xd s.Parties.length k := by
      unfold xd
      split <;> split <;> (try split) <;> (try split) <;> omega
    have c := zavt (n := (s.Parties.length : Int)) (k := k) (by omega)
    rw [if_pos h,e,obz,wA (n := (s.Parties.length : Int) + xd s.Parties.length k) (by omega) (by omega),wA (n := (s.Parties.length : Int) + xd s.Parties.length k - 1) (by omega) (by omega)]
    unfold ofT; rw [if_pos h]; rfl
  · rw [if_neg h,zap1 h]
theorem rLast_f (s : aa) (hl : s.Arcs.length < 1000000000000) : uu s = some (dl s s.Parties.length) := by unfold uu; rw [zahp s hl,obz]
theorem rEnd_f (s : aa) (hl : s.Arcs.length < 1000000000000) : y0 s = some (endT s) := by
  unfold y0 endT
  rw [zaop s hl,obz]
  by_cases h : okS s = true
  · have np := (zz.1 h).np
    rw [if_pos h,wA (n := 2 * (s.Parties.length : Int)) (by omega) (by omega),obz]
    unfold ofT; rw [if_pos h]; rfl
  · rw [if_neg h,zap1 h]
theorem rtab_l (s : aa) (hl : s.Arcs.length < 1000000000000) (ho : okS s = true) (hp : s.Parties.length ≤ 6) (n : Nat) : ∀ (i : Nat) (acc : List Int),n + i = s.Parties.length → acc.length = i → jr s acc ((i + 1 : Nat) : Int) = some (acc ++ tab s n i) := by
  induction n with
  | zero =>
    intro i acc h ha
    rw [sr,dk,if_neg (by omega),obz,LS.go,tab,List.append_nil]
  | succ n ih =>
    intro i acc h ha
    rw [sr,dk,if_pos (by omega),zaop s hl,obz,if_pos ho,zahp s hl,obz,if_pos (by omega),tn (i + 1) (by omega),obz,LS.go]
    show jr s (acc ++ [dl s ((i + 1 : Nat) : Int)]) _ = _
    rw [ih (i + 1) _ (by omega) (by rw [List.length_append]; simp; omega),tab,List.append_assoc]
    rfl
theorem rTable_f (s : aa) (hl : s.Arcs.length < 1000000000000) : ss s = some (tabT s) := by
  unfold ss tabT
  by_cases h : okS s = true
  · have np := (zz.1 h).np
    have e : jr s [] 1 = some ([] ++ tab s s.Parties.length 0) := rtab_l s hl h (by omega) s.Parties.length 0 [] rfl rfl
    rw [if_pos h,e,obz,List.nil_append]
  · rw [if_neg h,sr,dk]
    by_cases c : (1 : Int) ≤ ((s.Parties.length : Nat) : Int)
    · rw [if_pos c,zaop s hl,obz,if_neg h,obz,LS.go,obz]
    · rw [if_neg c,obz,LS.go,obz]
theorem same_f (l : List Int) (hl : l.length < 1000000) : kl l l = some true := by
  unfold kl
  rw [if_pos rfl]
  have e : (du l l 0 = some (.ex ()) ∧ ∀ j,j < l.length → True) ∨ (du l l 0 = some (.rt false) ∧ ∃ j,j < l.length ∧ ¬ True) := by
    refine zax8 (f := fun k => du l l (k : Int)) ?_ ?_ ?_
    · show du l l ((l.length : Nat) : Int) = _
      rw [uf,cj,if_neg (by omega),obz,LS.go]
    · intro k hk _
      show du l l (k : Int) = du l l ((k + 1 : Nat) : Int)
      rw [uf,cj,if_pos (by omega),sq hk,obz,obz,if_pos rfl,obz,LS.go,tn k (by omega)]
    · intro k hk h
      exact absurd trivial h
  rcases e with ⟨e,_⟩ | ⟨_,j,_,h⟩
  · rw [e,obz]
  · exact absurd trivial h
theorem loopE {ρ : Type} {f : Nat → Option ρ} {N : Nat} (he : ∃ r,f N = some r) (hs : ∀ k,k < N → f k = f (k + 1) ∨ ∃ r,f k = some r) : ∃ r,f 0 = some r := by
  have go : ∀ n k,n + k = N → ∃ r,f k = some r := by
    intro n
    induction n with
    | zero =>
      intro k h
      obtain rfl : k = N := by omega
      exact he
    | succ n ih =>
      intro k h
      rcases hs k (by omega) with e | e
      · rw [e]; exact ih (k + 1) (by omega)
      · exact e
  exact go N 0 rfl
theorem few2 (s : aa) (i : Nat) (hi : i < s.Parties.length) (hk : s.Parties[i].Keys.length < 1000000) : ∃ r,d9 s (i : Int) 0 = some r := by
  refine loopE (f := fun k => d9 s (i : Int) (k : Int)) (N := s.Parties[i].Keys.length) ⟨.ex (),?_⟩ fun k hk' => ?_
  · show d9 s (i : Int) ((s.Parties[i].Keys.length : Nat) : Int) = _
    rw [vy,de,sq hi,obz,if_neg (by omega),obz,LS.go]
  · show d9 s (i : Int) (k : Int) = d9 s (i : Int) ((k + 1 : Nat) : Int) ∨ ∃ r,d9 s (i : Int) (k : Int) = some r
    rw [vy,de,sq hi,obz,if_pos (by omega),sq hk',obz]
    by_cases c : (40 : Int) < ((s.Parties[i].Keys[k].size : Nat) : Int)
    · rw [if_pos c,obz,LS.go]; exact .inr ⟨_,rfl⟩
    · rw [if_neg c,obz,LS.go,tn k (by omega)]; exact .inl rfl
theorem few1 (s : aa) (hp : s.Parties.length < 1000000) : ∃ r,eg s 0 = some r := by
  refine loopE (f := fun k => eg s (k : Int)) (N := s.Parties.length) ⟨.ex (),?_⟩ fun k hk => ?_
  · show eg s ((s.Parties.length : Nat) : Int) = _
    rw [vz,df,if_neg (by omega),obz,LS.go]
  · show eg s (k : Int) = eg s ((k + 1 : Nat) : Int) ∨ ∃ r,eg s (k : Int) = some r
    rw [vz,df,if_pos (by omega),sq hk,obz]
    by_cases c : (6 : Int) < ((s.Parties[k].Keys.length : Nat) : Int)
    · rw [if_pos c,obz,LS.go]; exact .inr ⟨_,rfl⟩
    rw [if_neg c]
    by_cases c2 : (40 : Int) < ((s.Parties[k].Account.size : Nat) : Int)
    · rw [if_pos c2,obz,LS.go]; exact .inr ⟨_,rfl⟩
    rw [if_neg c2]
    obtain ⟨r,hr⟩ := few2 s k hk (by omega)
    rw [hr,obz]
    cases r with
    | ex u =>
      left
      show (some (LS.nx (IntKind.i64.wrap ((k : Int) + 1))) : LSX) >>= _ = _
      rw [obz,LS.go,tn k (by omega)]
    | rt b =>
      right
      refine ⟨.rt b,?_⟩
      show (some (LS.dn (LX.rt b)) : LSX) >>= _ = _
      rw [obz,LS.go]
theorem few3 (s : aa) (hp : s.Arcs.length < 1000000) : ∃ r,cv s 0 = some r := by
  refine loopE (f := fun k => cv s (k : Int)) (N := s.Arcs.length) ⟨.ex (),?_⟩ fun k hk => ?_
  · show cv s ((s.Arcs.length : Nat) : Int) = _
    rw [vx,dd,if_neg (by omega),obz,LS.go]
  · show cv s (k : Int) = cv s ((k + 1 : Nat) : Int) ∨ ∃ r,cv s (k : Int) = some r
    rw [vx,dd,if_pos (by omega),sq hk,obz]
    by_cases c : (40 : Int) < ((s.Arcs[k].Asset.size : Nat) : Int)
    · rw [if_pos c,obz,LS.go]; exact .inr ⟨_,rfl⟩
    · rw [if_neg c,obz,LS.go,tn k (by omega)]; exact .inl rfl
theorem few4 (s : aa) (hp : s.Locks.length < 1000000) : ∃ r,cq s 0 = some r := by
  refine loopE (f := fun k => cq s (k : Int)) (N := s.Locks.length) ⟨.ex (),?_⟩ fun k hk => ?_
  · show cq s ((s.Locks.length : Nat) : Int) = _
    rw [vv,dc,if_neg (by omega),obz,LS.go]
  · show cq s (k : Int) = cq s ((k + 1 : Nat) : Int) ∨ ∃ r,cq s (k : Int) = some r
    rw [vv,dc,if_pos (by omega),sq hk,obz]
    by_cases c : (40 : Int) < ((s.Locks[k].size : Nat) : Int)
    · rw [if_pos c,obz,LS.go]; exact .inr ⟨_,rfl⟩
    · rw [if_neg c,obz,LS.go,tn k (by omega)]; exact .inl rfl
theorem few_f (s : aa) : kf s = some false ∨ (kf s = some true ∧ s.Arcs.length ≤ 20 ∧ s.Parties.length ≤ 10) := by
  unfold kf
  by_cases c1 : (10 : Int) < ((s.Parties.length : Nat) : Int)
  · exact .inl (if_pos c1)
  rw [if_neg c1]
  by_cases c2 : (20 : Int) < ((s.Arcs.length : Nat) : Int)
  · exact .inl (if_pos c2)
  rw [if_neg c2]
  by_cases c3 : (6 : Int) < ((s.Leaders.length : Nat) : Int)
  · exact .inl (if_pos c3)
  rw [if_neg c3]
  by_cases c4 : (6 : Int) < ((s.Locks.length : Nat) : Int)
  · exact .inl (if_pos c4)
  rw [if_neg c4]
  by_cases c5 : (40 : Int) < ((s.ID.size : Nat) : Int)
  · exact .inl (if_pos c5)
  rw [if_neg c5]
  have hb : ∀ b : Bool,some b = some false ∨ (some b = some true ∧ s.Arcs.length ≤ 20 ∧ s.Parties.length ≤ 10) := fun b => by
    cases b
    · exact .inl rfl
    · exact .inr ⟨rfl,by omega,by omega⟩
  obtain ⟨r1,e1⟩ := few1 s (by omega)
  rw [e1,obz]
  cases r1 with
  | rt b => exact hb b
  | ex u =>
    obtain ⟨r3,e3⟩ := few3 s (by omega)
    show (cv s 0 >>= _) = _ ∨ (cv s 0 >>= _) = _ ∧ _
    rw [e3,obz]
    cases r3 with
    | rt b => exact hb b
    | ex u =>
      obtain ⟨r4,e4⟩ := few4 s (by omega)
      show (cq s 0 >>= _) = _ ∨ (cq s 0 >>= _) = _ ∧ _
      rw [e4,obz]
      cases r4 with
      | rt b => exact hb b
      | ex u => exact hb true
theorem all6_f (s : aa) (hw : Wf s) (k : Int) : ry s k = some true := by
  unfold ry
  rcases few_f s with e | ⟨e,ha,hp⟩
  · rw [e,obz,if_neg (by decide),za7h,obz]
  · have hl : s.Arcs.length < 1000000000000 := by omega
    rw [e,obz,if_pos rfl,zaew s hw,obz,zahp s hl,obz,if_pos rfl,Last_f s hw,obz,rLast_f s hl,obz,if_pos rfl,End_f s hw,obz,rEnd_f s hl,obz,if_pos rfl,Table_f s hw,obz,rTable_f s hl,obz,same_f _ (by have := tabT_len s; omega),obz,if_pos rfl,za7h,obz]
end Go.Proofs.Ytdcfoaafkppojaa
