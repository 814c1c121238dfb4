import Derived.Test.YtdcfoaafkppojaaM25
set_option linter.unusedSimpArgs false
set_option linter.unusedVariables false
set_option linter.unusedSectionVars false
namespace Go.Proofs.Ytdcfoaafkppojaa
open Go Go.RowKit Sh Ic
def zbd7 (s : ByteArray) : Bool := decide (1 ≤ s.size) && decide (s.size ≤ 16)
def inB (n lo hi : Int) : Bool := decide (lo ≤ n) && decide (n ≤ hi)
theorem uc {n lo hi : Int} : inB n lo hi = true ↔ lo ≤ n ∧ n ≤ hi := by unfold inB; rw [Bool.and_eq_true,decide_eq_true_iff,decide_eq_true_iff]
theorem zb80 {s : ByteArray} : zbd7 s = true ↔ 1 ≤ s.size ∧ s.size ≤ 16 := by unfold zbd7; rw [Bool.and_eq_true,decide_eq_true_iff,decide_eq_true_iff]
theorem zbh5 (s : ByteArray) : pv s = some (zbd7 s) := by
 unfold pv zbd7
 by_cases h : 1 ≤ s.size
 · rw [if_pos (by omega),decide_eq_true h,Bool.true_and]
   congr 1
   exact decide_eq_decide.2 ⟨fun _ => by omega,fun _ => by omega⟩
 · rw [if_neg (by omega),decide_eq_false h,Bool.false_and]
theorem zbli (n lo hi : Int) : ky n lo hi = some (inB n lo hi) := by
 unfold ky inB
 by_cases h : lo ≤ n
 · rw [if_pos h,decide_eq_true h,Bool.true_and]
 · rw [if_neg h,decide_eq_false h,Bool.false_and]
theorem zb0a {α : Type} (l : List α) (p : α → Bool) (i : Nat) (h : i < l.length) : (l.drop i).any p = (p l[i] || (l.drop (i + 1)).any p) := by
 rw [List.drop_eq_getElem_cons h,List.any_cons]
theorem zcwj (l : List ByteArray) (c : Int) (hl : l.length < 1000000) (n : Nat) : ∀ i : Nat,n + i = l.length → ∃ r,bm l c (l.length : Nat) (i : Int) = some r ∧
 ((∃ v,r = .rt v ∧ 0 ≤ v ∧ ((l.drop i).any fun x => decide (¬ ((x.size : Nat) : Int) = c)) = true) ∨ (r = .ex () ∧ ((l.drop i).any fun x => decide (¬ ((x.size : Nat) : Int) = c)) = false)) := by
 induction n with
 | zero =>
  intro i h
  refine ⟨.ex (),?_,.inr ⟨rfl,?_⟩⟩
  · rw [jo,au,if_neg (by omega),obz,LS.go]
  · rw [List.drop_of_length_le (by omega)]; rfl
 | succ n ih =>
  intro i h
  have hi : i < l.length := by omega
  rw [jo,au,if_pos (by omega),ot hi,obz,se,obz,zb0a _ _ _ hi]
  by_cases p : decide (¬ ((l[i].size : Nat) : Int) = c) = true
  · rw [if_pos p,obz,LS.go]
    exact ⟨_,rfl,.inl ⟨_,rfl,by omega,by rw [p]; rfl⟩⟩
  · have p' := Bool.eq_false_iff.2 p
    rw [if_neg p,obz,LS.go,zi i (by omega),p',Bool.false_or]
    exact ih (i + 1) (by omega)
theorem zb4o (l : List ByteArray) (c : Int) (hl : l.length < 1000000) : bn l c = some (l.any fun x => decide (¬ ((x.size : Nat) : Int) = c)) := by
 obtain ⟨r,h,q⟩ := zcwj l c hl l.length 0 rfl
 rw [List.drop_zero] at q
 have h : bm l c (l.length : Nat) 0 = some r := h
 unfold bn de
 rw [h,obz]
 rcases q with ⟨v,rfl,h0,q⟩ | ⟨rfl,q⟩
 · show some (decide (0 ≤ v)) = _
   rw [q,decide_eq_true h0]
 · show some (decide ((0 : Int) ≤ -1)) = _
   rw [q]; rfl
def zbqy (l : List ByteArray) (n sz : Int) : Bool := decide ((l.length : Int) = n) && !l.any fun x => decide (¬ ((x.size : Nat) : Int) = sz)
theorem zbfn (l : List ByteArray) (n sz : Int) (hn : n < 1000000) : pu l n sz = some (zbqy l n sz) := by
 unfold pu zbqy
 by_cases h : (l.length : Int) = n
 · rw [if_pos h,zb4o l sz (by omega),obz,decide_eq_true h,Bool.true_and]
 · rw [if_neg h,decide_eq_false h,Bool.false_and]
theorem zb05 {l : List ByteArray} {n sz : Int} : zbqy l n sz = true ↔ (l.length : Int) = n ∧ ∀ x ∈ l,(x.size : Int) = sz := by
 unfold zbqy
 rw [Bool.and_eq_true,decide_eq_true_iff,Bool.not_eq_true',List.any_eq_false]
 refine and_congr_right fun _ => ⟨fun h x hx => ?_,fun h x hx => ?_⟩
 · have := h x hx
   simpa using this
 · simpa using h x hx
def zbds (n : Int) (a : aa) : Bool := inB a.From 0 (n - 1) && (inB a.To 0 (n - 1) && (decide (a.From ≠ a.To) && (inB a.Ledger 0 3 && (zbd7 a.Asset && inB a.Amount 1 1125899906842624))))
theorem zb4v (a : aa) (n : Int) (hn : 0 ≤ n ∧ n < 1000000) : zn a n = some (zbds n a) := by
 unfold zn zbds
 have w : IntKind.i64.wrap (n - 1) = n - 1 := wA (by omega) (by omega)
 rw [w,zbli,obz]
 cases inB a.From 0 (n - 1) with
 | false => rfl
 | true =>
  rw [if_pos rfl,zbli,obz]
  cases inB a.To 0 (n - 1) with
  | false => rfl
  | true =>
   rw [if_pos rfl]
   by_cases e : a.From = a.To
   · rw [if_pos e,decide_eq_false (fun h => h e)]; rfl
   · rw [if_neg e,decide_eq_true e,zbli,obz]
     cases inB a.Ledger 0 3 with
     | false => rfl
     | true =>
      rw [if_pos rfl,zbh5,obz]
      cases zbd7 a.Asset with
      | false => rfl
      | true => rw [if_pos rfl,zbli,obz]; rfl
def zbri (nl : Int) (p : af) : Bool := zbd7 p.Account && zbqy p.Keys nl 16
theorem zcj3 {α : Type} (l : List α) (p : α → Bool) (i : Nat) (h : i < l.length) : (l.drop i).all p = (p l[i] && (l.drop (i + 1)).all p) := by
 rw [List.drop_eq_getElem_cons h,List.all_cons]
theorem zcwp (s : ac) (np nl : Int) (hnl : nl < 1000000) (hp : s.Parties.length < 1000000) (n : Nat) : ∀ i : Nat,n + i = s.Parties.length →
 lc s np nl s.Parties (s.Parties.length : Nat) ((s.Parties.take i).map af.Account) (i : Int) = some (if (s.Parties.drop i).all (zbri nl) = true then .ex (s.Parties.map af.Account) else .rt false) := by
 induction n with
 | zero =>
  intro i h
  rw [zci8,d5,if_neg (by omega),obz,LS.go,List.drop_of_length_le (by omega),List.take_of_length_le (by omega)]; rfl
 | succ n ih =>
  intro i h
  have hi : i < s.Parties.length := by omega
  rw [zci8,d5,if_pos (by omega),ot hi,obz,zbh5,obz,zcj3 _ _ _ hi]
  unfold zbri
  cases zbd7 s.Parties[i].Account with
  | false => rfl
  | true =>
   rw [if_pos rfl,zbfn _ _ _ hnl,obz]
   cases zbqy s.Parties[i].Keys nl 16 with
   | false => rfl
   | true =>
    have e : (s.Parties.take i).map af.Account ++ [s.Parties[i].Account] = (s.Parties.take (i + 1)).map af.Account := by
     rw [List.take_succ_eq_append_getElem hi,List.map_append]; rfl
    rw [if_pos rfl,if_pos (by rw [List.length_map,List.length_take]; omega),obz,LS.go,zi i (by omega)]
    show lc s np nl s.Parties _ ((s.Parties.take i).map af.Account ++ [s.Parties[i].Account]) _ = _
    rw [e,ih (i + 1) (by omega)]
    rfl
def ways (l : List aa) : List dk := l.map fun a => ⟨a.From,a.To⟩
theorem zcwo (s : ac) (np : Int) (acc : List ByteArray) (hnp : 0 ≤ np ∧ np < 1000000) (hp : s.Arcs.length < 1000000) (n : Nat) : ∀ i : Nat,n + i = s.Arcs.length →
 jg s np acc s.Arcs (s.Arcs.length : Nat) (ways (s.Arcs.take i)) (i : Int) = some (if (s.Arcs.drop i).all (zbds np) = true then .ex (ways s.Arcs) else .rt false) := by
 induction n with
 | zero =>
  intro i h
  rw [zci9,d4,if_neg (by omega),obz,LS.go,List.drop_of_length_le (by omega),List.take_of_length_le (by omega)]; rfl
 | succ n ih =>
  intro i h
  have hi : i < s.Arcs.length := by omega
  rw [zci9,d4,if_pos (by omega),ot hi,obz,zb4v _ _ hnp,obz,zcj3 _ _ _ hi]
  show (if zbds np s.Arcs[i] = true then _ else _ : Option _) >>= _ = _
  cases zbds np s.Arcs[i] with
  | false => rfl
  | true =>
   have e : ways (s.Arcs.take i) ++ [(⟨s.Arcs[i].From,s.Arcs[i].To⟩ : dk)] = ways (s.Arcs.take (i + 1)) := by
    unfold ways; rw [List.take_succ_eq_append_getElem hi,List.map_append]; rfl
   rw [if_pos rfl,if_pos (by unfold ways; rw [List.length_map,List.length_take]; omega),obz,LS.go,zi i (by omega)]
   show jg s np acc s.Arcs _ (ways (s.Arcs.take i) ++ [(⟨s.Arcs[i].From,s.Arcs[i].To⟩ : dk)]) _ = _
   rw [e,ih (i + 1) (by omega)]
   rfl
open Go Go.RowKit Sh Ic
theorem zcwl (l : List Int) (c : Int) (hc : 0 ≤ c ∧ c < 1000000) (hl : l.length < 1000000) (n : Nat) : ∀ i : Nat,n + i = l.length → ∃ r,cy l c (l.length : Nat) (i : Int) = some r ∧
 ((∃ v,r = .rt v ∧ 0 ≤ v ∧ ((l.drop i).any fun x => !inB x 0 (c - 1)) = true) ∨ (r = .ex () ∧ ((l.drop i).any fun x => !inB x 0 (c - 1)) = false)) := by
 have w : IntKind.i64.wrap (c - 1) = c - 1 := wA (by omega) (by omega)
 induction n with
 | zero =>
  intro i h
  refine ⟨.ex (),?_,.inr ⟨rfl,?_⟩⟩
  · rw [mw,az,if_neg (by omega),obz,LS.go]
  · rw [List.drop_of_length_le (by omega)]; rfl
 | succ n ih =>
  intro i h
  have hi : i < l.length := by omega
  rw [mw,az,if_pos (by omega),ot hi,obz,sg,w,zbli,obz,obz,zb0a _ _ _ hi]
  by_cases p : (!inB l[i] 0 (c - 1)) = true
  · rw [if_pos p,obz,LS.go]
    exact ⟨_,rfl,.inl ⟨_,rfl,by omega,by rw [p]; rfl⟩⟩
  · have p' := Bool.eq_false_iff.2 p
    rw [if_neg p,obz,LS.go,zi i (by omega),p',Bool.false_or]
    exact ih (i + 1) (by omega)
theorem zb4p (l : List Int) (c : Int) (hc : 0 ≤ c ∧ c < 1000000) (hl : l.length < 1000000) : cz l c = some (l.any fun x => !inB x 0 (c - 1)) := by
 obtain ⟨r,h,q⟩ := zcwl l c hc hl l.length 0 rfl
 rw [List.drop_zero] at q
 have h : cy l c (l.length : Nat) 0 = some r := h
 unfold cz ff
 rw [h,obz]
 rcases q with ⟨v,rfl,h0,q⟩ | ⟨rfl,q⟩
 · show some (decide (0 ≤ v)) = _
   rw [q,decide_eq_true h0]
 · show some (decide ((0 : Int) ≤ -1)) = _
   rw [q]; rfl
structure Ok (s : ac) : Prop where
 id : zbd7 s.ID = true
 np : 2 ≤ s.Parties.length ∧ s.Parties.length ≤ 6
 nl : 1 ≤ s.Leaders.length ∧ s.Leaders.length ≤ 3
 na : 1 ≤ s.Arcs.length ∧ s.Arcs.length ≤ 12
 locks : s.Locks.length = s.Leaders.length ∧ ∀ x ∈ s.Locks,x.size = 32
 start : 0 ≤ s.Start ∧ s.Start ≤ 1099511627776
 delta : 1 ≤ s.Delta ∧ s.Delta ≤ 1048576
 parties : ∀ p ∈ s.Parties,zbri (s.Leaders.length : Nat) p = true
 arcs : ∀ a ∈ s.Arcs,zbds (s.Parties.length : Nat) a = true
 accts : (s.Parties.map af.Account).Nodup
 ways : (s.Arcs.map fun a => (a.From,a.To)).Nodup
 leads : s.Leaders.Nodup
 inl : ∀ v ∈ s.Leaders,0 ≤ v ∧ v < s.Parties.length
structure Wf (s : ac) : Prop where
 leads : ∀ v ∈ s.Leaders,za7f v = true
 start : za7f s.Start = true
 delta : za7f s.Delta = true
theorem zbuo {n : Int} (h1 : -9223372036854775808 ≤ n) (h2 : n ≤ 9223372036854775807) : za7f n = true := by
 unfold za7f; rw [decide_eq_true h1,decide_eq_true h2]; rfl
open Classical in
noncomputable def okS (s : ac) : Bool := decide (Ok s)
open Classical in
theorem zb0j {s : ac} (h : Ok s) : okS s = true := by unfold okS; exact decide_eq_true h
open Classical in
theorem m6 {s : ac} (h : ¬ Ok s) : okS s = false := by unfold okS; exact decide_eq_false h
open Classical in
theorem zbnj {s : ac} : okS s = true ↔ Ok s := by unfold okS; exact decide_eq_true_iff
theorem zbuj (s : ac) (hw : Wf s) : ke s = some (okS s) := by
 unfold ke
 rw [zbh5,obz]
 by_cases h1 : zbd7 s.ID = true
 rotate_left
 · rw [if_neg h1,m6 fun h => h1 h.id]
 rw [if_pos h1,zbli,obz]
 by_cases h2 : inB (s.Parties.length : Nat) 2 6 = true
 rotate_left
 · rw [if_neg h2,m6 fun h => h2 (uc.2 ⟨by have := h.np; omega,by have := h.np; omega⟩)]
 have h2' := uc.1 h2
 rw [if_pos h2,zbli,obz]
 by_cases h3 : inB (s.Leaders.length : Nat) 1 3 = true
 rotate_left
 · rw [if_neg h3,m6 fun h => h3 (uc.2 ⟨by have := h.nl; omega,by have := h.nl; omega⟩)]
 have h3' := uc.1 h3
 rw [if_pos h3,zbli,obz]
 by_cases h4 : inB (s.Arcs.length : Nat) 1 12 = true
 rotate_left
 · rw [if_neg h4,m6 fun h => h4 (uc.2 ⟨by have := h.na; omega,by have := h.na; omega⟩)]
 have h4' := uc.1 h4
 rw [if_pos h4,zbfn _ _ _ (by omega),obz]
 by_cases h5 : zbqy s.Locks (s.Leaders.length : Nat) 32 = true
 rotate_left
 · rw [if_neg h5,m6 fun h => h5 (zb05.2 ⟨by have := h.locks.1; omega,fun x hx => by have := h.locks.2 x hx; omega⟩)]
 have h5' := zb05.1 h5
 rw [if_pos h5,zbli,obz]
 by_cases h6 : inB s.Start 0 1099511627776 = true
 rotate_left
 · rw [if_neg h6,m6 fun h => h6 (uc.2 h.start)]
 rw [if_pos h6,zbli,obz]
 by_cases h7 : inB s.Delta 1 1048576 = true
 rotate_left
 · rw [if_neg h7,m6 fun h => h7 (uc.2 h.delta)]
 have e1 := zcwp s (s.Parties.length : Nat) (s.Leaders.length : Nat) (by omega) (by omega) s.Parties.length 0 rfl
 have e1 : lc s (s.Parties.length : Nat) (s.Leaders.length : Nat) s.Parties (s.Parties.length : Nat) [] 0 = _ := e1
 rw [if_pos h7,e1,obz,List.drop_zero]
 by_cases h8 : s.Parties.all (zbri (s.Leaders.length : Nat)) = true
 rotate_left
 · rw [if_neg h8,m6 fun h => h8 (List.all_eq_true.2 h.parties)]
 rw [if_pos h8]
 have h8' := List.all_eq_true.1 h8
 have e2 := zcwo s (s.Parties.length : Nat) (s.Parties.map af.Account) (by omega) (by omega) s.Arcs.length 0 rfl
 have e2 : jg s (s.Parties.length : Nat) (s.Parties.map af.Account) s.Arcs (s.Arcs.length : Nat) [] 0 = _ := e2
 show jg s (s.Parties.length : Nat) (s.Parties.map af.Account) s.Arcs (s.Arcs.length : Nat) [] 0 >>= _ = _
 rw [e2,obz,List.drop_zero]
 by_cases h9 : s.Arcs.all (zbds (s.Parties.length : Nat)) = true
 rotate_left
 · rw [if_neg h9,m6 fun h => h9 (List.all_eq_true.2 h.arcs)]
 rw [if_pos h9]
 have h9' := List.all_eq_true.1 h9
 show ma (s.Parties.map af.Account) >>= _ = _
 have o1 : ma (s.Parties.map af.Account) = some (decide (s.Parties.map af.Account).Nodup) := if_pos ⟨by rw [List.length_map]; omega,fun x hx => by
  obtain ⟨p,hp,rfl⟩ := List.mem_map.1 hx
  have := h8' p hp
  unfold zbri at this
  rw [Bool.and_eq_true,zb80] at this
  omega⟩
 rw [o1,obz]
 by_cases h10 : (s.Parties.map af.Account).Nodup
 rotate_left
 · rw [if_neg (by rw [decide_eq_true_iff]; exact h10),m6 fun h => h10 h.accts]
 rw [if_pos (decide_eq_true h10)]
 have em : (ways s.Arcs).map two = s.Arcs.map fun a => (a.From,a.To) := by unfold ways; rw [List.map_map]; rfl
 have o2 : qr (ways s.Arcs) = some (decide ((s.Arcs.map fun a => (a.From,a.To)).Nodup)) := by
  rw [← em]
  exact if_pos ⟨by unfold ways; rw [List.length_map]; omega,fun x hx => by
   obtain ⟨a,ha,rfl⟩ := List.mem_map.1 hx
   have := h9' a ha
   unfold zbds at this
   rw [Bool.and_eq_true,Bool.and_eq_true,uc,uc] at this
   rw [Bool.and_eq_true]
   exact ⟨zbuo (by show _ ≤ a.From; omega) (by show a.From ≤ _; omega),zbuo (by show _ ≤ a.To; omega) (by show a.To ≤ _; omega)⟩⟩
 rw [o2,obz]
 by_cases h11 : (s.Arcs.map fun a => (a.From,a.To)).Nodup
 rotate_left
 · rw [if_neg (by rw [decide_eq_true_iff]; exact h11),m6 fun h => h11 h.ways]
 have o3 : vk s.Leaders = some (decide s.Leaders.Nodup) := if_pos ⟨by omega,hw.leads⟩
 rw [if_pos (decide_eq_true h11),o3,obz]
 by_cases h12 : s.Leaders.Nodup
 rotate_left
 · rw [if_neg (by rw [decide_eq_true_iff]; exact h12),m6 fun h => h12 h.leads]
 rw [if_pos (decide_eq_true h12),zb4p _ _ ⟨by omega,by omega⟩ (by omega),obz]
 cases h13 : s.Leaders.any fun x => !inB x 0 ((s.Parties.length : Nat) - 1) with
 | true =>
  rw [m6 fun h => by
   rw [List.any_eq_true] at h13
   obtain ⟨x,hx,h13⟩ := h13
   have := h.inl x hx
   rw [Bool.not_eq_true',← Bool.not_eq_true,uc] at h13
   omega]
  rfl
 | false =>
  rw [List.any_eq_false] at h13
  rw [zb0j ⟨h1,⟨by omega,by omega⟩,⟨by omega,by omega⟩,⟨by omega,by omega⟩,⟨by omega,fun x hx => by have := h5'.2 x hx; omega⟩,uc.1 h6,uc.1 h7,h8',h9',h10,h11,h12,fun v hv => by
   have := h13 v hv
   rw [Bool.not_eq_true',Bool.not_eq_false,uc] at this
   omega⟩]
  rfl
theorem zbws {f : Nat → Option (LX Unit Bool)} {N : Nat} {P : Nat → Prop} (he : f N = some (.ex ())) (hs : ∀ k,k < N → P k → f k = f (k + 1)) (hb : ∀ k,k < N → ¬ P k → f k = some (.rt false)) :
 (f 0 = some (.ex ()) ∧ ∀ j,j < N → P j) ∨ (f 0 = some (.rt false) ∧ ∃ j,j < N ∧ ¬ P j) := by
 have go : ∀ n k,n + k = N → (f k = some (.ex ()) ∧ ∀ j,k ≤ j → j < N → P j) ∨ (f k = some (.rt false) ∧ ∃ j,j < N ∧ ¬ P j) := by
  intro n
  induction n with
  | zero =>
   intro k h
   obtain rfl : k = N := by omega
   exact .inl ⟨he,fun j h1 h2 => by omega⟩
  | succ n ih =>
   intro k h
   by_cases p : P k
   · rw [hs k (by omega) p]
     rcases ih (k + 1) (by omega) with ⟨h1,h2⟩ | h1
     · refine .inl ⟨h1,fun j h3 h4 => ?_⟩
       by_cases e : j = k
       · rw [e]; exact p
       · exact h2 j (by omega) h4
     · exact .inr h1
   · exact .inr ⟨hb k (by omega) p,k,by omega,p⟩
 rcases go N 0 rfl with ⟨h1,h2⟩ | h
 · exact .inl ⟨h1,fun j h => h2 j (Nat.zero_le _) h⟩
 · exact .inr h
open Go Go.RowKit Sh Ic
inductive Rch (E : Int → Int → Prop) : Int → Int → Prop
 | one {x y : Int} : E x y → Rch E x y
 | snoc {x y z : Int} : Rch E x y → E y z → Rch E x z
theorem Rch.trans {E : Int → Int → Prop} {x y z : Int} (h : Rch E x y) (k : Rch E y z) : Rch E x z := by
 induction k with
 | one e => exact .snoc h e
 | snoc _ e ih => exact .snoc ih e
theorem Rch.mono {E F : Int → Int → Prop} (hf : ∀ x y,E x y → F x y) {x y : Int} (h : Rch E x y) : Rch F x y := by
 induction h with
 | one e => exact .one (hf _ _ e)
 | snoc _ e ih => exact .snoc ih (hf _ _ e)
theorem Rch.cons {E : Int → Int → Prop} {x y z : Int} (e : E x y) (h : Rch E y z) : Rch E x z := Rch.trans (.one e) h
theorem Rch.rev {E F : Int → Int → Prop} (hf : ∀ x y,E x y → F y x) {x y : Int} (h : Rch E x y) : Rch F y x := by
 induction h with
 | one e => exact .one (hf _ _ e)
 | snoc _ e ih => exact Rch.cons (hf _ _ e) ih
abbrev Sn (l6 : List Bool) (y : Int) : Prop := ixL l6 y = some true
theorem zbq3 {α : Type} {l : List α} {i : Int} {x : α} : ixL l i = some x ↔ 0 ≤ i ∧ l[i.toNat]? = some x := by
 unfold ixL
 by_cases h : 0 ≤ i
 · rw [if_pos h]; exact ⟨fun e => ⟨h,e⟩,fun e => e.2⟩
 · rw [if_neg h]; exact ⟨fun e => (by cases e),fun e => absurd e.1 h⟩
theorem zbsk {α : Type} {l : List α} {i : Int} (h0 : 0 ≤ i) (h1 : i < (l.length : Int)) : ∃ x,ixL l i = some x := by
 obtain ⟨x,hx⟩ : ∃ x,l[i.toNat]? = some x := ⟨_,List.getElem?_eq_getElem (by omega)⟩
 exact ⟨x,zbq3.2 ⟨h0,hx⟩⟩
theorem zbwz {l : List Bool} {i z : Int} (h0 : 0 ≤ i) (h1 : i < (l.length : Int)) : Sn (l.set i.toNat true) z ↔ z = i ∨ Sn l z := by
 unfold Sn
 rw [zbq3,zbq3]
 by_cases e : z = i
 · subst e
   rw [List.getElem?_set_self (by omega)]
   exact ⟨fun _ => .inl rfl,fun _ => ⟨h0,rfl⟩⟩
 · constructor
   · rintro ⟨a,b⟩
     rw [List.getElem?_set_ne (by omega)] at b
     exact .inr ⟨a,b⟩
   · rintro (rfl | ⟨a,b⟩)
     · exact absurd rfl e
     · exact ⟨a,by rw [List.getElem?_set_ne (by omega)]; exact b⟩
def un : List Bool → Nat
 | [] => 0
 | true :: r => un r
 | false :: r => un r + 1
theorem zbnq : ∀ (l : List Bool) (i : Nat),l[i]? = some false → un (l.set i true) + 1 = un l
 | [],_,h => by cases h
 | b :: r,0,h => by
  have : b = false := by simpa using h
  subst this; rfl
 | b :: r,i + 1,h => by
  have := zbnq r i (by simpa using h)
  cases b
  · show un (r.set i true) + 1 + 1 = un r + 1
    omega
  · exact this
def j6 (back : Bool) (A : List aa) (P : Int → Bool) (x y : Int) : Prop := ∃ a ∈ A,reX back a = x ∧ reY back a = y ∧ P y = true
structure InR (np : Nat) (back : Bool) (A : List aa) : Prop where
 y : ∀ a ∈ A,0 ≤ reY back a ∧ reY back a < (np : Int)
section
variable (np : Nat) (back : Bool) (v : Int) (p : Int → Option Bool) (P : Int → Bool) (hp : ∀ y,0 ≤ y → y < (np : Int) → p y = some (P y))
include hp
theorem zb0l : ∀ (A : List aa) (l6 : List Bool) (todo : List Int),InR np back A → l6.length = np → todo.length + A.length < 1000000 →
 ∃ seen' todo',reA back v p A l6 todo = some (seen',todo') ∧ seen'.length = np ∧ todo'.length + un seen' = todo.length + un l6 ∧ todo'.length ≤ todo.length + A.length ∧ (∀ y,Sn l6 y → Sn seen' y) ∧ (∀ t ∈ todo,t ∈ todo') ∧
  (∀ y,Sn seen' y → Sn l6 y ∨ (y ∈ todo' ∧ j6 back A P v y)) ∧ (∀ t ∈ todo',t ∈ todo ∨ (Sn seen' t ∧ j6 back A P v t)) ∧ (∀ y,j6 back A P v y → Sn seen' y)
 | [],l6,todo,_,hl,_ => ⟨l6,todo,rfl,hl,rfl,Nat.le_refl _,fun _ h => h,fun _ h => h,fun _ h => .inl h,fun _ h => .inl h,fun y ⟨a,ha,_⟩ => by cases ha⟩
 | a :: A,l6,todo,hI,hl,hb => by
  have hy := hI.y a (.head _)
  have hI' : InR np back A := ⟨fun b hb => hI.y b (.tail _ hb)⟩
  have lift : ∀ {y},j6 back A P v y → j6 back (a :: A) P v y := fun ⟨b,hb,h⟩ => ⟨b,.tail _ hb,h⟩
  rw [List.length_cons] at hb
  -- what the rest does,when nothing comes of this arc
  have skip : (¬ (reX back a = v ∧ P (reY back a) = true) ∨ Sn l6 (reY back a)) → ∃ seen' todo',reA back v p A l6 todo = some (seen',todo') ∧ seen'.length = np ∧ todo'.length + un seen' = todo.length + un l6 ∧ todo'.length ≤ todo.length + (A.length + 1) ∧ (∀ y,Sn l6 y → Sn seen' y) ∧ (∀ t ∈ todo,t ∈ todo') ∧
   (∀ y,Sn seen' y → Sn l6 y ∨ (y ∈ todo' ∧ j6 back (a :: A) P v y)) ∧ (∀ t ∈ todo',t ∈ todo ∨ (Sn seen' t ∧ j6 back (a :: A) P v t)) ∧ (∀ y,j6 back (a :: A) P v y → Sn seen' y) := by
   intro hno
   obtain ⟨s',t',h1,h2,h3,h3b,h4,h5,h6,h7,h8⟩ := zb0l A l6 todo hI' hl (by omega)
   refine ⟨s',t',h1,h2,h3,by omega,h4,h5,fun y h => (h6 y h).imp id fun q => ⟨q.1,lift q.2⟩,fun t h => (h7 t h).imp id fun q => ⟨q.1,lift q.2⟩,?_⟩
   rintro y ⟨b,hb,e1,e2,e3⟩
   rcases List.mem_cons.1 hb with rfl | hb
   · subst e2
     rcases hno with hno | hno
     · exact absurd ⟨e1,e3⟩ hno
     · exact h4 _ hno
   · exact h8 y ⟨b,hb,e1,e2,e3⟩
  rw [reA,List.length_cons]
  by_cases c : reX back a = v
  · rw [if_pos c]
    obtain ⟨q,hq⟩ := zbsk (l := l6) hy.1 (by rw [hl]; exact hy.2)
    rw [hq,obz]
    cases q with
    | true => rw [if_pos rfl]; exact skip (.inr hq)
    | false =>
     rw [if_neg (by decide),hp _ hy.1 hy.2,obz]
     cases hP : P (reY back a) with
     | false => rw [if_neg (by decide)]; exact skip (.inl fun h => by rw [hP] at h; cases h.2)
     | true =>
      rw [if_pos rfl,if_pos (by omega)]
      have hu := zbnq l6 (reY back a).toNat (zbq3.1 hq).2
      have hset : ∀ z,Sn (l6.set (reY back a).toNat true) z ↔ z = reY back a ∨ Sn l6 z := fun z => zbwz hy.1 (by rw [hl]; exact hy.2)
      obtain ⟨s',t',h1,h2,h3,h3b,h4,h5,h6,h7,h8⟩ := zb0l A (l6.set (reY back a).toNat true) (todo ++ [reY back a]) hI' (by rw [List.length_set]; exact hl) (by rw [List.length_append,List.length_singleton]; omega)
      rw [List.length_append,List.length_singleton] at h3 h3b
      have ed : j6 back (a :: A) P v (reY back a) := ⟨a,.head _,c,rfl,hP⟩
      have iny : reY back a ∈ t' := h5 _ (by simp)
      have sny : Sn s' (reY back a) := h4 _ ((hset _).2 (.inl rfl))
      refine ⟨s',t',h1,h2,by omega,by omega,fun y h => h4 _ ((hset y).2 (.inr h)),fun t h => h5 _ (List.mem_append_left _ h),fun y h => ?_,fun t h => ?_,?_⟩
      · rcases h6 y h with h | ⟨h,e⟩
        · rcases (hset y).1 h with rfl | h
          · exact .inr ⟨iny,ed⟩
          · exact .inl h
        · exact .inr ⟨h,lift e⟩
      · rcases h7 t h with h | ⟨h,e⟩
        · rcases List.mem_append.1 h with h | h
          · exact .inl h
          · have : t = reY back a := by simpa using h
            subst this
            exact .inr ⟨sny,ed⟩
        · exact .inr ⟨h,lift e⟩
      · rintro y ⟨b,hb,e1,e2,e3⟩
        rcases List.mem_cons.1 hb with rfl | hb
        · subst e2; exact sny
        · exact h8 y ⟨b,hb,e1,e2,e3⟩
  · rw [if_neg c]; exact skip (.inl fun h => c h.1)
structure zb4w (A : List aa) (o : Int) (l6 : List Bool) (todo : List Int) : Prop where
 l : l6.length = np
 s : ∀ y,Sn l6 y → Rch (j6 back A P) o y
 t : ∀ t ∈ todo,t = o ∨ Rch (j6 back A P) o t
 c : ∀ x,(x = o ∨ Sn l6 x) → x ∈ todo ∨ ∀ y,j6 back A P x y → Sn l6 y
omit hp in
theorem zcme {l : List Int} {v : Int} (h : l[l.length - 1]? = some v) {t : Int} (ht : t ∈ l) : t = v ∨ t ∈ l.take (l.length - 1) := by
 have hlt : l.length - 1 < l.length := (List.getElem?_eq_some_iff.1 h).1
 have e : l = l.take (l.length - 1) ++ [v] := by
  have := List.take_append_drop (l.length - 1) l
  rw [List.drop_eq_getElem_cons hlt,List.drop_of_length_le (by omega)] at this
  rw [(List.getElem?_eq_some_iff.1 h).2] at this
  exact this.symm
 rw [e] at ht
 rcases List.mem_append.1 ht with ht | ht
 · exact .inr ht
 · exact .inl (by simpa using ht)
theorem zbgg (A : List aa) (o : Int) (l6 : List Bool) (hI : zb4w np back P A o l6 []) : ∃ r,qc (reS back p A) (l6,[]) = some r ∧ r.length = np ∧ ∀ y,Sn r y ↔ Rch (j6 back A P) o y := by
 refine ⟨l6,?_,hI.l,fun y => ⟨hI.s y,fun h => ?_⟩⟩
 · rw [ij]; unfold reS; rw [if_neg (by simp),obz,LS.go]
 · have cl : ∀ x,(x = o ∨ Sn l6 x) → ∀ y,j6 back A P x y → Sn l6 y := fun x hx => (hI.c x hx).resolve_left (by simp)
   induction h with
   | one e => exact cl _ (.inl rfl) _ e
   | snoc _ e ih => exact cl _ (.inr ih) _ e
theorem zbwc (A : List aa) (o : Int) (hA : InR np back A) (hAl : A.length < 100000) (hnp : np < 1000) (n : Nat) : ∀ (l6 : List Bool) (todo : List Int),todo.length + un l6 ≤ n → n < 500000 → zb4w np back P A o l6 todo →
 ∃ r,qc (reS back p A) (l6,todo) = some r ∧ r.length = np ∧ ∀ y,Sn r y ↔ Rch (j6 back A P) o y := by
 induction n with
 | zero =>
  intro l6 todo hm _ hI
  have ht : todo = [] := List.eq_nil_of_length_eq_zero (by omega)
  subst ht
  exact zbgg np back p P hp A o l6 hI
 | succ n ih =>
  intro l6 todo hm hn hI
  by_cases c : 0 < todo.length
  · obtain ⟨v,hv⟩ : ∃ v,todo[todo.length - 1]? = some v := ⟨_,List.getElem?_eq_getElem (by omega)⟩
    have hv' : ixL todo ((todo.length - 1 : Nat) : Int) = some v := zbq3.2 ⟨by omega,by rw [Int.toNat_natCast]; exact hv⟩
    have lt : (todo.take (todo.length - 1)).length = todo.length - 1 := by rw [List.length_take]; omega
    obtain ⟨s',t',h1,h2,h3,h3b,h4,h5,h6,h7,h8⟩ := zb0l np back v p P hp A l6 (todo.take (todo.length - 1)) hA hI.l (by rw [lt]; omega)
    have vr : v = o ∨ Rch (j6 back A P) o v := hI.t v (List.mem_of_getElem? hv)
    have sv : ∀ y,j6 back A P v y → Rch (j6 back A P) o y := fun y e => by
     rcases vr with rfl | r
     · exact .one e
     · exact .snoc r e
    have inv : zb4w np back P A o s' t' := by
     refine ⟨h2,fun y h => ?_,fun t h => ?_,fun x hx => ?_⟩
     · rcases h6 y h with h | ⟨_,e⟩
       · exact hI.s y h
       · exact sv y e
     · rcases h7 t h with h | ⟨_,e⟩
       · exact hI.t t (List.mem_of_mem_take h)
       · exact .inr (sv t e)
     · by_cases ex : x = v
       · subst ex; exact .inr h8
       · have hx' : x = o ∨ Sn l6 x ∨ x ∈ t' := by
          rcases hx with h | h
          · exact .inl h
          · rcases h6 x h with h | ⟨h,_⟩
            · exact .inr (.inl h)
            · exact .inr (.inr h)
         rcases hx' with h | h | h
         · rcases hI.c x (.inl h) with q | q
           · rcases zcme hv q with q | q
             · exact absurd q ex
             · exact .inl (h5 _ q)
           · exact .inr fun y e => h4 _ (q y e)
         · rcases hI.c x (.inr h) with q | q
           · rcases zcme hv q with q | q
             · exact absurd q ex
             · exact .inl (h5 _ q)
           · exact .inr fun y e => h4 _ (q y e)
         · exact .inl h
    rw [lt] at h3
    obtain ⟨r,e1,e2,e3⟩ := ih s' t' (by omega) (by omega) inv
    refine ⟨r,?_,e2,e3⟩
    rw [ij]
    unfold reS
    simp only
    rw [if_pos c,if_pos (by omega),hv',obz,h1,obz,obz,LS.go]
    exact e1
  · have ht : todo = [] := List.eq_nil_of_length_eq_zero (by omega)
    subst ht
    exact zbgg np back p P hp A o l6 hI
end
theorem zbro : ∀ l : List Bool,un l ≤ l.length
 | [] => Nat.le_refl _
 | true :: r => by have := zbro r; show un r ≤ _; rw [List.length_cons]; omega
 | false :: r => by have := zbro r; show un r + 1 ≤ _; rw [List.length_cons]; omega
theorem zboo (n : Nat) (y : Int) : ¬ Sn (List.replicate n false) y := by
 unfold Sn
 rw [zbq3]
 rintro ⟨_,h⟩
 rw [List.getElem?_replicate] at h
 split at h <;> simp at h
theorem zbyj (s : ac) (o : Int) (back : Bool) (p : Int → Option Bool) (P : Int → Bool) (hp : ∀ y,0 ≤ y → y < (s.Parties.length : Int) → p y = some (P y)) (hA : InR s.Parties.length back s.Arcs) (hAl : s.Arcs.length < 100000) (hnp : s.Parties.length < 1000) :
 ∃ r,reF s o back p = some r ∧ r.length = s.Parties.length ∧ ∀ y,Sn r y ↔ Rch (j6 back s.Arcs P) o y := by
 obtain ⟨r,h1,h2,h3⟩ := zbwc s.Parties.length back p P hp s.Arcs o hA hAl hnp (1 + un (List.replicate s.Parties.length false)) (List.replicate s.Parties.length false) [o] (Nat.le_refl _)
  (by have := zbro (List.replicate s.Parties.length false); rw [List.length_replicate] at this; omega)
  ⟨List.length_replicate,fun y h => absurd h (zboo _ _),fun t h => .inl (by simpa using h),fun x hx => hx.elim (fun h => .inl (by simp [h])) fun h => absurd h (zboo _ _)⟩
 refine ⟨r,?_,h2,h3⟩
 unfold reF
 rw [if_pos ⟨by omega,by omega⟩]
 exact h1
end Go.Proofs.Ytdcfoaafkppojaa
namespace Go.Proofs.Ytdcfoaafkppojaa
open Go Go.RowKit Sh Ic
theorem zcwm (l : List Bool) (hl : l.length < 1000000) (n : Nat) : ∀ i : Nat,n + i = l.length → ∃ r,di l false (l.length : Nat) (i : Int) = some r ∧
 ((∃ v,r = .rt v ∧ 0 ≤ v ∧ (l.drop i).contains false = true) ∨ (r = .ex () ∧ (l.drop i).contains false = false)) := by
 induction n with
 | zero =>
  intro i h
  refine ⟨.ex (),?_,.inr ⟨rfl,?_⟩⟩
  · rw [nm,a9,if_neg (by omega),obz,LS.go]
  · rw [List.drop_of_length_le (by omega)]; rfl
 | succ n ih =>
  intro i h
  have hi : i < l.length := by omega
  rw [nm,a9,if_pos (by omega),ot hi,obz,List.drop_eq_getElem_cons hi,List.contains_cons]
  by_cases p : (false == l[i]) = true
  · rw [if_pos p,obz,LS.go]
    exact ⟨_,rfl,.inl ⟨_,rfl,by omega,by rw [p]; rfl⟩⟩
  · have p' := Bool.eq_false_iff.2 p
    rw [if_neg p,obz,LS.go,zi i (by omega),p',Bool.false_or]
    exact ih (i + 1) (by omega)
theorem zbw9 (l : List Bool) (hl : l.length < 1000000) : cj l false = some (l.contains false) := by
 obtain ⟨r,h,q⟩ := zcwm l hl l.length 0 rfl
 rw [List.drop_zero] at q
 have h : di l false (l.length : Nat) 0 = some r := h
 unfold cj gt
 rw [h,obz]
 rcases q with ⟨v,rfl,h0,q⟩ | ⟨rfl,q⟩
 · show some (decide (0 ≤ v)) = _
   rw [q,decide_eq_true h0]
 · show some (decide ((0 : Int) ≤ -1)) = _
   rw [q]; rfl
theorem zcwk (l : List Int) (x : Int) (hl : l.length < 1000000) (n : Nat) : ∀ i : Nat,n + i = l.length → ∃ r,dz l x (l.length : Nat) (i : Int) = some r ∧
 ((∃ v,r = .rt v ∧ 0 ≤ v ∧ (l.drop i).contains x = true) ∨ (r = .ex () ∧ (l.drop i).contains x = false)) := by
 induction n with
 | zero =>
  intro i h
  refine ⟨.ex (),?_,.inr ⟨rfl,?_⟩⟩
  · rw [pb,bc,if_neg (by omega),obz,LS.go]
  · rw [List.drop_of_length_le (by omega)]; rfl
 | succ n ih =>
  intro i h
  have hi : i < l.length := by omega
  rw [pb,bc,if_pos (by omega),ot hi,obz,List.drop_eq_getElem_cons hi,List.contains_cons]
  by_cases p : x = l[i]
  · rw [if_pos p,obz,LS.go]
    exact ⟨_,rfl,.inl ⟨_,rfl,by omega,by rw [beq_iff_eq.2 p]; rfl⟩⟩
  · rw [if_neg p,obz,LS.go,zi i (by omega),beq_eq_false_iff_ne.2 p,Bool.false_or]
    exact ih (i + 1) (by omega)
theorem zbs2 (l : List Int) (x : Int) (hl : l.length < 1000000) : dc l x = some (l.contains x) := by
 obtain ⟨r,h,q⟩ := zcwk l x hl l.length 0 rfl
 rw [List.drop_zero] at q
 have h : dz l x (l.length : Nat) 0 = some r := h
 unfold dc iv
 rw [h,obz]
 rcases q with ⟨v,rfl,h0,q⟩ | ⟨rfl,q⟩
 · show some (decide (0 ≤ v)) = _
   rw [q,decide_eq_true h0]
 · show some (decide ((0 : Int) ≤ -1)) = _
   rw [q]; rfl
def zbd1 (A : List aa) (x y : Int) : Bool := A.any fun a => decide (a.From = x) && decide (a.To = y)
theorem zcwh (a : aa) (l : List Int) (i : Nat) (hi : i < l.length) (h1 : l.length < 1000000) (y : Int) : oq a l ((i + 1 : Nat) : Int) y = some (decide (a.From = l[i]) && decide (a.To = y)) := by
 have w : IntKind.i64.wrap (((i + 1 : Nat) : Int) - 1) = (i : Int) := by rw [wA (by omega) (by omega)]; omega
 unfold oq
 rw [w,ot hi,obz]
 by_cases c : a.From = l[i]
 · rw [if_pos c,decide_eq_true c,Bool.true_and]
 · rw [if_neg c,decide_eq_false c,Bool.false_and]
theorem zcwn (A : List aa) (l : List Int) (j : Nat) (hj : j < l.length) (h1 : l.length < 1000000) (y : Int) (hl : A.length < 1000000) (n : Nat) : ∀ i : Nat,n + i = A.length → ∃ r,bd A l ((j + 1 : Nat) : Int) y (A.length : Nat) (i : Int) = some r ∧
 ((∃ v,r = .rt v ∧ 0 ≤ v ∧ zbd1 (A.drop i) l[j] y = true) ∨ (r = .ex () ∧ zbd1 (A.drop i) l[j] y = false)) := by
 induction n with
 | zero =>
  intro i h
  refine ⟨.ex (),?_,.inr ⟨rfl,?_⟩⟩
  · rw [jc,ar,if_neg (by omega),obz,LS.go]
  · rw [List.drop_of_length_le (by omega)]; rfl
 | succ n ih =>
  intro i h
  have hi : i < A.length := by omega
  unfold zbd1
  rw [jc,ar,if_pos (by omega),ot hi,obz,zcwh _ l j hj h1,obz,zb0a _ _ _ hi]
  by_cases p : (decide (A[i].From = l[j]) && decide (A[i].To = y)) = true
  · rw [if_pos p,obz,LS.go]
    exact ⟨_,rfl,.inl ⟨_,rfl,by omega,by rw [p]; rfl⟩⟩
  · have p' := Bool.eq_false_iff.2 p
    rw [if_neg p,obz,LS.go,zi i (by omega),p',Bool.false_or]
    exact ih (i + 1) (by omega)
theorem zbxa (A : List aa) (l : List Int) (j : Nat) (hj : j < l.length) (h1 : l.length < 1000000) (y : Int) (hl : A.length < 1000000) : bf A l ((j + 1 : Nat) : Int) y = some (zbd1 A l[j] y) := by
 obtain ⟨r,h,q⟩ := zcwn A l j hj h1 y hl A.length 0 rfl
 rw [List.drop_zero] at q
 have h : bd A l ((j + 1 : Nat) : Int) y (A.length : Nat) 0 = some r := h
 unfold bf cv
 rw [h,obz]
 rcases q with ⟨v,rfl,h0,q⟩ | ⟨rfl,q⟩
 · show some (decide (0 ≤ v)) = _
   rw [q,decide_eq_true h0]
 · show some (decide ((0 : Int) ≤ -1)) = _
   rw [q]; rfl
abbrev T1 : Int → Bool := fun _ => true
theorem zbmc {n : Int} {a : aa} (h : zbds n a = true) : (0 ≤ a.From ∧ a.From < n) ∧ (0 ≤ a.To ∧ a.To < n) := by
 unfold zbds at h
 simp only [Bool.and_eq_true,uc] at h
 omega
theorem inR {s : ac} (h : Ok s) (back : Bool) : InR s.Parties.length back s.Arcs := ⟨fun a ha => by
 have q := zbmc (h.arcs a ha)
 cases back
 · exact q.2
 · exact q.1⟩
theorem zbyc {A : List aa} (x y : Int) : j6 true A T1 x y ↔ j6 false A T1 y x :=
 ⟨fun ⟨a,h1,h2,h3,_⟩ => ⟨a,h1,h3,h2,rfl⟩,fun ⟨a,h1,h2,h3,_⟩ => ⟨a,h1,h3,h2,rfl⟩⟩
def Str (s : ac) : Prop := ∀ a b : Int,0 ≤ a ∧ a < s.Parties.length → 0 ≤ b ∧ b < s.Parties.length → a ≠ b → Rch (j6 false s.Arcs T1) a b
def Hub (s : ac) : Prop := (∀ y : Int,0 ≤ y ∧ y < s.Parties.length → Rch (j6 false s.Arcs T1) 0 y) ∧ ∀ y : Int,0 ≤ y ∧ y < s.Parties.length → Rch (j6 true s.Arcs T1) 0 y
theorem zb3r {s : ac} (h : 2 ≤ s.Parties.length) : Str s ↔ Hub s := by
 constructor
 · intro q
   have h0 : Rch (j6 false s.Arcs T1) 0 0 := (q 0 1 (by omega) (by omega) (by decide)).trans (q 1 0 (by omega) (by omega) (by decide))
   refine ⟨fun y hy => ?_,fun y hy => ?_⟩
   · by_cases c : y = 0
     · rw [c]; exact h0
     · exact q 0 y (by omega) hy (fun e => c e.symm)
   · refine Rch.rev (E := j6 false s.Arcs T1) (fun x y e => (zbyc _ _).2 e) ?_
     by_cases c : y = 0
     · rw [c]; exact h0
     · exact q y 0 hy (by omega) c
 · rintro ⟨q1,q2⟩ a b ha hb _
   exact (Rch.rev (fun x y e => (zbyc _ _).1 e) (q2 a ha)).trans (q1 b hb)
open Classical in
noncomputable def zbfg (s : ac) : Bool := decide (Ok s ∧ Str s)
open Classical in
theorem zbtz {s : ac} : zbfg s = true ↔ Ok s ∧ Str s := by unfold zbfg; exact decide_eq_true_iff
theorem bo {b : Bool} {P : Prop} (h : b = true ↔ P) (c : Bool) (hc : c = true ↔ P) : c = b := by
 cases b <;> cases c <;> simp_all
theorem zbjs {r : List Bool} : r.contains false = false ↔ ∀ y : Int,0 ≤ y ∧ y < r.length → Sn r y := by
 constructor
 · intro h y hy
   obtain ⟨b,hb⟩ := zbsk hy.1 hy.2
   cases b with
   | true => exact hb
   | false =>
    have : false ∈ r := List.mem_of_getElem? (zbq3.1 hb).2
    rw [← List.contains_iff_mem] at this
    rw [h] at this; cases this
 · intro h
   cases c : r.contains false with
   | false => rfl
   | true =>
    have := List.contains_iff_mem.1 c
    obtain ⟨j,hj,e⟩ := List.mem_iff_getElem.1 this
    have := h (j : Int) (by omega)
    unfold Sn at this
    rw [ot hj,e] at this; cases this
theorem zbuu (s : ac) (hw : Wf s) : dl s = some (zbfg s) := by
 unfold dl
 rw [zbuj s hw,obz]
 by_cases c : okS s = true
 · rw [if_pos c]
   have h := zbnj.1 c
   have np := h.np
   have na := h.na
   obtain ⟨r1,e1,l1,q1⟩ := zbyj s 0 false (fun v => oo v) T1 (fun _ _ _ => rfl) (inR h false) (by omega) (by omega)
   obtain ⟨r2,e2,l2,q2⟩ := zbyj s 0 true (fun v => oo v) T1 (fun _ _ _ => rfl) (inR h true) (by omega) (by omega)
   have f1 : qw s 0 false = some r1 := e1
   have f2 : qw s 0 true = some r2 := e2
   have key : zbfg s = true ↔ r1.contains false = false ∧ r2.contains false = false := by
    rw [zbtz,zb3r np.1,zbjs,zbjs,l1,l2]
    unfold Hub
    exact ⟨fun ⟨_,a,b⟩ => ⟨fun y hy => (q1 y).2 (a y hy),fun y hy => (q2 y).2 (b y hy)⟩,fun ⟨a,b⟩ => ⟨h,fun y hy => (q1 y).1 (a y hy),fun y hy => (q2 y).1 (b y hy)⟩⟩
   rw [f1,obz,zbw9 r1 (by omega),obz]
   cases c1 : r1.contains false with
   | true =>
    rw [if_pos rfl]
    congr 1
    exact bo key _ (by rw [c1]; simp)
   | false =>
    rw [if_neg (by decide),f2,obz,zbw9 r2 (by omega),obz]
    congr 1
    exact bo key _ (by rw [c1]; simp)
 · rw [if_neg c]
   congr 1
   exact bo (P := False) (by rw [zbtz]; exact ⟨fun h => c (zbnj.2 h.1),False.elim⟩) _ (by simp)
abbrev pl (s : ac) : Int → Bool := fun y => !(s.Leaders.contains y)
def Fb (s : ac) (v : Int) : Prop := v ∉ s.Leaders ∧ Rch (j6 false s.Arcs (pl s)) v v
open Classical in
noncomputable def fbB (s : ac) : Bool := decide (Ok s ∧ ∀ v : Nat,v < s.Parties.length → ¬ Fb s (v : Int))
open Classical in
theorem zbun {s : ac} : fbB s = true ↔ Ok s ∧ ∀ v : Nat,v < s.Parties.length → ¬ Fb s (v : Int) := by unfold fbB; exact decide_eq_true_iff
theorem zbx7 (s : ac) (hl : s.Leaders.length < 1000000) (v : Int) : d8 v s = some (pl s v) := by
 unfold d8
 rw [zbs2 _ _ hl,obz]
theorem zbu6 (s : ac) (hw : Wf s) : cg s = some (fbB s) := by
 unfold cg
 rw [zbuj s hw,obz]
 by_cases c : okS s = true
 · rw [if_pos c]
   have h := zbnj.1 c
   have np := h.np
   have na := h.na
   have nl := h.nl
   have out : (cn s (s.Parties.length : Nat) 0 = some (.ex ()) ∧ ∀ v,v < s.Parties.length → ¬ Fb s ((v : Nat) : Int)) ∨ (cn s (s.Parties.length : Nat) 0 = some (.rt false) ∧ ∃ v,v < s.Parties.length ∧ ¬ ¬ Fb s ((v : Nat) : Int)) := by
    refine zbws (f := fun k => cn s (s.Parties.length : Nat) (k : Int)) ?_ ?_ ?_
    · show cn s (s.Parties.length : Nat) ((s.Parties.length : Nat) : Int) = _
      rw [ou,bx,if_neg (by omega),obz,LS.go]
    · intro k hk hp
      show cn s (s.Parties.length : Nat) (k : Int) = cn s (s.Parties.length : Nat) ((k + 1 : Nat) : Int)
      rw [ou,bx,if_pos (by omega),zbx7 s (by omega),obz]
      by_cases d : pl s (k : Int) = true
      · obtain ⟨r,e,l,q⟩ := zbyj s (k : Int) false (fun v => d8 v s) (pl s) (fun y _ _ => zbx7 s (by omega) y) (inR h false) (by omega) (by omega)
        have e : sn s (k : Int) false s = some r := e
        obtain ⟨b,hb⟩ := zbsk (l := r) (i := (k : Int)) (by omega) (by omega)
        have hd : (k : Int) ∉ s.Leaders := by simpa using d
        rw [if_pos d,e,obz,hb,obz]
        cases b with
        | true => exact absurd ⟨hd,(q _).1 hb⟩ hp
        | false => rw [if_neg (by decide),obz,LS.go,zi k (by omega)]
      · rw [if_neg d,obz,LS.go,zi k (by omega)]
    · intro k hk hp
      have hp : Fb s (k : Int) := Classical.not_not.1 hp
      show cn s (s.Parties.length : Nat) (k : Int) = _
      have d : pl s (k : Int) = true := by simpa using hp.1
      obtain ⟨r,e,l,q⟩ := zbyj s (k : Int) false (fun v => d8 v s) (pl s) (fun y _ _ => zbx7 s (by omega) y) (inR h false) (by omega) (by omega)
      have e : sn s (k : Int) false s = some r := e
      have hb : ixL r (k : Int) = some true := (q _).2 hp.2
      rw [ou,bx,if_pos (by omega),zbx7 s (by omega),obz,if_pos d,e,obz,hb,obz,if_pos rfl,obz,LS.go]
   rcases out with ⟨e,q⟩ | ⟨e,a,ha,q⟩
   · rw [e,obz]
     show some true = _
     congr 1
     exact (zbun.2 ⟨h,q⟩).symm
   · rw [e,obz]
     show some false = _
     congr 1
     exact bo (P := False) ⟨fun t => q ((zbun.1 t).2 a ha),False.elim⟩ _ (by simp)
 · rw [if_neg c]
   congr 1
   exact bo (P := False) (by rw [zbun]; exact ⟨fun h => c (zbnj.2 h.1),False.elim⟩) _ (by simp)
noncomputable def zbch (s : ac) : Bool := zbfg s && fbB s
theorem zbtw (s : ac) (hw : Wf s) : dy s = some (zbch s) := by
 unfold dy zbch
 rw [zbuu s hw,obz]
 cases zbfg s with
 | true => rw [if_pos rfl,zbu6 s hw,obz,Bool.true_and]
 | false => rw [if_neg (by decide),Bool.false_and]
def zbnd (s : ac) (l : List Int) (i : Nat) : Bool :=
 (decide (0 ≤ l.getD i 0) && decide (l.getD i 0 < (s.Parties.length : Int))) && (!((l.take i).contains (l.getD i 0)) && (decide (i = 0) || zbd1 s.Arcs (l.getD (i - 1) 0) (l.getD i 0)))
open Classical in
noncomputable def paB (s : ac) (l : List Int) : Bool := decide (Ok s ∧ l ≠ [] ∧ ∀ i,i < l.length → zbnd s l i = true)
open Classical in
theorem zbtu {s : ac} {l : List Int} : paB s l = true ↔ Ok s ∧ l ≠ [] ∧ ∀ i,i < l.length → zbnd s l i = true := by unfold paB; exact decide_eq_true_iff
theorem zbx5 {l : List Int} {i : Nat} (h : i < l.length) : l.getD i 0 = l[i] := by simp [List.getD,h]
theorem zbqg (s : ac) (hw : Wf s) (l : List Int) (hl : l.length < 1000) : qd s l = some (paB s l) := by
 unfold qd
 rw [zbuj s hw,obz]
 by_cases c : okS s = true
 · have h := zbnj.1 c
   have np := h.np
   have na := h.na
   rw [if_pos c]
   by_cases c0 : ((l.length : Nat) : Int) = 0
   · rw [if_pos c0]
     congr 1
     exact bo (P := False) (by rw [zbtu]; exact ⟨fun q => q.2.1 (List.eq_nil_of_length_eq_zero (by omega)),False.elim⟩) _ (by simp)
   · rw [if_neg c0]
     have hn : ¬ l = [] := fun e => c0 (by rw [e]; rfl)
     have out : (ek s l l (l.length : Nat) 0 = some (.ex ()) ∧ ∀ v,v < l.length → zbnd s l v = true) ∨ (ek s l l (l.length : Nat) 0 = some (.rt false) ∧ ∃ v,v < l.length ∧ ¬ zbnd s l v = true) := by
      refine zbws (f := fun k => ek s l l (l.length : Nat) (k : Int)) ?_ ?_ ?_
      · show ek s l l (l.length : Nat) ((l.length : Nat) : Int) = _
        rw [vt,dh,if_neg (by omega),obz,LS.go]
      · intro k hk hp
        show ek s l l (l.length : Nat) (k : Int) = ek s l l (l.length : Nat) ((k + 1 : Nat) : Int)
        unfold zbnd at hp
        rw [zbx5 hk] at hp
        simp only [Bool.and_eq_true,Bool.or_eq_true,Bool.not_eq_true',decide_eq_true_iff] at hp
        obtain ⟨⟨p1,p2⟩,p3,p4⟩ := hp
        rw [vt,dh,if_pos (by omega),ot hk,obz,if_neg (by omega),if_neg (by omega),if_pos hn,if_pos (by omega),Int.toNat_natCast,zbs2 _ _ (by rw [List.length_take]; omega),obz,if_neg (by rw [p3]; decide)]
        by_cases z : k = 0
        · rw [if_neg (by omega),obz,LS.go,zi k (by omega)]
        · obtain ⟨j,rfl⟩ : ∃ j,k = j + 1 := ⟨k - 1,by omega⟩
          have p4 := p4.resolve_left z
          rw [Nat.add_sub_cancel,zbx5 (by omega)] at p4
          rw [if_pos (by omega),zbxa _ l j (by omega) (by omega) _ (by omega),obz,if_pos p4,obz,LS.go,zi (j + 1) (by omega)]
      · intro k hk hp
        show ek s l l (l.length : Nat) (k : Int) = _
        unfold zbnd at hp
        rw [zbx5 hk] at hp
        simp only [Bool.and_eq_true,Bool.or_eq_true,Bool.not_eq_true',decide_eq_true_iff] at hp
        rw [vt,dh,if_pos (by omega),ot hk,obz]
        by_cases p1 : l[k] < 0
        · rw [if_pos p1,obz,LS.go]
        rw [if_neg p1]
        by_cases p2 : ((s.Parties.length : Nat) : Int) ≤ l[k]
        · rw [if_pos p2,obz,LS.go]
        rw [if_neg p2,if_pos hn,if_pos (by omega),Int.toNat_natCast,zbs2 _ _ (by rw [List.length_take]; omega),obz]
        by_cases p3 : (l.take k).contains l[k] = true
        · rw [if_pos p3,obz,LS.go]
        rw [if_neg p3]
        have p3 := Bool.eq_false_iff.2 p3
        by_cases z : k = 0
        · exact absurd ⟨⟨by omega,by omega⟩,p3,.inl z⟩ hp
        · obtain ⟨j,rfl⟩ : ∃ j,k = j + 1 := ⟨k - 1,by omega⟩
          have p4 : ¬ zbd1 s.Arcs l[j] l[j + 1] = true := fun q => hp ⟨⟨by omega,by omega⟩,p3,.inr (by rw [Nat.add_sub_cancel,zbx5 (by omega)]; exact q)⟩
          rw [if_pos (by omega),zbxa _ l j (by omega) (by omega) _ (by omega),obz,if_neg p4,obz,LS.go]
     rcases out with ⟨e,q⟩ | ⟨e,a,ha,q⟩
     · rw [e,obz]
       show some true = _
       congr 1
       exact (zbtu.2 ⟨h,hn,q⟩).symm
     · rw [e,obz]
       show some false = _
       congr 1
       exact bo (P := False) ⟨fun t => q ((zbtu.1 t).2.2 a ha),False.elim⟩ _ (by simp)
 · rw [if_neg c]
   congr 1
   exact bo (P := False) (by rw [zbtu]; exact ⟨fun h => c (zbnj.2 h.1),False.elim⟩) _ (by simp)
def ind (p : aa → Bool) : List aa → Int → List Int
 | [],_ => []
 | a :: r,i => if p a = true then i :: ind p r (i + 1) else ind p r (i + 1)
noncomputable def zbpy (p : aa → Bool) (s : ac) : List Int := if okS s = true then ind p s.Arcs 0 else []
theorem zbvj (v : Int) (A : List aa) (hl : A.length < 1000) (n : Nat) : ∀ (i : Nat) (acc : List Int),n + i = A.length → acc.length ≤ i → ip v A (A.length : Nat) acc (i : Int) = some (acc ++ ind (fun a => decide (a.To = v)) (A.drop i) i) := by
 induction n with
 | zero =>
  intro i acc h ha
  rw [zciy,dt,if_neg (by omega),obz,LS.go,List.drop_of_length_le (by omega),ind,List.append_nil]
 | succ n ih =>
  intro i acc h ha
  have hi : i < A.length := by omega
  rw [zciy,dt,if_pos (by omega),ot hi,obz,qf,obz,List.drop_eq_getElem_cons hi,ind]
  by_cases c : decide (A[i].To = v) = true
  · rw [if_pos c,if_pos (by omega),if_pos c,obz,LS.go,zi i (by omega)]
    show ip v A (A.length : Nat) (acc ++ [(i : Int)]) ((i + 1 : Nat) : Int) = _
    rw [ih (i + 1) _ (by omega) (by rw [List.length_append,List.length_singleton]; omega),List.append_assoc]
    rfl
  · rw [if_neg c,if_neg c,obz,LS.go,zi i (by omega)]
    show ip v A (A.length : Nat) acc ((i + 1 : Nat) : Int) = _
    rw [ih (i + 1) _ (by omega) (by omega)]
    rfl
theorem zbvi (v : Int) (A : List aa) (hl : A.length < 1000) (n : Nat) : ∀ (i : Nat) (acc : List Int),n + i = A.length → acc.length ≤ i → gw v A (A.length : Nat) acc (i : Int) = some (acc ++ ind (fun a => decide (a.From = v)) (A.drop i) i) := by
 induction n with
 | zero =>
  intro i acc h ha
  rw [yz,df,if_neg (by omega),obz,LS.go,List.drop_of_length_le (by omega),ind,List.append_nil]
 | succ n ih =>
  intro i acc h ha
  have hi : i < A.length := by omega
  rw [yz,df,if_pos (by omega),ot hi,obz,qe,obz,List.drop_eq_getElem_cons hi,ind]
  by_cases c : decide (A[i].From = v) = true
  · rw [if_pos c,if_pos (by omega),if_pos c,obz,LS.go,zi i (by omega)]
    show gw v A (A.length : Nat) (acc ++ [(i : Int)]) ((i + 1 : Nat) : Int) = _
    rw [ih (i + 1) _ (by omega) (by rw [List.length_append,List.length_singleton]; omega),List.append_assoc]
    rfl
  · rw [if_neg c,if_neg c,obz,LS.go,zi i (by omega)]
    show gw v A (A.length : Nat) acc ((i + 1 : Nat) : Int) = _
    rw [ih (i + 1) _ (by omega) (by omega)]
    rfl
theorem zbtk (s : ac) (hw : Wf s) (v : Int) : qy s v = some (zbpy (fun a => decide (a.To = v)) s) := by
 unfold qy vq zbpy
 rw [zbuj s hw,obz]
 by_cases c : okS s = true
 · have na := (zbnj.1 c).na
   have e : ip v s.Arcs (s.Arcs.length : Nat) [] 0 = some ([] ++ ind _ (s.Arcs.drop 0) 0) := zbvj v s.Arcs (by omega) s.Arcs.length 0 [] rfl (Nat.le_refl _)
   rw [if_pos c,if_pos c,e,obz,obz,List.drop_zero,List.nil_append]
 · rw [if_neg c,if_neg c,obz]
theorem zbtj (s : ac) (hw : Wf s) (v : Int) : qx s v = some (zbpy (fun a => decide (a.From = v)) s) := by
 unfold qx sm zbpy
 rw [zbuj s hw,obz]
 by_cases c : okS s = true
 · have na := (zbnj.1 c).na
   have e : gw v s.Arcs (s.Arcs.length : Nat) [] 0 = some ([] ++ ind _ (s.Arcs.drop 0) 0) := zbvi v s.Arcs (by omega) s.Arcs.length 0 [] rfl (Nat.le_refl _)
   rw [if_pos c,if_pos c,e,obz,obz,List.drop_zero,List.nil_append]
 · rw [if_neg c,if_neg c,obz]
open Go Go.RowKit Sh Ic
def zbdf (k : Nat) : ByteArray := (⟨#[48,49,50,51,52,53,54,55,56,57]⟩ : ByteArray).extract k (k + 1)
def zbdo (k : Nat) : ByteArray := (⟨#[112,97,114,116,121]⟩ : ByteArray) ++ zbdf k
def zbzu (k : Nat) : ByteArray := (⟨#[115,101,99,114,101,116]⟩ : ByteArray) ++ zbdf k
def j3 (k : Nat) : ByteArray := (⟨#[115,101,101,100]⟩ : ByteArray) ++ zbdf k
theorem zp (k : Nat) (h : k < 10) : (zbdf k).size = 1 := by
 unfold zbdf
 rw [ByteArray.size_extract]
 show min (k + 1) 10 - k = 1
 omega
theorem zbz9 (k : Nat) (h : k < 10) : vc (k : Int) = some (zbdf k) := by
 unfold vc
 rw [if_pos ⟨by omega,by omega⟩,Int.toNat_natCast]; rfl
theorem zbkk (k : Nat) (h : k < 10) : (zbdo k).size = 6 := by unfold zbdo; rw [ByteArray.size_append,zp k h]; rfl
theorem zbfr (k : Nat) (h : k < 10) : (zbzu k).size = 7 := by unfold zbzu; rw [ByteArray.size_append,zp k h]; rfl
theorem zbfq (k : Nat) (h : k < 10) : (j3 k).size = 5 := by unfold j3; rw [ByteArray.size_append,zp k h]; rfl
theorem zbkl (k : Nat) (h : k < 10) : mh (k : Int) = some (zbdo k) := by
 unfold mh
 rw [zbz9 k h,obz,if_pos (by rw [zp k h]; decide)]; rfl
theorem zbl4 (k : Nat) (h : k < 10) : vb (k : Int) = some (zbzu k) := by
 unfold vb
 rw [zbz9 k h,obz,if_pos (by rw [zp k h]; decide)]; rfl
theorem zbv9 (k : Nat) (h : k < 10) : zv (k : Int) = some (j3 k) := by
 unfold zv
 rw [zbz9 k h,obz,if_pos (by rw [zp k h]; decide)]; rfl
def zbsf (k : Nat) : ByteArray := SHA (zbzu k)
def zbmi (i k : Nat) : ByteArray := PUB (j3 i) (k : Int)
theorem zbm6 (s : ByteArray) (k : Int) : (PUB s k).size = 16 := by unfold PUB; exact zblr _
theorem zbsg (k : Nat) (h : k < 10) : zbc0 (k : Int) = some (zbsf k) := by
 unfold zbc0
 rw [zbl4 k h,obz,zbom _ (by rw [zbfr k h]; decide)]; rfl
theorem zbwx (i k : Nat) (hi : i < 10) (hk : k < 10) : zbwy (i : Int) (k : Int) = some (zbmi i k) := by
 unfold zbwy
 rw [zbv9 i hi,obz,zbwi _ (by rw [zbfq i hi]; decide),if_pos (by unfold isK; omega)]; rfl
def upL (g : Nat → ByteArray) : Nat → Nat → List ByteArray
 | 0,_ => []
 | n + 1,k => g k :: upL g n (k + 1)
theorem zbrn (g : Nat → ByteArray) (n : Nat) : ∀ k,(upL g n k).length = n := by
 induction n with
 | zero => intro k; rfl
 | succ n ih => intro k; rw [upL,List.length_cons,ih]
theorem zbrm {g : Nat → ByteArray} {n : Nat} : ∀ {k : Nat} {x : ByteArray},x ∈ upL g n k → ∃ j,k ≤ j ∧ j < k + n ∧ x = g j := by
 induction n with
 | zero => intro k x h; cases h
 | succ n ih =>
  intro k x h
  rw [upL,List.mem_cons] at h
  rcases h with rfl | h
  · exact ⟨k,Nat.le_refl _,by omega,rfl⟩
  · obtain ⟨j,h1,h2,h3⟩ := ih h
    exact ⟨j,by omega,by omega,h3⟩
theorem zb3k {f : Int → Option ByteArray} {g : Nat → ByteArray} (hf : ∀ k : Nat,k < 10 → f (k : Int) = some (g k)) (n : Nat) : ∀ (k : Nat) (l : List ByteArray),n + k ≤ 10 → zbb3 f n k l = some (l ++ upL g n k) := by
 induction n with
 | zero => intro k l h; rw [zbb3,upL,List.append_nil]
 | succ n ih => intro k l h; rw [zbb3,hf k (by omega),obz,ih (k + 1) _ (by omega),upL,List.append_assoc]; rfl
def zbb4 (L : Nat) : Nat → Nat → List af
 | 0,_ => []
 | n + 1,k => ⟨zbdo k,upL (zbmi k) L 0⟩ :: zbb4 L n (k + 1)
theorem zbyy (L n : Nat) : ∀ k,(zbb4 L n k).length = n := by
 induction n with
 | zero => intro k; rfl
 | succ n ih => intro k; rw [zbb4,List.length_cons,ih]
theorem zbr5 (L : Nat) (hL : L ≤ 10) (n : Nat) : ∀ (k : Nat) (d : List af),n + k ≤ 10 → zbnc L (bare (upL zbdo n k)) k d = some (d ++ zbb4 L n k) := by
 induction n with
 | zero => intro k d h; show some d = some (d ++ []); rw [List.append_nil]
 | succ n ih =>
  intro k d h
  show (zbb3 (zbwy (k : Int)) L 0 [] >>= fun ks => zbnc L (bare (upL zbdo n (k + 1))) (k + 1) (d ++ [⟨zbdo k,ks⟩])) = _
  rw [zb3k (g := zbmi k) (fun j hj => zbwx k j (by omega) hj) L 0 [] (by omega),obz,ih (k + 1) _ (by omega),List.append_assoc]
  rfl
def zbbw (n : Nat) (start delta : Int) : ac := ⟨⟨#[114,105,110,103]⟩,zbb4 1 n 0,ya n 0 2,[0],[zbsf 0],start,delta⟩
theorem zbor (n : Nat) (start delta : Int) (h1 : 1 ≤ n) (h6 : n ≤ 6) : xj (n : Int) start delta = some (zbbw n start delta) := by
 unfold xj
 have e1 : zbu7 (n : Int) 0 2 = some (ya n 0 2) := if_pos ⟨⟨by omega,by omega⟩,by decide,by decide⟩
 rw [if_pos ⟨by omega,by omega⟩,e1,obz,Int.toNat_natCast,zb3k zbkl n 0 [] (by omega),obz,zb3k zbsg 1 0 [] (by omega),obz,List.nil_append,zbr5 1 (by omega) n 0 [] (by omega),obz]
 rfl
theorem zbr4 (L : Nat) (n : Nat) : ∀ k,n + k ≤ 10 → ∀ p ∈ zbb4 L n k,zbri (L : Int) p = true := by
 induction n with
 | zero => intro k h p hp; cases hp
 | succ n ih =>
  intro k h p hp
  rw [zbb4,List.mem_cons] at hp
  rcases hp with rfl | hp
  · unfold zbri
    rw [Bool.and_eq_true,zb80,zb05]
    refine ⟨by show 1 ≤ (zbdo k).size ∧ (zbdo k).size ≤ 16; rw [zbkk k (by omega)]; decide,by show ((upL (zbmi k) L 0).length : Int) = _; rw [zbrn],fun x hx => ?_⟩
    obtain ⟨j,_,_,rfl⟩ := zbrm hx
    show ((PUB _ _).size : Int) = 16
    rw [zbm6]; rfl
  · exact ih (k + 1) (by omega) p hp
theorem zbfw (L n : Nat) : ∀ k,(zbb4 L n k).map af.Account = upL zbdo n k := by
 induction n with
 | zero => intro k; rfl
 | succ n ih => intro k; rw [zbb4,List.map_cons,ih,upL]
theorem zbm4 : (upL zbdo 6 0).Nodup := by decide +kernel
theorem zblx (g : Nat → ByteArray) (n m : Nat) : ∀ k,upL g n k = (upL g (n + m) k).take n := by
 induction n with
 | zero => intro k; rfl
 | succ n ih => intro k; rw [Nat.succ_add,upL,upL,List.take_succ_cons,← ih]
theorem zcut (n : Nat) (h : n ≤ 6) : (upL zbdo n 0).Nodup := by
 have e := zblx zbdo n (6 - n) 0
 rw [show n + (6 - n) = 6 by omega] at e
 rw [e]
 exact zbm4.sublist (List.take_sublist _ _)
def pm (n : Nat) (l : List aa) : Bool := l.all (zbds (n : Int)) && decide ((l.map fun a => (a.From,a.To)).Nodup) && decide (1 ≤ l.length) && decide (l.length ≤ 12)
theorem zbf1 : (pm 2 (ya 2 0 2) && pm 3 (ya 3 0 2) && pm 4 (ya 4 0 2) && pm 5 (ya 5 0 2) && pm 6 (ya 6 0 2)) = true := by decide +kernel
theorem zbf0 (n : Nat) (h2 : 2 ≤ n) (h6 : n ≤ 6) : pm n (ya n 0 2) = true := by
 have h := zbf1
 simp only [Bool.and_eq_true] at h
 obtain ⟨⟨⟨⟨a,b⟩,c⟩,d⟩,e⟩ := h
 have : n = 2 ∨ n = 3 ∨ n = 4 ∨ n = 5 ∨ n = 6 := by omega
 rcases this with rfl | rfl | rfl | rfl | rfl <;> assumption
theorem zbfz (n : Nat) (start delta : Int) (h2 : 2 ≤ n) (h6 : n ≤ 6) (hs : 0 ≤ start ∧ start ≤ 1099511627776) (hd : 1 ≤ delta ∧ delta ≤ 1048576) : Ok (zbbw n start delta) := by
 have g := zbf0 n h2 h6
 unfold pm at g
 simp only [Bool.and_eq_true,decide_eq_true_iff,List.all_eq_true] at g
 obtain ⟨⟨⟨g1,g2⟩,g3⟩,g4⟩ := g
 have ln : (zbb4 1 n 0).length = n := zbyy 1 n 0
 refine ⟨by show zbd7 ⟨#[114,105,110,103]⟩ = true; decide +kernel,?_,by show 1 ≤ 1 ∧ 1 ≤ 3; decide,⟨g3,g4⟩,⟨rfl,fun x hx => ?_⟩,hs,hd,zbr4 1 n 0 (by omega),?_,?_,g2,by show [(0 : Int)].Nodup; decide,fun v hv => ?_⟩
 · show 2 ≤ (zbb4 1 n 0).length ∧ (zbb4 1 n 0).length ≤ 6
   omega
 · have : x = zbsf 0 := by simpa [zbbw] using hx
   rw [this]; exact zb0d _
 · show ∀ a ∈ ya n 0 2,zbds ((zbb4 1 n 0).length : Nat) a = true
   rw [ln]; exact g1
 · show ((zbb4 1 n 0).map af.Account).Nodup
   rw [zbfw]; exact zcut n h6
 · have : v = 0 := by simpa [zbbw] using hv
   rw [this]
   show (0 : Int) ≤ 0 ∧ (0 : Int) < ((zbb4 1 n 0).length : Nat)
   omega
open Go Go.RowKit Sh Ic
def prs (A : List aa) : List (Int × Int) := A.map fun a => (a.From,a.To)
theorem zj {A : List aa} {P : Int → Bool} {x y : Int} : j6 false A P x y ↔ (x,y) ∈ prs A ∧ P y = true := by
 unfold prs
 rw [List.mem_map]
 constructor
 · rintro ⟨a,h1,h2,h3,h4⟩
   have h2 : a.From = x := h2
   have h3 : a.To = y := h3
   exact ⟨⟨a,h1,by rw [h2,h3]⟩,h4⟩
 · rintro ⟨⟨a,h1,h2⟩,h4⟩
   injection h2 with h2 h3
   exact ⟨a,h1,h2,h3,h4⟩
theorem zbcv {E : Int → Int → Prop} {C : Int → Prop} (h : ∀ x y,E x y → C x → C y) {x y : Int} (r : Rch E x y) (c : C x) : C y := by
 induction r with
 | one e => exact h _ _ e c
 | snoc _ e ih => exact h _ _ e ih
theorem zbwe {E : Int → Int → Prop} (h : ∀ x y,E x y → x < y) {x y : Int} (r : Rch E x y) : x < y := by
 induction r with
 | one e => exact h _ _ e
 | snoc _ e ih => have := h _ _ e; omega
theorem zcmp {s : ac} (n : Nat) (hn : s.Parties.length = n) (h2 : 2 ≤ n) (h1 : ∀ k : Nat,k + 1 < n → ((k : Int),((k + 1 : Nat) : Int)) ∈ prs s.Arcs) (h0 : (((n - 1 : Nat) : Int),(0 : Int)) ∈ prs s.Arcs) : Hub s := by
 have fe : ∀ k : Nat,k + 1 < n → j6 false s.Arcs T1 (k : Int) ((k + 1 : Nat) : Int) := fun k hk => zj.2 ⟨h1 k hk,rfl⟩
 have le : j6 false s.Arcs T1 ((n - 1 : Nat) : Int) 0 := zj.2 ⟨h0,rfl⟩
 have fw : ∀ k : Nat,k + 1 < n → Rch (j6 false s.Arcs T1) 0 ((k + 1 : Nat) : Int) := by
  intro k
  induction k with
  | zero => intro hk; exact .one (fe 0 hk)
  | succ k ih => intro hk; exact .snoc (ih (by omega)) (fe (k + 1) hk)
 have bw : ∀ j : Nat,j < n → Rch (j6 true s.Arcs T1) 0 ((n - 1 - j : Nat) : Int) := by
  intro j
  induction j with
  | zero => intro _; exact .one ((zbyc _ _).2 le)
  | succ j ih =>
   intro hj
   refine .snoc (ih (by omega)) ((zbyc _ _).2 ?_)
   have := fe (n - 1 - (j + 1)) (by omega)
   rw [show n - 1 - (j + 1) + 1 = n - 1 - j by omega] at this
   exact this
 constructor
 · intro y hy
   rw [hn] at hy
   by_cases c : y = 0
   · rw [c]
     have := fw (n - 2) (by omega)
     rw [show n - 2 + 1 = n - 1 by omega] at this
     exact .snoc this le
   · have := fw (y.toNat - 1) (by omega)
     rw [show ((y.toNat - 1 + 1 : Nat) : Int) = y by omega] at this
     exact this
 · intro y hy
   rw [hn] at hy
   have := bw (n - 1 - y.toNat) (by omega)
   rw [show ((n - 1 - (n - 1 - y.toNat) : Nat) : Int) = y by omega] at this
   exact this
theorem zbse {s : ac} (h : Ok s) (A : List aa) (g : pm s.Parties.length A = true) : Ok ⟨s.ID,s.Parties,A,s.Leaders,s.Locks,s.Start,s.Delta⟩ := by
 unfold pm at g
 simp only [Bool.and_eq_true,decide_eq_true_iff,List.all_eq_true] at g
 obtain ⟨⟨⟨g1,g2⟩,g3⟩,g4⟩ := g
 exact ⟨h.id,h.np,h.nl,⟨g3,g4⟩,h.locks,h.start,h.delta,h.parties,g1,h.accts,g2,h.leads,h.inl⟩
theorem zbhv {s : ac} (h : Ok s) : Wf s := ⟨fun v hv => by
 have := h.inl v hv
 have np := h.np
 exact zbuo (by omega) (by omega),by have := h.start; exact zbuo (by omega) (by omega),by have := h.delta; exact zbuo (by omega) (by omega)⟩
theorem zb3q {s : ac} (C : Int → Bool) (hc : ((prs s.Arcs).all fun p => !C p.1 || C p.2) = true) (a b : Int) (ha : 0 ≤ a ∧ a < s.Parties.length) (hb : 0 ≤ b ∧ b < s.Parties.length) (h1 : C a = true) (h2 : C b = false) : zbfg s = false := by
 refine Bool.eq_false_iff.2 fun h => ?_
 have hab : a ≠ b := fun e => by rw [e,h2] at h1; cases h1
 have r := (zbtz.1 h).2 a b ha hb hab
 have := zbcv (C := fun x => C x = true) (fun x y e hx => by
  have e := (zj.1 e).1
  rw [List.all_eq_true] at hc
  have := hc _ e
  simp only [Bool.or_eq_true,Bool.not_eq_true'] at this
  rcases this with t | t
  · rw [t] at hx; cases hx
  · exact t) r h1
 have this : C b = true := this
 rw [h2] at this; cases this
theorem zb3f {s : ac} (h : Ok s) (hl : s.Leaders = [0]) (hp : ((prs s.Arcs).all fun p => decide (p.2 = 0) || decide (p.1 < p.2)) = true) : fbB s = true := by
 refine zbun.2 ⟨h,fun v _ hf => ?_⟩
 have := zbwe (fun x y e => by
  obtain ⟨e1,e2⟩ := zj.1 e
  rw [List.all_eq_true] at hp
  have := hp _ e1
  simp only [Bool.or_eq_true,decide_eq_true_iff] at this
  rcases this with t | t
  · exfalso
    have e2 : (!(s.Leaders.contains y)) = true := e2
    rw [hl,t] at e2
    exact absurd e2 (by decide)
  · exact t) hf.2
 omega
theorem zbp2 {s : ac} (v : Nat) (hv : v < s.Parties.length) (h : Fb s (v : Int)) : fbB s = false :=
 Bool.eq_false_iff.2 fun t => (zbun.1 t).2 v hv h
theorem zbme : ¬ Ok (⟨(⟨#[]⟩ : ByteArray),[],[],[],[],(0 : Int),(0 : Int)⟩ : ac) := fun h => absurd h.np.1 (by decide)
theorem zb39 : prs (ya 3 0 2) = [(0,1),(1,2),(2,0)] := by decide +kernel
theorem zbf2 (a b : Int) : (zbbw 3 a b).Parties.length = 3 := zbyy 1 3 0
theorem zb4a : zbd1 (ya 3 0 2) 0 1 = true ∧ zbd1 (ya 3 0 2) 1 2 = true ∧ zbd1 (ya 3 0 2) 0 2 = false ∧ (ind (fun a => decide (a.To = 0)) (ya 3 0 2) 0).length = 1 ∧ (ind (fun a => decide (a.From = 0)) (ya 3 0 2) 0).length = 1 := by decide +kernel
theorem zbya : ms = some true := by
 have h := zbfz 3 5 6 (by decide) (by decide) (by decide) (by decide)
 have hw := zbhv h
 have np := zbf2 5 6
 obtain ⟨q1,q2,q3,q4,q5⟩ := zb4a
 have e := zbor 3 5 6 (by decide) (by decide)
 have e : xj 3 5 6 = some (zbbw 3 5 6) := e
 have v1 : zbch (zbbw 3 5 6) = true := by
  unfold zbch
  rw [Bool.and_eq_true]
  constructor
  · refine zbtz.2 ⟨h,(zb3r (by omega)).2 (zcmp 3 np (by decide) (fun k hk => ?_) ?_)⟩
    · show _ ∈ prs (ya 3 0 2)
      rw [zb39]
      have : k = 0 ∨ k = 1 := by omega
      rcases this with rfl | rfl <;> decide
    · show _ ∈ prs (ya 3 0 2)
      rw [zb39]; decide
  · refine zb3f h rfl ?_
    show ((prs (ya 3 0 2)).all _) = true
    rw [zb39]; decide
 have p1 : paB (zbbw 3 5 6) [0,1,2] = true := by
  refine zbtu.2 ⟨h,by simp,fun i hi => ?_⟩
  have : i = 0 ∨ i = 1 ∨ i = 2 := by simp at hi; omega
  unfold zbnd
  rw [np]
  rcases this with rfl | rfl | rfl
  · decide
  · show (_ && (_ && (_ || zbd1 (ya 3 0 2) 0 1))) = true
    rw [q1]; decide
  · show (_ && (_ && (_ || zbd1 (ya 3 0 2) 1 2))) = true
    rw [q2]; decide
 have p2 : paB (zbbw 3 5 6) [0,2] = false := by
  refine Bool.eq_false_iff.2 fun t => ?_
  have := (zbtu.1 t).2.2 1 (by decide)
  unfold zbnd at this
  rw [np] at this
  have this : (_ && (_ && (_ || zbd1 (ya 3 0 2) 0 2))) = true := this
  rw [q3] at this
  exact absurd this (by decide)
 have v2 : zbch (⟨(⟨#[]⟩ : ByteArray),[],[],[],[],(0 : Int),(0 : Int)⟩ : ac) = false := by
  refine Bool.eq_false_iff.2 fun t => ?_
  unfold zbch at t
  rw [Bool.and_eq_true] at t
  exact zbme (zbtz.1 t.1).1
 have n1 : ((zbpy (fun a => decide (a.To = 0)) (zbbw 3 5 6)).length : Int) = 1 := by
  unfold zbpy
  rw [if_pos (zb0j h)]
  show ((ind _ (ya 3 0 2) 0).length : Int) = 1
  rw [q4]; rfl
 have n2 : ((zbpy (fun a => decide (a.From = 0)) (zbbw 3 5 6)).length : Int) = 1 := by
  unfold zbpy
  rw [if_pos (zb0j h)]
  show ((ind _ (ya 3 0 2) 0).length : Int) = 1
  rw [q5]; rfl
 unfold ms
 rw [e,obz,zbtw _ hw,obz,if_pos v1,zbqg _ hw _ (by decide),obz,if_pos p1,zbqg _ hw _ (by decide),obz,if_neg (by rw [p2]; decide),zbtk _ hw,obz,if_pos n1,zbtj _ hw,obz,if_pos n2,
  zbtw _ ⟨fun v hv => (by cases hv),by decide,by decide⟩,obz,v2]
 rfl
open Go Go.RowKit Sh Ic
theorem zbsb (n k : Int) (hk : 0 < k) (hk2 : k < 9223372036854775808) : xk n k = some (n % k) := by
 unfold xk
 rw [if_pos (by omega)]
 have h1 := Int.emod_nonneg n (show k ≠ 0 by omega)
 have h2 := Int.emod_lt_of_pos n hk
 by_cases c : 0 ≤ n
 · have e : Int.tmod n k = n % k := Int.tmod_eq_emod_of_nonneg c
   rw [e,if_neg (by omega)]
 · have e := Int.tmod_eq_emod (a := n) (b := k)
   by_cases d : n % k = 0
   · have : Int.tmod n k = 0 := by
      rw [e,d]
      have : k ∣ n := Int.dvd_of_emod_eq_zero d
      simp [this]
     rw [this,d,if_neg (by decide)]
   · have nd : ¬ k ∣ n := fun h => d (Int.emod_eq_zero_of_dvd h)
     have e2 : Int.tmod n k = n % k - k := by
      rw [e,if_neg (fun h => h.elim c nd)]
      omega
     rw [e2,if_pos (by omega),w64 (by omega) (by omega)]
     congr 1
     omega
end Go.Proofs.Ytdcfoaafkppojaa
