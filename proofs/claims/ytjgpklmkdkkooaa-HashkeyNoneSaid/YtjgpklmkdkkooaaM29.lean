import Derived.Test.YtjgpklmkdkkooaaPSha
set_option linter.unusedSimpArgs false
set_option linter.unusedVariables false
set_option linter.unusedSectionVars false
namespace Go.Proofs.Ytjgpklmkdkkooaa
open Go Go.RowKit Sh Ic
def zbq4 (s:ByteArray):Bool:=decide (1 ≤ s.size) && decide (s.size ≤ 16)
def inB (n lo hi:Int):Bool:=decide (lo ≤ n) && decide (n ≤ hi)
theorem za91 {n lo hi:Int}:inB n lo hi = true ↔ lo ≤ n ∧ n ≤ hi:=by unfold inB; rw [Bool.and_eq_true,decide_eq_true_iff,decide_eq_true_iff]
theorem zct8 {s:ByteArray}:zbq4 s = true ↔ 1 ≤ s.size ∧ s.size ≤ 16:=by unfold zbq4; rw [Bool.and_eq_true,decide_eq_true_iff,decide_eq_true_iff]
theorem zbt6 (s:ByteArray):w9 s = some (zbq4 s):=by
 unfold w9 zbq4
 by_cases h:1 ≤ s.size
 · rw [if_pos (by omega),decide_eq_true h,Bool.true_and]
   congr 1
   exact decide_eq_decide.2 ⟨fun _ => by omega,fun _ => by omega⟩
 · rw [if_neg (by omega),decide_eq_false h,Bool.false_and]
theorem zbxo (n lo hi:Int):p9 n lo hi = some (inB n lo hi):=by
 unfold p9 inB
 by_cases h:lo ≤ n
 · rw [if_pos h,decide_eq_true h,Bool.true_and]
 · rw [if_neg h,decide_eq_false h,Bool.false_and]
theorem zchn {α:Type} (l:List α) (p:α → Bool) (i:Nat) (h:i < l.length):(l.drop i).any p = (p l[i] || (l.drop (i + 1)).any p):=by
 rw [List.drop_eq_getElem_cons h,List.any_cons]
theorem zdll (l:List ByteArray) (c:Int) (hl:l.length < 1000000) (n:Nat):∀ i:Nat,n + i = l.length → ∃ r,de l c (l.length:Nat) (i:Int) = some r ∧
 ((∃ v,r = .rt v ∧ 0 ≤ v ∧ ((l.drop i).any fun x => decide (¬ ((x.size:Nat):Int) = c)) = true) ∨ (r = .ex () ∧ ((l.drop i).any fun x => decide (¬ ((x.size:Nat):Int) = c)) = false)):=by
 induction n with
 | zero =>
  intro i h
  refine ⟨.ex (),?_,.inr ⟨rfl,?_⟩⟩
  · rw [nz,bb,if_neg (by omega),obz,LS.go]
  · rw [List.drop_of_length_le (by omega)]; rfl
 | succ n ih =>
  intro i h
  have hi:i < l.length:=by omega
  rw [nz,bb,if_pos (by omega),zbmk hi,obz,z5,obz,zchn _ _ _ hi]
  by_cases p:decide (¬ ((l[i].size:Nat):Int) = c) = true
  · rw [if_pos p,obz,LS.go]
    exact ⟨_,rfl,.inl ⟨_,rfl,by omega,by rw [p]; rfl⟩⟩
  · have p':=Bool.eq_false_iff.2 p
    rw [if_neg p,obz,LS.go,j4 i (by omega),p',Bool.false_or]
    exact ih (i + 1) (by omega)
theorem zcnm (l:List ByteArray) (c:Int) (hl:l.length < 1000000):df l c = some (l.any fun x => decide (¬ ((x.size:Nat):Int) = c)):=by
 obtain ⟨r,h,q⟩:=zdll l c hl l.length 0 rfl
 rw [List.drop_zero] at q
 have h:de l c (l.length:Nat) 0 = some r:=h
 unfold df fv
 rw [h,obz]
 rcases q with ⟨v,rfl,h0,q⟩ | ⟨rfl,q⟩
 · show some (decide (0 ≤ v)) = _
   rw [q,decide_eq_true h0]
 · show some (decide ((0:Int) ≤ -1)) = _
   rw [q]; rfl
def zb4m (l:List ByteArray) (n sz:Int):Bool:=decide ((l.length:Int) = n) && !l.any fun x => decide (¬ ((x.size:Nat):Int) = sz)
theorem zbsl (l:List ByteArray) (n sz:Int) (hn:n < 1000000):wz l n sz = some (zb4m l n sz):=by
 unfold wz zb4m
 by_cases h:(l.length:Int) = n
 · rw [if_pos h,zcnm l sz (by omega),obz,decide_eq_true h,Bool.true_and]
 · rw [if_neg h,decide_eq_false h,Bool.false_and]
theorem zcmd {l:List ByteArray} {n sz:Int}:zb4m l n sz = true ↔ (l.length:Int) = n ∧ ∀ x ∈ l,(x.size:Int) = sz:=by
 unfold zb4m
 rw [Bool.and_eq_true,decide_eq_true_iff,Bool.not_eq_true',List.any_eq_false]
 refine and_congr_right fun _ => ⟨fun h x hx => ?_,fun h x hx => ?_⟩
 · have:=h x hx
   simpa using this
 · simpa using h x hx
def zbqw (n:Int) (a:ac):Bool:=inB a.From 0 (n - 1) && (inB a.To 0 (n - 1) && (decide (a.From ≠ a.To) && (inB a.Ledger 0 3 && (zbq4 a.Asset && inB a.Amount 1 1125899906842624))))
theorem zcnv (a:ac) (n:Int) (hn:0 ≤ n ∧ n < 1000000):zb7y a n = some (zbqw n a):=by
 unfold zb7y zbqw
 have w:IntKind.i64.wrap (n - 1) = n - 1:=wA (by omega) (by omega)
 rw [w,zbxo,obz]
 cases inB a.From 0 (n - 1) with
 | false => rfl
 | true =>
  rw [if_pos rfl,zbxo,obz]
  cases inB a.To 0 (n - 1) with
  | false => rfl
  | true =>
   rw [if_pos rfl]
   by_cases e:a.From = a.To
   · rw [if_pos e,decide_eq_false (fun h => h e)]; rfl
   · rw [if_neg e,decide_eq_true e,zbxo,obz]
     cases inB a.Ledger 0 3 with
     | false => rfl
     | true =>
      rw [if_pos rfl,zbt6,obz]
      cases zbq4 a.Asset with
      | false => rfl
      | true => rw [if_pos rfl,zbxo,obz]; rfl
def zb3i (nl:Int) (p:aj):Bool:=zbq4 p.Account && zb4m p.Keys nl 16
theorem zcpw {α:Type} (l:List α) (p:α → Bool) (i:Nat) (h:i < l.length):(l.drop i).all p = (p l[i] && (l.drop (i + 1)).all p):=by
 rw [List.drop_eq_getElem_cons h,List.all_cons]
theorem zdlr (s:af) (np nl:Int) (hnl:nl < 1000000) (hp:s.Parties.length < 1000000) (n:Nat):∀ i:Nat,n + i = s.Parties.length →
 qa s np nl s.Parties (s.Parties.length:Nat) ((s.Parties.take i).map aj.Account) (i:Int) = some (if (s.Parties.drop i).all (zb3i nl) = true then .ex (s.Parties.map aj.Account) else .rt false):=by
 induction n with
 | zero =>
  intro i h
  rw [zc47,gy,if_neg (by omega),obz,LS.go,List.drop_of_length_le (by omega),List.take_of_length_le (by omega)]; rfl
 | succ n ih =>
  intro i h
  have hi:i < s.Parties.length:=by omega
  rw [zc47,gy,if_pos (by omega),zbmk hi,obz,zbt6,obz,zcpw _ _ _ hi]
  unfold zb3i
  cases zbq4 s.Parties[i].Account with
  | false => rfl
  | true =>
   rw [if_pos rfl,zbsl _ _ _ hnl,obz]
   cases zb4m s.Parties[i].Keys nl 16 with
   | false => rfl
   | true =>
    have e:(s.Parties.take i).map aj.Account ++ [s.Parties[i].Account] = (s.Parties.take (i + 1)).map aj.Account:=by
     rw [List.take_succ_eq_append_getElem hi,List.map_append]; rfl
    rw [if_pos rfl,if_pos (by rw [List.length_map,List.length_take]; omega),obz,LS.go,j4 i (by omega)]
    show qa s np nl s.Parties _ ((s.Parties.take i).map aj.Account ++ [s.Parties[i].Account]) _ = _
    rw [e,ih (i + 1) (by omega)]
    rfl
def ways (l:List ac):List gj:=l.map fun a => ⟨a.From,a.To⟩
theorem zdlq (s:af) (np:Int) (acc:List ByteArray) (hnp:0 ≤ np ∧ np < 1000000) (hp:s.Arcs.length < 1000000) (n:Nat):∀ i:Nat,n + i = s.Arcs.length →
 ng s np acc s.Arcs (s.Arcs.length:Nat) (ways (s.Arcs.take i)) (i:Int) = some (if (s.Arcs.drop i).all (zbqw np) = true then .ex (ways s.Arcs) else .rt false):=by
 induction n with
 | zero =>
  intro i h
  rw [zc48,gx,if_neg (by omega),obz,LS.go,List.drop_of_length_le (by omega),List.take_of_length_le (by omega)]; rfl
 | succ n ih =>
  intro i h
  have hi:i < s.Arcs.length:=by omega
  rw [zc48,gx,if_pos (by omega),zbmk hi,obz,zcnv _ _ hnp,obz,zcpw _ _ _ hi]
  show (if zbqw np s.Arcs[i] = true then _ else _:Option _) >>= _ = _
  cases zbqw np s.Arcs[i] with
  | false => rfl
  | true =>
   have e:ways (s.Arcs.take i) ++ [(⟨s.Arcs[i].From,s.Arcs[i].To⟩:gj)] = ways (s.Arcs.take (i + 1)):=by
    unfold ways; rw [List.take_succ_eq_append_getElem hi,List.map_append]; rfl
   rw [if_pos rfl,if_pos (by unfold ways; rw [List.length_map,List.length_take]; omega),obz,LS.go,j4 i (by omega)]
   show ng s np acc s.Arcs _ (ways (s.Arcs.take i) ++ [(⟨s.Arcs[i].From,s.Arcs[i].To⟩:gj)]) _ = _
   rw [e,ih (i + 1) (by omega)]
   rfl
open Go Go.RowKit Sh Ic
theorem zdln (l:List Int) (c:Int) (hc:0 ≤ c ∧ c < 1000000) (hl:l.length < 1000000) (n:Nat):∀ i:Nat,n + i = l.length → ∃ r,fg l c (l.length:Nat) (i:Int) = some r ∧
 ((∃ v,r = .rt v ∧ 0 ≤ v ∧ ((l.drop i).any fun x => !inB x 0 (c - 1)) = true) ∨ (r = .ex () ∧ ((l.drop i).any fun x => !inB x 0 (c - 1)) = false)):=by
 have w:IntKind.i64.wrap (c - 1) = c - 1:=wA (by omega) (by omega)
 induction n with
 | zero =>
  intro i h
  refine ⟨.ex (),?_,.inr ⟨rfl,?_⟩⟩
  · rw [su,bx,if_neg (by omega),obz,LS.go]
  · rw [List.drop_of_length_le (by omega)]; rfl
 | succ n ih =>
  intro i h
  have hi:i < l.length:=by omega
  rw [su,bx,if_pos (by omega),zbmk hi,obz,z7,w,zbxo,obz,obz,zchn _ _ _ hi]
  by_cases p:(!inB l[i] 0 (c - 1)) = true
  · rw [if_pos p,obz,LS.go]
    exact ⟨_,rfl,.inl ⟨_,rfl,by omega,by rw [p]; rfl⟩⟩
  · have p':=Bool.eq_false_iff.2 p
    rw [if_neg p,obz,LS.go,j4 i (by omega),p',Bool.false_or]
    exact ih (i + 1) (by omega)
theorem zcnn (l:List Int) (c:Int) (hc:0 ≤ c ∧ c < 1000000) (hl:l.length < 1000000):fh l c = some (l.any fun x => !inB x 0 (c - 1)):=by
 obtain ⟨r,h,q⟩:=zdln l c hc hl l.length 0 rfl
 rw [List.drop_zero] at q
 have h:fg l c (l.length:Nat) 0 = some r:=h
 unfold fh jl
 rw [h,obz]
 rcases q with ⟨v,rfl,h0,q⟩ | ⟨rfl,q⟩
 · show some (decide (0 ≤ v)) = _
   rw [q,decide_eq_true h0]
 · show some (decide ((0:Int) ≤ -1)) = _
   rw [q]; rfl
structure Ok (s:af):Prop where
 id:zbq4 s.ID = true
 np:2 ≤ s.Parties.length ∧ s.Parties.length ≤ 6
 nl:1 ≤ s.Leaders.length ∧ s.Leaders.length ≤ 3
 na:1 ≤ s.Arcs.length ∧ s.Arcs.length ≤ 12
 locks:s.Locks.length = s.Leaders.length ∧ ∀ x ∈ s.Locks,x.size = 32
 start:0 ≤ s.Start ∧ s.Start ≤ 1099511627776
 delta:1 ≤ s.Delta ∧ s.Delta ≤ 1048576
 parties:∀ p ∈ s.Parties,zb3i (s.Leaders.length:Nat) p = true
 arcs:∀ a ∈ s.Arcs,zbqw (s.Parties.length:Nat) a = true
 accts:(s.Parties.map aj.Account).Nodup
 ways:(s.Arcs.map fun a => (a.From,a.To)).Nodup
 leads:s.Leaders.Nodup
 inl:∀ v ∈ s.Leaders,0 ≤ v ∧ v < s.Parties.length
structure Wf (s:af):Prop where
 leads:∀ v ∈ s.Leaders,oc v = true
 start:oc s.Start = true
 delta:oc s.Delta = true
theorem zcar {n:Int} (h1:-9223372036854775808 ≤ n) (h2:n ≤ 9223372036854775807):oc n = true:=by
 unfold oc; rw [decide_eq_true h1,decide_eq_true h2]; rfl
open Classical in
noncomputable def okS (s:af):Bool:=decide (Ok s)
open Classical in
theorem zceq {s:af} (h:Ok s):okS s = true:=by unfold okS; exact decide_eq_true h
open Classical in
theorem tp {s:af} (h:¬ Ok s):okS s = false:=by unfold okS; exact decide_eq_false h
open Classical in
theorem zb8s {s:af}:okS s = true ↔ Ok s:=by unfold okS; exact decide_eq_true_iff
theorem zcd5 (s:af) (hw:Wf s):rn s = some (okS s):=by
 unfold rn
 rw [zbt6,obz]
 by_cases h1:zbq4 s.ID = true
 rotate_left
 · rw [if_neg h1,tp fun h => h1 h.id]
 rw [if_pos h1,zbxo,obz]
 by_cases h2:inB (s.Parties.length:Nat) 2 6 = true
 rotate_left
 · rw [if_neg h2,tp fun h => h2 (za91.2 ⟨by have:=h.np; omega,by have:=h.np; omega⟩)]
 have h2':=za91.1 h2
 rw [if_pos h2,zbxo,obz]
 by_cases h3:inB (s.Leaders.length:Nat) 1 3 = true
 rotate_left
 · rw [if_neg h3,tp fun h => h3 (za91.2 ⟨by have:=h.nl; omega,by have:=h.nl; omega⟩)]
 have h3':=za91.1 h3
 rw [if_pos h3,zbxo,obz]
 by_cases h4:inB (s.Arcs.length:Nat) 1 12 = true
 rotate_left
 · rw [if_neg h4,tp fun h => h4 (za91.2 ⟨by have:=h.na; omega,by have:=h.na; omega⟩)]
 have h4':=za91.1 h4
 rw [if_pos h4,zbsl _ _ _ (by omega),obz]
 by_cases h5:zb4m s.Locks (s.Leaders.length:Nat) 32 = true
 rotate_left
 · rw [if_neg h5,tp fun h => h5 (zcmd.2 ⟨by have:=h.locks.1; omega,fun x hx => by have:=h.locks.2 x hx; omega⟩)]
 have h5':=zcmd.1 h5
 rw [if_pos h5,zbxo,obz]
 by_cases h6:inB s.Start 0 1099511627776 = true
 rotate_left
 · rw [if_neg h6,tp fun h => h6 (za91.2 h.start)]
 rw [if_pos h6,zbxo,obz]
 by_cases h7:inB s.Delta 1 1048576 = true
 rotate_left
 · rw [if_neg h7,tp fun h => h7 (za91.2 h.delta)]
 have e1:=zdlr s (s.Parties.length:Nat) (s.Leaders.length:Nat) (by omega) (by omega) s.Parties.length 0 rfl
 have e1:qa s (s.Parties.length:Nat) (s.Leaders.length:Nat) s.Parties (s.Parties.length:Nat) [] 0 = _:=e1
 rw [if_pos h7,e1,obz,List.drop_zero]
 by_cases h8:s.Parties.all (zb3i (s.Leaders.length:Nat)) = true
 rotate_left
 · rw [if_neg h8,tp fun h => h8 (List.all_eq_true.2 h.parties)]
 rw [if_pos h8]
 have h8':=List.all_eq_true.1 h8
 have e2:=zdlq s (s.Parties.length:Nat) (s.Parties.map aj.Account) (by omega) (by omega) s.Arcs.length 0 rfl
 have e2:ng s (s.Parties.length:Nat) (s.Parties.map aj.Account) s.Arcs (s.Arcs.length:Nat) [] 0 = _:=e2
 show ng s (s.Parties.length:Nat) (s.Parties.map aj.Account) s.Arcs (s.Arcs.length:Nat) [] 0 >>= _ = _
 rw [e2,obz,List.drop_zero]
 by_cases h9:s.Arcs.all (zbqw (s.Parties.length:Nat)) = true
 rotate_left
 · rw [if_neg h9,tp fun h => h9 (List.all_eq_true.2 h.arcs)]
 rw [if_pos h9]
 have h9':=List.all_eq_true.1 h9
 show rm (s.Parties.map aj.Account) >>= _ = _
 have o1:rm (s.Parties.map aj.Account) = some (decide (s.Parties.map aj.Account).Nodup):=if_pos ⟨by rw [List.length_map]; omega,fun x hx => by
  obtain ⟨p,hp,rfl⟩:=List.mem_map.1 hx
  have:=h8' p hp
  unfold zb3i at this
  rw [Bool.and_eq_true,zct8] at this
  omega⟩
 rw [o1,obz]
 by_cases h10:(s.Parties.map aj.Account).Nodup
 rotate_left
 · rw [if_neg (by rw [decide_eq_true_iff]; exact h10),tp fun h => h10 h.accts]
 rw [if_pos (decide_eq_true h10)]
 have em:(ways s.Arcs).map two = s.Arcs.map fun a => (a.From,a.To):=by unfold ways; rw [List.map_map]; rfl
 have o2:x8 (ways s.Arcs) = some (decide ((s.Arcs.map fun a => (a.From,a.To)).Nodup)):=by
  rw [← em]
  exact if_pos ⟨by unfold ways; rw [List.length_map]; omega,fun x hx => by
   obtain ⟨a,ha,rfl⟩:=List.mem_map.1 hx
   have:=h9' a ha
   unfold zbqw at this
   rw [Bool.and_eq_true,Bool.and_eq_true,za91,za91] at this
   rw [Bool.and_eq_true]
   exact ⟨zcar (by show _ ≤ a.From; omega) (by show a.From ≤ _; omega),zcar (by show _ ≤ a.To; omega) (by show a.To ≤ _; omega)⟩⟩
 rw [o2,obz]
 by_cases h11:(s.Arcs.map fun a => (a.From,a.To)).Nodup
 rotate_left
 · rw [if_neg (by rw [decide_eq_true_iff]; exact h11),tp fun h => h11 h.ways]
 have o3:zcfv s.Leaders = some (decide s.Leaders.Nodup):=if_pos ⟨by omega,hw.leads⟩
 rw [if_pos (decide_eq_true h11),o3,obz]
 by_cases h12:s.Leaders.Nodup
 rotate_left
 · rw [if_neg (by rw [decide_eq_true_iff]; exact h12),tp fun h => h12 h.leads]
 rw [if_pos (decide_eq_true h12),zcnn _ _ ⟨by omega,by omega⟩ (by omega),obz]
 cases h13:s.Leaders.any fun x => !inB x 0 ((s.Parties.length:Nat) - 1) with
 | true =>
  rw [tp fun h => by
   rw [List.any_eq_true] at h13
   obtain ⟨x,hx,h13⟩:=h13
   have:=h.inl x hx
   rw [Bool.not_eq_true',← Bool.not_eq_true,za91] at h13
   omega]
  rfl
 | false =>
  rw [List.any_eq_false] at h13
  rw [zceq ⟨h1,⟨by omega,by omega⟩,⟨by omega,by omega⟩,⟨by omega,by omega⟩,⟨by omega,fun x hx => by have:=h5'.2 x hx; omega⟩,za91.1 h6,za91.1 h7,h8',h9',h10,h11,h12,fun v hv => by
   have:=h13 v hv
   rw [Bool.not_eq_true',Bool.not_eq_false,za91] at this
   omega⟩]
  rfl
theorem zcb9 {f:Nat → Option (LX Unit Bool)} {N:Nat} {P:Nat → Prop} (he:f N = some (.ex ())) (hs:∀ k,k < N → P k → f k = f (k + 1)) (hb:∀ k,k < N → ¬ P k → f k = some (.rt false)) :
 (f 0 = some (.ex ()) ∧ ∀ j,j < N → P j) ∨ (f 0 = some (.rt false) ∧ ∃ j,j < N ∧ ¬ P j):=by
 have go:∀ n k,n + k = N → (f k = some (.ex ()) ∧ ∀ j,k ≤ j → j < N → P j) ∨ (f k = some (.rt false) ∧ ∃ j,j < N ∧ ¬ P j):=by
  intro n
  induction n with
  | zero =>
   intro k h
   obtain rfl:k = N:=by omega
   exact .inl ⟨he,fun j h1 h2 => by omega⟩
  | succ n ih =>
   intro k h
   by_cases p:P k
   · rw [hs k (by omega) p]
     rcases ih (k + 1) (by omega) with ⟨h1,h2⟩ | h1
     · refine .inl ⟨h1,fun j h3 h4 => ?_⟩
       by_cases e:j = k
       · rw [e]; exact p
       · exact h2 j (by omega) h4
     · exact .inr h1
   · exact .inr ⟨hb k (by omega) p,k,by omega,p⟩
 rcases go N 0 rfl with ⟨h1,h2⟩ | h
 · exact .inl ⟨h1,fun j h => h2 j (Nat.zero_le _) h⟩
 · exact .inr h
open Go Go.RowKit Sh Ic
inductive Rch (E:Int → Int → Prop):Int → Int → Prop
 | one {x y:Int}:E x y → Rch E x y
 | snoc {x y z:Int}:Rch E x y → E y z → Rch E x z
theorem Rch.trans {E:Int → Int → Prop} {x y z:Int} (h:Rch E x y) (k:Rch E y z):Rch E x z:=by
 induction k with
 | one e => exact .snoc h e
 | snoc _ e ih => exact .snoc ih e
theorem Rch.mono {E F:Int → Int → Prop} (hf:∀ x y,E x y → F x y) {x y:Int} (h:Rch E x y):Rch F x y:=by
 induction h with
 | one e => exact .one (hf _ _ e)
 | snoc _ e ih => exact .snoc ih (hf _ _ e)
theorem Rch.cons {E:Int → Int → Prop} {x y z:Int} (e:E x y) (h:Rch E y z):Rch E x z:=Rch.trans (.one e) h
theorem Rch.rev {E F:Int → Int → Prop} (hf:∀ x y,E x y → F y x) {x y:Int} (h:Rch E x y):Rch F y x:=by
 induction h with
 | one e => exact .one (hf _ _ e)
 | snoc _ e ih => exact Rch.cons (hf _ _ e) ih
abbrev Sn (ra:List Bool) (y:Int):Prop:=ixL ra y = some true
theorem zb3v {α:Type} {l:List α} {i:Int} {x:α}:ixL l i = some x ↔ 0 ≤ i ∧ l[i.toNat]? = some x:=by
 unfold ixL
 by_cases h:0 ≤ i
 · rw [if_pos h]; exact ⟨fun e => ⟨h,e⟩,fun e => e.2⟩
 · rw [if_neg h]; exact ⟨fun e => (by cases e),fun e => absurd e.1 h⟩
theorem zb56 {α:Type} {l:List α} {i:Int} (h0:0 ≤ i) (h1:i < (l.length:Int)):∃ x,ixL l i = some x:=by
 obtain ⟨x,hx⟩:∃ x,l[i.toNat]? = some x:=⟨_,List.getElem?_eq_getElem (by omega)⟩
 exact ⟨x,zb3v.2 ⟨h0,hx⟩⟩
theorem zcch {l:List Bool} {i z:Int} (h0:0 ≤ i) (h1:i < (l.length:Int)):Sn (l.set i.toNat true) z ↔ z = i ∨ Sn l z:=by
 unfold Sn
 rw [zb3v,zb3v]
 by_cases e:z = i
 · subst e
   rw [List.getElem?_set_self (by omega)]
   exact ⟨fun _ => .inl rfl,fun _ => ⟨h0,rfl⟩⟩
 · constructor
   · rintro ⟨a,b⟩
     rw [List.getElem?_set_ne (by omega)] at b
     exact .inr ⟨a,b⟩
   · rintro (rfl | ⟨a,b⟩)
     · exact absurd rfl e
     · exact ⟨a,by rw [List.getElem?_set_ne (by omega)]; exact b⟩
def un:List Bool → Nat
 | [] => 0
 | true :: r => un r
 | false :: r => un r + 1
theorem zb0q:∀ (l:List Bool) (i:Nat),l[i]? = some false → un (l.set i true) + 1 = un l
 | [],_,h => by cases h
 | b :: r,0,h => by
  have:b = false:=by simpa using h
  subst this; rfl
 | b :: r,i + 1,h => by
  have:=zb0q r i (by simpa using h)
  cases b
  · show un (r.set i true) + 1 + 1 = un r + 1
    omega
  · exact this
def eh (back:Bool) (A:List ac) (P:Int → Bool) (x y:Int):Prop:=∃ a ∈ A,reX back a = x ∧ reY back a = y ∧ P y = true
structure InR (np:Nat) (back:Bool) (A:List ac):Prop where
 y:∀ a ∈ A,0 ≤ reY back a ∧ reY back a < (np:Int)
section
variable (np:Nat) (back:Bool) (v:Int) (p:Int → Option Bool) (P:Int → Bool) (hp:∀ y,0 ≤ y → y < (np:Int) → p y = some (P y))
include hp
theorem zchv:∀ (A:List ac) (ra:List Bool) (todo:List Int),InR np back A → ra.length = np → todo.length + A.length < 1000000 →
 ∃ seen' todo',reA back v p A ra todo = some (seen',todo') ∧ seen'.length = np ∧ todo'.length + un seen' = todo.length + un ra ∧ todo'.length ≤ todo.length + A.length ∧ (∀ y,Sn ra y → Sn seen' y) ∧ (∀ t ∈ todo,t ∈ todo') ∧
  (∀ y,Sn seen' y → Sn ra y ∨ (y ∈ todo' ∧ eh back A P v y)) ∧ (∀ t ∈ todo',t ∈ todo ∨ (Sn seen' t ∧ eh back A P v t)) ∧ (∀ y,eh back A P v y → Sn seen' y)
 | [],ra,todo,_,hl,_ => ⟨ra,todo,rfl,hl,rfl,Nat.le_refl _,fun _ h => h,fun _ h => h,fun _ h => .inl h,fun _ h => .inl h,fun y ⟨a,ha,_⟩ => by cases ha⟩
 | a :: A,ra,todo,hI,hl,hb => by
  have hy:=hI.y a (.head _)
  have hI':InR np back A:=⟨fun b hb => hI.y b (.tail _ hb)⟩
  have lift:∀ {y},eh back A P v y → eh back (a :: A) P v y:=fun ⟨b,hb,h⟩ => ⟨b,.tail _ hb,h⟩
  rw [List.length_cons] at hb
  -- what the rest does,when nothing comes of this arc
  have skip:(¬ (reX back a = v ∧ P (reY back a) = true) ∨ Sn ra (reY back a)) → ∃ seen' todo',reA back v p A ra todo = some (seen',todo') ∧ seen'.length = np ∧ todo'.length + un seen' = todo.length + un ra ∧ todo'.length ≤ todo.length + (A.length + 1) ∧ (∀ y,Sn ra y → Sn seen' y) ∧ (∀ t ∈ todo,t ∈ todo') ∧
   (∀ y,Sn seen' y → Sn ra y ∨ (y ∈ todo' ∧ eh back (a :: A) P v y)) ∧ (∀ t ∈ todo',t ∈ todo ∨ (Sn seen' t ∧ eh back (a :: A) P v t)) ∧ (∀ y,eh back (a :: A) P v y → Sn seen' y):=by
   intro hno
   obtain ⟨s',t',h1,h2,h3,h3b,h4,h5,h6,h7,h8⟩:=zchv A ra todo hI' hl (by omega)
   refine ⟨s',t',h1,h2,h3,by omega,h4,h5,fun y h => (h6 y h).imp id fun q => ⟨q.1,lift q.2⟩,fun t h => (h7 t h).imp id fun q => ⟨q.1,lift q.2⟩,?_⟩
   rintro y ⟨b,hb,e1,e2,e3⟩
   rcases List.mem_cons.1 hb with rfl | hb
   · subst e2
     rcases hno with hno | hno
     · exact absurd ⟨e1,e3⟩ hno
     · exact h4 _ hno
   · exact h8 y ⟨b,hb,e1,e2,e3⟩
  rw [reA,List.length_cons]
  by_cases c:reX back a = v
  · rw [if_pos c]
    obtain ⟨q,hq⟩:=zb56 (l:=ra) hy.1 (by rw [hl]; exact hy.2)
    rw [hq,obz]
    cases q with
    | true => rw [if_pos rfl]; exact skip (.inr hq)
    | false =>
     rw [if_neg (by decide),hp _ hy.1 hy.2,obz]
     cases hP:P (reY back a) with
     | false => rw [if_neg (by decide)]; exact skip (.inl fun h => by rw [hP] at h; cases h.2)
     | true =>
      rw [if_pos rfl,if_pos (by omega)]
      have hu:=zb0q ra (reY back a).toNat (zb3v.1 hq).2
      have hset:∀ z,Sn (ra.set (reY back a).toNat true) z ↔ z = reY back a ∨ Sn ra z:=fun z => zcch hy.1 (by rw [hl]; exact hy.2)
      obtain ⟨s',t',h1,h2,h3,h3b,h4,h5,h6,h7,h8⟩:=zchv A (ra.set (reY back a).toNat true) (todo ++ [reY back a]) hI' (by rw [List.length_set]; exact hl) (by rw [List.length_append,List.length_singleton]; omega)
      rw [List.length_append,List.length_singleton] at h3 h3b
      have ed:eh back (a :: A) P v (reY back a):=⟨a,.head _,c,rfl,hP⟩
      have iny:reY back a ∈ t':=h5 _ (by simp)
      have sny:Sn s' (reY back a):=h4 _ ((hset _).2 (.inl rfl))
      refine ⟨s',t',h1,h2,by omega,by omega,fun y h => h4 _ ((hset y).2 (.inr h)),fun t h => h5 _ (List.mem_append_left _ h),fun y h => ?_,fun t h => ?_,?_⟩
      · rcases h6 y h with h | ⟨h,e⟩
        · rcases (hset y).1 h with rfl | h
          · exact .inr ⟨iny,ed⟩
          · exact .inl h
        · exact .inr ⟨h,lift e⟩
      · rcases h7 t h with h | ⟨h,e⟩
        · rcases List.mem_append.1 h with h | h
          · exact .inl h
          · have:t = reY back a:=by simpa using h
            subst this
            exact .inr ⟨sny,ed⟩
        · exact .inr ⟨h,lift e⟩
      · rintro y ⟨b,hb,e1,e2,e3⟩
        rcases List.mem_cons.1 hb with rfl | hb
        · subst e2; exact sny
        · exact h8 y ⟨b,hb,e1,e2,e3⟩
  · rw [if_neg c]; exact skip (.inl fun h => c h.1)
structure zcny (A:List ac) (o:Int) (ra:List Bool) (todo:List Int):Prop where
 l:ra.length = np
 s:∀ y,Sn ra y → Rch (eh back A P) o y
 t:∀ t ∈ todo,t = o ∨ Rch (eh back A P) o t
 c:∀ x,(x = o ∨ Sn ra x) → x ∈ todo ∨ ∀ y,eh back A P x y → Sn ra y
omit hp in
theorem zcq1 {l:List Int} {v:Int} (h:l[l.length - 1]? = some v) {t:Int} (ht:t ∈ l):t = v ∨ t ∈ l.take (l.length - 1):=by
 have hlt:l.length - 1 < l.length:=(List.getElem?_eq_some_iff.1 h).1
 have e:l = l.take (l.length - 1) ++ [v]:=by
  have:=List.take_append_drop (l.length - 1) l
  rw [List.drop_eq_getElem_cons hlt,List.drop_of_length_le (by omega)] at this
  rw [(List.getElem?_eq_some_iff.1 h).2] at this
  exact this.symm
 rw [e] at ht
 rcases List.mem_append.1 ht with ht | ht
 · exact .inr ht
 · exact .inl (by simpa using ht)
theorem zbs5 (A:List ac) (o:Int) (ra:List Bool) (hI:zcny np back P A o ra []):∃ r,oq (reS back p A) (ra,[]) = some r ∧ r.length = np ∧ ∀ y,Sn r y ↔ Rch (eh back A P) o y:=by
 refine ⟨ra,?_,hI.l,fun y => ⟨hI.s y,fun h => ?_⟩⟩
 · rw [ew]; unfold reS; rw [if_neg (by simp),obz,LS.go]
 · have cl:∀ x,(x = o ∨ Sn ra x) → ∀ y,eh back A P x y → Sn ra y:=fun x hx => (hI.c x hx).resolve_left (by simp)
   induction h with
   | one e => exact cl _ (.inl rfl) _ e
   | snoc _ e ih => exact cl _ (.inr ih) _ e
theorem zcbt (A:List ac) (o:Int) (hA:InR np back A) (hAl:A.length < 100000) (hnp:np < 1000) (n:Nat):∀ (ra:List Bool) (todo:List Int),todo.length + un ra ≤ n → n < 500000 → zcny np back P A o ra todo →
 ∃ r,oq (reS back p A) (ra,todo) = some r ∧ r.length = np ∧ ∀ y,Sn r y ↔ Rch (eh back A P) o y:=by
 induction n with
 | zero =>
  intro ra todo hm _ hI
  have ht:todo = []:=List.eq_nil_of_length_eq_zero (by omega)
  subst ht
  exact zbs5 np back p P hp A o ra hI
 | succ n ih =>
  intro ra todo hm hn hI
  by_cases c:0 < todo.length
  · obtain ⟨v,hv⟩:∃ v,todo[todo.length - 1]? = some v:=⟨_,List.getElem?_eq_getElem (by omega)⟩
    have hv':ixL todo ((todo.length - 1:Nat):Int) = some v:=zb3v.2 ⟨by omega,by rw [Int.toNat_natCast]; exact hv⟩
    have lt:(todo.take (todo.length - 1)).length = todo.length - 1:=by rw [List.length_take]; omega
    obtain ⟨s',t',h1,h2,h3,h3b,h4,h5,h6,h7,h8⟩:=zchv np back v p P hp A ra (todo.take (todo.length - 1)) hA hI.l (by rw [lt]; omega)
    have vr:v = o ∨ Rch (eh back A P) o v:=hI.t v (List.mem_of_getElem? hv)
    have sv:∀ y,eh back A P v y → Rch (eh back A P) o y:=fun y e => by
     rcases vr with rfl | r
     · exact .one e
     · exact .snoc r e
    have inv:zcny np back P A o s' t':=by
     refine ⟨h2,fun y h => ?_,fun t h => ?_,fun x hx => ?_⟩
     · rcases h6 y h with h | ⟨_,e⟩
       · exact hI.s y h
       · exact sv y e
     · rcases h7 t h with h | ⟨_,e⟩
       · exact hI.t t (List.mem_of_mem_take h)
       · exact .inr (sv t e)
     · by_cases ex:x = v
       · subst ex; exact .inr h8
       · have hx':x = o ∨ Sn ra x ∨ x ∈ t':=by
          rcases hx with h | h
          · exact .inl h
          · rcases h6 x h with h | ⟨h,_⟩
            · exact .inr (.inl h)
            · exact .inr (.inr h)
         rcases hx' with h | h | h
         · rcases hI.c x (.inl h) with q | q
           · rcases zcq1 hv q with q | q
             · exact absurd q ex
             · exact .inl (h5 _ q)
           · exact .inr fun y e => h4 _ (q y e)
         · rcases hI.c x (.inr h) with q | q
           · rcases zcq1 hv q with q | q
             · exact absurd q ex
             · exact .inl (h5 _ q)
           · exact .inr fun y e => h4 _ (q y e)
         · exact .inl h
    rw [lt] at h3
    obtain ⟨r,e1,e2,e3⟩:=ih s' t' (by omega) (by omega) inv
    refine ⟨r,?_,e2,e3⟩
    rw [ew]
    unfold reS
    simp only
    rw [if_pos c,if_pos (by omega),hv',obz,h1,obz,obz,LS.go]
    exact e1
  · have ht:todo = []:=List.eq_nil_of_length_eq_zero (by omega)
    subst ht
    exact zbs5 np back p P hp A o ra hI
end
theorem zb4y:∀ l:List Bool,un l ≤ l.length
 | [] => Nat.le_refl _
 | true :: r => by have:=zb4y r; show un r ≤ _; rw [List.length_cons]; omega
 | false :: r => by have:=zb4y r; show un r + 1 ≤ _; rw [List.length_cons]; omega
theorem zb1m (n:Nat) (y:Int):¬ Sn (List.replicate n false) y:=by
 unfold Sn
 rw [zb3v]
 rintro ⟨_,h⟩
 rw [List.getElem?_replicate] at h
 split at h <;> simp at h
theorem zcf8 (s:af) (o:Int) (back:Bool) (p:Int → Option Bool) (P:Int → Bool) (hp:∀ y,0 ≤ y → y < (s.Parties.length:Int) → p y = some (P y)) (hA:InR s.Parties.length back s.Arcs) (hAl:s.Arcs.length < 100000) (hnp:s.Parties.length < 1000) :
 ∃ r,reF s o back p = some r ∧ r.length = s.Parties.length ∧ ∀ y,Sn r y ↔ Rch (eh back s.Arcs P) o y:=by
 obtain ⟨r,h1,h2,h3⟩:=zcbt s.Parties.length back p P hp s.Arcs o hA hAl hnp (1 + un (List.replicate s.Parties.length false)) (List.replicate s.Parties.length false) [o] (Nat.le_refl _)
  (by have:=zb4y (List.replicate s.Parties.length false); rw [List.length_replicate] at this; omega)
  ⟨List.length_replicate,fun y h => absurd h (zb1m _ _),fun t h => .inl (by simpa using h),fun x hx => hx.elim (fun h => .inl (by simp [h])) fun h => absurd h (zb1m _ _)⟩
 refine ⟨r,?_,h2,h3⟩
 unfold reF
 rw [if_pos ⟨by omega,by omega⟩]
 exact h1
end Go.Proofs.Ytjgpklmkdkkooaa
namespace Go.Proofs.Ytjgpklmkdkkooaa
open Go Go.RowKit Sh Ic
theorem zdlo (l:List Bool) (hl:l.length < 1000000) (n:Nat):∀ i:Nat,n + i = l.length → ∃ r,gg l false (l.length:Nat) (i:Int) = some r ∧
 ((∃ v,r = .rt v ∧ 0 ≤ v ∧ (l.drop i).contains false = true) ∨ (r = .ex () ∧ (l.drop i).contains false = false)):=by
 induction n with
 | zero =>
  intro i h
  refine ⟨.ex (),?_,.inr ⟨rfl,?_⟩⟩
  · rw [uh,b9,if_neg (by omega),obz,LS.go]
  · rw [List.drop_of_length_le (by omega)]; rfl
 | succ n ih =>
  intro i h
  have hi:i < l.length:=by omega
  rw [uh,b9,if_pos (by omega),zbmk hi,obz,List.drop_eq_getElem_cons hi,List.contains_cons]
  by_cases p:(false == l[i]) = true
  · rw [if_pos p,obz,LS.go]
    exact ⟨_,rfl,.inl ⟨_,rfl,by omega,by rw [p]; rfl⟩⟩
  · have p':=Bool.eq_false_iff.2 p
    rw [if_neg p,obz,LS.go,j4 i (by omega),p',Bool.false_or]
    exact ih (i + 1) (by omega)
theorem zccu (l:List Bool) (hl:l.length < 1000000):ej l false = some (l.contains false):=by
 obtain ⟨r,h,q⟩:=zdlo l hl l.length 0 rfl
 rw [List.drop_zero] at q
 have h:gg l false (l.length:Nat) 0 = some r:=h
 unfold ej kl
 rw [h,obz]
 rcases q with ⟨v,rfl,h0,q⟩ | ⟨rfl,q⟩
 · show some (decide (0 ≤ v)) = _
   rw [q,decide_eq_true h0]
 · show some (decide ((0:Int) ≤ -1)) = _
   rw [q]; rfl
theorem zdlm (l:List Int) (x:Int) (hl:l.length < 1000000) (n:Nat):∀ i:Nat,n + i = l.length → ∃ r,gw l x (l.length:Nat) (i:Int) = some r ∧
 ((∃ v,r = .rt v ∧ 0 ≤ v ∧ (l.drop i).contains x = true) ∨ (r = .ex () ∧ (l.drop i).contains x = false)):=by
 induction n with
 | zero =>
  intro i h
  refine ⟨.ex (),?_,.inr ⟨rfl,?_⟩⟩
  · rw [vx,ch,if_neg (by omega),obz,LS.go]
  · rw [List.drop_of_length_le (by omega)]; rfl
 | succ n ih =>
  intro i h
  have hi:i < l.length:=by omega
  rw [vx,ch,if_pos (by omega),zbmk hi,obz,List.drop_eq_getElem_cons hi,List.contains_cons]
  by_cases p:x = l[i]
  · rw [if_pos p,obz,LS.go]
    exact ⟨_,rfl,.inl ⟨_,rfl,by omega,by rw [beq_iff_eq.2 p]; rfl⟩⟩
  · rw [if_neg p,obz,LS.go,j4 i (by omega),beq_eq_false_iff_ne.2 p,Bool.false_or]
    exact ih (i + 1) (by omega)
theorem zb6t (l:List Int) (x:Int) (hl:l.length < 1000000):fq l x = some (l.contains x):=by
 obtain ⟨r,h,q⟩:=zdlm l x hl l.length 0 rfl
 rw [List.drop_zero] at q
 have h:gw l x (l.length:Nat) 0 = some r:=h
 unfold fq mj
 rw [h,obz]
 rcases q with ⟨v,rfl,h0,q⟩ | ⟨rfl,q⟩
 · show some (decide (0 ≤ v)) = _
   rw [q,decide_eq_true h0]
 · show some (decide ((0:Int) ≤ -1)) = _
   rw [q]; rfl
def zb80 (A:List ac) (x y:Int):Bool:=A.any fun a => decide (a.From = x) && decide (a.To = y)
theorem zdlj (a:ac) (l:List Int) (i:Nat) (hi:i < l.length) (h1:l.length < 1000000) (y:Int):vm a l ((i + 1:Nat):Int) y = some (decide (a.From = l[i]) && decide (a.To = y)):=by
 have w:IntKind.i64.wrap (((i + 1:Nat):Int) - 1) = (i:Int):=by rw [wA (by omega) (by omega)]; omega
 unfold vm
 rw [w,zbmk hi,obz]
 by_cases c:a.From = l[i]
 · rw [if_pos c,decide_eq_true c,Bool.true_and]
 · rw [if_neg c,decide_eq_false c,Bool.false_and]
theorem zdlp (A:List ac) (l:List Int) (j:Nat) (hj:j < l.length) (h1:l.length < 1000000) (y:Int) (hl:A.length < 1000000) (n:Nat):∀ i:Nat,n + i = A.length → ∃ r,cw A l ((j + 1:Nat):Int) y (A.length:Nat) (i:Int) = some r ∧
 ((∃ v,r = .rt v ∧ 0 ≤ v ∧ zb80 (A.drop i) l[j] y = true) ∨ (r = .ex () ∧ zb80 (A.drop i) l[j] y = false)):=by
 induction n with
 | zero =>
  intro i h
  refine ⟨.ex (),?_,.inr ⟨rfl,?_⟩⟩
  · rw [mw,az,if_neg (by omega),obz,LS.go]
  · rw [List.drop_of_length_le (by omega)]; rfl
 | succ n ih =>
  intro i h
  have hi:i < A.length:=by omega
  unfold zb80
  rw [mw,az,if_pos (by omega),zbmk hi,obz,zdlj _ l j hj h1,obz,zchn _ _ _ hi]
  by_cases p:(decide (A[i].From = l[j]) && decide (A[i].To = y)) = true
  · rw [if_pos p,obz,LS.go]
    exact ⟨_,rfl,.inl ⟨_,rfl,by omega,by rw [p]; rfl⟩⟩
  · have p':=Bool.eq_false_iff.2 p
    rw [if_neg p,obz,LS.go,j4 i (by omega),p',Bool.false_or]
    exact ih (i + 1) (by omega)
theorem zccv (A:List ac) (l:List Int) (j:Nat) (hj:j < l.length) (h1:l.length < 1000000) (y:Int) (hl:A.length < 1000000):cy A l ((j + 1:Nat):Int) y = some (zb80 A l[j] y):=by
 obtain ⟨r,h,q⟩:=zdlp A l j hj h1 y hl A.length 0 rfl
 rw [List.drop_zero] at q
 have h:cw A l ((j + 1:Nat):Int) y (A.length:Nat) 0 = some r:=h
 unfold cy ff
 rw [h,obz]
 rcases q with ⟨v,rfl,h0,q⟩ | ⟨rfl,q⟩
 · show some (decide (0 ≤ v)) = _
   rw [q,decide_eq_true h0]
 · show some (decide ((0:Int) ≤ -1)) = _
   rw [q]; rfl
abbrev T1:Int → Bool:=fun _ => true
theorem zbyu {n:Int} {a:ac} (h:zbqw n a = true):(0 ≤ a.From ∧ a.From < n) ∧ (0 ≤ a.To ∧ a.To < n):=by
 unfold zbqw at h
 simp only [Bool.and_eq_true,za91] at h
 omega
theorem inR {s:af} (h:Ok s) (back:Bool):InR s.Parties.length back s.Arcs:=⟨fun a ha => by
 have q:=zbyu (h.arcs a ha)
 cases back
 · exact q.2
 · exact q.1⟩
theorem zcgd {A:List ac} (x y:Int):eh true A T1 x y ↔ eh false A T1 y x :=
 ⟨fun ⟨a,h1,h2,h3,_⟩ => ⟨a,h1,h3,h2,rfl⟩,fun ⟨a,h1,h2,h3,_⟩ => ⟨a,h1,h3,h2,rfl⟩⟩
def Str (s:af):Prop:=∀ a b:Int,0 ≤ a ∧ a < s.Parties.length → 0 ≤ b ∧ b < s.Parties.length → a ≠ b → Rch (eh false s.Arcs T1) a b
def Hub (s:af):Prop:=(∀ y:Int,0 ≤ y ∧ y < s.Parties.length → Rch (eh false s.Arcs T1) 0 y) ∧ ∀ y:Int,0 ≤ y ∧ y < s.Parties.length → Rch (eh true s.Arcs T1) 0 y
theorem zcrw {s:af} (h:2 ≤ s.Parties.length):Str s ↔ Hub s:=by
 constructor
 · intro q
   have h0:Rch (eh false s.Arcs T1) 0 0:=(q 0 1 (by omega) (by omega) (by decide)).trans (q 1 0 (by omega) (by omega) (by decide))
   refine ⟨fun y hy => ?_,fun y hy => ?_⟩
   · by_cases c:y = 0
     · rw [c]; exact h0
     · exact q 0 y (by omega) hy (fun e => c e.symm)
   · refine Rch.rev (E:=eh false s.Arcs T1) (fun x y e => (zcgd _ _).2 e) ?_
     by_cases c:y = 0
     · rw [c]; exact h0
     · exact q y 0 hy (by omega) c
 · rintro ⟨q1,q2⟩ a b ha hb _
   exact (Rch.rev (fun x y e => (zcgd _ _).1 e) (q2 a ha)).trans (q1 b hb)
open Classical in
noncomputable def zb8w (s:af):Bool:=decide (Ok s ∧ Str s)
open Classical in
theorem zch5 {s:af}:zb8w s = true ↔ Ok s ∧ Str s:=by unfold zb8w; exact decide_eq_true_iff
theorem bo {b:Bool} {P:Prop} (h:b = true ↔ P) (c:Bool) (hc:c = true ↔ P):c = b:=by
 cases b <;> cases c <;> simp_all
theorem zbvo {r:List Bool}:r.contains false = false ↔ ∀ y:Int,0 ≤ y ∧ y < r.length → Sn r y:=by
 constructor
 · intro h y hy
   obtain ⟨b,hb⟩:=zb56 hy.1 hy.2
   cases b with
   | true => exact hb
   | false =>
    have:false ∈ r:=List.mem_of_getElem? (zb3v.1 hb).2
    rw [← List.contains_iff_mem] at this
    rw [h] at this; cases this
 · intro h
   cases c:r.contains false with
   | false => rfl
   | true =>
    have:=List.contains_iff_mem.1 c
    obtain ⟨j,hj,e⟩:=List.mem_iff_getElem.1 this
    have:=h (j:Int) (by omega)
    unfold Sn at this
    rw [zbmk hj,e] at this; cases this
theorem zbzr (s:af) (hw:Wf s):vl s = some (zb8w s):=by
 unfold vl
 rw [zcd5 s hw,obz]
 by_cases c:okS s = true
 · rw [if_pos c]
   have h:=zb8s.1 c
   have np:=h.np
   have na:=h.na
   obtain ⟨r1,e1,l1,q1⟩:=zcf8 s 0 false (fun v => vk v) T1 (fun _ _ _ => rfl) (inR h false) (by omega) (by omega)
   obtain ⟨r2,e2,l2,q2⟩:=zcf8 s 0 true (fun v => vk v) T1 (fun _ _ _ => rfl) (inR h true) (by omega) (by omega)
   have f1:yk s 0 false = some r1:=e1
   have f2:yk s 0 true = some r2:=e2
   have key:zb8w s = true ↔ r1.contains false = false ∧ r2.contains false = false:=by
    rw [zch5,zcrw np.1,zbvo,zbvo,l1,l2]
    unfold Hub
    exact ⟨fun ⟨_,a,b⟩ => ⟨fun y hy => (q1 y).2 (a y hy),fun y hy => (q2 y).2 (b y hy)⟩,fun ⟨a,b⟩ => ⟨h,fun y hy => (q1 y).1 (a y hy),fun y hy => (q2 y).1 (b y hy)⟩⟩
   rw [f1,obz,zccu r1 (by omega),obz]
   cases c1:r1.contains false with
   | true =>
    rw [if_pos rfl]
    congr 1
    exact bo key _ (by rw [c1]; simp)
   | false =>
    rw [if_neg (by decide),f2,obz,zccu r2 (by omega),obz]
    congr 1
    exact bo key _ (by rw [c1]; simp)
 · rw [if_neg c]
   congr 1
   exact bo (P:=False) (by rw [zch5]; exact ⟨fun h => c (zb8s.2 h.1),False.elim⟩) _ (by simp)
abbrev pl (s:af):Int → Bool:=fun y => !(s.Leaders.contains y)
def Fb (s:af) (v:Int):Prop:=v ∉ s.Leaders ∧ Rch (eh false s.Arcs (pl s)) v v
open Classical in
noncomputable def fbB (s:af):Bool:=decide (Ok s ∧ ∀ v:Nat,v < s.Parties.length → ¬ Fb s (v:Int))
open Classical in
theorem zcf1 {s:af}:fbB s = true ↔ Ok s ∧ ∀ v:Nat,v < s.Parties.length → ¬ Fb s (v:Int):=by unfold fbB; exact decide_eq_true_iff
theorem zcef (s:af) (hl:s.Leaders.length < 1000000) (v:Int):ib v s = some (pl s v):=by
 unfold ib
 rw [zb6t _ _ hl,obz]
theorem zbqm (s:af) (hw:Wf s):rc s = some (fbB s):=by
 unfold rc
 rw [zcd5 s hw,obz]
 by_cases c:okS s = true
 · rw [if_pos c]
   have h:=zb8s.1 c
   have np:=h.np
   have na:=h.na
   have nl:=h.nl
   have out:(eq s (s.Parties.length:Nat) 0 = some (.ex ()) ∧ ∀ v,v < s.Parties.length → ¬ Fb s ((v:Nat):Int)) ∨ (eq s (s.Parties.length:Nat) 0 = some (.rt false) ∧ ∃ v,v < s.Parties.length ∧ ¬ ¬ Fb s ((v:Nat):Int)):=by
    refine zcb9 (f:=fun k => eq s (s.Parties.length:Nat) (k:Int)) ?_ ?_ ?_
    · show eq s (s.Parties.length:Nat) ((s.Parties.length:Nat):Int) = _
      rw [vq,dw,if_neg (by omega),obz,LS.go]
    · intro k hk hp
      show eq s (s.Parties.length:Nat) (k:Int) = eq s (s.Parties.length:Nat) ((k + 1:Nat):Int)
      rw [vq,dw,if_pos (by omega),zcef s (by omega),obz]
      by_cases d:pl s (k:Int) = true
      · obtain ⟨r,e,l,q⟩:=zcf8 s (k:Int) false (fun v => ib v s) (pl s) (fun y _ _ => zcef s (by omega) y) (inR h false) (by omega) (by omega)
        have e:zcah s (k:Int) false s = some r:=e
        obtain ⟨b,hb⟩:=zb56 (l:=r) (i:=(k:Int)) (by omega) (by omega)
        have hd:(k:Int) ∉ s.Leaders:=by simpa using d
        rw [if_pos d,e,obz,hb,obz]
        cases b with
        | true => exact absurd ⟨hd,(q _).1 hb⟩ hp
        | false => rw [if_neg (by decide),obz,LS.go,j4 k (by omega)]
      · rw [if_neg d,obz,LS.go,j4 k (by omega)]
    · intro k hk hp
      have hp:Fb s (k:Int):=Classical.not_not.1 hp
      show eq s (s.Parties.length:Nat) (k:Int) = _
      have d:pl s (k:Int) = true:=by simpa using hp.1
      obtain ⟨r,e,l,q⟩:=zcf8 s (k:Int) false (fun v => ib v s) (pl s) (fun y _ _ => zcef s (by omega) y) (inR h false) (by omega) (by omega)
      have e:zcah s (k:Int) false s = some r:=e
      have hb:ixL r (k:Int) = some true:=(q _).2 hp.2
      rw [vq,dw,if_pos (by omega),zcef s (by omega),obz,if_pos d,e,obz,hb,obz,if_pos rfl,obz,LS.go]
   rcases out with ⟨e,q⟩ | ⟨e,a,ha,q⟩
   · rw [e,obz]
     show some true = _
     congr 1
     exact (zcf1.2 ⟨h,q⟩).symm
   · rw [e,obz]
     show some false = _
     congr 1
     exact bo (P:=False) ⟨fun t => q ((zcf1.1 t).2 a ha),False.elim⟩ _ (by simp)
 · rw [if_neg c]
   congr 1
   exact bo (P:=False) (by rw [zcf1]; exact ⟨fun h => c (zb8s.2 h.1),False.elim⟩) _ (by simp)
noncomputable def zcgp (s:af):Bool:=zb8w s && fbB s
theorem zcrf (s:af) (hw:Wf s):yl s = some (zcgp s):=by
 unfold yl zcgp
 rw [zbzr s hw,obz]
 cases zb8w s with
 | true => rw [if_pos rfl,zbqm s hw,obz,Bool.true_and]
 | false => rw [if_neg (by decide),Bool.false_and]
def zb3r (s:af) (l:List Int) (i:Nat):Bool :=
 (decide (0 ≤ l.getD i 0) && decide (l.getD i 0 < (s.Parties.length:Int))) && (!((l.take i).contains (l.getD i 0)) && (decide (i = 0) || zb80 s.Arcs (l.getD (i - 1) 0) (l.getD i 0)))
open Classical in
noncomputable def paB (s:af) (l:List Int):Bool:=decide (Ok s ∧ l ≠ [] ∧ ∀ i,i < l.length → zb3r s l i = true)
open Classical in
theorem zcaq {s:af} {l:List Int}:paB s l = true ↔ Ok s ∧ l ≠ [] ∧ ∀ i,i < l.length → zb3r s l i = true:=by unfold paB; exact decide_eq_true_iff
theorem zcd9 {l:List Int} {i:Nat} (h:i < l.length):l.getD i 0 = l[i]:=by simp [List.getD,h]
theorem zcdg (s:af) (hw:Wf s) (l:List Int) (hl:l.length < 1000):ui s l = some (paB s l):=by
 unfold ui
 rw [zcd5 s hw,obz]
 by_cases c:okS s = true
 · have h:=zb8s.1 c
   have np:=h.np
   have na:=h.na
   rw [if_pos c]
   by_cases c0:((l.length:Nat):Int) = 0
   · rw [if_pos c0]
     congr 1
     exact bo (P:=False) (by rw [zcaq]; exact ⟨fun q => q.2.1 (List.eq_nil_of_length_eq_zero (by omega)),False.elim⟩) _ (by simp)
   · rw [if_neg c0]
     have hn:¬ l = []:=fun e => c0 (by rw [e]; rfl)
     have out:(iu s l l (l.length:Nat) 0 = some (.ex ()) ∧ ∀ v,v < l.length → zb3r s l v = true) ∨ (iu s l l (l.length:Nat) 0 = some (.rt false) ∧ ∃ v,v < l.length ∧ ¬ zb3r s l v = true):=by
      refine zcb9 (f:=fun k => iu s l l (l.length:Nat) (k:Int)) ?_ ?_ ?_
      · show iu s l l (l.length:Nat) ((l.length:Nat):Int) = _
        rw [zclq,gf,if_neg (by omega),obz,LS.go]
      · intro k hk hp
        show iu s l l (l.length:Nat) (k:Int) = iu s l l (l.length:Nat) ((k + 1:Nat):Int)
        unfold zb3r at hp
        rw [zcd9 hk] at hp
        simp only [Bool.and_eq_true,Bool.or_eq_true,Bool.not_eq_true',decide_eq_true_iff] at hp
        obtain ⟨⟨p1,p2⟩,p3,p4⟩:=hp
        rw [zclq,gf,if_pos (by omega),zbmk hk,obz,if_neg (by omega),if_neg (by omega),if_pos hn,if_pos (by omega),Int.toNat_natCast,zb6t _ _ (by rw [List.length_take]; omega),obz,if_neg (by rw [p3]; decide)]
        by_cases z:k = 0
        · rw [if_neg (by omega),obz,LS.go,j4 k (by omega)]
        · obtain ⟨j,rfl⟩:∃ j,k = j + 1:=⟨k - 1,by omega⟩
          have p4:=p4.resolve_left z
          rw [Nat.add_sub_cancel,zcd9 (by omega)] at p4
          rw [if_pos (by omega),zccv _ l j (by omega) (by omega) _ (by omega),obz,if_pos p4,obz,LS.go,j4 (j + 1) (by omega)]
      · intro k hk hp
        show iu s l l (l.length:Nat) (k:Int) = _
        unfold zb3r at hp
        rw [zcd9 hk] at hp
        simp only [Bool.and_eq_true,Bool.or_eq_true,Bool.not_eq_true',decide_eq_true_iff] at hp
        rw [zclq,gf,if_pos (by omega),zbmk hk,obz]
        by_cases p1:l[k] < 0
        · rw [if_pos p1,obz,LS.go]
        rw [if_neg p1]
        by_cases p2:((s.Parties.length:Nat):Int) ≤ l[k]
        · rw [if_pos p2,obz,LS.go]
        rw [if_neg p2,if_pos hn,if_pos (by omega),Int.toNat_natCast,zb6t _ _ (by rw [List.length_take]; omega),obz]
        by_cases p3:(l.take k).contains l[k] = true
        · rw [if_pos p3,obz,LS.go]
        rw [if_neg p3]
        have p3:=Bool.eq_false_iff.2 p3
        by_cases z:k = 0
        · exact absurd ⟨⟨by omega,by omega⟩,p3,.inl z⟩ hp
        · obtain ⟨j,rfl⟩:∃ j,k = j + 1:=⟨k - 1,by omega⟩
          have p4:¬ zb80 s.Arcs l[j] l[j + 1] = true:=fun q => hp ⟨⟨by omega,by omega⟩,p3,.inr (by rw [Nat.add_sub_cancel,zcd9 (by omega)]; exact q)⟩
          rw [if_pos (by omega),zccv _ l j (by omega) (by omega) _ (by omega),obz,if_neg p4,obz,LS.go]
     rcases out with ⟨e,q⟩ | ⟨e,a,ha,q⟩
     · rw [e,obz]
       show some true = _
       congr 1
       exact (zcaq.2 ⟨h,hn,q⟩).symm
     · rw [e,obz]
       show some false = _
       congr 1
       exact bo (P:=False) ⟨fun t => q ((zcaq.1 t).2.2 a ha),False.elim⟩ _ (by simp)
 · rw [if_neg c]
   congr 1
   exact bo (P:=False) (by rw [zcaq]; exact ⟨fun h => c (zb8s.2 h.1),False.elim⟩) _ (by simp)
open Go Go.RowKit Sh Ic
def zbp6 (k:Nat):ByteArray:=(⟨#[48,49,50,51,52,53,54,55,56,57]⟩:ByteArray).extract k (k + 1)
def zbem (k:Nat):ByteArray:=(⟨#[112,97,114,116,121]⟩:ByteArray) ++ zbp6 k
def j3 (k:Nat):ByteArray:=(⟨#[115,101,99,114,101,116]⟩:ByteArray) ++ zbp6 k
def gv (k:Nat):ByteArray:=(⟨#[115,101,101,100]⟩:ByteArray) ++ zbp6 k
theorem zb75 (k:Nat) (h:k < 10):(zbp6 k).size = 1:=by
 unfold zbp6
 rw [ByteArray.size_extract]
 show min (k + 1) 10 - k = 1
 omega
theorem zchm (k:Nat) (h:k < 10):zb8j (k:Int) = some (zbp6 k):=by
 unfold zb8j
 rw [if_pos ⟨by omega,by omega⟩,Int.toNat_natCast]; rfl
theorem zbwp (k:Nat) (h:k < 10):(zbem k).size = 6:=by unfold zbem; rw [ByteArray.size_append,zb75 k h]; rfl
theorem zb8e (k:Nat) (h:k < 10):(j3 k).size = 7:=by unfold j3; rw [ByteArray.size_append,zb75 k h]; rfl
theorem zcw0 (k:Nat) (h:k < 10):(gv k).size = 5:=by unfold gv; rw [ByteArray.size_append,zb75 k h]; rfl
theorem zbwq (k:Nat) (h:k < 10):r9 (k:Int) = some (zbem k):=by
 unfold r9
 rw [zchm k h,obz,if_pos (by rw [zb75 k h]; decide)]; rfl
theorem zcqo (k:Nat) (h:k < 10):pj (k:Int) = some (j3 k):=by
 unfold pj
 rw [zchm k h,obz,if_pos (by rw [zb75 k h]; decide)]; rfl
theorem zb1p (k:Nat) (h:k < 10):rh (k:Int) = some (gv k):=by
 unfold rh
 rw [zchm k h,obz,if_pos (by rw [zb75 k h]; decide)]; rfl
def zb3m (k:Nat):ByteArray:=SHA (j3 k)
def zby5 (i k:Nat):ByteArray:=PUB (gv i) (k:Int)
theorem zbzt (s:ByteArray) (k:Int):(PUB s k).size = 16:=by unfold PUB; exact xo _
theorem zb51 (k:Nat) (h:k < 10):zbpp (k:Int) = some (zb3m k):=by
 unfold zbpp
 rw [zcqo k h,obz,zb1k _ (by rw [zb8e k h]; decide)]; rfl
theorem zccf (i k:Nat) (hi:i < 10) (hk:k < 10):zccg (i:Int) (k:Int) = some (zby5 i k):=by
 unfold zccg
 rw [zb1p i hi,obz,zcby _ (by rw [zcw0 i hi]; decide),if_pos (by unfold isK; omega)]; rfl
def upL (g:Nat → ByteArray):Nat → Nat → List ByteArray
 | 0,_ => []
 | n + 1,k => g k :: upL g n (k + 1)
theorem zb4x (g:Nat → ByteArray) (n:Nat):∀ k,(upL g n k).length = n:=by
 induction n with
 | zero => intro k; rfl
 | succ n ih => intro k; rw [upL,List.length_cons,ih]
theorem zb4w {g:Nat → ByteArray} {n:Nat}:∀ {k:Nat} {x:ByteArray},x ∈ upL g n k → ∃ j,k ≤ j ∧ j < k + n ∧ x = g j:=by
 induction n with
 | zero => intro k x h; cases h
 | succ n ih =>
  intro k x h
  rw [upL,List.mem_cons] at h
  rcases h with rfl | h
  · exact ⟨k,Nat.le_refl _,by omega,rfl⟩
  · obtain ⟨j,h1,h2,h3⟩:=ih h
    exact ⟨j,by omega,by omega,h3⟩
theorem zcg8 {f:Int → Option ByteArray} {g:Nat → ByteArray} (hf:∀ k:Nat,k < 10 → f (k:Int) = some (g k)) (n:Nat):∀ (k:Nat) (l:List ByteArray),n + k ≤ 10 → za2e f n k l = some (l ++ upL g n k):=by
 induction n with
 | zero => intro k l h; rw [za2e,upL,List.append_nil]
 | succ n ih => intro k l h; rw [za2e,hf k (by omega),obz,ih (k + 1) _ (by omega),upL,List.append_assoc]; rfl
def za5e (L:Nat):Nat → Nat → List aj
 | 0,_ => []
 | n + 1,k => ⟨zbem k,upL (zby5 k) L 0⟩ :: za5e L n (k + 1)
theorem zc5d (L n:Nat):∀ k,(za5e L n k).length = n:=by
 induction n with
 | zero => intro k; rfl
 | succ n ih => intro k; rw [za5e,List.length_cons,ih]
theorem zb5h (L:Nat) (hL:L ≤ 10) (n:Nat):∀ (k:Nat) (d:List aj),n + k ≤ 10 → zbzx L (bare (upL zbem n k)) k d = some (d ++ za5e L n k):=by
 induction n with
 | zero => intro k d h; show some d = some (d ++ []); rw [List.append_nil]
 | succ n ih =>
  intro k d h
  show (za2e (zccg (k:Int)) L 0 [] >>= fun ks => zbzx L (bare (upL zbem n (k + 1))) (k + 1) (d ++ [⟨zbem k,ks⟩])) = _
  rw [zcg8 (g:=zby5 k) (fun j hj => zccf k j (by omega) hj) L 0 [] (by omega),obz,ih (k + 1) _ (by omega),List.append_assoc]
  rfl
def pu (n:Nat) (start delta:Int):af:=⟨⟨#[114,105,110,103]⟩,za5e 1 n 0,zac7 n 0 2,[0],[zb3m 0],start,delta⟩
theorem zcbq (n:Nat) (start delta:Int) (h1:1 ≤ n) (h6:n ≤ 6):zb8d (n:Int) start delta = some (pu n start delta):=by
 unfold zb8d
 have e1:zb9r (n:Int) 0 2 = some (zac7 n 0 2):=if_pos ⟨⟨by omega,by omega⟩,by decide,by decide⟩
 rw [if_pos ⟨by omega,by omega⟩,e1,obz,Int.toNat_natCast,zcg8 zbwq n 0 [] (by omega),obz,zcg8 zb51 1 0 [] (by omega),obz,List.nil_append,zb5h 1 (by omega) n 0 [] (by omega),obz]
 rfl
theorem zb5g (L:Nat) (n:Nat):∀ k,n + k ≤ 10 → ∀ p ∈ za5e L n k,zb3i (L:Int) p = true:=by
 induction n with
 | zero => intro k h p hp; cases hp
 | succ n ih =>
  intro k h p hp
  rw [za5e,List.mem_cons] at hp
  rcases hp with rfl | hp
  · unfold zb3i
    rw [Bool.and_eq_true,zct8,zcmd]
    refine ⟨by show 1 ≤ (zbem k).size ∧ (zbem k).size ≤ 16; rw [zbwp k (by omega)]; decide,by show ((upL (zby5 k) L 0).length:Int) = _; rw [zb4x],fun x hx => ?_⟩
    obtain ⟨j,_,_,rfl⟩:=zb4w hx
    show ((PUB _ _).size:Int) = 16
    rw [zbzt]; rfl
  · exact ih (k + 1) (by omega) p hp
theorem zbss (L n:Nat):∀ k,(za5e L n k).map aj.Account = upL zbem n k:=by
 induction n with
 | zero => intro k; rfl
 | succ n ih => intro k; rw [za5e,List.map_cons,ih,upL]
theorem zbzq:(upL zbem 6 0).Nodup:=by decide +kernel
theorem zbyb (g:Nat → ByteArray) (n m:Nat):∀ k,upL g n k = (upL g (n + m) k).take n:=by
 induction n with
 | zero => intro k; rfl
 | succ n ih => intro k; rw [Nat.succ_add,upL,upL,List.take_succ_cons,← ih]
theorem zdcc (n:Nat) (h:n ≤ 6):(upL zbem n 0).Nodup:=by
 have e:=zbyb zbem n (6 - n) 0
 rw [show n + (6 - n) = 6 by omega] at e
 rw [e]
 exact zbzq.sublist (List.take_sublist _ _)
def zb31 (n:Nat) (l:List ac):Bool:=l.all (zbqw (n:Int)) && decide ((l.map fun a => (a.From,a.To)).Nodup) && decide (1 ≤ l.length) && decide (l.length ≤ 12)
theorem zbsv:(zb31 2 (zac7 2 0 2) && zb31 3 (zac7 3 0 2) && zb31 4 (zac7 4 0 2) && zb31 5 (zac7 5 0 2) && zb31 6 (zac7 6 0 2)) = true:=by decide +kernel
theorem zbsu (n:Nat) (h2:2 ≤ n) (h6:n ≤ 6):zb31 n (zac7 n 0 2) = true:=by
 have h:=zbsv
 simp only [Bool.and_eq_true] at h
 obtain ⟨⟨⟨⟨a,b⟩,c⟩,d⟩,e⟩:=h
 have:n = 2 ∨ n = 3 ∨ n = 4 ∨ n = 5 ∨ n = 6:=by omega
 rcases this with rfl | rfl | rfl | rfl | rfl <;> assumption
theorem zdgc (n:Nat) (start delta:Int) (h2:2 ≤ n) (h6:n ≤ 6) (hs:0 ≤ start ∧ start ≤ 1099511627776) (hd:1 ≤ delta ∧ delta ≤ 1048576):Ok (pu n start delta):=by
 have g:=zbsu n h2 h6
 unfold zb31 at g
 simp only [Bool.and_eq_true,decide_eq_true_iff,List.all_eq_true] at g
 obtain ⟨⟨⟨g1,g2⟩,g3⟩,g4⟩:=g
 have ln:(za5e 1 n 0).length = n:=zc5d 1 n 0
 refine ⟨by show zbq4 ⟨#[114,105,110,103]⟩ = true; decide +kernel,?_,by show 1 ≤ 1 ∧ 1 ≤ 3; decide,⟨g3,g4⟩,⟨rfl,fun x hx => ?_⟩,hs,hd,zb5g 1 n 0 (by omega),?_,?_,g2,by show [(0:Int)].Nodup; decide,fun v hv => ?_⟩
 · show 2 ≤ (za5e 1 n 0).length ∧ (za5e 1 n 0).length ≤ 6
   omega
 · have:x = zb3m 0:=by simpa [pu] using hx
   rw [this]; exact zb7j _
 · show ∀ a ∈ zac7 n 0 2,zbqw ((za5e 1 n 0).length:Nat) a = true
   rw [ln]; exact g1
 · show ((za5e 1 n 0).map aj.Account).Nodup
   rw [zbss]; exact zdcc n h6
 · have:v = 0:=by simpa [pu] using hv
   rw [this]
   show (0:Int) ≤ 0 ∧ (0:Int) < ((za5e 1 n 0).length:Nat)
   omega
open Go Go.RowKit Sh Ic
def prs (A:List ac):List (Int × Int):=A.map fun a => (a.From,a.To)
theorem zcl6 {A:List ac} {P:Int → Bool} {x y:Int}:eh false A P x y ↔ (x,y) ∈ prs A ∧ P y = true:=by
 unfold prs
 rw [List.mem_map]
 constructor
 · rintro ⟨a,h1,h2,h3,h4⟩
   have h2:a.From = x:=h2
   have h3:a.To = y:=h3
   exact ⟨⟨a,h1,by rw [h2,h3]⟩,h4⟩
 · rintro ⟨⟨a,h1,h2⟩,h4⟩
   injection h2 with h2 h3
   exact ⟨a,h1,h2,h3,h4⟩
theorem zcbv {E:Int → Int → Prop} (h:∀ x y,E x y → x < y) {x y:Int} (r:Rch E x y):x < y:=by
 induction r with
 | one e => exact h _ _ e
 | snoc _ e ih => have:=h _ _ e; omega
theorem zdcb {s:af} (n:Nat) (hn:s.Parties.length = n) (h2:2 ≤ n) (h1:∀ k:Nat,k + 1 < n → ((k:Int),((k + 1:Nat):Int)) ∈ prs s.Arcs) (h0:(((n - 1:Nat):Int),(0:Int)) ∈ prs s.Arcs):Hub s:=by
 have fe:∀ k:Nat,k + 1 < n → eh false s.Arcs T1 (k:Int) ((k + 1:Nat):Int):=fun k hk => zcl6.2 ⟨h1 k hk,rfl⟩
 have le:eh false s.Arcs T1 ((n - 1:Nat):Int) 0:=zcl6.2 ⟨h0,rfl⟩
 have fw:∀ k:Nat,k + 1 < n → Rch (eh false s.Arcs T1) 0 ((k + 1:Nat):Int):=by
  intro k
  induction k with
  | zero => intro hk; exact .one (fe 0 hk)
  | succ k ih => intro hk; exact .snoc (ih (by omega)) (fe (k + 1) hk)
 have bw:∀ j:Nat,j < n → Rch (eh true s.Arcs T1) 0 ((n - 1 - j:Nat):Int):=by
  intro j
  induction j with
  | zero => intro _; exact .one ((zcgd _ _).2 le)
  | succ j ih =>
   intro hj
   refine .snoc (ih (by omega)) ((zcgd _ _).2 ?_)
   have:=fe (n - 1 - (j + 1)) (by omega)
   rw [show n - 1 - (j + 1) + 1 = n - 1 - j by omega] at this
   exact this
 constructor
 · intro y hy
   rw [hn] at hy
   by_cases c:y = 0
   · rw [c]
     have:=fw (n - 2) (by omega)
     rw [show n - 2 + 1 = n - 1 by omega] at this
     exact .snoc this le
   · have:=fw (y.toNat - 1) (by omega)
     rw [show ((y.toNat - 1 + 1:Nat):Int) = y by omega] at this
     exact this
 · intro y hy
   rw [hn] at hy
   have:=bw (n - 1 - y.toNat) (by omega)
   rw [show ((n - 1 - (n - 1 - y.toNat):Nat):Int) = y by omega] at this
   exact this
theorem zcd4 {s:af} (h:Ok s):Wf s:=⟨fun v hv => by
 have:=h.inl v hv
 have np:=h.np
 exact zcar (by omega) (by omega),by have:=h.start; exact zcar (by omega) (by omega),by have:=h.delta; exact zcar (by omega) (by omega)⟩
theorem zb6j {s:af} (h:Ok s) (hl:s.Leaders = [0]) (hp:((prs s.Arcs).all fun p => decide (p.2 = 0) || decide (p.1 < p.2)) = true):fbB s = true:=by
 refine zcf1.2 ⟨h,fun v _ hf => ?_⟩
 have:=zcbv (fun x y e => by
  obtain ⟨e1,e2⟩:=zcl6.1 e
  rw [List.all_eq_true] at hp
  have:=hp _ e1
  simp only [Bool.or_eq_true,decide_eq_true_iff] at this
  rcases this with t | t
  · exfalso
    have e2:(!(s.Leaders.contains y)) = true:=e2
    rw [hl,t] at e2
    exact absurd e2 (by decide)
  · exact t) hf.2
 omega
open Go Go.RowKit Sh Ic
def n8 (v:Int) (i:Nat):Int:=IntKind.u8.wrap (v.fdiv (2 ^ Nat.min (8 * (7 - i)) IntKind.i64.bits))
def zbl9 (v:Int):ByteArray:=⟨#[UInt8.ofNat (n8 v 0).toNat,UInt8.ofNat (n8 v 1).toNat,UInt8.ofNat (n8 v 2).toNat,UInt8.ofNat (n8 v 3).toNat,UInt8.ofNat (n8 v 4).toNat,UInt8.ofNat (n8 v 5).toNat,UInt8.ofNat (n8 v 6).toNat,UInt8.ofNat (n8 v 7).toNat]⟩
theorem zbz9 (v:Int) (i:Nat) (hi:i < 8) (l:List Int) (hl:l.length = 8):ss v 8 ((8:Nat):Int) l (i:Int) = ss v 8 ((8:Nat):Int) (l.set i (n8 v i)) ((i + 1:Nat):Int):=by
 have w2:IntKind.i64.wrap (7 - (i:Int)) = ((7 - i:Nat):Int):=by rw [w64 (by omega) (by omega)]; omega
 have w3:IntKind.i64.wrap (8 * ((7 - i:Nat):Int)) = ((8 * (7 - i):Nat):Int):=by rw [w64 (by omega) (by omega)]; omega
 rw [zc3b,iv,if_pos (by omega),w2,w3,if_pos (by omega),if_pos ⟨by omega,by omega⟩,if_pos (by omega),obz,LS.go,j4 i (by omega),Int.toNat_natCast,Int.toNat_natCast]
 rfl
theorem zcdu (v:Int):up v = some (zbl9 v):=by
 have e:ss v 8 ((8:Nat):Int) (List.replicate 8 (0:Int)) (0:Int) = some [n8 v 0,n8 v 1,n8 v 2,n8 v 3,n8 v 4,n8 v 5,n8 v 6,n8 v 7]:=by
  have h0:=zbz9 v 0 (by decide) (List.replicate 8 (0:Int)) rfl
  have h1:=zbz9 v 1 (by decide) [n8 v 0,0,0,0,0,0,0,0] rfl
  have h2:=zbz9 v 2 (by decide) [n8 v 0,n8 v 1,0,0,0,0,0,0] rfl
  have h3:=zbz9 v 3 (by decide) [n8 v 0,n8 v 1,n8 v 2,0,0,0,0,0] rfl
  have h4:=zbz9 v 4 (by decide) [n8 v 0,n8 v 1,n8 v 2,n8 v 3,0,0,0,0] rfl
  have h5:=zbz9 v 5 (by decide) [n8 v 0,n8 v 1,n8 v 2,n8 v 3,n8 v 4,0,0,0] rfl
  have h6:=zbz9 v 6 (by decide) [n8 v 0,n8 v 1,n8 v 2,n8 v 3,n8 v 4,n8 v 5,0,0] rfl
  have h7:=zbz9 v 7 (by decide) [n8 v 0,n8 v 1,n8 v 2,n8 v 3,n8 v 4,n8 v 5,n8 v 6,0] rfl
  refine h0.trans (h1.trans (h2.trans (h3.trans (h4.trans (h5.trans (h6.trans (h7.trans ?_)))))))
  rw [zc3b,iv,if_neg (by decide),obz,LS.go]
  rfl
 unfold up
 rw [e,obz]
 rfl
theorem zcjk (v:Int):(zbl9 v).size = 8:=rfl
def zbxg (s:ByteArray):ByteArray:=zbl9 s.size ++ s
theorem zc83 (s:ByteArray):(zbxg s).size = 8 + s.size:=by unfold zbxg; rw [ByteArray.size_append,zcjk]
theorem zbvl (s:ByteArray) (hs:s.size ≤ 140737488355328):xk s = some (zbxg s):=by
 unfold xk
 rw [zcdu,obz,if_pos (by rw [zcjk]; omega)]; rfl
open Go Go.RowKit Sh Ic
theorem zcrt (n k:Int) (hk:0 < k) (hk2:k < 9223372036854775808):xw n k = some (n % k):=by
 unfold xw
 rw [if_pos (by omega)]
 have h1:=Int.emod_nonneg n (show k ≠ 0 by omega)
 have h2:=Int.emod_lt_of_pos n hk
 by_cases c:0 ≤ n
 · have e:Int.tmod n k = n % k:=Int.tmod_eq_emod_of_nonneg c
   rw [e,if_neg (by omega)]
 · have e:=Int.tmod_eq_emod (a:=n) (b:=k)
   by_cases d:n % k = 0
   · have:Int.tmod n k = 0:=by
      rw [e,d]
      have:k ∣ n:=Int.dvd_of_emod_eq_zero d
      simp [this]
     rw [this,d,if_neg (by decide)]
   · have nd:¬ k ∣ n:=fun h => d (Int.emod_eq_zero_of_dvd h)
     have e2:Int.tmod n k = n % k - k:=by
      rw [e,if_neg (fun h => h.elim c nd)]
      omega
     rw [e2,if_pos (by omega),w64 (by omega) (by omega)]
     congr 1
     omega
open Go Go.RowKit Sh Ic
open Sh.ArgT (enc)
theorem zce8 (s:af) (hw:Wf s) (n:Int):ph s n = some (okS s && (decide (0 ≤ n) && decide (n < (s.Locks.length:Int)))):=by
 unfold ph
 rw [zcd5 s hw,obz]
 cases okS s with
 | true =>
  rw [if_pos rfl,Bool.true_and]
  by_cases c:0 ≤ n
  · rw [if_pos c,decide_eq_true c,Bool.true_and]
  · rw [if_neg c,decide_eq_false c,Bool.false_and]
 | false => rw [if_neg (by decide),Bool.false_and]
theorem zcnf:isK 0:=⟨by decide,by decide⟩
theorem zb5y (s:af) (h:Ok s) (hw:Wf s) (hl:s.Leaders = [0]) (hk:s.Locks.length = 1) (secret sd:ByteArray) (h1:secret.size < 100000) (h2:sd.size < 100000):ja s 0 secret sd = some ⟨0,secret,[0],[en sd 0 secret]⟩:=by
 unfold ja
 rw [zce8 s hw,obz,if_pos (by rw [zceq h,hk]; decide),hl]
 show ((some (0:Int)) >>= _) = _
 rw [obz,zb5f sd h2 0 secret h1,obz,if_pos zcnf]
theorem zb5x (s:af) (hw:Wf s) (hk:s.Locks.length = 1):ja s 5 ⟨#[]⟩ ⟨#[]⟩ = some ⟨0,⟨#[]⟩,[],[]⟩:=by
 unfold ja
 rw [zce8 s hw,obz,if_neg (by rw [hk]; cases okS s <;> decide)]
theorem zbsm (s:af) (p:aj) (hp:ixL s.Parties 0 = some p) (sd secret:ByteArray) (hk:ixL p.Keys 0 = some (PUB sd 0)) (h1:secret.size < 100000):i9 s ⟨0,secret,[0],[en sd 0 secret]⟩ = some true:=by
 unfold i9
 have e:eo s ⟨0,secret,[0],[en sd 0 secret]⟩ secret 0 = some (.ex (en sd 0 secret)):=by
  rw [ql,dc,if_pos (by decide),n6]
  show (((some (0:Int)) >>= _) >>= _) >>= _ = _
  rw [obz,hp,obz,hk,obz]
  show (((some (en sd 0 secret)) >>= _) >>= _) >>= _ = _
  rw [obz,zca3 _ _ _ h1,obz,obz,zdca (PUB sd 0) sd 0 zcnf secret,if_pos (decide_eq_true rfl),obz,LS.go]
  show eo s ⟨0,secret,[0],[en sd 0 secret]⟩ (en sd 0 secret) (IntKind.i64.wrap (0 - 1)) = _
  rw [show IntKind.i64.wrap (0 - 1) = -1 from by decide,ql,dc,if_neg (by decide),obz,LS.go]
 have w:IntKind.i64.wrap (((([(0:Int)]:List Int).length:Nat):Int) - (1:Int)) = 0:=by decide
 show (eo s ⟨0,secret,[0],[en sd 0 secret]⟩ secret (IntKind.i64.wrap (((([(0:Int)]:List Int).length:Nat):Int) - (1:Int))) >>= _) = _
 rw [w,e,obz]
def r2:af:=pu 2 5 6
theorem zbxk:Ok r2:=zdgc 2 5 6 (by decide) (by decide) (by decide) (by decide)
theorem zb5p:r2.Parties.length = 2:=zc5d 1 2 0
theorem zbtc:prs (zac7 2 0 2) = [(0,1),(1,0)]:=by decide +kernel
theorem zbte:(zac7 2 0 2).length = 2 ∧ (ixL (zac7 2 0 2) 1).map (·.To) = some 0:=by decide +kernel
theorem zb1y:zcgp r2 = true:=by
 unfold zcgp
 rw [Bool.and_eq_true]
 constructor
 · refine zch5.2 ⟨zbxk,(zcrw (by rw [zb5p]; decide)).2 (zdcb 2 zb5p (by decide) (fun k hk => ?_) ?_)⟩
   · show _ ∈ prs (zac7 2 0 2)
     rw [zbtc]
     have:k = 0:=by omega
     subst this; decide
   · show _ ∈ prs (zac7 2 0 2)
     rw [zbtc]; decide
 · refine zb6j zbxk rfl ?_
   show ((prs (zac7 2 0 2)).all _) = true
   rw [zbtc]; decide
theorem zb5o:paB r2 [0] = true:=by
 refine zcaq.2 ⟨zbxk,by simp,fun i hi => ?_⟩
 have:i = 0:=by simp at hi; omega
 subst this
 unfold zb3r
 rw [zb5p]
 decide
theorem zbyp:ixL r2.Parties 0 = some ⟨zbem 0,[PUB (gv 0) 0]⟩:=rfl
def k2:ah:=⟨0,j3 0,[0],[en (gv 0) 0 (j3 0)]⟩
theorem zbys:¬ SHA (⟨#[111,116,104,101,114]⟩:ByteArray) = SHA (j3 0):=by rw [zbwu,zbwu]; decide +kernel
theorem zbzl:cq r2 1 k2 = some true:=by
 have hw:=zcd4 zbxk
 obtain ⟨a1,a2⟩:=zbte
 obtain ⟨y,hy,hy2⟩:=Option.map_eq_some_iff.1 a2
 have hy:ixL r2.Arcs 1 = some y:=hy
 have hl:r2.Arcs.length = 2:=a1
 have w:IntKind.i64.wrap (((([(0:Int)]:List Int).length:Nat):Int) - (1:Int)) = 0:=by decide
 unfold cq
 rw [zcrf _ hw,obz,if_pos zb1y,if_neg (by decide),if_neg (by rw [hl]; decide),zce8 _ hw,obz,if_pos (by rw [zceq zbxk]; rfl),if_neg (by show ¬ (64:Int) < ((j3 0).size:Nat); rw [zb8e 0 (by decide)]; decide)]
 show ((some (zb3m 0)) >>= _) = _
 rw [obz,zb9e _ (by show (j3 0).size < _; rw [zb8e 0 (by decide)]; decide),obz,if_pos (show SHA k2.Secret = zb3m 0 from rfl)]
 show (ui r2 [0] >>= _) = _
 rw [zcdg _ hw _ (by decide),obz,if_pos zb5o]
 show ((some (0:Int)) >>= _) = _
 rw [obz,hy,obz,if_pos hy2.symm]
 show (ixL [(0:Int)] (IntKind.i64.wrap (((([(0:Int)]:List Int).length:Nat):Int) - (1:Int))) >>= _) = _
 rw [w]
 show ((some (0:Int)) >>= _) = _
 rw [obz]
 show ((some (0:Int)) >>= _) = _
 rw [obz,if_pos rfl,if_pos (by rfl)]
 show (i9 r2 ⟨0,j3 0,[0],[en (gv 0) 0 (j3 0)]⟩ >>= _) = _
 rw [zbsm r2 _ zbyp (gv 0) (j3 0) rfl (by rw [zb8e 0 (by decide)]; decide),obz]
theorem zcov (a:Int) (ha:a = 0 ∨ a = 1):cq r2 a ⟨0,⟨#[111,116,104,101,114]⟩,[0],[en (gv 0) 0 (j3 0)]⟩ = some false:=by
 have hw:=zcd4 zbxk
 have hl:r2.Arcs.length = 2:=zbte.1
 unfold cq
 rw [zcrf _ hw,obz,if_pos zb1y,if_neg (by omega),if_neg (by rw [hl]; omega),zce8 _ hw,obz,if_pos (by rw [zceq zbxk]; rfl),if_neg (by decide)]
 show ((some (zb3m 0)) >>= _) = _
 rw [obz,zb9e _ (by decide),obz,if_neg (show ¬ SHA (⟨#[111,116,104,101,114]⟩:ByteArray) = zb3m 0 from zbys)]
theorem zbtd:ja r2 0 (j3 0) (gv 0) = some k2 :=
 zb5y r2 zbxk (zcd4 zbxk) rfl rfl _ _ (by rw [zb8e 0 (by decide)]; decide) (by rw [zcw0 0 (by decide)]; decide)
theorem zbtb:zb8d 2 5 6 = some r2:=zcbq 2 5 6 (by decide) (by decide)
theorem zcru:pj 0 = some (j3 0):=zcqo 0 (by decide)
theorem zcbm:rh 0 = some (gv 0):=zb1p 0 (by decide)
theorem zb3w:ms = some true:=by
 unfold ms
 rw [zbtb,obz,zcru,obz,zcbm,obz,zbtd,obz,zbzl,obz,if_pos rfl]
 show (cq r2 1 ⟨0,⟨#[111,116,104,101,114]⟩,[0],[en (gv 0) 0 (j3 0)]⟩ >>= _) = _
 rw [zcov 1 (.inr rfl),obz,if_neg (by decide)]
 show (cq r2 0 ⟨0,⟨#[111,116,104,101,114]⟩,[0],[en (gv 0) 0 (j3 0)]⟩ >>= _) = _
 rw [zcov 0 (.inl rfl),obz,if_neg (by decide),zb5x r2 (zcd4 zbxk) rfl,obz]
 rfl
end Go.Proofs.Ytjgpklmkdkkooaa
