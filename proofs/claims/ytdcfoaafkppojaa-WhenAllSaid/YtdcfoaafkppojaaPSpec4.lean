/- The document's Check: parties, arcs, all. -/
import Derived.Test.YtdcfoaafkppojaaPSpec3
set_option linter.unusedSimpArgs false
set_option linter.unusedVariables false
namespace Go.Proofs.Ytdcfoaafkppojaa
open Go Go.RowKit Sh Ic
section
variable (s : aa)
abbrev LSX := Option (LS Int (LX Unit Bool))
theorem rp2 (np i : Int) (p : ac) (hl : p.Keys.length < 1000000) :
    (dm s np i p 0 = some (.ex ()) ∧ ∀ j,j < p.Keys.length → ∀ y,p.Keys[j]? = some y → y.size = 16) ∨ (dm s np i p 0 = some (.rt false) ∧ ∃ j,j < p.Keys.length ∧ ¬ ∀ y,p.Keys[j]? = some y → y.size = 16) := by
  refine zax8 (f := fun k => dm s np i p (k : Int)) ?_ ?_ ?_
  · show dm s np i p (p.Keys.length : Nat) = _
    rw [qd,cb,if_neg (by omega),obz,LS.go]
  · intro k hk g
    show dm s np i p (k : Int) = dm s np i p ((k + 1 : Nat) : Int)
    obtain ⟨y,hy⟩ := zaec hk
    rw [qd,cb,if_pos (by omega),(wq hy).2,obz,if_pos (by have := g y hy; omega),obz,LS.go,tn k (by omega)]
  · intro k hk g
    show dm s np i p (k : Int) = _
    obtain ⟨y,hy⟩ := zaec hk
    have e : ¬ y.size = 16 := fun e => g fun z hz => by rw [hy] at hz; injection hz with hz; subst hz; exact e
    rw [qd,cb,if_pos (by omega),(wq hy).2,obz,if_neg (by omega),obz,LS.go]
theorem rp3 (np : Int) (i : Nat) (hi : i < s.Parties.length) (p : ac) (hl : s.Parties.length < 1000000) :
    (bx s np (i : Int) p 0 = some (.ex ()) ∧ ∀ j,j < i → ∀ y,s.Parties[j]? = some y → y.Account ≠ p.Account) ∨ (bx s np (i : Int) p 0 = some (.rt false) ∧ ∃ j,j < i ∧ ¬ ∀ y,s.Parties[j]? = some y → y.Account ≠ p.Account) := by
  refine zax8 (f := fun k => bx s np (i : Int) p (k : Int)) ?_ ?_ ?_
  · show bx s np (i : Int) p (i : Int) = _
    rw [qc,ca,if_neg (by omega),obz,LS.go]
  · intro k hk g
    show bx s np (i : Int) p (k : Int) = bx s np (i : Int) p ((k + 1 : Nat) : Int)
    obtain ⟨y,hy⟩ := zaec (show k < s.Parties.length by omega)
    rw [qc,ca,if_pos (by omega),(wq hy).2,obz,if_neg (g y hy),obz,LS.go,tn k (by omega)]
  · intro k hk g
    show bx s np (i : Int) p (k : Int) = _
    obtain ⟨y,hy⟩ := zaec (show k < s.Parties.length by omega)
    have e : y.Account = p.Account := Classical.byContradiction fun e => g fun z hz => by rw [hy] at hz; injection hz with hz; subst hz; exact e
    rw [qc,ca,if_pos (by omega),(wq hy).2,obz,if_pos e,obz,LS.go]
def goodP (i : Nat) : Prop := ∀ p,s.Parties[i]? = some p → rp p.Account = true ∧ p.Keys.length = s.Leaders.length ∧ (∀ j,j < p.Keys.length → ∀ y,p.Keys[j]? = some y → y.size = 16) ∧ ∀ j,j < i → ∀ y,s.Parties[j]? = some y → y.Account ≠ p.Account
theorem rp1 (hl : s.Parties.length < 1000000) (hL : s.Leaders.length < 1000000) :
    (dp s (s.Parties.length : Nat) 0 = some (.ex ()) ∧ ∀ j,j < s.Parties.length → goodP s j) ∨ (dp s (s.Parties.length : Nat) 0 = some (.rt false) ∧ ∃ j,j < s.Parties.length ∧ ¬ goodP s j) := by
  refine zax8 (f := fun k => dp s (s.Parties.length : Nat) (k : Int)) ?_ ?_ ?_
  · show dp s _ ((s.Parties.length : Nat) : Int) = _
    rw [qe,cd,if_neg (by omega),obz,LS.go]
  · intro k hk g
    show dp s _ (k : Int) = dp s _ ((k + 1 : Nat) : Int)
    obtain ⟨p,hp⟩ := zaec hk
    obtain ⟨g1,g2,g3,g4⟩ := g p hp
    rw [qe,cd,if_pos (by omega),(wq hp).2,obz,zaps,obz,if_pos g1,if_pos (by omega)]
    rcases rp2 s (s.Parties.length : Nat) (k : Int) p (by omega) with ⟨e,_⟩ | ⟨_,j,hj,e⟩
    · rw [show (⟨p.Account,p.Keys⟩ : ac) = p from rfl,e,obz]
      show (bx s _ (k : Int) p 0 >>= _ : LSX) >>= _ = _
      rcases rp3 s (s.Parties.length : Nat) k hk p hl with ⟨e,_⟩ | ⟨_,j,hj,e⟩
      · rw [e,obz]
        show (some (LS.nx (IntKind.i64.wrap ((k : Int) + 1))) : LSX) >>= _ = _
        rw [obz,LS.go,tn k (by omega)]
      · exact absurd (g4 j hj) e
    · exact absurd (g3 j hj) e
  · intro k hk g
    show dp s _ (k : Int) = _
    obtain ⟨p,hp⟩ := zaec hk
    rw [qe,cd,if_pos (by omega),(wq hp).2,obz,zaps,obz]
    by_cases c1 : rp p.Account = true
    rotate_left
    · rw [if_neg c1,obz,LS.go]
    rw [if_pos c1]
    by_cases c2 : (p.Keys.length : Int) = s.Leaders.length
    rotate_left
    · rw [if_neg c2,obz,LS.go]
    rw [if_pos c2,show (⟨p.Account,p.Keys⟩ : ac) = p from rfl]
    rcases rp2 s (s.Parties.length : Nat) (k : Int) p (by omega) with ⟨e,q2⟩ | ⟨e,_⟩
    · rw [e,obz]
      show (bx s _ (k : Int) p 0 >>= _ : LSX) >>= _ = _
      rcases rp3 s (s.Parties.length : Nat) k hk p hl with ⟨e,q3⟩ | ⟨e,_⟩
      · refine (g fun p' hp' => ?_).elim
        rw [hp] at hp'
        injection hp' with hp'
        subst hp'
        exact ⟨c1,by omega,q2,q3⟩
      · rw [e,obz]
        show (some (LS.dn (LX.rt false)) : LSX) >>= _ = _
        rw [obz,LS.go]
    · rw [e,obz]
      show (some (LS.dn (LX.rt false)) : LSX) >>= _ = _
      rw [obz,LS.go]
def okP : Prop := (2 ≤ s.Parties.length ∧ s.Parties.length ≤ 6) ∧ ∀ j,j < s.Parties.length → goodP s j
theorem parties_f (hL : s.Leaders.length < 1000000) : (kb s = some true ∧ okP s) ∨ (kb s = some false ∧ ¬ okP s) := by
  unfold kb
  by_cases c1 : (s.Parties.length : Int) < 2
  · exact .inr ⟨if_pos c1,fun h => by have := h.1; omega⟩
  rw [if_neg c1]
  by_cases c2 : (6 : Int) < s.Parties.length
  · exact .inr ⟨if_pos c2,fun h => by have := h.1; omega⟩
  rw [if_neg c2]
  rcases rp1 s (by omega) hL with ⟨e,g⟩ | ⟨e,j,hj,g⟩
  · rw [e,obz]
    exact .inl ⟨rfl,⟨by omega,by omega⟩,g⟩
  · rw [e,obz]
    exact .inr ⟨rfl,fun h => g (h.2 j hj)⟩
theorem ra2 (np : Int) (i : Nat) (hi : i < s.Arcs.length) (a : af) (hl : s.Arcs.length < 1000000000000) :
    (gb s np (i : Int) a 0 = some (.ex ()) ∧ ∀ j,j < i → ∀ y,s.Arcs[j]? = some y → (y.From,y.To) ≠ (a.From,a.To)) ∨ (gb s np (i : Int) a 0 = some (.rt false) ∧ ∃ j,j < i ∧ ¬ ∀ y,s.Arcs[j]? = some y → (y.From,y.To) ≠ (a.From,a.To)) := by
  refine zax8 (f := fun k => gb s np (i : Int) a (k : Int)) ?_ ?_ ?_
  · show gb s np (i : Int) a (i : Int) = _
    rw [ua,d7,if_neg (by omega),obz,LS.go]
  · intro k hk g
    show gb s np (i : Int) a (k : Int) = gb s np (i : Int) a ((k + 1 : Nat) : Int)
    obtain ⟨y,hy⟩ := zaec (show k < s.Arcs.length by omega)
    have gy := g y hy
    rw [ua,d7,if_pos (by omega),(wq hy).2,obz]
    by_cases c : y.From = a.From
    · rw [if_pos c,if_neg (fun d => gy (by rw [c,d])),obz,LS.go,tn k (by omega)]
    · rw [if_neg c,obz,LS.go,tn k (by omega)]
  · intro k hk g
    show gb s np (i : Int) a (k : Int) = _
    obtain ⟨y,hy⟩ := zaec (show k < s.Arcs.length by omega)
    have e : (y.From,y.To) = (a.From,a.To) := Classical.byContradiction fun e => g fun z hz => by rw [hy] at hz; injection hz with hz; subst hz; exact e
    injection e with e1 e2
    rw [ua,d7,if_pos (by omega),(wq hy).2,obz,if_pos e1,if_pos e2,obz,LS.go]
def goodA (i : Nat) : Prop := ∀ a,s.Arcs[i]? = some a → zals (s.Parties.length : Nat) a = true ∧ ∀ j,j < i → ∀ y,s.Arcs[j]? = some y → (y.From,y.To) ≠ (a.From,a.To)
theorem zax2 {n : Int} {a : af} : zals n a = true ↔ (0 ≤ a.From ∧ a.From < n) ∧ (0 ≤ a.To ∧ a.To < n) ∧ a.From ≠ a.To ∧ (0 ≤ a.Ledger ∧ a.Ledger ≤ 3) ∧ rp a.Asset = true ∧ (1 ≤ a.Amount ∧ a.Amount ≤ 1125899906842624) := by
  unfold zals
  rw [Bool.and_eq_true,Bool.and_eq_true,Bool.and_eq_true,Bool.and_eq_true,Bool.and_eq_true,kp,kp,kp,kp,decide_eq_true_iff]
  refine and_congr ⟨fun h => by omega,fun h => by omega⟩ (and_congr ⟨fun h => by omega,fun h => by omega⟩ Iff.rfl)
theorem ra1 (hl : s.Arcs.length < 1000000000000) :
    (gc s (s.Parties.length : Nat) 0 = some (.ex ()) ∧ ∀ j,j < s.Arcs.length → goodA s j) ∨ (gc s (s.Parties.length : Nat) 0 = some (.rt false) ∧ ∃ j,j < s.Arcs.length ∧ ¬ goodA s j) := by
  refine zax8 (f := fun k => gc s (s.Parties.length : Nat) (k : Int)) ?_ ?_ ?_
  · show gc s _ ((s.Arcs.length : Nat) : Int) = _
    rw [ub,d8,if_neg (by omega),obz,LS.go]
  · intro k hk g
    show gc s _ (k : Int) = gc s _ ((k + 1 : Nat) : Int)
    obtain ⟨a,ha⟩ := zaec hk
    obtain ⟨g1,g2⟩ := g a ha
    obtain ⟨⟨q1,q2⟩,⟨q3,q4⟩,q5,⟨q6,q7⟩,q8,q9,q10⟩ := zax2.1 g1
    rw [ub,d8,if_pos (by omega),(wq ha).2,obz,if_neg (by omega),if_neg (by omega),if_neg (by omega),if_neg (by omega),if_neg q5,if_neg (by omega),if_neg (by omega),zaps,obz,if_pos q8,if_neg (by omega),if_neg (by omega)]
    rw [show (⟨a.From,a.To,a.Ledger,a.Asset,a.Amount⟩ : af) = a from rfl]
    rcases ra2 s (s.Parties.length : Nat) k hk a hl with ⟨e,_⟩ | ⟨_,j,hj,e⟩
    · rw [e,obz]
      show (some (LS.nx (IntKind.i64.wrap ((k : Int) + 1))) : LSX) >>= _ = _
      rw [obz,LS.go,tn k (by omega)]
    · exact absurd (g2 j hj) e
  · intro k hk g
    show gc s _ (k : Int) = _
    obtain ⟨a,ha⟩ := zaec hk
    rw [ub,d8,if_pos (by omega),(wq ha).2,obz]
    by_cases c1 : a.From < 0
    · rw [if_pos c1,obz,LS.go]
    rw [if_neg c1]
    by_cases c2 : (s.Parties.length : Int) ≤ a.From
    · rw [if_pos c2,obz,LS.go]
    rw [if_neg c2]
    by_cases c3 : a.To < 0
    · rw [if_pos c3,obz,LS.go]
    rw [if_neg c3]
    by_cases c4 : (s.Parties.length : Int) ≤ a.To
    · rw [if_pos c4,obz,LS.go]
    rw [if_neg c4]
    by_cases c5 : a.From = a.To
    · rw [if_pos c5,obz,LS.go]
    rw [if_neg c5]
    by_cases c6 : a.Ledger < 0
    · rw [if_pos c6,obz,LS.go]
    rw [if_neg c6]
    by_cases c7 : (4 : Int) ≤ a.Ledger
    · rw [if_pos c7,obz,LS.go]
    rw [if_neg c7,zaps,obz]
    by_cases c8 : rp a.Asset = true
    rotate_left
    · rw [if_neg c8,obz,LS.go]
    rw [if_pos c8]
    by_cases c9 : a.Amount < 1
    · rw [if_pos c9,obz,LS.go]
    rw [if_neg c9]
    by_cases c10 : (1125899906842624 : Int) < a.Amount
    · rw [if_pos c10,obz,LS.go]
    rw [if_neg c10,show (⟨a.From,a.To,a.Ledger,a.Asset,a.Amount⟩ : af) = a from rfl]
    rcases ra2 s (s.Parties.length : Nat) k hk a hl with ⟨e,q⟩ | ⟨e,_⟩
    · refine (g fun a' ha' => ?_).elim
      rw [ha] at ha'
      injection ha' with ha'
      subst ha'
      exact ⟨zax2.2 ⟨⟨by omega,by omega⟩,⟨by omega,by omega⟩,c5,⟨by omega,by omega⟩,c8,by omega,by omega⟩,q⟩
    · rw [e,obz]
      show (some (LS.dn (LX.rt false)) : LSX) >>= _ = _
      rw [obz,LS.go]
def okA : Prop := (1 ≤ s.Arcs.length ∧ s.Arcs.length ≤ 12) ∧ ∀ j,j < s.Arcs.length → goodA s j
theorem arcs_f (hl : s.Arcs.length < 1000000000000) : (su s = some true ∧ okA s) ∨ (su s = some false ∧ ¬ okA s) := by
  unfold su
  rcases ra1 s hl with ⟨e,g⟩ | ⟨e,j,hj,g⟩
  · rw [e,obz]
    show ((if (1 : Int) ≤ ((s.Arcs.length : Nat) : Int) then some (decide (((s.Arcs.length : Nat) : Int) ≤ (12 : Int))) else some false) = some true ∧ _) ∨ ((if (1 : Int) ≤ ((s.Arcs.length : Nat) : Int) then some (decide (((s.Arcs.length : Nat) : Int) ≤ (12 : Int))) else some false) = some false ∧ _)
    by_cases c1 : (1 : Int) ≤ s.Arcs.length
    · by_cases c2 : (s.Arcs.length : Int) ≤ 12
      · exact .inl ⟨by rw [if_pos c1,decide_eq_true c2],⟨by omega,by omega⟩,g⟩
      · exact .inr ⟨by rw [if_pos c1,decide_eq_false c2],fun h => by have := h.1; omega⟩
    · exact .inr ⟨if_neg c1,fun h => by have := h.1; omega⟩
  · rw [e,obz]
    exact .inr ⟨rfl,fun h => g (h.2 j hj)⟩
theorem zag4 {α : Type} {l : List α} {P : α → Prop} : (∀ x ∈ l,P x) ↔ ∀ j,j < l.length → ∀ x,l[j]? = some x → P x := by
  constructor
  · intro h j hj x hx
    obtain ⟨h1,h2⟩ := List.getElem?_eq_some_iff.1 hx
    exact h x (by rw [← h2]; exact List.getElem_mem h1)
  · intro h x hx
    obtain ⟨j,hj,e⟩ := List.getElem_of_mem hx
    exact h j hj x (by rw [List.getElem?_eq_getElem hj,e])
theorem zax1 : Ok s ↔ rp s.ID = true ∧ okL s ∧ okP s ∧ okA s ∧ (0 ≤ s.Start ∧ s.Start ≤ 1099511627776) ∧ (1 ≤ s.Delta ∧ s.Delta ≤ 1048576) := by
  constructor
  · intro h
    refine ⟨h.id,⟨h.nl,h.locks.1,fun j hj x hx => ?_⟩,⟨h.np,fun j hj p hp => ?_⟩,⟨h.na,fun j hj a ha => ?_⟩,h.start,h.delta⟩
    · refine ⟨zag4.1 h.inl j hj x hx,fun y hy => zag4.1 h.locks.2 j (wq hy).1 y hy,fun k hk y hy => ?_⟩
      have := zaep.2 (show (s.Leaders.map id).Nodup by rw [List.map_id]; exact h.leads) j x hx k hk y hy
      exact this
    · have q := zag4.1 h.parties j hj p hp
      unfold zau0 at q
      rw [Bool.and_eq_true,yc] at q
      exact ⟨q.1,by omega,zag4.1 fun y hy => by have := q.2.2 y hy; omega,zaep.2 h.accts j p hp⟩
    · exact ⟨zag4.1 h.arcs j hj a ha,zaep.2 h.ways j a ha⟩
  · rintro ⟨h1,⟨h2,h3,h4⟩,⟨h5,h6⟩,⟨h7,h8⟩,h9,h10⟩
    refine ⟨h1,h5,h2,h7,⟨h3,?_⟩,h9,h10,?_,?_,?_,?_,?_,?_⟩
    · refine zag4.2 fun j hj y hy => ?_
      obtain ⟨x,hx⟩ := zaec (show j < s.Leaders.length by omega)
      exact (h4 j (by omega) x hx).2.1 y hy
    · refine zag4.2 fun j hj p hp => ?_
      obtain ⟨q1,q2,q3,_⟩ := h6 j hj p hp
      unfold zau0
      rw [Bool.and_eq_true,yc]
      exact ⟨q1,by omega,fun y hy => by have := zag4.2 q3 y hy; omega⟩
    · exact zag4.2 fun j hj a ha => (h8 j hj a ha).1
    · exact zaep.1 fun j x hx k hk y hy => (h6 j (wq hx).1 x hx).2.2.2 k hk y hy
    · exact zaep.1 fun j x hx k hk y hy => (h8 j (wq hx).1 x hx).2 k hk y hy
    · have : (s.Leaders.map id).Nodup := zaep.1 fun j x hx k hk y hy => (h4 j (wq hx).1 x hx).2.2 k hk y hy
      rwa [List.map_id] at this
    · exact zag4.2 fun j hj x hx => (h4 j hj x hx).1
theorem zaop (hl : s.Arcs.length < 1000000000000) : mt s = some (okS s) := by
  unfold mt
  have no : ∀ {P : Prop},¬ P → (Ok s → P) → okS s = false := fun h1 h2 => ji fun h => h1 (h2 h)
  rw [zaps,obz]
  by_cases c1 : rp s.ID = true
  rotate_left
  · rw [if_neg c1,no c1 fun h => ((zax1 s).1 h).1]
  rw [if_pos c1]
  rcases leaders_f s with ⟨e,g2⟩ | ⟨e,g⟩
  rotate_left
  · rw [e,obz,no g fun h => ((zax1 s).1 h).2.1]; rfl
  rw [e,obz,if_pos rfl]
  rcases parties_f s (by have := g2.1; omega) with ⟨e,g3⟩ | ⟨e,g⟩
  rotate_left
  · rw [e,obz,no g fun h => ((zax1 s).1 h).2.2.1]; rfl
  rw [e,obz,if_pos rfl]
  rcases arcs_f s hl with ⟨e,g4⟩ | ⟨e,g⟩
  rotate_left
  · rw [e,obz,no g fun h => ((zax1 s).1 h).2.2.2.1]; rfl
  rw [e,obz,if_pos rfl]
  by_cases d1 : 0 ≤ s.Start
  rotate_left
  · rw [if_neg d1,no d1 fun h => h.start.1]
  rw [if_pos d1]
  by_cases d2 : s.Start ≤ 1099511627776
  rotate_left
  · rw [if_neg d2,no d2 fun h => h.start.2]
  rw [if_pos d2]
  by_cases d3 : 1 ≤ s.Delta
  rotate_left
  · rw [if_neg d3,no d3 fun h => h.delta.1]
  rw [if_pos d3]
  by_cases d4 : s.Delta ≤ 1048576
  rotate_left
  · rw [decide_eq_false d4,no d4 fun h => h.delta.2]
  rw [decide_eq_true d4,zaor ((zax1 s).2 ⟨c1,g2,g3,g4,⟨d1,d2⟩,d3,d4⟩)]
end
end Go.Proofs.Ytdcfoaafkppojaa
