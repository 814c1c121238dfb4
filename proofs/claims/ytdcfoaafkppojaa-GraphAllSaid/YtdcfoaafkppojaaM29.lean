import Derived.Test.YtdcfoaafkppojaaM28
import Derived.Test.YtdcfoaafkppojaaM27
set_option linter.unusedSimpArgs false
set_option linter.unusedVariables false
namespace Go.Proofs.Ytdcfoaafkppojaa
open Go Go.RowKit Sh Ic
theorem zbzz (l : List Int) (hl : l.length < 1000000) : pm l l = some true := by
 unfold pm
 rw [if_pos rfl]
 have e : (fu l l 0 = some (.ex ()) ∧ ∀ j,j < l.length → True) ∨ (fu l l 0 = some (.rt false) ∧ ∃ j,j < l.length ∧ ¬ True) := by
  refine zbmo (f := fun k => fu l l (k : Int)) ?_ ?_ ?_
  · show fu l l ((l.length : Nat) : Int) = _
    rw [zc3v,dw,if_neg (by omega),obz,LS.go]
  · intro k hk _
    show fu l l (k : Int) = fu l l ((k + 1 : Nat) : Int)
    rw [zc3v,dw,if_pos (by omega),fj hk,obz,obz,if_pos rfl,obz,LS.go,lw k (by omega)]
  · intro k hk h
    exact absurd trivial h
 rcases e with ⟨e,_⟩ | ⟨_,j,_,h⟩
 · rw [e,obz]
 · exact absurd trivial h
theorem zbxq {ρ : Type} {f : Nat → Option ρ} {N : Nat} (he : ∃ r,f N = some r) (hs : ∀ k,k < N → f k = f (k + 1) ∨ ∃ r,f k = some r) : ∃ r,f 0 = some r := by
 have go : ∀ n k,n + k = N → ∃ r,f k = some r := by
  intro n
  induction n with
  | zero =>
   intro k h
   obtain rfl : k = N := by omega
   exact he
  | succ n ih =>
   intro k h
   rcases hs k (by omega) with e | e
   · rw [e]; exact ih (k + 1) (by omega)
   · exact e
 exact go N 0 rfl
theorem zdg9 (s : aa) (i : Nat) (hi : i < s.Parties.length) (hk : s.Parties[i].Keys.length < 1000000) : ∃ r,ia s (i : Int) 0 = some r := by
 refine zbxq (f := fun k => ia s (i : Int) (k : Int)) (N := s.Parties[i].Keys.length) ⟨.ex (),?_⟩ fun k hk' => ?_
 · show ia s (i : Int) ((s.Parties[i].Keys.length : Nat) : Int) = _
   rw [zc3i,eu,fj hi,obz,if_neg (by omega),obz,LS.go]
 · show ia s (i : Int) (k : Int) = ia s (i : Int) ((k + 1 : Nat) : Int) ∨ ∃ r,ia s (i : Int) (k : Int) = some r
   rw [zc3i,eu,fj hi,obz,if_pos (by omega),fj hk',obz]
   by_cases c : (40 : Int) < ((s.Parties[i].Keys[k].size : Nat) : Int)
   · rw [if_pos c,obz,LS.go]; exact .inr ⟨_,rfl⟩
   · rw [if_neg c,obz,LS.go,lw k (by omega)]; exact .inl rfl
theorem zdha (s : aa) (hp : s.Parties.length < 1000000) : ∃ r,ib s 0 = some r := by
 refine zbxq (f := fun k => ib s (k : Int)) (N := s.Parties.length) ⟨.ex (),?_⟩ fun k hk => ?_
 · show ib s ((s.Parties.length : Nat) : Int) = _
   rw [zc3h,ev,if_neg (by omega),obz,LS.go]
 · show ib s (k : Int) = ib s ((k + 1 : Nat) : Int) ∨ ∃ r,ib s (k : Int) = some r
   rw [zc3h,ev,if_pos (by omega),fj hk,obz]
   by_cases c : (6 : Int) < ((s.Parties[k].Keys.length : Nat) : Int)
   · rw [if_pos c,obz,LS.go]; exact .inr ⟨_,rfl⟩
   rw [if_neg c]
   by_cases c2 : (40 : Int) < ((s.Parties[k].Account.size : Nat) : Int)
   · rw [if_pos c2,obz,LS.go]; exact .inr ⟨_,rfl⟩
   rw [if_neg c2]
   obtain ⟨r,hr⟩ := zdg9 s k hk (by omega)
   rw [hr,obz]
   cases r with
   | ex u =>
    left
    show (some (LS.nx (IntKind.i64.wrap ((k : Int) + 1))) : LSX) >>= _ = _
    rw [obz,LS.go,lw k (by omega)]
   | rt b =>
    right
    refine ⟨.rt b,?_⟩
    show (some (LS.dn (LX.rt b)) : LSX) >>= _ = _
    rw [obz,LS.go]
theorem zdg8 (s : aa) (hp : s.Arcs.length < 1000000) : ∃ r,d9 s 0 = some r := by
 refine zbxq (f := fun k => d9 s (k : Int)) (N := s.Arcs.length) ⟨.ex (),?_⟩ fun k hk => ?_
 · show d9 s ((s.Arcs.length : Nat) : Int) = _
   rw [zc3j,er,if_neg (by omega),obz,LS.go]
 · show d9 s (k : Int) = d9 s ((k + 1 : Nat) : Int) ∨ ∃ r,d9 s (k : Int) = some r
   rw [zc3j,er,if_pos (by omega),fj hk,obz]
   by_cases c : (40 : Int) < ((s.Arcs[k].Asset.size : Nat) : Int)
   · rw [if_pos c,obz,LS.go]; exact .inr ⟨_,rfl⟩
   · rw [if_neg c,obz,LS.go,lw k (by omega)]; exact .inl rfl
theorem zdg7 (s : aa) (hp : s.Locks.length < 1000000) : ∃ r,d8 s 0 = some r := by
 refine zbxq (f := fun k => d8 s (k : Int)) (N := s.Locks.length) ⟨.ex (),?_⟩ fun k hk => ?_
 · show d8 s ((s.Locks.length : Nat) : Int) = _
   rw [zc3k,eq,if_neg (by omega),obz,LS.go]
 · show d8 s (k : Int) = d8 s ((k + 1 : Nat) : Int) ∨ ∃ r,d8 s (k : Int) = some r
   rw [zc3k,eq,if_pos (by omega),fj hk,obz]
   by_cases c : (40 : Int) < ((s.Locks[k].size : Nat) : Int)
   · rw [if_pos c,obz,LS.go]; exact .inr ⟨_,rfl⟩
   · rw [if_neg c,obz,LS.go,lw k (by omega)]; exact .inl rfl
theorem zch5 (s : aa) : qw s = some false ∨ (qw s = some true ∧ s.Arcs.length ≤ 20 ∧ s.Parties.length ≤ 10) := by
 unfold qw
 by_cases c1 : (10 : Int) < ((s.Parties.length : Nat) : Int)
 · exact .inl (if_pos c1)
 rw [if_neg c1]
 by_cases c2 : (20 : Int) < ((s.Arcs.length : Nat) : Int)
 · exact .inl (if_pos c2)
 rw [if_neg c2]
 by_cases c3 : (6 : Int) < ((s.Leaders.length : Nat) : Int)
 · exact .inl (if_pos c3)
 rw [if_neg c3]
 by_cases c4 : (6 : Int) < ((s.Locks.length : Nat) : Int)
 · exact .inl (if_pos c4)
 rw [if_neg c4]
 by_cases c5 : (40 : Int) < ((s.ID.size : Nat) : Int)
 · exact .inl (if_pos c5)
 rw [if_neg c5]
 have hb : ∀ b : Bool,some b = some false ∨ (some b = some true ∧ s.Arcs.length ≤ 20 ∧ s.Parties.length ≤ 10) := fun b => by
  cases b
  · exact .inl rfl
  · exact .inr ⟨rfl,by omega,by omega⟩
 obtain ⟨r1,e1⟩ := zdha s (by omega)
 rw [e1,obz]
 cases r1 with
 | rt b => exact hb b
 | ex u =>
  obtain ⟨r3,e3⟩ := zdg8 s (by omega)
  show (d9 s 0 >>= _) = _ ∨ (d9 s 0 >>= _) = _ ∧ _
  rw [e3,obz]
  cases r3 with
  | rt b => exact hb b
  | ex u =>
   obtain ⟨r4,e4⟩ := zdg7 s (by omega)
   show (d8 s 0 >>= _) = _ ∨ (d8 s 0 >>= _) = _ ∧ _
   rw [e4,obz]
   cases r4 with
   | rt b => exact hb b
   | ex u => exact hb true
open Go Go.RowKit Sh Ic
theorem zb0e (s : aa) (x y : Int) (hl : s.Arcs.length < 1000000) : zb4y s x y = some (zbl5 s.Arcs x y) := by
 have go : ∀ n i : Nat,n + i = s.Arcs.length → (qe x y s (i : Int) = some (.rt true) ∧ zbl5 (s.Arcs.drop i) x y = true) ∨ (qe x y s (i : Int) = some (.ex ()) ∧ zbl5 (s.Arcs.drop i) x y = false) := by
  intro n
  induction n with
  | zero =>
   intro i h
   refine .inr ⟨?_,?_⟩
   · rw [zcxx,jw,if_neg (by omega),obz,LS.go]
   · rw [List.drop_of_length_le (by omega)]; rfl
  | succ n ih =>
   intro i h
   have hi : i < s.Arcs.length := by omega
   unfold zbl5
   rw [zcxx,jw,if_pos (by omega),fj hi,obz,zcbl _ _ _ hi]
   by_cases c : s.Arcs[i].From = x
   · rw [if_pos c]
     by_cases d : s.Arcs[i].To = y
     · rw [if_pos d,obz,LS.go,decide_eq_true c,decide_eq_true d]
       exact .inl ⟨rfl,rfl⟩
     · rw [if_neg d,obz,LS.go,lw i (by omega),decide_eq_true c,decide_eq_false d,Bool.and_false,Bool.false_or]
       exact ih (i + 1) (by omega)
   · rw [if_neg c,obz,LS.go,lw i (by omega),decide_eq_false c,Bool.false_and,Bool.false_or]
     exact ih (i + 1) (by omega)
 have g := go s.Arcs.length 0 rfl
 rw [List.drop_zero] at g
 unfold zb4y
 rcases g with ⟨e,q⟩ | ⟨e,q⟩
 · have e : qe x y s 0 = some (.rt true) := e
   rw [e,obz,q]
 · have e : qe x y s 0 = some (.ex ()) := e
   rw [e,obz,q]
theorem zbqr {s : aa} {a b : Int} : rrB s a b [] = true ↔ Rch (be false s.Arcs T1) a b := by
 rw [zb4o]
 exact ⟨fun h => h.2.2,fun h => ⟨by simp,by simp,h⟩⟩
theorem zcpt (s : aa) (hl : s.Arcs.length < 1000) : uf s = some (zbzw s) := by
 unfold uf
 rw [zb14 s (by omega),obz]
 by_cases c : okS s = true
 · rw [if_pos c]
   have h := zbmz.1 c
   have np := h.np
   have inn : ∀ a : Nat,a < s.Parties.length → (g8 s (a : Int) 0 = some (.ex ()) ∧ ∀ b,b < s.Parties.length → (a ≠ b → rrB s (a : Int) (b : Int) [] = true)) ∨ (g8 s (a : Int) 0 = some (.rt false) ∧ ∃ b,b < s.Parties.length ∧ ¬ (a ≠ b → rrB s (a : Int) (b : Int) [] = true)) := by
    intro a ha
    refine zbmo (f := fun k => g8 s (a : Int) (k : Int)) ?_ ?_ ?_
    · show g8 s (a : Int) ((s.Parties.length : Nat) : Int) = _
      rw [zcgj,d5,if_neg (by omega),obz,LS.go]
    · intro k hk hp
      show g8 s (a : Int) (k : Int) = g8 s (a : Int) ((k + 1 : Nat) : Int)
      rw [zcgj,d5,if_pos (by omega)]
      by_cases e : a = k
      · rw [if_pos (by omega),obz,LS.go,lw k (by omega)]
      · rw [if_neg (by omega),zcgy s s.Parties.length (by omega) (inR h false) hl _ _ (by omega) (by omega) [] (by simp) (by simp),obz,if_pos (hp e),obz,LS.go,lw k (by omega)]
    · intro k hk hp
      show g8 s (a : Int) (k : Int) = _
      have e : ¬ a = k := fun e => hp fun n => absurd e n
      have f : ¬ rrB s (a : Int) (k : Int) [] = true := fun q => hp fun _ => q
      rw [zcgj,d5,if_pos (by omega),if_neg (by omega),zcgy s s.Parties.length (by omega) (inR h false) hl _ _ (by omega) (by omega) [] (by simp) (by simp),obz,if_neg f,obz,LS.go]
   have out : (g9 s 0 = some (.ex ()) ∧ ∀ a,a < s.Parties.length → (∀ b,b < s.Parties.length → (a ≠ b → rrB s (a : Int) (b : Int) [] = true))) ∨ (g9 s 0 = some (.rt false) ∧ ∃ a,a < s.Parties.length ∧ ¬ (∀ b,b < s.Parties.length → (a ≠ b → rrB s (a : Int) (b : Int) [] = true))) := by
    refine zbmo (f := fun k => g9 s (k : Int)) ?_ ?_ ?_
    · show g9 s ((s.Parties.length : Nat) : Int) = _
      rw [zcgi,d6,if_neg (by omega),obz,LS.go]
    · intro k hk hp
      show g9 s (k : Int) = g9 s ((k + 1 : Nat) : Int)
      rw [zcgi,d6,if_pos (by omega)]
      rcases inn k hk with ⟨e,_⟩ | ⟨_,b,hb,q⟩
      · rw [e,obz]
        show (some (LS.nx (IntKind.i64.wrap ((k : Int) + 1))) : LSX) >>= _ = _
        rw [obz,LS.go,lw k (by omega)]
      · exact absurd (hp b hb) q
    · intro k hk hp
      show g9 s (k : Int) = _
      rw [zcgi,d6,if_pos (by omega)]
      rcases inn k hk with ⟨_,q⟩ | ⟨e,_⟩
      · exact absurd q hp
      · rw [e,obz]
        show (some (LS.dn (LX.rt false)) : LSX) >>= _ = _
        rw [obz,LS.go]
   rcases out with ⟨e,q⟩ | ⟨e,a,ha,q⟩
   · rw [e,obz]
     show some true = _
     congr 1
     refine (zb16.2 ⟨h,fun x y hx hy hxy => ?_⟩).symm
     have := q x.toNat (by omega) y.toNat (by omega) (by omega)
     rw [Int.toNat_of_nonneg hx.1,Int.toNat_of_nonneg hy.1,zbqr] at this
     exact this
   · rw [e,obz]
     show some false = _
     congr 1
     refine bo (P := False) ⟨fun t => q fun b hb hab => ?_,False.elim⟩ _ (by simp)
     exact zbqr.2 ((zb16.1 t).2 a b (by omega) (by omega) (by omega))
 · rw [if_neg c]
   congr 1
   exact bo (P := False) (by rw [zb16]; exact ⟨fun h => c (zbmz.2 h.1),False.elim⟩) _ (by simp)
theorem zc74 (s : aa) (hl : s.Arcs.length < 1000) : pk s = some (fbB s) := by
 unfold pk
 rw [zb14 s (by omega),obz]
 by_cases c : okS s = true
 · rw [if_pos c]
   have h := zbmz.1 c
   have np := h.np
   have nl := h.nl
   have rr : ∀ k : Nat,k < s.Parties.length → ue s (k : Int) (k : Int) s.Leaders = some (rrB s (k : Int) (k : Int) s.Leaders) := fun k hk =>
    zcgy s s.Parties.length (by omega) (inR h false) hl _ _ (by omega) (by omega) s.Leaders (fun v hv => by have := h.inl v hv; omega) (by omega)
   have fb : ∀ k : Nat,rrB s (k : Int) (k : Int) s.Leaders = true ↔ Fb s (k : Int) := fun k => by
    rw [zb4o]
    exact ⟨fun q => ⟨q.1,q.2.2⟩,fun q => ⟨q.1,q.1,q.2⟩⟩
   have out : (eh s 0 = some (.ex ()) ∧ ∀ v,v < s.Parties.length → ¬ Fb s ((v : Nat) : Int)) ∨ (eh s 0 = some (.rt false) ∧ ∃ v,v < s.Parties.length ∧ ¬ ¬ Fb s ((v : Nat) : Int)) := by
    refine zbmo (f := fun k => eh s (k : Int)) ?_ ?_ ?_
    · show eh s ((s.Parties.length : Nat) : Int) = _
      rw [wv,da,if_neg (by omega),obz,LS.go]
    · intro k hk hp
      show eh s (k : Int) = eh s ((k + 1 : Nat) : Int)
      rw [wv,da,if_pos (by omega),rr k hk,obz,if_neg (fun q => hp ((fb k).1 q)),obz,LS.go,lw k (by omega)]
    · intro k hk hp
      show eh s (k : Int) = _
      rw [wv,da,if_pos (by omega),rr k hk,obz,if_pos ((fb k).2 (Classical.not_not.1 hp)),obz,LS.go]
   rcases out with ⟨e,q⟩ | ⟨e,a,ha,q⟩
   · rw [e,obz]
     show some true = _
     congr 1
     exact (zb13.2 ⟨h,q⟩).symm
   · rw [e,obz]
     show some false = _
     congr 1
     exact bo (P := False) ⟨fun t => q ((zb13.1 t).2 a ha),False.elim⟩ _ (by simp)
 · rw [if_neg c]
   congr 1
   exact bo (P := False) (by rw [zb13]; exact ⟨fun h => c (zbmz.2 h.1),False.elim⟩) _ (by simp)
theorem zbxh (s : aa) (hl : s.Arcs.length < 1000) : zb5o s = some (zbyy s) := by
 unfold zb5o zbyy
 rw [zcpt s hl,obz]
 cases zbzw s with
 | true => rw [if_pos rfl,zc74 s hl,obz,Bool.true_and]
 | false => rw [if_neg (by decide),Bool.false_and]
theorem zbz0 (s : aa) (l : List Int) (i : Nat) (hi : i < l.length) (hl : l.length < 1000) : (d7 l s (i : Int) 0 = some (.ex ()) ∧ (l.take i).contains l[i] = false) ∨ (d7 l s (i : Int) 0 = some (.rt false) ∧ (l.take i).contains l[i] = true) := by
 have out : (d7 l s (i : Int) 0 = some (.ex ()) ∧ ∀ k,k < i → ¬ l[k]? = some l[i]) ∨ (d7 l s (i : Int) 0 = some (.rt false) ∧ ∃ k,k < i ∧ ¬ ¬ l[k]? = some l[i]) := by
  refine zbmo (f := fun k => d7 l s (i : Int) (k : Int)) ?_ ?_ ?_
  · show d7 l s (i : Int) (i : Int) = _
    rw [zcga,gn,if_neg (by omega),obz,LS.go]
  · intro k hk hp
    show d7 l s (i : Int) (k : Int) = d7 l s (i : Int) ((k + 1 : Nat) : Int)
    have hkl : k < l.length := by omega
    rw [zcga,gn,if_pos (by omega),fj hkl,obz,fj hi,obz,if_neg (fun e => hp (by rw [List.getElem?_eq_getElem hkl,e])),obz,LS.go,lw k (by omega)]
  · intro k hk hp
    show d7 l s (i : Int) (k : Int) = _
    have hkl : k < l.length := by omega
    have hp := Classical.not_not.1 hp
    rw [List.getElem?_eq_getElem hkl] at hp
    injection hp with hp
    rw [zcga,gn,if_pos (by omega),fj hkl,obz,fj hi,obz,if_pos hp,obz,LS.go]
 rcases out with ⟨e,q⟩ | ⟨e,k,hk,q⟩
 · refine .inl ⟨e,?_⟩
   cases c : (l.take i).contains l[i] with
   | false => rfl
   | true =>
    obtain ⟨k,hk,e⟩ := List.mem_iff_getElem.1 (List.contains_iff_mem.1 c)
    rw [List.length_take] at hk
    rw [List.getElem_take] at e
    exact absurd (by rw [List.getElem?_eq_getElem (by omega),e]) (q k (by omega))
 · refine .inr ⟨e,List.contains_iff_mem.2 ?_⟩
   have q := Classical.not_not.1 q
   exact List.mem_of_getElem? (i := k) (by rw [List.getElem?_take_of_lt hk]; exact q)
theorem zb3b (s : aa) (l : List Int) (hl : l.length < 1000) (ha : s.Arcs.length < 1000) : zb49 s l = some (paB s l) := by
 unfold zb49
 rw [zb14 s (by omega),obz]
 by_cases c : okS s = true
 · have h := zbmz.1 c
   have np := h.np
   rw [if_pos c]
   by_cases c0 : ((l.length : Nat) : Int) = 0
   · rw [if_pos c0]
     congr 1
     exact bo (P := False) (by rw [zbwe]; exact ⟨fun q => q.2.1 (List.eq_nil_of_length_eq_zero (by omega)),False.elim⟩) _ (by simp)
   · rw [if_neg c0]
     have hn : ¬ l = [] := fun e => c0 (by rw [e]; rfl)
     have out : (kg l s 0 = some (.ex ()) ∧ ∀ v,v < l.length → zboo s l v = true) ∨ (kg l s 0 = some (.rt false) ∧ ∃ v,v < l.length ∧ ¬ zboo s l v = true) := by
      have wk : ∀ j : Nat,j < 100000 → IntKind.i64.wrap (((j + 1 : Nat) : Int) - 1) = (j : Int) := fun j hj => by rw [wA (by omega) (by omega)]; omega
      refine zbmo (f := fun k => kg l s (k : Int)) ?_ ?_ ?_
      · show kg l s ((l.length : Nat) : Int) = _
        rw [zcf9,gp,if_neg (by omega),obz,LS.go]
      · intro k hk hp
        show kg l s (k : Int) = kg l s ((k + 1 : Nat) : Int)
        unfold zboo at hp
        rw [zbyn hk] at hp
        simp only [Bool.and_eq_true,Bool.or_eq_true,Bool.not_eq_true',decide_eq_true_iff] at hp
        obtain ⟨⟨p1,p2⟩,p3,p4⟩ := hp
        have e2 : d7 l s (k : Int) 0 = some (.ex ()) := by
         rcases zbz0 s l k hk hl with ⟨e,_⟩ | ⟨_,q⟩
         · exact e
         · rw [p3] at q; cases q
        rw [zcf9,gp,if_pos (by omega),fj hk,obz,if_neg (by omega),if_neg (by omega)]
        by_cases z : k = 0
        · rw [if_neg (by omega),e2,obz]
          show (some (LS.nx (IntKind.i64.wrap ((k : Int) + 1))) : LSX) >>= _ = _
          rw [obz,LS.go,lw k (by omega)]
        · obtain ⟨j,rfl⟩ : ∃ j,k = j + 1 := ⟨k - 1,by omega⟩
          have p4 := p4.resolve_left z
          rw [Nat.add_sub_cancel,zbyn (by omega)] at p4
          have hj : j < l.length := by omega
          rw [if_pos (by omega),wk j (by omega),fj hj,obz,zb0e s _ _ (by omega),obz,if_pos p4,e2,obz]
          show (some (LS.nx (IntKind.i64.wrap (((j + 1 : Nat) : Int) + 1))) : LSX) >>= _ = _
          rw [obz,LS.go,lw (j + 1) (by omega)]
      · intro k hk hp
        show kg l s (k : Int) = _
        unfold zboo at hp
        rw [zbyn hk] at hp
        simp only [Bool.and_eq_true,Bool.or_eq_true,Bool.not_eq_true',decide_eq_true_iff] at hp
        rw [zcf9,gp,if_pos (by omega),fj hk,obz]
        by_cases p1 : l[k] < 0
        · rw [if_pos p1,obz,LS.go]
        rw [if_neg p1]
        by_cases p2 : ((s.Parties.length : Nat) : Int) ≤ l[k]
        · rw [if_pos p2,obz,LS.go]
        rw [if_neg p2]
        have two : (l.take k).contains l[k] = true → d7 l s (k : Int) 0 = some (.rt false) := fun q => by
         rcases zbz0 s l k hk hl with ⟨_,q2⟩ | ⟨e,_⟩
         · rw [q] at q2; cases q2
         · exact e
        by_cases z : k = 0
        · have q : (l.take k).contains l[k] = true := by
           cases e : (l.take k).contains l[k] with
           | true => rfl
           | false => exact absurd ⟨⟨by omega,by omega⟩,e,.inl z⟩ hp
          rw [if_neg (by omega),two q,obz]
          show (some (LS.dn (LX.rt false)) : LSX) >>= _ = _
          rw [obz,LS.go]
        · obtain ⟨j,rfl⟩ : ∃ j,k = j + 1 := ⟨k - 1,by omega⟩
          have hj : j < l.length := by omega
          rw [if_pos (by omega),wk j (by omega),fj hj,obz,zb0e s _ _ (by omega),obz]
          by_cases p4 : zbl5 s.Arcs l[j] l[j + 1] = true
          · have q : (l.take (j + 1)).contains l[j + 1] = true := by
             cases e : (l.take (j + 1)).contains l[j + 1] with
             | true => rfl
             | false => exact absurd ⟨⟨by omega,by omega⟩,e,.inr (by rw [Nat.add_sub_cancel,zbyn hj]; exact p4)⟩ hp
            rw [if_pos p4,two q,obz]
            show (some (LS.dn (LX.rt false)) : LSX) >>= _ = _
            rw [obz,LS.go]
          · rw [if_neg p4,obz,LS.go]
     rcases out with ⟨e,q⟩ | ⟨e,a,ha,q⟩
     · rw [e,obz]
       show some true = _
       congr 1
       exact (zbwe.2 ⟨h,hn,q⟩).symm
     · rw [e,obz]
       show some false = _
       congr 1
       exact bo (P := False) ⟨fun t => q ((zbwe.1 t).2.2 a ha),False.elim⟩ _ (by simp)
 · rw [if_neg c]
   congr 1
   exact bo (P := False) (by rw [zbwe]; exact ⟨fun h => c (zbmz.2 h.1),False.elim⟩) _ (by simp)
theorem zb3d (v : Int) (s : aa) (hl : s.Arcs.length < 1000) (c : okS s = true) (n : Nat) : ∀ (i : Nat) (acc : List Int),n + i = s.Arcs.length → acc.length ≤ i → ng v s acc (i : Int) = some (acc ++ ind (fun a => decide (a.To = v)) (s.Arcs.drop i) i) := by
 induction n with
 | zero =>
  intro i acc h ha
  rw [zcgb,fi,if_neg (by omega),obz,LS.go,List.drop_of_length_le (by omega),ind,List.append_nil]
 | succ n ih =>
  intro i acc h ha
  have hi : i < s.Arcs.length := by omega
  rw [zcgb,fi,if_pos (by omega),zb14 s (by omega),obz,if_pos c,fj hi,obz,List.drop_eq_getElem_cons hi,ind]
  by_cases c : s.Arcs[i].To = v
  · rw [if_pos c,if_pos (by omega),if_pos (decide_eq_true c),obz,LS.go,lw i (by omega)]
    show ng v s (acc ++ [(i : Int)]) ((i + 1 : Nat) : Int) = _
    rw [ih (i + 1) _ (by omega) (by rw [List.length_append,List.length_singleton]; omega),List.append_assoc]
    rfl
  · rw [if_neg c,if_neg (by rw [decide_eq_false c]; decide),obz,LS.go,lw i (by omega)]
    show ng v s acc ((i + 1 : Nat) : Int) = _
    rw [ih (i + 1) _ (by omega) (by omega)]
    rfl
theorem zb3c (v : Int) (s : aa) (hl : s.Arcs.length < 1000) (c : okS s = true) (n : Nat) : ∀ (i : Nat) (acc : List Int),n + i = s.Arcs.length → acc.length ≤ i → nf v s acc (i : Int) = some (acc ++ ind (fun a => decide (a.From = v)) (s.Arcs.drop i) i) := by
 induction n with
 | zero =>
  intro i acc h ha
  rw [zcgc,fh,if_neg (by omega),obz,LS.go,List.drop_of_length_le (by omega),ind,List.append_nil]
 | succ n ih =>
  intro i acc h ha
  have hi : i < s.Arcs.length := by omega
  rw [zcgc,fh,if_pos (by omega),zb14 s (by omega),obz,if_pos c,fj hi,obz,List.drop_eq_getElem_cons hi,ind]
  by_cases c : s.Arcs[i].From = v
  · rw [if_pos c,if_pos (by omega),if_pos (decide_eq_true c),obz,LS.go,lw i (by omega)]
    show nf v s (acc ++ [(i : Int)]) ((i + 1 : Nat) : Int) = _
    rw [ih (i + 1) _ (by omega) (by rw [List.length_append,List.length_singleton]; omega),List.append_assoc]
    rfl
  · rw [if_neg c,if_neg (by rw [decide_eq_false c]; decide),obz,LS.go,lw i (by omega)]
    show nf v s acc ((i + 1 : Nat) : Int) = _
    rw [ih (i + 1) _ (by omega) (by omega)]
    rfl
theorem zbxj (s : aa) (hl : s.Arcs.length < 1000) (v : Int) : zb5m s v = some (zbmu (fun a => decide (a.To = v)) s) := by
 unfold zb5m zbmu
 by_cases c : okS s = true
 · have e : ng v s [] 0 = some ([] ++ ind _ (s.Arcs.drop 0) 0) := zb3d v s hl c s.Arcs.length 0 [] rfl (Nat.le_refl _)
   rw [if_pos c,e,obz,List.drop_zero,List.nil_append]
 · rw [if_neg c,zcgb,fi]
   by_cases d : (0 : Int) < ((s.Arcs.length : Nat) : Int)
   · rw [if_pos d,zb14 s (by omega),obz,if_neg c,obz,LS.go,obz]
   · rw [if_neg d,obz,LS.go,obz]
theorem zbxi (s : aa) (hl : s.Arcs.length < 1000) (v : Int) : zb5n s v = some (zbmu (fun a => decide (a.From = v)) s) := by
 unfold zb5n zbmu
 by_cases c : okS s = true
 · have e : nf v s [] 0 = some ([] ++ ind _ (s.Arcs.drop 0) 0) := zb3c v s hl c s.Arcs.length 0 [] rfl (Nat.le_refl _)
   rw [if_pos c,e,obz,List.drop_zero,List.nil_append]
 · rw [if_neg c,zcgc,fh]
   by_cases d : (0 : Int) < ((s.Arcs.length : Nat) : Int)
   · rw [if_pos d,zb14 s (by omega),obz,if_neg c,obz,LS.go,obz]
   · rw [if_neg d,obz,LS.go,obz]
open Go Go.RowKit Sh Ic
open Sh.ArgT (enc)
abbrev zb1g := Rec (ByteArray × List ByteArray × Unit)
abbrev zc9v := Rec (Int × Int × Int × ByteArray × Int × Unit)
abbrev zbvl := Rec (ByteArray × List zb1g × List zc9v × List Int × List ByteArray × Int × Int × Unit)
def zb0h (p : zb1g) : ag := ⟨p.val.1,p.val.2.1⟩
def zc8w (a : zc9v) : ac := ⟨a.val.1,a.val.2.1,a.val.2.2.1,a.val.2.2.2.1,a.val.2.2.2.2.1⟩
def zbw8 (x : zbvl) : aa := ⟨x.val.1,x.val.2.1.map zb0h,x.val.2.2.1.map zc8w,x.val.2.2.2.1,x.val.2.2.2.2.1,x.val.2.2.2.2.2.1,x.val.2.2.2.2.2.2.1⟩
theorem zbx4 (x : zbvl) : enc x = (zbw8 x).tv := by
 have h1 : x.val.2.1.map enc = (x.val.2.1.map zb0h).map ag.tv := by rw [List.map_map]; rfl
 have h2 : x.val.2.2.1.map enc = (x.val.2.2.1.map zc8w).map ac.tv := by rw [List.map_map]; rfl
 show TV.agg [.str x.val.1,.sl (x.val.2.1.map enc),.sl (x.val.2.2.1.map enc),.sl (x.val.2.2.2.1.map enc),.sl (x.val.2.2.2.2.1.map enc),.int .i64 x.val.2.2.2.2.2.1,.int .i64 x.val.2.2.2.2.2.2.1] = _
 rw [h1,h2]
 rfl
theorem zbw9 (x : zbvl) (h : Arg.ok x) : Wf (zbw8 x) := by
 obtain ⟨h1,h2,h3,h4,h5,h6,h7,_⟩ := (show Arg.ok x.val.1 ∧ Arg.ok x.val.2.1 ∧ Arg.ok x.val.2.2.1 ∧ Arg.ok x.val.2.2.2.1 ∧ Arg.ok x.val.2.2.2.2.1 ∧ Arg.ok x.val.2.2.2.2.2.1 ∧ Arg.ok x.val.2.2.2.2.2.2.1 ∧ True from h)
 exact ⟨fun v hv => zbyp (h4.2 v hv).1 (h4.2 v hv).2,zbyp h6.1 h6.2,zbyp h7.1 h7.2⟩
open Go Go.RowKit Sh Ic
open Sh.ArgT (enc)
theorem zbnm (s : aa) (hw : Wf s) (l : List Int) (v : Int) : xo s l v = some true := by
 unfold xo
 rcases zch5 s with e | ⟨e,ha,hp⟩
 · rw [e,obz,if_neg (by decide),zcgn,obz]
 · rw [e,obz,if_pos rfl]
   by_cases c : (12 : Int) < ((l.length : Nat) : Int)
   · rw [if_pos c,zcgn,obz]
   · have l1 := zcj5 (fun a => decide (a.To = v)) s (by omega)
     have l2 := zcj5 (fun a => decide (a.From = v)) s (by omega)
     rw [if_neg c,zciq s hw,obz,zcpt s (by omega),obz,if_pos (beq_self_eq_true _),zc5s s hw,obz,zc74 s (by omega),obz,if_pos (beq_self_eq_true _),zcce s hw,obz,zbxh s (by omega),obz,if_pos (beq_self_eq_true _),
      zbvm s hw l (by omega),obz,zb3b s l (by omega) (by omega),obz,if_pos (beq_self_eq_true _),zbv5 s hw,obz,zbxj s (by omega),obz,zbzz _ (by omega),obz,if_pos rfl,zbvt s hw,obz,zbxi s (by omega),obz,zbzz _ (by omega),obz,if_pos rfl,zcgn,obz]
theorem zda0 (x : zbvl) (l : List Int) (v : Int) (hx : Arg.ok x) (_ : Arg.ok l) (_ : Arg.ok v) : Lw G r6 [enc x,enc l,enc v] := ⟨_,by
 rw [zbx4]
 exact zddt (zbw8 x) l v true (zbnm (zbw8 x) (zbw9 x hx) l v) ⟨[],0⟩ (Nat.le_refl _)⟩
end Go.Proofs.Ytdcfoaafkppojaa
