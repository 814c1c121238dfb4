import Derived.Test.YtdcfoaafkppojaaM27
set_option linter.unusedSimpArgs false
set_option linter.unusedVariables false
namespace Go.Proofs.Ytdcfoaafkppojaa
open Go Go.RowKit Sh Ic
theorem zdg5 (l : List Bool) (hl : l.length < 1000000) (n : Nat) : ∀ i : Nat,n + i = l.length → ∃ r,ee l false (l.length : Nat) (i : Int) = some r ∧
 ((∃ v,r = .rt v ∧ 0 ≤ v ∧ (l.drop i).contains false = true) ∨ (r = .ex () ∧ (l.drop i).contains false = false)) := by
 induction n with
 | zero =>
  intro i h
  refine ⟨.ex (),?_,.inr ⟨rfl,?_⟩⟩
  · rw [qc,bg,if_neg (by omega),obz,LS.go]
  · rw [List.drop_of_length_le (by omega)]; rfl
 | succ n ih =>
  intro i h
  have hi : i < l.length := by omega
  rw [qc,bg,if_pos (by omega),fj hi,obz,List.drop_eq_getElem_cons hi,List.contains_cons]
  by_cases p : (false == l[i]) = true
  · rw [if_pos p,obz,LS.go]
    exact ⟨_,rfl,.inl ⟨_,rfl,by omega,by rw [p]; rfl⟩⟩
  · have p' := Bool.eq_false_iff.2 p
    rw [if_neg p,obz,LS.go,lw i (by omega),p',Bool.false_or]
    exact ih (i + 1) (by omega)
theorem zb85 (l : List Bool) (hl : l.length < 1000000) : cv l false = some (l.contains false) := by
 obtain ⟨r,h,q⟩ := zdg5 l hl l.length 0 rfl
 rw [List.drop_zero] at q
 have h : ee l false (l.length : Nat) 0 = some r := h
 unfold cv jp
 rw [h,obz]
 rcases q with ⟨v,rfl,h0,q⟩ | ⟨rfl,q⟩
 · show some (decide (0 ≤ v)) = _
   rw [q,decide_eq_true h0]
 · show some (decide ((0 : Int) ≤ -1)) = _
   rw [q]; rfl
theorem zdg3 (l : List Int) (x : Int) (hl : l.length < 1000000) (n : Nat) : ∀ i : Nat,n + i = l.length → ∃ r,ft l x (l.length : Nat) (i : Int) = some r ∧
 ((∃ v,r = .rt v ∧ 0 ≤ v ∧ (l.drop i).contains x = true) ∨ (r = .ex () ∧ (l.drop i).contains x = false)) := by
 induction n with
 | zero =>
  intro i h
  refine ⟨.ex (),?_,.inr ⟨rfl,?_⟩⟩
  · rw [sd,bk,if_neg (by omega),obz,LS.go]
  · rw [List.drop_of_length_le (by omega)]; rfl
 | succ n ih =>
  intro i h
  have hi : i < l.length := by omega
  rw [sd,bk,if_pos (by omega),fj hi,obz,List.drop_eq_getElem_cons hi,List.contains_cons]
  by_cases p : x = l[i]
  · rw [if_pos p,obz,LS.go]
    exact ⟨_,rfl,.inl ⟨_,rfl,by omega,by rw [beq_iff_eq.2 p]; rfl⟩⟩
  · rw [if_neg p,obz,LS.go,lw i (by omega),beq_eq_false_iff_ne.2 p,Bool.false_or]
    exact ih (i + 1) (by omega)
theorem zb35 (l : List Int) (x : Int) (hl : l.length < 1000000) : dq l x = some (l.contains x) := by
 obtain ⟨r,h,q⟩ := zdg3 l x hl l.length 0 rfl
 rw [List.drop_zero] at q
 have h : ft l x (l.length : Nat) 0 = some r := h
 unfold dq ky
 rw [h,obz]
 rcases q with ⟨v,rfl,h0,q⟩ | ⟨rfl,q⟩
 · show some (decide (0 ≤ v)) = _
   rw [q,decide_eq_true h0]
 · show some (decide ((0 : Int) ≤ -1)) = _
   rw [q]; rfl
def zbl5 (A : List ac) (x y : Int) : Bool := A.any fun a => decide (a.From = x) && decide (a.To = y)
theorem zdg0 (a : ac) (l : List Int) (i : Nat) (hi : i < l.length) (h1 : l.length < 1000000) (y : Int) : ry a l ((i + 1 : Nat) : Int) y = some (decide (a.From = l[i]) && decide (a.To = y)) := by
 have w : IntKind.i64.wrap (((i + 1 : Nat) : Int) - 1) = (i : Int) := by rw [wA (by omega) (by omega)]; omega
 unfold ry
 rw [w,fj hi,obz]
 by_cases c : a.From = l[i]
 · rw [if_pos c,decide_eq_true c,Bool.true_and]
 · rw [if_neg c,decide_eq_false c,Bool.false_and]
theorem zdg6 (A : List ac) (l : List Int) (j : Nat) (hj : j < l.length) (h1 : l.length < 1000000) (y : Int) (hl : A.length < 1000000) (n : Nat) : ∀ i : Nat,n + i = A.length → ∃ r,bl A l ((j + 1 : Nat) : Int) y (A.length : Nat) (i : Int) = some r ∧
 ((∃ v,r = .rt v ∧ 0 ≤ v ∧ zbl5 (A.drop i) l[j] y = true) ∨ (r = .ex () ∧ zbl5 (A.drop i) l[j] y = false)) := by
 induction n with
 | zero =>
  intro i h
  refine ⟨.ex (),?_,.inr ⟨rfl,?_⟩⟩
  · rw [lq,ax,if_neg (by omega),obz,LS.go]
  · rw [List.drop_of_length_le (by omega)]; rfl
 | succ n ih =>
  intro i h
  have hi : i < A.length := by omega
  unfold zbl5
  rw [lq,ax,if_pos (by omega),fj hi,obz,zdg0 _ l j hj h1,obz,zcbl _ _ _ hi]
  by_cases p : (decide (A[i].From = l[j]) && decide (A[i].To = y)) = true
  · rw [if_pos p,obz,LS.go]
    exact ⟨_,rfl,.inl ⟨_,rfl,by omega,by rw [p]; rfl⟩⟩
  · have p' := Bool.eq_false_iff.2 p
    rw [if_neg p,obz,LS.go,lw i (by omega),p',Bool.false_or]
    exact ih (i + 1) (by omega)
theorem zb86 (A : List ac) (l : List Int) (j : Nat) (hj : j < l.length) (h1 : l.length < 1000000) (y : Int) (hl : A.length < 1000000) : bm A l ((j + 1 : Nat) : Int) y = some (zbl5 A l[j] y) := by
 obtain ⟨r,h,q⟩ := zdg6 A l j hj h1 y hl A.length 0 rfl
 rw [List.drop_zero] at q
 have h : bl A l ((j + 1 : Nat) : Int) y (A.length : Nat) 0 = some r := h
 unfold bm db
 rw [h,obz]
 rcases q with ⟨v,rfl,h0,q⟩ | ⟨rfl,q⟩
 · show some (decide (0 ≤ v)) = _
   rw [q,decide_eq_true h0]
 · show some (decide ((0 : Int) ≤ -1)) = _
   rw [q]; rfl
abbrev T1 : Int → Bool := fun _ => true
theorem zbxn {n : Int} {a : ac} (h : zbmp n a = true) : (0 ≤ a.From ∧ a.From < n) ∧ (0 ≤ a.To ∧ a.To < n) := by
 unfold zbmp at h
 simp only [Bool.and_eq_true,qi] at h
 omega
theorem inR {s : aa} (h : Ok s) (back : Bool) : InR s.Parties.length back s.Arcs := ⟨fun a ha => by
 have q := zbxn (h.arcs a ha)
 cases back
 · exact q.2
 · exact q.1⟩
theorem zcbm {A : List ac} (x y : Int) : be true A T1 x y ↔ be false A T1 y x :=
 ⟨fun ⟨a,h1,h2,h3,_⟩ => ⟨a,h1,h3,h2,rfl⟩,fun ⟨a,h1,h2,h3,_⟩ => ⟨a,h1,h3,h2,rfl⟩⟩
def Str (s : aa) : Prop := ∀ a b : Int,0 ≤ a ∧ a < s.Parties.length → 0 ≤ b ∧ b < s.Parties.length → a ≠ b → Rch (be false s.Arcs T1) a b
def Hub (s : aa) : Prop := (∀ y : Int,0 ≤ y ∧ y < s.Parties.length → Rch (be false s.Arcs T1) 0 y) ∧ ∀ y : Int,0 ≤ y ∧ y < s.Parties.length → Rch (be true s.Arcs T1) 0 y
theorem zbqa {s : aa} (h : 2 ≤ s.Parties.length) : Str s ↔ Hub s := by
 constructor
 · intro q
   have h0 : Rch (be false s.Arcs T1) 0 0 := (q 0 1 (by omega) (by omega) (by decide)).trans (q 1 0 (by omega) (by omega) (by decide))
   refine ⟨fun y hy => ?_,fun y hy => ?_⟩
   · by_cases c : y = 0
     · rw [c]; exact h0
     · exact q 0 y (by omega) hy (fun e => c e.symm)
   · refine Rch.rev (E := be false s.Arcs T1) (fun x y e => (zcbm _ _).2 e) ?_
     by_cases c : y = 0
     · rw [c]; exact h0
     · exact q y 0 hy (by omega) c
 · rintro ⟨q1,q2⟩ a b ha hb _
   exact (Rch.rev (fun x y e => (zcbm _ _).1 e) (q2 a ha)).trans (q1 b hb)
open Classical in
noncomputable def zbzw (s : aa) : Bool := decide (Ok s ∧ Str s)
open Classical in
theorem zb16 {s : aa} : zbzw s = true ↔ Ok s ∧ Str s := by unfold zbzw; exact decide_eq_true_iff
theorem bo {b : Bool} {P : Prop} (h : b = true ↔ P) (c : Bool) (hc : c = true ↔ P) : c = b := by
 cases b <;> cases c <;> simp_all
theorem zbul {r : List Bool} : r.contains false = false ↔ ∀ y : Int,0 ≤ y ∧ y < r.length → Sn r y := by
 constructor
 · intro h y hy
   obtain ⟨b,hb⟩ := zb1x hy.1 hy.2
   cases b with
   | true => exact hb
   | false =>
    have : false ∈ r := List.mem_of_getElem? (zbwc.1 hb).2
    rw [← List.contains_iff_mem] at this
    rw [h] at this; cases this
 · intro h
   cases c : r.contains false with
   | false => rfl
   | true =>
    have := List.contains_iff_mem.1 c
    obtain ⟨j,hj,e⟩ := List.mem_iff_getElem.1 this
    have := h (j : Int) (by omega)
    unfold Sn at this
    rw [fj hj,e] at this; cases this
theorem zciq (s : aa) (hw : Wf s) : pd s = some (zbzw s) := by
 unfold pd
 rw [zb7b s hw,obz]
 by_cases c : okS s = true
 · rw [if_pos c]
   have h := zbmz.1 c
   have np := h.np
   have na := h.na
   obtain ⟨r1,e1,l1,q1⟩ := zcbt s 0 false (fun v => rx v) T1 (fun _ _ _ => rfl) (inR h false) (by omega) (by omega)
   obtain ⟨r2,e2,l2,q2⟩ := zcbt s 0 true (fun v => rx v) T1 (fun _ _ _ => rfl) (inR h true) (by omega) (by omega)
   have f1 : u6 s 0 false = some r1 := e1
   have f2 : u6 s 0 true = some r2 := e2
   have key : zbzw s = true ↔ r1.contains false = false ∧ r2.contains false = false := by
    rw [zb16,zbqa np.1,zbul,zbul,l1,l2]
    unfold Hub
    exact ⟨fun ⟨_,a,b⟩ => ⟨fun y hy => (q1 y).2 (a y hy),fun y hy => (q2 y).2 (b y hy)⟩,fun ⟨a,b⟩ => ⟨h,fun y hy => (q1 y).1 (a y hy),fun y hy => (q2 y).1 (b y hy)⟩⟩
   rw [f1,obz,zb85 r1 (by omega),obz]
   cases c1 : r1.contains false with
   | true =>
    rw [if_pos rfl]
    congr 1
    exact bo key _ (by rw [c1]; simp)
   | false =>
    rw [if_neg (by decide),f2,obz,zb85 r2 (by omega),obz]
    congr 1
    exact bo key _ (by rw [c1]; simp)
 · rw [if_neg c]
   congr 1
   exact bo (P := False) (by rw [zb16]; exact ⟨fun h => c (zbmz.2 h.1),False.elim⟩) _ (by simp)
abbrev pl (s : aa) : Int → Bool := fun y => !(s.Leaders.contains y)
def Fb (s : aa) (v : Int) : Prop := v ∉ s.Leaders ∧ Rch (be false s.Arcs (pl s)) v v
open Classical in
noncomputable def fbB (s : aa) : Bool := decide (Ok s ∧ ∀ v : Nat,v < s.Parties.length → ¬ Fb s (v : Int))
open Classical in
theorem zb13 {s : aa} : fbB s = true ↔ Ok s ∧ ∀ v : Nat,v < s.Parties.length → ¬ Fb s (v : Int) := by unfold fbB; exact decide_eq_true_iff
theorem zcbg (s : aa) (hl : s.Leaders.length < 1000000) (v : Int) : gi v s = some (pl s v) := by
 unfold gi
 rw [zb35 _ _ hl,obz]
theorem zc5s (s : aa) (hw : Wf s) : mg s = some (fbB s) := by
 unfold mg
 rw [zb7b s hw,obz]
 by_cases c : okS s = true
 · rw [if_pos c]
   have h := zbmz.1 c
   have np := h.np
   have na := h.na
   have nl := h.nl
   have out : (cw s (s.Parties.length : Nat) 0 = some (.ex ()) ∧ ∀ v,v < s.Parties.length → ¬ Fb s ((v : Nat) : Int)) ∨ (cw s (s.Parties.length : Nat) 0 = some (.rt false) ∧ ∃ v,v < s.Parties.length ∧ ¬ ¬ Fb s ((v : Nat) : Int)) := by
    refine zbmo (f := fun k => cw s (s.Parties.length : Nat) (k : Int)) ?_ ?_ ?_
    · show cw s (s.Parties.length : Nat) ((s.Parties.length : Nat) : Int) = _
      rw [r7,ca,if_neg (by omega),obz,LS.go]
    · intro k hk hp
      show cw s (s.Parties.length : Nat) (k : Int) = cw s (s.Parties.length : Nat) ((k + 1 : Nat) : Int)
      rw [r7,ca,if_pos (by omega),zcbg s (by omega),obz]
      by_cases d : pl s (k : Int) = true
      · obtain ⟨r,e,l,q⟩ := zcbt s (k : Int) false (fun v => gi v s) (pl s) (fun y _ _ => zcbg s (by omega) y) (inR h false) (by omega) (by omega)
        have e : xc s (k : Int) false s = some r := e
        obtain ⟨b,hb⟩ := zb1x (l := r) (i := (k : Int)) (by omega) (by omega)
        have hd : (k : Int) ∉ s.Leaders := by simpa using d
        rw [if_pos d,e,obz,hb,obz]
        cases b with
        | true => exact absurd ⟨hd,(q _).1 hb⟩ hp
        | false => rw [if_neg (by decide),obz,LS.go,lw k (by omega)]
      · rw [if_neg d,obz,LS.go,lw k (by omega)]
    · intro k hk hp
      have hp : Fb s (k : Int) := Classical.not_not.1 hp
      show cw s (s.Parties.length : Nat) (k : Int) = _
      have d : pl s (k : Int) = true := by simpa using hp.1
      obtain ⟨r,e,l,q⟩ := zcbt s (k : Int) false (fun v => gi v s) (pl s) (fun y _ _ => zcbg s (by omega) y) (inR h false) (by omega) (by omega)
      have e : xc s (k : Int) false s = some r := e
      have hb : ixL r (k : Int) = some true := (q _).2 hp.2
      rw [r7,ca,if_pos (by omega),zcbg s (by omega),obz,if_pos d,e,obz,hb,obz,if_pos rfl,obz,LS.go]
   rcases out with ⟨e,q⟩ | ⟨e,a,ha,q⟩
   · rw [e,obz]
     show some true = _
     congr 1
     exact (zb13.2 ⟨h,q⟩).symm
   · rw [e,obz]
     show some false = _
     congr 1
     exact bo (P := False) ⟨fun t => q ((zb13.1 t).2 a ha),False.elim⟩ _ (by simp)
 · rw [if_neg c]
   congr 1
   exact bo (P := False) (by rw [zb13]; exact ⟨fun h => c (zbmz.2 h.1),False.elim⟩) _ (by simp)
noncomputable def zbyy (s : aa) : Bool := zbzw s && fbB s
theorem zcce (s : aa) (hw : Wf s) : ov s = some (zbyy s) := by
 unfold ov zbyy
 rw [zciq s hw,obz]
 cases zbzw s with
 | true => rw [if_pos rfl,zc5s s hw,obz,Bool.true_and]
 | false => rw [if_neg (by decide),Bool.false_and]
def zboo (s : aa) (l : List Int) (i : Nat) : Bool :=
 (decide (0 ≤ l.getD i 0) && decide (l.getD i 0 < (s.Parties.length : Int))) && (!((l.take i).contains (l.getD i 0)) && (decide (i = 0) || zbl5 s.Arcs (l.getD (i - 1) 0) (l.getD i 0)))
open Classical in
noncomputable def paB (s : aa) (l : List Int) : Bool := decide (Ok s ∧ l ≠ [] ∧ ∀ i,i < l.length → zboo s l i = true)
open Classical in
theorem zbwe {s : aa} {l : List Int} : paB s l = true ↔ Ok s ∧ l ≠ [] ∧ ∀ i,i < l.length → zboo s l i = true := by unfold paB; exact decide_eq_true_iff
theorem zbyn {l : List Int} {i : Nat} (h : i < l.length) : l.getD i 0 = l[i] := by simp [List.getD,h]
theorem zbvm (s : aa) (hw : Wf s) (l : List Int) (hl : l.length < 1000) : qd s l = some (paB s l) := by
 unfold qd
 rw [zb7b s hw,obz]
 by_cases c : okS s = true
 · have h := zbmz.1 c
   have np := h.np
   have na := h.na
   rw [if_pos c]
   by_cases c0 : ((l.length : Nat) : Int) = 0
   · rw [if_pos c0]
     congr 1
     exact bo (P := False) (by rw [zbwe]; exact ⟨fun q => q.2.1 (List.eq_nil_of_length_eq_zero (by omega)),False.elim⟩) _ (by simp)
   · rw [if_neg c0]
     have hn : ¬ l = [] := fun e => c0 (by rw [e]; rfl)
     have out : (gw s l l (l.length : Nat) 0 = some (.ex ()) ∧ ∀ v,v < l.length → zboo s l v = true) ∨ (gw s l l (l.length : Nat) 0 = some (.rt false) ∧ ∃ v,v < l.length ∧ ¬ zboo s l v = true) := by
      refine zbmo (f := fun k => gw s l l (l.length : Nat) (k : Int)) ?_ ?_ ?_
      · show gw s l l (l.length : Nat) ((l.length : Nat) : Int) = _
        rw [zcgk,dy,if_neg (by omega),obz,LS.go]
      · intro k hk hp
        show gw s l l (l.length : Nat) (k : Int) = gw s l l (l.length : Nat) ((k + 1 : Nat) : Int)
        unfold zboo at hp
        rw [zbyn hk] at hp
        simp only [Bool.and_eq_true,Bool.or_eq_true,Bool.not_eq_true',decide_eq_true_iff] at hp
        obtain ⟨⟨p1,p2⟩,p3,p4⟩ := hp
        rw [zcgk,dy,if_pos (by omega),fj hk,obz,if_neg (by omega),if_neg (by omega),if_pos hn,if_pos (by omega),Int.toNat_natCast,zb35 _ _ (by rw [List.length_take]; omega),obz,if_neg (by rw [p3]; decide)]
        by_cases z : k = 0
        · rw [if_neg (by omega),obz,LS.go,lw k (by omega)]
        · obtain ⟨j,rfl⟩ : ∃ j,k = j + 1 := ⟨k - 1,by omega⟩
          have p4 := p4.resolve_left z
          rw [Nat.add_sub_cancel,zbyn (by omega)] at p4
          rw [if_pos (by omega),zb86 _ l j (by omega) (by omega) _ (by omega),obz,if_pos p4,obz,LS.go,lw (j + 1) (by omega)]
      · intro k hk hp
        show gw s l l (l.length : Nat) (k : Int) = _
        unfold zboo at hp
        rw [zbyn hk] at hp
        simp only [Bool.and_eq_true,Bool.or_eq_true,Bool.not_eq_true',decide_eq_true_iff] at hp
        rw [zcgk,dy,if_pos (by omega),fj hk,obz]
        by_cases p1 : l[k] < 0
        · rw [if_pos p1,obz,LS.go]
        rw [if_neg p1]
        by_cases p2 : ((s.Parties.length : Nat) : Int) ≤ l[k]
        · rw [if_pos p2,obz,LS.go]
        rw [if_neg p2,if_pos hn,if_pos (by omega),Int.toNat_natCast,zb35 _ _ (by rw [List.length_take]; omega),obz]
        by_cases p3 : (l.take k).contains l[k] = true
        · rw [if_pos p3,obz,LS.go]
        rw [if_neg p3]
        have p3 := Bool.eq_false_iff.2 p3
        by_cases z : k = 0
        · exact absurd ⟨⟨by omega,by omega⟩,p3,.inl z⟩ hp
        · obtain ⟨j,rfl⟩ : ∃ j,k = j + 1 := ⟨k - 1,by omega⟩
          have p4 : ¬ zbl5 s.Arcs l[j] l[j + 1] = true := fun q => hp ⟨⟨by omega,by omega⟩,p3,.inr (by rw [Nat.add_sub_cancel,zbyn (by omega)]; exact q)⟩
          rw [if_pos (by omega),zb86 _ l j (by omega) (by omega) _ (by omega),obz,if_neg p4,obz,LS.go]
     rcases out with ⟨e,q⟩ | ⟨e,a,ha,q⟩
     · rw [e,obz]
       show some true = _
       congr 1
       exact (zbwe.2 ⟨h,hn,q⟩).symm
     · rw [e,obz]
       show some false = _
       congr 1
       exact bo (P := False) ⟨fun t => q ((zbwe.1 t).2.2 a ha),False.elim⟩ _ (by simp)
 · rw [if_neg c]
   congr 1
   exact bo (P := False) (by rw [zbwe]; exact ⟨fun h => c (zbmz.2 h.1),False.elim⟩) _ (by simp)
def ind (p : ac → Bool) : List ac → Int → List Int
 | [],_ => []
 | a :: r,i => if p a = true then i :: ind p r (i + 1) else ind p r (i + 1)
theorem zbty (p : ac → Bool) : ∀ (l : List ac) (i : Int),(ind p l i).length ≤ l.length
 | [],_ => Nat.le_refl _
 | a :: r,i => by
  rw [ind]
  have := zbty p r (i + 1)
  split
  · rw [List.length_cons,List.length_cons]; omega
  · rw [List.length_cons]; omega
noncomputable def zbmu (p : ac → Bool) (s : aa) : List Int := if okS s = true then ind p s.Arcs 0 else []
theorem zb7k (v : Int) (A : List ac) (hl : A.length < 1000) (n : Nat) : ∀ (i : Nat) (acc : List Int),n + i = A.length → acc.length ≤ i → ko v A (A.length : Nat) acc (i : Int) = some (acc ++ ind (fun a => decide (a.To = v)) (A.drop i) i) := by
 induction n with
 | zero =>
  intro i acc h ha
  rw [zc3s,ep,if_neg (by omega),obz,LS.go,List.drop_of_length_le (by omega),ind,List.append_nil]
 | succ n ih =>
  intro i acc h ha
  have hi : i < A.length := by omega
  rw [zc3s,ep,if_pos (by omega),fj hi,obz,t9,obz,List.drop_eq_getElem_cons hi,ind]
  by_cases c : decide (A[i].To = v) = true
  · rw [if_pos c,if_pos (by omega),if_pos c,obz,LS.go,lw i (by omega)]
    show ko v A (A.length : Nat) (acc ++ [(i : Int)]) ((i + 1 : Nat) : Int) = _
    rw [ih (i + 1) _ (by omega) (by rw [List.length_append,List.length_singleton]; omega),List.append_assoc]
    rfl
  · rw [if_neg c,if_neg c,obz,LS.go,lw i (by omega)]
    show ko v A (A.length : Nat) acc ((i + 1 : Nat) : Int) = _
    rw [ih (i + 1) _ (by omega) (by omega)]
    rfl
theorem zb7j (v : Int) (A : List ac) (hl : A.length < 1000) (n : Nat) : ∀ (i : Nat) (acc : List Int),n + i = A.length → acc.length ≤ i → jt v A (A.length : Nat) acc (i : Int) = some (acc ++ ind (fun a => decide (a.From = v)) (A.drop i) i) := by
 induction n with
 | zero =>
  intro i acc h ha
  rw [zc3y,dv,if_neg (by omega),obz,LS.go,List.drop_of_length_le (by omega),ind,List.append_nil]
 | succ n ih =>
  intro i acc h ha
  have hi : i < A.length := by omega
  rw [zc3y,dv,if_pos (by omega),fj hi,obz,t8,obz,List.drop_eq_getElem_cons hi,ind]
  by_cases c : decide (A[i].From = v) = true
  · rw [if_pos c,if_pos (by omega),if_pos c,obz,LS.go,lw i (by omega)]
    show jt v A (A.length : Nat) (acc ++ [(i : Int)]) ((i + 1 : Nat) : Int) = _
    rw [ih (i + 1) _ (by omega) (by rw [List.length_append,List.length_singleton]; omega),List.append_assoc]
    rfl
  · rw [if_neg c,if_neg c,obz,LS.go,lw i (by omega)]
    show jt v A (A.length : Nat) acc ((i + 1 : Nat) : Int) = _
    rw [ih (i + 1) _ (by omega) (by omega)]
    rfl
theorem zbv5 (s : aa) (hw : Wf s) (v : Int) : qk s v = some (zbmu (fun a => decide (a.To = v)) s) := by
 unfold qk zb65 zbmu
 rw [zb7b s hw,obz]
 by_cases c : okS s = true
 · have na := (zbmz.1 c).na
   have e : ko v s.Arcs (s.Arcs.length : Nat) [] 0 = some ([] ++ ind _ (s.Arcs.drop 0) 0) := zb7k v s.Arcs (by omega) s.Arcs.length 0 [] rfl (Nat.le_refl _)
   rw [if_pos c,if_pos c,e,obz,obz,List.drop_zero,List.nil_append]
 · rw [if_neg c,if_neg c,obz]
theorem zbvt (s : aa) (hw : Wf s) (v : Int) : qj s v = some (zbmu (fun a => decide (a.From = v)) s) := by
 unfold qj xb zbmu
 rw [zb7b s hw,obz]
 by_cases c : okS s = true
 · have na := (zbmz.1 c).na
   have e : jt v s.Arcs (s.Arcs.length : Nat) [] 0 = some ([] ++ ind _ (s.Arcs.drop 0) 0) := zb7j v s.Arcs (by omega) s.Arcs.length 0 [] rfl (Nat.le_refl _)
   rw [if_pos c,if_pos c,e,obz,obz,List.drop_zero,List.nil_append]
 · rw [if_neg c,if_neg c,obz]
theorem zcj5 (p : ac → Bool) (s : aa) (hl : s.Arcs.length < 1000) : (zbmu p s).length < 1000 := by
 unfold zbmu
 have := zbty p s.Arcs 0
 split
 · omega
 · decide
open Go Go.RowKit Sh Ic
def zbn4 (k : Nat) : ByteArray := (⟨#[48,49,50,51,52,53,54,55,56,57]⟩ : ByteArray).extract k (k + 1)
def zbog (k : Nat) : ByteArray := (⟨#[112,97,114,116,121]⟩ : ByteArray) ++ zbn4 k
def zcbw (k : Nat) : ByteArray := (⟨#[115,101,99,114,101,116]⟩ : ByteArray) ++ zbn4 k
def zbif (k : Nat) : ByteArray := (⟨#[115,101,101,100]⟩ : ByteArray) ++ zbn4 k
theorem zb5d (k : Nat) (h : k < 10) : (zbn4 k).size = 1 := by
 unfold zbn4
 rw [ByteArray.size_extract]
 show min (k + 1) 10 - k = 1
 omega
theorem zcgq (k : Nat) (h : k < 10) : zw (k : Int) = some (zbn4 k) := by
 unfold zw
 rw [if_pos ⟨by omega,by omega⟩,Int.toNat_natCast]; rfl
theorem zbvg (k : Nat) (h : k < 10) : (zbog k).size = 6 := by unfold zbog; rw [ByteArray.size_append,zb5d k h]; rfl
theorem zbqm (k : Nat) (h : k < 10) : (zcbw k).size = 7 := by unfold zcbw; rw [ByteArray.size_append,zb5d k h]; rfl
theorem zbql (k : Nat) (h : k < 10) : (zbif k).size = 5 := by unfold zbif; rw [ByteArray.size_append,zb5d k h]; rfl
theorem zbvh (k : Nat) (h : k < 10) : o5 (k : Int) = some (zbog k) := by
 unfold o5
 rw [zcgq k h,obz,if_pos (by rw [zb5d k h]; decide)]; rfl
theorem zbxa (k : Nat) (h : k < 10) : zv (k : Int) = some (zcbw k) := by
 unfold zv
 rw [zcgq k h,obz,if_pos (by rw [zb5d k h]; decide)]; rfl
theorem zb78 (k : Nat) (h : k < 10) : zb48 (k : Int) = some (zbif k) := by
 unfold zb48
 rw [zcgq k h,obz,if_pos (by rw [zb5d k h]; decide)]; rfl
def zb3h (k : Nat) : ByteArray := SHA (zcbw k)
def zbxt (i k : Nat) : ByteArray := PUB (zbif i) (k : Int)
theorem zbyf (s : ByteArray) (k : Int) : (PUB s k).size = 16 := by unfold PUB; exact zbwq _
theorem zb3i (k : Nat) (h : k < 10) : zbnk (k : Int) = some (zb3h k) := by
 unfold zbnk
 rw [zbxa k h,obz,zbzu _ (by rw [zbqm k h]; decide)]; rfl
theorem zb8u (i k : Nat) (hi : i < 10) (hk : k < 10) : zb8v (i : Int) (k : Int) = some (zbxt i k) := by
 unfold zb8v
 rw [zb78 i hi,obz,zb8i _ (by rw [zbql i hi]; decide),if_pos (by unfold isK; omega)]; rfl
def upL (g : Nat → ByteArray) : Nat → Nat → List ByteArray
 | 0,_ => []
 | n + 1,k => g k :: upL g n (k + 1)
theorem zb2n (g : Nat → ByteArray) (n : Nat) : ∀ k,(upL g n k).length = n := by
 induction n with
 | zero => intro k; rfl
 | succ n ih => intro k; rw [upL,List.length_cons,ih]
theorem zb2m {g : Nat → ByteArray} {n : Nat} : ∀ {k : Nat} {x : ByteArray},x ∈ upL g n k → ∃ j,k ≤ j ∧ j < k + n ∧ x = g j := by
 induction n with
 | zero => intro k x h; cases h
 | succ n ih =>
  intro k x h
  rw [upL,List.mem_cons] at h
  rcases h with rfl | h
  · exact ⟨k,Nat.le_refl _,by omega,rfl⟩
  · obtain ⟨j,h1,h2,h3⟩ := ih h
    exact ⟨j,by omega,by omega,h3⟩
theorem zcch {f : Int → Option ByteArray} {g : Nat → ByteArray} (hf : ∀ k : Nat,k < 10 → f (k : Int) = some (g k)) (n : Nat) : ∀ (k : Nat) (l : List ByteArray),n + k ≤ 10 → zbmn f n k l = some (l ++ upL g n k) := by
 induction n with
 | zero => intro k l h; rw [zbmn,upL,List.append_nil]
 | succ n ih => intro k l h; rw [zbmn,hf k (by omega),obz,ih (k + 1) _ (by omega),upL,List.append_assoc]; rfl
def zbmq (L : Nat) : Nat → Nat → List ag
 | 0,_ => []
 | n + 1,k => ⟨zbog k,upL (zbxt k) L 0⟩ :: zbmq L n (k + 1)
theorem zc4z (L n : Nat) : ∀ k,(zbmq L n k).length = n := by
 induction n with
 | zero => intro k; rfl
 | succ n ih => intro k; rw [zbmq,List.length_cons,ih]
theorem zb25 (L : Nat) (hL : L ≤ 10) (n : Nat) : ∀ (k : Nat) (d : List ag),n + k ≤ 10 → zbyx L (bare (upL zbog n k)) k d = some (d ++ zbmq L n k) := by
 induction n with
 | zero => intro k d h; show some d = some (d ++ []); rw [List.append_nil]
 | succ n ih =>
  intro k d h
  show (zbmn (zb8v (k : Int)) L 0 [] >>= fun ks => zbyx L (bare (upL zbog n (k + 1))) (k + 1) (d ++ [⟨zbog k,ks⟩])) = _
  rw [zcch (g := zbxt k) (fun j hj => zb8u k j (by omega) hj) L 0 [] (by omega),obz,ih (k + 1) _ (by omega),List.append_assoc]
  rfl
def zboy (n : Nat) (start delta : Int) : aa := ⟨⟨#[114,105,110,103]⟩,zbmq 1 n 0,zblr n 0 2,[0],[zb3h 0],start,delta⟩
theorem zb8a (n : Nat) (start delta : Int) (h1 : 1 ≤ n) (h6 : n ≤ 6) : zb6u (n : Int) start delta = some (zboy n start delta) := by
 unfold zb6u
 have e1 : zb6v (n : Int) 0 2 = some (zblr n 0 2) := if_pos ⟨⟨by omega,by omega⟩,by decide,by decide⟩
 rw [if_pos ⟨by omega,by omega⟩,e1,obz,Int.toNat_natCast,zcch zbvh n 0 [] (by omega),obz,zcch zb3i 1 0 [] (by omega),obz,List.nil_append,zb25 1 (by omega) n 0 [] (by omega),obz]
 rfl
theorem zb24 (L : Nat) (n : Nat) : ∀ k,n + k ≤ 10 → ∀ p ∈ zbmq L n k,zbwu (L : Int) p = true := by
 induction n with
 | zero => intro k h p hp; cases hp
 | succ n ih =>
  intro k h p hp
  rw [zbmq,List.mem_cons] at hp
  rcases hp with rfl | hp
  · unfold zbwu
    rw [Bool.and_eq_true,zc53,zb6t]
    refine ⟨by show 1 ≤ (zbog k).size ∧ (zbog k).size ≤ 16; rw [zbvg k (by omega)]; decide,by show ((upL (zbxt k) L 0).length : Int) = _; rw [zb2n],fun x hx => ?_⟩
    obtain ⟨j,_,_,rfl⟩ := zb2m hx
    show ((PUB _ _).size : Int) = 16
    rw [zbyf]; rfl
  · exact ih (k + 1) (by omega) p hp
theorem zbqs (L n : Nat) : ∀ k,(zbmq L n k).map ag.Account = upL zbog n k := by
 induction n with
 | zero => intro k; rfl
 | succ n ih => intro k; rw [zbmq,List.map_cons,ih,upL]
theorem zbyd : (upL zbog 6 0).Nodup := by decide +kernel
theorem zbw1 (g : Nat → ByteArray) (n m : Nat) : ∀ k,upL g n k = (upL g (n + m) k).take n := by
 induction n with
 | zero => intro k; rfl
 | succ n ih => intro k; rw [Nat.succ_add,upL,upL,List.take_succ_cons,← ih]
theorem zdak (n : Nat) (h : n ≤ 6) : (upL zbog n 0).Nodup := by
 have e := zbw1 zbog n (6 - n) 0
 rw [show n + (6 - n) = 6 by omega] at e
 rw [e]
 exact zbyd.sublist (List.take_sublist _ _)
def zb2b (n : Nat) (l : List ac) : Bool := l.all (zbmp (n : Int)) && decide ((l.map fun a => (a.From,a.To)).Nodup) && decide (1 ≤ l.length) && decide (l.length ≤ 12)
theorem zbqw : (zb2b 2 (zblr 2 0 2) && zb2b 3 (zblr 3 0 2) && zb2b 4 (zblr 4 0 2) && zb2b 5 (zblr 5 0 2) && zb2b 6 (zblr 6 0 2)) = true := by decide +kernel
theorem zbqv (n : Nat) (h2 : 2 ≤ n) (h6 : n ≤ 6) : zb2b n (zblr n 0 2) = true := by
 have h := zbqw
 simp only [Bool.and_eq_true] at h
 obtain ⟨⟨⟨⟨a,b⟩,c⟩,d⟩,e⟩ := h
 have : n = 2 ∨ n = 3 ∨ n = 4 ∨ n = 5 ∨ n = 6 := by omega
 rcases this with rfl | rfl | rfl | rfl | rfl <;> assumption
theorem zb26 (n : Nat) (start delta : Int) (h2 : 2 ≤ n) (h6 : n ≤ 6) (hs : 0 ≤ start ∧ start ≤ 1099511627776) (hd : 1 ≤ delta ∧ delta ≤ 1048576) : Ok (zboy n start delta) := by
 have g := zbqv n h2 h6
 unfold zb2b at g
 simp only [Bool.and_eq_true,decide_eq_true_iff,List.all_eq_true] at g
 obtain ⟨⟨⟨g1,g2⟩,g3⟩,g4⟩ := g
 have ln : (zbmq 1 n 0).length = n := zc4z 1 n 0
 refine ⟨by show zbl2 ⟨#[114,105,110,103]⟩ = true; decide +kernel,?_,by show 1 ≤ 1 ∧ 1 ≤ 3; decide,⟨g3,g4⟩,⟨rfl,fun x hx => ?_⟩,hs,hd,zb24 1 n 0 (by omega),?_,?_,g2,by show [(0 : Int)].Nodup; decide,fun v hv => ?_⟩
 · show 2 ≤ (zbmq 1 n 0).length ∧ (zbmq 1 n 0).length ≤ 6
   omega
 · have : x = zb3h 0 := by simpa [zboy] using hx
   rw [this]; exact zcgs _
 · show ∀ a ∈ zblr n 0 2,zbmp ((zbmq 1 n 0).length : Nat) a = true
   rw [ln]; exact g1
 · show ((zbmq 1 n 0).map ag.Account).Nodup
   rw [zbqs]; exact zdak n h6
 · have : v = 0 := by simpa [zboy] using hv
   rw [this]
   show (0 : Int) ≤ 0 ∧ (0 : Int) < ((zbmq 1 n 0).length : Nat)
   omega
open Go Go.RowKit Sh Ic
def prs (A : List ac) : List (Int × Int) := A.map fun a => (a.From,a.To)
theorem zchd {A : List ac} {P : Int → Bool} {x y : Int} : be false A P x y ↔ (x,y) ∈ prs A ∧ P y = true := by
 unfold prs
 rw [List.mem_map]
 constructor
 · rintro ⟨a,h1,h2,h3,h4⟩
   have h2 : a.From = x := h2
   have h3 : a.To = y := h3
   exact ⟨⟨a,h1,by rw [h2,h3]⟩,h4⟩
 · rintro ⟨⟨a,h1,h2⟩,h4⟩
   injection h2 with h2 h3
   exact ⟨a,h1,h2,h3,h4⟩
theorem zb8f {E : Int → Int → Prop} (h : ∀ x y,E x y → x < y) {x y : Int} (r : Rch E x y) : x < y := by
 induction r with
 | one e => exact h _ _ e
 | snoc _ e ih => have := h _ _ e; omega
theorem zbxd {s : aa} (n : Nat) (hn : s.Parties.length = n) (h2 : 2 ≤ n) (h1 : ∀ k : Nat,k + 1 < n → ((k : Int),((k + 1 : Nat) : Int)) ∈ prs s.Arcs) (h0 : (((n - 1 : Nat) : Int),(0 : Int)) ∈ prs s.Arcs) : Hub s := by
 have fe : ∀ k : Nat,k + 1 < n → be false s.Arcs T1 (k : Int) ((k + 1 : Nat) : Int) := fun k hk => zchd.2 ⟨h1 k hk,rfl⟩
 have le : be false s.Arcs T1 ((n - 1 : Nat) : Int) 0 := zchd.2 ⟨h0,rfl⟩
 have fw : ∀ k : Nat,k + 1 < n → Rch (be false s.Arcs T1) 0 ((k + 1 : Nat) : Int) := by
  intro k
  induction k with
  | zero => intro hk; exact .one (fe 0 hk)
  | succ k ih => intro hk; exact .snoc (ih (by omega)) (fe (k + 1) hk)
 have bw : ∀ j : Nat,j < n → Rch (be true s.Arcs T1) 0 ((n - 1 - j : Nat) : Int) := by
  intro j
  induction j with
  | zero => intro _; exact .one ((zcbm _ _).2 le)
  | succ j ih =>
   intro hj
   refine .snoc (ih (by omega)) ((zcbm _ _).2 ?_)
   have := fe (n - 1 - (j + 1)) (by omega)
   rw [show n - 1 - (j + 1) + 1 = n - 1 - j by omega] at this
   exact this
 constructor
 · intro y hy
   rw [hn] at hy
   by_cases c : y = 0
   · rw [c]
     have := fw (n - 2) (by omega)
     rw [show n - 2 + 1 = n - 1 by omega] at this
     exact .snoc this le
   · have := fw (y.toNat - 1) (by omega)
     rw [show ((y.toNat - 1 + 1 : Nat) : Int) = y by omega] at this
     exact this
 · intro y hy
   rw [hn] at hy
   have := bw (n - 1 - y.toNat) (by omega)
   rw [show ((n - 1 - (n - 1 - y.toNat) : Nat) : Int) = y by omega] at this
   exact this
theorem zcht {s : aa} (h : Ok s) : Wf s := ⟨fun v hv => by
 have := h.inl v hv
 have np := h.np
 exact zbyp (by omega) (by omega),by have := h.start; exact zbyp (by omega) (by omega),by have := h.delta; exact zbyp (by omega) (by omega)⟩
theorem zb3x {s : aa} (h : Ok s) (hl : s.Leaders = [0]) (hp : ((prs s.Arcs).all fun p => decide (p.2 = 0) || decide (p.1 < p.2)) = true) : fbB s = true := by
 refine zb13.2 ⟨h,fun v _ hf => ?_⟩
 have := zb8f (fun x y e => by
  obtain ⟨e1,e2⟩ := zchd.1 e
  rw [List.all_eq_true] at hp
  have := hp _ e1
  simp only [Bool.or_eq_true,decide_eq_true_iff] at this
  rcases this with t | t
  · exfalso
    have e2 : (!(s.Leaders.contains y)) = true := e2
    rw [hl,t] at e2
    exact absurd e2 (by decide)
  · exact t) hf.2
 omega
theorem zbxp : ¬ Ok (⟨(⟨#[]⟩ : ByteArray),[],[],[],[],(0 : Int),(0 : Int)⟩ : aa) := fun h => absurd h.np.1 (by decide)
theorem zchr : prs (zblr 3 0 2) = [(0,1),(1,2),(2,0)] := by decide +kernel
theorem zbqx (a b : Int) : (zboy 3 a b).Parties.length = 3 := zc4z 1 3 0
theorem zchs : zbl5 (zblr 3 0 2) 0 1 = true ∧ zbl5 (zblr 3 0 2) 1 2 = true ∧ zbl5 (zblr 3 0 2) 0 2 = false ∧ (ind (fun a => decide (a.To = 0)) (zblr 3 0 2) 0).length = 1 ∧ (ind (fun a => decide (a.From = 0)) (zblr 3 0 2) 0).length = 1 := by decide +kernel
theorem zcgn : up = some true := by
 have h := zb26 3 5 6 (by decide) (by decide) (by decide) (by decide)
 have hw := zcht h
 have np := zbqx 5 6
 obtain ⟨q1,q2,q3,q4,q5⟩ := zchs
 have e := zb8a 3 5 6 (by decide) (by decide)
 have e : zb6u 3 5 6 = some (zboy 3 5 6) := e
 have v1 : zbyy (zboy 3 5 6) = true := by
  unfold zbyy
  rw [Bool.and_eq_true]
  constructor
  · refine zb16.2 ⟨h,(zbqa (by omega)).2 (zbxd 3 np (by decide) (fun k hk => ?_) ?_)⟩
    · show _ ∈ prs (zblr 3 0 2)
      rw [zchr]
      have : k = 0 ∨ k = 1 := by omega
      rcases this with rfl | rfl <;> decide
    · show _ ∈ prs (zblr 3 0 2)
      rw [zchr]; decide
  · refine zb3x h rfl ?_
    show ((prs (zblr 3 0 2)).all _) = true
    rw [zchr]; decide
 have p1 : paB (zboy 3 5 6) [0,1,2] = true := by
  refine zbwe.2 ⟨h,by simp,fun i hi => ?_⟩
  have : i = 0 ∨ i = 1 ∨ i = 2 := by simp at hi; omega
  unfold zboo
  rw [np]
  rcases this with rfl | rfl | rfl
  · decide
  · show (_ && (_ && (_ || zbl5 (zblr 3 0 2) 0 1))) = true
    rw [q1]; decide
  · show (_ && (_ && (_ || zbl5 (zblr 3 0 2) 1 2))) = true
    rw [q2]; decide
 have p2 : paB (zboy 3 5 6) [0,2] = false := by
  refine Bool.eq_false_iff.2 fun t => ?_
  have := (zbwe.1 t).2.2 1 (by decide)
  unfold zboo at this
  rw [np] at this
  have this : (_ && (_ && (_ || zbl5 (zblr 3 0 2) 0 2))) = true := this
  rw [q3] at this
  exact absurd this (by decide)
 have v2 : zbyy (⟨(⟨#[]⟩ : ByteArray),[],[],[],[],(0 : Int),(0 : Int)⟩ : aa) = false := by
  refine Bool.eq_false_iff.2 fun t => ?_
  unfold zbyy at t
  rw [Bool.and_eq_true] at t
  exact zbxp (zb16.1 t.1).1
 have n1 : ((zbmu (fun a => decide (a.To = 0)) (zboy 3 5 6)).length : Int) = 1 := by
  unfold zbmu
  rw [if_pos (zcbr h)]
  show ((ind _ (zblr 3 0 2) 0).length : Int) = 1
  rw [q4]; rfl
 have n2 : ((zbmu (fun a => decide (a.From = 0)) (zboy 3 5 6)).length : Int) = 1 := by
  unfold zbmu
  rw [if_pos (zcbr h)]
  show ((ind _ (zblr 3 0 2) 0).length : Int) = 1
  rw [q5]; rfl
 unfold up
 rw [e,obz,zcce _ hw,obz,if_pos v1,zbvm _ hw _ (by decide),obz,if_pos p1,zbvm _ hw _ (by decide),obz,if_neg (by rw [p2]; decide),zbv5 _ hw,obz,if_pos n1,zbvt _ hw,obz,if_pos n2,
  zcce _ ⟨fun v hv => (by cases hv),by decide,by decide⟩,obz,v2]
 rfl
open Go Go.RowKit Sh Ic
theorem zbtw {α : Type} {l m : List α} {i : Int} {x : α} (h : ixL l i = some x) : ixL (l ++ m) i = some x := by
 rw [zbwc] at *
 exact ⟨h.1,by rw [List.getElem?_append_left (List.getElem?_eq_some_iff.1 h.2).1]; exact h.2⟩
theorem zchp (a b : Int) (s : aa) (out : List Int) (ho : ∀ v ∈ out,0 ≤ v ∧ v < 6) (hl : out.length < 1000) (n : Nat) : ∀ (i : Nat) (g : List Bool),n + i = out.length → g.length = 6 →
 ∃ g',rz a b out s g (i : Int) = some g' ∧ g'.length = 6 ∧ ∀ y,Sn g' y ↔ Sn g y ∨ y ∈ out.drop i := by
 induction n with
 | zero =>
  intro i g h hg
  refine ⟨g,?_,hg,fun y => ?_⟩
  · rw [zc2u,g7,if_neg (by omega),obz,LS.go]
  · rw [List.drop_of_length_le (by omega)]; simp
 | succ n ih =>
  intro i g h hg
  have hi : i < out.length := by omega
  have hv := ho out[i] (List.getElem_mem hi)
  obtain ⟨g',h1,h2,h3⟩ := ih (i + 1) (g.set out[i].toNat true) (by omega) (by rw [List.length_set]; exact hg)
  refine ⟨g',?_,h2,fun y => ?_⟩
  · rw [zc2u,g7,if_pos (by omega),fj hi,obz,if_pos ⟨hv.1,hv.2⟩,if_pos (by omega),obz,LS.go,lw i (by omega)]
    exact h1
  · rw [h3,zbts hv.1 (by rw [hg]; exact hv.2),List.drop_eq_getElem_cons hi,List.mem_cons]
    constructor
    · rintro ((h | h) | h)
      · exact .inr (.inl h)
      · exact .inl h
      · exact .inr (.inr h)
    · rintro (h | h | h)
      · exact .inl (.inr h)
      · exact .inl (.inl h)
      · exact .inr h
section
variable (s : aa) (np : Nat) (hnp : np ≤ 6) (hA : InR np false s.Arcs) (hAl : s.Arcs.length < 1000) (g : List Bool) (P : Int → Bool) (hg : g.length = 6) (hP : ∀ y,Sn g y ↔ P y = false) (b : Int)
include hnp hA hAl hg hP
theorem zchn (i x : Int) (n : Nat) : ∀ (k : Nat) (iq : List Bool) (l : List Int),n + k = s.Arcs.length → iq.length = 6 → l.length + un iq ≤ 1000 → ixL l i = some x →
 ∃ r,pi b s g i iq l (k : Int) = some r ∧
  ((∃ s',r = .rt (true,s') ∧ be false s.Arcs P x b) ∨
   ∃ l' seen',r = .ex (l',seen') ∧ seen'.length = 6 ∧ l'.length + un seen' = l.length + un iq ∧ l.length ≤ l'.length ∧ (∀ j z,ixL l j = some z → ixL l' j = some z) ∧ (∀ j z,j < (l.length : Int) → ixL l' j = some z → ixL l j = some z) ∧ (∀ y,Sn iq y → Sn seen' y) ∧
    (∀ y,Sn seen' y → Sn iq y ∨ (y ∈ l' ∧ be false s.Arcs P x y)) ∧ (∀ t ∈ l',t ∈ l ∨ be false s.Arcs P x t) ∧ (∀ t ∈ l,t ∈ l') ∧ (∀ y,be false (s.Arcs.drop k) P x y → Sn seen' y ∧ y ≠ b)) := by
 induction n with
 | zero =>
  intro k iq l h hs hb hx
  refine ⟨.ex (l,iq),?_,.inr ⟨l,iq,rfl,hs,rfl,Nat.le_refl _,fun _ _ h => h,fun _ _ _ h => h,fun _ h => h,fun _ h => .inl h,fun _ h => .inl h,fun _ h => h,?_⟩⟩
  · rw [zc2w,gx,if_neg (by omega),obz,LS.go]
  · rintro y ⟨q,hq,_⟩
    rw [List.drop_of_length_le (by omega)] at hq
    cases hq
 | succ n ih =>
  intro k iq l h hs hb hx
  have hk : k < s.Arcs.length := by omega
  obtain ⟨q,hq⟩ : ∃ q,q = s.Arcs[k] := ⟨_,rfl⟩
  have hqm : q ∈ s.Arcs := by rw [hq]; exact List.getElem_mem hk
  have hy : 0 ≤ q.To ∧ q.To < (np : Int) := hA.y q hqm
  -- nothing comes of this arc
  have skip : (¬ (q.From = x ∧ P q.To = true) ∨ (Sn iq q.To ∧ q.To ≠ b)) → ∃ r,pi b s g i iq l ((k + 1 : Nat) : Int) = some r ∧
   ((∃ s',r = .rt (true,s') ∧ be false s.Arcs P x b) ∨
    ∃ l' seen',r = .ex (l',seen') ∧ seen'.length = 6 ∧ l'.length + un seen' = l.length + un iq ∧ l.length ≤ l'.length ∧ (∀ j z,ixL l j = some z → ixL l' j = some z) ∧ (∀ j z,j < (l.length : Int) → ixL l' j = some z → ixL l j = some z) ∧ (∀ y,Sn iq y → Sn seen' y) ∧
     (∀ y,Sn seen' y → Sn iq y ∨ (y ∈ l' ∧ be false s.Arcs P x y)) ∧ (∀ t ∈ l',t ∈ l ∨ be false s.Arcs P x t) ∧ (∀ t ∈ l,t ∈ l') ∧ (∀ y,be false (s.Arcs.drop k) P x y → Sn seen' y ∧ y ≠ b)) := by
   intro hno
   obtain ⟨r,h1,h2⟩ := ih (k + 1) iq l (by omega) hs hb hx
   refine ⟨r,h1,h2.imp id ?_⟩
   rintro ⟨l',seen',e1,e2,e3,e4,e5,e5b,e6,e7,e8,e9,e10⟩
   refine ⟨l',seen',e1,e2,e3,e4,e5,e5b,e6,e7,e8,e9,?_⟩
   rintro y ⟨a,ha,f1,f2,f3⟩
   rw [List.drop_eq_getElem_cons hk,← hq] at ha
   rcases List.mem_cons.1 ha with rfl | ha
   · have f2 : a.To = y := f2
     have f1 : a.From = x := f1
     subst f2
     rcases hno with hno | hno
     · exact absurd ⟨f1,f3⟩ hno
     · exact ⟨e6 _ hno.1,hno.2⟩
   · exact e10 y ⟨a,ha,f1,f2,f3⟩
  rw [zc2w,gx,if_pos (by omega),fj hk,← hq,obz,hx,obz]
  by_cases c : q.From = x
  · rw [if_pos c,if_pos ⟨hy.1,by omega⟩]
    obtain ⟨t,ht⟩ := zb1x (l := g) hy.1 (by rw [hg]; omega)
    rw [ht,obz]
    cases t with
    | true =>
     rw [if_pos rfl,obz,LS.go,lw k (by omega)]
     have := (hP q.To).1 ht
     exact skip (.inl fun h => by rw [this] at h; cases h.2)
    | false =>
     have hPt : P q.To = true := by
      cases e : P q.To with
      | true => rfl
      | false => have := (hP q.To).2 e; unfold Sn at this; rw [ht] at this; cases this
     have ed : be false s.Arcs P x q.To := ⟨q,hqm,c,rfl,hPt⟩
     rw [if_neg (by decide)]
     by_cases cb : q.To = b
     · rw [if_pos cb,obz,LS.go]
       exact ⟨_,rfl,.inl ⟨_,rfl,by rw [← cb]; exact ed⟩⟩
     · rw [if_neg cb]
       obtain ⟨t,ht2⟩ := zb1x (l := iq) hy.1 (by rw [hs]; omega)
       rw [ht2,obz]
       cases t with
       | true => rw [if_pos rfl,obz,LS.go,lw k (by omega)]; exact skip (.inr ⟨ht2,cb⟩)
       | false =>
        have hu := zbpb iq q.To.toNat (zbwc.1 ht2).2
        rw [if_neg (by decide),if_pos (by omega),if_pos (by omega),obz,LS.go,lw k (by omega)]
        have hset : ∀ z,Sn (iq.set q.To.toNat true) z ↔ z = q.To ∨ Sn iq z := fun z => zbts hy.1 (by rw [hs]; omega)
        obtain ⟨r,h1,h2⟩ := ih (k + 1) (iq.set q.To.toNat true) (l ++ [q.To]) (by omega) (by rw [List.length_set]; exact hs) (by rw [List.length_append,List.length_singleton]; omega) (zbtw hx)
        refine ⟨r,h1,h2.imp id ?_⟩
        rintro ⟨l',seen',e1,e2,e3,e4,e5,e5b,e6,e7,e8,e9,e10⟩
        rw [List.length_append,List.length_singleton] at e3 e4 e5b
        have sy : Sn seen' q.To := e6 _ ((hset _).2 (.inl rfl))
        have my : q.To ∈ l' := e9 _ (by simp)
        refine ⟨l',seen',e1,e2,by omega,by omega,fun j z hz => e5 j z (zbtw hz),fun j z hj hz => ?_,fun y hy => e6 y ((hset y).2 (.inr hy)),fun y hy => ?_,fun t ht => ?_,fun t ht => e9 t (List.mem_append_left _ ht),?_⟩
        · have := e5b j z (by omega) hz
          rw [zbwc] at *
          exact ⟨this.1,by rw [← List.getElem?_append_left (l₂ := [q.To]) (by omega)]; exact this.2⟩
        · rcases e7 y hy with hy | hy
          · rcases (hset y).1 hy with rfl | hy
            · exact .inr ⟨my,ed⟩
            · exact .inl hy
          · exact .inr hy
        · rcases e8 t ht with ht | ht
          · rcases List.mem_append.1 ht with ht | ht
            · exact .inl ht
            · have : t = q.To := by simpa using ht
              subst this
              exact .inr ed
          · exact .inr ht
        · rintro y ⟨a,ha,f1,f2,f3⟩
          rw [List.drop_eq_getElem_cons hk,← hq] at ha
          rcases List.mem_cons.1 ha with rfl | ha
          · have f2 : a.To = y := f2
            subst f2
            exact ⟨sy,cb⟩
          · exact e10 y ⟨a,ha,f1,f2,f3⟩
  · rw [if_neg c,obz,LS.go,lw k (by omega)]
    exact skip (.inl fun h => c h.1)
structure zb9m (o : Int) (iq : List Bool) (l : List Int) (i : Nat) : Prop where
 hn : iq.length = 6
 hb : l.length + un iq ≤ 1000
 hle : i ≤ l.length
 hs : ∀ y,Sn iq y → Rch (be false s.Arcs P) o y
 ht : ∀ t ∈ l,t = o ∨ Rch (be false s.Arcs P) o t
 ho : o ∈ l
 hm : ∀ y,Sn iq y → y ∈ l
 hc : ∀ (j : Nat) x,j < i → ixL l (j : Int) = some x → ∀ y,be false s.Arcs P x y → Sn iq y ∧ y ≠ b
omit hnp hA hAl hg hP in
theorem zb8o {l : List Int} {x : Int} (h : x ∈ l) : ∃ j : Nat,j < l.length ∧ ixL l (j : Int) = some x := by
 obtain ⟨j,hj,e⟩ := List.mem_iff_getElem.1 h
 exact ⟨j,hj,by rw [fj hj,e]⟩
theorem zcho (o : Int) (n : Nat) : ∀ (iq : List Bool) (l : List Int) (i : Nat),un iq + (l.length - i) ≤ n → zb9m s P b o iq l i →
 ∃ r,pj b s g iq l (i : Int) = some r ∧ ((∃ s',r = .rt (true,s') ∧ Rch (be false s.Arcs P) o b) ∨ (∃ s',r = .ex s') ∧ ¬ Rch (be false s.Arcs P) o b) := by
 have fin : ∀ (iq : List Bool) (l : List Int) (i : Nat),i = l.length → zb9m s P b o iq l i → ∃ r,pj b s g iq l (i : Int) = some r ∧ ((∃ s',r = .rt (true,s') ∧ Rch (be false s.Arcs P) o b) ∨ (∃ s',r = .ex s') ∧ ¬ Rch (be false s.Arcs P) o b) := by
  intro iq l i hi hI
  refine ⟨.ex iq,?_,.inr ⟨⟨_,rfl⟩,fun hr => ?_⟩⟩
  · rw [zc2v,gz,if_neg (by omega),obz,LS.go]
  · have cl : ∀ x,x ∈ l → ∀ y,be false s.Arcs P x y → Sn iq y ∧ y ≠ b := fun x hx y e => by
     obtain ⟨j,hj,hjx⟩ := zb8o hx
     exact hI.hc j x (by omega) hjx y e
    have all : ∀ y,Rch (be false s.Arcs P) o y → Sn iq y ∧ y ≠ b := fun y h => by
     induction h with
     | one e => exact cl _ hI.ho _ e
     | snoc _ e ih => exact cl _ (hI.hm _ ih.1) _ e
    exact (all b hr).2 rfl
 induction n with
 | zero =>
  intro iq l i hm hI
  have := hI.hle
  exact fin iq l i (by omega) hI
 | succ n ih =>
  intro iq l i hm hI
  have hle := hI.hle
  by_cases c : i = l.length
  · exact fin iq l i c hI
  · have hi : i < l.length := by omega
    have hx : ixL l (i : Int) = some l[i] := fj hi
    obtain ⟨r,h1,h2⟩ := zchn s np hnp hA hAl g P hg hP b (i : Int) l[i] s.Arcs.length 0 iq l rfl hI.hn hI.hb hx
    rw [List.drop_zero] at h2
    have h1 : pi b s g (i : Int) iq l 0 = some r := h1
    rw [zc2v,gz,if_pos (by omega),h1,obz]
    have ro : ∀ y,be false s.Arcs P l[i] y → Rch (be false s.Arcs P) o y := fun y e => by
     rcases hI.ht _ (List.getElem_mem hi) with h | h
     · rw [h] at e; exact .one e
     · exact .snoc h e
    rcases h2 with ⟨s',rfl,e⟩ | ⟨l',seen',rfl,e2,e3,e4,e5,e5b,e6,e7,e8,e9,e10⟩
    · exact ⟨_,rfl,.inl ⟨_,rfl,ro b e⟩⟩
    · show ∃ r,((some (LS.nx (seen',l',IntKind.i64.wrap ((i : Int) + 1))) : Option _) >>= _) = some r ∧ _
      have hb := hI.hb
      rw [obz,LS.go,lw i (by omega)]
      refine ih seen' l' (i + 1) (by omega) ⟨e2,by omega,by omega,fun y hy => ?_,fun t ht => ?_,e9 _ hI.ho,fun y hy => ?_,fun j x hj hjx y e => ?_⟩
      · rcases e7 y hy with h | h
        · exact hI.hs y h
        · exact ro y h.2
      · rcases e8 t ht with h | h
        · exact hI.ht t h
        · exact .inr (ro t h)
      · rcases e7 y hy with h | h
        · exact e9 _ (hI.hm y h)
        · exact h.1
      · have hjl := e5b (j : Int) x (by omega) hjx
        by_cases ej : j = i
        · subst ej
          rw [hx] at hjl
          injection hjl with hjl
          subst hjl
          exact e10 y e
        · obtain ⟨q1,q2⟩ := hI.hc j x (by omega) hjl y e
          exact ⟨e6 _ q1,q2⟩
end
open Classical in
noncomputable def rrB (s : aa) (a b : Int) (out : List Int) : Bool := decide (a ∉ out ∧ b ∉ out ∧ Rch (be false s.Arcs fun y => !(out.contains y)) a b)
open Classical in
theorem zb4o {s : aa} {a b : Int} {out : List Int} : rrB s a b out = true ↔ a ∉ out ∧ b ∉ out ∧ Rch (be false s.Arcs fun y => !(out.contains y)) a b := by unfold rrB; exact decide_eq_true_iff
theorem sn6 (y : Int) : ¬ Sn [false,false,false,false,false,false] y := zbqd 6 y
theorem zcgy (s : aa) (np : Nat) (hnp : np ≤ 6) (hA : InR np false s.Arcs) (hAl : s.Arcs.length < 1000) (a b : Int) (ha : 0 ≤ a ∧ a < np) (hb : 0 ≤ b ∧ b < np) (out : List Int) (ho : ∀ v ∈ out,0 ≤ v ∧ v < 6) (hl : out.length < 1000) :
 ue s a b out = some (rrB s a b out) := by
 obtain ⟨g,h1,h2,h3⟩ := zchp a b s out ho hl out.length 0 [false,false,false,false,false,false] rfl rfl
 rw [List.drop_zero] at h3
 have h1 : rz a b out s [false,false,false,false,false,false] 0 = some g := h1
 have hg : ∀ y,Sn g y ↔ y ∈ out := fun y => by rw [h3]; exact ⟨fun h => h.resolve_left (sn6 y),.inr⟩
 have F : rrB s a b out = false ∨ rrB s a b out = true := by cases rrB s a b out <;> simp
 unfold ue
 rw [h1,obz,if_pos ⟨ha.1,by omega⟩]
 obtain ⟨t,ht⟩ := zb1x (l := g) ha.1 (by rw [h2]; omega)
 rw [ht,obz]
 cases t with
 | true =>
  rw [if_pos rfl]
  rcases F with h | h
  · rw [h]
  · exact absurd ((hg a).1 ht) (zb4o.1 h).1
 | false =>
  have na : a ∉ out := fun h => by have := (hg a).2 h; unfold Sn at this; rw [ht] at this; cases this
  rw [if_neg (by decide),if_pos ⟨hb.1,by omega⟩]
  obtain ⟨t,ht2⟩ := zb1x (l := g) hb.1 (by rw [h2]; omega)
  rw [ht2,obz]
  cases t with
  | true =>
   rw [if_pos rfl]
   rcases F with h | h
   · rw [h]
   · exact absurd ((hg b).1 ht2) (zb4o.1 h).2.1
  | false =>
   have nb : b ∉ out := fun h => by have := (hg b).2 h; unfold Sn at this; rw [ht2] at this; cases this
   rw [if_neg (by decide)]
   have hP : ∀ y,Sn g y ↔ (fun y => !(out.contains y)) y = false := fun y => by rw [hg]; simp
   obtain ⟨r,e1,e2⟩ := zcho s np hnp hA hAl g (fun y => !(out.contains y)) h2 hP b a 7 [false,false,false,false,false,false] [a] 0 (by show 6 + 1 ≤ 7; decide)
    ⟨rfl,(by show 1 + 6 ≤ 1000; decide),Nat.zero_le _,fun y h => absurd h (sn6 y),fun t h => .inl (by simpa using h),by simp,fun y h => absurd h (sn6 y),fun j x hj => absurd hj (Nat.not_lt_zero _)⟩
   have e1 : pj b s g [false,false,false,false,false,false] [a] 0 = some r := e1
   rw [e1,obz]
   rcases e2 with ⟨s',rfl,hr⟩ | ⟨⟨s',rfl⟩,hr⟩
   · show some true = _
     rw [zb4o.2 ⟨na,nb,hr⟩]
   · show some false = _
     rcases F with h | h
     · rw [h]
     · exact absurd (zb4o.1 h).2.2 hr
end Go.Proofs.Ytdcfoaafkppojaa
namespace Go.Proofs.Ytdcfoaafkppojaa
open Go Go.RowKit Sh Ic
theorem zb7g (s : ByteArray) : zt s = some (zbl2 s) := by
 unfold zt zbl2
 by_cases h : 1 ≤ s.size
 · rw [if_pos (by omega),decide_eq_true h,Bool.true_and]
   congr 1
   exact decide_eq_decide.2 ⟨fun _ => by omega,fun _ => by omega⟩
 · rw [if_neg (by omega),decide_eq_false h,Bool.false_and]
section
variable (s : aa)
theorem rl2 (np : Int) (i : Nat) (x : Int) (hx : s.Leaders[i]? = some x) (hl : s.Leaders.length < 1000000) :
 (fp s np (i : Int) 0 = some (.ex ()) ∧ ∀ j,j < i → ∀ y,s.Leaders[j]? = some y → y ≠ x) ∨ (fp s np (i : Int) 0 = some (.rt false) ∧ ∃ j,j < i ∧ ¬ ∀ y,s.Leaders[j]? = some y → y ≠ x) := by
 obtain ⟨hi,hxi⟩ := zblx hx
 refine zbmo (f := fun k => fp s np (i : Int) (k : Int)) ?_ ?_ ?_
 · show fp s np (i : Int) (i : Int) = _
   rw [yv,dm,if_neg (by omega),obz,LS.go]
 · intro k hk p
   show fp s np (i : Int) (k : Int) = fp s np (i : Int) ((k + 1 : Nat) : Int)
   obtain ⟨y,hy⟩ := zbl7 (show k < s.Leaders.length by omega)
   rw [yv,dm,if_pos (by omega),(zblx hy).2,obz,hxi,obz,if_neg (p y hy),obz,LS.go,lw k (by omega)]
 · intro k hk p
   show fp s np (i : Int) (k : Int) = _
   obtain ⟨y,hy⟩ := zbl7 (show k < s.Leaders.length by omega)
   have e : y = x := Classical.byContradiction fun e => p fun z hz => by rw [hy] at hz; injection hz with hz; subst hz; exact e
   rw [yv,dm,if_pos (by omega),(zblx hy).2,obz,hxi,obz,if_pos e,obz,LS.go]
def zb3q (i : Nat) : Prop := ∀ x,s.Leaders[i]? = some x → (0 ≤ x ∧ x < s.Parties.length) ∧ (∀ y,s.Locks[i]? = some y → y.size = 32) ∧ ∀ j,j < i → ∀ y,s.Leaders[j]? = some y → y ≠ x
theorem rl1 (hl : s.Leaders.length < 1000000) (hlo : s.Locks.length = s.Leaders.length) :
 (fq s (s.Leaders.length : Nat) 0 = some (.ex ()) ∧ ∀ j,j < s.Leaders.length → zb3q s j) ∨ (fq s (s.Leaders.length : Nat) 0 = some (.rt false) ∧ ∃ j,j < s.Leaders.length ∧ ¬ zb3q s j) := by
 refine zbmo (f := fun k => fq s (s.Leaders.length : Nat) (k : Int)) ?_ ?_ ?_
 · show fq s _ ((s.Leaders.length : Nat) : Int) = _
   rw [yw,dp,if_neg (by omega),obz,LS.go]
 · intro k hk p
   show fq s _ (k : Int) = fq s _ ((k + 1 : Nat) : Int)
   obtain ⟨x,hx⟩ := zbl7 hk
   obtain ⟨y,hy⟩ := zbl7 (show k < s.Locks.length by omega)
   obtain ⟨g1,g2,g3⟩ := p x hx
   rw [yw,dp,if_pos (by omega),(zblx hx).2,obz,if_neg (by omega),if_neg (by omega),(zblx hy).2,obz,if_pos (by have := g2 y hy; omega)]
   rcases rl2 s (s.Leaders.length : Nat) k x hx hl with ⟨e,_⟩ | ⟨_,j,hj,e⟩
   · rw [e,obz]
     show (some (LS.nx (IntKind.i64.wrap ((k : Int) + 1))) : Option (LS Int (LX Unit Bool))) >>= _ = _
     rw [obz,LS.go,lw k (by omega)]
   · exact absurd (g3 j hj) e
 · intro k hk p
   show fq s _ (k : Int) = _
   obtain ⟨x,hx⟩ := zbl7 hk
   obtain ⟨y,hy⟩ := zbl7 (show k < s.Locks.length by omega)
   rw [yw,dp,if_pos (by omega),(zblx hx).2,obz]
   by_cases c1 : x < 0
   · rw [if_pos c1,obz,LS.go]
   rw [if_neg c1]
   by_cases c2 : (s.Parties.length : Int) ≤ x
   · rw [if_pos c2,obz,LS.go]
   rw [if_neg c2,(zblx hy).2,obz]
   by_cases c3 : (y.size : Int) = 32
   · rw [if_pos c3]
     rcases rl2 s (s.Leaders.length : Nat) k x hx hl with ⟨e,g⟩ | ⟨e,_⟩
     · refine (p fun x' hx' => ?_).elim
       rw [hx] at hx'
       injection hx' with hx'
       subst hx'
       exact ⟨⟨by omega,by omega⟩,fun y' hy' => by rw [hy] at hy'; injection hy' with hy'; subst hy'; omega,g⟩
     · rw [e,obz]
       show (some (LS.dn (LX.rt false)) : Option (LS Int (LX Unit Bool))) >>= _ = _
       rw [obz,LS.go]
   · rw [if_neg c3,obz,LS.go]
def okL : Prop := (1 ≤ s.Leaders.length ∧ s.Leaders.length ≤ 3) ∧ s.Locks.length = s.Leaders.length ∧ ∀ j,j < s.Leaders.length → zb3q s j
theorem zbtg : (qt s = some true ∧ okL s) ∨ (qt s = some false ∧ ¬ okL s) := by
 unfold qt
 by_cases c1 : (s.Leaders.length : Int) < 1
 · exact .inr ⟨if_pos c1,fun h => by have := h.1; omega⟩
 rw [if_neg c1]
 by_cases c2 : (3 : Int) < s.Leaders.length
 · exact .inr ⟨if_pos c2,fun h => by have := h.1; omega⟩
 rw [if_neg c2]
 by_cases c3 : (s.Locks.length : Int) = s.Leaders.length
 · rw [if_pos c3]
   rcases rl1 s (by omega) (by omega) with ⟨e,g⟩ | ⟨e,j,hj,g⟩
   · rw [e,obz]
     exact .inl ⟨rfl,⟨by omega,by omega⟩,by omega,g⟩
   · rw [e,obz]
     exact .inr ⟨rfl,fun h => g (h.2.2 j hj)⟩
 · exact .inr ⟨if_neg c3,fun h => by have := h.2.1; omega⟩
end
end Go.Proofs.Ytdcfoaafkppojaa
namespace Go.Proofs.Ytdcfoaafkppojaa
open Go Go.RowKit Sh Ic
section
variable (s : aa)
abbrev LSX := Option (LS Int (LX Unit Bool))
theorem rp2 (np i : Int) (p : ag) (hl : p.Keys.length < 1000000) :
 (fk s np i p 0 = some (.ex ()) ∧ ∀ j,j < p.Keys.length → ∀ y,p.Keys[j]? = some y → y.size = 16) ∨ (fk s np i p 0 = some (.rt false) ∧ ∃ j,j < p.Keys.length ∧ ¬ ∀ y,p.Keys[j]? = some y → y.size = 16) := by
 refine zbmo (f := fun k => fk s np i p (k : Int)) ?_ ?_ ?_
 · show fk s np i p (p.Keys.length : Nat) = _
   rw [yr,dk,if_neg (by omega),obz,LS.go]
 · intro k hk g
   show fk s np i p (k : Int) = fk s np i p ((k + 1 : Nat) : Int)
   obtain ⟨y,hy⟩ := zbl7 hk
   rw [yr,dk,if_pos (by omega),(zblx hy).2,obz,if_pos (by have := g y hy; omega),obz,LS.go,lw k (by omega)]
 · intro k hk g
   show fk s np i p (k : Int) = _
   obtain ⟨y,hy⟩ := zbl7 hk
   have e : ¬ y.size = 16 := fun e => g fun z hz => by rw [hy] at hz; injection hz with hz; subst hz; exact e
   rw [yr,dk,if_pos (by omega),(zblx hy).2,obz,if_neg (by omega),obz,LS.go]
theorem rp3 (np : Int) (i : Nat) (hi : i < s.Parties.length) (p : ag) (hl : s.Parties.length < 1000000) :
 (df s np (i : Int) p 0 = some (.ex ()) ∧ ∀ j,j < i → ∀ y,s.Parties[j]? = some y → y.Account ≠ p.Account) ∨ (df s np (i : Int) p 0 = some (.rt false) ∧ ∃ j,j < i ∧ ¬ ∀ y,s.Parties[j]? = some y → y.Account ≠ p.Account) := by
 refine zbmo (f := fun k => df s np (i : Int) p (k : Int)) ?_ ?_ ?_
 · show df s np (i : Int) p (i : Int) = _
   rw [yq,dj,if_neg (by omega),obz,LS.go]
 · intro k hk g
   show df s np (i : Int) p (k : Int) = df s np (i : Int) p ((k + 1 : Nat) : Int)
   obtain ⟨y,hy⟩ := zbl7 (show k < s.Parties.length by omega)
   rw [yq,dj,if_pos (by omega),(zblx hy).2,obz,if_neg (g y hy),obz,LS.go,lw k (by omega)]
 · intro k hk g
   show df s np (i : Int) p (k : Int) = _
   obtain ⟨y,hy⟩ := zbl7 (show k < s.Parties.length by omega)
   have e : y.Account = p.Account := Classical.byContradiction fun e => g fun z hz => by rw [hy] at hz; injection hz with hz; subst hz; exact e
   rw [yq,dj,if_pos (by omega),(zblx hy).2,obz,if_pos e,obz,LS.go]
def zb3p (i : Nat) : Prop := ∀ p,s.Parties[i]? = some p → zbl2 p.Account = true ∧ p.Keys.length = s.Leaders.length ∧ (∀ j,j < p.Keys.length → ∀ y,p.Keys[j]? = some y → y.size = 16) ∧ ∀ j,j < i → ∀ y,s.Parties[j]? = some y → y.Account ≠ p.Account
theorem rp1 (hl : s.Parties.length < 1000000) (hL : s.Leaders.length < 1000000) :
 (fo s (s.Parties.length : Nat) 0 = some (.ex ()) ∧ ∀ j,j < s.Parties.length → zb3p s j) ∨ (fo s (s.Parties.length : Nat) 0 = some (.rt false) ∧ ∃ j,j < s.Parties.length ∧ ¬ zb3p s j) := by
 refine zbmo (f := fun k => fo s (s.Parties.length : Nat) (k : Int)) ?_ ?_ ?_
 · show fo s _ ((s.Parties.length : Nat) : Int) = _
   rw [yu,dl,if_neg (by omega),obz,LS.go]
 · intro k hk g
   show fo s _ (k : Int) = fo s _ ((k + 1 : Nat) : Int)
   obtain ⟨p,hp⟩ := zbl7 hk
   obtain ⟨g1,g2,g3,g4⟩ := g p hp
   rw [yu,dl,if_pos (by omega),(zblx hp).2,obz,zb7g,obz,if_pos g1,if_pos (by omega)]
   rcases rp2 s (s.Parties.length : Nat) (k : Int) p (by omega) with ⟨e,_⟩ | ⟨_,j,hj,e⟩
   · rw [show (⟨p.Account,p.Keys⟩ : ag) = p from rfl,e,obz]
     show (df s _ (k : Int) p 0 >>= _ : LSX) >>= _ = _
     rcases rp3 s (s.Parties.length : Nat) k hk p hl with ⟨e,_⟩ | ⟨_,j,hj,e⟩
     · rw [e,obz]
       show (some (LS.nx (IntKind.i64.wrap ((k : Int) + 1))) : LSX) >>= _ = _
       rw [obz,LS.go,lw k (by omega)]
     · exact absurd (g4 j hj) e
   · exact absurd (g3 j hj) e
 · intro k hk g
   show fo s _ (k : Int) = _
   obtain ⟨p,hp⟩ := zbl7 hk
   rw [yu,dl,if_pos (by omega),(zblx hp).2,obz,zb7g,obz]
   by_cases c1 : zbl2 p.Account = true
   rotate_left
   · rw [if_neg c1,obz,LS.go]
   rw [if_pos c1]
   by_cases c2 : (p.Keys.length : Int) = s.Leaders.length
   rotate_left
   · rw [if_neg c2,obz,LS.go]
   rw [if_pos c2,show (⟨p.Account,p.Keys⟩ : ag) = p from rfl]
   rcases rp2 s (s.Parties.length : Nat) (k : Int) p (by omega) with ⟨e,q2⟩ | ⟨e,_⟩
   · rw [e,obz]
     show (df s _ (k : Int) p 0 >>= _ : LSX) >>= _ = _
     rcases rp3 s (s.Parties.length : Nat) k hk p hl with ⟨e,q3⟩ | ⟨e,_⟩
     · refine (g fun p' hp' => ?_).elim
       rw [hp] at hp'
       injection hp' with hp'
       subst hp'
       exact ⟨c1,by omega,q2,q3⟩
     · rw [e,obz]
       show (some (LS.dn (LX.rt false)) : LSX) >>= _ = _
       rw [obz,LS.go]
   · rw [e,obz]
     show (some (LS.dn (LX.rt false)) : LSX) >>= _ = _
     rw [obz,LS.go]
def okP : Prop := (2 ≤ s.Parties.length ∧ s.Parties.length ≤ 6) ∧ ∀ j,j < s.Parties.length → zb3p s j
theorem zbr1 (hL : s.Leaders.length < 1000000) : (qr s = some true ∧ okP s) ∨ (qr s = some false ∧ ¬ okP s) := by
 unfold qr
 by_cases c1 : (s.Parties.length : Int) < 2
 · exact .inr ⟨if_pos c1,fun h => by have := h.1; omega⟩
 rw [if_neg c1]
 by_cases c2 : (6 : Int) < s.Parties.length
 · exact .inr ⟨if_pos c2,fun h => by have := h.1; omega⟩
 rw [if_neg c2]
 rcases rp1 s (by omega) hL with ⟨e,g⟩ | ⟨e,j,hj,g⟩
 · rw [e,obz]
   exact .inl ⟨rfl,⟨by omega,by omega⟩,g⟩
 · rw [e,obz]
   exact .inr ⟨rfl,fun h => g (h.2 j hj)⟩
theorem ra2 (np : Int) (i : Nat) (hi : i < s.Arcs.length) (a : ac) (hl : s.Arcs.length < 1000000000000) :
 (kh s np (i : Int) a 0 = some (.ex ()) ∧ ∀ j,j < i → ∀ y,s.Arcs[j]? = some y → (y.From,y.To) ≠ (a.From,a.To)) ∨ (kh s np (i : Int) a 0 = some (.rt false) ∧ ∃ j,j < i ∧ ¬ ∀ y,s.Arcs[j]? = some y → (y.From,y.To) ≠ (a.From,a.To)) := by
 refine zbmo (f := fun k => kh s np (i : Int) a (k : Int)) ?_ ?_ ?_
 · show kh s np (i : Int) a (i : Int) = _
   rw [zcf8,gq,if_neg (by omega),obz,LS.go]
 · intro k hk g
   show kh s np (i : Int) a (k : Int) = kh s np (i : Int) a ((k + 1 : Nat) : Int)
   obtain ⟨y,hy⟩ := zbl7 (show k < s.Arcs.length by omega)
   have gy := g y hy
   rw [zcf8,gq,if_pos (by omega),(zblx hy).2,obz]
   by_cases c : y.From = a.From
   · rw [if_pos c,if_neg (fun d => gy (by rw [c,d])),obz,LS.go,lw k (by omega)]
   · rw [if_neg c,obz,LS.go,lw k (by omega)]
 · intro k hk g
   show kh s np (i : Int) a (k : Int) = _
   obtain ⟨y,hy⟩ := zbl7 (show k < s.Arcs.length by omega)
   have e : (y.From,y.To) = (a.From,a.To) := Classical.byContradiction fun e => g fun z hz => by rw [hy] at hz; injection hz with hz; subst hz; exact e
   injection e with e1 e2
   rw [zcf8,gq,if_pos (by omega),(zblx hy).2,obz,if_pos e1,if_pos e2,obz,LS.go]
def zb3r (i : Nat) : Prop := ∀ a,s.Arcs[i]? = some a → zbmp (s.Parties.length : Nat) a = true ∧ ∀ j,j < i → ∀ y,s.Arcs[j]? = some y → (y.From,y.To) ≠ (a.From,a.To)
theorem zcpx {n : Int} {a : ac} : zbmp n a = true ↔ (0 ≤ a.From ∧ a.From < n) ∧ (0 ≤ a.To ∧ a.To < n) ∧ a.From ≠ a.To ∧ (0 ≤ a.Ledger ∧ a.Ledger ≤ 3) ∧ zbl2 a.Asset = true ∧ (1 ≤ a.Amount ∧ a.Amount ≤ 1125899906842624) := by
 unfold zbmp
 rw [Bool.and_eq_true,Bool.and_eq_true,Bool.and_eq_true,Bool.and_eq_true,Bool.and_eq_true,qi,qi,qi,qi,decide_eq_true_iff]
 refine and_congr ⟨fun h => by omega,fun h => by omega⟩ (and_congr ⟨fun h => by omega,fun h => by omega⟩ Iff.rfl)
theorem ra1 (hl : s.Arcs.length < 1000000000000) :
 (ki s (s.Parties.length : Nat) 0 = some (.ex ()) ∧ ∀ j,j < s.Arcs.length → zb3r s j) ∨ (ki s (s.Parties.length : Nat) 0 = some (.rt false) ∧ ∃ j,j < s.Arcs.length ∧ ¬ zb3r s j) := by
 refine zbmo (f := fun k => ki s (s.Parties.length : Nat) (k : Int)) ?_ ?_ ?_
 · show ki s _ ((s.Arcs.length : Nat) : Int) = _
   rw [zcf7,gr,if_neg (by omega),obz,LS.go]
 · intro k hk g
   show ki s _ (k : Int) = ki s _ ((k + 1 : Nat) : Int)
   obtain ⟨a,ha⟩ := zbl7 hk
   obtain ⟨g1,g2⟩ := g a ha
   obtain ⟨⟨q1,q2⟩,⟨q3,q4⟩,q5,⟨q6,q7⟩,q8,q9,q10⟩ := zcpx.1 g1
   rw [zcf7,gr,if_pos (by omega),(zblx ha).2,obz,if_neg (by omega),if_neg (by omega),if_neg (by omega),if_neg (by omega),if_neg q5,if_neg (by omega),if_neg (by omega),zb7g,obz,if_pos q8,if_neg (by omega),if_neg (by omega)]
   rw [show (⟨a.From,a.To,a.Ledger,a.Asset,a.Amount⟩ : ac) = a from rfl]
   rcases ra2 s (s.Parties.length : Nat) k hk a hl with ⟨e,_⟩ | ⟨_,j,hj,e⟩
   · rw [e,obz]
     show (some (LS.nx (IntKind.i64.wrap ((k : Int) + 1))) : LSX) >>= _ = _
     rw [obz,LS.go,lw k (by omega)]
   · exact absurd (g2 j hj) e
 · intro k hk g
   show ki s _ (k : Int) = _
   obtain ⟨a,ha⟩ := zbl7 hk
   rw [zcf7,gr,if_pos (by omega),(zblx ha).2,obz]
   by_cases c1 : a.From < 0
   · rw [if_pos c1,obz,LS.go]
   rw [if_neg c1]
   by_cases c2 : (s.Parties.length : Int) ≤ a.From
   · rw [if_pos c2,obz,LS.go]
   rw [if_neg c2]
   by_cases c3 : a.To < 0
   · rw [if_pos c3,obz,LS.go]
   rw [if_neg c3]
   by_cases c4 : (s.Parties.length : Int) ≤ a.To
   · rw [if_pos c4,obz,LS.go]
   rw [if_neg c4]
   by_cases c5 : a.From = a.To
   · rw [if_pos c5,obz,LS.go]
   rw [if_neg c5]
   by_cases c6 : a.Ledger < 0
   · rw [if_pos c6,obz,LS.go]
   rw [if_neg c6]
   by_cases c7 : (4 : Int) ≤ a.Ledger
   · rw [if_pos c7,obz,LS.go]
   rw [if_neg c7,zb7g,obz]
   by_cases c8 : zbl2 a.Asset = true
   rotate_left
   · rw [if_neg c8,obz,LS.go]
   rw [if_pos c8]
   by_cases c9 : a.Amount < 1
   · rw [if_pos c9,obz,LS.go]
   rw [if_neg c9]
   by_cases c10 : (1125899906842624 : Int) < a.Amount
   · rw [if_pos c10,obz,LS.go]
   rw [if_neg c10,show (⟨a.From,a.To,a.Ledger,a.Asset,a.Amount⟩ : ac) = a from rfl]
   rcases ra2 s (s.Parties.length : Nat) k hk a hl with ⟨e,q⟩ | ⟨e,_⟩
   · refine (g fun a' ha' => ?_).elim
     rw [ha] at ha'
     injection ha' with ha'
     subst ha'
     exact ⟨zcpx.2 ⟨⟨by omega,by omega⟩,⟨by omega,by omega⟩,c5,⟨by omega,by omega⟩,c8,by omega,by omega⟩,q⟩
   · rw [e,obz]
     show (some (LS.dn (LX.rt false)) : LSX) >>= _ = _
     rw [obz,LS.go]
def okA : Prop := (1 ≤ s.Arcs.length ∧ s.Arcs.length ≤ 12) ∧ ∀ j,j < s.Arcs.length → zb3r s j
theorem zb9f (hl : s.Arcs.length < 1000000000000) : (zb2c s = some true ∧ okA s) ∨ (zb2c s = some false ∧ ¬ okA s) := by
 unfold zb2c
 rcases ra1 s hl with ⟨e,g⟩ | ⟨e,j,hj,g⟩
 · rw [e,obz]
   show ((if (1 : Int) ≤ ((s.Arcs.length : Nat) : Int) then some (decide (((s.Arcs.length : Nat) : Int) ≤ (12 : Int))) else some false) = some true ∧ _) ∨ ((if (1 : Int) ≤ ((s.Arcs.length : Nat) : Int) then some (decide (((s.Arcs.length : Nat) : Int) ≤ (12 : Int))) else some false) = some false ∧ _)
   by_cases c1 : (1 : Int) ≤ s.Arcs.length
   · by_cases c2 : (s.Arcs.length : Int) ≤ 12
     · exact .inl ⟨by rw [if_pos c1,decide_eq_true c2],⟨by omega,by omega⟩,g⟩
     · exact .inr ⟨by rw [if_pos c1,decide_eq_false c2],fun h => by have := h.1; omega⟩
   · exact .inr ⟨if_neg c1,fun h => by have := h.1; omega⟩
 · rw [e,obz]
   exact .inr ⟨rfl,fun h => g (h.2 j hj)⟩
theorem zbv6 {α : Type} {l : List α} {P : α → Prop} : (∀ x ∈ l,P x) ↔ ∀ j,j < l.length → ∀ x,l[j]? = some x → P x := by
 constructor
 · intro h j hj x hx
   obtain ⟨h1,h2⟩ := List.getElem?_eq_some_iff.1 hx
   exact h x (by rw [← h2]; exact List.getElem_mem h1)
 · intro h x hx
   obtain ⟨j,hj,e⟩ := List.getElem_of_mem hx
   exact h j hj x (by rw [List.getElem?_eq_getElem hj,e])
theorem zb6f : Ok s ↔ zbl2 s.ID = true ∧ okL s ∧ okP s ∧ okA s ∧ (0 ≤ s.Start ∧ s.Start ≤ 1099511627776) ∧ (1 ≤ s.Delta ∧ s.Delta ≤ 1048576) := by
 constructor
 · intro h
   refine ⟨h.id,⟨h.nl,h.locks.1,fun j hj x hx => ?_⟩,⟨h.np,fun j hj p hp => ?_⟩,⟨h.na,fun j hj a ha => ?_⟩,h.start,h.delta⟩
   · refine ⟨zbv6.1 h.inl j hj x hx,fun y hy => zbv6.1 h.locks.2 j (zblx hy).1 y hy,fun k hk y hy => ?_⟩
     have := zb4r.2 (show (s.Leaders.map id).Nodup by rw [List.map_id]; exact h.leads) j x hx k hk y hy
     exact this
   · have q := zbv6.1 h.parties j hj p hp
     unfold zbwu at q
     rw [Bool.and_eq_true,zb6t] at q
     exact ⟨q.1,by omega,zbv6.1 fun y hy => by have := q.2.2 y hy; omega,zb4r.2 h.accts j p hp⟩
   · exact ⟨zbv6.1 h.arcs j hj a ha,zb4r.2 h.ways j a ha⟩
 · rintro ⟨h1,⟨h2,h3,h4⟩,⟨h5,h6⟩,⟨h7,h8⟩,h9,h10⟩
   refine ⟨h1,h5,h2,h7,⟨h3,?_⟩,h9,h10,?_,?_,?_,?_,?_,?_⟩
   · refine zbv6.2 fun j hj y hy => ?_
     obtain ⟨x,hx⟩ := zbl7 (show j < s.Leaders.length by omega)
     exact (h4 j (by omega) x hx).2.1 y hy
   · refine zbv6.2 fun j hj p hp => ?_
     obtain ⟨q1,q2,q3,_⟩ := h6 j hj p hp
     unfold zbwu
     rw [Bool.and_eq_true,zb6t]
     exact ⟨q1,by omega,fun y hy => by have := zbv6.2 q3 y hy; omega⟩
   · exact zbv6.2 fun j hj a ha => (h8 j hj a ha).1
   · exact zb4r.1 fun j x hx k hk y hy => (h6 j (zblx hx).1 x hx).2.2.2 k hk y hy
   · exact zb4r.1 fun j x hx k hk y hy => (h8 j (zblx hx).1 x hx).2 k hk y hy
   · have : (s.Leaders.map id).Nodup := zb4r.1 fun j x hx k hk y hy => (h4 j (zblx hx).1 x hx).2.2 k hk y hy
     rwa [List.map_id] at this
   · exact zbv6.2 fun j hj x hx => (h4 j hj x hx).1
theorem zb14 (hl : s.Arcs.length < 1000000000000) : pn s = some (okS s) := by
 unfold pn
 have no : ∀ {P : Prop},¬ P → (Ok s → P) → okS s = false := fun h1 h2 => oq fun h => h1 (h2 h)
 rw [zb7g,obz]
 by_cases c1 : zbl2 s.ID = true
 rotate_left
 · rw [if_neg c1,no c1 fun h => ((zb6f s).1 h).1]
 rw [if_pos c1]
 rcases zbtg s with ⟨e,g2⟩ | ⟨e,g⟩
 rotate_left
 · rw [e,obz,no g fun h => ((zb6f s).1 h).2.1]; rfl
 rw [e,obz,if_pos rfl]
 rcases zbr1 s (by have := g2.1; omega) with ⟨e,g3⟩ | ⟨e,g⟩
 rotate_left
 · rw [e,obz,no g fun h => ((zb6f s).1 h).2.2.1]; rfl
 rw [e,obz,if_pos rfl]
 rcases zb9f s hl with ⟨e,g4⟩ | ⟨e,g⟩
 rotate_left
 · rw [e,obz,no g fun h => ((zb6f s).1 h).2.2.2.1]; rfl
 rw [e,obz,if_pos rfl]
 by_cases d1 : 0 ≤ s.Start
 rotate_left
 · rw [if_neg d1,no d1 fun h => h.start.1]
 rw [if_pos d1]
 by_cases d2 : s.Start ≤ 1099511627776
 rotate_left
 · rw [if_neg d2,no d2 fun h => h.start.2]
 rw [if_pos d2]
 by_cases d3 : 1 ≤ s.Delta
 rotate_left
 · rw [if_neg d3,no d3 fun h => h.delta.1]
 rw [if_pos d3]
 by_cases d4 : s.Delta ≤ 1048576
 rotate_left
 · rw [decide_eq_false d4,no d4 fun h => h.delta.2]
 rw [decide_eq_true d4,zcbr ((zb6f s).2 ⟨c1,g2,g3,g4,⟨d1,d2⟩,d3,d4⟩)]
end
end Go.Proofs.Ytdcfoaafkppojaa
