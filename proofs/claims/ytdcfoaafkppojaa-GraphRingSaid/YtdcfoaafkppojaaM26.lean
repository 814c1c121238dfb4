import Derived.Test.YtdcfoaafkppojaaM25
set_option linter.unusedSimpArgs false
set_option linter.unusedVariables false
namespace Go.Proofs.Ytdcfoaafkppojaa
open Go Go.RowKit Sh Ic
theorem zcu1 (l : List Bool) (hl : l.length < 1000000) (n : Nat) : ∀ i : Nat,n + i = l.length → ∃ r,dm l false (l.length : Nat) (i : Int) = some r ∧
 ((∃ v,r = .rt v ∧ 0 ≤ v ∧ (l.drop i).contains false = true) ∨ (r = .ex () ∧ (l.drop i).contains false = false)) := by
 induction n with
 | zero =>
  intro i h
  refine ⟨.ex (),?_,.inr ⟨rfl,?_⟩⟩
  · rw [nw,ba,if_neg (by omega),obz,LS.go]
  · rw [List.drop_of_length_le (by omega)]; rfl
 | succ n ih =>
  intro i h
  have hi : i < l.length := by omega
  rw [nw,ba,if_pos (by omega),sd hi,obz,List.drop_eq_getElem_cons hi,List.contains_cons]
  by_cases p : (false == l[i]) = true
  · rw [if_pos p,obz,LS.go]
    exact ⟨_,rfl,.inl ⟨_,rfl,by omega,by rw [p]; rfl⟩⟩
  · have p' := Bool.eq_false_iff.2 p
    rw [if_neg p,obz,LS.go,z4 i (by omega),p',Bool.false_or]
    exact ih (i + 1) (by omega)
theorem zbv3 (l : List Bool) (hl : l.length < 1000000) : ch l false = some (l.contains false) := by
 obtain ⟨r,h,q⟩ := zcu1 l hl l.length 0 rfl
 rw [List.drop_zero] at q
 have h : dm l false (l.length : Nat) 0 = some r := h
 unfold ch gq
 rw [h,obz]
 rcases q with ⟨v,rfl,h0,q⟩ | ⟨rfl,q⟩
 · show some (decide (0 ≤ v)) = _
   rw [q,decide_eq_true h0]
 · show some (decide ((0 : Int) ≤ -1)) = _
   rw [q]; rfl
theorem zcuz (l : List Int) (x : Int) (hl : l.length < 1000000) (n : Nat) : ∀ i : Nat,n + i = l.length → ∃ r,dz l x (l.length : Nat) (i : Int) = some r ∧
 ((∃ v,r = .rt v ∧ 0 ≤ v ∧ (l.drop i).contains x = true) ∨ (r = .ex () ∧ (l.drop i).contains x = false)) := by
 induction n with
 | zero =>
  intro i h
  refine ⟨.ex (),?_,.inr ⟨rfl,?_⟩⟩
  · rw [pb,bc,if_neg (by omega),obz,LS.go]
  · rw [List.drop_of_length_le (by omega)]; rfl
 | succ n ih =>
  intro i h
  have hi : i < l.length := by omega
  rw [pb,bc,if_pos (by omega),sd hi,obz,List.drop_eq_getElem_cons hi,List.contains_cons]
  by_cases p : x = l[i]
  · rw [if_pos p,obz,LS.go]
    exact ⟨_,rfl,.inl ⟨_,rfl,by omega,by rw [beq_iff_eq.2 p]; rfl⟩⟩
  · rw [if_neg p,obz,LS.go,z4 i (by omega),beq_eq_false_iff_ne.2 p,Bool.false_or]
    exact ih (i + 1) (by omega)
theorem zbr3 (l : List Int) (x : Int) (hl : l.length < 1000000) : dg l x = some (l.contains x) := by
 obtain ⟨r,h,q⟩ := zcuz l x hl l.length 0 rfl
 rw [List.drop_zero] at q
 have h : dz l x (l.length : Nat) 0 = some r := h
 unfold dg ix
 rw [h,obz]
 rcases q with ⟨v,rfl,h0,q⟩ | ⟨rfl,q⟩
 · show some (decide (0 ≤ v)) = _
   rw [q,decide_eq_true h0]
 · show some (decide ((0 : Int) ≤ -1)) = _
   rw [q]; rfl
def zbbm (A : List aa) (x y : Int) : Bool := A.any fun a => decide (a.From = x) && decide (a.To = y)
theorem zcux (a : aa) (l : List Int) (i : Nat) (hi : i < l.length) (h1 : l.length < 1000000) (y : Int) : ox a l ((i + 1 : Nat) : Int) y = some (decide (a.From = l[i]) && decide (a.To = y)) := by
 have w : IntKind.i64.wrap (((i + 1 : Nat) : Int) - 1) = (i : Int) := by rw [wA (by omega) (by omega)]; omega
 unfold ox
 rw [w,sd hi,obz]
 by_cases c : a.From = l[i]
 · rw [if_pos c,decide_eq_true c,Bool.true_and]
 · rw [if_neg c,decide_eq_false c,Bool.false_and]
theorem zcu2 (A : List aa) (l : List Int) (j : Nat) (hj : j < l.length) (h1 : l.length < 1000000) (y : Int) (hl : A.length < 1000000) (n : Nat) : ∀ i : Nat,n + i = A.length → ∃ r,bf A l ((j + 1 : Nat) : Int) y (A.length : Nat) (i : Int) = some r ∧
 ((∃ v,r = .rt v ∧ 0 ≤ v ∧ zbbm (A.drop i) l[j] y = true) ∨ (r = .ex () ∧ zbbm (A.drop i) l[j] y = false)) := by
 induction n with
 | zero =>
  intro i h
  refine ⟨.ex (),?_,.inr ⟨rfl,?_⟩⟩
  · rw [je,au,if_neg (by omega),obz,LS.go]
  · rw [List.drop_of_length_le (by omega)]; rfl
 | succ n ih =>
  intro i h
  have hi : i < A.length := by omega
  unfold zbbm
  rw [je,au,if_pos (by omega),sd hi,obz,zcux _ l j hj h1,obz,zbzb _ _ _ hi]
  by_cases p : (decide (A[i].From = l[j]) && decide (A[i].To = y)) = true
  · rw [if_pos p,obz,LS.go]
    exact ⟨_,rfl,.inl ⟨_,rfl,by omega,by rw [p]; rfl⟩⟩
  · have p' := Bool.eq_false_iff.2 p
    rw [if_neg p,obz,LS.go,z4 i (by omega),p',Bool.false_or]
    exact ih (i + 1) (by omega)
theorem zbv4 (A : List aa) (l : List Int) (j : Nat) (hj : j < l.length) (h1 : l.length < 1000000) (y : Int) (hl : A.length < 1000000) : bg A l ((j + 1 : Nat) : Int) y = some (zbbm A l[j] y) := by
 obtain ⟨r,h,q⟩ := zcu2 A l j hj h1 y hl A.length 0 rfl
 rw [List.drop_zero] at q
 have h : bf A l ((j + 1 : Nat) : Int) y (A.length : Nat) 0 = some r := h
 unfold bg cq
 rw [h,obz]
 rcases q with ⟨v,rfl,h0,q⟩ | ⟨rfl,q⟩
 · show some (decide (0 ≤ v)) = _
   rw [q,decide_eq_true h0]
 · show some (decide ((0 : Int) ≤ -1)) = _
   rw [q]; rfl
abbrev T1 : Int → Bool := fun _ => true
theorem zblj {n : Int} {a : aa} (h : zbc3 n a = true) : (0 ≤ a.From ∧ a.From < n) ∧ (0 ≤ a.To ∧ a.To < n) := by
 unfold zbc3 at h
 simp only [Bool.and_eq_true,ue] at h
 omega
theorem inR {s : ac} (h : Ok s) (back : Bool) : InR s.Parties.length back s.Arcs := ⟨fun a ha => by
 have q := zblj (h.arcs a ha)
 cases back
 · exact q.2
 · exact q.1⟩
theorem zbxe {A : List aa} (x y : Int) : j6 true A T1 x y ↔ j6 false A T1 y x :=
 ⟨fun ⟨a,h1,h2,h3,_⟩ => ⟨a,h1,h3,h2,rfl⟩,fun ⟨a,h1,h2,h3,_⟩ => ⟨a,h1,h3,h2,rfl⟩⟩
def Str (s : ac) : Prop := ∀ a b : Int,0 ≤ a ∧ a < s.Parties.length → 0 ≤ b ∧ b < s.Parties.length → a ≠ b → Rch (j6 false s.Arcs T1) a b
def Hub (s : ac) : Prop := (∀ y : Int,0 ≤ y ∧ y < s.Parties.length → Rch (j6 false s.Arcs T1) 0 y) ∧ ∀ y : Int,0 ≤ y ∧ y < s.Parties.length → Rch (j6 true s.Arcs T1) 0 y
theorem zbep {s : ac} (h : 2 ≤ s.Parties.length) : Str s ↔ Hub s := by
 constructor
 · intro q
   have h0 : Rch (j6 false s.Arcs T1) 0 0 := (q 0 1 (by omega) (by omega) (by decide)).trans (q 1 0 (by omega) (by omega) (by decide))
   refine ⟨fun y hy => ?_,fun y hy => ?_⟩
   · by_cases c : y = 0
     · rw [c]; exact h0
     · exact q 0 y (by omega) hy (fun e => c e.symm)
   · refine Rch.rev (E := j6 false s.Arcs T1) (fun x y e => (zbxe _ _).2 e) ?_
     by_cases c : y = 0
     · rw [c]; exact h0
     · exact q y 0 hy (by omega) c
 · rintro ⟨q1,q2⟩ a b ha hb _
   exact (Rch.rev (fun x y e => (zbxe _ _).1 e) (q2 a ha)).trans (q1 b hb)
open Classical in
noncomputable def zbnv (s : ac) : Bool := decide (Ok s ∧ Str s)
open Classical in
theorem zbtv {s : ac} : zbnv s = true ↔ Ok s ∧ Str s := by unfold zbnv; exact decide_eq_true_iff
theorem bo {b : Bool} {P : Prop} (h : b = true ↔ P) (c : Bool) (hc : c = true ↔ P) : c = b := by
 cases b <;> cases c <;> simp_all
theorem zbiu {r : List Bool} : r.contains false = false ↔ ∀ y : Int,0 ≤ y ∧ y < r.length → Sn r y := by
 constructor
 · intro h y hy
   obtain ⟨b,hb⟩ := zbrk hy.1 hy.2
   cases b with
   | true => exact hb
   | false =>
    have : false ∈ r := List.mem_of_getElem? (zbp4.1 hb).2
    rw [← List.contains_iff_mem] at this
    rw [h] at this; cases this
 · intro h
   cases c : r.contains false with
   | false => rfl
   | true =>
    have := List.contains_iff_mem.1 c
    obtain ⟨j,hj,e⟩ := List.mem_iff_getElem.1 this
    have := h (j : Int) (by omega)
    unfold Sn at this
    rw [sd hj,e] at this; cases this
theorem zb4l (s : ac) (hw : Wf s) : my s = some (zbnv s) := by
 unfold my
 rw [zbtj s hw,obz]
 by_cases c : okS s = true
 · rw [if_pos c]
   have h := zbmq.1 c
   have np := h.np
   have na := h.na
   obtain ⟨r1,e1,l1,q1⟩ := zbw9 s 0 false (fun v => ov v) T1 (fun _ _ _ => rfl) (inR h false) (by omega) (by omega)
   obtain ⟨r2,e2,l2,q2⟩ := zbw9 s 0 true (fun v => ov v) T1 (fun _ _ _ => rfl) (inR h true) (by omega) (by omega)
   have f1 : qx s 0 false = some r1 := e1
   have f2 : qx s 0 true = some r2 := e2
   have key : zbnv s = true ↔ r1.contains false = false ∧ r2.contains false = false := by
    rw [zbtv,zbep np.1,zbiu,zbiu,l1,l2]
    unfold Hub
    exact ⟨fun ⟨_,a,b⟩ => ⟨fun y hy => (q1 y).2 (a y hy),fun y hy => (q2 y).2 (b y hy)⟩,fun ⟨a,b⟩ => ⟨h,fun y hy => (q1 y).1 (a y hy),fun y hy => (q2 y).1 (b y hy)⟩⟩
   rw [f1,obz,zbv3 r1 (by omega),obz]
   cases c1 : r1.contains false with
   | true =>
    rw [if_pos rfl]
    congr 1
    exact bo key _ (by rw [c1]; simp)
   | false =>
    rw [if_neg (by decide),f2,obz,zbv3 r2 (by omega),obz]
    congr 1
    exact bo key _ (by rw [c1]; simp)
 · rw [if_neg c]
   congr 1
   exact bo (P := False) (by rw [zbtv]; exact ⟨fun h => c (zbmq.2 h.1),False.elim⟩) _ (by simp)
abbrev pl (s : ac) : Int → Bool := fun y => !(s.Leaders.contains y)
def Fb (s : ac) (v : Int) : Prop := v ∉ s.Leaders ∧ Rch (j6 false s.Arcs (pl s)) v v
open Classical in
noncomputable def fbB (s : ac) : Bool := decide (Ok s ∧ ∀ v : Nat,v < s.Parties.length → ¬ Fb s (v : Int))
open Classical in
theorem zbw2 {s : ac} : fbB s = true ↔ Ok s ∧ ∀ v : Nat,v < s.Parties.length → ¬ Fb s (v : Int) := by unfold fbB; exact decide_eq_true_iff
theorem zbwx (s : ac) (hl : s.Leaders.length < 1000000) (v : Int) : d8 v s = some (pl s v) := by
 unfold d8
 rw [zbr3 _ _ hl,obz]
theorem zb5t (s : ac) (hw : Wf s) : j8 s = some (fbB s) := by
 unfold j8
 rw [zbtj s hw,obz]
 by_cases c : okS s = true
 · rw [if_pos c]
   have h := zbmq.1 c
   have np := h.np
   have na := h.na
   have nl := h.nl
   have out : (cj s (s.Parties.length : Nat) 0 = some (.ex ()) ∧ ∀ v,v < s.Parties.length → ¬ Fb s ((v : Nat) : Int)) ∨ (cj s (s.Parties.length : Nat) 0 = some (.rt false) ∧ ∃ v,v < s.Parties.length ∧ ¬ ¬ Fb s ((v : Nat) : Int)) := by
    refine zbvm (f := fun k => cj s (s.Parties.length : Nat) (k : Int)) ?_ ?_ ?_
    · show cj s (s.Parties.length : Nat) ((s.Parties.length : Nat) : Int) = _
      rw [o7,bz,if_neg (by omega),obz,LS.go]
    · intro k hk hp
      show cj s (s.Parties.length : Nat) (k : Int) = cj s (s.Parties.length : Nat) ((k + 1 : Nat) : Int)
      rw [o7,bz,if_pos (by omega),zbwx s (by omega),obz]
      by_cases d : pl s (k : Int) = true
      · obtain ⟨r,e,l,q⟩ := zbw9 s (k : Int) false (fun v => d8 v s) (pl s) (fun y _ _ => zbwx s (by omega) y) (inR h false) (by omega) (by omega)
        have e : sr s (k : Int) false s = some r := e
        obtain ⟨b,hb⟩ := zbrk (l := r) (i := (k : Int)) (by omega) (by omega)
        have hd : (k : Int) ∉ s.Leaders := by simpa using d
        rw [if_pos d,e,obz,hb,obz]
        cases b with
        | true => exact absurd ⟨hd,(q _).1 hb⟩ hp
        | false => rw [if_neg (by decide),obz,LS.go,z4 k (by omega)]
      · rw [if_neg d,obz,LS.go,z4 k (by omega)]
    · intro k hk hp
      have hp : Fb s (k : Int) := Classical.not_not.1 hp
      show cj s (s.Parties.length : Nat) (k : Int) = _
      have d : pl s (k : Int) = true := by simpa using hp.1
      obtain ⟨r,e,l,q⟩ := zbw9 s (k : Int) false (fun v => d8 v s) (pl s) (fun y _ _ => zbwx s (by omega) y) (inR h false) (by omega) (by omega)
      have e : sr s (k : Int) false s = some r := e
      have hb : ixL r (k : Int) = some true := (q _).2 hp.2
      rw [o7,bz,if_pos (by omega),zbwx s (by omega),obz,if_pos d,e,obz,hb,obz,if_pos rfl,obz,LS.go]
   rcases out with ⟨e,q⟩ | ⟨e,a,ha,q⟩
   · rw [e,obz]
     show some true = _
     congr 1
     exact (zbw2.2 ⟨h,q⟩).symm
   · rw [e,obz]
     show some false = _
     congr 1
     exact bo (P := False) ⟨fun t => q ((zbw2.1 t).2 a ha),False.elim⟩ _ (by simp)
 · rw [if_neg c]
   congr 1
   exact bo (P := False) (by rw [zbw2]; exact ⟨fun h => c (zbmq.2 h.1),False.elim⟩) _ (by simp)
noncomputable def zbs5 (s : ac) : Bool := zbnv s && fbB s
theorem zbjt (s : ac) (hw : Wf s) : n5 s = some (zbs5 s) := by
 unfold n5 zbs5
 rw [zb4l s hw,obz]
 cases zbnv s with
 | true => rw [if_pos rfl,zb5t s hw,obz,Bool.true_and]
 | false => rw [if_neg (by decide),Bool.false_and]
def zbc9 (s : ac) (l : List Int) (i : Nat) : Bool :=
 (decide (0 ≤ l.getD i 0) && decide (l.getD i 0 < (s.Parties.length : Int))) && (!((l.take i).contains (l.getD i 0)) && (decide (i = 0) || zbbm s.Arcs (l.getD (i - 1) 0) (l.getD i 0)))
open Classical in
noncomputable def paB (s : ac) (l : List Int) : Bool := decide (Ok s ∧ l ≠ [] ∧ ∀ i,i < l.length → zbc9 s l i = true)
open Classical in
theorem zbkv {s : ac} {l : List Int} : paB s l = true ↔ Ok s ∧ l ≠ [] ∧ ∀ i,i < l.length → zbc9 s l i = true := by unfold paB; exact decide_eq_true_iff
theorem zbww {l : List Int} {i : Nat} (h : i < l.length) : l.getD i 0 = l[i] := by simp [List.getD,h]
theorem zbpu (s : ac) (hw : Wf s) (l : List Int) (hl : l.length < 1000) : iq s l = some (paB s l) := by
 unfold iq
 rw [zbtj s hw,obz]
 by_cases c : okS s = true
 · have h := zbmq.1 c
   have np := h.np
   have na := h.na
   rw [if_pos c]
   by_cases c0 : ((l.length : Nat) : Int) = 0
   · rw [if_pos c0]
     congr 1
     exact bo (P := False) (by rw [zbkv]; exact ⟨fun q => q.2.1 (List.eq_nil_of_length_eq_zero (by omega)),False.elim⟩) _ (by simp)
   · rw [if_neg c0]
     have hn : ¬ l = [] := fun e => c0 (by rw [e]; rfl)
     have out : (ej s l l (l.length : Nat) 0 = some (.ex ()) ∧ ∀ v,v < l.length → zbc9 s l v = true) ∨ (ej s l l (l.length : Nat) 0 = some (.rt false) ∧ ∃ v,v < l.length ∧ ¬ zbc9 s l v = true) := by
      refine zbvm (f := fun k => ej s l l (l.length : Nat) (k : Int)) ?_ ?_ ?_
      · show ej s l l (l.length : Nat) ((l.length : Nat) : Int) = _
        rw [vq,dl,if_neg (by omega),obz,LS.go]
      · intro k hk hp
        show ej s l l (l.length : Nat) (k : Int) = ej s l l (l.length : Nat) ((k + 1 : Nat) : Int)
        unfold zbc9 at hp
        rw [zbww hk] at hp
        simp only [Bool.and_eq_true,Bool.or_eq_true,Bool.not_eq_true',decide_eq_true_iff] at hp
        obtain ⟨⟨p1,p2⟩,p3,p4⟩ := hp
        rw [vq,dl,if_pos (by omega),sd hk,obz,if_neg (by omega),if_neg (by omega),if_pos hn,if_pos (by omega),Int.toNat_natCast,zbr3 _ _ (by rw [List.length_take]; omega),obz,if_neg (by rw [p3]; decide)]
        by_cases z : k = 0
        · rw [if_neg (by omega),obz,LS.go,z4 k (by omega)]
        · obtain ⟨j,rfl⟩ : ∃ j,k = j + 1 := ⟨k - 1,by omega⟩
          have p4 := p4.resolve_left z
          rw [Nat.add_sub_cancel,zbww (by omega)] at p4
          rw [if_pos (by omega),zbv4 _ l j (by omega) (by omega) _ (by omega),obz,if_pos p4,obz,LS.go,z4 (j + 1) (by omega)]
      · intro k hk hp
        show ej s l l (l.length : Nat) (k : Int) = _
        unfold zbc9 at hp
        rw [zbww hk] at hp
        simp only [Bool.and_eq_true,Bool.or_eq_true,Bool.not_eq_true',decide_eq_true_iff] at hp
        rw [vq,dl,if_pos (by omega),sd hk,obz]
        by_cases p1 : l[k] < 0
        · rw [if_pos p1,obz,LS.go]
        rw [if_neg p1]
        by_cases p2 : ((s.Parties.length : Nat) : Int) ≤ l[k]
        · rw [if_pos p2,obz,LS.go]
        rw [if_neg p2,if_pos hn,if_pos (by omega),Int.toNat_natCast,zbr3 _ _ (by rw [List.length_take]; omega),obz]
        by_cases p3 : (l.take k).contains l[k] = true
        · rw [if_pos p3,obz,LS.go]
        rw [if_neg p3]
        have p3 := Bool.eq_false_iff.2 p3
        by_cases z : k = 0
        · exact absurd ⟨⟨by omega,by omega⟩,p3,.inl z⟩ hp
        · obtain ⟨j,rfl⟩ : ∃ j,k = j + 1 := ⟨k - 1,by omega⟩
          have p4 : ¬ zbbm s.Arcs l[j] l[j + 1] = true := fun q => hp ⟨⟨by omega,by omega⟩,p3,.inr (by rw [Nat.add_sub_cancel,zbww (by omega)]; exact q)⟩
          rw [if_pos (by omega),zbv4 _ l j (by omega) (by omega) _ (by omega),obz,if_neg p4,obz,LS.go]
     rcases out with ⟨e,q⟩ | ⟨e,a,ha,q⟩
     · rw [e,obz]
       show some true = _
       congr 1
       exact (zbkv.2 ⟨h,hn,q⟩).symm
     · rw [e,obz]
       show some false = _
       congr 1
       exact bo (P := False) ⟨fun t => q ((zbkv.1 t).2.2 a ha),False.elim⟩ _ (by simp)
 · rw [if_neg c]
   congr 1
   exact bo (P := False) (by rw [zbkv]; exact ⟨fun h => c (zbmq.2 h.1),False.elim⟩) _ (by simp)
def ind (p : aa → Bool) : List aa → Int → List Int
 | [],_ => []
 | a :: r,i => if p a = true then i :: ind p r (i + 1) else ind p r (i + 1)
noncomputable def zboz (p : aa → Bool) (s : ac) : List Int := if okS s = true then ind p s.Arcs 0 else []
theorem zbug (v : Int) (A : List aa) (hl : A.length < 1000) (n : Nat) : ∀ (i : Nat) (acc : List Int),n + i = A.length → acc.length ≤ i → ip v A (A.length : Nat) acc (i : Int) = some (acc ++ ind (fun a => decide (a.To = v)) (A.drop i) i) := by
 induction n with
 | zero =>
  intro i acc h ha
  rw [z5,dv,if_neg (by omega),obz,LS.go,List.drop_of_length_le (by omega),ind,List.append_nil]
 | succ n ih =>
  intro i acc h ha
  have hi : i < A.length := by omega
  rw [z5,dv,if_pos (by omega),sd hi,obz,qd,obz,List.drop_eq_getElem_cons hi,ind]
  by_cases c : decide (A[i].To = v) = true
  · rw [if_pos c,if_pos (by omega),if_pos c,obz,LS.go,z4 i (by omega)]
    show ip v A (A.length : Nat) (acc ++ [(i : Int)]) ((i + 1 : Nat) : Int) = _
    rw [ih (i + 1) _ (by omega) (by rw [List.length_append,List.length_singleton]; omega),List.append_assoc]
    rfl
  · rw [if_neg c,if_neg c,obz,LS.go,z4 i (by omega)]
    show ip v A (A.length : Nat) acc ((i + 1 : Nat) : Int) = _
    rw [ih (i + 1) _ (by omega) (by omega)]
    rfl
theorem zbuf (v : Int) (A : List aa) (hl : A.length < 1000) (n : Nat) : ∀ (i : Nat) (acc : List Int),n + i = A.length → acc.length ≤ i → gv v A (A.length : Nat) acc (i : Int) = some (acc ++ ind (fun a => decide (a.From = v)) (A.drop i) i) := by
 induction n with
 | zero =>
  intro i acc h ha
  rw [yo,dj,if_neg (by omega),obz,LS.go,List.drop_of_length_le (by omega),ind,List.append_nil]
 | succ n ih =>
  intro i acc h ha
  have hi : i < A.length := by omega
  rw [yo,dj,if_pos (by omega),sd hi,obz,qc,obz,List.drop_eq_getElem_cons hi,ind]
  by_cases c : decide (A[i].From = v) = true
  · rw [if_pos c,if_pos (by omega),if_pos c,obz,LS.go,z4 i (by omega)]
    show gv v A (A.length : Nat) (acc ++ [(i : Int)]) ((i + 1 : Nat) : Int) = _
    rw [ih (i + 1) _ (by omega) (by rw [List.length_append,List.length_singleton]; omega),List.append_assoc]
    rfl
  · rw [if_neg c,if_neg c,obz,LS.go,z4 i (by omega)]
    show gv v A (A.length : Nat) acc ((i + 1 : Nat) : Int) = _
    rw [ih (i + 1) _ (by omega) (by omega)]
    rfl
theorem zbsl (s : ac) (hw : Wf s) (v : Int) : qz s v = some (zboz (fun a => decide (a.To = v)) s) := by
 unfold qz vp zboz
 rw [zbtj s hw,obz]
 by_cases c : okS s = true
 · have na := (zbmq.1 c).na
   have e : ip v s.Arcs (s.Arcs.length : Nat) [] 0 = some ([] ++ ind _ (s.Arcs.drop 0) 0) := zbug v s.Arcs (by omega) s.Arcs.length 0 [] rfl (Nat.le_refl _)
   rw [if_pos c,if_pos c,e,obz,obz,List.drop_zero,List.nil_append]
 · rw [if_neg c,if_neg c,obz]
theorem zbsk (s : ac) (hw : Wf s) (v : Int) : qy s v = some (zboz (fun a => decide (a.From = v)) s) := by
 unfold qy sq zboz
 rw [zbtj s hw,obz]
 by_cases c : okS s = true
 · have na := (zbmq.1 c).na
   have e : gv v s.Arcs (s.Arcs.length : Nat) [] 0 = some ([] ++ ind _ (s.Arcs.drop 0) 0) := zbuf v s.Arcs (by omega) s.Arcs.length 0 [] rfl (Nat.le_refl _)
   rw [if_pos c,if_pos c,e,obz,obz,List.drop_zero,List.nil_append]
 · rw [if_neg c,if_neg c,obz]
open Go Go.RowKit Sh Ic
def zbcq (k : Nat) : ByteArray := (⟨#[48,49,50,51,52,53,54,55,56,57]⟩ : ByteArray).extract k (k + 1)
def zbcz (k : Nat) : ByteArray := (⟨#[112,97,114,116,121]⟩ : ByteArray) ++ zbcq k
def zbym (k : Nat) : ByteArray := (⟨#[115,101,99,114,101,116]⟩ : ByteArray) ++ zbcq k
def j4 (k : Nat) : ByteArray := (⟨#[115,101,101,100]⟩ : ByteArray) ++ zbcq k
theorem ze (k : Nat) (h : k < 10) : (zbcq k).size = 1 := by
 unfold zbcq
 rw [ByteArray.size_extract]
 show min (k + 1) 10 - k = 1
 omega
theorem zbza (k : Nat) (h : k < 10) : vb (k : Int) = some (zbcq k) := by
 unfold vb
 rw [if_pos ⟨by omega,by omega⟩,Int.toNat_natCast]; rfl
theorem zbjo (k : Nat) (h : k < 10) : (zbcz k).size = 6 := by unfold zbcz; rw [ByteArray.size_append,ze k h]; rfl
theorem zbez (k : Nat) (h : k < 10) : (zbym k).size = 7 := by unfold zbym; rw [ByteArray.size_append,ze k h]; rfl
theorem zbey (k : Nat) (h : k < 10) : (j4 k).size = 5 := by unfold j4; rw [ByteArray.size_append,ze k h]; rfl
theorem zbjp (k : Nat) (h : k < 10) : mo (k : Int) = some (zbcz k) := by
 unfold mo
 rw [zbza k h,obz,if_pos (by rw [ze k h]; decide)]; rfl
theorem zbk9 (k : Nat) (h : k < 10) : va (k : Int) = some (zbym k) := by
 unfold va
 rw [zbza k h,obz,if_pos (by rw [ze k h]; decide)]; rfl
theorem zbu5 (k : Nat) (h : k < 10) : zi (k : Int) = some (j4 k) := by
 unfold zi
 rw [zbza k h,obz,if_pos (by rw [ze k h]; decide)]; rfl
def zbrf (k : Nat) : ByteArray := SHA (zbym k)
def zblp (i k : Nat) : ByteArray := PUB (j4 i) (k : Int)
theorem zbme (s : ByteArray) (k : Int) : (PUB s k).size = 16 := by unfold PUB; exact zbkw _
theorem zbrg (k : Nat) (h : k < 10) : zbcb (k : Int) = some (zbrf k) := by
 unfold zbcb
 rw [zbk9 k h,obz,zbnt _ (by rw [zbez k h]; decide)]; rfl
theorem zbvr (i k : Nat) (hi : i < 10) (hk : k < 10) : zbvs (i : Int) (k : Int) = some (zblp i k) := by
 unfold zbvs
 rw [zbu5 i hi,obz,zbvf _ (by rw [zbey i hi]; decide),if_pos (by unfold isK; omega)]; rfl
def upL (g : Nat → ByteArray) : Nat → Nat → List ByteArray
 | 0,_ => []
 | n + 1,k => g k :: upL g n (k + 1)
theorem zbql (g : Nat → ByteArray) (n : Nat) : ∀ k,(upL g n k).length = n := by
 induction n with
 | zero => intro k; rfl
 | succ n ih => intro k; rw [upL,List.length_cons,ih]
theorem zbqk {g : Nat → ByteArray} {n : Nat} : ∀ {k : Nat} {x : ByteArray},x ∈ upL g n k → ∃ j,k ≤ j ∧ j < k + n ∧ x = g j := by
 induction n with
 | zero => intro k x h; cases h
 | succ n ih =>
  intro k x h
  rw [upL,List.mem_cons] at h
  rcases h with rfl | h
  · exact ⟨k,Nat.le_refl _,by omega,rfl⟩
  · obtain ⟨j,h1,h2,h3⟩ := ih h
    exact ⟨j,by omega,by omega,h3⟩
theorem zb2b {f : Int → Option ByteArray} {g : Nat → ByteArray} (hf : ∀ k : Nat,k < 10 → f (k : Int) = some (g k)) (n : Nat) : ∀ (k : Nat) (l : List ByteArray),n + k ≤ 10 → zbbc f n k l = some (l ++ upL g n k) := by
 induction n with
 | zero => intro k l h; rw [zbbc,upL,List.append_nil]
 | succ n ih => intro k l h; rw [zbbc,hf k (by omega),obz,ih (k + 1) _ (by omega),upL,List.append_assoc]; rfl
def zbbd (L : Nat) : Nat → Nat → List af
 | 0,_ => []
 | n + 1,k => ⟨zbcz k,upL (zblp k) L 0⟩ :: zbbd L n (k + 1)
theorem zbzn (L n : Nat) : ∀ k,(zbbd L n k).length = n := by
 induction n with
 | zero => intro k; rfl
 | succ n ih => intro k; rw [zbbd,List.length_cons,ih]
theorem zbq4 (L : Nat) (hL : L ≤ 10) (n : Nat) : ∀ (k : Nat) (d : List af),n + k ≤ 10 → zbmi L (bare (upL zbcz n k)) k d = some (d ++ zbbd L n k) := by
 induction n with
 | zero => intro k d h; show some d = some (d ++ []); rw [List.append_nil]
 | succ n ih =>
  intro k d h
  show (zbbc (zbvs (k : Int)) L 0 [] >>= fun ks => zbmi L (bare (upL zbcz n (k + 1))) (k + 1) (d ++ [⟨zbcz k,ks⟩])) = _
  rw [zb2b (g := zblp k) (fun j hj => zbvr k j (by omega) hj) L 0 [] (by omega),obz,ih (k + 1) _ (by omega),List.append_assoc]
  rfl
def j0 (n : Nat) (start delta : Int) : ac := ⟨⟨#[114,105,110,103]⟩,zbbd 1 n 0,vy n 0 2,[0],[zbrf 0],start,delta⟩
theorem zbnz (n : Nat) (start delta : Int) (h1 : 1 ≤ n) (h6 : n ≤ 6) : zj (n : Int) start delta = some (j0 n start delta) := by
 unfold zj
 have e1 : zbt5 (n : Int) 0 2 = some (vy n 0 2) := if_pos ⟨⟨by omega,by omega⟩,by decide,by decide⟩
 rw [if_pos ⟨by omega,by omega⟩,e1,obz,Int.toNat_natCast,zb2b zbjp n 0 [] (by omega),obz,zb2b zbrg 1 0 [] (by omega),obz,List.nil_append,zbq4 1 (by omega) n 0 [] (by omega),obz]
 rfl
theorem zbq3 (L : Nat) (n : Nat) : ∀ k,n + k ≤ 10 → ∀ p ∈ zbbd L n k,zbqb (L : Int) p = true := by
 induction n with
 | zero => intro k h p hp; cases hp
 | succ n ih =>
  intro k h p hp
  rw [zbbd,List.mem_cons] at hp
  rcases hp with rfl | hp
  · unfold zbqb
    rw [Bool.and_eq_true,zb6s,zbz8]
    refine ⟨by show 1 ≤ (zbcz k).size ∧ (zbcz k).size ≤ 16; rw [zbjo k (by omega)]; decide,by show ((upL (zblp k) L 0).length : Int) = _; rw [zbql],fun x hx => ?_⟩
    obtain ⟨j,_,_,rfl⟩ := zbqk hx
    show ((PUB _ _).size : Int) = 16
    rw [zbme]; rfl
  · exact ih (k + 1) (by omega) p hp
theorem zbe4 (L n : Nat) : ∀ k,(zbbd L n k).map af.Account = upL zbcz n k := by
 induction n with
 | zero => intro k; rfl
 | succ n ih => intro k; rw [zbbd,List.map_cons,ih,upL]
theorem zbmc : (upL zbcz 6 0).Nodup := by decide +kernel
theorem zbk2 (g : Nat → ByteArray) (n m : Nat) : ∀ k,upL g n k = (upL g (n + m) k).take n := by
 induction n with
 | zero => intro k; rfl
 | succ n ih => intro k; rw [Nat.succ_add,upL,upL,List.take_succ_cons,← ih]
theorem zcs7 (n : Nat) (h : n ≤ 6) : (upL zbcz n 0).Nodup := by
 have e := zbk2 zbcz n (6 - n) 0
 rw [show n + (6 - n) = 6 by omega] at e
 rw [e]
 exact zbmc.sublist (List.take_sublist _ _)
def xn (n : Nat) (l : List aa) : Bool := l.all (zbc3 (n : Int)) && decide ((l.map fun a => (a.From,a.To)).Nodup) && decide (1 ≤ l.length) && decide (l.length ≤ 12)
theorem zbfa : (xn 2 (vy 2 0 2) && xn 3 (vy 3 0 2) && xn 4 (vy 4 0 2) && xn 5 (vy 5 0 2) && xn 6 (vy 6 0 2)) = true := by decide +kernel
theorem zbe8 (n : Nat) (h2 : 2 ≤ n) (h6 : n ≤ 6) : xn n (vy n 0 2) = true := by
 have h := zbfa
 simp only [Bool.and_eq_true] at h
 obtain ⟨⟨⟨⟨a,b⟩,c⟩,d⟩,e⟩ := h
 have : n = 2 ∨ n = 3 ∨ n = 4 ∨ n = 5 ∨ n = 6 := by omega
 rcases this with rfl | rfl | rfl | rfl | rfl <;> assumption
theorem zbe7 (n : Nat) (start delta : Int) (h2 : 2 ≤ n) (h6 : n ≤ 6) (hs : 0 ≤ start ∧ start ≤ 1099511627776) (hd : 1 ≤ delta ∧ delta ≤ 1048576) : Ok (j0 n start delta) := by
 have g := zbe8 n h2 h6
 unfold xn at g
 simp only [Bool.and_eq_true,decide_eq_true_iff,List.all_eq_true] at g
 obtain ⟨⟨⟨g1,g2⟩,g3⟩,g4⟩ := g
 have ln : (zbbd 1 n 0).length = n := zbzn 1 n 0
 refine ⟨by show zbdh ⟨#[114,105,110,103]⟩ = true; decide +kernel,?_,by show 1 ≤ 1 ∧ 1 ≤ 3; decide,⟨g3,g4⟩,⟨rfl,fun x hx => ?_⟩,hs,hd,zbq3 1 n 0 (by omega),?_,?_,g2,by show [(0 : Int)].Nodup; decide,fun v hv => ?_⟩
 · show 2 ≤ (zbbd 1 n 0).length ∧ (zbbd 1 n 0).length ≤ 6
   omega
 · have : x = zbrf 0 := by simpa [j0] using hx
   rw [this]; exact zbyz _
 · show ∀ a ∈ vy n 0 2,zbc3 ((zbbd 1 n 0).length : Nat) a = true
   rw [ln]; exact g1
 · show ((zbbd 1 n 0).map af.Account).Nodup
   rw [zbe4]; exact zcs7 n h6
 · have : v = 0 := by simpa [j0] using hv
   rw [this]
   show (0 : Int) ≤ 0 ∧ (0 : Int) < ((zbbd 1 n 0).length : Nat)
   omega
open Go Go.RowKit Sh Ic
def prs (A : List aa) : List (Int × Int) := A.map fun a => (a.From,a.To)
theorem zbxd {A : List aa} {P : Int → Bool} {x y : Int} : j6 false A P x y ↔ (x,y) ∈ prs A ∧ P y = true := by
 unfold prs
 rw [List.mem_map]
 constructor
 · rintro ⟨a,h1,h2,h3,h4⟩
   have h2 : a.From = x := h2
   have h3 : a.To = y := h3
   exact ⟨⟨a,h1,by rw [h2,h3]⟩,h4⟩
 · rintro ⟨⟨a,h1,h2⟩,h4⟩
   injection h2 with h2 h3
   exact ⟨a,h1,h2,h3,h4⟩
theorem zbb6 {E : Int → Int → Prop} {C : Int → Prop} (h : ∀ x y,E x y → C x → C y) {x y : Int} (r : Rch E x y) (c : C x) : C y := by
 induction r with
 | one e => exact h _ _ e c
 | snoc _ e ih => exact h _ _ e ih
theorem zbvb {E : Int → Int → Prop} (h : ∀ x y,E x y → x < y) {x y : Int} (r : Rch E x y) : x < y := by
 induction r with
 | one e => exact h _ _ e
 | snoc _ e ih => have := h _ _ e; omega
theorem zbld {s : ac} (n : Nat) (hn : s.Parties.length = n) (h2 : 2 ≤ n) (h1 : ∀ k : Nat,k + 1 < n → ((k : Int),((k + 1 : Nat) : Int)) ∈ prs s.Arcs) (h0 : (((n - 1 : Nat) : Int),(0 : Int)) ∈ prs s.Arcs) : Hub s := by
 have fe : ∀ k : Nat,k + 1 < n → j6 false s.Arcs T1 (k : Int) ((k + 1 : Nat) : Int) := fun k hk => zbxd.2 ⟨h1 k hk,rfl⟩
 have le : j6 false s.Arcs T1 ((n - 1 : Nat) : Int) 0 := zbxd.2 ⟨h0,rfl⟩
 have fw : ∀ k : Nat,k + 1 < n → Rch (j6 false s.Arcs T1) 0 ((k + 1 : Nat) : Int) := by
  intro k
  induction k with
  | zero => intro hk; exact .one (fe 0 hk)
  | succ k ih => intro hk; exact .snoc (ih (by omega)) (fe (k + 1) hk)
 have bw : ∀ j : Nat,j < n → Rch (j6 true s.Arcs T1) 0 ((n - 1 - j : Nat) : Int) := by
  intro j
  induction j with
  | zero => intro _; exact .one ((zbxe _ _).2 le)
  | succ j ih =>
   intro hj
   refine .snoc (ih (by omega)) ((zbxe _ _).2 ?_)
   have := fe (n - 1 - (j + 1)) (by omega)
   rw [show n - 1 - (j + 1) + 1 = n - 1 - j by omega] at this
   exact this
 constructor
 · intro y hy
   rw [hn] at hy
   by_cases c : y = 0
   · rw [c]
     have := fw (n - 2) (by omega)
     rw [show n - 2 + 1 = n - 1 by omega] at this
     exact .snoc this le
   · have := fw (y.toNat - 1) (by omega)
     rw [show ((y.toNat - 1 + 1 : Nat) : Int) = y by omega] at this
     exact this
 · intro y hy
   rw [hn] at hy
   have := bw (n - 1 - y.toNat) (by omega)
   rw [show ((n - 1 - (n - 1 - y.toNat) : Nat) : Int) = y by omega] at this
   exact this
theorem zbre {s : ac} (h : Ok s) (A : List aa) (g : xn s.Parties.length A = true) : Ok ⟨s.ID,s.Parties,A,s.Leaders,s.Locks,s.Start,s.Delta⟩ := by
 unfold xn at g
 simp only [Bool.and_eq_true,decide_eq_true_iff,List.all_eq_true] at g
 obtain ⟨⟨⟨g1,g2⟩,g3⟩,g4⟩ := g
 exact ⟨h.id,h.np,h.nl,⟨g3,g4⟩,h.locks,h.start,h.delta,h.parties,g1,h.accts,g2,h.leads,h.inl⟩
theorem zbrd {s : ac} (h : Ok s) : Wf s := ⟨fun v hv => by
 have := h.inl v hv
 have np := h.np
 exact zbtr (by omega) (by omega),by have := h.start; exact zbtr (by omega) (by omega),by have := h.delta; exact zbtr (by omega) (by omega)⟩
theorem zbq2 {s : ac} (C : Int → Bool) (hc : ((prs s.Arcs).all fun p => !C p.1 || C p.2) = true) (a b : Int) (ha : 0 ≤ a ∧ a < s.Parties.length) (hb : 0 ≤ b ∧ b < s.Parties.length) (h1 : C a = true) (h2 : C b = false) : zbnv s = false := by
 refine Bool.eq_false_iff.2 fun h => ?_
 have hab : a ≠ b := fun e => by rw [e,h2] at h1; cases h1
 have r := (zbtv.1 h).2 a b ha hb hab
 have := zbb6 (C := fun x => C x = true) (fun x y e hx => by
  have e := (zbxd.1 e).1
  rw [List.all_eq_true] at hc
  have := hc _ e
  simp only [Bool.or_eq_true,Bool.not_eq_true'] at this
  rcases this with t | t
  · rw [t] at hx; cases hx
  · exact t) r h1
 have this : C b = true := this
 rw [h2] at this; cases this
theorem zbio {s : ac} (h : Ok s) (hl : s.Leaders = [0]) (hp : ((prs s.Arcs).all fun p => decide (p.2 = 0) || decide (p.1 < p.2)) = true) : fbB s = true := by
 refine zbw2.2 ⟨h,fun v _ hf => ?_⟩
 have := zbvb (fun x y e => by
  obtain ⟨e1,e2⟩ := zbxd.1 e
  rw [List.all_eq_true] at hp
  have := hp _ e1
  simp only [Bool.or_eq_true,decide_eq_true_iff] at this
  rcases this with t | t
  · exfalso
    have e2 : (!(s.Leaders.contains y)) = true := e2
    rw [hl,t] at e2
    exact absurd e2 (by decide)
  · exact t) hf.2
 omega
theorem zbll : ¬ Ok (⟨(⟨#[]⟩ : ByteArray),[],[],[],[],(0 : Int),(0 : Int)⟩ : ac) := fun h => absurd h.np.1 (by decide)
theorem zb2z : prs (vy 3 0 2) = [(0,1),(1,2),(2,0)] := by decide +kernel
theorem zbfb (a b : Int) : (j0 3 a b).Parties.length = 3 := zbzn 1 3 0
theorem zb20 : zbbm (vy 3 0 2) 0 1 = true ∧ zbbm (vy 3 0 2) 1 2 = true ∧ zbbm (vy 3 0 2) 0 2 = false ∧ (ind (fun a => decide (a.To = 0)) (vy 3 0 2) 0).length = 1 ∧ (ind (fun a => decide (a.From = 0)) (vy 3 0 2) 0).length = 1 := by decide +kernel
theorem zbl9 : xf = some true := by
 have h := zbe7 3 5 6 (by decide) (by decide) (by decide) (by decide)
 have hw := zbrd h
 have np := zbfb 5 6
 obtain ⟨q1,q2,q3,q4,q5⟩ := zb20
 have e := zbnz 3 5 6 (by decide) (by decide)
 have e : zj 3 5 6 = some (j0 3 5 6) := e
 have v1 : zbs5 (j0 3 5 6) = true := by
  unfold zbs5
  rw [Bool.and_eq_true]
  constructor
  · refine zbtv.2 ⟨h,(zbep (by omega)).2 (zbld 3 np (by decide) (fun k hk => ?_) ?_)⟩
    · show _ ∈ prs (vy 3 0 2)
      rw [zb2z]
      have : k = 0 ∨ k = 1 := by omega
      rcases this with rfl | rfl <;> decide
    · show _ ∈ prs (vy 3 0 2)
      rw [zb2z]; decide
  · refine zbio h rfl ?_
    show ((prs (vy 3 0 2)).all _) = true
    rw [zb2z]; decide
 have p1 : paB (j0 3 5 6) [0,1,2] = true := by
  refine zbkv.2 ⟨h,by simp,fun i hi => ?_⟩
  have : i = 0 ∨ i = 1 ∨ i = 2 := by simp at hi; omega
  unfold zbc9
  rw [np]
  rcases this with rfl | rfl | rfl
  · decide
  · show (_ && (_ && (_ || zbbm (vy 3 0 2) 0 1))) = true
    rw [q1]; decide
  · show (_ && (_ && (_ || zbbm (vy 3 0 2) 1 2))) = true
    rw [q2]; decide
 have p2 : paB (j0 3 5 6) [0,2] = false := by
  refine Bool.eq_false_iff.2 fun t => ?_
  have := (zbkv.1 t).2.2 1 (by decide)
  unfold zbc9 at this
  rw [np] at this
  have this : (_ && (_ && (_ || zbbm (vy 3 0 2) 0 2))) = true := this
  rw [q3] at this
  exact absurd this (by decide)
 have v2 : zbs5 (⟨(⟨#[]⟩ : ByteArray),[],[],[],[],(0 : Int),(0 : Int)⟩ : ac) = false := by
  refine Bool.eq_false_iff.2 fun t => ?_
  unfold zbs5 at t
  rw [Bool.and_eq_true] at t
  exact zbll (zbtv.1 t.1).1
 have n1 : ((zboz (fun a => decide (a.To = 0)) (j0 3 5 6)).length : Int) = 1 := by
  unfold zboz
  rw [if_pos (zby8 h)]
  show ((ind _ (vy 3 0 2) 0).length : Int) = 1
  rw [q4]; rfl
 have n2 : ((zboz (fun a => decide (a.From = 0)) (j0 3 5 6)).length : Int) = 1 := by
  unfold zboz
  rw [if_pos (zby8 h)]
  show ((ind _ (vy 3 0 2) 0).length : Int) = 1
  rw [q5]; rfl
 unfold xf
 rw [e,obz,zbjt _ hw,obz,if_pos v1,zbpu _ hw _ (by decide),obz,if_pos p1,zbpu _ hw _ (by decide),obz,if_neg (by rw [p2]; decide),zbsl _ hw,obz,if_pos n1,zbsk _ hw,obz,if_pos n2,
  zbjt _ ⟨fun v hv => (by cases hv),by decide,by decide⟩,obz,v2]
 rfl
open Go Go.RowKit Sh Ic
theorem zb2g (n k : Int) (hk : 0 < k) (hk2 : k < 9223372036854775808) : qm n k = some (n % k) := by
 unfold qm
 rw [if_pos (by omega)]
 have h1 := Int.emod_nonneg n (show k ≠ 0 by omega)
 have h2 := Int.emod_lt_of_pos n hk
 by_cases c : 0 ≤ n
 · have e : Int.tmod n k = n % k := Int.tmod_eq_emod_of_nonneg c
   rw [e,if_neg (by omega)]
 · have e := Int.tmod_eq_emod (a := n) (b := k)
   by_cases d : n % k = 0
   · have : Int.tmod n k = 0 := by
      rw [e,d]
      have : k ∣ n := Int.dvd_of_emod_eq_zero d
      simp [this]
     rw [this,d,if_neg (by decide)]
   · have nd : ¬ k ∣ n := fun h => d (Int.emod_eq_zero_of_dvd h)
     have e2 : Int.tmod n k = n % k - k := by
      rw [e,if_neg (fun h => h.elim c nd)]
      omega
     rw [e2,if_pos (by omega),w64 (by omega) (by omega)]
     congr 1
     omega
open Go Go.RowKit Sh Ic
open Sh.ArgT (enc)
def zbb1 (k : Nat) : List (Int × Int) := (List.range k).map fun i => (((i : Nat) : Int),(((i + 1) % k : Nat) : Int))
theorem k26 {k : Nat} (h2 : 2 ≤ k) (h6 : k ≤ 6) : k = 2 ∨ k = 3 ∨ k = 4 ∨ k = 5 ∨ k = 6 := by omega
theorem zblc {k : Nat} (h2 : 2 ≤ k) (h6 : k ≤ 6) : prs (vy k 0 2) = zbb1 k := by
 rcases k26 h2 h6 with rfl | rfl | rfl | rfl | rfl <;> decide +kernel
theorem zbe9 {k : Nat} (h2 : 2 ≤ k) (h6 : k ≤ 6) : xn k ((vy k 0 2).drop 1) = true := by
 rcases k26 h2 h6 with rfl | rfl | rfl | rfl | rfl <;> decide +kernel
theorem zbma (A : List aa) (x y : Int) : zbbm A x y = (prs A).any fun p => decide (p.1 = x) && decide (p.2 = y) := by
 unfold zbbm prs
 rw [List.any_map]
 rfl
def zbrp (np : Nat) (L : List (Int × Int)) (l : List Int) (i : Nat) : Bool :=
 (decide (0 ≤ l.getD i 0) && decide (l.getD i 0 < (np : Int))) && (!((l.take i).contains (l.getD i 0)) && (decide (i = 0) || L.any fun p => decide (p.1 = l.getD (i - 1) 0) && decide (p.2 = l.getD i 0)))
def zbgf (np : Nat) (L : List (Int × Int)) (l : List Int) : Bool := !l.isEmpty && (List.range l.length).all (zbrp np L l)
theorem zbgh {s : ac} (h : Ok s) (l : List Int) : paB s l = zbgf s.Parties.length (prs s.Arcs) l := by
 refine bo (P := l ≠ [] ∧ ∀ i,i < l.length → zbc9 s l i = true) ?_ _ (by rw [zbkv]; exact ⟨fun q => q.2,fun q => ⟨h,q⟩⟩)
 unfold zbgf
 rw [Bool.and_eq_true,List.all_eq_true]
 have e : ∀ i,zbrp s.Parties.length (prs s.Arcs) l i = zbc9 s l i := fun i => by unfold zbrp zbc9; rw [zbma]
 constructor
 · rintro ⟨h1,h2⟩
   refine ⟨fun e0 => (by rw [e0] at h1; cases h1),fun i hi => ?_⟩
   rw [← e]; exact h2 i (List.mem_range.2 hi)
 · rintro ⟨h1,h2⟩
   refine ⟨(by cases l with | nil => exact absurd rfl h1 | cons => rfl),fun i hi => ?_⟩
   rw [e]; exact h2 i (List.mem_range.1 hi)
def rg (a k : Nat) : Nat → Nat → List Int
 | 0,_ => []
 | n + 1,i => (((a + i) % k : Nat) : Int) :: rg a k n (i + 1)
theorem zbu8 (a k n : Nat) : ∀ i,(rg a k n i).length = n := by
 induction n with
 | zero => intro i; rfl
 | succ n ih => intro i; rw [rg,List.length_cons,ih]
theorem zcuw (a k m : Nat) (s : ac) (ha : a < 100) (hk : 0 < k ∧ k < 100) (hm : m < 100) (n : Nat) : ∀ (i : Nat) (acc : List Int),n + i = m → acc.length ≤ i → ik (k : Int) s (a : Int) (m : Int) acc (i : Int) = some (acc ++ rg a k n i) := by
 induction n with
 | zero =>
  intro i acc h hc
  rw [xz,df,if_neg (by omega),obz,LS.go,rg,List.append_nil]
 | succ n ih =>
  intro i acc h hc
  have w1 : IntKind.i64.wrap ((a : Int) + (i : Int)) = ((a + i : Nat) : Int) := by rw [w64 (by omega) (by omega)]; omega
  have t1 : Int.tmod ((a + i : Nat) : Int) (k : Int) = (((a + i) % k : Nat) : Int) := by rw [Int.tmod_eq_emod_of_nonneg (by omega)]; rfl
  rw [xz,df,if_pos (by omega),if_pos (by omega),if_pos (by omega),obz,LS.go,w1,t1,z4 i (by omega)]
  show ik (k : Int) s (a : Int) (m : Int) (acc ++ [(((a + i) % k : Nat) : Int)]) ((i + 1 : Nat) : Int) = _
  rw [ih (i + 1) _ (by omega) (by rw [List.length_append,List.length_singleton]; omega),List.append_assoc]
  rfl
def chk (k a j : Nat) : Bool :=
 zbgf k (zbb1 k) (rg a k (j + 1) 0) && (!zbgf k (zbb1 k) (rg a k (j + 1) 0 ++ [(((a + 0) % k : Nat) : Int)]) && (zbgf k (zbb1 k) (rg a k (j + 1) 0 ++ [(((a + (j + 1)) % k : Nat) : Int)]) == decide (j + 1 < k)))
theorem zbr8 : ((List.range 5).all fun q => (List.range (q + 2)).all fun a => (List.range (q + 2)).all fun j => chk (q + 2) a j) = true := by decide +kernel
theorem zbr7 {k a j : Nat} (h2 : 2 ≤ k) (h6 : k ≤ 6) (ha : a < k) (hj : j < k) : chk k a j = true := by
 have h := zbr8
 simp only [List.all_eq_true,List.mem_range] at h
 have := h (k - 2) (by omega) a (by omega) j (by omega)
 rw [show k - 2 + 2 = k by omega] at this
 exact this
theorem zbq6 (p1 p2 p3 : Int) : ql p1 p2 p3 = some true := by
 obtain ⟨n,hn⟩ : ∃ n : Nat,p1 % 5 = (n : Int) := ⟨(p1 % 5).toNat,by omega⟩
 obtain ⟨k,hk⟩ : ∃ k : Nat,k = n + 2 := ⟨_,rfl⟩
 have h2 : 2 ≤ k := by omega
 have h6 : k ≤ 6 := by omega
 have w1 : IntKind.i64.wrap (2 + (n : Int)) = (k : Int) := by rw [w64 (by omega) (by omega)]; omega
 obtain ⟨a,ha⟩ : ∃ a : Nat,p2 % (k : Int) = (a : Int) := ⟨(p2 % (k : Int)).toNat,by have := Int.emod_nonneg p2 (show (k : Int) ≠ 0 by omega); omega⟩
 have ak : a < k := by have := Int.emod_lt_of_pos p2 (show (0 : Int) < k by omega); omega
 obtain ⟨j,hj⟩ : ∃ j : Nat,p3 % (k : Int) = (j : Int) := ⟨(p3 % (k : Int)).toNat,by have := Int.emod_nonneg p3 (show (k : Int) ≠ 0 by omega); omega⟩
 have jk : j < k := by have := Int.emod_lt_of_pos p3 (show (0 : Int) < k by omega); omega
 have w2 : IntKind.i64.wrap (1 + (j : Int)) = ((j + 1 : Nat) : Int) := by rw [w64 (by omega) (by omega)]; omega
 have w3 : IntKind.i64.wrap ((a : Int) + ((j + 1 : Nat) : Int)) = ((a + (j + 1) : Nat) : Int) := by rw [w64 (by omega) (by omega)]; omega
 have t3 : Int.tmod ((a + (j + 1) : Nat) : Int) (k : Int) = (((a + (j + 1)) % k : Nat) : Int) := by rw [Int.tmod_eq_emod_of_nonneg (by omega)]; rfl
 have h := zbe7 k 5 6 h2 h6 (by decide) (by decide)
 have hw := zbrd h
 have np : (j0 k 5 6).Parties.length = k := zbzn 1 k 0
 have pr : prs (j0 k 5 6).Arcs = zbb1 k := zblc h2 h6
 obtain ⟨l,hl⟩ : ∃ l,l = rg a k (j + 1) 0 := ⟨_,rfl⟩
 have ll : l.length = j + 1 := by rw [hl,zbu8]
 have l0 : ixL l 0 = some (((a + 0) % k : Nat) : Int) := by rw [hl,rg]; rfl
 have c := zbr7 h2 h6 ak jk
 unfold chk at c
 rw [← hl] at c
 simp only [Bool.and_eq_true,Bool.not_eq_true',beq_iff_eq] at c
 obtain ⟨c1,c2,c3⟩ := c
 have v1 : paB (j0 k 5 6) l = true := by rw [zbgh h,np,pr]; exact c1
 have v2 : paB (j0 k 5 6) (l ++ [(((a + 0) % k : Nat) : Int)]) = false := by rw [zbgh h,np,pr]; exact c2
 have v3 : paB (j0 k 5 6) (l ++ [(((a + (j + 1)) % k : Nat) : Int)]) = decide (j + 1 < k) := by rw [zbgh h,np,pr]; exact c3
 have v4 : paB (j0 k 5 6) [] = false := Bool.eq_false_iff.2 fun t => (zbkv.1 t).2.1 rfl
 have v5 : paB (j0 k 5 6) [-1] = false := Bool.eq_false_iff.2 fun t => by
  have := (zbkv.1 t).2.2 0 (by decide)
  unfold zbc9 at this
  simp at this
 have ht : Ok ⟨(j0 k 5 6).ID,(j0 k 5 6).Parties,(j0 k 5 6).Arcs.drop 1,(j0 k 5 6).Leaders,(j0 k 5 6).Locks,(j0 k 5 6).Start,(j0 k 5 6).Delta⟩ := zbre h _ (by rw [np]; exact zbe9 h2 h6)
 have hwt := zbrd ht
 have pd : prs ((j0 k 5 6).Arcs.drop 1) = (zbb1 k).drop 1 := by rw [← pr]; unfold prs; rw [List.map_drop]
 have v6 : zbnv ⟨(j0 k 5 6).ID,(j0 k 5 6).Parties,(j0 k 5 6).Arcs.drop 1,(j0 k 5 6).Leaders,(j0 k 5 6).Locks,(j0 k 5 6).Start,(j0 k 5 6).Delta⟩ = false := by
  refine zbq2 (fun x => decide (x = 0)) ?_ 0 1 ⟨by decide,?_⟩ ⟨by decide,?_⟩ (by decide) (by decide)
  · show ((prs ((j0 k 5 6).Arcs.drop 1)).all _) = true
    rw [pd]
    rcases k26 h2 h6 with e | e | e | e | e <;> rw [e] <;> decide
  · show (0 : Int) < ((j0 k 5 6).Parties.length : Nat); rw [np]; omega
  · show (1 : Int) < ((j0 k 5 6).Parties.length : Nat); rw [np]; omega
 have v7 : fbB ⟨(j0 k 5 6).ID,(j0 k 5 6).Parties,(j0 k 5 6).Arcs.drop 1,(j0 k 5 6).Leaders,(j0 k 5 6).Locks,(j0 k 5 6).Start,(j0 k 5 6).Delta⟩ = true := by
  refine zbio ht rfl ?_
  show ((prs ((j0 k 5 6).Arcs.drop 1)).all _) = true
  rw [pd]
  rcases k26 h2 h6 with e | e | e | e | e <;> rw [e] <;> decide
 have al : (j0 k 5 6).Arcs.length ≠ 0 := by have := h.na; omega
 have nn : ¬ (j0 k 5 6).Arcs = [] := fun e => al (by rw [e]; rfl)
 have d3 : (paB (j0 k 5 6) (l ++ [(((a + (j + 1)) % k : Nat) : Int)]) == decide (((j + 1 : Nat) : Int) < (k : Int))) = true := by
  rw [v3,beq_iff_eq]
  exact decide_eq_decide.2 ⟨fun _ => by omega,fun _ => by omega⟩
 have loop : ik (k : Int) (j0 k 5 6) (a : Int) ((j + 1 : Nat) : Int) [] 0 = some l := by
  have := zcuw a k (j + 1) (j0 k 5 6) (by omega) (by omega) (by omega) (j + 1) 0 [] rfl (Nat.le_refl _)
  rw [List.nil_append,← hl] at this
  exact this
 unfold ql
 rw [zb2g p1 5 (by decide) (by decide),obz,hn,w1,zbnz k 5 6 (by omega) h6,obz,zb2g p2 k (by omega) (by omega),obz,zb2g p3 k (by omega) (by omega),obz,ha,hj,w2,loop,obz,if_pos nn,if_pos (by omega),
  zbpu _ hw _ (by omega),obz,if_pos v1,l0,obz,if_pos (by omega),if_pos (by omega),zbpu _ hw _ (by rw [List.length_append,List.length_singleton]; omega),obz,if_neg (by rw [v2]; decide),if_pos (by omega),w3,t3,zbpu _ hw _ (by rw [List.length_append,List.length_singleton]; omega),obz,if_pos d3,
  zbpu _ hw _ (by decide),obz,if_neg (by rw [v4]; decide),zbpu _ hw _ (by decide),obz,if_neg (by rw [v5]; decide),zb4l _ hwt,obz,if_neg (by rw [v6]; decide),zb5t _ hwt,obz,if_pos v7,zbl9,obz]
theorem zcus (n f z : Int) (_ : Arg.ok n) (_ : Arg.ok f) (_ : Arg.ok z) : Lw G nu [enc n,enc f,enc z] := ⟨_,xg n f z true (zbq6 n f z) ⟨[],0⟩ (Nat.le_refl _)⟩
end Go.Proofs.Ytdcfoaafkppojaa
