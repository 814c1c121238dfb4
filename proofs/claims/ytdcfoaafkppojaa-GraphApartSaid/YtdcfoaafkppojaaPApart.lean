import Derived.Test.YtdcfoaafkppojaaM26
set_option linter.unusedSimpArgs false
set_option linter.unusedVariables false
/- GraphApart: j5 graphs of j5 parties. -/
namespace Go.Proofs.Ytdcfoaafkppojaa
open Go Go.RowKit Sh Ic
open Sh.ArgT (enc)
def prA : List Int → List aa
 | x :: y :: r => ⟨x,y,0,⟨#[103,111,108,100]⟩,1⟩ :: prA r
 | _ => []
theorem zbtf (l : List Int) (a : ByteArray) (b : List af) (c : List Int) (d : List ByteArray) (e f : Int) (hl : l.length < 1000) (n : Nat) : ∀ (i : Nat) (acc : List aa),2 * n + i = l.length → acc.length ≤ i →
 en l a b c d e f acc (i : Int) = some (a,b,acc ++ prA (l.drop i),c,d,e,f) := by
 induction n with
 | zero =>
  intro i acc h ha
  rw [va,b7,zi i (by omega),if_neg (by omega),obz,LS.go,List.drop_of_length_le (by omega),prA,List.append_nil]
  · intro x y r h; cases h
 | succ n ih =>
  intro i acc h ha
  have hi : i < l.length := by omega
  have hj : i + 1 < l.length := by omega
  have w2 : IntKind.i64.wrap ((i : Int) + 2) = ((i + 2 : Nat) : Int) := by rw [w64 (by omega) (by omega)]; omega
  rw [va,b7,zi i (by omega),if_pos (by omega),ot hi,obz,ot hj,obz,if_pos (by omega),obz,LS.go,w2]
  show en l a b c d e f (acc ++ [(⟨l[i],l[i + 1],0,⟨#[103,111,108,100]⟩,1⟩ : aa)]) ((i + 2 : Nat) : Int) = _
  rw [ih (i + 2) _ (by omega) (by rw [List.length_append,List.length_singleton]; omega),List.drop_eq_getElem_cons hi,List.drop_eq_getElem_cons hj,prA,List.append_assoc]
  rfl
theorem zbx6 (l : List Int) (s : ac) (n : Nat) (h : 2 * n = l.length) (hl : l.length < 1000) : eg l s = some (s.ID,s.Parties,prA l,s.Leaders,s.Locks,s.Start,s.Delta) := by
 have e : en l s.ID s.Parties s.Leaders s.Locks s.Start s.Delta [] 0 = some (s.ID,s.Parties,[] ++ prA (l.drop 0),s.Leaders,s.Locks,s.Start,s.Delta) := zbtf l _ _ _ _ _ _ hl n 0 [] (by omega) (Nat.le_refl _)
 unfold eg
 rw [e,obz]
 rfl
def j5 (l : List Int) : ac := ⟨(zbbw 4 5 6).ID,(zbbw 4 5 6).Parties,prA l,(zbbw 4 5 6).Leaders,(zbbw 4 5 6).Locks,(zbbw 4 5 6).Start,(zbbw 4 5 6).Delta⟩
theorem zblg (l : List Int) : (j5 l).Parties.length = 4 := zbyy 1 4 0
theorem zbq2 (l : List Int) (g : pm 4 (prA l) = true) : Ok (j5 l) :=
 zbse (zbfz 4 5 6 (by decide) (by decide) (by decide) (by decide)) (prA l) (by rw [show (zbbw 4 5 6).Parties.length = 4 from zbyy 1 4 0]; exact g)
theorem zb4m : (pm 4 (prA [0,1,1,0,2,3,3,2]) && pm 4 (prA [0,1,1,2,2,0]) && pm 4 (prA [0,1,1,2,2,3,3,1]) && pm 4 (prA [0,1,1,2,2,3,3,0,2,0])) = true := by decide +kernel
theorem pr0 : prs (j5 [0,1,1,0,2,3,3,2]).Arcs = [(0,1),(1,0),(2,3),(3,2)] := rfl
theorem pr1 : prs (j5 [0,1,1,2,2,0]).Arcs = [(0,1),(1,2),(2,0)] := rfl
theorem pr2 : prs (j5 [0,1,1,2,2,3,3,1]).Arcs = [(0,1),(1,2),(2,3),(3,1)] := rfl
theorem pr3 : prs (j5 [0,1,1,2,2,3,3,0,2,0]).Arcs = [(0,1),(1,2),(2,3),(3,0),(2,0)] := rfl
theorem zbup (l : List Int) (y : Int) (h : y ≠ 0) : pl (j5 l) y = true := by
 show (!(([0] : List Int).contains y)) = true
 simp [h]
theorem zckp (l : List Int) (y : Int) (h : y ≠ 0) : y ∉ (j5 l).Leaders := by
 show y ∉ ([0] : List Int)
 simp [h]
theorem zbm2 (how : Int) : oi how = some true := by
 have g := zb4m
 simp only [Bool.and_eq_true] at g
 obtain ⟨⟨⟨g0,g1⟩,g2⟩,g3⟩ := g
 have e : xj 4 5 6 = some (zbbw 4 5 6) := zbor 4 5 6 (by decide) (by decide)
 unfold oi
 rw [e,obz,zbsb how 4 (by decide) (by decide),obz]
 obtain ⟨m,hm⟩ : ∃ m,m = how % 4 := ⟨_,rfl⟩
 have hm4 : m = 0 ∨ m = 1 ∨ m = 2 ∨ m = 3 := by omega
 rw [← hm]
 clear hm
 rcases hm4 with rfl | rfl | rfl | rfl
 · have hw := zbhv (zbq2 _ g0)
   have s1 : zbfg (j5 [0,1,1,0,2,3,3,2]) = false := zb3q (fun x => decide (x ≤ 1)) (by rw [pr0]; decide) 0 2 (by rw [zblg]; decide) (by rw [zblg]; decide) (by decide) (by decide)
   have s2 : fbB (j5 [0,1,1,0,2,3,3,2]) = false := zbp2 2 (by rw [zblg]; decide) ⟨zckp _ _ (by decide),.snoc (.one (zj.2 ⟨by rw [pr0]; show ((2 : Int),(3 : Int)) ∈ _; decide,zbup _ 3 (by decide)⟩)) (zj.2 ⟨by rw [pr0]; decide,zbup _ 2 (by decide)⟩)⟩
   have s3 : zbch (j5 [0,1,1,0,2,3,3,2]) = false := by unfold zbch; rw [s1]; rfl
   rw [if_pos rfl,zbx6 _ _ 4 rfl (by decide),obz]
   show (dl (j5 [0,1,1,0,2,3,3,2]) >>= _) = _
   rw [zbuu _ hw,obz,s1,if_pos (by decide)]
   show (dy (j5 [0,1,1,0,2,3,3,2]) >>= _) = _
   rw [zbtw _ hw,obz,s3,if_pos (by decide)]
   show (cg (j5 [0,1,1,0,2,3,3,2]) >>= _) = _
   rw [zbu6 _ hw,obz,s2,if_neg (by decide),if_pos (by decide),zbya,obz]
 · have hw := zbhv (zbq2 _ g1)
   have s1 : zbfg (j5 [0,1,1,2,2,0]) = false := zb3q (fun x => decide (x ≤ 2)) (by rw [pr1]; decide) 0 3 (by rw [zblg]; decide) (by rw [zblg]; decide) (by decide) (by decide)
   have s2 : fbB (j5 [0,1,1,2,2,0]) = true := zb3f (zbq2 _ g1) rfl (by rw [pr1]; decide)
   have s3 : zbch (j5 [0,1,1,2,2,0]) = false := by unfold zbch; rw [s1]; rfl
   rw [if_neg (by decide),if_pos rfl,zbx6 _ _ 3 rfl (by decide),obz]
   show (dl (j5 [0,1,1,2,2,0]) >>= _) = _
   rw [zbuu _ hw,obz,s1,if_pos (by decide)]
   show (dy (j5 [0,1,1,2,2,0]) >>= _) = _
   rw [zbtw _ hw,obz,s3,if_pos (by decide)]
   show (cg (j5 [0,1,1,2,2,0]) >>= _) = _
   rw [zbu6 _ hw,obz,s2,if_pos (by decide),zbya,obz]
 · have hw := zbhv (zbq2 _ g2)
   have s1 : zbfg (j5 [0,1,1,2,2,3,3,1]) = false := zb3q (fun x => decide (1 ≤ x)) (by rw [pr2]; decide) 1 0 (by rw [zblg]; decide) (by rw [zblg]; decide) (by decide) (by decide)
   have s2 : fbB (j5 [0,1,1,2,2,3,3,1]) = false := zbp2 1 (by rw [zblg]; decide) ⟨zckp _ _ (by decide),.snoc (.snoc (.one (zj.2 ⟨by rw [pr2]; show ((1 : Int),(2 : Int)) ∈ _; decide,zbup _ 2 (by decide)⟩)) (zj.2 ⟨by rw [pr2]; show ((2 : Int),(3 : Int)) ∈ _; decide,zbup _ 3 (by decide)⟩)) (zj.2 ⟨by rw [pr2]; decide,zbup _ 1 (by decide)⟩)⟩
   have s3 : zbch (j5 [0,1,1,2,2,3,3,1]) = false := by unfold zbch; rw [s1]; rfl
   rw [if_neg (by decide),if_neg (by decide),if_pos rfl,zbx6 _ _ 4 rfl (by decide),obz]
   show (dl (j5 [0,1,1,2,2,3,3,1]) >>= _) = _
   rw [zbuu _ hw,obz,s1,if_pos (by decide)]
   show (dy (j5 [0,1,1,2,2,3,3,1]) >>= _) = _
   rw [zbtw _ hw,obz,s3,if_pos (by decide)]
   show (cg (j5 [0,1,1,2,2,3,3,1]) >>= _) = _
   rw [zbu6 _ hw,obz,s2,if_pos (by decide),zbya,obz]
 · have hw := zbhv (zbq2 _ g3)
   have s1 : zbfg (j5 [0,1,1,2,2,3,3,0,2,0]) = true := zbtz.2 ⟨zbq2 _ g3,(zb3r (by rw [zblg]; decide)).2 (zcmp 4 (zblg _) (by decide) (fun k hk => by
    rw [pr3]
    have : k = 0 ∨ k = 1 ∨ k = 2 := by omega
    rcases this with rfl | rfl | rfl <;> decide) (by rw [pr3]; decide))⟩
   have s2 : fbB (j5 [0,1,1,2,2,3,3,0,2,0]) = true := zb3f (zbq2 _ g3) rfl (by rw [pr3]; decide)
   have s3 : zbch (j5 [0,1,1,2,2,3,3,0,2,0]) = true := by unfold zbch; rw [s1,s2]; rfl
   rw [if_neg (by decide),if_neg (by decide),if_neg (by decide),zbx6 _ _ 5 rfl (by decide),obz]
   show (dl (j5 [0,1,1,2,2,3,3,0,2,0]) >>= _) = _
   rw [zbuu _ hw,obz,s1,if_pos (by decide)]
   show (dy (j5 [0,1,1,2,2,3,3,0,2,0]) >>= _) = _
   rw [zbtw _ hw,obz,s3,if_pos (by decide)]
   show (cg (j5 [0,1,1,2,2,3,3,0,2,0]) >>= _) = _
   rw [zbu6 _ hw,obz,s2,if_pos (by decide),zbya,obz]
theorem zcri (how : Int) (_ : Arg.ok how) : Lw G l9 [enc how] := ⟨_,vx how true (zbm2 how) ⟨[],0⟩ (Nat.le_refl _)⟩
end Go.Proofs.Ytdcfoaafkppojaa
