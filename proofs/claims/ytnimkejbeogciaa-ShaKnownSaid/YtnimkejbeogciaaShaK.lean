/- The law of the known digests. -/
import Derived.Test.YtnimkejbeogciaaShaB
import Derived.Test.YtnimkejbeogciaaShaM5
set_option linter.unusedSimpArgs false
set_option linter.unusedVariables false
namespace Go.Proofs.Ytnimkejbeogciaa
open Go Go.RowKit Sh Ic
open ArgT (enc)
theorem bytesL_strL97 (n : Nat) : bytesL (strL (List.replicate n 97)) = List.replicate n 97 := by
  unfold bytesL
  show ((List.replicate n (97 : Int)).map fun n => UInt8.ofNat n.toNat).map (fun b => (b.toNat : Int)) = _
  rw [List.map_replicate,List.map_replicate]
  rfl
theorem mill_pad (s : ByteArray) (l : List Int) (k : Nat) (b : Int) (h : bytesL s = l) (hk : kz s.size = k) (hb : bitsI s = b) : padded s = l ++ ([128] ++ (List.replicate k 0 ++ lb b 0 8)) := by
  unfold padded
  rw [h,hk,hb,List.append_assoc,List.append_assoc]
def tailL : List Int := [128] ++ (List.replicate 55 0 ++ lb 8000000 0 8)
def millD : ByteArray := ⟨#[99,100,99,55,54,101,53,99,57,57,49,52,102,98,57,50,56,49,97,49,99,55,101,50,56,52,100,55,51,101,54,55,102,49,56,48,57,97,52,56,97,52,57,55,50,48,48,101,48,52,54,100,51,57,99,99,99,55,49,49,50,99,100,48]⟩
set_option maxRecDepth 100000 in
theorem mill_end : HEX (blocksF 1 tailL (nat_lit 2061136107) (nat_lit 1745259042) (nat_lit 791610055) (nat_lit 2140370626) (nat_lit 1884297759) (nat_lit 3529239238) (nat_lit 671294972) (nat_lit 693152569) outN) = millD := by decide +kernel
theorem mill_gen (s : ByteArray) (q : Nat) (t : List Int) (hn : nblk s = q + 1) (hp : padded s = List.replicate (64 * q) 97 ++ t) : SHA s = milF q (nat_lit 1779033703) (nat_lit 3144134277) (nat_lit 1013904242) (nat_lit 2773480762) (nat_lit 1359893119) (nat_lit 2600822924) (nat_lit 528734635) (nat_lit 1541459225) fun a b c d e f g h => blocksF 1 t a b c d e f g h outN := by
  rw [SHAF_eq]
  unfold SHAF
  rw [hn,hp,blocksA]
theorem mill_q (s : ByteArray) (q : Nat) (hq : q = 15625) (hn : nblk s = q + 1) (hp : padded s = List.replicate (64 * q) 97 ++ tailL) : HEX (SHA s) = millD := by
  rw [mill_gen s q tailL hn hp]
  subst hq
  rw [upto4]
  exact mill_end
theorem mill_f (n : Nat) (hn : n = 64 * 15625) (s : ByteArray) (hs : s = strL (List.replicate n 97)) : HEX (SHA s) = millD := by
  have sz : s.size = n := by rw [hs,strL_size,List.length_replicate]
  have bl : bytesL s = List.replicate n 97 := by rw [hs,bytesL_strL97]
  have k : kz s.size = 55 := by rw [sz,hn]; decide
  have b : bitsI s = 8000000 := by unfold bitsI; rw [sz,hn]; decide
  have nb : nblk s = 15625 + 1 := by unfold nblk; rw [k,sz]; omega
  have pd := mill_pad s _ 55 8000000 bl k b
  obtain ⟨q,hq⟩ : ∃ q : Nat,q = 15625 := ⟨_,rfl⟩
  have hn : n = 64 * q := by rw [hq]; exact hn
  rw [hn] at pd
  exact mill_q s q hq (by rw [nb,hq]) pd
theorem fill_l (n : Nat) : ∀ (i : Nat) (r : List Int),n + i = 1000000 → r.length = n → ∀ N : Nat,N = 1000000 → handsellaw01_ShaKnown_f_l1 1000000 (List.replicate i 97 ++ r) (i : Int) = some (List.replicate N 97) := by
  induction n with
  | zero =>
    intro i r h hr N hN
    obtain rfl : r = [] := List.eq_nil_of_length_eq_zero hr
    obtain rfl : i = N := by omega
    rw [handsellaw01_ShaKnown_f_l1_eq,handsellaw01_ShaKnown_f_l1_step,if_neg (by omega),List.append_nil]
    rw [obz,LS.go]
  | succ n ih =>
    intro i r h hr N hN
    match r,hr with
    | x :: r,hr =>
      have hr : r.length = n := by simpa using hr
      have e := ih (i + 1) r (by omega) hr N hN
      rw [handsellaw01_ShaKnown_f_l1_eq,handsellaw01_ShaKnown_f_l1_step,if_pos (by omega),if_pos ⟨by omega,by omega⟩,Int.toNat_natCast,if_pos (by rw [List.length_append,List.length_replicate,List.length_cons]; omega),inc64 i (by omega),obz,LS.go]
      have s : (List.replicate i (97 : Int) ++ x :: r).set i 97 = List.replicate (i + 1) 97 ++ r := by
        rw [List.set_append_right _ _ (by rw [List.length_replicate]; exact Nat.le_refl _),List.length_replicate,Nat.sub_self,List.set_cons_zero,List.replicate_succ',List.append_assoc]
        rfl
      rw [s]
      exact e
theorem fill_0 (N : Nat) (hN : N = 1000000) : handsellaw01_ShaKnown_f_l1 1000000 (List.replicate N 0) 0 = some (List.replicate N 97) := fill_l N 0 (List.replicate N 0) (by omega) (List.length_replicate ..) N hN
theorem known_4 (e : handsellaw01_ShaKnown_f_l1 1000000 (List.replicate 1000000 0) 0 = some (List.replicate 1000000 97)) (hl : (List.replicate 1000000 (97 : Int)).length = 1000000)
    (hm : ∀ s,s = strL (List.replicate 1000000 97) → HEX (SHA s) = millD) (how : Int) (c : how % 5 = 4) : handsellaw01_ShaKnown_f how = some true := by
  unfold handsellaw01_ShaKnown_f
  rw [place_f how 5 (by decide) (by decide),obz]
  generalize List.replicate 1000000 (97 : Int) = l at e hl hm
  rw [if_pos c,e,obz,if_pos hl]
  have sz := strL_size l
  have mf := hm _ rfl
  unfold millD at mf
  generalize strL l = g at sz mf
  rw [sum1_f g (by omega),obz,hex1_f _ (by rw [SHA_size]; decide),obz,if_pos mf,awake_f]
  rfl
theorem known_f (how : Int) : handsellaw01_ShaKnown_f how = some true := by
  by_cases c : how % 5 = 4
  · exact known_4 (fill_0 1000000 rfl) (List.length_replicate ..) (mill_f 1000000 rfl) how c
  · unfold handsellaw01_ShaKnown_f
    rw [place_f how 5 (by decide) (by decide),obz]
    have h1 : 0 ≤ how % 5 := by omega
    have h2 : how % 5 < 5 := by omega
    generalize how % 5 = m at h1 h2 c
    rw [if_neg c,if_pos ⟨h1,by omega⟩]
    have : m = 0 ∨ m = 1 ∨ m = 2 ∨ m = 3 := by omega
    rcases this with rfl | rfl | rfl | rfl
    · show (sha_Sum_f _ >>= _) = _
      rw [sum1_f _ (by decide),obz,hex1_f _ (by rw [SHA_size]; decide),obz,if_pos known_0,awake_f]; rfl
    · show (sha_Sum_f _ >>= _) = _
      rw [sum1_f _ (by decide),obz,hex1_f _ (by rw [SHA_size]; decide),obz,if_pos known_1,awake_f]; rfl
    · show (sha_Sum_f _ >>= _) = _
      rw [sum1_f _ (by decide),obz,hex1_f _ (by rw [SHA_size]; decide),obz,if_pos known_2,awake_f]; rfl
    · show (sha_Sum_f _ >>= _) = _
      rw [sum1_f _ (by decide),obz,hex1_f _ (by rw [SHA_size]; decide),obz,if_pos known_3,awake_f]; rfl
theorem shaKnown_ok (how : Int) (_ : Arg.ok how) : Lw G F_handsellaw01_ShaKnown [enc how] := ⟨_,handsellaw01_ShaKnown_f_s how true (known_f how) ⟨[],0⟩ (Nat.le_refl _)⟩
end Go.Proofs.Ytnimkejbeogciaa
