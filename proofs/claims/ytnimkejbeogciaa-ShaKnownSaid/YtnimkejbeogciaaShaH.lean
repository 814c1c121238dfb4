/- The digest in sixteens; the two known digests. -/
import Derived.Test.YtnimkejbeogciaaShaS
set_option linter.unusedSimpArgs false
set_option linter.unusedVariables false
set_option linter.unusedSectionVars false
namespace Go.Proofs.Ytnimkejbeogciaa
open Go Go.RowKit Sh Ic
def digs : ByteArray := ⟨#[48,49,50,51,52,53,54,55,56,57,97,98,99,100,101,102]⟩
def hx (n : Nat) : Int := ((digs.data.getD n 0).toNat : Int)
theorem hx_get (n : Nat) (z : Int) (hz : z = (n : Int)) (h : n < 16) : ixB digs z = some (hx n) := by
  subst hz
  unfold ixB hx
  rw [if_pos ⟨by omega,by show (n : Int) < 16; omega⟩,Int.toNat_natCast]
theorem hx_in (n : Nat) : 0 ≤ hx n ∧ hx n < 256 := by
  unfold hx
  have := (digs.data.getD n 0).toNat_lt
  omega
def bN (s : ByteArray) (i : Nat) : Nat := (s.data.getD i 0).toNat
theorem bN_lt (s : ByteArray) (i : Nat) : bN s i < 256 := (s.data.getD i 0).toNat_lt
theorem ixB_bN (s : ByteArray) (i : Nat) (z : Int) (hz : z = (i : Int)) (h : i < s.size) : ixB s z = some (bN s i : Int) := by
  subst hz
  unfold ixB
  rw [if_pos (by omega),Int.toNat_natCast]; rfl
def hexL (s : ByteArray) : Nat → Nat → List Int
  | _,0 => []
  | i,n + 1 => [hx (bN s i / 16),hx (bN s i % 16)] ++ hexL s (i + 1) n
def HEX (s : ByteArray) : ByteArray := strL (hexL s 0 s.size)
theorem hexL_len (s : ByteArray) (n : Nat) : ∀ i,(hexL s i n).length = 2 * n := by
  induction n with
  | zero => intro i; rfl
  | succ n ih => intro i; rw [hexL,List.length_append,ih]; show 2 + 2 * n = _; omega
theorem HEX_size (s : ByteArray) : (HEX s).size = 2 * s.size := by rw [HEX,strL_size,hexL_len]
theorem div16 (n : Nat) (h : n < 256) : IntKind.u8.wrap (Int.tdiv (n : Int) (16 : Int)) = ((n / 16 : Nat) : Int) := by
  rw [show Int.tdiv (n : Int) (16 : Int) = ((n / 16 : Nat) : Int) from rfl,wr8]; omega
theorem shr16 (n : Nat) : Int.fdiv (n : Int) (2 ^ (Nat.min 4 IntKind.u8.bits)) = ((n / 16 : Nat) : Int) := by
  show Int.fdiv (n : Int) 16 = _
  rw [Int.fdiv_eq_ediv_of_nonneg _ (by decide)]; omega
theorem and15 : ∀ n : Fin 256,IntKind.u8.wrap ((BitVec.ofInt IntKind.u8.bits (n.val : Int) &&& BitVec.ofInt IntKind.u8.bits (15 : Int)).toNat : Int) = ((n.val % 16 : Nat) : Int) := by decide +kernel
theorem hex1_l (s : ByteArray) (hs : s.size < 10000000000) (n : Nat) : ∀ (i : Nat) (l : List Int),n + i = s.size → l.length = 2 * i → sha_Hex_f_l1 s ((s.size : Nat) : Int) (strL l) (i : Int) = some (strL (l ++ hexL s i n)) := by
  induction n with
  | zero =>
    intro i l hi hb
    rw [sha_Hex_f_l1_eq,sha_Hex_f_l1_step,if_neg (by omega),hexL,List.append_nil]
    rfl
  | succ n ih =>
    intro i l hi hb
    have b := bN_lt s i
    have r1 := hx_in (bN s i / 16)
    have r2 := hx_in (bN s i % 16)
    rw [sha_Hex_f_l1_eq,sha_Hex_f_l1_step,if_pos (by omega),ixB_bN s i _ rfl (by omega),obz,div16 _ b,tmod_nat _ 16 16 rfl]
    show (ixB digs _ >>= _) >>= _ = _
    rw [hx_get _ _ rfl (by omega),obz,if_pos ⟨r1.1,r1.2,by rw [strL_size]; omega⟩,strL_push]
    show (ixB digs _ >>= _) >>= _ = _
    rw [hx_get _ _ rfl (by omega),obz,if_pos ⟨r2.1,r2.2,by rw [strL_size,List.length_append]; show l.length + 1 + 1 ≤ _; omega⟩,strL_push,inc64 i (by omega),obz,LS.go]
    have e := ih (i + 1) (l ++ [hx (bN s i / 16),hx (bN s i % 16)]) (by omega) (by rw [List.length_append]; show l.length + 2 = _; omega)
    rw [List.append_assoc] at e
    rw [List.append_assoc]
    exact e
theorem hex1_f (s : ByteArray) (hs : s.size < 10000000000) : sha_Hex_f s = some (HEX s) := by
  have e := hex1_l s hs s.size 0 [] rfl rfl
  unfold sha_Hex_f
  refine (congrArg (· >>= _) e).trans ?_
  show (if (HEX s).size ≤ 140737488355328 then some (HEX s) else none) = _
  rw [if_pos (by rw [HEX_size]; omega)]
theorem hex2_l (s : ByteArray) (hs : s.size < 10000000000) (n : Nat) : ∀ (i : Nat) (l : List Int),n + i = s.size → l.length = 2 * i → handselref01_Hex_f_l1 s l (i : Int) = some (l ++ hexL s i n) := by
  induction n with
  | zero =>
    intro i l hi hb
    rw [handselref01_Hex_f_l1_eq,handselref01_Hex_f_l1_step,if_neg (by omega),hexL,List.append_nil]
    rfl
  | succ n ih =>
    intro i l hi hb
    have b := bN_lt s i
    have a15 := and15 ⟨bN s i,b⟩
    simp only at a15
    rw [handselref01_Hex_f_l1_eq,handselref01_Hex_f_l1_step,if_pos (by omega),ixB_bN s i _ rfl (by omega),obz,shr16,a15]
    show (ixB digs _ >>= _) >>= _ = _
    rw [hx_get _ _ rfl (by omega),obz]
    show (ixB digs _ >>= _) >>= _ = _
    rw [hx_get _ _ rfl (by omega),obz,if_pos (by omega),inc64 i (by omega),obz,LS.go]
    have e := ih (i + 1) (l ++ [hx (bN s i / 16),hx (bN s i % 16)]) (by omega) (by rw [List.length_append]; show l.length + 2 = _; omega)
    rw [List.append_assoc] at e
    exact e
theorem hex2_f (s : ByteArray) (hs : s.size < 10000000000) : handselref01_Hex_f s = some (HEX s) := by
  have e := hex2_l s hs s.size 0 [] rfl rfl
  unfold handselref01_Hex_f
  refine (congrArg (· >>= _) e).trans ?_
  rfl
theorem short_f (s : ByteArray) (hs : s.size < 10000000000) : sha_Short_f s = some ((SHA s).extract 0 16) := by
  unfold sha_Short_f
  rw [sum1_f s hs,obz,if_pos ⟨by omega,by rw [SHA_size]; omega⟩]
end Go.Proofs.Ytnimkejbeogciaa
