/- The law of a signature's pieces, as a function of numbers and lists. -/
import Derived.Test.YtnimkejbeogciaaOtsP
set_option linter.unusedSimpArgs false
set_option linter.unusedVariables false
set_option linter.unusedSectionVars false
namespace Go.Proofs.Ytnimkejbeogciaa
open Go Go.RowKit Sh Ic
open ArgT (enc)
theorem SEC_val (seed : ByteArray) (k : Int) (hk : isK k) (i : Nat) (hi : i < 16) (b : Nat) (hb : b < 2) : SH (seed ++ strL [IntKind.u8.wrap k,IntKind.u8.wrap (i : Int),IntKind.u8.wrap (b : Int)]) = VAL seed k (i : Int) (b : Int) := by
  unfold VAL; rw [if_pos ⟨hk.1,hk.2,by omega,by omega,by omega,by omega⟩]; rfl
theorem pieces_l (seed : ByteArray) (hs : seed.size < 100000) (k : Int) (hk : isK k) (msg : ByteArray) (n : Nat) : ∀ (i : Nat) (acc : ByteArray),n + i = 16 → acc.size ≤ 32 * i → handsellaw02_OtsPieces_f_l1 seed k (SIGN seed k msg) (SHA msg) acc (i : Int) = some (.ex (cat (pubp seed k) i n acc)) := by
  induction n with
  | zero =>
    intro i acc h ha
    rw [handsellaw02_OtsPieces_f_l1_eq,handsellaw02_OtsPieces_f_l1_step,if_neg (by omega)]
    rfl
  | succ n ih =>
    intro i acc h ha
    have hi : i < 16 := by omega
    have v1 := VAL_le seed k (i : Int) 0
    have v2 := VAL_le seed k (i : Int) 1
    have sa := SIGN_a seed k hk msg i hi
    have sb := SIGN_b seed k hk msg i hi
    have ss := SIGN_size seed k hk msg
    have q0 := SEC_val seed k hk i hi 0 (by decide)
    have q1 := SEC_val seed k hk i hi 1 (by decide)
    have bl := bit_lt (SHA msg) i
    have b8 := bit8 ⟨7 - i % 8,by omega⟩ ⟨bN (SHA msg) (i / 8),bN_lt _ _⟩
    simp only at b8
    rw [show bN (SHA msg) (i / 8) / 2 ^ (7 - i % 8) % 2 = bit (SHA msg) i from rfl] at b8
    have w0 : IntKind.i64.wrap ((32 : Int) * (i : Int)) = ((32 * i : Nat) : Int) := by rw [w64 (by omega) (by omega)]; omega
    have ih := ih (i + 1) (acc ++ pubp seed k i) (by omega) (by rw [ByteArray.size_append,pubp_size]; omega)
    rw [cat,← ih]
    rw [handsellaw02_OtsPieces_f_l1_eq,handsellaw02_OtsPieces_f_l1_step,if_pos (by omega),at8 i hi,ixB_bN (SHA msg) (i / 8) _ rfl (by rw [SHA_size]; omega),obz,left8,u64n _ (by omega),if_pos (by omega),Int.toNat_natCast,obz,b8,val1_f seed hs,obz,val1_f seed hs,obz,short1_f _ (by omega),obz,if_pos (by rw [SH_size]; omega),short1_f _ (by omega),obz,if_pos (by rw [SH_size,ByteArray.size_append,SH_size]; omega)]
    rw [w0,plus64 _ 16 16 rfl (by omega) (by omega),plus64 _ 32 32 rfl (by omega) (by omega),Int.toNat_natCast,Int.toNat_natCast,Int.toNat_natCast]
    have g1 : (0 ≤ ((32 * i + 16 : Nat) : Int) ∧ ((32 * i + 16 : Nat) : Int) ≤ ((SIGN seed k msg).size : Int)) ∧ 0 ≤ ((32 * i : Nat) : Int) ∧ ((32 * i : Nat) : Int) ≤ ((32 * i + 16 : Nat) : Int) := by rw [ss]; omega
    have g2 : (0 ≤ ((32 * i + 32 : Nat) : Int) ∧ ((32 * i + 32 : Nat) : Int) ≤ ((SIGN seed k msg).size : Int)) ∧ 0 ≤ ((32 * i + 16 : Nat) : Int) ∧ ((32 * i + 16 : Nat) : Int) ≤ ((32 * i + 32 : Nat) : Int) := by rw [ss]; omega
    have g3 : ∀ x : Int,¬ (9223372036854775807 < ((seed.size + (strL [(IntKind.u8.wrap k),(IntKind.u8.wrap (i : Int)),(IntKind.u8.wrap x)]).size : Nat) : Int)) := fun x => by rw [three]; omega
    have g4 : ∀ x : Int,(seed ++ strL [IntKind.u8.wrap k,IntKind.u8.wrap (i : Int),IntKind.u8.wrap x]).size < 10000000000 := fun x => by rw [ByteArray.size_append,three]; omega
    have e4 : acc ++ SH (VAL seed k (i : Int) 0) ++ SH (VAL seed k (i : Int) 1) = acc ++ pubp seed k i := ByteArray.append_assoc
    rw [e4]
    by_cases c : bit (SHA msg) i = 1
    · rw [c] at sa sb ⊢
      have sa : (SIGN seed k msg).extract (32 * i) (32 * i + 16) = VAL seed k (i : Int) 1 := sa
      have sb : (SIGN seed k msg).extract (32 * i + 16) (32 * i + 32) = SH (VAL seed k (i : Int) 0) := sb
      have q1 : VAL seed k (i : Int) 1 = SH (seed ++ strL [IntKind.u8.wrap k,IntKind.u8.wrap (i : Int),IntKind.u8.wrap ((1 : Nat) : Int)]) := q1.symm
      rw [if_pos (by decide),if_pos g1,if_pos sa,if_pos g2,if_pos sb,if_pos (g3 _),short1_f _ (g4 _),obz,if_pos q1,inc64 i (by omega),obz,LS.go]
    · have c0 : bit (SHA msg) i = 0 := by omega
      rw [c0] at sa sb ⊢
      have sa : (SIGN seed k msg).extract (32 * i) (32 * i + 16) = VAL seed k (i : Int) 0 := sa
      have sb : (SIGN seed k msg).extract (32 * i + 16) (32 * i + 32) = SH (VAL seed k (i : Int) 1) := sb
      have q0 : VAL seed k (i : Int) 0 = SH (seed ++ strL [IntKind.u8.wrap k,IntKind.u8.wrap (i : Int),IntKind.u8.wrap ((0 : Nat) : Int)]) := q0.symm
      rw [if_neg (by decide),if_pos g1,if_pos sa,if_pos g2,if_pos sb,if_pos (g3 _),short1_f _ (g4 _),obz,if_pos q0,inc64 i (by omega),obz,LS.go]
theorem pieces_f (seed : ByteArray) (key : Int) (msg : ByteArray) : handsellaw02_OtsPieces_f seed key msg = some true := by
  unfold handsellaw02_OtsPieces_f
  by_cases c1 : (200 : Int) < ((seed.size : Nat) : Int)
  · rw [if_pos c1,awake_f]; rfl
  rw [if_neg c1]
  by_cases c2 : (500 : Int) < ((msg.size : Nat) : Int)
  · rw [if_pos c2,awake_f]; rfl
  rw [if_neg c2]
  have hs : seed.size < 100000 := by omega
  have hm : msg.size < 100000 := by omega
  have hk := isK256 key
  rw [place_f key 256 (by decide) (by decide),obz]
  generalize key % 256 = k at hk
  have e : handsellaw02_OtsPieces_f_l1 seed k (SIGN seed k msg) (SHA msg) ⟨#[]⟩ 0 = some (.ex (cat (pubp seed k) 0 16 ⟨#[]⟩)) := pieces_l seed hs k hk msg 16 0 ⟨#[]⟩ rfl (Nat.zero_le _)
  have sz := pubc_size seed k
  rw [sign1_f seed hs k msg hm,obz,if_pos hk,sum1_f msg (by omega),obz,if_pos (by rw [SIGN_size seed k hk]; rfl),if_pos (by rw [SHA_size]; rfl),e,obz]
  have p : SH (cat (pubp seed k) 0 16 ⟨#[]⟩) = PUB seed k := rfl
  generalize cat (pubp seed k) 0 16 ⟨#[]⟩ = g at *
  show (ots_Public_f seed k >>= _) = _
  rw [pub1_f seed hs k,obz,if_pos hk,short1_f _ (by omega),obz,p,if_pos rfl,awake_f]
  rfl
theorem otsPieces_ok (seed : ByteArray) (k : Int) (msg : ByteArray) (_ : Arg.ok seed) (_ : Arg.ok k) (_ : Arg.ok msg) : Lw G F_handsellaw02_OtsPieces [enc seed,enc k,enc msg] := ⟨_,handsellaw02_OtsPieces_f_s seed k msg true (pieces_f seed k msg) ⟨[],0⟩ (Nat.le_refl _)⟩
end Go.Proofs.Ytnimkejbeogciaa
