/- The law of a signature with a byte turned, as a function of numbers and lists. -/
import Derived.Test.YtnimkejbeogciaaOtsP
set_option linter.unusedSimpArgs false
set_option linter.unusedVariables false
set_option linter.unusedSectionVars false
namespace Go.Proofs.Ytnimkejbeogciaa
open Go Go.RowKit Sh Ic
open ArgT (enc)
theorem turned_f (seed : ByteArray) (key : Int) (msg : ByteArray) (at_ by_ : Int) : handsellaw02_OtsTurned_f seed key msg at_ by_ = some true := by
  unfold handsellaw02_OtsTurned_f
  by_cases c1 : (200 : Int) < ((seed.size : Nat) : Int)
  · rw [if_pos c1,awake_f]; rfl
  rw [if_neg c1]
  by_cases c2 : (500 : Int) < ((msg.size : Nat) : Int)
  · rw [if_pos c2,awake_f]; rfl
  rw [if_neg c2]
  have hs : seed.size < 100000 := by omega
  have hm : msg.size < 100000 := by omega
  have hk := isK256 key
  rw [place_f key 256 (by decide) (by decide),obz]
  generalize key % 256 = k at hk
  have s1 := SIGN_size seed k hk msg
  have v1 := VER_sign (PUB seed k) seed k hk msg
  rw [pub1_f seed hs,obz,if_pos hk,sign1_f seed hs k msg hm,obz,if_pos hk]
  generalize SIGN seed k msg = g at *
  generalize PUB seed k = p at *
  rw [decide_eq_true rfl] at v1
  have h1 : 0 ≤ at_ % ((g.size : Nat) : Int) := Int.emod_nonneg _ (by omega)
  have h2 : at_ % ((g.size : Nat) : Int) < ((g.size : Nat) : Int) := Int.emod_lt_of_pos _ (by omega)
  have lb_ : (bytesL g).length = g.size := bytesL_len g
  rw [if_pos (by omega),place_f at_ _ (by omega) (by omega),obz,if_pos ⟨h1,h2⟩]
  obtain ⟨j,hj⟩ : ∃ j : Nat,at_ % ((g.size : Nat) : Int) = (j : Int) := ⟨(at_ % ((g.size : Nat) : Int)).toNat,by omega⟩
  rw [hj] at h1 h2 ⊢
  rw [ixL_nat (by omega),obz,place_f by_ 255 (by decide) (by decide),obz,Int.toNat_natCast,if_pos (by omega),if_pos (by rw [List.length_set,lb_]),if_pos (by rw [List.length_set,lb_])]
  rw [ver1_f _ _ _ hm,obz,ver2_f _ _ _ hm,obz,if_pos (beq_self_eq_true _),ver1_f _ _ _ hm,obz,if_pos v1,awake_f]
  rfl
theorem otsTurned_ok (seed : ByteArray) (k : Int) (msg : ByteArray) (a b : Int) (_ : Arg.ok seed) (_ : Arg.ok k) (_ : Arg.ok msg) (_ : Arg.ok a) (_ : Arg.ok b) : Lw G F_handsellaw02_OtsTurned [enc seed,enc k,enc msg,enc a,enc b] := ⟨_,handsellaw02_OtsTurned_f_s seed k msg a b true (turned_f seed k msg a b) ⟨[],0⟩ (Nat.le_refl _)⟩
end Go.Proofs.Ytnimkejbeogciaa
