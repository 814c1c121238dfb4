/- The law of keys that there are not, as a function of numbers and lists. -/
import Derived.Test.YtnimkejbeogciaaOtsP
set_option linter.unusedSimpArgs false
set_option linter.unusedVariables false
set_option linter.unusedSectionVars false
namespace Go.Proofs.Ytnimkejbeogciaa
open Go Go.RowKit Sh Ic
open ArgT (enc)
theorem none_f (seed : ByteArray) (n how : Int) : handsellaw02_OtsNone_f seed n how = some true := by
  unfold handsellaw02_OtsNone_f
  by_cases c1 : (200 : Int) < ((seed.size : Nat) : Int)
  · rw [if_pos c1,awake_f]; rfl
  rw [if_neg c1]
  have hs : seed.size < 100000 := by omega
  rw [place_f n 1000 (by decide) (by decide),obz]
  have h1 : 0 ≤ n % 1000 := by omega
  have h2 : n % 1000 < 1000 := by omega
  generalize n % 1000 = m at h1 h2
  have out : ∀ k : Int,¬ isK k → (VAL seed k 0 0 = ⟨#[]⟩) := fun k hk => by unfold VAL; rw [if_neg (fun h => hk ⟨h.1,h.2.1⟩)]
  have v1 : ((VAL seed 255 15 1).size : Int) = 16 := by
    have e : (VAL seed 255 15 1).size = 16 := VAL_size seed 255 (by decide) 15 (by decide) 1 (by decide)
    omega
  have v2 : VAL seed 0 16 0 = ⟨#[]⟩ := by unfold VAL; rw [if_neg (by decide)]
  have w1 : IntKind.i64.wrap ((256 : Int) + m) = 256 + m := w64 (by omega) (by omega)
  have w2 : IntKind.i64.wrap ((255 : Int) - (256 + m)) = 255 - (256 + m) := w64 (by omega) (by omega)
  rw [w1,w2]
  by_cases c : Int.tmod how (2 : Int) = 0
  · rw [if_pos c]
    have nk : ¬ isK (255 - (256 + m)) := by unfold isK; omega
    have i1 : VAL seed 0 (255 - (256 + m)) 0 = ⟨#[]⟩ := by unfold VAL; rw [if_neg (by omega)]
    have i2 : VAL seed 0 0 (255 - (256 + m)) = ⟨#[]⟩ := by unfold VAL; rw [if_neg (by omega)]
    rw [pub1_f seed hs,obz,if_neg nk,if_pos rfl,sign1_f seed hs _ _ (by decide),obz,if_neg nk,if_pos rfl,val1_f seed hs,obz,if_pos (out _ nk),val1_f seed hs,obz,if_pos i1,val1_f seed hs,obz,if_pos i2,val1_f seed hs,obz,if_pos v1,val1_f seed hs,obz,if_pos v2,awake_f]
    rfl
  · rw [if_neg c]
    have nk : ¬ isK (256 + m) := by unfold isK; omega
    have i1 : VAL seed 0 (256 + m) 0 = ⟨#[]⟩ := by unfold VAL; rw [if_neg (by omega)]
    have i2 : VAL seed 0 0 (256 + m) = ⟨#[]⟩ := by unfold VAL; rw [if_neg (by omega)]
    rw [pub1_f seed hs,obz,if_neg nk,if_pos rfl,sign1_f seed hs _ _ (by decide),obz,if_neg nk,if_pos rfl,val1_f seed hs,obz,if_pos (out _ nk),val1_f seed hs,obz,if_pos i1,val1_f seed hs,obz,if_pos i2,val1_f seed hs,obz,if_pos v1,val1_f seed hs,obz,if_pos v2,awake_f]
    rfl
theorem otsNone_ok (seed : ByteArray) (n how : Int) (_ : Arg.ok seed) (_ : Arg.ok n) (_ : Arg.ok how) : Lw G F_handsellaw02_OtsNone [enc seed,enc n,enc how] := ⟨_,handsellaw02_OtsNone_f_s seed n how true (none_f seed n how) ⟨[],0⟩ (Nat.le_refl _)⟩
end Go.Proofs.Ytnimkejbeogciaa
