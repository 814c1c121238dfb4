/- A place among so many; keys. -/
import Derived.Test.YtnimkejbeogciaaOtsK
set_option linter.unusedSimpArgs false
set_option linter.unusedVariables false
set_option linter.unusedSectionVars false
namespace Go.Proofs.Ytnimkejbeogciaa
open Go Go.RowKit Sh Ic
theorem place_f (n k : Int) (hk : 0 < k) (hk2 : k < 9223372036854775808) : handsellaw00_Place_f n k = some (n % k) := by
  unfold handsellaw00_Place_f
  rw [if_pos (by omega)]
  have h1 := Int.emod_nonneg n (show k ≠ 0 by omega)
  have h2 := Int.emod_lt_of_pos n hk
  by_cases c : 0 ≤ n
  · have e : Int.tmod n k = n % k := Int.tmod_eq_emod_of_nonneg c
    rw [e,if_neg (by omega)]
  · have e := Int.tmod_eq_emod (a := n) (b := k)
    by_cases d : n % k = 0
    · have : Int.tmod n k = 0 := by
        rw [e,d]
        have : k ∣ n := Int.dvd_of_emod_eq_zero d
        simp [this]
      rw [this,d,if_neg (by decide)]
    · have nd : ¬ k ∣ n := fun h => d (Int.emod_eq_zero_of_dvd h)
      have e2 : Int.tmod n k = n % k - k := by
        rw [e,if_neg (fun h => h.elim c nd)]
        omega
      rw [e2,if_pos (by omega),w64 (by omega) (by omega)]
      congr 1
      omega
theorem isK256 (n : Int) : isK (n % 256) := ⟨by omega,by omega⟩
theorem PUB_size (seed : ByteArray) (k : Int) : (PUB seed k).size = 16 := SH_size _
theorem more (g : ByteArray) : ¬ (g ++ (⟨#[120]⟩ : ByteArray)) = g := fun h => by
  have h2 := congrArg ByteArray.size h
  rw [ByteArray.size_append] at h2
  have h3 : (⟨#[120]⟩ : ByteArray).size = 1 := rfl
  omega
end Go.Proofs.Ytnimkejbeogciaa
