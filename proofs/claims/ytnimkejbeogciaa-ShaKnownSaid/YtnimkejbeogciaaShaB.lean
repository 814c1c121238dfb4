/- The laws of the digest, as functions of numbers and lists: all texts, lengths. -/
import Derived.Test.YtnimkejbeogciaaShaA
set_option linter.unusedSimpArgs false
set_option linter.unusedVariables false
namespace Go.Proofs.Ytnimkejbeogciaa
open Go Go.RowKit Sh Ic
open ArgT (enc)
theorem all_f (s : ByteArray) : handsellaw01_ShaAll_f s = some true := by
  unfold handsellaw01_ShaAll_f
  by_cases c : (3000 : Int) < ((s.size : Nat) : Int)
  · rw [if_pos c,awake_f]; rfl
  · have hs : s.size < 10000000000 := by omega
    rw [if_neg c,sum1_f s hs,obz,sum2_f s hs,obz,if_pos rfl,if_pos (by rw [SHA_size]; rfl),if_pos ⟨by omega,by rw [SHA_size]; omega⟩,short_f s hs,obz,if_pos rfl,hex1_f s hs,obz,hex2_f s hs,obz,if_pos rfl,awake_f]
    rfl
theorem place_f (n k : Int) (hk : 0 < k) (hk2 : k < 9223372036854775808) : handsellaw00_Place_f n k = some (n % k) := by
  unfold handsellaw00_Place_f
  rw [if_pos (by omega)]
  have h1 := Int.emod_nonneg n (show k ≠ 0 by omega)
  have h2 := Int.emod_lt_of_pos n hk
  by_cases c : 0 ≤ n
  · have e : Int.tmod n k = n % k := Int.tmod_eq_emod_of_nonneg c
    rw [e,if_neg (by omega)]
  · have e := Int.tmod_eq_emod (a := n) (b := k)
    by_cases d : n % k = 0
    · have : Int.tmod n k = 0 := by
        rw [e,d]
        have : k ∣ n := Int.dvd_of_emod_eq_zero d
        simp [this]
      rw [this,d,if_neg (by decide)]
    · have nd : ¬ k ∣ n := fun h => d (Int.emod_eq_zero_of_dvd h)
      have e2 : Int.tmod n k = n % k - k := by
        rw [e,if_neg (fun h => h.elim c nd)]
        omega
      rw [e2,if_pos (by omega),w64 (by omega) (by omega)]
      congr 1
      omega
theorem len_l (c : Int) (n : Nat) (hn : n < 1000) (k : Nat) : ∀ (i : Nat) (l : List Int),k + i = n → l.length = n → ∃ r,handsellaw01_ShaLengths_f_l1 c (n : Int) n l (i : Int) = some r ∧ r.length = n := by
  induction k with
  | zero =>
    intro i l hi hl
    refine ⟨l,?_,hl⟩
    rw [handsellaw01_ShaLengths_f_l1_eq,handsellaw01_ShaLengths_f_l1_step,if_neg (by omega)]
    rfl
  | succ k ih =>
    intro i l hi hl
    obtain ⟨r,hr,hrl⟩ := ih (i + 1) (l.set i (IntKind.u8.wrap (c + (IntKind.u8.wrap (Int.tmod (i : Int) (3 : Int)))))) (by omega) (by rw [List.length_set]; exact hl)
    refine ⟨r,?_,hrl⟩
    rw [handsellaw01_ShaLengths_f_l1_eq,handsellaw01_ShaLengths_f_l1_step,if_pos (by omega),if_pos ⟨by omega,by omega⟩,if_pos (by rw [Int.toNat_natCast]; omega),Int.toNat_natCast,inc64 i (by omega),obz,LS.go]
    exact hr
theorem lengths_f (n c : Int) : handsellaw01_ShaLengths_f n c = some true := by
  unfold handsellaw01_ShaLengths_f
  rw [place_f n 300 (by decide) (by decide),obz]
  have h1 := Int.emod_nonneg n (show (300 : Int) ≠ 0 by decide)
  have h2 := Int.emod_lt_of_pos n (show (0 : Int) < 300 by decide)
  obtain ⟨m,hm⟩ : ∃ m : Nat,n % 300 = (m : Int) := ⟨(n % 300).toNat,by omega⟩
  rw [hm] at h1 h2 ⊢
  obtain ⟨r,hr,hrl⟩ := len_l c m (by omega) m 0 (List.replicate m 0) rfl (List.length_replicate ..)
  rw [if_pos h1,if_pos (Int.le_refl _),if_pos (by omega),Int.toNat_natCast]
  refine (congrArg (· >>= _) hr).trans ?_
  show (if r.length = m then _ else none) = _
  have sz : (strL r).size < 10000000000 := by rw [strL_size]; omega
  rw [if_pos hrl,if_pos hrl,sum1_f _ sz,obz,sum2_f _ sz,obz,if_pos rfl,awake_f]
  rfl
theorem shaAll_ok (s : ByteArray) (_ : Arg.ok s) : Lw G F_handsellaw01_ShaAll [enc s] := ⟨_,handsellaw01_ShaAll_f_s s true (all_f s) ⟨[],0⟩ (Nat.le_refl _)⟩
theorem shaLengths_ok (n : Int) (c : UInt8) (_ : Arg.ok n) (_ : Arg.ok c) : Lw G F_handsellaw01_ShaLengths [enc n,enc c] := ⟨_,handsellaw01_ShaLengths_f_s n _ true (lengths_f n _) ⟨[],0⟩ (Nat.le_refl _)⟩
end Go.Proofs.Ytnimkejbeogciaa
