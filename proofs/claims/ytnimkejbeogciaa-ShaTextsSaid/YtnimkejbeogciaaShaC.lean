/- The law of the digest's texts: what Hex writes reads back. -/
import Derived.Test.YtnimkejbeogciaaShaB
set_option linter.unusedSimpArgs false
set_option linter.unusedVariables false
namespace Go.Proofs.Ytnimkejbeogciaa
open Go Go.RowKit Sh Ic
open ArgT (enc)
theorem hx_val : ∀ d : Fin 16, hx d.val = if d.val < 10 then ((48 + d.val : Nat) : Int) else ((87 + d.val : Nat) : Int) := by decide +kernel
theorem hexL_at (s : ByteArray) (m : Nat) : ∀ i n, m < n → (hexL s i n)[2 * m]? = some (hx (bN s (i + m) / 16)) ∧ (hexL s i n)[2 * m + 1]? = some (hx (bN s (i + m) % 16)) := by
  induction m with
  | zero =>
    intro i n h
    cases n with
    | zero => omega
    | succ n => exact ⟨rfl, rfl⟩
  | succ m ih =>
    intro i n h
    cases n with
    | zero => omega
    | succ n =>
      have e := ih (i + 1) n (by omega)
      rw [show i + 1 + m = i + (m + 1) from by omega] at e
      exact e
theorem ixB_strL (l : List Int) (k : Nat) (z x : Int) (hz : z = (k : Int)) (h : l[k]? = some x) (hx0 : 0 ≤ x ∧ x < 256) : ixB (strL l) z = some x := by
  subst hz
  have hk := (List.getElem?_eq_some_iff.1 h).1
  unfold ixB
  rw [if_pos ⟨by omega, by rw [strL_size]; omega⟩, Int.toNat_natCast]
  have : (strL l).data.getD k 0 = UInt8.ofNat x.toNat := by
    rw [Array.getD_eq_getD_getElem?, ← Array.getElem?_toList]
    show ((l.map fun n => UInt8.ofNat n.toNat)[k]?).getD 0 = _
    rw [List.getElem?_map, h]; rfl
  rw [this]
  congr 1
  rw [UInt8.toNat_ofNat']
  omega
theorem two_f (s : ByteArray) (v1 : ByteArray) (i a j d : Nat) (ha : a < 256) (hj : j < 2) (hi : i < 10000) (hd : d < 16) (h : ixB v1 ((2 * i + j : Nat) : Int) = some (hx d)) : handsellaw01_ShaTexts_f_l2_step s v1 (i : Int) (a : Int) (j : Int) = some (.nx (((16 * a + d : Nat) : Int), ((j + 1 : Nat) : Int))) := by
  have w2 : IntKind.i64.wrap ((IntKind.i64.wrap ((2 : Int) * (i : Int))) + (j : Int)) = ((2 * i + j : Nat) : Int) := by rw [w64 (n := 2 * (i : Int)) (by omega) (by omega), w64 (by omega) (by omega)]; omega
  have hv := hx_val ⟨d, hd⟩
  simp only at hv
  unfold handsellaw01_ShaTexts_f_l2_step
  rw [if_pos (by omega), w2, h, obz, inc64 j (by omega)]
  by_cases c : d < 10
  · rw [if_pos c] at hv
    rw [hv, if_pos (by omega), if_pos (by omega)]
    rw [wr8, w64 (n := 16 * (a : Int)) (by omega) (by omega), w64 (n := (((48 + d : Nat) : Int) - 48) % 256) (by omega) (by omega), w64 (by omega) (by omega)]
    rw [show 16 * (a : Int) + (((48 + d : Nat) : Int) - 48) % 256 = ((16 * a + d : Nat) : Int) from by omega]
  · rw [if_neg c] at hv
    rw [hv, if_pos (by omega), if_neg (by omega), if_pos (by omega), if_pos (by omega)]
    rw [wr8, w64 (n := 16 * (a : Int)) (by omega) (by omega), w64 (n := (((87 + d : Nat) : Int) - 97) % 256) (by omega) (by omega), w64 (n := 16 * (a : Int) + (((87 + d : Nat) : Int) - 97) % 256) (by omega) (by omega), w64 (by omega) (by omega), obz]
    rw [show 16 * (a : Int) + (((87 + d : Nat) : Int) - 97) % 256 + 10 = ((16 * a + d : Nat) : Int) from by omega]
theorem pair_f (s : ByteArray) (hs : s.size < 10000) (i : Nat) (hi : i < s.size) : handsellaw01_ShaTexts_f_l2 s (HEX s) (i : Int) 0 0 = some (.ex (bN s i : Int)) := by
  have b := bN_lt s i
  have at_ := hexL_at s i 0 s.size hi
  rw [Nat.zero_add] at at_
  have h0 := ixB_strL _ _ ((2 * i + 0 : Nat) : Int) _ rfl at_.1 (hx_in _)
  have h1 := ixB_strL _ _ ((2 * i + 1 : Nat) : Int) _ rfl at_.2 (hx_in _)
  have e0 := two_f s (HEX s) i 0 0 (bN s i / 16) (by omega) (by omega) (by omega) (by omega) h0
  have e1 := two_f s (HEX s) i (16 * 0 + bN s i / 16) 1 (bN s i % 16) (by omega) (by omega) (by omega) (by omega) h1
  rw [handsellaw01_ShaTexts_f_l2_eq]
  refine (congrArg (· >>= _) e0).trans ?_
  show handsellaw01_ShaTexts_f_l2 s (HEX s) (i : Int) ((16 * 0 + bN s i / 16 : Nat) : Int) ((0 + 1 : Nat) : Int) = _
  rw [handsellaw01_ShaTexts_f_l2_eq]
  refine (congrArg (· >>= _) e1).trans ?_
  show handsellaw01_ShaTexts_f_l2 s (HEX s) (i : Int) ((16 * (16 * 0 + bN s i / 16) + bN s i % 16 : Nat) : Int) ((1 + 1 : Nat) : Int) = _
  rw [handsellaw01_ShaTexts_f_l2_eq, handsellaw01_ShaTexts_f_l2_step, if_neg (by omega), show 16 * (16 * 0 + bN s i / 16) + bN s i % 16 = bN s i from by omega]
  rfl
theorem back_f (s : ByteArray) (hs : s.size < 10000) (n : Nat) : ∀ i, n + i = s.size → handsellaw01_ShaTexts_f_l1 s (HEX s) (i : Int) = some (.ex ()) := by
  induction n with
  | zero =>
    intro i hi
    rw [handsellaw01_ShaTexts_f_l1_eq, handsellaw01_ShaTexts_f_l1_step, if_neg (by omega)]
    rfl
  | succ n ih =>
    intro i hi
    have b := bN_lt s i
    rw [handsellaw01_ShaTexts_f_l1_eq, handsellaw01_ShaTexts_f_l1_step, if_pos (by omega), pair_f s hs i (by omega), obz]
    show (ixB s _ >>= _) >>= _ = _
    rw [ixB_bN s i _ rfl (by omega), obz, if_pos (by rw [w64 (by omega) (by omega)]), inc64 i (by omega), obz, LS.go]
    exact ih (i + 1) (by omega)
theorem texts_f (s : ByteArray) : handsellaw01_ShaTexts_f s = some true := by
  unfold handsellaw01_ShaTexts_f
  by_cases c : (1000 : Int) < ((s.size : Nat) : Int)
  · rw [if_pos c, awake_f]; rfl
  · have hs : s.size < 10000000000 := by omega
    rw [if_neg c, hex1_f s hs, obz, sum1_f s hs, obz, if_pos (by rw [HEX_size, w64 (by omega) (by omega)]; omega), if_pos (by rw [SHA_size]; rfl), if_pos ⟨by omega, by rw [SHA_size]; omega⟩, short_f s hs, obz, if_pos rfl]
    refine (congrArg (· >>= _) (back_f s (by omega) s.size 0 rfl)).trans ?_
    rw [obz]
    show (handsellaw01_awake_f >>= _) = _
    rw [awake_f]; rfl
theorem shaTexts_ok (s : ByteArray) (_ : Arg.ok s) : Lw G F_handsellaw01_ShaTexts [enc s] := ⟨_, handsellaw01_ShaTexts_f_s s true (texts_f s) ⟨[], 0⟩ (Nat.le_refl _)⟩
end Go.Proofs.Ytnimkejbeogciaa
