/- Deadlines: program and document alike; the laws of when. -/
import Derived.Test.YtdcfoaafkppojaaPRing
set_option linter.unusedSimpArgs false
set_option linter.unusedVariables false
namespace Go.Proofs.Ytdcfoaafkppojaa
open Go Go.RowKit Sh Ic
theorem place_f (n k : Int) (hk : 0 < k) (hk2 : k < 9223372036854775808) : handsellaw00_Place_f n k = some (n % k) := by
  unfold handsellaw00_Place_f
  rw [if_pos (by omega)]
  have h1 := Int.emod_nonneg n (show k ≠ 0 by omega)
  have h2 := Int.emod_lt_of_pos n hk
  by_cases c : 0 ≤ n
  · have e : Int.tmod n k = n % k := Int.tmod_eq_emod_of_nonneg c
    rw [e,if_neg (by omega)]
  · have e := Int.tmod_eq_emod (a := n) (b := k)
    by_cases d : n % k = 0
    · have : Int.tmod n k = 0 := by
        rw [e,d]
        have : k ∣ n := Int.dvd_of_emod_eq_zero d
        simp [this]
      rw [this,d,if_neg (by decide)]
    · have nd : ¬ k ∣ n := fun h => d (Int.emod_eq_zero_of_dvd h)
      have e2 : Int.tmod n k = n % k - k := by
        rw [e,if_neg (fun h => h.elim c nd)]
        omega
      rw [e2,if_pos (by omega),w64 (by omega) (by omega)]
      congr 1
      omega
def wr (n : Int) : Int := IntKind.i64.wrap n
def atT (s : S_api_Spec) (k : Int) : Int := wr (s.Start + wr (k * s.Delta))
noncomputable def ofT (s : S_api_Spec) (k : Int) : Int := if okS s = true then atT s k else 0
def clampT (n k : Int) : Int := if k < 1 then 1 else if n < k then n else k
noncomputable def dl (s : S_api_Spec) (k : Int) : Int := ofT s ((s.Parties.length : Int) + clampT s.Parties.length k - 1)
theorem of_f (s : S_api_Spec) (hw : Wf s) (k : Int) : when_of_f s k = some (ofT s k) := by
  unfold when_of_f ofT
  rw [Check_f s hw,obz]
  by_cases h : okS s = true
  · rw [if_pos h,if_pos h]; rfl
  · rw [if_neg h,if_neg h]
theorem clamp_in {n k : Int} (hn : 1 ≤ n) : 1 ≤ clampT n k ∧ clampT n k ≤ n := by
  unfold clampT; split
  · omega
  · split <;> omega
theorem ofT_no {s : S_api_Spec} (h : ¬ okS s = true) (k : Int) : ofT s k = 0 := if_neg h
theorem Deadline_f (s : S_api_Spec) (hw : Wf s) (k : Int) : when_Deadline_f s k = some (dl s k) := by
  unfold when_Deadline_f dl
  rw [of_f s hw,obz]
  by_cases h : okS s = true
  · have np := (okS_iff.1 h).np
    have e : (if (1 : Int) < (if ((s.Parties.length : Nat) : Int) < k then ((s.Parties.length : Nat) : Int) else k) then (if ((s.Parties.length : Nat) : Int) < k then ((s.Parties.length : Nat) : Int) else k) else (1 : Int)) = clampT s.Parties.length k := by
      unfold clampT
      split <;> split <;> (try split) <;> (try split) <;> omega
    have c := clamp_in (n := (s.Parties.length : Int)) (k := k) (by omega)
    rw [e,wA (n := (s.Parties.length : Int) + clampT s.Parties.length k) (by omega) (by omega),wA (by omega) (by omega)]
  · rw [ofT_no h,ofT_no h]
theorem Last_f (s : S_api_Spec) (hw : Wf s) : when_Last_f s = some (dl s s.Parties.length) := by unfold when_Last_f; rw [Deadline_f s hw,obz]
noncomputable def endT (s : S_api_Spec) : Int := ofT s (2 * s.Parties.length)
theorem End_f (s : S_api_Spec) (hw : Wf s) : when_End_f s = some (endT s) := by
  unfold when_End_f endT
  rw [of_f s hw,obz]
  by_cases h : okS s = true
  · have np := (okS_iff.1 h).np
    rw [wA (n := 2 * (s.Parties.length : Int)) (by omega) (by omega)]
  · rw [ofT_no h,ofT_no h]
noncomputable def tab (s : S_api_Spec) : Nat → Nat → List Int
  | 0,_ => []
  | n + 1,i => dl s ((i + 1 : Nat) : Int) :: tab s n (i + 1)
theorem tab_len (s : S_api_Spec) (n : Nat) : ∀ i,(tab s n i).length = n := by
  induction n with
  | zero => intro i; rfl
  | succ n ih => intro i; rw [tab,List.length_cons,ih]
theorem tab_get (s : S_api_Spec) (n : Nat) : ∀ i j,j < n → (tab s n i)[j]? = some (dl s ((i + j + 1 : Nat) : Int)) := by
  induction n with
  | zero => intro i j h; omega
  | succ n ih =>
    intro i j h
    cases j with
    | zero => rfl
    | succ j =>
      rw [tab,List.getElem?_cons_succ,ih (i + 1) j (by omega)]
      congr 3; omega
theorem tab_l (s : S_api_Spec) (hw : Wf s) (hp : s.Parties.length ≤ 6) (n : Nat) : ∀ (i : Nat) (acc : List Int),n + i = s.Parties.length → acc.length = i → when_Table_f_l1 s (s.Parties.length : Nat) acc (i : Int) = some (acc ++ tab s n i) := by
  induction n with
  | zero =>
    intro i acc h ha
    rw [when_Table_f_l1_eq,when_Table_f_l1_step,if_neg (by omega),obz,LS.go,tab,List.append_nil]
  | succ n ih =>
    intro i acc h ha
    rw [when_Table_f_l1_eq,when_Table_f_l1_step,if_pos (by omega),inc64 i (by omega),Deadline_f s hw,obz,if_pos (by omega),obz,LS.go]
    show when_Table_f_l1 s _ (acc ++ [dl s ((i + 1 : Nat) : Int)]) _ = _
    rw [ih (i + 1) _ (by omega) (by rw [List.length_append]; simp; omega),tab,List.append_assoc]
    rfl
noncomputable def tabT (s : S_api_Spec) : List Int := if okS s = true then tab s s.Parties.length 0 else []
theorem Table_f (s : S_api_Spec) (hw : Wf s) : when_Table_f s = some (tabT s) := by
  unfold when_Table_f tabT
  rw [Check_f s hw,obz]
  by_cases h : okS s = true
  · have np := (okS_iff.1 h).np
    have e : when_Table_f_l1 s (s.Parties.length : Nat) [] 0 = some ([] ++ tab s s.Parties.length 0) := tab_l s hw (by omega) s.Parties.length 0 [] rfl rfl
    rw [if_pos h,if_pos h,e,obz,List.nil_append]
  · rw [if_neg h,if_neg h]
theorem tabT_len (s : S_api_Spec) : (tabT s).length ≤ 6 := by
  unfold tabT
  by_cases h : okS s = true
  · have np := (okS_iff.1 h).np
    rw [if_pos h,tab_len]; omega
  · rw [if_neg h]; decide
theorem mul_in {m d : Int} (h1 : 0 ≤ m) (h2 : m ≤ 12) (h3 : 1 ≤ d) (h4 : d ≤ 1048576) : 0 ≤ m * d ∧ m * d ≤ 12582912 := by
  have a := Int.mul_nonneg h1 (show (0 : Int) ≤ d by omega)
  have b := Int.mul_le_mul h2 h4 (show (0 : Int) ≤ d by omega) (show (0 : Int) ≤ 12 by decide)
  omega
theorem ofT_ok {s : S_api_Spec} (h : Ok s) {m : Int} (h1 : 0 ≤ m) (h2 : m ≤ 12) : ofT s m = s.Start + m * s.Delta := by
  have p := mul_in h1 h2 h.delta.1 h.delta.2
  have q := h.start
  unfold ofT atT wr
  rw [if_pos (okS_true h),wA (n := m * s.Delta) (by omega) (by omega),wA (by omega) (by omega)]
theorem dl_ok {s : S_api_Spec} (h : Ok s) (k : Int) : dl s k = s.Start + ((s.Parties.length : Int) + clampT s.Parties.length k - 1) * s.Delta := by
  have np := h.np
  have c := clamp_in (n := (s.Parties.length : Int)) (k := k) (by omega)
  exact ofT_ok h (by omega) (by omega)
theorem clamp_self {n k : Int} (h1 : 1 ≤ k) (h2 : k ≤ n) : clampT n k = k := by unfold clampT; rw [if_neg (by omega),if_neg (by omega)]
theorem end_ok {s : S_api_Spec} (h : Ok s) : endT s = s.Start + 2 * (s.Parties.length : Int) * s.Delta := by
  have np := h.np
  exact ofT_ok h (by omega) (by omega)
theorem tabT_ok {s : S_api_Spec} (h : Ok s) : tabT s = tab s s.Parties.length 0 := if_pos (okS_true h)
theorem tabT_no {s : S_api_Spec} (h : ¬ Ok s) : tabT s = [] := if_neg (by rw [okS_iff]; exact h)
theorem tabT_at {s : S_api_Spec} (h : Ok s) {j : Nat} (hj : j < s.Parties.length) : ixL (tabT s) (j : Int) = some (s.Start + ((s.Parties.length : Int) + j) * s.Delta) := by
  rw [tabT_ok h]
  rw [(at_of (tab_get s _ 0 j hj)).2,dl_ok h,clamp_self (by omega) (by omega)]
  congr 3; omega
theorem empty_no : ¬ Ok (⟨(⟨#[]⟩ : ByteArray),[],[],[],[],(0 : Int),(0 : Int)⟩ : S_api_Spec) := fun h => absurd h.np.1 (by decide)
theorem awake6 (s : S_api_Spec) (h : Ok s) (hw : Wf s) (h3 : s.Parties.length = 3) (ha : s.Start = 10) (hd : s.Delta = 5) (e : handsellaw00_Ring_f 3 10 5 = some s) : handsellaw06_awake_f = some true := by
  unfold handsellaw06_awake_f
  have t0 := tabT_at h (j := 0) (by omega)
  have t2 := tabT_at h (j := 2) (by omega)
  rw [ha,hd,h3] at t0 t2
  have t0 : ixL (tabT s) 0 = some 25 := t0
  have t2 : ixL (tabT s) 2 = some 35 := t2
  have en := end_ok h
  have d3 := dl_ok h 3
  have d2 := dl_ok h 2
  rw [ha,hd,h3] at en d3 d2
  have en : endT s = 40 := en
  have d3 : dl s 3 = 35 := by rw [d3]; decide
  have d2 : dl s 2 = 30 := by rw [d2]; decide
  have l3 : (tabT s).length = 3 := by rw [tabT_ok h,tab_len,h3]
  have lp : dl s (s.Parties.length : Nat) = 35 := by rw [h3]; exact d3
  have ee : endT (⟨(⟨#[]⟩ : ByteArray),[],[],[],[],(0 : Int),(0 : Int)⟩ : S_api_Spec) = 0 := ofT_no (by rw [okS_iff]; exact empty_no) _
  rw [e,obz,Table_f s hw,obz,if_pos (by omega),t0,obz,if_pos rfl,t2,obz,if_pos rfl,End_f s hw,obz,if_pos en,Last_f s hw,obz,if_pos lp,Deadline_f s hw,obz,if_pos d2,End_f _ ⟨fun v hv => (by cases hv),by decide,by decide⟩,obz,ee]
  rfl
theorem awake6_f : handsellaw06_awake_f = some true := by
  have e := ring_f 3 10 5 (by decide) (by decide)
  exact awake6 _ (ring_ok 3 10 5 (by decide) (by decide) (by decide) (by decide)) (ring_wf 3 10 5 (by decide) (by decide)) (rowsL_len 1 3 0) rfl rfl e
end Go.Proofs.Ytdcfoaafkppojaa
