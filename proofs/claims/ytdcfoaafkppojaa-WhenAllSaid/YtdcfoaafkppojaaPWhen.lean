/- Deadlines: program and document alike; the laws of when. -/
import Derived.Test.YtdcfoaafkppojaaPRing
set_option linter.unusedSimpArgs false
set_option linter.unusedVariables false
namespace Go.Proofs.Ytdcfoaafkppojaa
open Go Go.RowKit Sh Ic
def wr (n : Int) : Int := IntKind.i64.wrap n
def atT (s : aa) (k : Int) : Int := wr (s.Start + wr (k * s.Delta))
noncomputable def ofT (s : aa) (k : Int) : Int := if okS s = true then atT s k else 0
def xd (n k : Int) : Int := if k < 1 then 1 else if n < k then n else k
noncomputable def dl (s : aa) (k : Int) : Int := ofT s ((s.Parties.length : Int) + xd s.Parties.length k - 1)
theorem of_f (s : aa) (hw : Wf s) (k : Int) : u6 s k = some (ofT s k) := by
  unfold u6 ofT
  rw [Check_f s hw,obz]
  by_cases h : okS s = true
  · rw [if_pos h,if_pos h]; rfl
  · rw [if_neg h,if_neg h]
theorem zavt {n k : Int} (hn : 1 ≤ n) : 1 ≤ xd n k ∧ xd n k ≤ n := by
  unfold xd; split
  · omega
  · split <;> omega
theorem zap1 {s : aa} (h : ¬ okS s = true) (k : Int) : ofT s k = 0 := if_neg h
theorem zaew (s : aa) (hw : Wf s) (k : Int) : fx s k = some (dl s k) := by
  unfold fx dl
  rw [of_f s hw,obz]
  by_cases h : okS s = true
  · have np := (zz.1 h).np
    have e : (if (1 : Int) < (if ((s.Parties.length : Nat) : Int) < k then ((s.Parties.length : Nat) : Int) else k) then (if ((s.Parties.length : Nat) : Int) < k then ((s.Parties.length : Nat) : Int) else k) else (1 : Int)) = xd s.Parties.length k := by
      unfold xd
      split <;> split <;> (try split) <;> (try split) <;> omega
    have c := zavt (n := (s.Parties.length : Int)) (k := k) (by omega)
    rw [e,wA (n := (s.Parties.length : Int) + xd s.Parties.length k) (by omega) (by omega),wA (by omega) (by omega)]
  · rw [zap1 h,zap1 h]
theorem Last_f (s : aa) (hw : Wf s) : ph s = some (dl s s.Parties.length) := by unfold ph; rw [zaew s hw,obz]
noncomputable def endT (s : aa) : Int := ofT s (2 * s.Parties.length)
theorem End_f (s : aa) (hw : Wf s) : ql s = some (endT s) := by
  unfold ql endT
  rw [of_f s hw,obz]
  by_cases h : okS s = true
  · have np := (zz.1 h).np
    rw [wA (n := 2 * (s.Parties.length : Int)) (by omega) (by omega)]
  · rw [zap1 h,zap1 h]
noncomputable def tab (s : aa) : Nat → Nat → List Int
  | 0,_ => []
  | n + 1,i => dl s ((i + 1 : Nat) : Int) :: tab s n (i + 1)
theorem tab_len (s : aa) (n : Nat) : ∀ i,(tab s n i).length = n := by
  induction n with
  | zero => intro i; rfl
  | succ n ih => intro i; rw [tab,List.length_cons,ih]
theorem tab_get (s : aa) (n : Nat) : ∀ i j,j < n → (tab s n i)[j]? = some (dl s ((i + j + 1 : Nat) : Int)) := by
  induction n with
  | zero => intro i j h; omega
  | succ n ih =>
    intro i j h
    cases j with
    | zero => rfl
    | succ j =>
      rw [tab,List.getElem?_cons_succ,ih (i + 1) j (by omega)]
      congr 3; omega
theorem tab_l (s : aa) (hw : Wf s) (hp : s.Parties.length ≤ 6) (n : Nat) : ∀ (i : Nat) (acc : List Int),n + i = s.Parties.length → acc.length = i → ip s (s.Parties.length : Nat) acc (i : Int) = some (acc ++ tab s n i) := by
  induction n with
  | zero =>
    intro i acc h ha
    rw [wu,dv,if_neg (by omega),obz,LS.go,tab,List.append_nil]
  | succ n ih =>
    intro i acc h ha
    rw [wu,dv,if_pos (by omega),tn i (by omega),zaew s hw,obz,if_pos (by omega),obz,LS.go]
    show ip s _ (acc ++ [dl s ((i + 1 : Nat) : Int)]) _ = _
    rw [ih (i + 1) _ (by omega) (by rw [List.length_append]; simp; omega),tab,List.append_assoc]
    rfl
noncomputable def tabT (s : aa) : List Int := if okS s = true then tab s s.Parties.length 0 else []
theorem Table_f (s : aa) (hw : Wf s) : mb s = some (tabT s) := by
  unfold mb tabT
  rw [Check_f s hw,obz]
  by_cases h : okS s = true
  · have np := (zz.1 h).np
    have e : ip s (s.Parties.length : Nat) [] 0 = some ([] ++ tab s s.Parties.length 0) := tab_l s hw (by omega) s.Parties.length 0 [] rfl rfl
    rw [if_pos h,if_pos h,e,obz,List.nil_append]
  · rw [if_neg h,if_neg h]
theorem tabT_len (s : aa) : (tabT s).length ≤ 6 := by
  unfold tabT
  by_cases h : okS s = true
  · have np := (zz.1 h).np
    rw [if_pos h,tab_len]; omega
  · rw [if_neg h]; decide
theorem mul_in {m d : Int} (h1 : 0 ≤ m) (h2 : m ≤ 12) (h3 : 1 ≤ d) (h4 : d ≤ 1048576) : 0 ≤ m * d ∧ m * d ≤ 12582912 := by
  have a := Int.mul_nonneg h1 (show (0 : Int) ≤ d by omega)
  have b := Int.mul_le_mul h2 h4 (show (0 : Int) ≤ d by omega) (show (0 : Int) ≤ 12 by decide)
  omega
theorem ofT_ok {s : aa} (h : Ok s) {m : Int} (h1 : 0 ≤ m) (h2 : m ≤ 12) : ofT s m = s.Start + m * s.Delta := by
  have p := mul_in h1 h2 h.delta.1 h.delta.2
  have q := h.start
  unfold ofT atT wr
  rw [if_pos (zaor h),wA (n := m * s.Delta) (by omega) (by omega),wA (by omega) (by omega)]
theorem dl_ok {s : aa} (h : Ok s) (k : Int) : dl s k = s.Start + ((s.Parties.length : Int) + xd s.Parties.length k - 1) * s.Delta := by
  have np := h.np
  have c := zavt (n := (s.Parties.length : Int)) (k := k) (by omega)
  exact ofT_ok h (by omega) (by omega)
theorem clamp_self {n k : Int} (h1 : 1 ≤ k) (h2 : k ≤ n) : xd n k = k := by unfold xd; rw [if_neg (by omega),if_neg (by omega)]
theorem end_ok {s : aa} (h : Ok s) : endT s = s.Start + 2 * (s.Parties.length : Int) * s.Delta := by
  have np := h.np
  exact ofT_ok h (by omega) (by omega)
theorem tabT_ok {s : aa} (h : Ok s) : tabT s = tab s s.Parties.length 0 := if_pos (zaor h)
theorem tabT_no {s : aa} (h : ¬ Ok s) : tabT s = [] := if_neg (by rw [zz]; exact h)
theorem tabT_at {s : aa} (h : Ok s) {j : Nat} (hj : j < s.Parties.length) : ixL (tabT s) (j : Int) = some (s.Start + ((s.Parties.length : Int) + j) * s.Delta) := by
  rw [tabT_ok h]
  rw [(wq (tab_get s _ 0 j hj)).2,dl_ok h,clamp_self (by omega) (by omega)]
  congr 3; omega
theorem empty_no : ¬ Ok (⟨(⟨#[]⟩ : ByteArray),[],[],[],[],(0 : Int),(0 : Int)⟩ : aa) := fun h => absurd h.np.1 (by decide)
theorem awake6 (s : aa) (h : Ok s) (hw : Wf s) (h3 : s.Parties.length = 3) (ha : s.Start = 10) (hd : s.Delta = 5) (e : zf 3 10 5 = some s) : m5 = some true := by
  unfold m5
  have t0 := tabT_at h (j := 0) (by omega)
  have t2 := tabT_at h (j := 2) (by omega)
  rw [ha,hd,h3] at t0 t2
  have t0 : ixL (tabT s) 0 = some 25 := t0
  have t2 : ixL (tabT s) 2 = some 35 := t2
  have en := end_ok h
  have d3 := dl_ok h 3
  have d2 := dl_ok h 2
  rw [ha,hd,h3] at en d3 d2
  have en : endT s = 40 := en
  have d3 : dl s 3 = 35 := by rw [d3]; decide
  have d2 : dl s 2 = 30 := by rw [d2]; decide
  have l3 : (tabT s).length = 3 := by rw [tabT_ok h,tab_len,h3]
  have lp : dl s (s.Parties.length : Nat) = 35 := by rw [h3]; exact d3
  have ee : endT (⟨(⟨#[]⟩ : ByteArray),[],[],[],[],(0 : Int),(0 : Int)⟩ : aa) = 0 := zap1 (by rw [zz]; exact empty_no) _
  rw [e,obz,Table_f s hw,obz,if_pos (by omega),t0,obz,if_pos rfl,t2,obz,if_pos rfl,End_f s hw,obz,if_pos en,Last_f s hw,obz,if_pos lp,zaew s hw,obz,if_pos d2,End_f _ ⟨fun v hv => (by cases hv),by decide,by decide⟩,obz,ee]
  rfl
theorem za7h : m5 = some true := by
  have e := ring_f 3 10 5 (by decide) (by decide)
  exact awake6 _ (ring_ok 3 10 5 (by decide) (by decide) (by decide) (by decide)) (ring_wf 3 10 5 (by decide) (by decide)) (zaw3 1 3 0) rfl rfl e
end Go.Proofs.Ytdcfoaafkppojaa
