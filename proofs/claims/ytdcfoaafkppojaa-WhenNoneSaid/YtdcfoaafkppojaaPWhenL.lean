/- The laws of when, as functions of numbers and lists. -/
import Derived.Test.YtdcfoaafkppojaaPWhen
set_option linter.unusedSimpArgs false
set_option linter.unusedVariables false
namespace Go.Proofs.Ytdcfoaafkppojaa
open Go Go.RowKit Sh Ic
open ArgT (enc)
theorem steps_l (s : S_api_Spec) (h : Ok s) (hw : Wf s) (n : Nat) (d : Int) (hd : s.Delta = d) (hn : s.Parties.length = n) : handsellaw06_WhenSteps_f_l1 (n : Int) d s (tabT s) 1 = some (.ex ()) := by
  have np := h.np
  have e : (handsellaw06_WhenSteps_f_l1 (n : Int) d s (tabT s) 1 = some (.ex ()) ∧ ∀ j,j < n - 1 → True) ∨ (handsellaw06_WhenSteps_f_l1 (n : Int) d s (tabT s) 1 = some (.rt false) ∧ ∃ j,j < n - 1 ∧ ¬ True) := by
    refine loopX (f := fun k => handsellaw06_WhenSteps_f_l1 (n : Int) d s (tabT s) ((k + 1 : Nat) : Int)) (N := n - 1) ?_ ?_ ?_
    · show handsellaw06_WhenSteps_f_l1 (n : Int) d s (tabT s) ((n - 1 + 1 : Nat) : Int) = _
      rw [handsellaw06_WhenSteps_f_l1_eq,handsellaw06_WhenSteps_f_l1_step,if_neg (by omega),obz,LS.go]
    · intro k hk _
      show handsellaw06_WhenSteps_f_l1 (n : Int) d s (tabT s) ((k + 1 : Nat) : Int) = handsellaw06_WhenSteps_f_l1 (n : Int) d s (tabT s) ((k + 1 + 1 : Nat) : Int)
      have t1 := tabT_at h (j := k + 1) (by omega)
      have t0 := tabT_at h (j := k) (by omega)
      have p0 := mul_in (m := (s.Parties.length : Int) + (k : Nat)) (by omega) (by omega) h.delta.1 h.delta.2
      have st := h.start
      have dd := h.delta
      have ex : s.Start + ((s.Parties.length : Int) + ((k + 1 : Nat) : Int)) * s.Delta = IntKind.i64.wrap (s.Start + ((s.Parties.length : Int) + (k : Int)) * s.Delta + d) := by
        rw [wA (by omega) (by omega),← hd,Int.natCast_succ,← Int.add_assoc,Int.add_mul,Int.one_mul,Int.add_assoc]
      have ed : dl s ((k + 1 + 1 : Nat) : Int) = s.Start + ((s.Parties.length : Int) + ((k + 1 : Nat) : Int)) * s.Delta := by
        rw [dl_ok h,clamp_self (by omega) (by omega)]
        congr 2; omega
      rw [handsellaw06_WhenSteps_f_l1_eq,handsellaw06_WhenSteps_f_l1_step,if_pos (by omega),t1,obz,wA (n := ((k + 1 : Nat) : Int) - 1) (by omega) (by omega),show ((k + 1 : Nat) : Int) - 1 = (k : Int) by omega,t0,obz,if_pos ex,inc64 (k + 1) (by omega),Deadline_f s hw,obz,if_pos ed,obz,LS.go]
    · intro k hk hh
      exact absurd trivial hh
  rcases e with ⟨e,_⟩ | ⟨_,j,_,hh⟩
  · exact e
  · exact absurd trivial hh
theorem steps_g (s : S_api_Spec) (h : Ok s) (hw : Wf s) (n : Nat) (a d : Int) (hn : s.Parties.length = n) (ha : s.Start = a) (hd : s.Delta = d) (p1 p2 p3 : Int) (e1 : p1 % 5 = (n : Int) - 2) (e2 : p2 % 1099511627777 = a) (e3 : p3 % 1048576 = d - 1) (hr : handsellaw00_Ring_f (n : Int) a d = some s) : handsellaw06_WhenSteps_f p1 p2 p3 = some true := by
  have np := h.np
  have dd := h.delta
  have st := h.start
  have hN : (n : Int) = (s.Parties.length : Int) := by omega
  have v1 : IntKind.i64.wrap (2 + ((n : Int) - 2)) = (n : Int) := by rw [wA (by omega) (by omega)]; omega
  have v2 : IntKind.i64.wrap (1 + (d - 1)) = d := by rw [wA (by omega) (by omega)]; omega
  have pn := mul_in (m := (n : Int)) (d := d) (by omega) (by omega) (by omega) (by omega)
  have v3 : IntKind.i64.wrap (a + IntKind.i64.wrap ((n : Int) * d)) = a + (n : Int) * d := by rw [wA (n := (n : Int) * d) (by omega) (by omega),wA (by omega) (by omega)]
  have v4 : IntKind.i64.wrap ((n : Int) - 1) = ((n - 1 : Nat) : Int) := by rw [wA (by omega) (by omega)]; omega
  have v5 : IntKind.i64.wrap ((n : Int) + 9) = (n : Int) + 9 := wA (by omega) (by omega)
  have ln : ((tabT s).length : Int) = (n : Int) := by rw [tabT_ok h,tab_len]; omega
  have t0 := tabT_at h (j := 0) (by omega)
  rw [ha,hd,hn] at t0
  have t0 : ixL (tabT s) 0 = some (a + (n : Int) * d) := by
    rw [show ((n : Int) + (0 : Nat)) = (n : Int) by omega] at t0
    exact t0
  have tn := tabT_at h (j := n - 1) (by omega)
  rw [ha,hd,hn] at tn
  have el : dl s (s.Parties.length : Nat) = a + ((n : Int) + ((n - 1 : Nat) : Int)) * d := by
    rw [dl_ok h,clamp_self (by omega) (by omega),ha,hd,hn]
    congr 2; omega
  have pm := mul_in (m := (n : Int) + ((n - 1 : Nat) : Int)) (d := d) (by omega) (by omega) (by omega) (by omega)
  have ee : endT s = IntKind.i64.wrap (a + ((n : Int) + ((n - 1 : Nat) : Int)) * d + d) := by
    rw [end_ok h,ha,hd,hn,wA (by omega) (by omega),show 2 * (n : Int) = (n : Int) + ((n - 1 : Nat) : Int) + 1 by omega,Int.add_mul,Int.one_mul,Int.add_assoc]
  have d5 : dl s (-5) = a + (n : Int) * d := by
    rw [dl_ok h,ha,hd,hn]
    have : clampT (n : Int) (-5) = 1 := by unfold clampT; rw [if_pos (by decide)]
    rw [this]; congr 2; omega
  have d9 : dl s ((n : Int) + 9) = a + ((n : Int) + ((n - 1 : Nat) : Int)) * d := by
    rw [dl_ok h,ha,hd,hn]
    have : clampT (n : Int) ((n : Int) + 9) = n := by unfold clampT; rw [if_neg (by omega),if_pos (by omega)]
    rw [this]; congr 2; omega
  have lp := steps_l s h hw n d hd hn
  unfold handsellaw06_WhenSteps_f
  rw [place_f p1 5 (by decide) (by decide),obz,place_f p2 1099511627777 (by decide) (by decide),obz,place_f p3 1048576 (by decide) (by decide),obz,e1,e2,e3,v1,v2,hr,obz,Table_f s hw,obz,if_pos ln,t0,obz,v3,if_pos rfl,v4,tn,obz,Last_f s hw,obz,if_pos el,End_f s hw,obz,if_pos ee,lp,obz]
  show (when_Deadline_f s (-5) >>= _) = _
  rw [Deadline_f s hw,obz,if_pos d5,v5,Deadline_f s hw,obz,if_pos d9,awake6_f,obz]
theorem steps_f (p1 p2 p3 : Int) : handsellaw06_WhenSteps_f p1 p2 p3 = some true := by
  have a1 := Int.emod_nonneg p1 (show (5 : Int) ≠ 0 by decide)
  have a2 := Int.emod_lt_of_pos p1 (show (0 : Int) < 5 by decide)
  have b1 := Int.emod_nonneg p2 (show (1099511627777 : Int) ≠ 0 by decide)
  have b2 := Int.emod_lt_of_pos p2 (show (0 : Int) < 1099511627777 by decide)
  have c1 := Int.emod_nonneg p3 (show (1048576 : Int) ≠ 0 by decide)
  have c2 := Int.emod_lt_of_pos p3 (show (0 : Int) < 1048576 by decide)
  obtain ⟨n,hn⟩ : ∃ n : Nat,p1 % 5 = (n : Int) - 2 := ⟨(p1 % 5).toNat + 2,by omega⟩
  obtain ⟨a,ha⟩ : ∃ a,p2 % 1099511627777 = a := ⟨_,rfl⟩
  obtain ⟨d,hd⟩ : ∃ d,p3 % 1048576 = d - 1 := ⟨p3 % 1048576 + 1,by omega⟩
  exact steps_g (ringS n a d) (ring_ok n a d (by omega) (by omega) (by omega) (by omega)) (ring_wf n a d (ok64_of (by omega) (by omega)) (ok64_of (by omega) (by omega))) n a d (rowsL_len 1 n 0) rfl rfl p1 p2 p3 hn ha hd (ring_f n a d (by omega) (by omega))
theorem none_end (t : S_api_Spec) (h : ¬ Ok t) (hw : Wf t) (k : Int) : when_End_f t = some 0 ∧ when_Last_f t = some 0 ∧ when_Deadline_f t k = some 0 ∧ when_Table_f t = some [] := by
  have no : ¬ okS t = true := by rw [okS_iff]; exact h
  refine ⟨?_,?_,?_,?_⟩
  · rw [End_f t hw]; unfold endT; rw [ofT_no no]
  · rw [Last_f t hw]; unfold dl; rw [ofT_no no]
  · rw [Deadline_f t hw]; unfold dl; rw [ofT_no no]
  · rw [Table_f t hw,tabT_no h]
theorem none_g (s : S_api_Spec) (h : Ok s) (hw : Wf s) (n : Nat) (hn : s.Parties.length = n) (ha : s.Start = 5) (hd : s.Delta = 6) (p1 p2 p3 : Int) (e1 : p1 % 5 = (n : Int) - 2) (hr : handsellaw00_Ring_f (n : Int) 5 6 = some s) : handsellaw06_WhenNone_f p1 p2 p3 = some true := by
  have np := h.np
  have v1 : IntKind.i64.wrap (2 + ((n : Int) - 2)) = (n : Int) := by rw [wA (by omega) (by omega)]; omega
  have ee : endT s = IntKind.i64.wrap (5 + IntKind.i64.wrap (12 * (s.Parties.length : Nat))) := by
    rw [end_ok h,ha,hd,wA (n := 12 * (s.Parties.length : Int)) (by omega) (by omega),wA (by omega) (by omega)]
    omega
  unfold handsellaw06_WhenNone_f
  rw [place_f p1 5 (by decide) (by decide),obz,e1,v1,hr,obz,End_f s hw,obz,if_pos ee,place_f p2 5 (by decide) (by decide),obz]
  have tl : ((([] : List Int).length : Nat) : Int) = 0 := rfl
  by_cases c0 : p2 % 5 = 0
  · obtain ⟨q1,q2,q3,q4⟩ := none_end (⟨s.ID,s.Parties,s.Arcs,s.Leaders,s.Locks,s.Start,(0 : Int)⟩ : S_api_Spec) (fun h => absurd h.delta.1 (by show ¬ (1 : Int) ≤ 0; decide)) ⟨hw.leads,hw.start,(show ok64 0 = true by decide)⟩ p3
    rw [if_pos c0,q1,obz,if_pos rfl,q2,obz,if_pos rfl,q3,obz,if_pos rfl,q4,obz,if_pos tl,awake6_f,obz]
  rw [if_neg c0]
  by_cases c1 : p2 % 5 = 1
  · obtain ⟨q1,q2,q3,q4⟩ := none_end (⟨s.ID,s.Parties,s.Arcs,s.Leaders,s.Locks,(-1 : Int),s.Delta⟩ : S_api_Spec) (fun h => absurd h.start.1 (by show ¬ (0 : Int) ≤ -1; decide)) ⟨hw.leads,(show ok64 (-1) = true by decide),hw.delta⟩ p3
    rw [if_pos c1,q1,obz,if_pos rfl,q2,obz,if_pos rfl,q3,obz,if_pos rfl,q4,obz,if_pos tl,awake6_f,obz]
  rw [if_neg c1]
  by_cases c2 : p2 % 5 = 2
  · obtain ⟨q1,q2,q3,q4⟩ := none_end (⟨(⟨#[]⟩ : ByteArray),s.Parties,s.Arcs,s.Leaders,s.Locks,s.Start,s.Delta⟩ : S_api_Spec) (fun h => absurd h.id (by show ¬ okName ⟨#[]⟩ = true; decide)) ⟨hw.leads,hw.start,hw.delta⟩ p3
    rw [if_pos c2,q1,obz,if_pos rfl,q2,obz,if_pos rfl,q3,obz,if_pos rfl,q4,obz,if_pos tl,awake6_f,obz]
  rw [if_neg c2]
  by_cases c3 : p2 % 5 = 3
  · obtain ⟨q1,q2,q3,q4⟩ := none_end (⟨s.ID,s.Parties,[],s.Leaders,s.Locks,s.Start,s.Delta⟩ : S_api_Spec) (fun h => absurd h.na.1 (by show ¬ 1 ≤ 0; decide)) ⟨hw.leads,hw.start,hw.delta⟩ p3
    rw [if_pos c3,q1,obz,if_pos rfl,q2,obz,if_pos rfl,q3,obz,if_pos rfl,q4,obz,if_pos tl,awake6_f,obz]
  rw [if_neg c3]
  obtain ⟨q1,q2,q3,q4⟩ := none_end (⟨s.ID,s.Parties,s.Arcs,s.Leaders,s.Locks,s.Start,(1048577 : Int)⟩ : S_api_Spec) (fun h => absurd h.delta.2 (by show ¬ (1048577 : Int) ≤ 1048576; decide)) ⟨hw.leads,hw.start,(show ok64 1048577 = true by decide)⟩ p3
  rw [q1,obz,if_pos rfl,q2,obz,if_pos rfl,q3,obz,if_pos rfl,q4,obz,if_pos tl,awake6_f,obz]
theorem none_f (p1 p2 p3 : Int) : handsellaw06_WhenNone_f p1 p2 p3 = some true := by
  have a1 := Int.emod_nonneg p1 (show (5 : Int) ≠ 0 by decide)
  have a2 := Int.emod_lt_of_pos p1 (show (0 : Int) < 5 by decide)
  obtain ⟨n,hn⟩ : ∃ n : Nat,p1 % 5 = (n : Int) - 2 := ⟨(p1 % 5).toNat + 2,by omega⟩
  exact none_g (ringS n 5 6) (ring_ok n 5 6 (by omega) (by omega) (by decide) (by decide)) (ring_wf n 5 6 (by decide) (by decide)) n (rowsL_len 1 n 0) rfl rfl p1 p2 p3 hn (ring_f n 5 6 (by omega) (by omega))
theorem whenSteps_ok (a b c : Int) (_ : Arg.ok a) (_ : Arg.ok b) (_ : Arg.ok c) : Lw G F_handsellaw06_WhenSteps [enc a,enc b,enc c] := ⟨_,handsellaw06_WhenSteps_f_s a b c true (steps_f a b c) ⟨[],0⟩ (Nat.le_refl _)⟩
theorem whenNone_ok (a b c : Int) (_ : Arg.ok a) (_ : Arg.ok b) (_ : Arg.ok c) : Lw G F_handsellaw06_WhenNone [enc a,enc b,enc c] := ⟨_,handsellaw06_WhenNone_f_s a b c true (none_f a b c) ⟨[],0⟩ (Nat.le_refl _)⟩
end Go.Proofs.Ytdcfoaafkppojaa
