/- No two alike: spec.once's instances, printed by a program of ours. -/
import Derived.Test.YtdcfoaafkppojaaOnce0
import Derived.WideKeyPair
set_option linter.unusedVariables false
set_option linter.unusedSimpArgs false
set_option linter.unusedSectionVars false
namespace Go.Proofs.Ytdcfoaafkppojaa
open Go Go.RowKit Sh
namespace Ic
def ok64 (n : Int) : Bool := decide (-9223372036854775808 ≤ n) && decide (n ≤ 9223372036854775807)
def keyS : TV → Option ByteArray
  | .str s => if s.size ≤ 140737488355328 then some s else none
  | _ => none
def keyI : TV → Option Int
  | .int .i64 n => if ok64 n then some n else none
  | _ => none
def keyA : TV → Option (Int × Int)
  | .agg [.int .i64 a,.int .i64 b] => if ok64 a && ok64 b then some (a,b) else none
  | _ => none
def valS (s : ByteArray) : Value := .string s
def valI (n : Int) : Value := .int .i64 n
def valA (p : Int × Int) : Value := .agg #[.int .i64 p.1,.int .i64 p.2]
def cellsS (s : ByteArray) : List TV := [.str s]
def cellsI (n : Int) : List TV := [.int .i64 n]
def cellsA (p : Int × Int) : List TV := [.int .i64 p.1,.int .i64 p.2]
theorem keyS_inv {v : TV} {s : ByteArray} (h : keyS v = some s) : v = .str s ∧ s.size ≤ 140737488355328 := by
  unfold keyS at h
  split at h
  · split at h
    · rename_i hs; injection h with h; subst h; exact ⟨rfl,hs⟩
    · cases h
  · cases h
theorem keyI_inv {v : TV} {n : Int} (h : keyI v = some n) : v = .int .i64 n ∧ ok64 n = true := by
  unfold keyI at h
  split at h
  · split at h
    · rename_i hs; injection h with h; subst h; exact ⟨rfl,hs⟩
    · cases h
  · cases h
theorem keyA_inv {v : TV} {p : Int × Int} (h : keyA v = some p) : v = .agg [.int .i64 p.1,.int .i64 p.2] ∧ (ok64 p.1 && ok64 p.2) = true := by
  unfold keyA at h
  split at h
  · split at h
    · rename_i hs; injection h with h; subst h; exact ⟨rfl,hs⟩
    · cases h
  · cases h
def mapK {α : Type} (key : TV → Option α) : List TV → Option (List α)
  | [] => some []
  | v :: r => match key v,mapK key r with
    | some a,some l => some (a :: l)
    | _,_ => none
theorem mapK_inv {α : Type} {key : TV → Option α} : ∀ {l : List TV} {ks : List α},mapK key l = some ks → l.length = ks.length ∧ ∀ i (h : i < ks.length),key (l.getD i .undef) = some ks[i]
  | [],ks,h => by injection h with h; subst h; exact ⟨rfl,fun i h => by cases h⟩
  | v :: r,ks,h => by
    simp only [mapK] at h
    split at h
    · rename_i a l ha hl
      injection h with h; subst h
      obtain ⟨h1,h2⟩ := mapK_inv hl
      refine ⟨by simp [h1],fun i hi => ?_⟩
      cases i with
      | zero => exact ha
      | succ i => exact h2 i (Nat.lt_of_succ_lt_succ hi)
    · cases h
theorem mapK_map {α β : Type} {key : TV → Option α} {f : β → TV} {g : β → α} : ∀ (l : List β),(∀ b ∈ l,key (f b) = some (g b)) → mapK key (l.map f) = some (l.map g)
  | [],_ => rfl
  | b :: r,h => by
    simp only [List.map_cons,mapK,h b (by simp),mapK_map r fun c hc => h c (by simp [hc])]
def onceP {α : Type} [DecidableEq α] (key : TV → Option α) (args : List TV) (τ : TH) : Option (TV × TH) :=
  match args with
  | [v] => match v.list with
    | some l => if l.length ≤ 140737488355328 then (mapK key l).map fun ks => (.bool (decide ks.Nodup),τ) else none
    | none => none
  | _ => none
def onceS := onceP keyS
def onceI := onceP keyI
def onceA := onceP keyA
theorem wf64 {n : Int} (h : ok64 n = true) : (Lit.int .i64 n).wf = true := by
  unfold ok64 at h
  simp only [Bool.and_eq_true,decide_eq_true_eq] at h
  obtain ⟨h1,h2⟩ := h
  simp only [Lit.wf,IntKind.min,IntKind.max,IntKind.signed,IntKind.bits]
  simp
  omega
theorem keyed_S : Maps.Keyed Try.prog T_string := Maps.string_keyed (by kernel_rfl)
theorem has_S (s : ByteArray) (h : s.size ≤ 140737488355328) : flatK (valS s) = true ∧ ∃ x,keyOf Try.prog T_string (valS s) = some x := by
  have hu : Try.prog.underlying T_string = some .string := by kernel_rfl
  refine ⟨rfl,.string s.data.toList,?_⟩
  simp only [keyOf,hu,mapKey,valS]
  rw [if_pos (by unfold maxLen; omega)]
theorem once_S_go {σ : Heap} {w0 : Value} {ks : List ByteArray} (hlen : ks.length ≤ 9223372036854775806) (hw : ∃ a s,w0 = .slice a ks.length s) (hk : ∀ a ∈ ks,flatK (valS a) = true ∧ ∃ x,keyOf Try.prog T_string (valS a) = some x) (hinj : ∀ a b : ByteArray,valS a = valS b → a = b)
    (hrow : ks ≠ [] → ∃ g o,w0 = .slice (some ⟨g,o,none⟩) ks.length 1 ∧ ∀ i (h : i < ks.length),σ.load g (o + i * 1) = some (valS ks[i]))
    (Post : Value → Heap → Prop) (hP : ∀ σ',σ.le σ' → Post (.bool (decide ks.Nodup)) σ') : CallOK Try.prog F_spec_once_string [w0] σ Post := by
  refine callOK_fn c_spec_once_string (by simp) ?_
  obtain ⟨a0,s0,hw0⟩ := hw
  simp only [tc_spec_once_string,o_spec_once_string_0,o_spec_once_string_1,o_spec_once_string_2,o_spec_once_string_9,TC.erase,List.map_cons,List.map_nil,evC,evL,evIns,evI,thenK,blockK,t,ci,evO,argFr,Fr.put,List.getD_cons_zero,reduceIte,Option.some.injEq,Nat.reduceEqDiff,reduceCtorEq,hw0,kSlN]
  refine swpI_loop (fun (i : Nat) fr σ' => i ≤ ks.length ∧ fr 3 = .map (some σ.next) ∧ fr 7 = w0 ∧ fr 8 = .int .i64 ks.length ∧ fr 9 = .int .i64 ((ks.length - i : Nat) : Int) ∧ (σ.le σ' ∧ σ.next < σ'.next ∧ σ'.at σ.next = .map (seen valS (ks.take (ks.length - i)))) ∧ (ks.take (ks.length - i)).Nodup) id ks.length ⟨Nat.le_refl _,?_⟩ ?_
  · refine ⟨rfl,hw0.symm,rfl,?_,?_,?_⟩
    · rw [Nat.sub_self]; rfl
    · rw [Nat.sub_self]; exact ⟨σ.le_push _,Nat.lt_succ_self _,σ.at_push_new _⟩
    · rw [Nat.sub_self]; simp
  rintro i fr σ' ⟨hi,f3,f7,f8,f9,⟨hle,hnx,hat⟩,hnd⟩
  have hlt0 : ks.length - i ≤ ks.length := Nat.sub_le _ _
  simp only [l_spec_once_string_1,o_spec_once_string_3,o_spec_once_string_4,o_spec_once_string_5,o_spec_once_string_6,o_spec_once_string_7,o_spec_once_string_8,TC.erase,List.map_cons,List.map_nil,evC,evL,evIns,evI,thenK,blockK,t,ci,evO,Fr.put,reduceIte,Option.some.injEq,Nat.reduceEqDiff,reduceCtorEq,f3,f7,f8,f9,vbin,ibin,kOpt,kBool,kInt]
  by_cases h0 : i = 0
  · subst h0
    rw [Nat.sub_zero,List.take_length] at hnd
    have c : decide (((ks.length - 0 : Nat) : Int) < (ks.length : Int)) = false := by simp
    rw [c]
    refine ⟨fun h => (nomatch h),fun _ => ?_⟩
    simp only [bodyK,resK,resOne,kOpt,Fr.put,reduceIte]
    have := hP σ' hle
    rw [show decide ks.Nodup = true from decide_eq_true hnd] at this
    exact this
  · have hj : ks.length - i < ks.length := by omega
    have c : decide (((ks.length - i : Nat) : Int) < (ks.length : Int)) = true := decide_eq_true (by omega)
    rw [c]
    refine ⟨fun _ => ?_,fun h => (nomatch h)⟩
    obtain ⟨g,o,hw1,hcell⟩ := hrow (fun h => by rw [h] at hj; cases hj)
    have hc := hcell _ hj
    generalize hJ : ks.length - i = j at *
    have hgl : g < σ.next := by
      refine Heap.lt_of_at ?_
      unfold Heap.load at hc
      cases hq : σ.at g with
      | dead => rw [hq] at hc; cases hc
      | map es => rw [hq] at hc; cases hc
      | cells t cs md => rfl
    have hc2 : σ'.load g (o + j * 1) = some (valS ks[j]) := by
      unfold Heap.load at hc ⊢
      rw [hle.at_ hgl]
      exact hc
    have hkk : ∀ b,b ∈ ks[j] :: ks.take j → flatK (valS b) = true ∧ ∃ x,keyOf Try.prog T_string (valS b) = some x := fun b hb => by
      rcases List.mem_cons.1 hb with rfl | hb
      · exact hk _ (List.getElem_mem _)
      · exact hk _ (List.mem_of_mem_take hb)
    have w1 : IntKind.i64.wrap ((j : Int) + 1) = ((j + 1 : Nat) : Int) := by rw [IntKind.wrap_i64]; omega
    simp only [hw1,kSl]
    refine ⟨⟨by omega,by omega⟩,?_⟩
    simp only [Int.toNat_natCast,kPtr,hc2,kOpt]
    refine ⟨_,seen_row (kv := valS) (a := ks[j]) hat keyed_S rfl hkk,fun e1 he1 hq => ?_,fun hno => ?_⟩
    · obtain ⟨b,hb,rfl⟩ := List.mem_map.1 he1
      have hab := hinj _ _ hq
      subst hab
      refine ⟨fun _ => ?_,fun h => (nomatch h)⟩
      simp only [bodyK,resK,resOne,kOpt,Fr.put,reduceIte,Option.some.injEq,Nat.reduceEqDiff,reduceCtorEq]
      have hnn : ¬ ks.Nodup := fun hd => by
        have := (List.Sublist.nodup (List.take_sublist (j + 1) ks) hd)
        exact ((take_succ_nodup hj).1 this).2 hb
      have := hP σ' hle
      rw [show decide ks.Nodup = false from decide_eq_false hnn] at this
      exact this
    · refine ⟨fun h => (nomatch h),fun _ => ?_⟩
      skip
      refine ⟨_,σ.next,seen_row (kv := valS) (a := ks[j]) hat keyed_S rfl hkk,rfl,hno,?_⟩
      have hni : ks[j] ∉ ks.take j := fun hm => hno _ (List.mem_map.2 ⟨_,hm,rfl⟩) rfl
      refine ⟨i - 1,by simp only [id]; omega,by omega,?_⟩
      refine ⟨trivial,trivial,trivial,?_,?_,?_⟩
      · rw [w1]; congr 2; omega
      · have e1 : ks.length - (i - 1) = j + 1 := by omega
        rw [e1,List.take_succ_eq_append_getElem hj]
        simp only [seen,List.map_append,List.map_cons,List.map_nil]
        exact set_le _ hle hnx
      · have e1 : ks.length - (i - 1) = j + 1 := by omega
        rw [e1]
        exact (take_succ_nodup hj).2 ⟨hnd,hni⟩
theorem onceS_spec_once_string_ok : ∀ args τ r τ',onceS args τ = some (r,τ') → CallT Try.prog F_spec_once_string args τ r τ' := by
  intro args τ r τ' h σ e ws hr hnt hlen hargs
  unfold onceS onceP at h
  split at h
  · rename_i v
    split at h
    · rename_i l hl
      by_cases hbound : l.length ≤ 140737488355328
      rotate_left
      · rw [if_neg hbound] at h; cases h
      rw [if_pos hbound] at h
      obtain ⟨ks,has,he⟩ := Option.map_eq_some_iff.1 h
      simp only [Prod.mk.injEq] at he
      obtain ⟨rfl,rfl⟩ := he
      obtain ⟨w0,rfl⟩ : ∃ w0,ws = [w0] := List.length_eq_one_iff.1 (by simpa using hlen.symm)
      have ht := hargs 0 (by simp)
      simp only [List.getD_cons_zero] at ht
      have hp := tr_list hl ht
      obtain ⟨m1,m2⟩ := mapK_inv has
      have hkey : ∀ a ∈ ks,flatK (valS a) = true ∧ ∃ x,keyOf Try.prog T_string (valS a) = some x := fun a ha => by
        obtain ⟨i,hi,rfl⟩ := List.mem_iff_getElem.1 ha
        exact has_S _ (keyS_inv (m2 i hi)).2
      refine once_S_go ?_ ?_ hkey (fun a b hab => ?_) (fun hne => ?_) _ fun σ' hle => ⟨e,aft_le hr hnt hle,.pr (.bool _)⟩
      · rw [← m1]; omega
      · rw [← m1]; exact pr_sl_len hp
      · injection hab
      · have hne' : l ≠ [] := fun h0 => hne (List.eq_nil_of_length_eq_zero (by rw [← m1,h0]; rfl))
        obtain ⟨g,o,s,t',cs,md,q0,q1,q2,q3,q4,q5,q6⟩ := pr_sl_ne hne' hp
        have h00 : 0 < l.length := by cases l with | nil => exact absurd rfl hne' | cons => simp
        have hs : s = 1 := by
          rw [← q4 0 h00,(keyS_inv (m2 0 (by omega))).1]; rfl
        subst hs
        refine ⟨g,o,by rw [q6,m1],fun i hi => ?_⟩
        have hi' : i < l.length := by omega
        have hle : (i + 1) * 1 ≤ l.length * 1 := Nat.mul_le_mul_right _ hi'
        have := q5 i hi' 0 (by omega)
        rw [(keyS_inv (m2 i hi)).1] at this
        have hlt : o + i * 1 < cs.length := by omega
        unfold Heap.load
        rw [q1]
        simp only
        rw [get_getD undef hlt]
        rw [Nat.add_zero] at this
        generalize cs.getD (o + i * 1) undef = c at this
        cases this
        rfl
    · cases h
  · cases h
theorem keyed_I : Maps.Keyed Try.prog T_int := Maps.int_keyed (q := .i64) (by kernel_rfl)
theorem has_I (n : Int) (h : ok64 n = true) : flatK (valI n) = true ∧ ∃ x,keyOf Try.prog T_int (valI n) = some x := by
  have hu : Try.prog.underlying T_int = some (.int .i64) := by kernel_rfl
  exact ⟨rfl,_,Maps.keyOf_int_mk hu (wf64 h)⟩
theorem once_I_go {σ : Heap} {w0 : Value} {ks : List Int} (hlen : ks.length ≤ 9223372036854775806) (hw : ∃ a s,w0 = .slice a ks.length s) (hk : ∀ a ∈ ks,flatK (valI a) = true ∧ ∃ x,keyOf Try.prog T_int (valI a) = some x) (hinj : ∀ a b : Int,valI a = valI b → a = b)
    (hrow : ks ≠ [] → ∃ g o,w0 = .slice (some ⟨g,o,none⟩) ks.length 1 ∧ ∀ i (h : i < ks.length),σ.load g (o + i * 1) = some (valI ks[i]))
    (Post : Value → Heap → Prop) (hP : ∀ σ',σ.le σ' → Post (.bool (decide ks.Nodup)) σ') : CallOK Try.prog F_spec_once_int [w0] σ Post := by
  refine callOK_fn c_spec_once_int (by simp) ?_
  obtain ⟨a0,s0,hw0⟩ := hw
  simp only [tc_spec_once_int,o_spec_once_int_0,o_spec_once_int_1,o_spec_once_int_2,o_spec_once_int_9,TC.erase,List.map_cons,List.map_nil,evC,evL,evIns,evI,thenK,blockK,t,ci,evO,argFr,Fr.put,List.getD_cons_zero,reduceIte,Option.some.injEq,Nat.reduceEqDiff,reduceCtorEq,hw0,kSlN]
  refine swpI_loop (fun (i : Nat) fr σ' => i ≤ ks.length ∧ fr 3 = .map (some σ.next) ∧ fr 7 = w0 ∧ fr 8 = .int .i64 ks.length ∧ fr 9 = .int .i64 ((ks.length - i : Nat) : Int) ∧ (σ.le σ' ∧ σ.next < σ'.next ∧ σ'.at σ.next = .map (seen valI (ks.take (ks.length - i)))) ∧ (ks.take (ks.length - i)).Nodup) id ks.length ⟨Nat.le_refl _,?_⟩ ?_
  · refine ⟨rfl,hw0.symm,rfl,?_,?_,?_⟩
    · rw [Nat.sub_self]; rfl
    · rw [Nat.sub_self]; exact ⟨σ.le_push _,Nat.lt_succ_self _,σ.at_push_new _⟩
    · rw [Nat.sub_self]; simp
  rintro i fr σ' ⟨hi,f3,f7,f8,f9,⟨hle,hnx,hat⟩,hnd⟩
  have hlt0 : ks.length - i ≤ ks.length := Nat.sub_le _ _
  simp only [l_spec_once_int_1,o_spec_once_int_3,o_spec_once_int_4,o_spec_once_int_5,o_spec_once_int_6,o_spec_once_int_7,o_spec_once_int_8,TC.erase,List.map_cons,List.map_nil,evC,evL,evIns,evI,thenK,blockK,t,ci,evO,Fr.put,reduceIte,Option.some.injEq,Nat.reduceEqDiff,reduceCtorEq,f3,f7,f8,f9,vbin,ibin,kOpt,kBool,kInt]
  by_cases h0 : i = 0
  · subst h0
    rw [Nat.sub_zero,List.take_length] at hnd
    have c : decide (((ks.length - 0 : Nat) : Int) < (ks.length : Int)) = false := by simp
    rw [c]
    refine ⟨fun h => (nomatch h),fun _ => ?_⟩
    simp only [bodyK,resK,resOne,kOpt,Fr.put,reduceIte]
    have := hP σ' hle
    rw [show decide ks.Nodup = true from decide_eq_true hnd] at this
    exact this
  · have hj : ks.length - i < ks.length := by omega
    have c : decide (((ks.length - i : Nat) : Int) < (ks.length : Int)) = true := decide_eq_true (by omega)
    rw [c]
    refine ⟨fun _ => ?_,fun h => (nomatch h)⟩
    obtain ⟨g,o,hw1,hcell⟩ := hrow (fun h => by rw [h] at hj; cases hj)
    have hc := hcell _ hj
    generalize hJ : ks.length - i = j at *
    have hgl : g < σ.next := by
      refine Heap.lt_of_at ?_
      unfold Heap.load at hc
      cases hq : σ.at g with
      | dead => rw [hq] at hc; cases hc
      | map es => rw [hq] at hc; cases hc
      | cells t cs md => rfl
    have hc2 : σ'.load g (o + j * 1) = some (valI ks[j]) := by
      unfold Heap.load at hc ⊢
      rw [hle.at_ hgl]
      exact hc
    have hkk : ∀ b,b ∈ ks[j] :: ks.take j → flatK (valI b) = true ∧ ∃ x,keyOf Try.prog T_int (valI b) = some x := fun b hb => by
      rcases List.mem_cons.1 hb with rfl | hb
      · exact hk _ (List.getElem_mem _)
      · exact hk _ (List.mem_of_mem_take hb)
    have w1 : IntKind.i64.wrap ((j : Int) + 1) = ((j + 1 : Nat) : Int) := by rw [IntKind.wrap_i64]; omega
    simp only [hw1,kSl]
    refine ⟨⟨by omega,by omega⟩,?_⟩
    simp only [Int.toNat_natCast,kPtr,hc2,kOpt]
    refine ⟨_,seen_row (kv := valI) (a := ks[j]) hat keyed_I rfl hkk,fun e1 he1 hq => ?_,fun hno => ?_⟩
    · obtain ⟨b,hb,rfl⟩ := List.mem_map.1 he1
      have hab := hinj _ _ hq
      subst hab
      refine ⟨fun _ => ?_,fun h => (nomatch h)⟩
      simp only [bodyK,resK,resOne,kOpt,Fr.put,reduceIte,Option.some.injEq,Nat.reduceEqDiff,reduceCtorEq]
      have hnn : ¬ ks.Nodup := fun hd => by
        have := (List.Sublist.nodup (List.take_sublist (j + 1) ks) hd)
        exact ((take_succ_nodup hj).1 this).2 hb
      have := hP σ' hle
      rw [show decide ks.Nodup = false from decide_eq_false hnn] at this
      exact this
    · refine ⟨fun h => (nomatch h),fun _ => ?_⟩
      skip
      refine ⟨_,σ.next,seen_row (kv := valI) (a := ks[j]) hat keyed_I rfl hkk,rfl,hno,?_⟩
      have hni : ks[j] ∉ ks.take j := fun hm => hno _ (List.mem_map.2 ⟨_,hm,rfl⟩) rfl
      refine ⟨i - 1,by simp only [id]; omega,by omega,?_⟩
      refine ⟨trivial,trivial,trivial,?_,?_,?_⟩
      · rw [w1]; congr 2; omega
      · have e1 : ks.length - (i - 1) = j + 1 := by omega
        rw [e1,List.take_succ_eq_append_getElem hj]
        simp only [seen,List.map_append,List.map_cons,List.map_nil]
        exact set_le _ hle hnx
      · have e1 : ks.length - (i - 1) = j + 1 := by omega
        rw [e1]
        exact (take_succ_nodup hj).2 ⟨hnd,hni⟩
theorem onceI_spec_once_int_ok : ∀ args τ r τ',onceI args τ = some (r,τ') → CallT Try.prog F_spec_once_int args τ r τ' := by
  intro args τ r τ' h σ e ws hr hnt hlen hargs
  unfold onceI onceP at h
  split at h
  · rename_i v
    split at h
    · rename_i l hl
      by_cases hbound : l.length ≤ 140737488355328
      rotate_left
      · rw [if_neg hbound] at h; cases h
      rw [if_pos hbound] at h
      obtain ⟨ks,has,he⟩ := Option.map_eq_some_iff.1 h
      simp only [Prod.mk.injEq] at he
      obtain ⟨rfl,rfl⟩ := he
      obtain ⟨w0,rfl⟩ : ∃ w0,ws = [w0] := List.length_eq_one_iff.1 (by simpa using hlen.symm)
      have ht := hargs 0 (by simp)
      simp only [List.getD_cons_zero] at ht
      have hp := tr_list hl ht
      obtain ⟨m1,m2⟩ := mapK_inv has
      have hkey : ∀ a ∈ ks,flatK (valI a) = true ∧ ∃ x,keyOf Try.prog T_int (valI a) = some x := fun a ha => by
        obtain ⟨i,hi,rfl⟩ := List.mem_iff_getElem.1 ha
        exact has_I _ (keyI_inv (m2 i hi)).2
      refine once_I_go ?_ ?_ hkey (fun a b hab => ?_) (fun hne => ?_) _ fun σ' hle => ⟨e,aft_le hr hnt hle,.pr (.bool _)⟩
      · rw [← m1]; omega
      · rw [← m1]; exact pr_sl_len hp
      · injection hab
      · have hne' : l ≠ [] := fun h0 => hne (List.eq_nil_of_length_eq_zero (by rw [← m1,h0]; rfl))
        obtain ⟨g,o,s,t',cs,md,q0,q1,q2,q3,q4,q5,q6⟩ := pr_sl_ne hne' hp
        have h00 : 0 < l.length := by cases l with | nil => exact absurd rfl hne' | cons => simp
        have hs : s = 1 := by
          rw [← q4 0 h00,(keyI_inv (m2 0 (by omega))).1]; rfl
        subst hs
        refine ⟨g,o,by rw [q6,m1],fun i hi => ?_⟩
        have hi' : i < l.length := by omega
        have hle : (i + 1) * 1 ≤ l.length * 1 := Nat.mul_le_mul_right _ hi'
        have := q5 i hi' 0 (by omega)
        rw [(keyI_inv (m2 i hi)).1] at this
        have hlt : o + i * 1 < cs.length := by omega
        unfold Heap.load
        rw [q1]
        simp only
        rw [get_getD undef hlt]
        rw [Nat.add_zero] at this
        generalize cs.getD (o + i * 1) undef = c at this
        cases this
        rfl
    · cases h
  · cases h
theorem arr_A : WideMaps.ArrKey Try.prog T_2_int T_int 2 := ⟨by kernel_rfl,by kernel_rfl,by kernel_rfl,by kernel_rfl⟩
theorem keyed_A : Maps.Keyed Try.prog T_2_int := Maps.Keyed.of_law arr_A.law
theorem has_A (p : Int × Int) (h : (ok64 p.1 && ok64 p.2) = true) : flatK (valA p) = true ∧ ∃ x,keyOf Try.prog T_2_int (valA p) = some x := by
  simp only [Bool.and_eq_true] at h
  have hu : Try.prog.underlying T_int = some (.int .i64) := by kernel_rfl
  exact ⟨rfl,_,WideMaps.keyOf_pair arr_A hu ⟨Try.prog.types.size - 1,by kernel_rfl⟩ (wf64 h.1) (wf64 h.2)⟩
theorem once_A_go {σ : Heap} {w0 : Value} {ks : List (Int × Int)} (hlen : ks.length ≤ 9223372036854775806) (hw : ∃ a s,w0 = .slice a ks.length s) (hk : ∀ a ∈ ks,flatK (valA a) = true ∧ ∃ x,keyOf Try.prog T_2_int (valA a) = some x) (hinj : ∀ a b : (Int × Int),valA a = valA b → a = b)
    (hrow : ks ≠ [] → ∃ g o,w0 = .slice (some ⟨g,o,none⟩) ks.length 2 ∧ ∀ i (h : i < ks.length),σ.row g (o + i * 2) 2 = some [.int .i64 ks[i].1,.int .i64 ks[i].2])
    (Post : Value → Heap → Prop) (hP : ∀ σ',σ.le σ' → Post (.bool (decide ks.Nodup)) σ') : CallOK Try.prog F_spec_once_2_int [w0] σ Post := by
  refine callOK_fn c_spec_once_2_int (by simp) ?_
  obtain ⟨a0,s0,hw0⟩ := hw
  simp only [tc_spec_once_2_int,o_spec_once_2_int_0,o_spec_once_2_int_1,o_spec_once_2_int_2,o_spec_once_2_int_9,TC.erase,List.map_cons,List.map_nil,evC,evL,evIns,evI,thenK,blockK,t,ci,evO,argFr,Fr.put,List.getD_cons_zero,reduceIte,Option.some.injEq,Nat.reduceEqDiff,reduceCtorEq,hw0,kSlN]
  refine swpI_loop (fun (i : Nat) fr σ' => i ≤ ks.length ∧ fr 3 = .map (some σ.next) ∧ fr 7 = w0 ∧ fr 8 = .int .i64 ks.length ∧ fr 9 = .int .i64 ((ks.length - i : Nat) : Int) ∧ (σ.le σ' ∧ σ.next < σ'.next ∧ σ'.at σ.next = .map (seen valA (ks.take (ks.length - i)))) ∧ (ks.take (ks.length - i)).Nodup) id ks.length ⟨Nat.le_refl _,?_⟩ ?_
  · refine ⟨rfl,hw0.symm,rfl,?_,?_,?_⟩
    · rw [Nat.sub_self]; rfl
    · rw [Nat.sub_self]; exact ⟨σ.le_push _,Nat.lt_succ_self _,σ.at_push_new _⟩
    · rw [Nat.sub_self]; simp
  rintro i fr σ' ⟨hi,f3,f7,f8,f9,⟨hle,hnx,hat⟩,hnd⟩
  have hlt0 : ks.length - i ≤ ks.length := Nat.sub_le _ _
  simp only [l_spec_once_2_int_1,o_spec_once_2_int_3,o_spec_once_2_int_4,o_spec_once_2_int_5,o_spec_once_2_int_6,o_spec_once_2_int_7,o_spec_once_2_int_8,TC.erase,List.map_cons,List.map_nil,evC,evL,evIns,evI,thenK,blockK,t,ci,evO,Fr.put,reduceIte,Option.some.injEq,Nat.reduceEqDiff,reduceCtorEq,f3,f7,f8,f9,vbin,ibin,kOpt,kBool,kInt]
  by_cases h0 : i = 0
  · subst h0
    rw [Nat.sub_zero,List.take_length] at hnd
    have c : decide (((ks.length - 0 : Nat) : Int) < (ks.length : Int)) = false := by simp
    rw [c]
    refine ⟨fun h => (nomatch h),fun _ => ?_⟩
    simp only [bodyK,resK,resOne,kOpt,Fr.put,reduceIte]
    have := hP σ' hle
    rw [show decide ks.Nodup = true from decide_eq_true hnd] at this
    exact this
  · have hj : ks.length - i < ks.length := by omega
    have c : decide (((ks.length - i : Nat) : Int) < (ks.length : Int)) = true := decide_eq_true (by omega)
    rw [c]
    refine ⟨fun _ => ?_,fun h => (nomatch h)⟩
    obtain ⟨g,o,hw1,hcell⟩ := hrow (fun h => by rw [h] at hj; cases hj)
    have hc := hcell _ hj
    generalize hJ : ks.length - i = j at *
    have hgl : g < σ.next := by
      refine Heap.lt_of_at ?_
      unfold Heap.row at hc
      cases hq : σ.at g with
      | dead => rw [hq] at hc; cases hc
      | map es => rw [hq] at hc; cases hc
      | cells t cs md => rfl
    have hc2 : σ'.row g (o + j * 2) 2 = some [.int .i64 ks[j].1,.int .i64 ks[j].2] := by
      unfold Heap.row at hc ⊢
      rw [hle.at_ hgl]
      exact hc
    have hkk : ∀ b,b ∈ ks[j] :: ks.take j → flatK (valA b) = true ∧ ∃ x,keyOf Try.prog T_2_int (valA b) = some x := fun b hb => by
      rcases List.mem_cons.1 hb with rfl | hb
      · exact hk _ (List.getElem_mem _)
      · exact hk _ (List.mem_of_mem_take hb)
    have w1 : IntKind.i64.wrap ((j : Int) + 1) = ((j + 1 : Nat) : Int) := by rw [IntKind.wrap_i64]; omega
    simp only [hw1,kSl]
    refine ⟨⟨by omega,by omega⟩,?_⟩
    simp only [Int.toNat_natCast,kPtr,hc2,kOpt]
    refine ⟨fun k hk => ?_,?_⟩
    · have : k < 2 := hk
      match k,this with
      | 0,_ => rfl
      | 1,_ => rfl
    have hst := store_cells (σ := σ'.push (.cells T_2_int [.int .i64 0,.int .i64 0] .rw)) (g := σ'.next) (t := T_2_int) [.int .i64 ks[j].1,.int .i64 ks[j].2] [.int .i64 0,.int .i64 0] 0 (σ'.at_push_new _) (by simp) (fun v hv => by
      simp only [List.mem_cons,List.not_mem_nil,or_false] at hv
      rcases hv with rfl | rfl <;> rfl) (by simp)
    refine ⟨rfl,?_⟩
    generalize hs2 : (σ'.push (.cells T_2_int [.int .i64 0,.int .i64 0] .rw)).set σ'.next (.cells T_2_int (setCells [.int .i64 0,.int .i64 0] 0 [.int .i64 ks[j].1,.int .i64 ks[j].2]) .rw) = σ2 at hst
    have hst' : (σ'.push (.cells T_2_int (Value.agg { toList := [.int .i64 0,.int .i64 0] }).cells.toList .rw)).store σ'.next 0 (Value.agg { toList := [.int .i64 ks[j].1,.int .i64 ks[j].2] }).cells.toList = some σ2 := hst
    rw [hst']
    have le2 : σ'.le σ2 := by
      rw [← hs2]
      exact ⟨Nat.le_succ _,fun i hi => by rw [blk_set (Nat.ne_of_lt hi),blk_push hi]⟩
    have hle2 : σ.le σ2 := hle.trans le2
    have hnx2 : σ.next < σ2.next := Nat.lt_of_lt_of_le hnx le2.next
    have hat2 : σ2.at σ.next = .map (seen valA (ks.take j)) := by rw [le2.at_ hnx]; exact hat
    have hrw : σ2.row σ'.next 0 2 = some [.int .i64 ks[j].1,.int .i64 ks[j].2] := by
      have : σ2.at σ'.next = .cells T_2_int [.int .i64 ks[j].1,.int .i64 ks[j].2] .rw := by
        rw [← hs2]; exact Heap.at_set_same _ _ (Nat.lt_succ_self _)
      rw [row_of_at this (by simp)]; rfl
    simp only [hrw]
    refine ⟨_,seen_row (kv := valA) (a := ks[j]) hat2 keyed_A rfl hkk,fun e1 he1 hq => ?_,fun hno => ?_⟩
    · obtain ⟨b,hb,rfl⟩ := List.mem_map.1 he1
      have hab := hinj _ _ hq
      subst hab
      refine ⟨fun _ => ?_,fun h => (nomatch h)⟩
      simp only [bodyK,resK,resOne,kOpt,Fr.put,reduceIte,Option.some.injEq,Nat.reduceEqDiff,reduceCtorEq]
      have hnn : ¬ ks.Nodup := fun hd => by
        have := (List.Sublist.nodup (List.take_sublist (j + 1) ks) hd)
        exact ((take_succ_nodup hj).1 this).2 hb
      have := hP σ2 hle2
      rw [show decide ks.Nodup = false from decide_eq_false hnn] at this
      exact this
    · refine ⟨fun h => (nomatch h),fun _ => ?_⟩
      skip
      refine ⟨_,σ.next,seen_row (kv := valA) (a := ks[j]) hat2 keyed_A rfl hkk,rfl,hno,?_⟩
      have hni : ks[j] ∉ ks.take j := fun hm => hno _ (List.mem_map.2 ⟨_,hm,rfl⟩) rfl
      refine ⟨i - 1,by simp only [id]; omega,by omega,?_⟩
      refine ⟨trivial,trivial,trivial,?_,?_,?_⟩
      · rw [w1]; congr 2; omega
      · have e1 : ks.length - (i - 1) = j + 1 := by omega
        rw [e1,List.take_succ_eq_append_getElem hj]
        simp only [seen,List.map_append,List.map_cons,List.map_nil]
        exact set_le _ hle2 hnx2
      · have e1 : ks.length - (i - 1) = j + 1 := by omega
        rw [e1]
        exact (take_succ_nodup hj).2 ⟨hnd,hni⟩
theorem onceA_spec_once_2_int_ok : ∀ args τ r τ',onceA args τ = some (r,τ') → CallT Try.prog F_spec_once_2_int args τ r τ' := by
  intro args τ r τ' h σ e ws hr hnt hlen hargs
  unfold onceA onceP at h
  split at h
  · rename_i v
    split at h
    · rename_i l hl
      by_cases hbound : l.length ≤ 140737488355328
      rotate_left
      · rw [if_neg hbound] at h; cases h
      rw [if_pos hbound] at h
      obtain ⟨ks,has,he⟩ := Option.map_eq_some_iff.1 h
      simp only [Prod.mk.injEq] at he
      obtain ⟨rfl,rfl⟩ := he
      obtain ⟨w0,rfl⟩ : ∃ w0,ws = [w0] := List.length_eq_one_iff.1 (by simpa using hlen.symm)
      have ht := hargs 0 (by simp)
      simp only [List.getD_cons_zero] at ht
      have hp := tr_list hl ht
      obtain ⟨m1,m2⟩ := mapK_inv has
      have hkey : ∀ a ∈ ks,flatK (valA a) = true ∧ ∃ x,keyOf Try.prog T_2_int (valA a) = some x := fun a ha => by
        obtain ⟨i,hi,rfl⟩ := List.mem_iff_getElem.1 ha
        exact has_A _ (keyA_inv (m2 i hi)).2
      refine once_A_go ?_ ?_ hkey (fun a b hab => ?_) (fun hne => ?_) _ fun σ' hle => ⟨e,aft_le hr hnt hle,.pr (.bool _)⟩
      · rw [← m1]; omega
      · rw [← m1]; exact pr_sl_len hp
      · simp only [valA,Value.agg.injEq,Array.mk.injEq,List.cons.injEq,Value.int.injEq,true_and,and_true] at hab; exact Prod.ext hab.1 hab.2
      · have hne' : l ≠ [] := fun h0 => hne (List.eq_nil_of_length_eq_zero (by rw [← m1,h0]; rfl))
        obtain ⟨g,o,s,t',cs,md,q0,q1,q2,q3,q4,q5,q6⟩ := pr_sl_ne hne' hp
        have h00 : 0 < l.length := by cases l with | nil => exact absurd rfl hne' | cons => simp
        have hs : s = 2 := by
          rw [← q4 0 h00,(keyA_inv (m2 0 (by omega))).1]; rfl
        subst hs
        refine ⟨g,o,by rw [q6,m1],fun i hi => ?_⟩
        have hi' : i < l.length := by omega
        have hle : (i + 1) * 2 ≤ l.length * 2 := Nat.mul_le_mul_right _ hi'
        have h0 := q5 i hi' 0 (by omega)
        have h1 := q5 i hi' 1 (by omega)
        rw [(keyA_inv (m2 i hi)).1] at h0 h1
        rw [row_of_at q1 (by omega)]
        have e1 : ((cs.drop (o + i * 2)).take 2).length = 2 := by simp; omega
        obtain ⟨c0,c1,hcc⟩ : ∃ c0 c1,(cs.drop (o + i * 2)).take 2 = [c0,c1] := by
          match hq : (cs.drop (o + i * 2)).take 2,e1 with
          | [a,b],_ => exact ⟨a,b,rfl⟩
        have g0 := drop_take_getD cs (o + i * 2) 2 0 undef (by omega)
        have g1 := drop_take_getD cs (o + i * 2) 2 1 undef (by omega)
        rw [hcc] at g0 g1 ⊢
        simp only [List.getD_cons_zero,List.getD_cons_succ] at g0 g1
        rw [← g0] at h0
        rw [← g1] at h1
        have h0 : PR σ (.int .i64 ks[i].1) c0 := h0
        have h1 : PR σ (.int .i64 ks[i].2) c1 := h1
        cases h0
        cases h1
        rfl
    · cases h
  · cases h
end Ic
end Go.Proofs.Ytdcfoaafkppojaa
