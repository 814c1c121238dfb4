/- No two alike: spec.once's instances, printed by a program of ours. -/
import Derived.Test.YtdcfoaafkppojaaOnce0
import Derived.WideKeyPair
set_option linter.unusedVariables false
set_option linter.unusedSimpArgs false
set_option linter.unusedSectionVars false
namespace Go.Proofs.Ytdcfoaafkppojaa
open Go Go.RowKit Sh
namespace Ic
def zaos (n : Int) : Bool := decide (-9223372036854775808 ≤ n) && decide (n ≤ 9223372036854775807)
def keyS : TV → Option ByteArray
  | .str s => if s.size ≤ 140737488355328 then some s else none
  | _ => none
def keyI : TV → Option Int
  | .int .i64 n => if zaos n then some n else none
  | _ => none
def keyA : TV → Option (Int × Int)
  | .agg [.int .i64 a,.int .i64 b] => if zaos a && zaos b then some (a,b) else none
  | _ => none
def za06 (s : ByteArray) : Value := .string s
def za08 (n : Int) : Value := .int .i64 n
def za09 (p : Int × Int) : Value := .agg #[.int .i64 p.1,.int .i64 p.2]
def cellsS (s : ByteArray) : List TV := [.str s]
def cellsI (n : Int) : List TV := [.int .i64 n]
def cellsA (p : Int × Int) : List TV := [.int .i64 p.1,.int .i64 p.2]
theorem zau1 {v : TV} {s : ByteArray} (h : keyS v = some s) : v = .str s ∧ s.size ≤ 140737488355328 := by
  unfold keyS at h
  split at h
  · split at h
    · rename_i hs; injection h with h; subst h; exact ⟨rfl,hs⟩
    · cases h
  · cases h
theorem zau2 {v : TV} {n : Int} (h : keyI v = some n) : v = .int .i64 n ∧ zaos n = true := by
  unfold keyI at h
  split at h
  · split at h
    · rename_i hs; injection h with h; subst h; exact ⟨rfl,hs⟩
    · cases h
  · cases h
theorem zau3 {v : TV} {p : Int × Int} (h : keyA v = some p) : v = .agg [.int .i64 p.1,.int .i64 p.2] ∧ (zaos p.1 && zaos p.2) = true := by
  unfold keyA at h
  split at h
  · split at h
    · rename_i hs; injection h with h; subst h; exact ⟨rfl,hs⟩
    · cases h
  · cases h
def mapK {α : Type} (key : TV → Option α) : List TV → Option (List α)
  | [] => some []
  | v :: r => match key v,mapK key r with
    | some a,some l => some (a :: l)
    | _,_ => none
theorem zaou {α : Type} {key : TV → Option α} : ∀ {l : List TV} {ks : List α},mapK key l = some ks → l.length = ks.length ∧ ∀ i (h : i < ks.length),key (l.getD i .undef) = some ks[i]
  | [],ks,h => by injection h with h; subst h; exact ⟨rfl,fun i h => by cases h⟩
  | v :: r,ks,h => by
    simp only [mapK] at h
    split at h
    · rename_i a l ha hl
      injection h with h; subst h
      obtain ⟨h1,h2⟩ := zaou hl
      refine ⟨by simp [h1],fun i hi => ?_⟩
      cases i with
      | zero => exact ha
      | succ i => exact h2 i (Nat.lt_of_succ_lt_succ hi)
    · cases h
theorem zaot {α β : Type} {key : TV → Option α} {f : β → TV} {g : β → α} : ∀ (l : List β),(∀ b ∈ l,key (f b) = some (g b)) → mapK key (l.map f) = some (l.map g)
  | [],_ => rfl
  | b :: r,h => by
    simp only [List.map_cons,mapK,h b (by simp),zaot r fun c hc => h c (by simp [hc])]
def zauz {α : Type} [DecidableEq α] (key : TV → Option α) (args : List TV) (τ : TH) : Option (TV × TH) :=
  match args with
  | [v] => match v.list with
    | some l => if l.length ≤ 140737488355328 then (mapK key l).map fun ks => (.bool (decide ks.Nodup),τ) else none
    | none => none
  | _ => none
def onceS := zauz keyS
def onceI := zauz keyI
def onceA := zauz keyA
theorem wf64 {n : Int} (h : zaos n = true) : (Lit.int .i64 n).wf = true := by
  unfold zaos at h
  simp only [Bool.and_eq_true,decide_eq_true_eq] at h
  obtain ⟨h1,h2⟩ := h
  simp only [Lit.wf,IntKind.min,IntKind.max,IntKind.signed,IntKind.bits]
  simp
  omega
theorem keyed_S : Maps.Keyed Try.prog ek := Maps.string_keyed (by kernel_rfl)
theorem has_S (s : ByteArray) (h : s.size ≤ 140737488355328) : zaey (za06 s) = true ∧ ∃ x,keyOf Try.prog ek (za06 s) = some x := by
  have hu : Try.prog.underlying ek = some .string := by kernel_rfl
  refine ⟨rfl,.string s.data.toList,?_⟩
  simp only [keyOf,hu,mapKey,za06]
  rw [if_pos (by unfold maxLen; omega)]
theorem once_S_go {σ : ak} {w0 : Value} {ks : List ByteArray} (hlen : ks.length ≤ 9223372036854775806) (hw : ∃ a s,w0 = .slice a ks.length s) (hk : ∀ a ∈ ks,zaey (za06 a) = true ∧ ∃ x,keyOf Try.prog ek (za06 a) = some x) (hinj : ∀ a b : ByteArray,za06 a = za06 b → a = b)
    (hrow : ks ≠ [] → ∃ g o,w0 = .slice (some ⟨g,o,none⟩) ks.length 1 ∧ ∀ i (h : i < ks.length),σ.load g (o + i * 1) = some (za06 ks[i]))
    (Post : Value → ak → Prop) (hP : ∀ σ',σ.le σ' → Post (.bool (decide ks.Nodup)) σ') : io Try.prog er [w0] σ Post := by
  refine zako zakr (by simp) ?_
  obtain ⟨a0,s0,hw0⟩ := hw
  simp only [j0,ol,oi,oh,n7,TC.erase,List.map_cons,List.map_nil,evC,evL,zavo,evI,zawq,zag2,t,ci,evO,zav3,Fr.put,List.getD_cons_zero,reduceIte,Option.some.injEq,Nat.reduceEqDiff,reduceCtorEq,hw0,kSlN]
  refine zaih (fun (i : Nat) fr σ' => i ≤ ks.length ∧ fr 3 = .map (some σ.next) ∧ fr 7 = w0 ∧ fr 8 = .int .i64 ks.length ∧ fr 9 = .int .i64 ((ks.length - i : Nat) : Int) ∧ (σ.le σ' ∧ σ.next < σ'.next ∧ σ'.at σ.next = .map (seen za06 (ks.take (ks.length - i)))) ∧ (ks.take (ks.length - i)).Nodup) id ks.length ⟨Nat.le_refl _,?_⟩ ?_
  · refine ⟨rfl,hw0.symm,rfl,?_,?_,?_⟩
    · rw [Nat.sub_self]; rfl
    · rw [Nat.sub_self]; exact ⟨σ.le_push _,Nat.lt_succ_self _,σ.at_push_new _⟩
    · rw [Nat.sub_self]; simp
  rintro i fr σ' ⟨hi,f3,f7,f8,f9,⟨hle,hnx,hat⟩,hnd⟩
  have hlt0 : ks.length - i ≤ ks.length := Nat.sub_le _ _
  simp only [ue,og,od,oc,oa,n9,n8,TC.erase,List.map_cons,List.map_nil,evC,evL,zavo,evI,zawq,zag2,t,ci,evO,Fr.put,reduceIte,Option.some.injEq,Nat.reduceEqDiff,reduceCtorEq,f3,f7,f8,f9,zi,zarz,ma,zahs,zk]
  by_cases h0 : i = 0
  · subst h0
    rw [Nat.sub_zero,List.take_length] at hnd
    have c : decide (((ks.length - 0 : Nat) : Int) < (ks.length : Int)) = false := by simp
    rw [c]
    refine ⟨fun h => (nomatch h),fun _ => ?_⟩
    simp only [za0e,za3p,ud,ma,Fr.put,reduceIte]
    have := hP σ' hle
    rw [show decide ks.Nodup = true from decide_eq_true hnd] at this
    exact this
  · have hj : ks.length - i < ks.length := by omega
    have c : decide (((ks.length - i : Nat) : Int) < (ks.length : Int)) = true := decide_eq_true (by omega)
    rw [c]
    refine ⟨fun _ => ?_,fun h => (nomatch h)⟩
    obtain ⟨g,o,hw1,hcell⟩ := hrow (fun h => by rw [h] at hj; cases hj)
    have hc := hcell _ hj
    generalize hJ : ks.length - i = j at *
    have hgl : g < σ.next := by
      refine ak.lt_of_at ?_
      unfold ak.load at hc
      cases hq : σ.at g with
      | dead => rw [hq] at hc; cases hc
      | map es => rw [hq] at hc; cases hc
      | cells t cs md => rfl
    have hc2 : σ'.load g (o + j * 1) = some (za06 ks[j]) := by
      unfold ak.load at hc ⊢
      rw [hle.at_ hgl]
      exact hc
    have hkk : ∀ b,b ∈ ks[j] :: ks.take j → zaey (za06 b) = true ∧ ∃ x,keyOf Try.prog ek (za06 b) = some x := fun b hb => by
      rcases List.mem_cons.1 hb with rfl | hb
      · exact hk _ (List.getElem_mem _)
      · exact hk _ (List.mem_of_mem_take hb)
    have w1 : IntKind.i64.wrap ((j : Int) + 1) = ((j + 1 : Nat) : Int) := by rw [IntKind.wrap_i64]; omega
    simp only [hw1,kSl]
    refine ⟨⟨by omega,by omega⟩,?_⟩
    simp only [Int.toNat_natCast,zab4,hc2,ma]
    refine ⟨_,zaeo (kv := za06) (a := ks[j]) hat keyed_S rfl hkk,fun e1 he1 hq => ?_,fun hno => ?_⟩
    · obtain ⟨b,hb,rfl⟩ := List.mem_map.1 he1
      have hab := hinj _ _ hq
      subst hab
      refine ⟨fun _ => ?_,fun h => (nomatch h)⟩
      simp only [za0e,za3p,ud,ma,Fr.put,reduceIte,Option.some.injEq,Nat.reduceEqDiff,reduceCtorEq]
      have hnn : ¬ ks.Nodup := fun hd => by
        have := (List.Sublist.nodup (List.take_sublist (j + 1) ks) hd)
        exact ((ju hj).1 this).2 hb
      have := hP σ' hle
      rw [show decide ks.Nodup = false from decide_eq_false hnn] at this
      exact this
    · refine ⟨fun h => (nomatch h),fun _ => ?_⟩
      skip
      refine ⟨_,σ.next,zaeo (kv := za06) (a := ks[j]) hat keyed_S rfl hkk,rfl,hno,?_⟩
      have hni : ks[j] ∉ ks.take j := fun hm => hno _ (List.mem_map.2 ⟨_,hm,rfl⟩) rfl
      refine ⟨i - 1,by simp only [id]; omega,by omega,?_⟩
      refine ⟨trivial,trivial,trivial,?_,?_,?_⟩
      · rw [w1]; congr 2; omega
      · have e1 : ks.length - (i - 1) = j + 1 := by omega
        rw [e1,List.take_succ_eq_append_getElem hj]
        simp only [seen,List.map_append,List.map_cons,List.map_nil]
        exact set_le _ hle hnx
      · have e1 : ks.length - (i - 1) = j + 1 := by omega
        rw [e1]
        exact (ju hj).2 ⟨hnd,hni⟩
theorem xn : ∀ args τ r τ',onceS args τ = some (r,τ') → za2z Try.prog er args τ r τ' := by
  intro args τ r τ' h σ e ws hr hnt hlen hargs
  unfold onceS zauz at h
  split at h
  · rename_i v
    split at h
    · rename_i l hl
      by_cases hbound : l.length ≤ 140737488355328
      rotate_left
      · rw [if_neg hbound] at h; cases h
      rw [if_pos hbound] at h
      obtain ⟨ks,has,he⟩ := Option.map_eq_some_iff.1 h
      simp only [Prod.mk.injEq] at he
      obtain ⟨rfl,rfl⟩ := he
      obtain ⟨w0,rfl⟩ : ∃ w0,ws = [w0] := List.length_eq_one_iff.1 (by simpa using hlen.symm)
      have ht := hargs 0 (by simp)
      simp only [List.getD_cons_zero] at ht
      have hp := pi hl ht
      obtain ⟨m1,m2⟩ := zaou has
      have hkey : ∀ a ∈ ks,zaey (za06 a) = true ∧ ∃ x,keyOf Try.prog ek (za06 a) = some x := fun a ha => by
        obtain ⟨i,hi,rfl⟩ := List.mem_iff_getElem.1 ha
        exact has_S _ (zau1 (m2 i hi)).2
      refine once_S_go ?_ ?_ hkey (fun a b hab => ?_) (fun hne => ?_) _ fun σ' hle => ⟨e,aft_le hr hnt hle,.pr (.bool _)⟩
      · rw [← m1]; omega
      · rw [← m1]; exact zack hp
      · injection hab
      · have hne' : l ≠ [] := fun h0 => hne (List.eq_nil_of_length_eq_zero (by rw [← m1,h0]; rfl))
        obtain ⟨g,o,s,t',cs,md,q0,q1,q2,q3,q4,q5,q6⟩ := rn hne' hp
        have h00 : 0 < l.length := by cases l with | nil => exact absurd rfl hne' | cons => simp
        have hs : s = 1 := by
          rw [← q4 0 h00,(zau1 (m2 0 (by omega))).1]; rfl
        subst hs
        refine ⟨g,o,by rw [q6,m1],fun i hi => ?_⟩
        have hi' : i < l.length := by omega
        have hle : (i + 1) * 1 ≤ l.length * 1 := Nat.mul_le_mul_right _ hi'
        have := q5 i hi' 0 (by omega)
        rw [(zau1 (m2 i hi)).1] at this
        have hlt : o + i * 1 < cs.length := by omega
        unfold ak.load
        rw [q1]
        simp only
        rw [zaki undef hlt]
        rw [Nat.add_zero] at this
        generalize cs.getD (o + i * 1) undef = c at this
        cases this
        rfl
    · cases h
  · cases h
theorem keyed_I : Maps.Keyed Try.prog ka := Maps.int_keyed (q := .i64) (by kernel_rfl)
theorem has_I (n : Int) (h : zaos n = true) : zaey (za08 n) = true ∧ ∃ x,keyOf Try.prog ka (za08 n) = some x := by
  have hu : Try.prog.underlying ka = some (.int .i64) := by kernel_rfl
  exact ⟨rfl,_,Maps.keyOf_int_mk hu (wf64 h)⟩
theorem once_I_go {σ : ak} {w0 : Value} {ks : List Int} (hlen : ks.length ≤ 9223372036854775806) (hw : ∃ a s,w0 = .slice a ks.length s) (hk : ∀ a ∈ ks,zaey (za08 a) = true ∧ ∃ x,keyOf Try.prog ka (za08 a) = some x) (hinj : ∀ a b : Int,za08 a = za08 b → a = b)
    (hrow : ks ≠ [] → ∃ g o,w0 = .slice (some ⟨g,o,none⟩) ks.length 1 ∧ ∀ i (h : i < ks.length),σ.load g (o + i * 1) = some (za08 ks[i]))
    (Post : Value → ak → Prop) (hP : ∀ σ',σ.le σ' → Post (.bool (decide ks.Nodup)) σ') : io Try.prog gx [w0] σ Post := by
  refine zako zarf (by simp) ?_
  obtain ⟨a0,s0,hw0⟩ := hw
  simp only [pb,sp,sn,sm,sc,TC.erase,List.map_cons,List.map_nil,evC,evL,zavo,evI,zawq,zag2,t,ci,evO,zav3,Fr.put,List.getD_cons_zero,reduceIte,Option.some.injEq,Nat.reduceEqDiff,reduceCtorEq,hw0,kSlN]
  refine zaih (fun (i : Nat) fr σ' => i ≤ ks.length ∧ fr 3 = .map (some σ.next) ∧ fr 7 = w0 ∧ fr 8 = .int .i64 ks.length ∧ fr 9 = .int .i64 ((ks.length - i : Nat) : Int) ∧ (σ.le σ' ∧ σ.next < σ'.next ∧ σ'.at σ.next = .map (seen za08 (ks.take (ks.length - i)))) ∧ (ks.take (ks.length - i)).Nodup) id ks.length ⟨Nat.le_refl _,?_⟩ ?_
  · refine ⟨rfl,hw0.symm,rfl,?_,?_,?_⟩
    · rw [Nat.sub_self]; rfl
    · rw [Nat.sub_self]; exact ⟨σ.le_push _,Nat.lt_succ_self _,σ.at_push_new _⟩
    · rw [Nat.sub_self]; simp
  rintro i fr σ' ⟨hi,f3,f7,f8,f9,⟨hle,hnx,hat⟩,hnd⟩
  have hlt0 : ks.length - i ≤ ks.length := Nat.sub_le _ _
  simp only [yn,sj,si,sg,sf,se,sd,TC.erase,List.map_cons,List.map_nil,evC,evL,zavo,evI,zawq,zag2,t,ci,evO,Fr.put,reduceIte,Option.some.injEq,Nat.reduceEqDiff,reduceCtorEq,f3,f7,f8,f9,zi,zarz,ma,zahs,zk]
  by_cases h0 : i = 0
  · subst h0
    rw [Nat.sub_zero,List.take_length] at hnd
    have c : decide (((ks.length - 0 : Nat) : Int) < (ks.length : Int)) = false := by simp
    rw [c]
    refine ⟨fun h => (nomatch h),fun _ => ?_⟩
    simp only [za0e,za3p,ud,ma,Fr.put,reduceIte]
    have := hP σ' hle
    rw [show decide ks.Nodup = true from decide_eq_true hnd] at this
    exact this
  · have hj : ks.length - i < ks.length := by omega
    have c : decide (((ks.length - i : Nat) : Int) < (ks.length : Int)) = true := decide_eq_true (by omega)
    rw [c]
    refine ⟨fun _ => ?_,fun h => (nomatch h)⟩
    obtain ⟨g,o,hw1,hcell⟩ := hrow (fun h => by rw [h] at hj; cases hj)
    have hc := hcell _ hj
    generalize hJ : ks.length - i = j at *
    have hgl : g < σ.next := by
      refine ak.lt_of_at ?_
      unfold ak.load at hc
      cases hq : σ.at g with
      | dead => rw [hq] at hc; cases hc
      | map es => rw [hq] at hc; cases hc
      | cells t cs md => rfl
    have hc2 : σ'.load g (o + j * 1) = some (za08 ks[j]) := by
      unfold ak.load at hc ⊢
      rw [hle.at_ hgl]
      exact hc
    have hkk : ∀ b,b ∈ ks[j] :: ks.take j → zaey (za08 b) = true ∧ ∃ x,keyOf Try.prog ka (za08 b) = some x := fun b hb => by
      rcases List.mem_cons.1 hb with rfl | hb
      · exact hk _ (List.getElem_mem _)
      · exact hk _ (List.mem_of_mem_take hb)
    have w1 : IntKind.i64.wrap ((j : Int) + 1) = ((j + 1 : Nat) : Int) := by rw [IntKind.wrap_i64]; omega
    simp only [hw1,kSl]
    refine ⟨⟨by omega,by omega⟩,?_⟩
    simp only [Int.toNat_natCast,zab4,hc2,ma]
    refine ⟨_,zaeo (kv := za08) (a := ks[j]) hat keyed_I rfl hkk,fun e1 he1 hq => ?_,fun hno => ?_⟩
    · obtain ⟨b,hb,rfl⟩ := List.mem_map.1 he1
      have hab := hinj _ _ hq
      subst hab
      refine ⟨fun _ => ?_,fun h => (nomatch h)⟩
      simp only [za0e,za3p,ud,ma,Fr.put,reduceIte,Option.some.injEq,Nat.reduceEqDiff,reduceCtorEq]
      have hnn : ¬ ks.Nodup := fun hd => by
        have := (List.Sublist.nodup (List.take_sublist (j + 1) ks) hd)
        exact ((ju hj).1 this).2 hb
      have := hP σ' hle
      rw [show decide ks.Nodup = false from decide_eq_false hnn] at this
      exact this
    · refine ⟨fun h => (nomatch h),fun _ => ?_⟩
      skip
      refine ⟨_,σ.next,zaeo (kv := za08) (a := ks[j]) hat keyed_I rfl hkk,rfl,hno,?_⟩
      have hni : ks[j] ∉ ks.take j := fun hm => hno _ (List.mem_map.2 ⟨_,hm,rfl⟩) rfl
      refine ⟨i - 1,by simp only [id]; omega,by omega,?_⟩
      refine ⟨trivial,trivial,trivial,?_,?_,?_⟩
      · rw [w1]; congr 2; omega
      · have e1 : ks.length - (i - 1) = j + 1 := by omega
        rw [e1,List.take_succ_eq_append_getElem hj]
        simp only [seen,List.map_append,List.map_cons,List.map_nil]
        exact set_le _ hle hnx
      · have e1 : ks.length - (i - 1) = j + 1 := by omega
        rw [e1]
        exact (ju hj).2 ⟨hnd,hni⟩
theorem zab3 : ∀ args τ r τ',onceI args τ = some (r,τ') → za2z Try.prog gx args τ r τ' := by
  intro args τ r τ' h σ e ws hr hnt hlen hargs
  unfold onceI zauz at h
  split at h
  · rename_i v
    split at h
    · rename_i l hl
      by_cases hbound : l.length ≤ 140737488355328
      rotate_left
      · rw [if_neg hbound] at h; cases h
      rw [if_pos hbound] at h
      obtain ⟨ks,has,he⟩ := Option.map_eq_some_iff.1 h
      simp only [Prod.mk.injEq] at he
      obtain ⟨rfl,rfl⟩ := he
      obtain ⟨w0,rfl⟩ : ∃ w0,ws = [w0] := List.length_eq_one_iff.1 (by simpa using hlen.symm)
      have ht := hargs 0 (by simp)
      simp only [List.getD_cons_zero] at ht
      have hp := pi hl ht
      obtain ⟨m1,m2⟩ := zaou has
      have hkey : ∀ a ∈ ks,zaey (za08 a) = true ∧ ∃ x,keyOf Try.prog ka (za08 a) = some x := fun a ha => by
        obtain ⟨i,hi,rfl⟩ := List.mem_iff_getElem.1 ha
        exact has_I _ (zau2 (m2 i hi)).2
      refine once_I_go ?_ ?_ hkey (fun a b hab => ?_) (fun hne => ?_) _ fun σ' hle => ⟨e,aft_le hr hnt hle,.pr (.bool _)⟩
      · rw [← m1]; omega
      · rw [← m1]; exact zack hp
      · injection hab
      · have hne' : l ≠ [] := fun h0 => hne (List.eq_nil_of_length_eq_zero (by rw [← m1,h0]; rfl))
        obtain ⟨g,o,s,t',cs,md,q0,q1,q2,q3,q4,q5,q6⟩ := rn hne' hp
        have h00 : 0 < l.length := by cases l with | nil => exact absurd rfl hne' | cons => simp
        have hs : s = 1 := by
          rw [← q4 0 h00,(zau2 (m2 0 (by omega))).1]; rfl
        subst hs
        refine ⟨g,o,by rw [q6,m1],fun i hi => ?_⟩
        have hi' : i < l.length := by omega
        have hle : (i + 1) * 1 ≤ l.length * 1 := Nat.mul_le_mul_right _ hi'
        have := q5 i hi' 0 (by omega)
        rw [(zau2 (m2 i hi)).1] at this
        have hlt : o + i * 1 < cs.length := by omega
        unfold ak.load
        rw [q1]
        simp only
        rw [zaki undef hlt]
        rw [Nat.add_zero] at this
        generalize cs.getD (o + i * 1) undef = c at this
        cases this
        rfl
    · cases h
  · cases h
theorem arr_A : WideMaps.ArrKey Try.prog jy ka 2 := ⟨by kernel_rfl,by kernel_rfl,by kernel_rfl,by kernel_rfl⟩
theorem keyed_A : Maps.Keyed Try.prog jy := Maps.Keyed.of_law arr_A.law
theorem has_A (p : Int × Int) (h : (zaos p.1 && zaos p.2) = true) : zaey (za09 p) = true ∧ ∃ x,keyOf Try.prog jy (za09 p) = some x := by
  simp only [Bool.and_eq_true] at h
  have hu : Try.prog.underlying ka = some (.int .i64) := by kernel_rfl
  exact ⟨rfl,_,WideMaps.keyOf_pair arr_A hu ⟨Try.prog.types.size - 1,by kernel_rfl⟩ (wf64 h.1) (wf64 h.2)⟩
theorem once_A_go {σ : ak} {w0 : Value} {ks : List (Int × Int)} (hlen : ks.length ≤ 9223372036854775806) (hw : ∃ a s,w0 = .slice a ks.length s) (hk : ∀ a ∈ ks,zaey (za09 a) = true ∧ ∃ x,keyOf Try.prog jy (za09 a) = some x) (hinj : ∀ a b : (Int × Int),za09 a = za09 b → a = b)
    (hrow : ks ≠ [] → ∃ g o,w0 = .slice (some ⟨g,o,none⟩) ks.length 2 ∧ ∀ i (h : i < ks.length),σ.row g (o + i * 2) 2 = some [.int .i64 ks[i].1,.int .i64 ks[i].2])
    (Post : Value → ak → Prop) (hP : ∀ σ',σ.le σ' → Post (.bool (decide ks.Nodup)) σ') : io Try.prog ft [w0] σ Post := by
  refine zako zal6 (by simp) ?_
  obtain ⟨a0,s0,hw0⟩ := hw
  simp only [kq,px,pw,pv,pm,TC.erase,List.map_cons,List.map_nil,evC,evL,zavo,evI,zawq,zag2,t,ci,evO,zav3,Fr.put,List.getD_cons_zero,reduceIte,Option.some.injEq,Nat.reduceEqDiff,reduceCtorEq,hw0,kSlN]
  refine zaih (fun (i : Nat) fr σ' => i ≤ ks.length ∧ fr 3 = .map (some σ.next) ∧ fr 7 = w0 ∧ fr 8 = .int .i64 ks.length ∧ fr 9 = .int .i64 ((ks.length - i : Nat) : Int) ∧ (σ.le σ' ∧ σ.next < σ'.next ∧ σ'.at σ.next = .map (seen za09 (ks.take (ks.length - i)))) ∧ (ks.take (ks.length - i)).Nodup) id ks.length ⟨Nat.le_refl _,?_⟩ ?_
  · refine ⟨rfl,hw0.symm,rfl,?_,?_,?_⟩
    · rw [Nat.sub_self]; rfl
    · rw [Nat.sub_self]; exact ⟨σ.le_push _,Nat.lt_succ_self _,σ.at_push_new _⟩
    · rw [Nat.sub_self]; simp
  rintro i fr σ' ⟨hi,f3,f7,f8,f9,⟨hle,hnx,hat⟩,hnd⟩
  have hlt0 : ks.length - i ≤ ks.length := Nat.sub_le _ _
  simp only [vi,pu,pt,pq,pp,po,pn,TC.erase,List.map_cons,List.map_nil,evC,evL,zavo,evI,zawq,zag2,t,ci,evO,Fr.put,reduceIte,Option.some.injEq,Nat.reduceEqDiff,reduceCtorEq,f3,f7,f8,f9,zi,zarz,ma,zahs,zk]
  by_cases h0 : i = 0
  · subst h0
    rw [Nat.sub_zero,List.take_length] at hnd
    have c : decide (((ks.length - 0 : Nat) : Int) < (ks.length : Int)) = false := by simp
    rw [c]
    refine ⟨fun h => (nomatch h),fun _ => ?_⟩
    simp only [za0e,za3p,ud,ma,Fr.put,reduceIte]
    have := hP σ' hle
    rw [show decide ks.Nodup = true from decide_eq_true hnd] at this
    exact this
  · have hj : ks.length - i < ks.length := by omega
    have c : decide (((ks.length - i : Nat) : Int) < (ks.length : Int)) = true := decide_eq_true (by omega)
    rw [c]
    refine ⟨fun _ => ?_,fun h => (nomatch h)⟩
    obtain ⟨g,o,hw1,hcell⟩ := hrow (fun h => by rw [h] at hj; cases hj)
    have hc := hcell _ hj
    generalize hJ : ks.length - i = j at *
    have hgl : g < σ.next := by
      refine ak.lt_of_at ?_
      unfold ak.row at hc
      cases hq : σ.at g with
      | dead => rw [hq] at hc; cases hc
      | map es => rw [hq] at hc; cases hc
      | cells t cs md => rfl
    have hc2 : σ'.row g (o + j * 2) 2 = some [.int .i64 ks[j].1,.int .i64 ks[j].2] := by
      unfold ak.row at hc ⊢
      rw [hle.at_ hgl]
      exact hc
    have hkk : ∀ b,b ∈ ks[j] :: ks.take j → zaey (za09 b) = true ∧ ∃ x,keyOf Try.prog jy (za09 b) = some x := fun b hb => by
      rcases List.mem_cons.1 hb with rfl | hb
      · exact hk _ (List.getElem_mem _)
      · exact hk _ (List.mem_of_mem_take hb)
    have w1 : IntKind.i64.wrap ((j : Int) + 1) = ((j + 1 : Nat) : Int) := by rw [IntKind.wrap_i64]; omega
    simp only [hw1,kSl]
    refine ⟨⟨by omega,by omega⟩,?_⟩
    simp only [Int.toNat_natCast,zab4,hc2,ma]
    refine ⟨fun k hk => ?_,?_⟩
    · have : k < 2 := hk
      match k,this with
      | 0,_ => rfl
      | 1,_ => rfl
    have hst := zahl (σ := σ'.push (.cells jy [.int .i64 0,.int .i64 0] .rw)) (g := σ'.next) (t := jy) [.int .i64 ks[j].1,.int .i64 ks[j].2] [.int .i64 0,.int .i64 0] 0 (σ'.at_push_new _) (by simp) (fun v hv => by
      simp only [List.mem_cons,List.not_mem_nil,or_false] at hv
      rcases hv with rfl | rfl <;> rfl) (by simp)
    refine ⟨rfl,?_⟩
    generalize hs2 : (σ'.push (.cells jy [.int .i64 0,.int .i64 0] .rw)).set σ'.next (.cells jy (jh [.int .i64 0,.int .i64 0] 0 [.int .i64 ks[j].1,.int .i64 ks[j].2]) .rw) = σ2 at hst
    have hst' : (σ'.push (.cells jy (Value.agg { toList := [.int .i64 0,.int .i64 0] }).cells.toList .rw)).store σ'.next 0 (Value.agg { toList := [.int .i64 ks[j].1,.int .i64 ks[j].2] }).cells.toList = some σ2 := hst
    rw [hst']
    have le2 : σ'.le σ2 := by
      rw [← hs2]
      exact ⟨Nat.le_succ _,fun i hi => by rw [zal7 (Nat.ne_of_lt hi),tg hi]⟩
    have hle2 : σ.le σ2 := hle.trans le2
    have hnx2 : σ.next < σ2.next := Nat.lt_of_lt_of_le hnx le2.next
    have hat2 : σ2.at σ.next = .map (seen za09 (ks.take j)) := by rw [le2.at_ hnx]; exact hat
    have hrw : σ2.row σ'.next 0 2 = some [.int .i64 ks[j].1,.int .i64 ks[j].2] := by
      have : σ2.at σ'.next = .cells jy [.int .i64 ks[j].1,.int .i64 ks[j].2] .rw := by
        rw [← hs2]; exact ak.at_set_same _ _ (Nat.lt_succ_self _)
      rw [yd this (by simp)]; rfl
    simp only [hrw]
    refine ⟨_,zaeo (kv := za09) (a := ks[j]) hat2 keyed_A rfl hkk,fun e1 he1 hq => ?_,fun hno => ?_⟩
    · obtain ⟨b,hb,rfl⟩ := List.mem_map.1 he1
      have hab := hinj _ _ hq
      subst hab
      refine ⟨fun _ => ?_,fun h => (nomatch h)⟩
      simp only [za0e,za3p,ud,ma,Fr.put,reduceIte,Option.some.injEq,Nat.reduceEqDiff,reduceCtorEq]
      have hnn : ¬ ks.Nodup := fun hd => by
        have := (List.Sublist.nodup (List.take_sublist (j + 1) ks) hd)
        exact ((ju hj).1 this).2 hb
      have := hP σ2 hle2
      rw [show decide ks.Nodup = false from decide_eq_false hnn] at this
      exact this
    · refine ⟨fun h => (nomatch h),fun _ => ?_⟩
      skip
      refine ⟨_,σ.next,zaeo (kv := za09) (a := ks[j]) hat2 keyed_A rfl hkk,rfl,hno,?_⟩
      have hni : ks[j] ∉ ks.take j := fun hm => hno _ (List.mem_map.2 ⟨_,hm,rfl⟩) rfl
      refine ⟨i - 1,by simp only [id]; omega,by omega,?_⟩
      refine ⟨trivial,trivial,trivial,?_,?_,?_⟩
      · rw [w1]; congr 2; omega
      · have e1 : ks.length - (i - 1) = j + 1 := by omega
        rw [e1,List.take_succ_eq_append_getElem hj]
        simp only [seen,List.map_append,List.map_cons,List.map_nil]
        exact set_le _ hle2 hnx2
      · have e1 : ks.length - (i - 1) = j + 1 := by omega
        rw [e1]
        exact (ju hj).2 ⟨hnd,hni⟩
theorem yg : ∀ args τ r τ',onceA args τ = some (r,τ') → za2z Try.prog ft args τ r τ' := by
  intro args τ r τ' h σ e ws hr hnt hlen hargs
  unfold onceA zauz at h
  split at h
  · rename_i v
    split at h
    · rename_i l hl
      by_cases hbound : l.length ≤ 140737488355328
      rotate_left
      · rw [if_neg hbound] at h; cases h
      rw [if_pos hbound] at h
      obtain ⟨ks,has,he⟩ := Option.map_eq_some_iff.1 h
      simp only [Prod.mk.injEq] at he
      obtain ⟨rfl,rfl⟩ := he
      obtain ⟨w0,rfl⟩ : ∃ w0,ws = [w0] := List.length_eq_one_iff.1 (by simpa using hlen.symm)
      have ht := hargs 0 (by simp)
      simp only [List.getD_cons_zero] at ht
      have hp := pi hl ht
      obtain ⟨m1,m2⟩ := zaou has
      have hkey : ∀ a ∈ ks,zaey (za09 a) = true ∧ ∃ x,keyOf Try.prog jy (za09 a) = some x := fun a ha => by
        obtain ⟨i,hi,rfl⟩ := List.mem_iff_getElem.1 ha
        exact has_A _ (zau3 (m2 i hi)).2
      refine once_A_go ?_ ?_ hkey (fun a b hab => ?_) (fun hne => ?_) _ fun σ' hle => ⟨e,aft_le hr hnt hle,.pr (.bool _)⟩
      · rw [← m1]; omega
      · rw [← m1]; exact zack hp
      · simp only [za09,Value.agg.injEq,Array.mk.injEq,List.cons.injEq,Value.int.injEq,true_and,and_true] at hab; exact Prod.ext hab.1 hab.2
      · have hne' : l ≠ [] := fun h0 => hne (List.eq_nil_of_length_eq_zero (by rw [← m1,h0]; rfl))
        obtain ⟨g,o,s,t',cs,md,q0,q1,q2,q3,q4,q5,q6⟩ := rn hne' hp
        have h00 : 0 < l.length := by cases l with | nil => exact absurd rfl hne' | cons => simp
        have hs : s = 2 := by
          rw [← q4 0 h00,(zau3 (m2 0 (by omega))).1]; rfl
        subst hs
        refine ⟨g,o,by rw [q6,m1],fun i hi => ?_⟩
        have hi' : i < l.length := by omega
        have hle : (i + 1) * 2 ≤ l.length * 2 := Nat.mul_le_mul_right _ hi'
        have h0 := q5 i hi' 0 (by omega)
        have h1 := q5 i hi' 1 (by omega)
        rw [(zau3 (m2 i hi)).1] at h0 h1
        rw [yd q1 (by omega)]
        have e1 : ((cs.drop (o + i * 2)).take 2).length = 2 := by simp; omega
        obtain ⟨c0,c1,hcc⟩ : ∃ c0 c1,(cs.drop (o + i * 2)).take 2 = [c0,c1] := by
          match hq : (cs.drop (o + i * 2)).take 2,e1 with
          | [a,b],_ => exact ⟨a,b,rfl⟩
        have g0 := db cs (o + i * 2) 2 0 undef (by omega)
        have g1 := db cs (o + i * 2) 2 1 undef (by omega)
        rw [hcc] at g0 g1 ⊢
        simp only [List.getD_cons_zero,List.getD_cons_succ] at g0 g1
        rw [← g0] at h0
        rw [← g1] at h1
        have h0 : PR σ (.int .i64 ks[i].1) c0 := h0
        have h1 : PR σ (.int .i64 ks[i].2) c1 := h1
        cases h0
        cases h1
        rfl
    · cases h
  · cases h
end Ic
end Go.Proofs.Ytdcfoaafkppojaa
