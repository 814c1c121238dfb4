import Derived.Test.YtdcfoaafkppojaaTcT
import Derived.Test.YtdcfoaafkppojaaM13
import Derived.WideKeyPair
set_option linter.unusedVariables false
set_option linter.unusedSimpArgs false
set_option linter.unusedSectionVars false
namespace Go.Proofs.Ytdcfoaafkppojaa
open Go Go.RowKit Sh
namespace Ic
section
variable {P : Program} {e : Env} {τ : TH} {σ : aj}
theorem zbjj {σ' : aj} (h : HR e τ σ) (hnt : ∀ g i,e.who g ≠ .tok i) (hle : σ.le σ') : Aft ⟨σ,e,τ.lock⟩ e τ σ' := by
 have hat : ∀ g,g < σ.next → σ'.at g = σ.at g := fun g hg => hle.at_ hg
 have hk : ao σ σ' := fun g t cs md hg hm => ⟨md,hm,by rw [hat g (aj.lt_of_at (by rw [hg]; rfl))]; exact hg⟩
 exact {
 hr := {
  n := h.n
  wlt := fun g hg => Nat.lt_of_lt_of_le (h.wlt g hg) hle.next
  wid := h.wid
  ob := fun id hid => by
   obtain ⟨b',h1,h2⟩ := h.ob id hid
   have hlt : ∀ g,e.who g ≠ .none → σ'.at g = σ.at g := fun g hg => hat g (h.wlt g hg)
   exact ⟨b',h1,h2.step hk (fun _ _ => rfl) (by rw [h.n]; exact hid) (fun q => hlt _ (by rw [q]; simp)) (fun q => q) fun g j hg => ⟨hg,hlt g (by rw [hg]; simp)⟩⟩ }
 nx := hle.next
 keep := fun g hg _ => hle.blk g hg
 fro := hk
 n0 := Nat.le_refl _
 b0 := fun _ _ => rfl
 old := fun _ _ _ => rfl
 notok := hnt
 lock := rfl }
def mg {α : Type} (kv : α → Value) (l : List α) : List (Value × Value) := l.map fun a => (kv a,.bool true)
theorem zbsy {α : Type} {kv : α → Value} {kt : TypeId} {l : List α} {a : α} {v : Value} {σ' : aj} (hat : σ'.at σ.next = .map (mg kv l)) (hK : Maps.Keyed P kt) (hv : v = .map (some σ.next)) (hf : ∀ b,b ∈ a :: l → zba0 (kv b) = true ∧ ∃ x,keyOf P kt (kv b) = some x) :
 zbsp P kt σ' v (kv a) (mg kv l) :=
 ⟨σ.next,hv,hat,hK,(hf a (by simp)).1,(hf a (by simp)).2,fun e he => by
  obtain ⟨b,hb,rfl⟩ := List.mem_map.1 he
  exact hf b (by simp [hb])⟩
theorem zbex {σ' : aj} (b : Blk) (h : σ.le σ') (hn : σ.next < σ'.next) : σ.le (σ'.set σ.next b) ∧ σ.next < (σ'.set σ.next b).next ∧ (σ'.set σ.next b).at σ.next = b :=
 ⟨⟨h.next,fun i hi => by rw [zbsu (Nat.ne_of_lt hi)]; exact h.blk i hi⟩,hn,σ'.at_set_same _ hn⟩
theorem nc {α : Type} {l : List α} {i : Nat} (hi : i < l.length) : (l.take (i + 1)).Nodup ↔ (l.take i).Nodup ∧ l[i] ∉ l.take i := by
 rw [List.take_succ_eq_append_getElem hi,List.nodup_append]
 constructor
 · rintro ⟨h1,_,h3⟩
   exact ⟨h1,fun hm => h3 _ hm _ (by simp) rfl⟩
 · rintro ⟨h1,h2⟩
   refine ⟨h1,by simp,fun a ha b hb => ?_⟩
   simp only [List.mem_singleton] at hb
   subst hb
   rintro rfl
   exact h2 ha
end
end Ic
end Go.Proofs.Ytdcfoaafkppojaa
namespace Go.Proofs.Ytdcfoaafkppojaa
open Go Go.RowKit Sh
namespace Ic
def za36 (n : Int) : Bool := decide (-9223372036854775808 ≤ n) && decide (n ≤ 9223372036854775807)
def zbyr : TV → Option ByteArray
 | .str s => if s.size ≤ 140737488355328 then some s else none
 | _ => none
def zbys : TV → Option Int
 | .int .i64 n => if za36 n then some n else none
 | _ => none
def zbyt : TV → Option (Int × Int)
 | .agg [.int .i64 a,.int .i64 b] => if za36 a && za36 b then some (a,b) else none
 | _ => none
def zbba (s : ByteArray) : Value := .string s
def zbbk (n : Int) : Value := .int .i64 n
def zbbj (p : Int × Int) : Value := .agg #[.int .i64 p.1,.int .i64 p.2]
theorem zby5 {v : TV} {s : ByteArray} (h : zbyr v = some s) : v = .str s ∧ s.size ≤ 140737488355328 := by
 unfold zbyr at h
 split at h
 · split at h
   · rename_i hs; injection h with h; subst h; exact ⟨rfl,hs⟩
   · cases h
 · cases h
theorem zby4 {v : TV} {n : Int} (h : zbys v = some n) : v = .int .i64 n ∧ za36 n = true := by
 unfold zbys at h
 split at h
 · split at h
   · rename_i hs; injection h with h; subst h; exact ⟨rfl,hs⟩
   · cases h
 · cases h
theorem zby3 {v : TV} {p : Int × Int} (h : zbyt v = some p) : v = .agg [.int .i64 p.1,.int .i64 p.2] ∧ (za36 p.1 && za36 p.2) = true := by
 unfold zbyt at h
 split at h
 · split at h
   · rename_i hs; injection h with h; subst h; exact ⟨rfl,hs⟩
   · cases h
 · cases h
def zbtb {α : Type} (key : TV → Option α) : List TV → Option (List α)
 | [] => some []
 | v :: r => match key v,zbtb key r with
  | some a,some l => some (a :: l)
  | _,_ => none
theorem zbw6 {α : Type} {key : TV → Option α} : ∀ {l : List TV} {ks : List α},zbtb key l = some ks → l.length = ks.length ∧ ∀ i (h : i < ks.length),key (l.getD i .undef) = some ks[i]
 | [],ks,h => by injection h with h; subst h; exact ⟨rfl,fun i h => by cases h⟩
 | v :: r,ks,h => by
  simp only [zbtb] at h
  split at h
  · rename_i a l ha hl
    injection h with h; subst h
    obtain ⟨h1,h2⟩ := zbw6 hl
    refine ⟨by simp [h1],fun i hi => ?_⟩
    cases i with
    | zero => exact ha
    | succ i => exact h2 i (Nat.lt_of_succ_lt_succ hi)
  · cases h
theorem zbw7 {α β : Type} {key : TV → Option α} {f : β → TV} {g : β → α} : ∀ (l : List β),(∀ b ∈ l,key (f b) = some (g b)) → zbtb key (l.map f) = some (l.map g)
 | [],_ => rfl
 | b :: r,h => by
  simp only [List.map_cons,zbtb,h b (by simp),zbw7 r fun c hc => h c (by simp [hc])]
def zbkq {α : Type} [DecidableEq α] (key : TV → Option α) (args : List TV) (τ : TH) : Option (TV × TH) :=
 match args with
 | [v] => match v.list with
  | some l => if l.length ≤ 140737488355328 then (zbtb key l).map fun ks => (.bool (decide ks.Nodup),τ) else none
  | none => none
 | _ => none
def zbgx := zbkq zbyr
def zbgy := zbkq zbys
def zbgz := zbkq zbyt
theorem zb2s {n : Int} (h : za36 n = true) : (Lit.int .i64 n).wf = true := by
 unfold za36 at h
 simp only [Bool.and_eq_true,decide_eq_true_eq] at h
 obtain ⟨h1,h2⟩ := h
 simp only [Lit.wf,IntKind.min,IntKind.max,IntKind.signed,IntKind.bits]
 simp
 omega
theorem zbh0 : Maps.Keyed Try.prog eu := Maps.string_keyed (by kernel_rfl)
theorem zb29 (s : ByteArray) (h : s.size ≤ 140737488355328) : zba0 (zbba s) = true ∧ ∃ x,keyOf Try.prog eu (zbba s) = some x := by
 have hu : Try.prog.underlying eu = some .string := by kernel_rfl
 refine ⟨rfl,.string s.data.toList,?_⟩
 simp only [keyOf,hu,mapKey,zbba]
 rw [if_pos (by unfold maxLen; omega)]
theorem zbgu {σ : aj} {w0 : Value} {ks : List ByteArray} (hlen : ks.length ≤ 9223372036854775806) (hw : ∃ a s,w0 = .slice a ks.length s) (hk : ∀ a ∈ ks,zba0 (zbba a) = true ∧ ∃ x,keyOf Try.prog eu (zbba a) = some x) (hinj : ∀ a b : ByteArray,zbba a = zbba b → a = b)
 (hrow : ks ≠ [] → ∃ g o,w0 = .slice (some ⟨g,o,none⟩) ks.length 1 ∧ ∀ i (h : i < ks.length),σ.load g (o + i * 1) = some (zbba ks[i]))
 (Post : Value → aj → Prop) (hP : ∀ σ',σ.le σ' → Post (.bool (decide ks.Nodup)) σ') : lg Try.prog fj [w0] σ Post := by
 refine zbxl zcr9 (by simp) ?_
 obtain ⟨a0,s0,hw0⟩ := hw
 simp only [nz,sc,sb,sa,rx,TC.erase,List.map_cons,List.map_nil,evC,evL,zbkr,evI,zbmk,zbkg,t,ci,evO,zbkp,Fr.put,List.getD_cons_zero,reduceIte,Option.some.injEq,Nat.reduceEqDiff,reduceCtorEq,hw0,zblr]
 refine zbxr (fun (i : Nat) fr σ' => i ≤ ks.length ∧ fr 3 = .map (some σ.next) ∧ fr 7 = w0 ∧ fr 8 = .int .i64 ks.length ∧ fr 9 = .int .i64 ((ks.length - i : Nat) : Int) ∧ (σ.le σ' ∧ σ.next < σ'.next ∧ σ'.at σ.next = .map (mg zbba (ks.take (ks.length - i)))) ∧ (ks.take (ks.length - i)).Nodup) id ks.length ⟨Nat.le_refl _,?_⟩ ?_
 · refine ⟨rfl,hw0.symm,rfl,?_,?_,?_⟩
   · rw [Nat.sub_self]; rfl
   · rw [Nat.sub_self]; exact ⟨σ.le_push _,Nat.lt_succ_self _,σ.at_push_new _⟩
   · rw [Nat.sub_self]; simp
 rintro i fr σ' ⟨hi,f3,f7,f8,f9,⟨hle,hnx,hat⟩,hnd⟩
 have hlt0 : ks.length - i ≤ ks.length := Nat.sub_le _ _
 simp only [yn,r9,r8,r7,r6,rz,ry,TC.erase,List.map_cons,List.map_nil,evC,evL,zbkr,evI,zbmk,zbkg,t,ci,evO,Fr.put,reduceIte,Option.some.injEq,Nat.reduceEqDiff,reduceCtorEq,f3,f7,f8,f9,a8,zaxd,oo,zbbb,a7]
 by_cases h0 : i = 0
 · subst h0
   rw [Nat.sub_zero,List.take_length] at hnd
   have c : decide (((ks.length - 0 : Nat) : Int) < (ks.length : Int)) = false := by simp
   rw [c]
   refine ⟨fun h => (nomatch h),fun _ => ?_⟩
   simp only [zbkc,zbbp,xt,oo,Fr.put,reduceIte]
   have := hP σ' hle
   rw [show decide ks.Nodup = true from decide_eq_true hnd] at this
   exact this
 · have hj : ks.length - i < ks.length := by omega
   have c : decide (((ks.length - i : Nat) : Int) < (ks.length : Int)) = true := decide_eq_true (by omega)
   rw [c]
   refine ⟨fun _ => ?_,fun h => (nomatch h)⟩
   obtain ⟨g,o,hw1,hcell⟩ := hrow (fun h => by rw [h] at hj; cases hj)
   have hc := hcell _ hj
   generalize hJ : ks.length - i = j at *
   have hgl : g < σ.next := by
    refine aj.lt_of_at ?_
    unfold aj.load at hc
    cases hq : σ.at g with
    | dead => rw [hq] at hc; cases hc
    | map es => rw [hq] at hc; cases hc
    | cells t cs md => rfl
   have hc2 : σ'.load g (o + j * 1) = some (zbba ks[j]) := by
    unfold aj.load at hc ⊢
    rw [hle.at_ hgl]
    exact hc
   have hkk : ∀ b,b ∈ ks[j] :: ks.take j → zba0 (zbba b) = true ∧ ∃ x,keyOf Try.prog eu (zbba b) = some x := fun b hb => by
    rcases List.mem_cons.1 hb with rfl | hb
    · exact hk _ (List.getElem_mem _)
    · exact hk _ (List.mem_of_mem_take hb)
   have w1 : IntKind.i64.wrap ((j : Int) + 1) = ((j + 1 : Nat) : Int) := by rw [IntKind.wrap_i64]; omega
   simp only [hw1,kSl]
   refine ⟨⟨by omega,by omega⟩,?_⟩
   simp only [Int.toNat_natCast,j5,hc2,oo]
   refine ⟨_,zbsy (kv := zbba) (a := ks[j]) hat zbh0 rfl hkk,fun e1 he1 hq => ?_,fun hno => ?_⟩
   · obtain ⟨b,hb,rfl⟩ := List.mem_map.1 he1
     have hab := hinj _ _ hq
     subst hab
     refine ⟨fun _ => ?_,fun h => (nomatch h)⟩
     simp only [zbkc,zbbp,xt,oo,Fr.put,reduceIte,Option.some.injEq,Nat.reduceEqDiff,reduceCtorEq]
     have hnn : ¬ ks.Nodup := fun hd => by
      have := (List.Sublist.nodup (List.take_sublist (j + 1) ks) hd)
      exact ((nc hj).1 this).2 hb
     have := hP σ' hle
     rw [show decide ks.Nodup = false from decide_eq_false hnn] at this
     exact this
   · refine ⟨fun h => (nomatch h),fun _ => ?_⟩
     skip
     refine ⟨_,σ.next,zbsy (kv := zbba) (a := ks[j]) hat zbh0 rfl hkk,rfl,hno,?_⟩
     have hni : ks[j] ∉ ks.take j := fun hm => hno _ (List.mem_map.2 ⟨_,hm,rfl⟩) rfl
     refine ⟨i - 1,by simp only [id]; omega,by omega,?_⟩
     refine ⟨trivial,trivial,trivial,?_,?_,?_⟩
     · rw [w1]; congr 2; omega
     · have e1 : ks.length - (i - 1) = j + 1 := by omega
       rw [e1,List.take_succ_eq_append_getElem hj]
       simp only [mg,List.map_append,List.map_cons,List.map_nil]
       exact zbex _ hle hnx
     · have e1 : ks.length - (i - 1) = j + 1 := by omega
       rw [e1]
       exact (nc hj).2 ⟨hnd,hni⟩
theorem zcsw : ∀ args τ r τ',zbgx args τ = some (r,τ') → zbqa Try.prog fj args τ r τ' := by
 intro args τ r τ' h σ e ws hr hnt hlen hargs
 unfold zbgx zbkq at h
 split at h
 · rename_i v
   split at h
   · rename_i l hl
     by_cases hbound : l.length ≤ 140737488355328
     rotate_left
     · rw [if_neg hbound] at h; cases h
     rw [if_pos hbound] at h
     obtain ⟨ks,has,he⟩ := Option.map_eq_some_iff.1 h
     simp only [Prod.mk.injEq] at he
     obtain ⟨rfl,rfl⟩ := he
     obtain ⟨w0,rfl⟩ : ∃ w0,ws = [w0] := List.length_eq_one_iff.1 (by simpa using hlen.symm)
     have ht := hargs 0 (by simp)
     simp only [List.getD_cons_zero] at ht
     have hp := tp hl ht
     obtain ⟨m1,m2⟩ := zbw6 has
     have hkey : ∀ a ∈ ks,zba0 (zbba a) = true ∧ ∃ x,keyOf Try.prog eu (zbba a) = some x := fun a ha => by
      obtain ⟨i,hi,rfl⟩ := List.mem_iff_getElem.1 ha
      exact zb29 _ (zby5 (m2 i hi)).2
     refine zbgu ?_ ?_ hkey (fun a b hab => ?_) (fun hne => ?_) _ fun σ' hle => ⟨e,zbjj hr hnt hle,.pr (.bool _)⟩
     · rw [← m1]; omega
     · rw [← m1]; exact zbt1 hp
     · injection hab
     · have hne' : l ≠ [] := fun h0 => hne (List.eq_nil_of_length_eq_zero (by rw [← m1,h0]; rfl))
       obtain ⟨g,o,s,t',cs,md,q0,q1,q2,q3,q4,q5,q6⟩ := th hne' hp
       have h00 : 0 < l.length := by cases l with | nil => exact absurd rfl hne' | cons => simp
       have hs : s = 1 := by
        rw [← q4 0 h00,(zby5 (m2 0 (by omega))).1]; rfl
       subst hs
       refine ⟨g,o,by rw [q6,m1],fun i hi => ?_⟩
       have hi' : i < l.length := by omega
       have hle : (i + 1) * 1 ≤ l.length * 1 := Nat.mul_le_mul_right _ hi'
       have := q5 i hi' 0 (by omega)
       rw [(zby5 (m2 i hi)).1] at this
       have hlt : o + i * 1 < cs.length := by omega
       unfold aj.load
       rw [q1]
       simp only
       rw [zbsx undef hlt]
       rw [Nat.add_zero] at this
       generalize cs.getD (o + i * 1) undef = c at this
       cases this
       rfl
   · cases h
 · cases h
theorem zbh1 : Maps.Keyed Try.prog de := Maps.int_keyed (q := .i64) (by kernel_rfl)
theorem zb3a (n : Int) (h : za36 n = true) : zba0 (zbbk n) = true ∧ ∃ x,keyOf Try.prog de (zbbk n) = some x := by
 have hu : Try.prog.underlying de = some (.int .i64) := by kernel_rfl
 exact ⟨rfl,_,Maps.keyOf_int_mk hu (zb2s h)⟩
theorem zbgv {σ : aj} {w0 : Value} {ks : List Int} (hlen : ks.length ≤ 9223372036854775806) (hw : ∃ a s,w0 = .slice a ks.length s) (hk : ∀ a ∈ ks,zba0 (zbbk a) = true ∧ ∃ x,keyOf Try.prog de (zbbk a) = some x) (hinj : ∀ a b : Int,zbbk a = zbbk b → a = b)
 (hrow : ks ≠ [] → ∃ g o,w0 = .slice (some ⟨g,o,none⟩) ks.length 1 ∧ ∀ i (h : i < ks.length),σ.load g (o + i * 1) = some (zbbk ks[i]))
 (Post : Value → aj → Prop) (hP : ∀ σ',σ.le σ' → Post (.bool (decide ks.Nodup)) σ') : lg Try.prog jw [w0] σ Post := by
 refine zbxl zcqt (by simp) ?_
 obtain ⟨a0,s0,hw0⟩ := hw
 simp only [tg,wz,wy,wx,we,TC.erase,List.map_cons,List.map_nil,evC,evL,zbkr,evI,zbmk,zbkg,t,ci,evO,zbkp,Fr.put,List.getD_cons_zero,reduceIte,Option.some.injEq,Nat.reduceEqDiff,reduceCtorEq,hw0,zblr]
 refine zbxr (fun (i : Nat) fr σ' => i ≤ ks.length ∧ fr 3 = .map (some σ.next) ∧ fr 7 = w0 ∧ fr 8 = .int .i64 ks.length ∧ fr 9 = .int .i64 ((ks.length - i : Nat) : Int) ∧ (σ.le σ' ∧ σ.next < σ'.next ∧ σ'.at σ.next = .map (mg zbbk (ks.take (ks.length - i)))) ∧ (ks.take (ks.length - i)).Nodup) id ks.length ⟨Nat.le_refl _,?_⟩ ?_
 · refine ⟨rfl,hw0.symm,rfl,?_,?_,?_⟩
   · rw [Nat.sub_self]; rfl
   · rw [Nat.sub_self]; exact ⟨σ.le_push _,Nat.lt_succ_self _,σ.at_push_new _⟩
   · rw [Nat.sub_self]; simp
 rintro i fr σ' ⟨hi,f3,f7,f8,f9,⟨hle,hnx,hat⟩,hnd⟩
 have hlt0 : ks.length - i ≤ ks.length := Nat.sub_le _ _
 simp only [zcgv,ww,wv,wu,wq,wj,wg,TC.erase,List.map_cons,List.map_nil,evC,evL,zbkr,evI,zbmk,zbkg,t,ci,evO,Fr.put,reduceIte,Option.some.injEq,Nat.reduceEqDiff,reduceCtorEq,f3,f7,f8,f9,a8,zaxd,oo,zbbb,a7]
 by_cases h0 : i = 0
 · subst h0
   rw [Nat.sub_zero,List.take_length] at hnd
   have c : decide (((ks.length - 0 : Nat) : Int) < (ks.length : Int)) = false := by simp
   rw [c]
   refine ⟨fun h => (nomatch h),fun _ => ?_⟩
   simp only [zbkc,zbbp,xt,oo,Fr.put,reduceIte]
   have := hP σ' hle
   rw [show decide ks.Nodup = true from decide_eq_true hnd] at this
   exact this
 · have hj : ks.length - i < ks.length := by omega
   have c : decide (((ks.length - i : Nat) : Int) < (ks.length : Int)) = true := decide_eq_true (by omega)
   rw [c]
   refine ⟨fun _ => ?_,fun h => (nomatch h)⟩
   obtain ⟨g,o,hw1,hcell⟩ := hrow (fun h => by rw [h] at hj; cases hj)
   have hc := hcell _ hj
   generalize hJ : ks.length - i = j at *
   have hgl : g < σ.next := by
    refine aj.lt_of_at ?_
    unfold aj.load at hc
    cases hq : σ.at g with
    | dead => rw [hq] at hc; cases hc
    | map es => rw [hq] at hc; cases hc
    | cells t cs md => rfl
   have hc2 : σ'.load g (o + j * 1) = some (zbbk ks[j]) := by
    unfold aj.load at hc ⊢
    rw [hle.at_ hgl]
    exact hc
   have hkk : ∀ b,b ∈ ks[j] :: ks.take j → zba0 (zbbk b) = true ∧ ∃ x,keyOf Try.prog de (zbbk b) = some x := fun b hb => by
    rcases List.mem_cons.1 hb with rfl | hb
    · exact hk _ (List.getElem_mem _)
    · exact hk _ (List.mem_of_mem_take hb)
   have w1 : IntKind.i64.wrap ((j : Int) + 1) = ((j + 1 : Nat) : Int) := by rw [IntKind.wrap_i64]; omega
   simp only [hw1,kSl]
   refine ⟨⟨by omega,by omega⟩,?_⟩
   simp only [Int.toNat_natCast,j5,hc2,oo]
   refine ⟨_,zbsy (kv := zbbk) (a := ks[j]) hat zbh1 rfl hkk,fun e1 he1 hq => ?_,fun hno => ?_⟩
   · obtain ⟨b,hb,rfl⟩ := List.mem_map.1 he1
     have hab := hinj _ _ hq
     subst hab
     refine ⟨fun _ => ?_,fun h => (nomatch h)⟩
     simp only [zbkc,zbbp,xt,oo,Fr.put,reduceIte,Option.some.injEq,Nat.reduceEqDiff,reduceCtorEq]
     have hnn : ¬ ks.Nodup := fun hd => by
      have := (List.Sublist.nodup (List.take_sublist (j + 1) ks) hd)
      exact ((nc hj).1 this).2 hb
     have := hP σ' hle
     rw [show decide ks.Nodup = false from decide_eq_false hnn] at this
     exact this
   · refine ⟨fun h => (nomatch h),fun _ => ?_⟩
     skip
     refine ⟨_,σ.next,zbsy (kv := zbbk) (a := ks[j]) hat zbh1 rfl hkk,rfl,hno,?_⟩
     have hni : ks[j] ∉ ks.take j := fun hm => hno _ (List.mem_map.2 ⟨_,hm,rfl⟩) rfl
     refine ⟨i - 1,by simp only [id]; omega,by omega,?_⟩
     refine ⟨trivial,trivial,trivial,?_,?_,?_⟩
     · rw [w1]; congr 2; omega
     · have e1 : ks.length - (i - 1) = j + 1 := by omega
       rw [e1,List.take_succ_eq_append_getElem hj]
       simp only [mg,List.map_append,List.map_cons,List.map_nil]
       exact zbex _ hle hnx
     · have e1 : ks.length - (i - 1) = j + 1 := by omega
       rw [e1]
       exact (nc hj).2 ⟨hnd,hni⟩
theorem zcso : ∀ args τ r τ',zbgy args τ = some (r,τ') → zbqa Try.prog jw args τ r τ' := by
 intro args τ r τ' h σ e ws hr hnt hlen hargs
 unfold zbgy zbkq at h
 split at h
 · rename_i v
   split at h
   · rename_i l hl
     by_cases hbound : l.length ≤ 140737488355328
     rotate_left
     · rw [if_neg hbound] at h; cases h
     rw [if_pos hbound] at h
     obtain ⟨ks,has,he⟩ := Option.map_eq_some_iff.1 h
     simp only [Prod.mk.injEq] at he
     obtain ⟨rfl,rfl⟩ := he
     obtain ⟨w0,rfl⟩ : ∃ w0,ws = [w0] := List.length_eq_one_iff.1 (by simpa using hlen.symm)
     have ht := hargs 0 (by simp)
     simp only [List.getD_cons_zero] at ht
     have hp := tp hl ht
     obtain ⟨m1,m2⟩ := zbw6 has
     have hkey : ∀ a ∈ ks,zba0 (zbbk a) = true ∧ ∃ x,keyOf Try.prog de (zbbk a) = some x := fun a ha => by
      obtain ⟨i,hi,rfl⟩ := List.mem_iff_getElem.1 ha
      exact zb3a _ (zby4 (m2 i hi)).2
     refine zbgv ?_ ?_ hkey (fun a b hab => ?_) (fun hne => ?_) _ fun σ' hle => ⟨e,zbjj hr hnt hle,.pr (.bool _)⟩
     · rw [← m1]; omega
     · rw [← m1]; exact zbt1 hp
     · injection hab
     · have hne' : l ≠ [] := fun h0 => hne (List.eq_nil_of_length_eq_zero (by rw [← m1,h0]; rfl))
       obtain ⟨g,o,s,t',cs,md,q0,q1,q2,q3,q4,q5,q6⟩ := th hne' hp
       have h00 : 0 < l.length := by cases l with | nil => exact absurd rfl hne' | cons => simp
       have hs : s = 1 := by
        rw [← q4 0 h00,(zby4 (m2 0 (by omega))).1]; rfl
       subst hs
       refine ⟨g,o,by rw [q6,m1],fun i hi => ?_⟩
       have hi' : i < l.length := by omega
       have hle : (i + 1) * 1 ≤ l.length * 1 := Nat.mul_le_mul_right _ hi'
       have := q5 i hi' 0 (by omega)
       rw [(zby4 (m2 i hi)).1] at this
       have hlt : o + i * 1 < cs.length := by omega
       unfold aj.load
       rw [q1]
       simp only
       rw [zbsx undef hlt]
       rw [Nat.add_zero] at this
       generalize cs.getD (o + i * 1) undef = c at this
       cases this
       rfl
   · cases h
 · cases h
theorem zbwc : WideMaps.ArrKey Try.prog nr de 2 := ⟨by kernel_rfl,by kernel_rfl,by kernel_rfl,by kernel_rfl⟩
theorem zbh2 : Maps.Keyed Try.prog nr := Maps.Keyed.of_law zbwc.law
theorem zb3b (p : Int × Int) (h : (za36 p.1 && za36 p.2) = true) : zba0 (zbbj p) = true ∧ ∃ x,keyOf Try.prog nr (zbbj p) = some x := by
 simp only [Bool.and_eq_true] at h
 have hu : Try.prog.underlying de = some (.int .i64) := by kernel_rfl
 exact ⟨rfl,_,WideMaps.keyOf_pair zbwc hu ⟨Try.prog.types.size - 1,by kernel_rfl⟩ (zb2s h.1) (zb2s h.2)⟩
theorem zbgw {σ : aj} {w0 : Value} {ks : List (Int × Int)} (hlen : ks.length ≤ 9223372036854775806) (hw : ∃ a s,w0 = .slice a ks.length s) (hk : ∀ a ∈ ks,zba0 (zbbj a) = true ∧ ∃ x,keyOf Try.prog nr (zbbj a) = some x) (hinj : ∀ a b : (Int × Int),zbbj a = zbbj b → a = b)
 (hrow : ks ≠ [] → ∃ g o,w0 = .slice (some ⟨g,o,none⟩) ks.length 2 ∧ ∀ i (h : i < ks.length),σ.row g (o + i * 2) 2 = some [.int .i64 ks[i].1,.int .i64 ks[i].2])
 (Post : Value → aj → Prop) (hP : ∀ σ',σ.le σ' → Post (.bool (decide ks.Nodup)) σ') : lg Try.prog g7 [w0] σ Post := by
 refine zbxl zcry (by simp) ?_
 obtain ⟨a0,s0,hw0⟩ := hw
 simp only [o8,ud,uc,ua,tz,TC.erase,List.map_cons,List.map_nil,evC,evL,zbkr,evI,zbmk,zbkg,t,ci,evO,zbkp,Fr.put,List.getD_cons_zero,reduceIte,Option.some.injEq,Nat.reduceEqDiff,reduceCtorEq,hw0,zblr]
 refine zbxr (fun (i : Nat) fr σ' => i ≤ ks.length ∧ fr 3 = .map (some σ.next) ∧ fr 7 = w0 ∧ fr 8 = .int .i64 ks.length ∧ fr 9 = .int .i64 ((ks.length - i : Nat) : Int) ∧ (σ.le σ' ∧ σ.next < σ'.next ∧ σ'.at σ.next = .map (mg zbbj (ks.take (ks.length - i)))) ∧ (ks.take (ks.length - i)).Nodup) id ks.length ⟨Nat.le_refl _,?_⟩ ?_
 · refine ⟨rfl,hw0.symm,rfl,?_,?_,?_⟩
   · rw [Nat.sub_self]; rfl
   · rw [Nat.sub_self]; exact ⟨σ.le_push _,Nat.lt_succ_self _,σ.at_push_new _⟩
   · rw [Nat.sub_self]; simp
 rintro i fr σ' ⟨hi,f3,f7,f8,f9,⟨hle,hnx,hat⟩,hnd⟩
 have hlt0 : ks.length - i ≤ ks.length := Nat.sub_le _ _
 simp only [z1,t9,t8,t7,t6,t5,t4,TC.erase,List.map_cons,List.map_nil,evC,evL,zbkr,evI,zbmk,zbkg,t,ci,evO,Fr.put,reduceIte,Option.some.injEq,Nat.reduceEqDiff,reduceCtorEq,f3,f7,f8,f9,a8,zaxd,oo,zbbb,a7]
 by_cases h0 : i = 0
 · subst h0
   rw [Nat.sub_zero,List.take_length] at hnd
   have c : decide (((ks.length - 0 : Nat) : Int) < (ks.length : Int)) = false := by simp
   rw [c]
   refine ⟨fun h => (nomatch h),fun _ => ?_⟩
   simp only [zbkc,zbbp,xt,oo,Fr.put,reduceIte]
   have := hP σ' hle
   rw [show decide ks.Nodup = true from decide_eq_true hnd] at this
   exact this
 · have hj : ks.length - i < ks.length := by omega
   have c : decide (((ks.length - i : Nat) : Int) < (ks.length : Int)) = true := decide_eq_true (by omega)
   rw [c]
   refine ⟨fun _ => ?_,fun h => (nomatch h)⟩
   obtain ⟨g,o,hw1,hcell⟩ := hrow (fun h => by rw [h] at hj; cases hj)
   have hc := hcell _ hj
   generalize hJ : ks.length - i = j at *
   have hgl : g < σ.next := by
    refine aj.lt_of_at ?_
    unfold aj.row at hc
    cases hq : σ.at g with
    | dead => rw [hq] at hc; cases hc
    | map es => rw [hq] at hc; cases hc
    | cells t cs md => rfl
   have hc2 : σ'.row g (o + j * 2) 2 = some [.int .i64 ks[j].1,.int .i64 ks[j].2] := by
    unfold aj.row at hc ⊢
    rw [hle.at_ hgl]
    exact hc
   have hkk : ∀ b,b ∈ ks[j] :: ks.take j → zba0 (zbbj b) = true ∧ ∃ x,keyOf Try.prog nr (zbbj b) = some x := fun b hb => by
    rcases List.mem_cons.1 hb with rfl | hb
    · exact hk _ (List.getElem_mem _)
    · exact hk _ (List.mem_of_mem_take hb)
   have w1 : IntKind.i64.wrap ((j : Int) + 1) = ((j + 1 : Nat) : Int) := by rw [IntKind.wrap_i64]; omega
   simp only [hw1,kSl]
   refine ⟨⟨by omega,by omega⟩,?_⟩
   simp only [Int.toNat_natCast,j5,hc2,oo]
   refine ⟨fun k hk => ?_,?_⟩
   · have : k < 2 := hk
     match k,this with
     | 0,_ => rfl
     | 1,_ => rfl
   have hst := zb0i (σ := σ'.push (.cells nr [.int .i64 0,.int .i64 0] .rw)) (g := σ'.next) (t := nr) [.int .i64 ks[j].1,.int .i64 ks[j].2] [.int .i64 0,.int .i64 0] 0 (σ'.at_push_new _) (by simp) (fun v hv => by
    simp only [List.mem_cons,List.not_mem_nil,or_false] at hv
    rcases hv with rfl | rfl <;> rfl) (by simp)
   refine ⟨rfl,?_⟩
   generalize hs2 : (σ'.push (.cells nr [.int .i64 0,.int .i64 0] .rw)).set σ'.next (.cells nr (mj [.int .i64 0,.int .i64 0] 0 [.int .i64 ks[j].1,.int .i64 ks[j].2]) .rw) = σ2 at hst
   have hst' : (σ'.push (.cells nr (Value.agg { toList := [.int .i64 0,.int .i64 0] }).cells.toList .rw)).store σ'.next 0 (Value.agg { toList := [.int .i64 ks[j].1,.int .i64 ks[j].2] }).cells.toList = some σ2 := hst
   rw [hst']
   have le2 : σ'.le σ2 := by
    rw [← hs2]
    exact ⟨Nat.le_succ _,fun i hi => by rw [zbsu (Nat.ne_of_lt hi),xo hi]⟩
   have hle2 : σ.le σ2 := hle.trans le2
   have hnx2 : σ.next < σ2.next := Nat.lt_of_lt_of_le hnx le2.next
   have hat2 : σ2.at σ.next = .map (mg zbbj (ks.take j)) := by rw [le2.at_ hnx]; exact hat
   have hrw : σ2.row σ'.next 0 2 = some [.int .i64 ks[j].1,.int .i64 ks[j].2] := by
    have : σ2.at σ'.next = .cells nr [.int .i64 ks[j].1,.int .i64 ks[j].2] .rw := by
     rw [← hs2]; exact aj.at_set_same _ _ (Nat.lt_succ_self _)
    rw [zy this (by simp)]; rfl
   simp only [hrw]
   refine ⟨_,zbsy (kv := zbbj) (a := ks[j]) hat2 zbh2 rfl hkk,fun e1 he1 hq => ?_,fun hno => ?_⟩
   · obtain ⟨b,hb,rfl⟩ := List.mem_map.1 he1
     have hab := hinj _ _ hq
     subst hab
     refine ⟨fun _ => ?_,fun h => (nomatch h)⟩
     simp only [zbkc,zbbp,xt,oo,Fr.put,reduceIte,Option.some.injEq,Nat.reduceEqDiff,reduceCtorEq]
     have hnn : ¬ ks.Nodup := fun hd => by
      have := (List.Sublist.nodup (List.take_sublist (j + 1) ks) hd)
      exact ((nc hj).1 this).2 hb
     have := hP σ2 hle2
     rw [show decide ks.Nodup = false from decide_eq_false hnn] at this
     exact this
   · refine ⟨fun h => (nomatch h),fun _ => ?_⟩
     skip
     refine ⟨_,σ.next,zbsy (kv := zbbj) (a := ks[j]) hat2 zbh2 rfl hkk,rfl,hno,?_⟩
     have hni : ks[j] ∉ ks.take j := fun hm => hno _ (List.mem_map.2 ⟨_,hm,rfl⟩) rfl
     refine ⟨i - 1,by simp only [id]; omega,by omega,?_⟩
     refine ⟨trivial,trivial,trivial,?_,?_,?_⟩
     · rw [w1]; congr 2; omega
     · have e1 : ks.length - (i - 1) = j + 1 := by omega
       rw [e1,List.take_succ_eq_append_getElem hj]
       simp only [mg,List.map_append,List.map_cons,List.map_nil]
       exact zbex _ hle2 hnx2
     · have e1 : ks.length - (i - 1) = j + 1 := by omega
       rw [e1]
       exact (nc hj).2 ⟨hnd,hni⟩
theorem zcsx : ∀ args τ r τ',zbgz args τ = some (r,τ') → zbqa Try.prog g7 args τ r τ' := by
 intro args τ r τ' h σ e ws hr hnt hlen hargs
 unfold zbgz zbkq at h
 split at h
 · rename_i v
   split at h
   · rename_i l hl
     by_cases hbound : l.length ≤ 140737488355328
     rotate_left
     · rw [if_neg hbound] at h; cases h
     rw [if_pos hbound] at h
     obtain ⟨ks,has,he⟩ := Option.map_eq_some_iff.1 h
     simp only [Prod.mk.injEq] at he
     obtain ⟨rfl,rfl⟩ := he
     obtain ⟨w0,rfl⟩ : ∃ w0,ws = [w0] := List.length_eq_one_iff.1 (by simpa using hlen.symm)
     have ht := hargs 0 (by simp)
     simp only [List.getD_cons_zero] at ht
     have hp := tp hl ht
     obtain ⟨m1,m2⟩ := zbw6 has
     have hkey : ∀ a ∈ ks,zba0 (zbbj a) = true ∧ ∃ x,keyOf Try.prog nr (zbbj a) = some x := fun a ha => by
      obtain ⟨i,hi,rfl⟩ := List.mem_iff_getElem.1 ha
      exact zb3b _ (zby3 (m2 i hi)).2
     refine zbgw ?_ ?_ hkey (fun a b hab => ?_) (fun hne => ?_) _ fun σ' hle => ⟨e,zbjj hr hnt hle,.pr (.bool _)⟩
     · rw [← m1]; omega
     · rw [← m1]; exact zbt1 hp
     · simp only [zbbj,Value.agg.injEq,Array.mk.injEq,List.cons.injEq,Value.int.injEq,true_and,and_true] at hab; exact Prod.ext hab.1 hab.2
     · have hne' : l ≠ [] := fun h0 => hne (List.eq_nil_of_length_eq_zero (by rw [← m1,h0]; rfl))
       obtain ⟨g,o,s,t',cs,md,q0,q1,q2,q3,q4,q5,q6⟩ := th hne' hp
       have h00 : 0 < l.length := by cases l with | nil => exact absurd rfl hne' | cons => simp
       have hs : s = 2 := by
        rw [← q4 0 h00,(zby3 (m2 0 (by omega))).1]; rfl
       subst hs
       refine ⟨g,o,by rw [q6,m1],fun i hi => ?_⟩
       have hi' : i < l.length := by omega
       have hle : (i + 1) * 2 ≤ l.length * 2 := Nat.mul_le_mul_right _ hi'
       have h0 := q5 i hi' 0 (by omega)
       have h1 := q5 i hi' 1 (by omega)
       rw [(zby3 (m2 i hi)).1] at h0 h1
       rw [zy q1 (by omega)]
       have e1 : ((cs.drop (o + i * 2)).take 2).length = 2 := by simp; omega
       obtain ⟨c0,c1,hcc⟩ : ∃ c0 c1,(cs.drop (o + i * 2)).take 2 = [c0,c1] := by
        match hq : (cs.drop (o + i * 2)).take 2,e1 with
        | [a,b],_ => exact ⟨a,b,rfl⟩
       have g0 := dt cs (o + i * 2) 2 0 undef (by omega)
       have g1 := dt cs (o + i * 2) 2 1 undef (by omega)
       rw [hcc] at g0 g1 ⊢
       simp only [List.getD_cons_zero,List.getD_cons_succ] at g0 g1
       rw [← g0] at h0
       rw [← g1] at h1
       have h0 : PR σ (.int .i64 ks[i].1) c0 := h0
       have h1 : PR σ (.int .i64 ks[i].2) c1 := h1
       cases h0
       cases h1
       rfl
   · cases h
 · cases h
end Ic
end Go.Proofs.Ytdcfoaafkppojaa
