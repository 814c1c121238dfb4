/- Each operation of the program that was turned into the shadow's language does what that language says. -/
import Derived.Test.YtdcfoaafkppojaaSh4m
set_option linter.unusedVariables false
set_option linter.unusedSimpArgs false
namespace Go.Proofs.Ytdcfoaafkppojaa.Sh
open Go Go.RowKit
section
variable {P : Program} {B : Nat} {w0 : World} {σ : ak} {m : Mp} {w : World} {K : Value → ak → Prop} {N : Nat} {fr : Fr} {a : Act}
abbrev sv (s : Sem Value) : Sem Next := do pure (.value (← s))
theorem good_load1 {t : TypeId} {v c : Value} (h : Rep B w0 σ m w) (hv : bu m v c) (ha : zaby P t = some false)
    (hK : zab4 v fun a => ma (σ.load a.block a.off) fun v => K v σ) : km P B w0 m K ((sv (Instr.loadAt t c)).run P w) := by
  cases hv with
  | ptr i o hi =>
    simp only [zab4] at hK
    cases hl : σ.load i o with
    | none => rw [hl] at hK; exact hK.elim
    | some x =>
      rw [hl] at hK
      obtain ⟨cc,h1,h2,h3⟩ := h.cell (by rw [← h.next]; exact hi) hl
      simp only [sv,Instr.loadAt,Instr.sureAddr,loadVar,Sem.run_bind,Sem.run_pure,Result.andThen_ok,qn ha,Bool.false_eq_true,if_false,run_load,h1]
      exact .val h h2 hK
  | _ => exact hK.elim
theorem good_loadN {t : TypeId} {n : Nat} {v c : Value} (h : Rep B w0 σ m w) (hv : bu m v c) (ha : zaby P t = some true) (hn : szT P t = some n)
    (hK : zab4 v fun a => ma (σ.row a.block a.off n) fun vs => K (.agg vs.toArray) σ) : km P B w0 m K ((sv (Instr.loadAt t c)).run P w) := by
  cases hv with
  | ptr i o hi =>
    simp only [zab4] at hK
    cases hl : σ.row i o n with
    | none => rw [hl] at hK; exact hK.elim
    | some x =>
      rw [hl] at hK
      obtain ⟨cs,h1,h2,h3,_⟩ := h.row P (by rw [← h.next]; exact hi) hl
      simp only [sv,Instr.loadAt,Instr.sureAddr,loadVar,Sem.run_bind,Sem.run_pure,Result.andThen_ok,qn ha,if_true,pj hn,h2]
      refine .val h (.agg _ _ (by simpa using h1.symm) fun j hj => ?_) hK
      rw [bo,bo]
      exact h3 j (by simpa using hj)
  | _ => exact hK.elim
theorem good_store {t : TypeId} {n : Nat} {v c p q : Value} (h : Rep B w0 σ m w) (hp : bu m p q) (hv : bu m v c) (hn : szT P t = some n)
    (hK : zab4 p fun p => v.cells.size = n ∧ ma (σ.store p.block p.off v.cells.toList) fun σ' => K undef σ') :
    km P B w0 m K ((do (Instr.storeAt t q c); pure .skip : Sem Next).run P w) := by
  cases hp with
  | ptr i o hi =>
    simp only [zab4] at hK
    obtain ⟨hs,hK⟩ := hK
    cases hl : σ.store i o v.cells.toList with
    | none => rw [hl] at hK; exact hK.elim
    | some σ' =>
      rw [hl] at hK
      obtain ⟨e1,e2⟩ := zarc hv
      obtain ⟨w',r1,r2⟩ := Rep.store (m := m) P _ _ rfl rfl v.cells.toList c.cells.toList σ w o 0 h (by rw [← h.next]; exact hi) (by simpa using hl) (by simpa using e1.symm)
        (fun j hj => by rw [cw,cw]; exact e2 j (by simpa using hj))
      simp only [Instr.storeAt,Instr.sureAddr,Sem.run_bind,Sem.run_pure,Result.andThen_ok]
      rw [zaw0 hn _ _ (by rw [← e1]; exact hs),r1]
      exact ⟨m,σ',.refl m,r2,hK⟩
  | _ => exact hK.elim
theorem good_pick {c1 v2 c2 v3 c3 v1 : Value} (h : Rep B w0 σ m w) (h1 : bu m v1 c1) (h2 : bu m v2 c2) (h3 : bu m v3 c3) (hK : zahs v1 fun t => K (bif t then v2 else v3) σ) :
    km P B w0 m K ((do pure (.value (if ← asBool c1 then c2 else c3)) : Sem Next).run P w) := by
  cases h1 with
  | bool b =>
    simp only [asBool,Sem.run_bind,Sem.run_pure,Result.andThen_ok]
    cases b
    · exact .val h h3 hK
    · exact .val h h2 hK
  | _ => exact hK.elim
theorem za51 {op : BinOp} {t : TypeId} {x y : Operand} {v1 c1 v2 c2 : Value} (h : Rep B w0 σ m w) (h1 : bu m v1 c1) (h2 : bu m v2 c2) (hK : ma (zi op v1 v2) fun v => K v σ) :
    km P B w0 m K ((sv (do eqGuard op t x y c1 c2; binOp op t c1 c2)).run P w) := by
  cases hv : zi op v1 v2 with
  | none => rw [hv] at hK; exact hK.elim
  | some v =>
    rw [hv] at hK
    obtain ⟨r1,r2⟩ := vrel_vbin (P := P) (w := w) h1 h2 hv t
    have hg : (eqGuard op t x y c1 c2).run P w = .ok () w := by
      refine zaae ?_ ?_ <;> (cases h1 <;> simp_all [zi])
    simp only [sv,Sem.run_bind,hg,Result.andThen_ok,r1,Sem.run_pure]
    exact .val h r2 hK
theorem zaoa {t : TypeId} (hu : P.underlying t = some .bool) (d : Nat) (p q : Bool) (w : World) : (Op.equalIn (d + 1) t (.bool p) (.bool q)).run P w = .ok (p == q) w := by
  simp [Op.equalIn,run_underlying hu]
theorem zae9 {t : TypeId} (hu : P.underlying t = some .bool) (p q : Bool) (w : World) : (Op.equal t (.bool p) (.bool q)).run P w = .ok (p == q) w := zaoa hu 9999 p q w
theorem za5z {op : BinOp} {neg : Bool} (hop : op = bif neg then .neq else .eql) {t : TypeId} (hu : P.underlying t = some .bool) {x y : Operand} {v1 c1 v2 c2 : Value} (h : Rep B w0 σ m w) (h1 : bu m v1 c1) (h2 : bu m v2 c2)
    (hK : zahs v1 fun p => zahs v2 fun q => K (.bool (bif neg then p != q else p == q)) σ) :
    km P B w0 m K ((sv (do eqGuard op t x y c1 c2; binOp op t c1 c2)).run P w) := by
  cases h1 with
  | bool p =>
    cases h2 with
    | bool q =>
      have hg : (eqGuard op t x y (.bool p) (.bool q)).run P w = .ok () w := zaae (by simp) (by simp)
      subst hop
      cases neg
      · simp only [cond_false] at hg
        simp only [sv,Sem.run_bind,hg,Result.andThen_ok,cond_false,binOp,zae9 hu,Sem.run_pure]
        exact .val h (.bool _) hK
      · simp only [cond_true] at hg
        simp only [sv,Sem.run_bind,hg,Result.andThen_ok,cond_true,binOp,zae9 hu,Sem.run_pure]
        exact .val h (.bool _) hK
    | _ => exact hK.elim
  | _ => exact hK.elim
def zake : NK → Value
  | .p => .pointer none
  | .s => .slice none 0 0
  | .m => .map none
  | .f => .nilFunc
def nilT : NK → TypeDesc → Prop
  | .p,d => ∃ e,d = .pointer e
  | .s,d => ∃ e,d = .slice e
  | .m,d => ∃ k e,d = .map k e
  | .f,d => ∃ x y z,d = .func x y z
theorem zapq {t : TypeId} {d : TypeDesc} (hu : P.underlying t = some d) {k : NK} (hd : nilT k d) {v c : Value} (hv : bu m v c) {b : Bool} (hb : vnil k v = some b) (w : World) (n : Nat) :
    (Op.equalIn (n + 1) t c (zake k)).run P w = .ok b w := by
  cases k with
  | p =>
    obtain ⟨e,rfl⟩ := hd
    cases hv <;> simp [vnil] at hb <;> subst hb <;> simp [zake,Op.equalIn,run_underlying hu]
  | s =>
    obtain ⟨e,rfl⟩ := hd
    cases hv <;> simp [vnil] at hb <;> subst hb <;> simp [zake,Op.equalIn,run_underlying hu]
  | m =>
    obtain ⟨k,e,rfl⟩ := hd
    cases hv <;> simp [vnil] at hb <;> subst hb <;> simp [zake,Op.equalIn,run_underlying hu]
  | f =>
    obtain ⟨x,y,z,rfl⟩ := hd
    cases hv <;> simp [vnil] at hb <;> subst hb <;> simp [zake,Op.equalIn,run_underlying hu]
theorem qt {op : BinOp} {neg : Bool} (hop : op = bif neg then .neq else .eql) {t : TypeId} {d : TypeDesc} (hu : P.underlying t = some d) {k : NK} (hd : nilT k d) {x y : Operand} {v1 c1 : Value} (h : Rep B w0 σ m w) (h1 : bu m v1 c1)
    (hK : ma (vnil k v1) fun b => K (.bool (bif neg then !b else b)) σ) :
    km P B w0 m K ((sv (do eqGuard op t x y c1 (zake k); binOp op t c1 (zake k))).run P w) := by
  cases hb : vnil k v1 with
  | none => rw [hb] at hK; exact hK.elim
  | some b =>
    rw [hb] at hK
    have hq : (Op.equal t c1 (zake k)).run P w = .ok b w := zapq hu hd h1 hb w 9999
    have hg : (eqGuard op t x y c1 (zake k)).run P w = .ok () w := by
      refine zaae ?_ ?_ <;> (cases h1 <;> cases k <;> simp_all [vnil])
    have hbin : (binOp op t c1 (zake k)).run P w = .ok (.bool (bif neg then !b else b)) w := by
      subst hop
      cases neg
      · simp only [cond_false]
        have e : binOp .eql t c1 (zake k) = (do pure (.bool (← Op.equal t c1 (zake k)))) := by cases h1 <;> cases k <;> first | rfl | simp [vnil] at hb
        rw [e]; simp [hq]
      · simp only [cond_true]
        have e : binOp .neq t c1 (zake k) = (do pure (.bool (!(← Op.equal t c1 (zake k))))) := by cases h1 <;> cases k <;> first | rfl | simp [vnil] at hb
        rw [e]; simp [hq]
    simp only [sv,Sem.run_bind,hg,Result.andThen_ok,hbin,Sem.run_pure]
    exact .val h (.bool _) hK
theorem good_un {op : UnOp} {v c : Value} (h : Rep B w0 σ m w) (h1 : bu m v c) (hK : ma (vun op v) fun v => K v σ) : km P B w0 m K ((sv (Op.unary op c)).run P w) := by
  cases hv : vun op v with
  | none => rw [hv] at hK; exact hK.elim
  | some r =>
    rw [hv] at hK
    obtain ⟨r1,r2⟩ := vrel_vun (P := P) (w := w) h1 hv
    simp only [sv,Sem.run_bind,r1,Result.andThen_ok,Sem.run_pure]
    exact .val h r2 hK
theorem good_conv {s t : TypeId} {ks k : IntKind} (hs : P.underlying s = some (.int ks)) (ht : P.underlying t = some (.int k)) {v c : Value} (h : Rep B w0 σ m w) (h1 : bu m v c) (hK : zk v fun _ n => K (.int k (k.wrap n)) σ) :
    km P B w0 m K ((sv (convert s t c)).run P w) := by
  cases h1 with
  | int k' n =>
    simp only [sv,convert,Sem.run_bind,run_underlying hs,run_underlying ht,Result.andThen_ok,Conv.intToInt,Sem.run_pure]
    exact .val h (.int _ _) hK
  | _ => exact hK.elim
theorem good_convS {s t : TypeId} (hs : P.underlying s = some .string) (ht : P.underlying t = some .string) {v c : Value} (h : Rep B w0 σ m w) (h1 : bu m v c) (hK : zaqs v fun _ => K v σ) :
    km P B w0 m K ((sv (convert s t c)).run P w) := by
  cases h1 with
  | string x =>
    simp only [sv,convert,Sem.run_bind,run_underlying hs,run_underlying ht,Result.andThen_ok,Sem.run_pure]
    exact .val h (.string _) hK
  | _ => exact hK.elim
theorem zar6 {t : TypeId} {fields : Array Field} {f : Nat} {fd : Field} {n : Nat} (ht : P.underlying t = some (.struct fields)) (hf : fields[f]? = some fd) (hn : szT P fd.type = some n) (h0 : n ≠ 0) {v c : Value} (h : Rep B w0 σ m w) (h1 : bu m v c)
    (hK : zab4 v fun a => K (.pointer (some ⟨a.block,a.off + fd.offset,none⟩)) σ) : km P B w0 m K ((sv (Instr.fieldAt t c f)).run P w) := by
  cases h1 with
  | ptr i o hi =>
    simp only [sv,Instr.fieldAt,Sem.run_bind,run_underlying ht,Result.andThen_ok,hf,Instr.sureAddr,Sem.run_pure,fieldPlace,pj hn,if_neg h0,j8,Sem.run_ite]
    refine .val h ?_ hK
    have := bu.ptr (m := m) i (o + fd.offset) hi
    rwa [← Nat.add_assoc] at this
  | _ => exact hK.elim
theorem zanw (a : Array Value) (o n j : Nat) (hj : j < n) (ho : o + n ≤ a.size) : (a.extract o (o + n)).getD j undef = a.getD (o + j) undef := by
  rw [Array.getD_eq_getD_getElem?,Array.getD_eq_getD_getElem?,Array.getElem?_extract,if_pos (by omega)]
theorem za1y {t : TypeId} {fields : Array Field} {f : Nat} {fd : Field} (ht : P.underlying t = some (.struct fields)) (hf : fields[f]? = some fd) (ha : zaby P fd.type = some false) {v c : Value} (h : Rep B w0 σ m w) (h1 : bu m v c)
    (hK : zav9 v fun cs => fd.offset < cs.size ∧ K (cs.getD fd.offset undef) σ) : km P B w0 m K ((sv (Instr.field t c f)).run P w) := by
  cases h1 with
  | agg a b hs hv =>
    obtain ⟨hlt,hK⟩ := hK
    have e : b[fd.offset]? = some (b.getD fd.offset undef) := by simp [Array.getD,← hs,hlt]
    simp only [sv,Instr.field,Sem.run_bind,run_underlying ht,Result.andThen_ok,hf,asAgg,Sem.run_pure,part,qn ha,Bool.false_eq_true,if_false,e,Sem.run_ite]
    exact .val h (hv _ hlt) hK
  | _ => exact hK.elim
theorem za1x {t : TypeId} {fields : Array Field} {f : Nat} {fd : Field} {n : Nat} (ht : P.underlying t = some (.struct fields)) (hf : fields[f]? = some fd) (ha : zaby P fd.type = some true) (hn : szT P fd.type = some n) {v c : Value} (h : Rep B w0 σ m w) (h1 : bu m v c)
    (hK : zav9 v fun cs => fd.offset + n ≤ cs.size ∧ K (.agg (cs.extract fd.offset (fd.offset + n))) σ) : km P B w0 m K ((sv (Instr.field t c f)).run P w) := by
  cases h1 with
  | agg a b hs hv =>
    obtain ⟨hlt,hK⟩ := hK
    simp only [sv,Instr.field,Sem.run_bind,run_underlying ht,Result.andThen_ok,hf,asAgg,Sem.run_pure,part,qn ha,if_true,pj hn,Sem.run_ite]
    refine .val h (.agg _ _ (by simp [hs]) fun j hj => ?_) hK
    have hj' : j < n := by simp at hj; omega
    rw [zanw _ _ _ _ hj' hlt,zanw _ _ _ _ hj' (by omega)]
    exact hv _ (by omega)
  | _ => exact hK.elim
theorem zavd {t e : TypeId} {len n : Nat} (ht : P.underlying t = some (.array len e)) (hn : szT P e = some n) {v c v2 c2 : Value} (h : Rep B w0 σ m w) (h1 : bu m v c) (h2 : bu m v2 c2)
    (hK : zab4 v fun a => zk v2 fun _ i => (0 ≤ i ∧ i < len) ∧ K (.pointer (some ⟨a.block,a.off + i.toNat * n,none⟩)) σ) : km P B w0 m K ((sv (Instr.indexAt t c c2)).run P w) := by
  cases h1 with
  | ptr i o hi =>
    cases h2 with
    | int k x =>
      obtain ⟨hx,hK⟩ := hK
      simp only [sv,Instr.indexAt,Sem.run_bind,asIntOf,run_underlying ht,Result.andThen_ok,Instr.sureAddr,Sem.run_pure,if_pos hx,pj hn,j8,Sem.run_ite]
      refine .val h ?_ hK
      have := bu.ptr (m := m) i (o + x.toNat * n) hi
      rwa [← Nat.add_assoc] at this
    | _ => exact hK.elim
  | _ => exact hK.elim
theorem zayr {t e : TypeId} {n : Nat} (ht : P.underlying t = some (.slice e)) (hn : szT P e = some n) {v c v2 c2 : Value} (h : Rep B w0 σ m w) (h1 : bu m v c) (h2 : bu m v2 c2)
    (hK : kSl v fun a len _ => zk v2 fun _ i => (0 ≤ i ∧ i < len) ∧ K (.pointer (some ⟨a.block,a.off + i.toNat * n,none⟩)) σ) : km P B w0 m K ((sv (Instr.indexAt t c c2)).run P w) := by
  cases h1 with
  | slice i o len s k hi hk hr =>
    cases h2 with
    | int k x =>
      obtain ⟨hx,hK⟩ := hK
      simp only [sv,Instr.indexAt,Sem.run_bind,asIntOf,run_underlying ht,Result.andThen_ok,Sem.run_pure,if_pos hx,pj hn,j8,Sem.run_ite]
      refine .val h ?_ hK
      have := bu.ptr (m := m) i (o + x.toNat * n) hi
      rwa [← Nat.add_assoc] at this
    | _ => exact hK.elim
  | sliceE i o s ae =>
    cases h2 with
    | int k x => obtain ⟨hx,hK⟩ := hK; omega
    | _ => exact hK.elim
  | _ => exact hK.elim
theorem zavc {t : TypeId} (ht : P.underlying t = some .string) {v c v2 c2 : Value} (h : Rep B w0 σ m w) (h1 : bu m v c) (h2 : bu m v2 c2)
    (hK : zaqs v fun s => zk v2 fun _ n => (0 ≤ n ∧ n < s.size) ∧ K (.int .u8 (s.data.getD n.toNat 0).toNat) σ) : km P B w0 m K ((sv (Instr.index t c c2)).run P w) := by
  cases h1 with
  | string s =>
    cases h2 with
    | int k x =>
      obtain ⟨hx,hK⟩ := hK
      have hlt : x.toNat < s.size := by omega
      have e : (if 0 ≤ x then s[x.toNat]? else none) = some (s.data.getD x.toNat 0) := by
        rw [if_pos hx.1]
        have hd : x.toNat < s.data.size := hlt
        rw [getElem?_pos s x.toNat hlt]
        have e2 : s.data.getD x.toNat 0 = s.data[x.toNat]'hd := by rw [Array.getD_eq_getD_getElem?,Array.getElem?_eq_getElem hd,Option.getD_some]
        rw [e2]
        rfl
      simp only [sv,Instr.index,Sem.run_bind,asIntOf,run_underlying ht,Result.andThen_ok,Sem.run_pure,e]
      exact .val h (.int _ _) hK
    | _ => exact hK.elim
  | _ => exact hK.elim
theorem zau4 {t : TypeId} {lo hi : Option Operand} (ht : P.underlying t = some .string) (hf : ie m N fr a) (hlo : okOo N lo = true) (hhi : okOo N hi = true) {v c : Value} (h : Rep B w0 σ m w) (h1 : bu m v c)
    (hK : zaqs v fun s => ma (zabz s.size (lo.map (evO fr)) (hi.map (evO fr))) fun lh => K (.string (s.extract lh.1 lh.2)) σ) :
    km P B w0 m K ((sv (Instr.sliceAt t c (lo.map a.eval) (hi.map a.eval) none)).run P w) := by
  cases h1 with
  | string s =>
    simp only [zaqs] at hK
    cases hb : zabz s.size (lo.map (evO fr)) (hi.map (evO fr)) with
    | none => rw [hb] at hK; exact hK.elim
    | some lh =>
      rw [hb] at hK
      obtain ⟨l,hh⟩ := lh
      obtain ⟨cm,r,_,_,_⟩ := zarg (P := P) (w := w) hf hlo hhi hb false s.size (Nat.le_refl _)
      simp only [sv,Instr.sliceAt,Instr.slice,Sem.run_bind,run_underlying ht,Result.andThen_ok,Option.isSome_none,Bool.false_eq_true,if_false,r,Sem.run_pure,Sem.run_ite]
      exact .val h (.string _) hK
  | _ => exact hK.elim
theorem zayl {t e : TypeId} {n : Nat} {lo hi : Option Operand} (ht : P.underlying t = some (.slice e)) (hn : szT P e = some n) (hf : ie m N fr a) (hlo : okOo N lo = true) (hhi : okOo N hi = true) {v c : Value} (h : Rep B w0 σ m w) (h1 : bu m v c)
    (hK : kSl v fun a len s => s = n ∧ ma (zabz len (lo.map (evO fr)) (hi.map (evO fr))) fun lh => K (.slice (some ⟨a.block,a.off + lh.1 * n,none⟩) (lh.2 - lh.1) n) σ) :
    km P B w0 m K ((sv (Instr.sliceAt t c (lo.map a.eval) (hi.map a.eval) none)).run P w) := by
  cases h1 with
  | slice i o len s k hi' hk hr =>
    simp only [kSl] at hK
    obtain ⟨rfl,hK⟩ := hK
    cases hb : zabz len (lo.map (evO fr)) (hi.map (evO fr)) with
    | none => rw [hb] at hK; exact hK.elim
    | some lh =>
      rw [hb] at hK
      obtain ⟨l,hh⟩ := lh
      obtain ⟨cm,r,rfl,hlh,hhn⟩ := zarg (P := P) (w := w) hf hlo hhi hb true k hk
      simp only [sv,Instr.sliceAt,Instr.slice,Sem.run_bind,run_underlying ht,Result.andThen_ok,r,pj hn,Sem.run_pure,Option.map_some,j8]
      refine .val h ?_ hK
      by_cases e : cm = l
      · rw [if_pos e]
        have e1 : hh - l = 0 := by omega
        have e2 : cm - l = 0 := by omega
        rw [e1,e2]
        exact .sliceE i (o + l * s) s _
      · rw [if_neg e]
        have := bu.slice (m := m) i (o + l * s) (hh - l) s (cm - l) hi' (by omega) (by
          rw [← hr,Nat.add_assoc,← Nat.add_mul]; congr 2; omega)
        rwa [← Nat.add_assoc] at this
  | sliceE i o s ae =>
    simp only [kSl] at hK
    obtain ⟨rfl,hK⟩ := hK
    cases hb : zabz 0 (lo.map (evO fr)) (hi.map (evO fr)) with
    | none => rw [hb] at hK; exact hK.elim
    | some lh =>
      rw [hb] at hK
      obtain ⟨l,hh⟩ := lh
      obtain ⟨cm,r,rfl,hlh,hhn⟩ := zarg (P := P) (w := w) hf hlo hhi hb true 0 (Nat.le_refl _)
      have e1 : hh = 0 := by omega
      have e2 : l = 0 := by omega
      subst e1 e2
      simp only [sv,Instr.sliceAt,Instr.slice,Sem.run_bind,run_underlying ht,Result.andThen_ok,r,pj hn,Sem.run_pure,if_true]
      exact .val h (.sliceE i _ s ae) hK
  | _ => exact hK.elim
theorem good_lenS {t : TypeId} {at_ : Array TypeId} (h0 : at_[0]? = some t) (ht : P.underlying t = some .string) {v c : Value} {ty : TypeId} (h : Rep B w0 σ m w) (h1 : bu m v c)
    (hK : zaqs v fun s => K (.int .i64 s.size) σ) : km P B w0 m K ((sv (Builtin.len_ at_ ty #[c])).run P w) := by
  cases h1 with
  | string s =>
    simp only [sv,Builtin.len_,h0,List.getElem?_toArray,List.getElem?_cons_zero,Sem.run_bind,run_underlying ht,Result.andThen_ok,Sem.run_pure,goInt]
    exact .val h (.int _ _) hK
  | _ => exact hK.elim
theorem good_lenL {t e : TypeId} {at_ : Array TypeId} (h0 : at_[0]? = some t) (ht : P.underlying t = some (.slice e)) {v c : Value} {ty : TypeId} (h : Rep B w0 σ m w) (h1 : bu m v c)
    (hK : kSlN v fun n => K (.int .i64 n) σ) : km P B w0 m K ((sv (Builtin.len_ at_ ty #[c])).run P w) := by
  have key : ∀ (ad : Option Addr) (n k : Nat),K (.int .i64 n) σ → km P B w0 m K ((sv (Builtin.len_ at_ ty #[.slice ad n k])).run P w) := fun ad n k hK => by
    simp only [sv,Builtin.len_,h0,List.getElem?_toArray,List.getElem?_cons_zero,Sem.run_bind,run_underlying ht,Result.andThen_ok,Sem.run_pure,goInt]
    exact .val h (.int _ _) hK
  cases h1 with
  | slice i o n s k hi hk hr => exact key _ _ _ hK
  | sliceE i o s ae => exact key _ _ _ hK
  | nilS => exact key _ _ _ hK
  | _ => exact hK.elim
theorem good_min {v c v2 c2 : Value} (h : Rep B w0 σ m w) (h1 : bu m v c) (h2 : bu m v2 c2) {at_ : Array TypeId} {ty : TypeId}
    (hK : zk v fun k a => zk v2 fun _ b => K (.int k (if b < a then b else a)) σ) : km P B w0 m K ((sv (Builtin.min_ at_ ty #[c,c2])).run P w) := by
  cases h1 with
  | int k a => cases h2 with
    | int k' b =>
      simp only [sv,Builtin.min_,List.foldlM_cons,List.foldlM_nil,Builtin.min2,Sem.run_bind,Result.andThen_ok,Sem.run_pure]
      exact .val h (.int _ _) hK
    | _ => exact hK.elim
  | _ => exact hK.elim
theorem good_max {v c v2 c2 : Value} (h : Rep B w0 σ m w) (h1 : bu m v c) (h2 : bu m v2 c2) {at_ : Array TypeId} {ty : TypeId}
    (hK : zk v fun k a => zk v2 fun _ b => K (.int k (if a < b then b else a)) σ) : km P B w0 m K ((sv (Builtin.max_ at_ ty #[c,c2])).run P w) := by
  cases h1 with
  | int k a => cases h2 with
    | int k' b =>
      simp only [sv,Builtin.max_,List.foldlM_cons,List.foldlM_nil,Builtin.max2,Sem.run_bind,Result.andThen_ok,Sem.run_pure,gt_iff_lt]
      exact .val h (.int _ _) hK
    | _ => exact hK.elim
  | _ => exact hK.elim
theorem zahq (hf : ie m N fr a) (xs : List Operand) (h : okOs N xs = true) : ∀ i,i < xs.length → bu m ((xs.map (evO fr)).getD i undef) ((xs.map a.eval).getD i undef) := by
  intro i hi
  have hx : okO N xs[i] = true := by simp [okOs] at h; exact h _ (List.getElem_mem hi)
  simpa [List.getD,hi] using ba hf hx
theorem zaw1 {f : FuncId} (hc : zakn P f = true) (args : Array Value) (w : World) : (callFunc f args).run P w = .ok (.enter f args) w := by
  unfold zakn at hc
  unfold callFunc
  cases hf : P.funcs[f]? with
  | none => simp [hf] at hc
  | some fn =>
    simp only [hf,Bool.and_eq_true,bne_iff_ne,ne_eq] at hc
    have h1 : (fn.name == "runtime.NumGoroutine") = false := by simpa using hc.1
    have h2 : fn.body.isNone = false := by cases hb : fn.body <;> simp_all
    simp only [Sem.run_bind,run_program,Result.andThen_ok,hf,h1,h2,Bool.false_eq_true,if_false,Sem.run_pure]
theorem zats {f : FuncId} {args : List Value} {cargs : Array Value} (h : Rep B w0 σ m w) (hs : cargs.size = args.length) (hv : ∀ i,i < args.length → bu m (args.getD i undef) (cargs.getD i undef)) (hK : io P f args σ K) :
    km P B w0 m K ((callFunc f cargs).run P w) := by
  rw [zaw1 hK.1]
  exact hK.2 B w0 m w cargs h hs hv
theorem zaue {xs ys : List Value} {as bs : Array Value} (h1 : as.size = xs.length) (hx : ∀ i,i < xs.length → bu m (xs.getD i undef) (as.getD i undef)) (h2 : bs.size = ys.length) (hy : ∀ i,i < ys.length → bu m (ys.getD i undef) (bs.getD i undef)) :
    (as ++ bs).size = (xs ++ ys).length ∧ ∀ i,i < (xs ++ ys).length → bu m ((xs ++ ys).getD i undef) ((as ++ bs).getD i undef) := by
  refine ⟨by simp [h1,h2],fun i hi => ?_⟩
  by_cases hlt : i < xs.length
  · have e1 : (xs ++ ys).getD i undef = xs.getD i undef := by simp [List.getD,List.getElem?_append_left hlt]
    have e2 : (as ++ bs).getD i undef = as.getD i undef := by simp [Array.getD_eq_getD_getElem?,Array.getElem?_append_left (show i < as.size by omega)]
    rw [e1,e2]; exact hx i hlt
  · have hlt' : i - xs.length < ys.length := by simp at hi; omega
    have e1 : (xs ++ ys).getD i undef = ys.getD (i - xs.length) undef := by simp [List.getD,List.getElem?_append_right (show xs.length ≤ i by omega)]
    have e2 : (as ++ bs).getD i undef = bs.getD (i - xs.length) undef := by simp [Array.getD_eq_getD_getElem?,Array.getElem?_append_right (show as.size ≤ i by omega),h1]
    rw [e1,e2]; exact hy _ hlt'
theorem zapx {fs : Array Field} : ∀ {ps : List (Nat × Operand)} {l : List (Nat × Nat × Operand)},za4j P fs ps = some l → l.length = ps.length ∧ ∀ (i : Nat) (p : Nat × Nat × Operand),l[i]? = some p →
    ∃ q,ps[i]? = some q ∧ ∃ f : Field,fs[q.1]? = some f ∧ p.1 = f.offset ∧ szT P f.type = some p.2.1 ∧ p.2.2 = q.2
  | [],l,h => by injection h with h; subst h; exact ⟨rfl,fun i p hp => by simp at hp⟩
  | (j,x) :: r,l,h => by
    simp only [za4j] at h
    split at h
    · rename_i f hf
      split at h
      · rename_i n l' hn hl'
        injection h with h; subst h
        obtain ⟨e1,e2⟩ := zapx hl'
        refine ⟨by simp [e1],fun i p hp => ?_⟩
        cases i with
        | zero => simp at hp; subst hp; exact ⟨(j,x),rfl,f,hf,rfl,hn,rfl⟩
        | succ i => exact e2 i p (by simpa using hp)
      · cases h
    · cases h
theorem zaxs {n : Nat} {parts : Array (Nat × Operand)} {qs : List (Nat × Nat × Operand)} (hqs : qs = parts.toList.map fun p => (p.1 * n,n,p.2)) (hf : ie m N fr a) (hx : okPs N qs = true) {i : Nat} {p : Nat × Nat × Value} {c : Nat × Value}
    (hp : (qs.map fun p => (p.1,p.2.1,evO fr p.2.2))[i]? = some p) (hq : (parts.map fun q => (q.1,a.eval q.2)).toList[i]? = some c) : p.1 = c.1 * n ∧ p.2.1 = n ∧ bu m p.2.2 c.2 := by
  subst hqs
  simp only [List.getElem?_map,Option.map_eq_some_iff] at hp
  obtain ⟨p',⟨q,hq1,rfl⟩,rfl⟩ := hp
  rw [Array.toList_map,List.getElem?_map,hq1] at hq
  simp only [Option.map_some,Option.some.injEq] at hq
  subst hq
  refine ⟨rfl,rfl,ba hf ?_⟩
  have := List.all_eq_true.1 hx (q.1 * n,n,q.2) (List.mem_map.2 ⟨q,List.mem_of_getElem? hq1,rfl⟩)
  exact this
set_option maxHeartbeats 1000000 in
theorem zayo {dst : Option Tmp} {ty : TypeId} {pos : String} {after : Array Edge} {guard : Option (Nat × Bool)} {x : Operand} {i : I} (hc : gh P N ⟨dst,.move x,ty,pos,after,guard⟩ = some i) (h : Rep B w0 σ m w) (hf : ie m N fr a) (hK : evI P i K fr σ) : km P B w0 m K ((execOp a.eval ⟨dst,.move x,ty,pos,after,guard⟩).run P w) := by
  simp only [gh] at hc
  split at hc
  · rename_i hx; injection hc with hc; subst hc
    exact .val h (ba hf hx) hK
  · cases hc
set_option maxHeartbeats 1000000 in
theorem zar4 {dst : Option Tmp} {ty : TypeId} {pos : String} {after : Array Edge} {guard : Option (Nat × Bool)} {x : Operand} {i : I} (hc : gh P N ⟨dst,.assign x,ty,pos,after,guard⟩ = some i) (h : Rep B w0 σ m w) (hf : ie m N fr a) (hK : evI P i K fr σ) : km P B w0 m K ((execOp a.eval ⟨dst,.assign x,ty,pos,after,guard⟩).run P w) := by
  simp only [gh] at hc
  split at hc
  · rename_i hx; injection hc with hc; subst hc
    exact .val h (ba hf hx) hK
  · cases hc
set_option maxHeartbeats 1000000 in
theorem zayn {dst : Option Tmp} {ty : TypeId} {pos : String} {after : Array Edge} {guard : Option (Nat × Bool)} {c x y : Operand} {i : I} (hc : gh P N ⟨dst,.pick c x y,ty,pos,after,guard⟩ = some i) (h : Rep B w0 σ m w) (hf : ie m N fr a) (hK : evI P i K fr σ) : km P B w0 m K ((execOp a.eval ⟨dst,.pick c x y,ty,pos,after,guard⟩).run P w) := by
  simp only [gh] at hc
  split at hc
  · rename_i hx; injection hc with hc; subst hc
    simp only [Bool.and_eq_true] at hx
    exact good_pick h (ba hf hx.1.1) (ba hf hx.1.2) (ba hf hx.2) hK
  · cases hc
set_option maxHeartbeats 1000000 in
theorem zavb {dst : Option Tmp} {ty : TypeId} {pos : String} {after : Array Edge} {guard : Option (Nat × Bool)} {t : TypeId} {i : I} (hc : gh P N ⟨dst,.alloc t,ty,pos,after,guard⟩ = some i) (h : Rep B w0 σ m w) (hf : ie m N fr a) (hK : evI P i K fr σ) : km P B w0 m K ((execOp a.eval ⟨dst,.alloc t,ty,pos,after,guard⟩).run P w) := by
  simp only [gh] at hc
  split at hc
  · rename_i inf hinf
    split at hc
    · rename_i z hz
      split at hc
      · rename_i hcl
        injection hc with hc; subst hc
        obtain ⟨h1,h2⟩ := hK
        have := za50 (P := P) (K := K) h (zaq8 (m := m) hcl) t h1 h2
        simpa [execOp,Instr.alloc,zeroValue,run_typeInfo w hinf,hz,zas3,evO] using this
      · cases hc
    · cases hc
  · cases hc
set_option maxHeartbeats 1000000 in
theorem za1t {dst : Option Tmp} {ty : TypeId} {pos : String} {after : Array Edge} {guard : Option (Nat × Bool)} {t : TypeId} {x : Operand} {i : I} (hc : gh P N ⟨dst,.box t x,ty,pos,after,guard⟩ = some i) (h : Rep B w0 σ m w) (hf : ie m N fr a) (hK : evI P i K fr σ) : km P B w0 m K ((execOp a.eval ⟨dst,.box t x,ty,pos,after,guard⟩).run P w) := by
  simp only [gh] at hc
  split at hc
  · split at hc
    · rename_i hx
      injection hc with hc; subst hc
      obtain ⟨h1,h2⟩ := hK
      have := za50 (P := P) (K := K) h (ba hf hx) t h1 h2
      simpa [execOp,Instr.box,zas3] using this
    · cases hc
  · cases hc
set_option maxHeartbeats 1000000 in
theorem zayp {dst : Option Tmp} {ty : TypeId} {pos : String} {after : Array Edge} {guard : Option (Nat × Bool)} {t : TypeId} {x : Operand} {i : I} (hc : gh P N ⟨dst,.load t x,ty,pos,after,guard⟩ = some i) (h : Rep B w0 σ m w) (hf : ie m N fr a) (hK : evI P i K fr σ) : km P B w0 m K ((execOp a.eval ⟨dst,.load t x,ty,pos,after,guard⟩).run P w) := by
  simp only [gh] at hc
  split at hc
  · rename_i n ha hn
    split at hc
    · rename_i hx
      injection hc with hc; subst hc
      exact good_loadN h (ba hf hx) ha hn hK
    · cases hc
  · rename_i n ha hn
    split at hc
    · rename_i hx
      injection hc with hc; subst hc
      exact good_load1 h (ba hf hx) ha hK
    · cases hc
  · cases hc
set_option maxHeartbeats 1000000 in
theorem zau5 {dst : Option Tmp} {ty : TypeId} {pos : String} {after : Array Edge} {guard : Option (Nat × Bool)} {t : TypeId} {p x : Operand} {i : I} (hc : gh P N ⟨dst,.store t p x,ty,pos,after,guard⟩ = some i) (h : Rep B w0 σ m w) (hf : ie m N fr a) (hK : evI P i K fr σ) : km P B w0 m K ((execOp a.eval ⟨dst,.store t p x,ty,pos,after,guard⟩).run P w) := by
  simp only [gh] at hc
  split at hc
  · rename_i n hn
    split at hc
    · rename_i hx
      injection hc with hc; subst hc
      simp only [Bool.and_eq_true] at hx
      exact good_store h (ba hf hx.1) (ba hf hx.2) hn hK
    · cases hc
  · cases hc
set_option maxHeartbeats 1000000 in
theorem zaod {dst : Option Tmp} {ty : TypeId} {pos : String} {after : Array Edge} {guard : Option (Nat × Bool)} {x : Operand} {i : I} (hc : gh P N ⟨dst,.nilCheck x,ty,pos,after,guard⟩ = some i) (h : Rep B w0 σ m w) (hf : ie m N fr a) (hK : evI P i K fr σ) : km P B w0 m K ((execOp a.eval ⟨dst,.nilCheck x,ty,pos,after,guard⟩).run P w) := by
  simp only [gh] at hc
  split at hc
  · rename_i hx
    injection hc with hc; subst hc
    have h1 := ba hf hx
    simp only [evI] at hK
    simp only [execOp]
    generalize evO fr x = v at h1 hK
    generalize a.eval x = c at h1
    cases h1 with
    | ptr i o hi => exact .val h (.ptr i o hi) hK
    | func fn a b c d ha hb h1 h2 =>
      cases fn with
      | func f => exact .val h (.func _ a b c d ha hb h1 h2) hK
      | _ => exact hK.elim
    | _ => exact hK.elim
  · cases hc
set_option maxHeartbeats 1000000 in
theorem zava {dst : Option Tmp} {ty : TypeId} {pos : String} {after : Array Edge} {guard : Option (Nat × Bool)} {op : BinOp} {t : TypeId} {x y : Operand} {yt : TypeId} {i : I} (hc : gh P N ⟨dst,.binOp op t x y yt,ty,pos,after,guard⟩ = some i) (h : Rep B w0 σ m w) (hf : ie m N fr a) (hK : evI P i K fr σ) : km P B w0 m K ((execOp a.eval ⟨dst,.binOp op t x y yt,ty,pos,after,guard⟩).run P w) := by
  simp only [gh] at hc
  split at hc
  · rename_i hx
    simp only [Bool.and_eq_true] at hx
    have h1 := ba hf hx.1
    have h2 := ba hf hx.2
    split at hc
    · injection hc with hc; subst hc; exact za51 h h1 h2 hK
    · injection hc with hc; subst hc; exact za51 h h1 h2 hK
    · rename_i hu
      split at hc
      · injection hc with hc; subst hc; exact za5z (neg := false) rfl hu h h1 h2 hK
      · injection hc with hc; subst hc; exact za5z (neg := true) rfl hu h h1 h2 hK
      · cases hc
    · rename_i e hu
      split at hc
      · injection hc with hc; subst hc; exact qt (neg := false) (k := .p) rfl hu ⟨_,rfl⟩ h h1 hK
      · injection hc with hc; subst hc; exact qt (neg := true) (k := .p) rfl hu ⟨_,rfl⟩ h h1 hK
      · cases hc
    · rename_i e hu
      split at hc
      · injection hc with hc; subst hc; exact qt (neg := false) (k := .s) rfl hu ⟨_,rfl⟩ h h1 hK
      · injection hc with hc; subst hc; exact qt (neg := true) (k := .s) rfl hu ⟨_,rfl⟩ h h1 hK
      · cases hc
    · rename_i e hu
      split at hc
      · injection hc with hc; subst hc; exact qt (neg := false) (k := .m) rfl hu ⟨_,_,rfl⟩ h h1 hK
      · injection hc with hc; subst hc; exact qt (neg := true) (k := .m) rfl hu ⟨_,_,rfl⟩ h h1 hK
      · cases hc
    · rename_i e hu
      split at hc
      · injection hc with hc; subst hc; exact qt (neg := false) (k := .f) rfl hu ⟨_,_,_,rfl⟩ h h1 hK
      · injection hc with hc; subst hc; exact qt (neg := true) (k := .f) rfl hu ⟨_,_,_,rfl⟩ h h1 hK
      · cases hc
    · rename_i fs hu
      have : zatt P 4 t = none := by simp [zatt,hu]
      rw [this] at hc
      cases hc
    · rename_i n e hu
      have : zatt P 4 t = none := by simp [zatt,hu]
      rw [this] at hc
      cases hc
    · cases hc
  · cases hc
set_option maxHeartbeats 1000000 in
theorem zaym {dst : Option Tmp} {ty : TypeId} {pos : String} {after : Array Edge} {guard : Option (Nat × Bool)} {op : UnOp} {t : TypeId} {x : Operand} {i : I} (hc : gh P N ⟨dst,.unOp op t x,ty,pos,after,guard⟩ = some i) (h : Rep B w0 σ m w) (hf : ie m N fr a) (hK : evI P i K fr σ) : km P B w0 m K ((execOp a.eval ⟨dst,.unOp op t x,ty,pos,after,guard⟩).run P w) := by
  simp only [gh] at hc
  split at hc
  · rename_i hx; injection hc with hc; subst hc
    exact good_un h (ba hf hx) hK
  · cases hc
set_option maxHeartbeats 1000000 in
theorem zaqy {dst : Option Tmp} {ty : TypeId} {pos : String} {after : Array Edge} {guard : Option (Nat × Bool)} {s t : TypeId} {x : Operand} {i : I} (hc : gh P N ⟨dst,.convert s t x,ty,pos,after,guard⟩ = some i) (h : Rep B w0 σ m w) (hf : ie m N fr a) (hK : evI P i K fr σ) : km P B w0 m K ((execOp a.eval ⟨dst,.convert s t x,ty,pos,after,guard⟩).run P w) := by
  simp only [gh] at hc
  split at hc
  · rename_i hx
    split at hc
    · rename_i ks k hs ht
      injection hc with hc; subst hc
      exact good_conv hs ht h (ba hf hx) hK
    · rename_i hs ht
      injection hc with hc; subst hc
      exact good_convS hs ht h (ba hf hx) hK
    · rename_i e hs ht
      split at hc
      · rename_i he
        injection hc with hc; subst hc
        exact zayk hs ht he h (ba hf hx) hK
      · cases hc
    · rename_i e hs ht
      split at hc
      · rename_i he
        injection hc with hc; subst hc
        exact good_toStr hs ht he h (ba hf hx) hK
      · cases hc
    · cases hc
  · cases hc
set_option maxHeartbeats 1000000 in
theorem zalz {dst : Option Tmp} {ty : TypeId} {pos : String} {after : Array Edge} {guard : Option (Nat × Bool)} {t : TypeId} {x : Operand} {f : Nat} {i : I} (hc : gh P N ⟨dst,.fieldAddr t x f,ty,pos,after,guard⟩ = some i) (h : Rep B w0 σ m w) (hf : ie m N fr a) (hK : evI P i K fr σ) : km P B w0 m K ((execOp a.eval ⟨dst,.fieldAddr t x f,ty,pos,after,guard⟩).run P w) := by
  simp only [gh] at hc
  split at hc
  · rename_i hx
    split at hc
    · rename_i fields ht
      split at hc
      · rename_i fd hfd
        split at hc
        · rename_i n hn
          split at hc
          · cases hc
          · rename_i h0
            injection hc with hc; subst hc
            exact zar6 ht hfd hn h0 h (ba hf hx) hK
        · cases hc
      · cases hc
    · cases hc
  · cases hc
set_option maxHeartbeats 1000000 in
theorem zau8 {dst : Option Tmp} {ty : TypeId} {pos : String} {after : Array Edge} {guard : Option (Nat × Bool)} {t : TypeId} {x : Operand} {f : Nat} {i : I} (hc : gh P N ⟨dst,.field t x f,ty,pos,after,guard⟩ = some i) (h : Rep B w0 σ m w) (hf : ie m N fr a) (hK : evI P i K fr σ) : km P B w0 m K ((execOp a.eval ⟨dst,.field t x f,ty,pos,after,guard⟩).run P w) := by
  simp only [gh] at hc
  split at hc
  · rename_i hx
    split at hc
    · rename_i fields ht
      split at hc
      · rename_i fd hfd
        split at hc
        · rename_i n ha hn
          injection hc with hc; subst hc
          exact za1x ht hfd ha hn h (ba hf hx) hK
        · rename_i n ha hn
          injection hc with hc; subst hc
          exact za1y ht hfd ha h (ba hf hx) hK
        · cases hc
      · cases hc
    · cases hc
  · cases hc
set_option maxHeartbeats 1000000 in
theorem zaly {dst : Option Tmp} {ty : TypeId} {pos : String} {after : Array Edge} {guard : Option (Nat × Bool)} {t : TypeId} {x i' : Operand} {i : I} (hc : gh P N ⟨dst,.indexAddr t x i',ty,pos,after,guard⟩ = some i) (h : Rep B w0 σ m w) (hf : ie m N fr a) (hK : evI P i K fr σ) : km P B w0 m K ((execOp a.eval ⟨dst,.indexAddr t x i',ty,pos,after,guard⟩).run P w) := by
  simp only [gh] at hc
  split at hc
  · rename_i hx
    simp only [Bool.and_eq_true] at hx
    split at hc
    · rename_i len e ht
      split at hc
      · rename_i n hn
        injection hc with hc; subst hc
        exact zavd ht hn h (ba hf hx.1) (ba hf hx.2) hK
      · cases hc
    · rename_i e ht
      split at hc
      · rename_i n hn
        injection hc with hc; subst hc
        exact zayr ht hn h (ba hf hx.1) (ba hf hx.2) hK
      · cases hc
    · cases hc
  · cases hc
set_option maxHeartbeats 1000000 in
theorem zau7 {dst : Option Tmp} {ty : TypeId} {pos : String} {after : Array Edge} {guard : Option (Nat × Bool)} {t : TypeId} {x i' : Operand} {i : I} (hc : gh P N ⟨dst,.index t x i',ty,pos,after,guard⟩ = some i) (h : Rep B w0 σ m w) (hf : ie m N fr a) (hK : evI P i K fr σ) : km P B w0 m K ((execOp a.eval ⟨dst,.index t x i',ty,pos,after,guard⟩).run P w) := by
  simp only [gh] at hc
  split at hc
  · rename_i hx
    simp only [Bool.and_eq_true] at hx
    split at hc
    · rename_i ht
      injection hc with hc; subst hc
      exact zavc ht h (ba hf hx.1) (ba hf hx.2) hK
    · rename_i len e ht
      split at hc
      · rename_i ha hn
        injection hc with hc; subst hc
        exact zave ht ha hn h (ba hf hx.1) (ba hf hx.2) hK
      · rename_i n ha hn
        injection hc with hc; subst hc
        exact zar5 ht ha hn h (ba hf hx.1) (ba hf hx.2) hK
      · cases hc
    · cases hc
  · cases hc
set_option maxHeartbeats 1000000 in
theorem zau6 {dst : Option Tmp} {ty : TypeId} {pos : String} {after : Array Edge} {guard : Option (Nat × Bool)} {t : TypeId} {x : Operand} {lo hi mx : Option Operand} {i : I} (hc : gh P N ⟨dst,.slice t x lo hi mx,ty,pos,after,guard⟩ = some i) (h : Rep B w0 σ m w) (hf : ie m N fr a) (hK : evI P i K fr σ) : km P B w0 m K ((execOp a.eval ⟨dst,.slice t x lo hi mx,ty,pos,after,guard⟩).run P w) := by
  cases mx with
  | some q => simp [gh] at hc
  | none =>
    simp only [gh] at hc
    split at hc
    · rename_i hx
      simp only [Bool.and_eq_true] at hx
      split at hc
      · rename_i ht
        injection hc with hc; subst hc
        exact zau4 ht hf hx.1.2 hx.2 h (ba hf hx.1.1) hK
      · rename_i e ht
        split at hc
        · rename_i n hn
          injection hc with hc; subst hc
          exact zayl ht hn hf hx.1.2 hx.2 h (ba hf hx.1.1) hK
        · cases hc
      · cases hc
    · cases hc
set_option maxHeartbeats 1000000 in
theorem zau9 {dst : Option Tmp} {ty : TypeId} {pos : String} {after : Array Edge} {guard : Option (Nat × Bool)} {t : TypeId} {parts : Array (Nat × Operand)} {i : I} (hc : gh P N ⟨dst,.build t parts,ty,pos,after,guard⟩ = some i) (h : Rep B w0 σ m w) (hf : ie m N fr a) (hK : evI P i K fr σ) : km P B w0 m K ((execOp a.eval ⟨dst,.build t parts,ty,pos,after,guard⟩).run P w) := by
  have hex : execOp a.eval ⟨dst,.build t parts,ty,pos,after,guard⟩ = (do pure (.value (← Instr.build t (parts.map fun q => (q.1,a.eval q.2))))) := rfl
  rw [hex]
  simp only [gh] at hc
  split at hc
  · rename_i fs z ht hz
    split at hc
    · rename_i ps hps
      split at hc
      · rename_i hx
        simp only [Bool.and_eq_true] at hx
        injection hc with hc; subst hc
        have hm := zapx hps
        refine good_build (ps := ps.map fun (p : Nat × Nat × Operand) => (p.1,p.2.1,evO fr p.2.2)) (cps := parts.map fun q => (q.1,a.eval q.2)) ht hz hx.1.2 hx.2 h (by simp [hm.1]) (fun i p c hp hq => ?_) hK
        simp only [List.getElem?_map,Option.map_eq_some_iff] at hp
        obtain ⟨p',hp',rfl⟩ := hp
        obtain ⟨q,hq1,f,hf1,hf2,hf3,hf4⟩ := hm.2 i p' hp'
        have hc2 : c = (q.1,a.eval q.2) := by
          rw [Array.toList_map,List.getElem?_map,hq1] at hq
          simpa using hq.symm
        subst hc2
        refine ⟨f,hf1,hf2,hf3,?_⟩
        rw [← hf4]
        exact ba hf (by
          have := List.all_eq_true.1 hx.1.1 p' (List.mem_of_getElem? hp')
          exact this)
      · cases hc
    · cases hc
  · rename_i len e z ht hz
    split at hc
    · rename_i n hn
      split at hc
      · rename_i hx
        simp only [Bool.and_eq_true] at hx
        injection hc with hc; subst hc
        obtain ⟨qs,hqs⟩ : ∃ qs : List (Nat × Nat × Operand),qs = parts.toList.map fun p => (p.1 * n,n,p.2) := ⟨_,rfl⟩
        rw [← hqs] at hK hx
        have hsz : (parts.map fun q => (q.1,a.eval q.2)).size = (qs.map fun (p : Nat × Nat × Operand) => (p.1,p.2.1,evO fr p.2.2)).length := by rw [hqs]; simp
        have hK' : ma (zaac z.cells.toList (qs.map fun (p : Nat × Nat × Operand) => (p.1,p.2.1,evO fr p.2.2))) fun cs => K (.agg cs.toArray) σ := by simp only [evI] at hK; exact hK
        exact za1z ht hn hz hx.2 h hsz (fun i p c hp hq => zaxs hqs hf hx.1 hp hq) hK'
      · cases hc
    · cases hc
  · cases hc
set_option maxHeartbeats 1000000 in
theorem zakh {dst : Option Tmp} {ty : TypeId} {pos : String} {after : Array Edge} {guard : Option (Nat × Bool)} {t : TypeId} {len : Nat} {parts : Array (Nat × Operand)} {i : I} (hc : gh P N ⟨dst,.buildSlice t len parts,ty,pos,after,guard⟩ = some i) (h : Rep B w0 σ m w) (hf : ie m N fr a) (hK : evI P i K fr σ) : km P B w0 m K ((execOp a.eval ⟨dst,.buildSlice t len parts,ty,pos,after,guard⟩).run P w) := by
  have hex : execOp a.eval ⟨dst,.buildSlice t len parts,ty,pos,after,guard⟩ = (do pure (.value (← Instr.buildSlice t len (parts.map fun q => (q.1,a.eval q.2))))) := rfl
  rw [hex]
  simp only [gh] at hc
  split at hc
  · rename_i e ht
    split at hc
    · rename_i n z hn hz
      split at hc
      · rename_i hx
        simp only [Bool.and_eq_true,beq_iff_eq,decide_eq_true_eq,bne_iff_ne] at hx
        injection hc with hc; subst hc
        obtain ⟨qs,hqs⟩ : ∃ qs : List (Nat × Nat × Operand),qs = parts.toList.map fun p => (p.1 * n,n,p.2) := ⟨_,rfl⟩
        rw [← hqs] at hK hx
        have hsz : (parts.map fun q => (q.1,a.eval q.2)).size = (qs.map fun (p : Nat × Nat × Operand) => (p.1,p.2.1,evO fr p.2.2)).length := by rw [hqs]; simp
        have hK' : ma (zaac (zah7 len z.cells.toList) (qs.map fun (p : Nat × Nat × Operand) => (p.1,p.2.1,evO fr p.2.2))) fun cs => cs.all scalar = true ∧ ∃ md,K (.slice (some ⟨σ.next,0,none⟩) len n) (σ.push (.cells e cs md)) := by simp only [evI] at hK; exact hK
        exact zays ht hn hz hx.1.1.1.2 hx.1.1.2 hx.1.2 hx.2 h hsz (fun i p c hp hq => zaxs hqs hf hx.1.1.1.1 hp hq) hK'
      · cases hc
    · cases hc
  · cases hc
set_option maxHeartbeats 1000000 in
theorem zalx {dst : Option Tmp} {ty : TypeId} {pos : String} {after : Array Edge} {guard : Option (Nat × Bool)} {t : TypeId} {l c : Operand} {i : I} (hc : gh P N ⟨dst,.makeSlice t l c,ty,pos,after,guard⟩ = some i) (h : Rep B w0 σ m w) (hf : ie m N fr a) (hK : evI P i K fr σ) : km P B w0 m K ((execOp a.eval ⟨dst,.makeSlice t l c,ty,pos,after,guard⟩).run P w) := by
  simp only [gh] at hc
  split at hc
  · rename_i hx
    simp only [Bool.and_eq_true] at hx
    split at hc
    · rename_i e ht
      split at hc
      · rename_i inf z hi hz
        split at hc
        · rename_i hy
          simp only [Bool.and_eq_true,beq_iff_eq,bne_iff_ne] at hy
          injection hc with hc; subst hc
          exact za1w ht hi hz hy.1.1.1 hy.1.1.2 hy.1.2 hy.2 h (ba hf hx.1) (ba hf hx.2) hK
        · cases hc
      · cases hc
    · cases hc
  · cases hc
set_option maxHeartbeats 1000000 in
theorem zaqw {dst : Option Tmp} {ty : TypeId} {pos : String} {after : Array Edge} {guard : Option (Nat × Bool)} {t : TypeId} {r : Option Operand} {i : I} (hc : gh P N ⟨dst,.makeMap t r,ty,pos,after,guard⟩ = some i) (h : Rep B w0 σ m w) (hf : ie m N fr a) (hK : evI P i K fr σ) : km P B w0 m K ((execOp a.eval ⟨dst,.makeMap t r,ty,pos,after,guard⟩).run P w) := by
  cases r with
  | some r => simp [gh] at hc
  | none =>
    simp only [gh] at hc
    injection hc with hc; subst hc
    exact good_mkMap h hK
set_option maxHeartbeats 1000000 in
theorem zar3 {dst : Option Tmp} {ty : TypeId} {pos : String} {after : Array Edge} {guard : Option (Nat × Bool)} {t : TypeId} {x j : Operand} {ok : Bool} {i : I} (hc : gh P N ⟨dst,.lookup t x j ok,ty,pos,after,guard⟩ = some i) (h : Rep B w0 σ m w) (hf : ie m N fr a) (hK : evI P i K fr σ) : km P B w0 m K ((execOp a.eval ⟨dst,.lookup t x j ok,ty,pos,after,guard⟩).run P w) := by
  cases ok with
  | true => simp [gh] at hc
  | false =>
    simp only [gh] at hc
    split at hc
    · rename_i hx
      simp only [Bool.and_eq_true] at hx
      split at hc
      · rename_i kt et ht
        split at hc
        · rename_i hz
          injection hc with hc; subst hc
          exact za1v ht hz h (ba hf hx.1) (ba hf hx.2) hK
        · cases hc
      · cases hc
    · cases hc
set_option maxHeartbeats 1000000 in
theorem zalw {dst : Option Tmp} {ty : TypeId} {pos : String} {after : Array Edge} {guard : Option (Nat × Bool)} {t : TypeId} {x j v : Operand} {i : I} (hc : gh P N ⟨dst,.mapUpdate t x j v,ty,pos,after,guard⟩ = some i) (h : Rep B w0 σ m w) (hf : ie m N fr a) (hK : evI P i K fr σ) : km P B w0 m K ((execOp a.eval ⟨dst,.mapUpdate t x j v,ty,pos,after,guard⟩).run P w) := by
  simp only [gh] at hc
  split at hc
  · rename_i hx
    simp only [Bool.and_eq_true] at hx
    split at hc
    · rename_i kt et ht
      injection hc with hc; subst hc
      exact za1u ht h (ba hf hx.1.1) (ba hf hx.1.2) (ba hf hx.2) hK
    · cases hc
  · cases hc
set_option maxHeartbeats 1000000 in
theorem zaoe {dst : Option Tmp} {ty : TypeId} {pos : String} {after : Array Edge} {guard : Option (Nat × Bool)} {fn : Fn} {first captured : Array Operand} {i : I} (hc : gh P N ⟨dst,.makeFunc fn first captured,ty,pos,after,guard⟩ = some i) (h : Rep B w0 σ m w) (hf : ie m N fr a) (hK : evI P i K fr σ) : km P B w0 m K ((execOp a.eval ⟨dst,.makeFunc fn first captured,ty,pos,after,guard⟩).run P w) := by
  simp only [gh] at hc
  split at hc
  · rename_i hx
    injection hc with hc; subst hc
    simp only [Bool.and_eq_true] at hx
    have h1 := zahq hf _ hx.1
    have h2 := zahq hf _ hx.2
    refine .val h (.func fn _ _ _ _ (by simp) (by simp) (fun i hi => ?_) (fun i hi => ?_)) hK
    · rw [bo,← cw,Array.toList_map]; exact h1 i (by simpa using hi)
    · rw [bo,← cw,Array.toList_map]; exact h2 i (by simpa using hi)
  · cases hc
set_option maxHeartbeats 1000000 in
theorem zaqx {dst : Option Tmp} {ty : TypeId} {pos : String} {after : Array Edge} {guard : Option (Nat × Bool)} {x : Operand} {i' : Nat} {i : I} (hc : gh P N ⟨dst,.extract x i',ty,pos,after,guard⟩ = some i) (h : Rep B w0 σ m w) (hf : ie m N fr a) (hK : evI P i K fr σ) : km P B w0 m K ((execOp a.eval ⟨dst,.extract x i',ty,pos,after,guard⟩).run P w) := by
  simp only [gh] at hc
  split at hc
  · rename_i hx
    injection hc with hc; subst hc
    have h1 := ba hf hx
    simp only [evI] at hK
    simp only [execOp]
    generalize evO fr x = v at h1 hK
    generalize a.eval x = c at h1
    cases h1 with
    | tuple p q hs hv =>
      obtain ⟨hlt,hK⟩ := hK
      have e : q[i']? = some (q.getD i' undef) := by simp [Array.getD,← hs,hlt]
      simp only [Instr.extract,e,Sem.run_bind,Sem.run_pure,Result.andThen_ok]
      exact .val h (hv _ hlt) hK
    | _ => exact hK.elim
  · cases hc
set_option maxHeartbeats 1000000 in
theorem zayq {dst : Option Tmp} {ty : TypeId} {pos : String} {after : Array Edge} {guard : Option (Nat × Bool)} {cl : Call} {i : I} (hc : gh P N ⟨dst,.call cl,ty,pos,after,guard⟩ = some i) (h : Rep B w0 σ m w) (hf : ie m N fr a) (hK : evI P i K fr σ) : km P B w0 m K ((execOp a.eval ⟨dst,.call cl,ty,pos,after,guard⟩).run P w) := by
  simp only [gh] at hc
  split at hc
  · rename_i hx
    have ha := zahq hf _ hx
    have hargs : (cl.args.map a.eval).size = (cl.args.toList.map (evO fr)).length ∧ ∀ i,i < (cl.args.toList.map (evO fr)).length → bu m ((cl.args.toList.map (evO fr)).getD i undef) ((cl.args.map a.eval).getD i undef) :=
      ⟨by simp,fun i hi => by rw [← cw,Array.toList_map]; exact ha i (by simpa using hi)⟩
    obtain ⟨callee,args,argTypes⟩ := cl
    simp only at hc hx hargs ha
    split at hc
    · rename_i f _
      split at hc
      · injection hc with hc; subst hc
        simp only [execOp,resolve,Act.eval,Deferred.ofValue,Sem.run_bind,Sem.run_pure,Result.andThen_ok,invoke,Array.empty_append,Array.append_empty]
        exact zats h hargs.1 hargs.2 hK
      · cases hc
    · rename_i x _
      split at hc
      · rename_i hxx
        injection hc with hc; subst hc
        have h1 := ba hf hxx
        simp only [evI] at hK
        simp only [execOp,resolve]
        generalize evO fr x = v at h1 hK
        generalize a.eval x = c at h1
        cases h1 with
        | func fn p q r s hp hq h1 h2 =>
          cases fn with
          | func f =>
            simp only [Deferred.ofValue,Sem.run_bind,Sem.run_pure,Result.andThen_ok,invoke]
            obtain ⟨e1,e2⟩ := zaue (xs := p.toList) (as := r) (by simpa using hp.symm) (fun i hi => by rw [cw]; exact h1 i (by simpa using hi)) hargs.1 hargs.2
            obtain ⟨e3,e4⟩ := zaue (ys := q.toList) (bs := s) e1 e2 (by simpa using hq.symm) (fun i hi => by rw [cw]; exact h2 i (by simpa using hi))
            exact zats h e3 e4 hK
          | _ => exact hK.elim
        | _ => exact hK.elim
      · cases hc
    · split at hc
      · rename_i x t hax hat
        have hax' : args = #[x] := by apply Array.toList_inj.1; simpa using hax
        subst hax'
        have hxx : okO N x = true := by simpa [okOs] using hx
        split at hc
        · rename_i ht
          injection hc with hc; subst hc
          simp only [execOp,resolve,Sem.run_bind,Sem.run_pure,Result.andThen_ok,invoke,builtin,List.map_toArray,List.map_cons,List.map_nil]
          have q := good_lenS (P := P) (ty := ty) hat ht h (ba hf hxx) hK
          simpa only [sv,Sem.run_bind,Sem.run_pure] using q
        · rename_i e ht
          injection hc with hc; subst hc
          simp only [execOp,resolve,Sem.run_bind,Sem.run_pure,Result.andThen_ok,invoke,builtin,List.map_toArray,List.map_cons,List.map_nil]
          have q := good_lenL (P := P) (ty := ty) hat ht h (ba hf hxx) hK
          simpa only [sv,Sem.run_bind,Sem.run_pure] using q
        · cases hc
      · cases hc
    · split at hc
      · rename_i s x t u hax hat
        have hax' : args = #[s,x] := by apply Array.toList_inj.1; simpa using hax
        have hat' : argTypes = #[t,u] := by apply Array.toList_inj.1; simpa using hat
        subst hax' hat'
        have hxx : okO N s = true ∧ okO N x = true := by simpa [okOs] using hx
        split at hc
        · rename_i e e2 ht hu
          split at hc
          · rename_i inf z hi hz
            split at hc
            · rename_i hy
              simp only [Bool.and_eq_true,beq_iff_eq,bne_iff_ne] at hy
              obtain ⟨⟨rfl,h2⟩,h3⟩ := hy
              injection hc with hc; subst hc
              have q := za10 (P := P) (ty := ty) ht hi hz h2 h3 h (ba hf hxx.1) (ba hf hxx.2) hK
              simp only [execOp,resolve,Sem.run_bind,Sem.run_pure,Result.andThen_ok,invoke,builtin,List.map_toArray,List.map_cons,List.map_nil]
              simpa only [Sem.run_bind,Sem.run_pure] using q
            · cases hc
          · cases hc
        · rename_i e ht hu
          split at hc
          · rename_i inf z hi hz
            split at hc
            · rename_i hy
              simp only [Bool.and_eq_true,beq_iff_eq] at hy
              injection hc with hc; subst hc
              have q := zayt (P := P) (ty := ty) ht hu hi hz hy.1.1 hy.1.2 hy.2 h (ba hf hxx.1) (ba hf hxx.2) hK
              simp only [execOp,resolve,Sem.run_bind,Sem.run_pure,Result.andThen_ok,invoke,builtin,List.map_toArray,List.map_cons,List.map_nil]
              simpa only [Sem.run_bind,Sem.run_pure] using q
            · cases hc
          · cases hc
        · cases hc
      · cases hc
    · split at hc
      · rename_i x y hax
        have hax' : args = #[x,y] := by apply Array.toList_inj.1; simpa using hax
        subst hax'
        have hxx : okO N x = true ∧ okO N y = true := by simpa [okOs] using hx
        injection hc with hc; subst hc
        simp only [execOp,resolve,Sem.run_bind,Sem.run_pure,Result.andThen_ok,invoke,builtin,List.map_toArray,List.map_cons,List.map_nil]
        have q := good_min (P := P) (at_ := argTypes) (ty := ty) h (ba hf hxx.1) (ba hf hxx.2) hK
        simpa only [sv,Sem.run_bind,Sem.run_pure] using q
      · cases hc
    · split at hc
      · rename_i x y hax
        have hax' : args = #[x,y] := by apply Array.toList_inj.1; simpa using hax
        subst hax'
        have hxx : okO N x = true ∧ okO N y = true := by simpa [okOs] using hx
        injection hc with hc; subst hc
        simp only [execOp,resolve,Sem.run_bind,Sem.run_pure,Result.andThen_ok,invoke,builtin,List.map_toArray,List.map_cons,List.map_nil]
        have q := good_max (P := P) (at_ := argTypes) (ty := ty) h (ba hf hxx.1) (ba hf hxx.2) hK
        simpa only [sv,Sem.run_bind,Sem.run_pure] using q
      · cases hc
    · cases hc
  · cases hc
theorem good_of (o : Oper) (i : I) (hc : gh P N o = some i) (h : Rep B w0 σ m w) (hf : ie m N fr a) (hK : evI P i K fr σ) : km P B w0 m K ((execOp a.eval o).run P w) := by
  obtain ⟨dst,op,ty,pos,after,guard⟩ := o
  cases op with
  | move x => exact zayo hc h hf hK
  | assign x => exact zar4 hc h hf hK
  | pick c x y => exact zayn hc h hf hK
  | alloc t => exact zavb hc h hf hK
  | box t x => exact za1t hc h hf hK
  | load t x => exact zayp hc h hf hK
  | store t p x => exact zau5 hc h hf hK
  | nilCheck x => exact zaod hc h hf hK
  | binOp op t x y yt => exact zava hc h hf hK
  | unOp op t x => exact zaym hc h hf hK
  | convert s t x => exact zaqy hc h hf hK
  | fieldAddr t x f => exact zalz hc h hf hK
  | field t x f => exact zau8 hc h hf hK
  | indexAddr t x i => exact zaly hc h hf hK
  | index t x i => exact zau7 hc h hf hK
  | slice t x lo hi mx => exact zau6 hc h hf hK
  | build t parts => exact zau9 hc h hf hK
  | buildSlice t len parts => exact zakh hc h hf hK
  | makeSlice t l c => exact zalx hc h hf hK
  | makeMap t r => exact zaqw hc h hf hK
  | lookup t x j ok => exact zar3 hc h hf hK
  | mapUpdate t x j v => exact zalw hc h hf hK
  | makeFunc fn first captured => exact zaoe hc h hf hK
  | extract x i => exact zaqx hc h hf hK
  | call cl => exact zayq hc h hf hK
  | _ => simp [gh] at hc
end
end Go.Proofs.Ytdcfoaafkppojaa.Sh
