import Derived.Test.YtgkkienmocpnbaaShD
import Derived.Deep.LoopGhost
set_option linter.unusedVariables false
set_option linter.unusedSimpArgs false
/- Regions in the text's order, branches, zbh0, loops, functions: what each asks for; that the model does so. -/
namespace Go.Proofs.Ytgkkienmocpnbaa.Sh
open Go Go.RowKit
structure Ins where
 dst:Option Nat
 i:I
 guard:Option (Nat × Bool)
inductive DTr (α:Type) where
 | nil
 | cons (x:α) (r:DTr α)
 | alt (x:α) (r:DTr α) (y:α) (s:DTr α)
def DTr.map {α β:Type} (f:α → β):DTr α → DTr β
 | .nil => .nil
 | .cons x r => .cons (f x) (r.map f)
 | .alt x r y s => .alt (f x) (r.map f) (f y) (s.map f)
def DTr.join {α:Type}:DTr α → DTr α → DTr α
 | .nil,u => u
 | .cons x r,u => .cons x (r.join u)
 | .alt x r y s,u => .alt x (r.join u) y (s.join u)
theorem zblw {α β:Type} (f:α → β) (u:DTr α):∀ t:DTr α,(t.join u).map f = (t.map f).join (u.map f)
 | .nil => rfl
 | .cons x r => by simp only [DTr.join,DTr.map,zblw f u r]
 | .alt x r y s => by simp only [DTr.join,DTr.map,zblw f u r,zblw f u s]
inductive IC where
 | skip
 | ops (l:List Ins)
 | draw (l:List (Ins × List Ins))
 | drawT (t:DTr (Ins × List Ins))
 | seq (a b:IC)
 | cond (c:Operand) (a b:IC)
 | block (id:Nat) (a:IC)
 | loop (a:IC)
 | exit (id:Nat)
 | ret
def zbhi (N:Nat) (ops:Array Oper) (g:Option (Nat × Bool)):Option (Option (Nat × Bool)) :=
 match g with
 | none => some none
 | some (j,b) => match (ops[j]?).bind (·.dst) with
  | some t => if t < N then some (some (t,b)) else none
  | none => none
def zbc0 (P:Program) (N:Nat) (ops:Array Oper) (o:Oper):Option Ins :=
 match ff P N o,zbhi N ops o.guard with
 | some i,some g => some ⟨o.dst,i,g⟩
 | _,_ => none
def zbf7 (P:Program) (N:Nat) (ops:Array Oper):List Oper → Option (List Ins)
 | [] => some []
 | o :: r => match zbc0 P N ops o,zbf7 P N ops r with
  | some x,some l => some (x :: l)
  | _,_ => none
def zbg9 (P:Program) (x:Ins) (K:Fr → ah → Prop) (fr:Fr) (σ:ah):Prop :=
 match x.guard with
 | none => evI P x.i (fun v σ' => K (fr.put x.dst v) σ') fr σ
 | some (t,b) => (fr t = .bool b → evI P x.i (fun v σ' => K (fr.put x.dst v) σ') fr σ) ∧ (fr t ≠ .bool b → K (fr.put x.dst undef) σ)
def evL (P:Program):List Ins → (Fr → ah → Prop) → Fr → ah → Prop
 | [],K => K
 | x :: r,K => zbg9 P x (evL P r K)
def zbfj (B:Nat) (w0:World) (m:Mp) (N:Nat) (Q:Exit → Fr → ah → Prop):Exit → Act → World → Prop:=fun e a' w' =>
 ∃ m' fr' σ',m.le m' ∧ Rep B w0 σ' m' w' ∧ gg m' N fr' a' ∧ Q e fr' σ'
def SWp (P:Program) (N:Nat) (c:Code) (Q:Exit → Fr → ah → Prop) (fr:Fr) (σ:ah):Prop :=
 ∀ B w0 m w a,Rep B w0 σ m w → gg m N fr a → c.wp P (zbfj B w0 m N Q) a w
theorem zbfj.le {B:Nat} {w0:World} {m m':Mp} {N:Nat} {Q Q':Exit → Fr → ah → Prop} (hm:m.le m') (hq:∀ e fr σ,Q e fr σ → Q' e fr σ):∀ e a w,zbfj B w0 m' N Q e a w → zbfj B w0 m N Q' e a w :=
 fun e a w ⟨m2,fr',σ',h1,h2,h3,h4⟩ => ⟨m2,fr',σ',hm.trans h1,h2,h3,hq _ _ _ h4⟩
section
variable {P:Program} {N:Nat}
def za9a (fr:Fr):Option (Nat × Bool) → Prop
 | none => True
 | some (t,b) => fr t = .bool b
theorem zbv4 {ops:Array Oper} {o:Oper} {m:Mp} {fr:Fr} {a:Act} (hf:gg m N fr a) {g:Option (Nat × Bool)} (hg:zbhi N ops o.guard = some g) :
 Region.wanted o (yielded ops a.tmps) = true ↔ za9a fr g:=by
 unfold zbhi at hg
 cases ho:o.guard with
 | none =>
  rw [ho] at hg
  injection hg with hg
  subst hg
  simp [Region.wanted,ho,za9a]
 | some jb =>
  obtain ⟨j,b⟩:=jb
  rw [ho] at hg
  simp only at hg
  cases hd:(ops[j]?).bind (·.dst) with
  | none => rw [hd] at hg; cases hg
  | some t =>
   rw [hd] at hg
   simp only at hg
   split at hg
   · rename_i ht
     injection hg with hg
     subst hg
     have hv:=hf.at_ t ht
     have hs:=hf.size
     have e:a.tmps[t]? = some (a.tmps.getD t undef):=by simp [Array.getD,hs,ht]
     simp only [Region.wanted,ho,yielded,hd,Option.bind_some,e,za9a]
     generalize a.tmps.getD t undef = c at hv
     generalize fr t = v at hv
     cases hv <;> simp
   · cases hg
theorem za3x {ops:Array Oper} {B:Nat} {w0:World} {K:Fr → ah → Prop} {Q:Exit → Act → World → Prop}:∀ (l:List Oper) (k:Nat) (xs:List Ins),(∀ j,l[j]? = ops[k + j]?) → zbf7 P N ops l = some xs →
 ∀ (m:Mp) (fr:Fr) (σ:ah) (w:World) (a:Act),Rep B w0 σ m w → gg m N fr a → evL P xs K fr σ →
 (∀ m' fr' σ' a' w',m.le m' → Rep B w0 σ' m' w' → gg m' N fr' a' → K fr' σ' → Q .normal a' w') → wpOps P ops Q (List.range' k l.length) a w:=by
 intro l
 induction l with
 | nil =>
  intro k xs _ hc m fr σ w a hr hf hev hQ
  simp only [zbf7] at hc
  injection hc with hc
  subst hc
  exact hQ m fr σ a w (.refl m) hr hf hev
 | cons o r ih =>
  intro k xs hl hc m fr σ w a hr hf hev hQ
  simp only [zbf7] at hc
  split at hc
  · rename_i x l' hx hl'
    injection hc with hc
    subst hc
    have h0:ops[k]? = some o:=by simpa using (hl 0).symm
    have hrest:∀ j,r[j]? = ops[k + 1 + j]?:=fun j => by
     have:=hl (j + 1)
     simpa [Nat.add_assoc,Nat.add_comm 1 j] using this
    simp only [zbc0] at hx
    split at hx
    · rename_i i g hi hg
      injection hx with hx
      subst hx
      have hw:=zbv4 (ops:=ops) hf hg
      simp only [List.length_cons,List.range'_succ,wpOps,h0]
      have go:evI P i (fun v σ' => evL P l' K (fr.put o.dst v) σ') fr σ → o.wp P a w (wpOps P ops Q (List.range' (k + 1) r.length)) Q:=fun hi' =>
       zbyh (za9c o i hi hr hf hi') fun v c m' σ' w' h1 h2 h3 h4 =>
        ih (k + 1) l' hrest hl' m' (fr.put o.dst v) σ' w' (a.put o.dst c) h3 ((hf.mono h1).put _ h2) h4
         fun m2 fr2 σ2 a2 w2 h5 h6 h7 h8 => hQ m2 fr2 σ2 a2 w2 (h1.trans h5) h6 h7 h8
      cases g with
      | none =>
       rw [if_pos (hw.2 trivial)]
       exact .inl (go hev)
      | some tb =>
       obtain ⟨t,b⟩:=tb
       obtain ⟨e1,e2⟩:=hev
       by_cases hfr:fr t = .bool b
       · rw [if_pos (hw.2 hfr)]
         exact .inl (go (e1 hfr))
       · rw [if_neg (fun h => hfr (hw.1 h))]
         exact ih (k + 1) l' hrest hl' m (fr.put o.dst undef) σ w (a.put o.dst undef) hr (hf.put _ (.undef m)) (e2 hfr) hQ
    · cases hx
  · cases hc
def jw (P:Program) (x:Ins) (K:Fr → ah → Prop) (fr:Fr) (σ:ah):Prop :=
 match x.guard with
 | none => cw P x.i (fun v σ' => K (fr.put x.dst v) σ') fr σ
 | some (t,b) => (fr t = .bool b → cw P x.i (fun v σ' => K (fr.put x.dst v) σ') fr σ) ∧ (fr t ≠ .bool b → K (fr.put x.dst undef) σ)
theorem vg {x:Ins} {K K':Fr → ah → Prop} {fr:Fr} {σ:ah} (h:jw P x K fr σ) (hK:∀ fr σ,K fr σ → K' fr σ):jw P x K' fr σ:=by
 unfold jw at *
 split at h
 · exact zbrl h fun v σ' h => hK _ _ h
 · exact ⟨fun e => zbrl (h.1 e) fun v σ' h => hK _ _ h,fun e => hK _ _ (h.2 e)⟩
def zbjn (l:List Operand):List Nat:=l.filterMap fun | .tmp t => some t | _ => none
def Ins.looks (x:Ins):List Nat:=(match x.guard with | some (t,_) => [t] | none => []) ++ zbjn x.i.ops
def kf (d:Option Nat) (l:List Nat):Bool:=match d with | some d => !(l.contains d) | none => true
def apart (y x:Ins):Bool:=kf y.dst x.looks && kf x.dst y.looks && kf y.dst x.dst.toList
def zbhj (y x:Cls):Bool:=match y,x with
 | .P,_ => true
 | .R,.W => false
 | .R,_ => true
 | _,_ => false
theorem zblq {fr:Fr} {d:Option Nat} {v:Value} {l:List Nat} (h:kf d l = true) {t:Nat} (ht:t ∈ l):fr.put d v t = fr t:=by
 cases d with
 | none => rfl
 | some d =>
  simp only [kf,Bool.not_eq_true',List.contains_eq_mem,decide_eq_false_iff_not] at h
  simp only [Fr.put]
  rw [if_neg]
  rintro rfl
  exact h ht
theorem zbi6 {fr:Fr} {d:Option Nat} {v:Value} {x:Ins} (h:kf d x.looks = true):pm fr (fr.put d v) x.i.ops:=by
 intro o ho
 cases o with
 | tmp t =>
  refine zblq h ?_
  simp only [Ins.looks,zbjn,List.mem_append,List.mem_filterMap]
  exact .inr ⟨_,ho,rfl⟩
 | _ => rfl
theorem zbh3 {fr:Fr} {d:Option Nat} {v:Value} {x:Ins} (h:kf d x.looks = true) {t:Nat} {b:Bool} (hg:x.guard = some (t,b)):fr.put d v t = fr t:=by
 refine zblq h ?_
 simp [Ins.looks,hg]
theorem zbnf {fr:Fr} {d e:Option Nat} {u v:Value} (h:kf d e.toList = true):(fr.put d u).put e v = (fr.put e v).put d u:=by
 cases d with
 | none => rfl
 | some d =>
  cases e with
  | none => rfl
  | some e =>
   have hne:d ≠ e:=by
    simp [kf] at h
    exact h
   funext s
   simp only [Fr.put]
   by_cases h1:s = d
   · subst h1; simp [hne]
   · simp [h1]
theorem zbma {fr fr':Fr} {l:List Operand} (h:pm fr fr' l):pm fr' fr l:=fun x hx => (h x hx).symm
def gdP (fr:Fr) (g:Option (Nat × Bool)):Prop:=match g with | none => True | some (t,b) => fr t = .bool b
theorem zb7k {y:Ins} {K:Fr → ah → Prop} {fr:Fr} {σ:ah} (hc:am y.i = .P ∨ am y.i = .R) (h:jw P y K fr σ) :
 ∃ v,(¬ gdP fr y.guard → v = undef) ∧ K (fr.put y.dst v) σ ∧ ∀ fr' σ' (K':Fr → ah → Prop),pm fr fr' y.i.ops → (∀ t b,y.guard = some (t,b) → fr' t = fr t) → (am y.i = .R → σ.le σ') → K' (fr'.put y.dst v) σ' → jw P y K' fr' σ':=by
 have key:cw P y.i (fun v σ' => K (fr.put y.dst v) σ') fr σ → ∃ v,K (fr.put y.dst v) σ ∧ ∀ fr' σ' (K':Fr → ah → Prop),pm fr fr' y.i.ops → (am y.i = .R → σ.le σ') → K' (fr'.put y.dst v) σ' → cw P y.i (fun v σ' => K' (fr'.put y.dst v) σ') fr' σ':=by
  intro h
  rw [x8 (by rcases hc with h | h <;> rw [h] <;> simp)] at h
  rcases hc with hc | hc
  · obtain ⟨v,h1,h2⟩:=zbhb hc h
    exact ⟨v,h1,fun fr' σ' K' ha _ hK => by rw [x8 (by rw [hc]; simp)]; exact h2 fr' σ' _ ha hK⟩
  · obtain ⟨v,h1,h2⟩:=zbf5 hc h
    exact ⟨v,h1,fun fr' σ' K' ha hl hK => by rw [x8 (by rw [hc]; simp)]; exact h2 fr' σ' _ ha (hl hc) hK⟩
 unfold jw at h
 split at h
 · rename_i hg
   obtain ⟨v,h1,h2⟩:=key h
   exact ⟨v,fun hn => absurd (by rw [hg]; trivial) hn,h1,fun fr' σ' K' ha _ hl hK => by unfold jw; rw [hg]; exact h2 fr' σ' K' ha hl hK⟩
 · rename_i t b hg
   by_cases ht:fr t = .bool b
   · obtain ⟨v,h1,h2⟩:=key (h.1 ht)
     refine ⟨v,fun hn => absurd (by rw [hg]; exact ht) hn,h1,fun fr' σ' K' ha hgt hl hK => ?_⟩
     unfold jw; rw [hg]
     have:=hgt t b hg
     exact ⟨fun _ => h2 fr' σ' K' ha hl hK,fun hne => absurd (this.trans ht) hne⟩
   · refine ⟨undef,fun _ => rfl,h.2 ht,fun fr' σ' K' ha hgt hl hK => ?_⟩
     unfold jw; rw [hg]
     have:=hgt t b hg
     exact ⟨fun e => absurd (this.symm.trans e) ht,fun _ => hK⟩
theorem zb7j {x:Ins} {K K':Fr → ah → Prop} {fr fr':Fr} {σ:ah} (ha:pm fr fr' x.i.ops) (hg:∀ t b,x.guard = some (t,b) → fr' t = fr t)
 (hK:∀ u σ',(am x.i ≠ .W → σ.le σ') → K (fr.put x.dst u) σ' → K' (fr'.put x.dst u) σ') (h:jw P x K fr σ):jw P x K' fr' σ:=by
 have key:cw P x.i (fun v σ' => K (fr.put x.dst v) σ') fr σ → cw P x.i (fun v σ' => K' (fr'.put x.dst v) σ') fr' σ:=by
  intro h
  cases hc:am x.i with
  | P =>
   rw [x8 (by rw [hc]; simp)] at h ⊢
   obtain ⟨v,h1,h2⟩:=zbhb hc h
   exact h2 fr' σ _ ha (hK v σ (fun _ => .refl _) h1)
  | R =>
   rw [x8 (by rw [hc]; simp)] at h ⊢
   obtain ⟨v,h1,h2⟩:=zbf5 hc h
   exact h2 fr' σ _ ha (.refl _) (hK v σ (fun _ => .refl _) h1)
  | T => exact zbe6 hc h ha fun v σ' hl h => hK v σ' (fun _ => hl) h
  | W => exact zbe5 hc h ha fun v σ' h => hK v σ' (fun e => absurd hc e) h
 unfold jw at *
 split at h
 · exact key h
 · rename_i t b hgd
   have e:=hg t b hgd
   exact ⟨fun e1 => key (h.1 (e.symm.trans e1)),fun e1 => hK undef σ (fun _ => .refl _) (h.2 fun e2 => e1 (e.trans e2))⟩
def Ins.dsts (x:Ins):List Nat:=x.looks ++ x.dst.toList
def kq (P:Program) (y:Ins) (fr:Fr) (σ:ah):Prop:=gdP fr y.guard → evI P y.i (fun u _ => ∀ d,y.dst = some d → u = fr d) fr σ
def zbiv (P:Program) (ys:List Ins) (fr:Fr) (σ:ah):Prop:=match ys with
 | [] => True
 | y :: r => kq P y fr σ ∧ zbiv P r fr σ
theorem zbmm {ys:List Ins} {fr:Fr} {σ:ah}:zbiv P ys fr σ ↔ ∀ y ∈ ys,kq P y fr σ:=by
 induction ys with
 | nil => simp [zbiv]
 | cons y r ih => simp [zbiv,ih]
def dq (P:Program) (x:Ins × List Ins) (K:Fr → ah → Prop) (fr:Fr) (σ:ah):Prop:=jw P x.1 (fun fr' σ' => zbiv P x.2 fr' σ' ∧ K fr' σ') fr σ
theorem zbl4 {x:Ins × List Ins} {K K':Fr → ah → Prop} {fr:Fr} {σ:ah} (h:dq P x K fr σ) (hK:∀ fr σ,K fr σ → K' fr σ):dq P x K' fr σ:=vg h fun _ _ h => ⟨h.1,hK _ _ h.2⟩
theorem zbnp {x:Ins × List Ins} {K:Fr → ah → Prop} {fr:Fr} {σ:ah} (h:dq P x K fr σ):jw P x.1 K fr σ:=vg h fun _ _ h => h.2
theorem zb2e {x:Ins} {K:Fr → ah → Prop} {fr:Fr} {σ:ah}:dq P (x,[]) K fr σ ↔ jw P x K fr σ:=⟨zbnp,fun h => vg h fun _ _ h => ⟨trivial,h⟩⟩
def db (P:Program):List (Ins × List Ins) → (Fr → ah → Prop) → Fr → ah → Prop
 | [],K => K
 | x :: r,K => match x.2 with | [] => jw P x.1 (db P r K) | _ :: _ => dq P x (db P r K)
theorem rr {x:Ins × List Ins} {r:List (Ins × List Ins)} {K:Fr → ah → Prop} {fr:Fr} {σ:ah}:db P (x :: r) K fr σ ↔ dq P x (db P r K) fr σ:=by
 obtain ⟨x,ys⟩:=x
 cases ys with
 | nil => exact zb2e.symm
 | cons y ys => exact Iff.rfl
def bv (P:Program):DTr (Ins × List Ins) → (Fr → ah → Prop) → Fr → ah → Prop
 | .nil,K => K
 | .cons x r,K => dq P x (bv P r K)
 | .alt x r y t,K => fun fr σ => dq P x (bv P r K) fr σ ∧ dq P y (bv P t K) fr σ
theorem zbl3 {u:DTr (Ins × List Ins)} {K:Fr → ah → Prop}:∀ t:DTr (Ins × List Ins),bv P (t.join u) K = bv P t (bv P u K)
 | .nil => rfl
 | .cons x r => by simp only [DTr.join,bv,zbl3 r]
 | .alt x r y s => by simp only [DTr.join,bv,zbl3 r,zbl3 s]
theorem zbco {l m:List (Ins × List Ins)} {K:Fr → ah → Prop}:db P (l ++ m) K = db P l (db P m K):=by
 induction l with
 | nil => rfl
 | cons x r ih =>
  obtain ⟨x,ys⟩:=x
  cases ys with
  | nil => show jw P x (db P (r ++ m) K) = _; rw [ih]; rfl
  | cons y ys => show dq P (x,y :: ys) (db P (r ++ m) K) = _; rw [ih]; rfl
theorem zbsb {fr:Fr} {d:Option Nat} {v:Value} {y:Ins} (h:kf d y.looks = true):pm fr (fr.put d v) y.i.ops ∧ (∀ t b,y.guard = some (t,b) → (fr.put d v) t = fr t):=⟨zbi6 h,fun t b hg => zbh3 h hg⟩
theorem zbwp {d:Option Nat} {l r:List Nat} (h:kf d (l ++ r) = true):kf d l = true ∧ kf d r = true:=by
 cases d with
 | none => exact ⟨rfl,rfl⟩
 | some d => simpa [kf] using h
theorem za9h {fr fr':Fr} {g:Option (Nat × Bool)} (h:∀ t b,g = some (t,b) → fr' t = fr t):gdP fr' g ↔ gdP fr g:=by
 cases g with
 | none => exact Iff.rfl
 | some tb => obtain ⟨t,b⟩:=tb; simp only [gdP]; rw [h t b rfl]
theorem zb73 {y:Ins} {fr fr':Fr} {σ:ah} (hc:am y.i = .R) (h1:pm fr fr' y.i.ops) (h2:∀ t b,y.guard = some (t,b) → fr' t = fr t) (h3:∀ d,y.dst = some d → fr' d = fr d) (h:kq P y fr σ):kq P y fr' σ:=by
 intro hg
 obtain ⟨v,e,h⟩:=zbf5 hc (h ((za9h h2).1 hg))
 exact h fr' σ _ h1 (.refl _) fun d hd => (e d hd).trans (h3 d hd).symm
structure Ent where
 k:Nat
 x:Ins
 ys:List (Nat × Ins)
def Ent.out (e:Ent):Ins × List Ins:=(e.x,e.ys.map (·.2))
def zbiu (anc:List Nat) (y x:Ent):Bool :=
 y.ys.isEmpty && apart y.x x.x && (zbhj (am y.x.i) (am x.x.i) || (decide (am y.x.i = .R) && x.ys.any (fun z => z.1 == y.k) && kf y.x.dst y.x.looks)) &&
 x.ys.all fun z => (z.1 == y.k) || ((anc.getD z.1 0).testBit y.k) || (kf y.x.dst z.2.dsts)
theorem zbp6 {y:Ins} {k:Nat} {x:Ins} {ys:List (Nat × Ins)} {K:Fr → ah → Prop} {fr:Fr} {σ:ah} (hap:apart y x = true) (hcl:zbhj (am y.i) (am x.i) = true ∨ ((am y.i = .R ∧ ∃ z ∈ ys,z.1 = k) ∧ kf y.dst y.looks = true)) (hoth:∀ z ∈ ys,z.1 = k ∨ kf y.dst z.2.dsts = true) (hR:∀ z ∈ ys,am z.2.i = .R ∧ (z.1 = k → z.2 = y))
 (h:jw P y (dq P (x,ys.map (·.2)) K) fr σ):dq P (x,(ys.filter fun z => z.1 != k).map (·.2)) (jw P y K) fr σ:=by
 simp only [apart,Bool.and_eq_true] at hap
 obtain ⟨⟨h1,h2⟩,h3⟩:=hap
 have hy:am y.i = .P ∨ am y.i = .R:=by
  rcases hcl with hcl | hcl
  · cases hc:am y.i <;> rw [hc] at hcl <;> simp [zbhj] at hcl ⊢
  · exact .inr hcl.1.1
 have hfirst:=zb7k hy h
 -- what is told when the guard does not hold
 obtain ⟨v,hvu,hx,hrest⟩:=hfirst
 refine zb7j (zbma (zbi6 h1)) (fun t b hg => (zbh3 h1 hg).symm) (fun u σ' hl hk => ?_) hx
 obtain ⟨hst,hk⟩:=hk
 rw [zbmm] at hst
 refine ⟨?_,?_⟩
 · rw [zbmm]
   intro z hz
   obtain ⟨⟨kz,z'⟩,hz1,rfl⟩:=List.mem_map.1 hz
   simp only [List.mem_filter,bne_iff_ne,ne_eq] at hz1
   have hs:=hst z' (List.mem_map.2 ⟨_,hz1.1,rfl⟩)
   have hf:kf y.dst z'.dsts = true:=by
    rcases hoth _ hz1.1 with e | e
    · exact absurd e hz1.2
    · exact e
   obtain ⟨f1,f2⟩:=zbwp hf
   have e:(fr.put y.dst v).put x.dst u = (fr.put x.dst u).put y.dst v:=zbnf h3
   rw [e] at hs
   obtain ⟨q1,q2⟩:=zbsb (fr:=fr.put x.dst u) (v:=v) f1
   refine zb73 (hR _ hz1.1).1 (zbma q1) (fun t b hg => (q2 t b hg).symm) (fun d hd => ?_) hs
   have hd':z'.dst = some d:=hd
   exact (zblq f2 (by simp [hd'])).symm
 · rw [zbnf h3] at hk
   rcases hcl with hcl | ⟨⟨hyR,z,hzm,hzk⟩,hself⟩
   · refine hrest _ σ' K (zbi6 h2) (fun t b hg => zbh3 h2 hg) (fun hc => hl fun hw => ?_) hk
     rw [hc,hw] at hcl; cases hcl
   · have hzy:=(hR z hzm).2 hzk
     have hs:=hst z.2 (List.mem_map.2 ⟨z,hzm,rfl⟩)
     rw [hzy,zbnf h3] at hs
     obtain ⟨q1,q2⟩:=zbsb (fr:=fr.put x.dst u) (v:=v) hself
     unfold jw
     unfold kq at hs
     cases hg:y.guard with
     | none =>
      rw [hg] at hs
      simp only
      obtain ⟨w,e,hw⟩:=zbf5 hyR (hs trivial)
      have:=hw (fr.put x.dst u) σ' (fun v σ' => K ((fr.put x.dst u).put y.dst v) σ') (zbma q1) (.refl _) (by
       cases hd:y.dst with
       | none => rw [hd] at hk; exact hk
       | some d =>
        have:=e d hd
        rw [hd] at this hk
        simp only [Fr.put,if_true] at this
        rw [this]; exact hk)
      rw [x8 (by rw [hyR]; simp)]
      exact this
     | some tb =>
      obtain ⟨t,b⟩:=tb
      rw [hg] at hs
      simp only [gdP] at hs
      rw [q2 t b hg] at hs
      simp only
      refine ⟨fun ht => ?_,fun ht => ?_⟩
      · obtain ⟨w,e,hw⟩:=zbf5 hyR (hs ht)
        have:=hw (fr.put x.dst u) σ' (fun v σ' => K ((fr.put x.dst u).put y.dst v) σ') (zbma q1) (.refl _) (by
         cases hd:y.dst with
         | none => rw [hd] at hk; exact hk
         | some d =>
          have:=e d hd
          rw [hd] at this hk
          simp only [Fr.put,if_true] at this
          rw [this]; exact hk)
        rw [x8 (by rw [hyR]; simp)]
        exact this
      · -- the guard does not hold: nothing was told
        have hgf:(fr.put x.dst u) t = fr t:=zbh3 h2 hg
        rw [hgf] at ht
        have hvu:=hvu (by rw [hg]; exact ht)
        rw [hvu] at hk
        exact hk
theorem zbuy {x:Ins} {K:Fr → ah → Prop} {l2:List (Ins × List Ins)} {ys:List (Nat × Ins)} {anc:List Nat} (hR:∀ z ∈ ys,am z.2.i = .R):∀ (l1:List Ent) {fr:Fr} {σ:ah},(∀ e ∈ l1,zbiu anc e ⟨0,x,ys⟩ = true ∧ ∀ z ∈ ys,z.1 = e.k → z.2 = e.x) →
 (∀ a e b,l1 = a ++ e :: b → ∀ z ∈ ys,(anc.getD z.1 0).testBit e.k = true → z.1 ∈ b.map (·.k)) →
 (l1.map (·.k)).Nodup → db P (l1.map Ent.out ++ (x,ys.map (·.2)) :: l2) K fr σ → dq P (x,(ys.filter fun z => l1.all fun e => z.1 != e.k).map (·.2)) (db P (l1.map Ent.out ++ l2) K) fr σ
 | [],fr,σ,_,_,_,h => by
  have e:(ys.filter fun z => ([]:List Ent).all fun e => z.1 != e.k) = ys:=by simp
  rw [e]
  exact rr.1 h
 | e :: l1,fr,σ,hall,hH,hnd,h => by
  obtain ⟨k,y,yy⟩:=e
  have hw:=(hall ⟨k,y,yy⟩ (by simp)).1
  have heq:=(hall ⟨k,y,yy⟩ (by simp)).2
  have hyy:yy = []:=by
   simp only [zbiu,Bool.and_eq_true,List.isEmpty_iff] at hw
   exact hw.1.1.1
  subst hyy
  have h0:=zbnp (rr.1 h)
  have hnd':k ∉ l1.map (·.k) ∧ (l1.map (·.k)).Nodup:=by simpa using hnd
  have h1:jw P y (dq P (x,(ys.filter fun z => l1.all fun e => z.1 != e.k).map (·.2)) (db P (l1.map Ent.out ++ l2) K)) fr σ :=
   vg h0 fun fr σ h => zbuy hR l1 (fun e he => hall e (List.mem_cons_of_mem _ he)) (fun a e b hb => hH (⟨k,y,[]⟩ :: a) e b (by rw [hb]; rfl)) hnd'.2 h
  simp only [zbiu,Bool.and_eq_true,Bool.or_eq_true,List.all_eq_true,List.any_eq_true,beq_iff_eq,decide_eq_true_eq] at hw
  obtain ⟨⟨q1,q2⟩,q3⟩:=hw
  have h2:=zbp6 (k:=k) q1.2 (by
   rcases q2 with q2 | ⟨⟨p1,z,p2,p3⟩,p4⟩
   · exact .inl q2
   · refine .inr ⟨⟨p1,z,List.mem_filter.2 ⟨p2,?_⟩,p3⟩,p4⟩
     rw [List.all_eq_true]
     intro e he
     simp only [bne_iff_ne,ne_eq]
     intro hk
     exact hnd'.1 (List.mem_map.2 ⟨e,he,by rw [← hk,p3]⟩))
   (fun z hz => by
    obtain ⟨hz1,hz2⟩:=List.mem_filter.1 hz
    rcases q3 z hz1 with (h | h) | h
    · exact .inl h
    · exfalso
      have:=hH [] ⟨k,y,[]⟩ l1 rfl z hz1 h
      obtain ⟨e,he,hk⟩:=List.mem_map.1 this
      rw [List.all_eq_true] at hz2
      have:=hz2 e he
      simp [hk] at this
    · exact .inr h)
   (fun z hz => ⟨hR z (List.mem_filter.1 hz).1,fun hk => heq z (List.mem_filter.1 hz).1 hk⟩) h1
  have e1:((ys.filter fun z => l1.all fun e => z.1 != e.k).filter fun z => z.1 != k) = ys.filter fun z => ((⟨k,y,[]⟩:Ent) :: l1).all fun e => z.1 != e.k:=by
   rw [List.filter_filter]
   congr 1
  rw [e1] at h2
  exact zbl4 h2 fun fr σ h => rr.2 (zb2e.2 h)
structure DH where
 ord:List Nat
 anc:List Nat
 wr:List Nat
 pend:List (Nat × List Nat)
 tr:DTr Nat
def sm (o:Oper):List Nat:=(o.after.toList.filter (Region.binds .any)).map (·.on)
def zbep (anc:List Nat) (l:List Nat):Nat:=l.foldl (fun s e => s ||| (2 ^ e ||| anc.getD e 0)) 0
def zbhz (anc:List Nat):List Oper → Nat → Bool
 | [],_ => true
 | o :: r,i => (sm o).all (· < i) && (anc.getD i 0 == zbep anc (sm o)) && zbhz anc r (i + 1)
def zbf1 (anc:List Nat) (p q:Ent):Bool :=
 p.k != q.k && !((anc.getD p.k 0).testBit q.k) && ((anc.getD q.k 0).testBit p.k || zbiu anc p q)
def xv (anc:List Nat):List Ent → Bool
 | [] => true
 | p :: r => r.all (zbf1 anc p) && !((anc.getD p.k 0).testBit p.k) && p.ys.all (fun z => decide (am z.2.i = .R) && !((r.map (·.k)).contains z.1)) && xv anc r
def zbbp (wr:List Nat) (i:Nat) (x:Ins):Ins:=if wr.contains i then { x with i:=x.i.toW } else x
theorem zbf9 (wr:List Nat) (i:Nat) (x:Ins):(zbbp wr i x).dst = x.dst ∧ (zbbp wr i x).guard = x.guard ∧ ((zbbp wr i x).i = x.i ∨ (zbbp wr i x).i = x.i.toW):=by
 unfold zbbp; split <;> simp
theorem zbp4 {i:I} (h:am i = .R):i.toW = i:=by cases i <;> first | rfl | cases h
theorem zbjj {wr:List Nat} {i:Nat} {x:Ins} (h:am x.i = .R):zbbp wr i x = x:=by
 unfold zbbp
 split
 · rw [zbp4 h]
 · rfl
def zbeh (l:List (Nat × List Nat)) (i:Nat):List Nat:=match l with | [] => [] | (k,js) :: r => if k = i then js else zbeh r i
def zbmr (P:Program) (N:Nat) (ops:Array Oper):List Nat → Option (List (Nat × Ins))
 | [] => some []
 | j :: r => match ops[j]? with
  | none => none
  | some o => match zbc0 P N ops o,zbmr P N ops r with
   | some x,some l => some ((j,x) :: l)
   | _,_ => none
theorem zbut {ops:Array Oper}:∀ {js:List Nat} {l:List (Nat × Ins)},zbmr P N ops js = some l → ∀ z ∈ l,∃ o,ops[z.1]? = some o ∧ zbc0 P N ops o = some z.2
 | [],l,h => by injection h with h; subst h; exact fun z hz => by simp at hz
 | j :: r,l,h => by
  simp only [zbmr] at h
  split at h
  · cases h
  · rename_i o ho
    split at h
    · rename_i x l' hx hl'
      injection h with h; subst h
      intro z hz
      rcases List.mem_cons.1 hz with rfl | hz
      · exact ⟨o,ho,hx⟩
      · exact zbut hl' z hz
    · cases h
def zbf6 (P:Program) (N:Nat) (ops:Array Oper) (h:DH):List Nat → Option (List Ent)
 | [] => some []
 | i :: r => match ops[i]? with
  | none => none
  | some o => match zbc0 P N ops o,zbmr P N ops (zbeh h.pend i),zbf6 P N ops h r with
   | some x,some ys,some l => some (⟨i,zbbp h.wr i x,ys⟩ :: l)
   | _,_,_ => none
def zbig (P:Program) (N:Nat) (ops:Array Oper) (h:DH):Option (List (Ins × List Ins)) :=
 match zbf6 P N ops h h.ord with
 | none => none
 | some l => if (h.ord.length == ops.size) && zbhz h.anc ops.toList 0 && xv h.anc l && (List.range ops.size).all (h.ord.contains ·) && P.follows .mixedOrders then some (l.map Ent.out) else none
theorem zbxd (anc:List Nat) (y:Nat):∀ (l:List Nat) (s:Nat),(l.foldl (fun s e => s ||| (2 ^ e ||| anc.getD e 0)) s).testBit y = true → s.testBit y = true ∨ ∃ e ∈ l,y = e ∨ (anc.getD e 0).testBit y = true
 | [],s,h => .inl h
 | e :: l,s,h => by
  rcases zbxd anc y l _ h with h | ⟨e',he,h⟩
  · simp only [Nat.testBit_or,Bool.or_eq_true,Nat.testBit_two_pow,decide_eq_true_eq] at h
    rcases h with h | h | h
    · exact .inl h
    · exact .inr ⟨e,by simp,.inl h.symm⟩
    · exact .inr ⟨e,by simp,.inr h⟩
  · exact .inr ⟨e',by simp [he],h⟩
theorem zbu9 (anc:List Nat) (y:Nat):∀ (l:List Nat) (s:Nat),(s.testBit y = true ∨ y ∈ l) → (l.foldl (fun s e => s ||| (2 ^ e ||| anc.getD e 0)) s).testBit y = true
 | [],s,h => by simpa using h
 | e :: l,s,h => by
  refine zbu9 anc y l _ ?_
  rcases h with h | h
  · exact .inl (by simp [h])
  · rcases List.mem_cons.1 h with rfl | h
    · exact .inl (by simp)
    · exact .inr h
theorem zbmc {anc:List Nat}:∀ (l:List Oper) (k:Nat),zbhz anc l k = true → ∀ j o,l[j]? = some o → (∀ e ∈ sm o,e < k + j) ∧ anc.getD (k + j) 0 = zbep anc (sm o)
 | [],_,_,j,o,h => by simp at h
 | x :: r,k,hm,j,o,h => by
  simp only [zbhz,Bool.and_eq_true,List.all_eq_true,decide_eq_true_eq,beq_iff_eq] at hm
  cases j with
  | zero => simp at h; subst h; exact ⟨hm.1.1,hm.1.2⟩
  | succ j =>
   have:=zbmc r (k + 1) hm.2 j o (by simpa using h)
   rwa [show k + (j + 1) = k + 1 + j by omega]
def zbbb (P:Program) (N:Nat) (ops:Array Oper) (wr:List Nat) (p:Ent):Prop:=∃ o x,ops[p.k]? = some o ∧ zbc0 P N ops o = some x ∧ p.x = zbbp wr p.k x ∧ ∀ z ∈ p.ys,∃ oz,ops[z.1]? = some oz ∧ zbc0 P N ops oz = some z.2
theorem zbi7 {ops:Array Oper} {h:DH}:∀ {ord:List Nat} {l:List Ent},zbf6 P N ops h ord = some l → l.map (·.k) = ord ∧ ∀ p ∈ l,zbbb P N ops h.wr p
 | [],l,hd => by injection hd with hd; subst hd; exact ⟨rfl,fun p hp => by simp at hp⟩
 | i :: r,l,hd => by
  simp only [zbf6] at hd
  split at hd
  · cases hd
  · rename_i o ho
    split at hd
    · rename_i x ys l' hx hys hl'
      injection hd with hd; subst hd
      obtain ⟨e1,e2⟩:=zbi7 hl'
      refine ⟨by simp [e1],fun p hp => ?_⟩
      rcases List.mem_cons.1 hp with rfl | hp
      · exact ⟨o,x,ho,hx,rfl,zbut hys⟩
      · exact e2 p hp
    · cases hd
theorem zbva {ops:Array Oper} {listed:Array Bool} {i:Nat} (h:i ∈ Region.ready .any ops listed):i < ops.size ∧ listed.getD i true = false ∧ ∃ o,ops[i]? = some o ∧ ∀ e ∈ sm o,listed.getD e false = true:=by
 simp only [Region.ready,List.mem_filter,List.mem_range,Bool.and_eq_true,Bool.not_eq_true'] at h
 obtain ⟨h1,h2,h3⟩:=h
 have ho:ops[i]? = some ops[i]:=Array.getElem?_eq_getElem h1
 refine ⟨h1,h2,ops[i],ho,fun e he => ?_⟩
 rw [ho] at h3
 simp only [Option.map_some,Option.getD_some,Array.all_eq_true'] at h3
 simp only [sm,List.mem_map,List.mem_filter] at he
 obtain ⟨ed,⟨hed,hb⟩,rfl⟩:=he
 have:=h3 ed (by simpa using hed)
 simpa [hb] using this
def DTr.keys:DTr Ent → List Nat
 | .nil => []
 | .cons p r => p.k :: r.keys
 | .alt p r _ _ => p.k :: r.keys
def DTr.ents:DTr Ent → List Ent
 | .nil => []
 | .cons p r => p :: r.ents
 | .alt p r q s => p :: (r.ents ++ q :: s.ents)
def DTr.size:DTr Ent → Nat
 | .nil => 0
 | .cons _ r => r.size + 1
 | .alt _ r _ _ => r.size + 1
def zbbm (anc:List Nat) (p:Ent):Bool:=!((anc.getD p.k 0).testBit p.k)
def zbbo (p:Ent) (ks:List Nat):Bool:=p.ys.all fun z => decide (am z.2.i = .R) && !(ks.contains z.1)
def zbce (anc:List Nat) (p:Ent) (ks:List Nat):Bool:=ks.all fun k => !((anc.getD p.k 0).testBit k)
def okT (anc:List Nat):DTr Ent → Bool
 | .nil => true
 | .cons p r => !(r.keys.contains p.k) && zbbm anc p && zbbo p r.keys && r.ents.all (zbf1 anc p) && okT anc r
 | .alt p r q s => (p.k != q.k && !(r.keys.contains p.k) && !(s.keys.contains q.k) && r.keys.contains q.k && s.keys.contains p.k) && (r.keys.all (fun k => k == q.k || s.keys.contains k) && s.keys.all (fun k => k == p.k || r.keys.contains k) && r.size == s.size) &&
  (zbbm anc p && zbbm anc q && zbbo p r.keys && zbbo q s.keys && zbce anc p r.keys && zbce anc q s.keys) && r.keys.all (fun k => k == q.k || (p.k :: r.keys).any fun j => (anc.getD k 0).testBit j) && okT anc r && okT anc s
def DTr.app (pre:List Ent) (r:DTr Ent):DTr Ent:=match pre with | [] => r | p :: l => .cons p (DTr.app l r)
theorem zbl1:∀ {t:DTr Ent} {k:Nat},k ∈ t.keys → ∃ y ∈ t.ents,y.k = k
 | .nil,k,h => by cases h
 | .cons p r,k,h => by
  rcases List.mem_cons.1 h with rfl | h
  · exact ⟨p,by simp [DTr.ents],rfl⟩
  · obtain ⟨y,h1,h2⟩:=zbl1 h
    exact ⟨y,by simp [DTr.ents,h1],h2⟩
 | .alt p r q s,k,h => by
  rcases List.mem_cons.1 h with rfl | h
  · exact ⟨p,by simp [DTr.ents],rfl⟩
  · obtain ⟨y,h1,h2⟩:=zbl1 h
    exact ⟨y,by simp [DTr.ents,h1],h2⟩
theorem zbcn {pre:List Ent} {r:DTr Ent} {K:Fr → ah → Prop}:∀ {fr:Fr} {σ:ah},db P (pre.map Ent.out) (bv P (r.map Ent.out) K) fr σ → bv P ((DTr.app pre r).map Ent.out) K fr σ:=by
 induction pre with
 | nil => exact fun h => h
 | cons p l ih => exact fun h => zbl4 (rr.1 h) fun _ _ h => ih h
theorem zbl5 {anc:List Nat} {p q:Ent} (h:zbf1 anc p q = true):p.k ≠ q.k ∧ (anc.getD p.k 0).testBit q.k = false:=by
 simp only [zbf1,Bool.and_eq_true,bne_iff_ne,Bool.not_eq_true'] at h
 exact h.1
structure zcfq (P:Program) (anc:List Nat) (t:DTr Ent) (i:Nat) (pre:List Ent) (x:Ent) (r:DTr Ent):Prop where
 k:x.k = i
 ev:∀ (K:Fr → ah → Prop) (fr:Fr) (σ:ah),bv P (t.map Ent.out) K fr σ → db P (pre.map Ent.out) (dq P x.out (bv P (r.map Ent.out) K)) fr σ
 px:∀ y ∈ pre,zbf1 anc y x = true
 sx:(anc.getD x.k 0).testBit x.k = false
 ys:∀ z ∈ x.ys,am z.2.i = .R ∧ z.1 ∉ r.keys
 ok:okT anc (DTr.app pre r) = true
 ks:∀ k,k ∈ t.keys ↔ k = i ∨ k ∈ (DTr.app pre r).keys
 ni:i ∉ (DTr.app pre r).keys
 sz:t.size = (DTr.app pre r).size + 1
 xe:x ∈ t.ents
 es:∀ p ∈ (DTr.app pre r).ents,p ∈ t.ents
 pp:∀ a w b,pre = a ++ w :: b → (anc.getD w.k 0).testBit w.k = false ∧ ∀ e ∈ b,zbf1 anc w e = true
theorem zb1a {pre:List Ent} {r:DTr Ent} {k:Nat}:k ∈ (DTr.app pre r).keys ↔ k ∈ pre.map (·.k) ∨ k ∈ r.keys:=by
 induction pre with
 | nil => simp [DTr.app]
 | cons p l ih => simp only [DTr.app,DTr.keys,List.mem_cons,ih,List.map_cons,or_assoc]
theorem zb09 {pre:List Ent} {r:DTr Ent} {y:Ent}:y ∈ (DTr.app pre r).ents ↔ y ∈ pre ∨ y ∈ r.ents:=by
 induction pre with
 | nil => simp [DTr.app]
 | cons p l ih => simp only [DTr.app,DTr.ents,List.mem_cons,ih,or_assoc]
theorem zbj8 {anc:List Nat} {i:Nat}:∀ (t:DTr Ent),okT anc t = true → i ∈ t.keys → (∀ j ∈ t.keys,(anc.getD i 0).testBit j = false) → ∃ pre x r,zcfq P anc t i pre x r
 | .nil,_,h,_ => by cases h
 | .cons p r,ok,hi,hb => by
  have ok0:=ok
  simp only [okT,Bool.and_eq_true,Bool.not_eq_true',List.contains_eq_mem,decide_eq_false_iff_not,zbbm,zbbo,List.all_eq_true,decide_eq_true_eq] at ok
  obtain ⟨⟨⟨⟨o1,o2⟩,o3⟩,o4⟩,o5⟩:=ok
  by_cases e:i = p.k
  · subst e
    exact ⟨[],p,r,rfl,fun K fr σ h => h,fun y hy => by simp at hy,o2,o3,o5,fun k => by simp [DTr.app,DTr.keys],o1,rfl,by simp [DTr.ents],fun q hq => by simp only [DTr.app] at hq; simp [DTr.ents,hq],fun a w b h => by simp at h⟩
  · have hi':i ∈ r.keys:=by
     rcases List.mem_cons.1 hi with h | h
     · exact absurd h e
     · exact h
    obtain ⟨pre,x,r',q⟩:=zbj8 r o5 hi' fun j hj => hb j (List.mem_cons_of_mem _ hj)
    refine ⟨p :: pre,x,r',q.k,fun K fr σ h => rr.2 (zbl4 h fun _ _ h => q.ev K _ _ h),fun y hy => ?_,q.sx,q.ys,?_,fun k => ?_,?_,?_,?_,fun y hy => ?_,fun a w b h => ?_⟩
    · rcases List.mem_cons.1 hy with rfl | hy
      · exact o4 x q.xe
      · exact q.px y hy
    · simp only [DTr.app,okT,Bool.and_eq_true,Bool.not_eq_true',List.contains_eq_mem,decide_eq_false_iff_not,zbbm,zbbo,List.all_eq_true,decide_eq_true_eq]
      exact ⟨⟨⟨⟨fun h => o1 ((q.ks _).2 (.inr h)),o2⟩,fun z hz => ⟨(o3 z hz).1,fun h => (o3 z hz).2 ((q.ks _).2 (.inr h))⟩⟩,fun y hy => o4 y (q.es y hy)⟩,q.ok⟩
    · simp only [DTr.app,DTr.keys,List.mem_cons,q.ks k]
      constructor
      · rintro (h | h | h)
        · exact .inr (.inl h)
        · exact .inl h
        · exact .inr (.inr h)
      · rintro (h | h | h)
        · exact .inr (.inl h)
        · exact .inl h
        · exact .inr (.inr h)
    · simp only [DTr.app,DTr.keys,List.mem_cons,not_or]
      exact ⟨e,q.ni⟩
    · simp only [DTr.app,DTr.size,q.sz]
    · exact List.mem_cons_of_mem _ q.xe
    · rcases List.mem_cons.1 hy with rfl | hy
      · simp [DTr.ents]
      · exact List.mem_cons_of_mem _ (q.es y hy)
    · cases a with
      | nil =>
       simp only [List.nil_append,List.cons.injEq] at h
       obtain ⟨rfl,rfl⟩:=h
       exact ⟨o2,fun e he => o4 e (q.es e (zb09.2 (.inl he)))⟩
      | cons a0 a =>
       simp only [List.cons_append,List.cons.injEq] at h
       exact q.pp a w b h.2
 | .alt p r q s,ok,hi,hb => by
  simp only [okT,Bool.and_eq_true,Bool.not_eq_true',List.contains_eq_mem,decide_eq_false_iff_not,decide_eq_true_eq,zbbm,zbbo,zbce,List.all_eq_true,bne_iff_ne,ne_eq,Bool.or_eq_true,beq_iff_eq,List.any_eq_true] at ok
  obtain ⟨⟨⟨⟨⟨⟨⟨⟨⟨a1,a2⟩,a3⟩,a4⟩,a5⟩,⟨⟨b1,b2⟩,b3⟩⟩,⟨⟨⟨⟨⟨c1,c2⟩,c3⟩,c4⟩,c5⟩,c6⟩⟩,d1⟩,e1⟩,e2⟩:=ok
  by_cases e:i = p.k
  · subst e
    exact ⟨[],p,r,rfl,fun K fr σ h => h.1,fun y hy => by simp at hy,c1,c3,e1,fun k => by simp [DTr.app,DTr.keys],a2,rfl,by simp [DTr.ents],fun y hy => by simp only [DTr.app] at hy; simp [DTr.ents,hy],fun a w b h => by simp at h⟩
  · by_cases f:i = q.k
    · subst f
      refine ⟨[],q,s,rfl,fun K fr σ h => h.2,fun y hy => by simp at hy,c2,c4,e2,fun k => ?_,a3,by show r.size + 1 = s.size + 1; rw [b3],by simp [DTr.ents],fun y hy => by simp only [DTr.app] at hy; simp [DTr.ents,hy],fun a w b h => by simp at h⟩
      simp only [DTr.app,DTr.keys,List.mem_cons]
      constructor
      · rintro (h | h)
        · rw [h]; exact .inr a5
        · exact b1 k h
      · rintro (h | h)
        · rw [h]; exact .inr a4
        · exact b2 k h
    · exfalso
      have hi':i ∈ r.keys:=by
       rcases List.mem_cons.1 hi with h | h
       · exact absurd h e
       · exact h
      rcases d1 i hi' with h | ⟨j,hj,h⟩
      · exact f h
      · rw [hb j hj] at h; cases h
theorem zbqo {anc:List Nat}:∀ (t:DTr Ent),okT anc t = true → t.size ≠ 0 → ∃ p ∈ t.ents,p.k ∈ t.keys ∧ ∀ k ∈ t.keys,(anc.getD p.k 0).testBit k = false
 | .nil,_,h => absurd rfl h
 | .cons p r,ok,_ => by
  simp only [okT,Bool.and_eq_true,Bool.not_eq_true',List.contains_eq_mem,decide_eq_false_iff_not,zbbm,zbbo,List.all_eq_true,decide_eq_true_eq] at ok
  obtain ⟨⟨⟨⟨o1,o2⟩,o3⟩,o4⟩,o5⟩:=ok
  refine ⟨p,by simp [DTr.ents],by simp [DTr.keys],fun k hk => ?_⟩
  rcases List.mem_cons.1 hk with rfl | hk
  · exact o2
  · obtain ⟨y,hy,rfl⟩:=zbl1 hk
    exact (zbl5 (o4 y hy)).2
 | .alt p r q s,ok,_ => by
  simp only [okT,Bool.and_eq_true,Bool.not_eq_true',List.contains_eq_mem,decide_eq_false_iff_not,decide_eq_true_eq,zbbm,zbbo,zbce,List.all_eq_true,bne_iff_ne,ne_eq,Bool.or_eq_true,beq_iff_eq,List.any_eq_true] at ok
  obtain ⟨⟨⟨⟨⟨_,_⟩,⟨⟨⟨⟨⟨c1,c2⟩,c3⟩,c4⟩,c5⟩,c6⟩⟩,d1⟩,e1⟩,e2⟩:=ok
  refine ⟨p,by simp [DTr.ents],by simp [DTr.keys],fun k hk => ?_⟩
  rcases List.mem_cons.1 hk with rfl | hk
  · exact c1
  · exact c5 k hk
theorem zbuw {ops:Array Oper} {B:Nat} {w0:World} {K:Fr → ah → Prop} {Q:Exit → Act → World → Prop} {anc wr:List Nat} (hm:zbhz anc ops.toList 0 = true) :
 ∀ (n:Nat) (t:DTr Ent) (listed:Array Bool) (m:Mp) (fr:Fr) (σ:ah) (w:World) (a:Act),t.size = n → listed.size = ops.size →
 (∀ p ∈ t.ents,zbbb P N ops wr p) → okT anc t = true → (∀ i,i < ops.size → (listed.getD i true = false ↔ i ∈ t.keys)) →
 (∀ i o,listed.getD i true = true → ops[i]? = some o → ∀ e ∈ sm o,listed.getD e false = true) →
 Rep B w0 σ m w → gg m N fr a → bv P (t.map Ent.out) K fr σ →
 (∀ m' fr' σ' a' w',m.le m' → Rep B w0 σ' m' w' → gg m' N fr' a' → K fr' σ' → Q .normal a' w') → wpAny P .any ops Q n listed a w:=by
 have gd:∀ (b:Array Bool) (j:Nat) (x y:Bool),j < b.size → b.getD j x = b.getD j y:=fun b j x y h => by simp [Array.getD,h]
 intro n
 induction n with
 | zero =>
  intro t listed m fr σ w a hl hs hc hp hu hcl hr hf hev hQ
  have hl0:t = .nil:=by cases t <;> simp [DTr.size] at hl ⊢
  subst hl0
  refine ⟨?_,hQ m fr σ a w (.refl m) hr hf hev⟩
  refine List.eq_nil_iff_forall_not_mem.2 fun i hi => ?_
  obtain ⟨h1,h2,_⟩:=zbva hi
  exact absurd ((hu i h1).1 h2) (by simp [DTr.keys])
 | succ n ih =>
  intro t listed m fr σ w a hl hs hc hp hu hcl hr hf hev hQ
  -- every unlisted thing all of whose forerunners are listed
  refine ⟨fun hnil => ?_,fun i hi => ?_⟩
  · exfalso
    obtain ⟨p,hp1,hp2,hp3⟩:=zbqo t hp (by omega)
    · obtain ⟨o,_,ho,hco,_⟩:=hc p hp1
      have hlt:p.k < ops.size:=(Array.getElem?_eq_some_iff.1 ho).1
      have hun:=(hu p.k hlt).2 hp2
      obtain ⟨k1,k2⟩:=zbmc ops.toList 0 hm p.k o (by simpa using ho)
      rw [Nat.zero_add] at k1 k2
      have hmem:p.k ∈ Region.ready .any ops listed:=by
       simp only [Region.ready,List.mem_filter,List.mem_range,Bool.and_eq_true,Bool.not_eq_true']
       refine ⟨hlt,hun,?_⟩
       rw [ho]
       simp only [Option.map_some,Option.getD_some,Array.all_eq_true']
       intro e he
       by_cases hb:Region.binds .any e = true
       · have hmp:e.on ∈ sm o:=by
          simp only [sm,List.mem_map,List.mem_filter]
          exact ⟨e,⟨by simpa using he,hb⟩,rfl⟩
         have hbit:(anc.getD p.k 0).testBit e.on = true:=by rw [k2]; exact zbu9 anc e.on _ 0 (.inr hmp)
         have hlt2:e.on < ops.size:=Nat.lt_trans (k1 _ hmp) hlt
         have:listed.getD e.on true = true:=by
          cases hq:listed.getD e.on true with
          | true => rfl
          | false =>
           have hin:=(hu _ hlt2).1 hq
           have:=hp3 _ hin
           rw [hbit] at this
           cases this
         rw [hb,gd listed e.on false true (by rw [hs]; exact hlt2),this]
         rfl
       · simp [hb]
      rw [hnil] at hmem
      cases hmem
  · obtain ⟨hlt,hun,o,ho,hpre⟩:=zbva hi
    have hin:=(hu i hlt).1 hun
    -- nothing that is still to come comes before it
    have back:∀ (j:Nat) (oj:Oper),ops[j]? = some oj → (∀ e ∈ sm oj,listed.getD e false = true) → ∀ y,listed.getD y false = false → (anc.getD j 0).testBit y = true → False:=by
     intro j
     induction j using Nat.strongRecOn with
     | _ j ihj =>
      intro oj hoj hpj y hyu hb
      obtain ⟨k1,k2⟩:=zbmc ops.toList 0 hm j oj (by simpa using hoj)
      rw [Nat.zero_add] at k1 k2
      rw [k2] at hb
      rcases zbxd anc y (sm oj) 0 hb with h0 | ⟨e,he,rfl | hbe⟩
      · simp at h0
      · rw [hpj _ he] at hyu; cases hyu
      · have hej:=k1 e he
        have hjs:j < ops.size:=(Array.getElem?_eq_some_iff.1 hoj).1
        have hes:e < ops.size:=Nat.lt_trans hej hjs
        have hoe:ops[e]? = some ops[e]:=Array.getElem?_eq_getElem hes
        have hle:=hpj e he
        exact ihj e hej ops[e] hoe (hcl e ops[e] (by rw [gd listed e true false (by rw [hs]; exact hes)]; exact hle) hoe) y hyu hbe
    have hnb:∀ j ∈ t.keys,(anc.getD i 0).testBit j = false:=by
     intro j hj
     cases hbt:(anc.getD i 0).testBit j with
     | false => rfl
     | true =>
      exfalso
      obtain ⟨y,hy,rfl⟩:=zbl1 hj
      obtain ⟨oy,_,hoy,_⟩:=hc y hy
      have hys:y.k < ops.size:=(Array.getElem?_eq_some_iff.1 hoy).1
      have hyu:=(hu y.k hys).2 hj
      exact back i o ho hpre y.k (by rw [gd listed y.k false true (by rw [hs]; exact hys)]; exact hyu) hbt
    obtain ⟨l1,⟨i',x,ys⟩,r,q⟩:=zbj8 (P:=P) t hp hin hnb
    have hik:=q.k
    simp only at hik
    subst hik
    have q1:=q.px
    have qR:∀ z ∈ ys,am z.2.i = .R ∧ z.1 ∉ r.keys:=q.ys
    have hc1:∀ y ∈ l1,zbbb P N ops wr y:=fun y hy => hc y (q.es y (zb09.2 (.inl hy)))
    have hu1:∀ y ∈ l1,y.k ∈ t.keys:=fun y hy => (q.ks _).2 (.inr (zb1a.2 (.inl (List.mem_map.2 ⟨y,hy,rfl⟩))))
    obtain ⟨o',x0,ho',hx,hxw,hys⟩:=hc _ q.xe
    rw [ho] at ho'
    injection ho' with ho'
    subst ho'
    have hfront:∀ y ∈ l1,zbiu anc y ⟨0,x,ys⟩ = true:=by
     intro y hy
     have h1:=q1 y hy
     simp only [zbf1,Bool.and_eq_true,Bool.or_eq_true] at h1
     rcases h1.2 with h2 | h2
     · rw [hnb _ (hu1 y hy)] at h2; cases h2
     · exact h2
    have hsame:∀ y ∈ l1,∀ z ∈ ys,z.1 = y.k → z.2 = y.x:=by
     intro y hy z hz hk
     obtain ⟨oz,hoz,hcz⟩:=hys z hz
     obtain ⟨oy,xy,hoy,hcy,hxy,_⟩:=hc1 y hy
     rw [hk,hoy] at hoz
     injection hoz with hoz
     subst hoz
     rw [hcy] at hcz
     injection hcz with hcz
     rw [hxy,hcz,zbjj (by exact (qR z hz).1)]
    have hnd:(l1.map (·.k)).Nodup:=by
     have pp:=q.pp
     clear q hfront hsame q1 hc1 hu1
     induction l1 with
     | nil => simp
     | cons e l ihl =>
      rw [List.map_cons,List.nodup_cons]
      refine ⟨fun h => ?_,ihl fun a w b h => pp (e :: a) w b (by rw [h]; rfl)⟩
      obtain ⟨f,hf1,hf2⟩:=List.mem_map.1 h
      exact (zbl5 ((pp [] e l rfl).2 f hf1)).1 hf2.symm
    have hH:∀ a e b,l1 = a ++ e :: b → ∀ z ∈ ys,(anc.getD z.1 0).testBit e.k = true → z.1 ∈ b.map (·.k):=by
     intro a e b hab z hz hbit
     have he1:e ∈ l1:=by rw [hab]; simp
     obtain ⟨oe,_,hoe,_⟩:=hc1 e he1
     have hes:e.k < ops.size:=(Array.getElem?_eq_some_iff.1 hoe).1
     have heu:=(hu e.k hes).2 (hu1 e he1)
     have heu':listed.getD e.k false = false:=by rw [gd listed e.k false true (by rw [hs]; exact hes)]; exact heu
     obtain ⟨oz,hoz,_⟩:=hys z hz
     have hzs:z.1 < ops.size:=(Array.getElem?_eq_some_iff.1 hoz).1
     cases hq:listed.getD z.1 true with
     | true => exact (back z.1 oz hoz (hcl z.1 oz hq hoz) e.k heu' hbit).elim
     | false =>
      have hin:=(q.ks _).1 ((hu z.1 hzs).1 hq)
      rcases hin with hw | hin
      · exfalso
        rw [hw] at hbit
        rw [hnb _ (hu1 e he1)] at hbit; cases hbit
      rcases zb1a.1 hin with hin | hin
      · obtain ⟨w,hw,hwk⟩:=List.mem_map.1 hin
        rw [hab] at hw
        rcases List.mem_append.1 hw with hw | hw
        · exfalso
          obtain ⟨a1,a2,rfl⟩:=List.append_of_mem hw
          have:=(q.pp a1 w (a2 ++ e :: b) (by rw [hab]; simp)).2 e (by simp)
          rw [← hwk,(zbl5 this).2] at hbit
          cases hbit
        · rcases List.mem_cons.1 hw with rfl | hw
          · exfalso
            rw [← hwk,(q.pp a w b hab).1] at hbit
            cases hbit
          · exact List.mem_map.2 ⟨w,hw,hwk⟩
      · exact absurd hin (qR z hz).2
    have hev':jw P x (bv P ((DTr.app l1 r).map Ent.out) K) fr σ:=by
     have h1:db P (l1.map Ent.out ++ (x,ys.map (·.2)) :: []) (bv P (r.map Ent.out) K) fr σ:=by
      rw [zbco]
      have:=q.ev K fr σ hev
      have e:db P [(x,ys.map (·.2))] (bv P (r.map Ent.out) K) = dq P (x,ys.map (·.2)) (bv P (r.map Ent.out) K):=by
       funext fr σ
       exact propext rr
      rw [e]
      exact this
     have h2:=zbuy (fun z hz => (qR z hz).1) l1 (fun e he => ⟨hfront e he,hsame e he⟩) hH hnd h1
     rw [List.append_nil] at h2
     exact vg (zbnp h2) fun _ _ h => zbcn h
    have hlen:(DTr.app l1 r).size = n:=by have:=q.sz; omega
    have hset:(listed.setIfInBounds i' true).size = ops.size:=by simpa using hs
    have hc':∀ p ∈ (DTr.app l1 r).ents,zbbb P N ops wr p:=fun p hp => hc p (q.es p hp)
    have gset:∀ j x,j < ops.size → (listed.setIfInBounds i' true).getD j x = if j = i' then true else listed.getD j x:=fun j x hj => by
     by_cases e:j = i'
     · subst e; simp [Array.getD,hs,hlt]
     · simp only [Array.getD_eq_getD_getElem?]
       rw [Array.getElem?_setIfInBounds_ne (fun h => e h.symm),if_neg e]
    have hu':∀ j,j < ops.size → ((listed.setIfInBounds i' true).getD j true = false ↔ j ∈ (DTr.app l1 r).keys):=fun j hj => by
     rw [gset j true hj]
     by_cases e:j = i'
     · subst e
       simp only [if_true,Bool.true_eq_false,false_iff]
       exact q.ni
     · rw [if_neg e,hu j hj,q.ks]
       exact ⟨fun h => h.resolve_left e,.inr⟩
    have hcl':∀ j oj,(listed.setIfInBounds i' true).getD j true = true → ops[j]? = some oj → ∀ e ∈ sm oj,(listed.setIfInBounds i' true).getD e false = true:=fun j oj hj hoj e he => by
     have hjs:j < ops.size:=(Array.getElem?_eq_some_iff.1 hoj).1
     have hes:e < ops.size:=by
      have:=(zbmc ops.toList 0 hm j oj (by simpa using hoj)).1 e he
      omega
     rw [gset e false hes]
     split
     · rfl
     · rw [gset j true hjs] at hj
       by_cases e1:j = i'
       · subst e1
         rw [ho] at hoj
         injection hoj with hoj
         subst hoj
         exact hpre e he
       · rw [if_neg e1] at hj
         exact hcl j oj hj hoj e he
    unfold wpOp
    simp only [ho]
    obtain ⟨u1,u2,u3⟩:=zbf9 wr i' x0
    simp only at hxw
    rw [← hxw] at u1 u2 u3
    simp only [zbc0] at hx
    split at hx
    · rename_i ii g hi' hg
      injection hx with hx
      subst hx
      simp only at u1 u2 u3
      have hw:=zbv4 (ops:=ops) hf hg
      have go:cw P x.i (fun v σ' => bv P ((DTr.app l1 r).map Ent.out) K (fr.put x.dst v) σ') fr σ → o.wp P a w (wpAny P .any ops Q n (listed.setIfInBounds i' true)) Q:=fun he => by
       have he':evI P ii (fun v σ' => bv P ((DTr.app l1 r).map Ent.out) K (fr.put o.dst v) σ') fr σ:=by
        have:=zceu he
        rw [u1] at this
        rcases u3 with u3 | u3
        · rwa [u3] at this
        · rwa [u3,zbha] at this
       exact zbyh (za9c o ii hi' hr hf he') fun v c m' σ' w' h1 h2 h3 h4 =>
        ih (DTr.app l1 r) _ m' (fr.put o.dst v) σ' w' (a.put o.dst c) hlen hset hc' q.ok hu' hcl' h3 ((hf.mono h1).put _ h2) h4
         fun m2 fr2 σ2 a2 w2 h5 h6 h7 h8 => hQ m2 fr2 σ2 a2 w2 (h1.trans h5) h6 h7 h8
      unfold jw at hev'
      rw [u2] at hev'
      cases g with
      | none =>
       rw [if_pos (hw.2 trivial)]
       exact .inl (go hev')
      | some tb =>
       obtain ⟨t,b⟩:=tb
       obtain ⟨e1,e2⟩:=hev'
       by_cases hfr:fr t = .bool b
       · rw [if_pos (hw.2 hfr)]
         exact .inl (go (e1 hfr))
       · rw [if_neg (fun h => hfr (hw.1 h))]
         have e2:=e2 hfr
         rw [u1] at e2
         exact ih (DTr.app l1 r) _ m (fr.put o.dst undef) σ w (a.put o.dst undef) hlen hset hc' q.ok hu' hcl' hr (hf.put _ (.undef m)) e2 hQ
    · cases hx
def DTr.ofL:List Ent → DTr Ent
 | [] => .nil
 | p :: r => .cons p (DTr.ofL r)
theorem zbnl:∀ l:List Ent,(DTr.ofL l).keys = l.map (·.k)
 | [] => rfl
 | p :: r => by rw [DTr.ofL,DTr.keys,zbnl r]; rfl
theorem zbnk:∀ l:List Ent,(DTr.ofL l).ents = l
 | [] => rfl
 | p :: r => by rw [DTr.ofL,DTr.ents,zbnk r]
theorem zb3a:∀ l:List Ent,(DTr.ofL l).size = l.length
 | [] => rfl
 | p :: r => by rw [DTr.ofL,DTr.size,zb3a r]; rfl
theorem zbel {anc:List Nat}:∀ {l:List Ent},xv anc l = true → okT anc (DTr.ofL l) = true
 | [],_ => rfl
 | p :: r,h => by
  simp only [xv,Bool.and_eq_true] at h
  obtain ⟨⟨⟨h1,h2⟩,h3⟩,h4⟩:=h
  simp only [DTr.ofL,okT,zbbm,zbbo,zbnl,zbnk,Bool.and_eq_true]
  refine ⟨⟨⟨⟨?_,h2⟩,h3⟩,h1⟩,zbel h4⟩
  simp only [Bool.not_eq_true',List.contains_eq_mem,decide_eq_false_iff_not,List.mem_map,not_exists,not_and]
  intro y hy e
  rw [List.all_eq_true] at h1
  exact (zbl5 (h1 y hy)).1 e.symm
theorem zb2d {K:Fr → ah → Prop}:∀ {l:List Ent} {fr:Fr} {σ:ah},db P (l.map Ent.out) K fr σ → bv P ((DTr.ofL l).map Ent.out) K fr σ
 | [],_,_,h => h
 | p :: r,_,_,h => zbl4 (rr.1 h) fun _ _ h => zb2d h
def zbf4 (P:Program) (N:Nat) (ops:Array Oper) (h:DH):DTr Nat → Option (DTr Ent)
 | .nil => some .nil
 | .cons i r => match zbf6 P N ops h [i],zbf4 P N ops h r with
  | some [p],some t => some (.cons p t)
  | _,_ => none
 | .alt i r j s => match zbf6 P N ops h [i],zbf4 P N ops h r,zbf6 P N ops h [j],zbf4 P N ops h s with
  | some [p],some t,some [q],some u => some (.alt p t q u)
  | _,_,_,_ => none
def zbir (P:Program) (N:Nat) (ops:Array Oper) (h:DH):Option (DTr (Ins × List Ins)) :=
 match zbf4 P N ops h h.tr with
 | none => none
 | some t => if (t.size == ops.size) && zbhz h.anc ops.toList 0 && okT h.anc t && (List.range ops.size).all (t.keys.contains ·) && P.follows .mixedOrders then some (t.map Ent.out) else none
theorem zbl2 {ops:Array Oper} {h:DH}:∀ {t0:DTr Nat} {t:DTr Ent},zbf4 P N ops h t0 = some t → ∀ p ∈ t.ents,zbbb P N ops h.wr p
 | .nil,t,hd => by injection hd with hd; subst hd; exact fun p hp => by simp [DTr.ents] at hp
 | .cons i r,t,hd => by
  simp only [zbf4] at hd
  split at hd
  · rename_i p0 t0 h1 h2
    injection hd with hd; subst hd
    intro p hp
    rcases List.mem_cons.1 hp with rfl | hp
    · exact (zbi7 h1).2 _ (by simp)
    · exact zbl2 h2 p hp
  · cases hd
 | .alt i r j s,t,hd => by
  simp only [zbf4] at hd
  split at hd
  · rename_i p0 t0 q0 u0 h1 h2 h3 h4
    injection hd with hd; subst hd
    intro p hp
    rcases List.mem_cons.1 hp with rfl | hp
    · exact (zbi7 h1).2 _ (by simp)
    · rcases List.mem_append.1 hp with hp | hp
      · exact zbl2 h2 p hp
      · rcases List.mem_cons.1 hp with rfl | hp
        · exact (zbi7 h3).2 _ (by simp)
        · exact zbl2 h4 p hp
  · cases hd
theorem zcet {id:Nat} {ops:Array Oper} {h:DH} {xs:List (Ins × List Ins)} (hd:zbig P N ops h = some xs) {Q:Exit → Fr → ah → Prop} {fr:Fr} {σ:ah} (hev:db P xs (Q .normal) fr σ):SWp P N (.region id ops true) Q fr σ:=by
 intro B w0 m w a hr hf
 unfold zbig at hd
 split at hd
 · cases hd
 · rename_i l hl
   split at hd
   · rename_i hc
     injection hd with hd
     subst hd
     simp only [Bool.and_eq_true,beq_iff_eq,List.all_eq_true,List.mem_range,List.contains_eq_mem,decide_eq_true_eq] at hc
     obtain ⟨⟨⟨⟨h1,h2⟩,h3⟩,h4⟩,h5⟩:=hc
     obtain ⟨e1,e2⟩:=zbi7 hl
     refine wp_region_any h5 ?_
     have hlen:l.length = ops.size:=by rw [← h1,← e1]; simp
     refine zbuw (P:=P) (N:=N) (ops:=ops) (K:=Q .normal) (Q:=zbfj B w0 m N Q) h2 ops.size (.ofL l) _ m fr σ _ a (by rw [zb3a]; exact hlen) (by simp) (by rw [zbnk]; exact e2) (zbel h3) (fun i hi => ?_) (fun i o hi => ?_) hr.drew hf (zb2d hev)
      fun m' fr' σ' a' w' h1 h2 h3 h4 => ⟨m',fr',σ',h1,h2,h3,h4⟩
     · have:(Array.replicate ops.size false).getD i true = false:=by simp [Array.getD,hi]
       simp only [this,true_iff]
       rw [zbnl,e1]; exact h4 i hi
     · by_cases hlt:i < ops.size
       · simp [Array.getD,hlt] at hi
       · intro ho; exact absurd (Array.getElem?_eq_some_iff.1 ho).1 hlt
   · cases hd
theorem zb7h {id:Nat} {ops:Array Oper} {h:DH} {xs:DTr (Ins × List Ins)} (hd:zbir P N ops h = some xs) {Q:Exit → Fr → ah → Prop} {fr:Fr} {σ:ah} (hev:bv P xs (Q .normal) fr σ):SWp P N (.region id ops true) Q fr σ:=by
 intro B w0 m w a hr hf
 unfold zbir at hd
 split at hd
 · cases hd
 · rename_i t ht
   split at hd
   · rename_i hc
     injection hd with hd
     subst hd
     simp only [Bool.and_eq_true,beq_iff_eq,List.all_eq_true,List.mem_range,List.contains_eq_mem,decide_eq_true_eq] at hc
     obtain ⟨⟨⟨⟨h1,h2⟩,h3⟩,h4⟩,h5⟩:=hc
     refine wp_region_any h5 ?_
     refine zbuw (P:=P) (N:=N) (ops:=ops) (K:=Q .normal) (Q:=zbfj B w0 m N Q) h2 ops.size t _ m fr σ _ a h1 (by simp) (zbl2 ht) h3 (fun i hi => ?_) (fun i o hi => ?_) hr.drew hf hev
      fun m' fr' σ' a' w' h1 h2 h3 h4 => ⟨m',fr',σ',h1,h2,h3,h4⟩
     · have:(Array.replicate ops.size false).getD i true = false:=by simp [Array.getD,hi]
       simp only [this,true_iff]
       exact h4 i hi
     · by_cases hlt:i < ops.size
       · simp [Array.getD,hlt] at hi
       · intro ho; exact absurd (Array.getElem?_eq_some_iff.1 ho).1 hlt
   · cases hd
end
def zbe3 (H:List (Nat × DH)) (id:Nat):DH:=match H with | [] => ⟨[],[],[],[],.nil⟩ | (k,d) :: r => if k = id then d else zbe3 r id
def mr (P:Program) (N:Nat) (H:List (Nat × DH)):Code → Option IC
 | .skip => some .skip
 | .region id ops draw => if draw then (match (zbe3 H id).tr with | .nil => (zbig P N ops (zbe3 H id)).map .draw | _ => (zbir P N ops (zbe3 H id)).map .drawT) else (zbf7 P N ops ops.toList).map .ops
 | .seq a b => match mr P N H a,mr P N H b with
  | some x,some y => some (.seq x y)
  | _,_ => none
 | .cond c a b => if okO N c then match mr P N H a,mr P N H b with
  | some x,some y => some (.cond c x y)
  | _,_ => none else none
 | .block id a => (mr P N H a).map (.block id)
 | .loop a => (mr P N H a).map .loop
 | .exit id => some (.exit id)
 | .ret => some .ret
 | .label _ => some .skip
 | _ => none
def zbhh (P:Program) (N:Nat) (H:List (Nat × DH)):Code → Option IC
 | .scope c => mr P N H c
 | .seq a (.scope c) => match mr P N H a,mr P N H c with
  | some x,some y => some (.seq x y)
  | _,_ => none
 | c => mr P N H c
def zb67 (P:Program) (N:Nat) (ic:IC) (Q:Exit → Fr → ah → Prop) (fr:Fr) (σ:ah):Prop:=∀ H c,mr P N H c = some ic → SWp P N c Q fr σ
def zbjp (next:Fr → ah → Prop) (Q:Exit → Fr → ah → Prop):Exit → Fr → ah → Prop
 | .normal => next
 | e => Q e
def zbmp (id:Nat) (Q:Exit → Fr → ah → Prop):Exit → Fr → ah → Prop
 | .exit j => if j = id then Q .normal else Q (.exit j)
 | e => Q e
def evC (P:Program) (N:Nat):IC → (Exit → Fr → ah → Prop) → Fr → ah → Prop
 | .skip,Q => Q .normal
 | .ops l,Q => evL P l (Q .normal)
 | .draw l,Q => db P l (Q .normal)
 | .drawT t,Q => bv P t (Q .normal)
 | .seq a b,Q => evC P N a (zbjp (evC P N b Q) Q)
 | .cond c a b,Q => fun fr σ => pj (evO fr c) fun t => (t = true → evC P N a Q fr σ) ∧ (t = false → evC P N b Q fr σ)
 | .block id a,Q => evC P N a (zbmp id Q)
 | .loop a,Q => zb67 P N (.loop a) Q
 | .exit id,Q => Q (.exit id)
 | .ret,Q => Q .ret
section
variable {P:Program} {N:Nat} {H:List (Nat × DH)}
theorem zbop:∀ (c:Code) (ic:IC),mr P N H c = some ic → ∀ (Q:Exit → Fr → ah → Prop) (fr:Fr) (σ:ah),evC P N ic Q fr σ → SWp P N c Q fr σ:=by
 intro c
 induction c with
 | skip =>
  intro ic hc Q fr σ h B w0 m w a hr hf
  injection hc with hc; subst hc
  exact wp_skip ⟨m,fr,σ,.refl m,hr,hf,h⟩
 | region id ops draw =>
  intro ic hc Q fr σ h B w0 m w a hr hf
  simp only [mr] at hc
  split at hc
  · rename_i hd
    subst hd
    split at hc
    · cases hl:zbig P N ops (zbe3 H id) with
      | none => simp [hl] at hc
      | some xs =>
       simp [hl] at hc
       subst hc
       exact zcet hl h B w0 m w a hr hf
    · cases hl:zbir P N ops (zbe3 H id) with
      | none => simp [hl] at hc
      | some xs =>
       simp [hl] at hc
       subst hc
       exact zb7h hl h B w0 m w a hr hf
  · rename_i hd
    have hd':draw = false:=by simpa using hd
    subst hd'
    cases hl:zbf7 P N ops ops.toList with
    | none => simp [hl] at hc
    | some xs =>
     simp [hl] at hc
     subst hc
     refine wp_region ?_
     have:=za3x (P:=P) (N:=N) (ops:=ops) (K:=Q .normal) (Q:=zbfj B w0 m N Q) ops.toList 0 xs (fun j => by simp) hl m fr σ w a hr hf h
      fun m' fr' σ' a' w' h1 h2 h3 h4 => ⟨m',fr',σ',h1,h2,h3,h4⟩
     simpa [List.range_eq_range'] using this
 | seq x y ihx ihy =>
  intro ic hc Q fr σ h B w0 m w a hr hf
  simp only [mr] at hc
  split at hc
  · rename_i p q hp hq
    injection hc with hc; subst hc
    have h1:=ihx p hp _ fr σ h B w0 m w a hr hf
    refine wp_seq (wp_mono h1 ?_)
    rintro e a' w' ⟨m',fr',σ',h2,h3,h4,h5⟩
    cases e with
    | normal => exact wp_mono (ihy q hq Q fr' σ' h5 B w0 m' w' a' h3 h4) (zbfj.le h2 fun _ _ _ h => h)
    | exit id => exact ⟨m',fr',σ',h2,h3,h4,h5⟩
    | goto id => exact ⟨m',fr',σ',h2,h3,h4,h5⟩
    | ret => exact ⟨m',fr',σ',h2,h3,h4,h5⟩
    | panic id => exact ⟨m',fr',σ',h2,h3,h4,h5⟩
    | outgrown => exact ⟨m',fr',σ',h2,h3,h4,h5⟩
  · cases hc
 | cond c x y ihx ihy =>
  intro ic hc Q fr σ h B w0 m w a hr hf
  simp only [mr] at hc
  split at hc
  · rename_i hoc
    split at hc
    · rename_i p q hp hq
      injection hc with hc; subst hc
      have hv:=ax hf hoc
      simp only [evC] at h
      cases hx:evO fr c with
      | bool t =>
       rw [hx] at hv h
       have:=zbl8 hv
       refine wp_cond this ?_
       cases t
       · exact ihy q hq Q fr σ (h.2 rfl) B w0 m w a hr hf
       · exact ihx p hp Q fr σ (h.1 rfl) B w0 m w a hr hf
      | _ => rw [hx] at h; exact h.elim
    · cases hc
  · cases hc
 | block id x ih =>
  intro ic hc Q fr σ h B w0 m w a hr hf
  simp only [mr] at hc
  cases hx:mr P N H x with
  | none => simp [hx] at hc
  | some p =>
   simp [hx] at hc
   subst hc
   have h1:=ih p hx _ fr σ h B w0 m w a hr hf
   refine wp_block (wp_mono h1 ?_)
   rintro e a' w' ⟨m',fr',σ',h2,h3,h4,h5⟩
   cases e with
   | exit j =>
    simp only [zbmp] at h5
    simp only [Exit.inBlock]
    split
    · rename_i hj; rw [if_pos hj] at h5; exact ⟨m',fr',σ',h2,h3,h4,h5⟩
    · rename_i hj; rw [if_neg hj] at h5; exact ⟨m',fr',σ',h2,h3,h4,h5⟩
   | normal => exact ⟨m',fr',σ',h2,h3,h4,h5⟩
   | goto id => exact ⟨m',fr',σ',h2,h3,h4,h5⟩
   | ret => exact ⟨m',fr',σ',h2,h3,h4,h5⟩
   | panic id => exact ⟨m',fr',σ',h2,h3,h4,h5⟩
   | outgrown => exact ⟨m',fr',σ',h2,h3,h4,h5⟩
 | loop x ih =>
  intro ic hc Q fr σ h
  have hc':=hc
  simp only [mr] at hc
  cases hx:mr P N H x with
  | none => simp [hx] at hc
  | some p =>
   simp [hx] at hc
   subst hc
   exact h H _ hc'
 | exit id =>
  intro ic hc Q fr σ h B w0 m w a hr hf
  injection hc with hc; subst hc
  exact wp_exit ⟨m,fr,σ,.refl m,hr,hf,h⟩
 | ret =>
  intro ic hc Q fr σ h B w0 m w a hr hf
  injection hc with hc; subst hc
  exact wp_ret ⟨m,fr,σ,.refl m,hr,hf,h⟩
 | rangeFunc f ps x y _ _ => intro ic hc; simp [mr] at hc
 | scope x _ => intro ic hc; simp [mr] at hc
 | label l =>
  intro ic hc Q fr σ h B w0 m w a hr hf
  injection hc with hc; subst hc
  exact wp_label ⟨m,fr,σ,.refl m,hr,hf,h⟩
 | goto l => intro ic hc; simp [mr] at hc
 | refuse s => intro ic hc; simp [mr] at hc
theorem zamv {ι:Type} {a:IC} {Q:Exit → Fr → ah → Prop} (I:ι → Fr → ah → Prop) (μ:ι → Nat) (i0:ι) {fr:Fr} {σ:ah} (h0:I i0 fr σ)
 (round:∀ i fr σ,I i fr σ → evC P N a (zbjp (fun fr' σ' => ∃ i',μ i' < μ i ∧ I i' fr' σ') Q) fr σ):zb67 P N (.loop a) Q fr σ:=by
 intro H c hc B w0 m w act hr hf
 cases c with
 | loop x =>
  simp only [mr] at hc
  cases hx:mr P N H x with
  | none => simp [hx] at hc
  | some p =>
   simp [hx] at hc
   subst hc
   refine wp_loop_ghost (fun n act w => ∃ i m' fr σ,μ i = n ∧ m.le m' ∧ Rep B w0 σ m' w ∧ gg m' N fr act ∧ I i fr σ) (μ i0) ⟨i0,m,fr,σ,rfl,.refl m,hr,hf,h0⟩ ?_
   rintro n act w ⟨i,m',fr,σ,rfl,hm,hr,hf,hI⟩
   refine wp_mono (zbop x p hx _ fr σ (round i fr σ hI) B w0 m' w act hr hf) ?_
   rintro e a' w' ⟨m2,fr2,σ2,h2,h3,h4,h5⟩
   cases e with
   | normal =>
    obtain ⟨i',hlt,hI'⟩:=h5
    exact ⟨μ i',hlt,i',m2,fr2,σ2,rfl,hm.trans h2,h3,h4,hI'⟩
   | exit id => exact ⟨m2,fr2,σ2,hm.trans h2,h3,h4,h5⟩
   | goto id => exact ⟨m2,fr2,σ2,hm.trans h2,h3,h4,h5⟩
   | ret => exact ⟨m2,fr2,σ2,hm.trans h2,h3,h4,h5⟩
   | panic id => exact ⟨m2,fr2,σ2,hm.trans h2,h3,h4,h5⟩
   | outgrown => exact ⟨m2,fr2,σ2,hm.trans h2,h3,h4,h5⟩
 | region id ops draw =>
  simp only [mr] at hc
  split at hc
  · split at hc
    · cases hl:zbig P N ops (zbe3 H id) <;> simp [hl] at hc
    · cases hl:zbir P N ops (zbe3 H id) <;> simp [hl] at hc
  · cases hl:zbf7 P N ops ops.toList <;> simp [hl] at hc
 | seq x y => simp only [mr] at hc; split at hc <;> cases hc
 | cond q x y => simp only [mr] at hc; split at hc <;> (try split at hc) <;> cases hc
 | block id x => simp only [mr] at hc; cases hx:mr P N H x <;> simp [hx] at hc
 | _ => simp [mr] at hc
end
end Go.Proofs.Ytgkkienmocpnbaa.Sh
