/- The tree level and the shadow: when a value, a state of the one is as one of the other; operations that leave all as it is. -/
import Derived.Test.YtdcfoaafkppojaaTv1
set_option linter.unusedVariables false
set_option linter.unusedSimpArgs false
namespace Go.Proofs.Ytdcfoaafkppojaa.Sh
open Go Go.RowKit
inductive PR (σ : ak) : TV → Value → Prop where
  | bool (b : Bool) : PR σ (.bool b) (.bool b)
  | int (k : IntKind) (n : Int) : PR σ (.int k n) (.int k n)
  | str (s : ByteArray) : PR σ (.str s) (.string s)
  | nilP : PR σ .nilP (.pointer none)
  | nilM : PR σ .nilM (.map none)
  | nilF : PR σ .nilF .nilFunc
  | nilI : PR σ .nilI .nilIface
  | func (f : FuncId) : PR σ (.func f [] []) (.func (.func f) #[] #[])
  | slN : PR σ (.sl []) (.slice none 0 0)
  | slE (a : Addr) (s : Nat) : PR σ (.sl []) (.slice (some a) 0 s)
  | sl (l : List TV) (g o s : Nat) (t : TypeId) (cs : List Value) (md : Md) (hne : l ≠ []) (hs : s ≠ 0) (hat : σ.at g = .cells t cs md) (hmd : md ≠ .rw) (hlen : o + l.length * s ≤ cs.length)
      (hc : ∀ i,i < l.length → (l.getD i .undef).cells.length = s)
      (hr : ∀ i,i < l.length → ∀ j,j < s → PR σ ((l.getD i .undef).cells.getD j .undef) (cs.getD (o + i * s + j) undef)) :
      PR σ (.sl l) (.slice (some ⟨g,o,none⟩) l.length s)
inductive Own where
  | none
  | obj (id : Nat)
  | cell (id off : Nat)
  | tok (i : Nat)
structure Env where
  b : Nat → Nat
  n : Nat
  who : Nat → Own
def Link (σ : ak) (own : Nat → Prop) (t : TypeId) (l : List TV) (w : Value) : Prop :=
  (l = [] ∧ w = .slice none 0 0) ∨ (l ≠ [] ∧ ∃ g s cs,w = .slice (some ⟨g,0,none⟩) l.length s ∧ own g ∧ σ.at g = .cells t cs .app ∧ cs.length = l.length * s)
inductive TR (σ : ak) (e : Env) (tk : TK) : TV → Value → Prop where
  | undef (w : Value) : TR σ e tk .undef w
  | pr {v : TV} {w : Value} (h : PR σ v w) : TR σ e tk v w
  | slz : TR σ e tk .slz (.slice none 0 0)
  | ptr (id off : Nat) (h : id < e.n) : TR σ e tk (.ptr id off) (.pointer (some ⟨e.b id,off,none⟩))
  | slm (id off n sz : Nat) (h : id < e.n) : TR σ e tk (.slm id off n sz) (.slice (some ⟨e.b id,off,none⟩) n sz)
  | rptr (cs : List TV) (off g o : Nat) (t : TypeId) (ws : List Value) (md : Md) (hat : σ.at g = .cells t ws md) (hmd : md ≠ .rw) (hlen : o + cs.length ≤ ws.length)
      (hr : ∀ j,j < cs.length → PR σ (cs.getD j .undef) (ws.getD (o + j) Go.undef)) : TR σ e tk (.rptr cs off) (.pointer (some ⟨g,o + off,none⟩))
  | sla (tok : Nat) (l : List TV) (w : Value) (h : PR σ (.sl l) w) (hlt : tok < tk.length)
      (hl : ∀ n t,tk[tok]? = some (some (n,t)) → l.length ≤ n ∧ (l.length = n → Link σ (fun g => e.who g = .tok tok) t l w)) : TR σ e tk (.sla tok l) w
  | slb (tok : Nat) (t : TypeId) (g : Nat) (hlt : tok < tk.length) (hl : ∀ n t',tk[tok]? = some (some (n,t')) → n = 0 → e.who g = .tok tok ∧ σ.at g = .cells t [] .app) : TR σ e tk (.slb tok t) (.slice (some ⟨g,0,none⟩) 0 1)
  | func (f : FuncId) (a b : List TV) (c d : Array Value) (ha : a.length = c.size) (hb : b.length = d.size) (h1 : ∀ i,i < a.length → TR σ e tk (a.getD i .undef) (c.getD i Go.undef))
      (h2 : ∀ i,i < b.length → TR σ e tk (b.getD i .undef) (d.getD i Go.undef)) : TR σ e tk (.func f a b) (.func (.func f) c d)
  | agg (a : List TV) (c : Array Value) (ha : a.length = c.size) (h : ∀ i,i < a.length → TR σ e tk (a.getD i .undef) (c.getD i Go.undef)) : TR σ e tk (.agg a) (.agg c)
  | tup (a : List TV) (c : Array Value) (ha : a.length = c.size) (h : ∀ i,i < a.length → TR σ e tk (a.getD i .undef) (c.getD i Go.undef)) : TR σ e tk (.tup a) (.tuple c)
def zg (σ σ' : ak) : Prop := ∀ g t cs md,σ.at g = .cells t cs md → md ≠ .rw → ∃ md',md' ≠ .rw ∧ σ'.at g = .cells t cs md'
theorem zg.refl (σ : ak) : zg σ σ := fun g t cs md h hm => ⟨md,hm,h⟩
theorem zg.trans {a b c : ak} (h : zg a b) (k : zg b c) : zg a c := fun g t cs md h1 hm => by
  obtain ⟨m1,h2,h3⟩ := h g t cs md h1 hm
  exact k g t cs m1 h3 h2
theorem zg.push (σ : ak) (b : Blk) : zg σ (σ.push b) := fun g t cs md h hm => ⟨md,hm,by
  rw [σ.at_push_ne b (Nat.ne_of_lt (ak.lt_of_at (by rw [h]; rfl)))]; exact h⟩
theorem PR.mono {σ σ' : ak} (hk : zg σ σ') {v : TV} {w : Value} (h : PR σ v w) : PR σ' v w := by
  induction h with
  | sl l g o s t cs md hne hs hat hmd hlen hc hr ih =>
    obtain ⟨m2,h2,h3⟩ := hk g t cs md hat hmd
    exact .sl l g o s t cs m2 hne hs h3 h2 hlen hc ih
  | bool b => exact .bool b
  | int k n => exact .int k n
  | str s => exact .str s
  | nilP => exact .nilP
  | nilM => exact .nilM
  | nilF => exact .nilF
  | nilI => exact .nilI
  | func f => exact .func f
  | slN => exact .slN
  | slE a s => exact .slE a s
structure Stp (σ : ak) (e : Env) (tk : TK) (σ' : ak) (e' : Env) (tk' : TK) : Prop where
  keep : zg σ σ'
  n : e.n ≤ e'.n
  b : ∀ id,id < e.n → e'.b id = e.b id
  tkl : ∀ i,i < tk.length → i < tk'.length
  tok : ∀ i n' t',i < tk.length → tk'[i]? = some (some (n',t')) → ∃ n t,tk[i]? = some (some (n,t)) ∧ ((n = n' ∧ (t = t' ∨ n = 0) ∧ ∀ g,e.who g = .tok i → e'.who g = .tok i ∧ σ'.at g = σ.at g) ∨ n < n')
theorem TR.step {σ σ' : ak} {e e' : Env} {tk tk' : TK} (hs : Stp σ e tk σ' e' tk') {v : TV} {w : Value} (h : TR σ e tk v w) : TR σ' e' tk' v w := by
  induction h with
  | undef w => exact .undef w
  | pr h => exact .pr (h.mono hs.keep)
  | slz => exact .slz
  | ptr id off h => rw [← hs.b id h]; exact .ptr id off (Nat.lt_of_lt_of_le h hs.n)
  | slm id off n sz h => rw [← hs.b id h]; exact .slm id off n sz (Nat.lt_of_lt_of_le h hs.n)
  | rptr cs off g o t ws md hat hmd hlen hr =>
    obtain ⟨m2,h2,h3⟩ := hs.keep g t ws md hat hmd
    exact .rptr cs off g o t ws m2 h3 h2 hlen fun j hj => (hr j hj).mono hs.keep
  | sla tok l w h hlt hl =>
    refine .sla tok l w (h.mono hs.keep) (hs.tkl tok hlt) fun n' t' hn => ?_
    obtain ⟨n,t,e1,e2⟩ := hs.tok tok n' t' hlt hn
    obtain ⟨h1,h2⟩ := hl n t e1
    rcases e2 with ⟨rfl,ht,e3⟩ | e3
    · refine ⟨h1,fun e => ?_⟩
      rcases h2 e with h2 | ⟨hne,g,s,cs,q1,q2,q3,q4⟩
      · exact .inl h2
      · obtain ⟨r1,r2⟩ := e3 g q2
        have ht : t = t' := ht.resolve_right fun h0 => hne (List.eq_nil_of_length_eq_zero (by omega))
        exact .inr ⟨hne,g,s,cs,q1,r1,by rw [r2,← ht]; exact q3,q4⟩
    · exact ⟨by omega,fun e => by omega⟩
  | slb tok t g hlt hl =>
    refine .slb tok t g (hs.tkl tok hlt) fun n' t' hn h0 => ?_
    obtain ⟨n,t1,e1,e2⟩ := hs.tok tok n' t' hlt hn
    subst h0
    rcases e2 with ⟨rfl,ht,e3⟩ | e3
    · obtain ⟨h1,h2⟩ := hl _ _ e1 rfl
      obtain ⟨r1,r2⟩ := e3 g h1
      exact ⟨r1,by rw [r2]; exact h2⟩
    · omega
  | func f a b c d ha hb h1 h2 ih1 ih2 => exact .func f a b c d ha hb ih1 ih2
  | agg a c ha h ih => exact .agg a c ha ih
  | tup a c ha h ih => exact .tup a c ha ih
theorem Stp.refl (σ : ak) (e : Env) (tk : TK) : Stp σ e tk σ e tk :=
  ⟨.refl _,Nat.le_refl _,fun _ _ => rfl,fun _ h => h,fun i n t hi h => ⟨n,t,h,.inl ⟨rfl,.inl rfl,fun g hg => ⟨hg,rfl⟩⟩⟩⟩
section inv
variable {σ : ak} {e : Env} {tk : TK} {w : Value}
theorem va {b : Bool} (h : TR σ e tk (.bool b) w) : w = .bool b := by cases h; rename_i h; cases h; rfl
theorem mc {k : IntKind} {n : Int} (h : TR σ e tk (.int k n) w) : w = .int k n := by cases h; rename_i h; cases h; rfl
theorem zab7 {s : ByteArray} (h : TR σ e tk (.str s) w) : w = .string s := by cases h; rename_i h; cases h; rfl
theorem tr_nilP (h : TR σ e tk .nilP w) : w = .pointer none := by cases h; rename_i h; cases h; rfl
theorem tr_nilM (h : TR σ e tk .nilM w) : w = .map none := by cases h; rename_i h; cases h; rfl
theorem tr_nilF (h : TR σ e tk .nilF w) : w = .nilFunc := by cases h; rename_i h; cases h; rfl
theorem zasx (h : TR σ e tk .slz w) : w = .slice none 0 0 := by cases h <;> first | rfl | (rename_i h; cases h)
theorem u9 {id off : Nat} (h : TR σ e tk (.ptr id off) w) : id < e.n ∧ w = .pointer (some ⟨e.b id,off,none⟩) := by
  cases h with
  | ptr _ _ h => exact ⟨h,rfl⟩
  | pr h => cases h
theorem zapa {id off n sz : Nat} (h : TR σ e tk (.slm id off n sz) w) : id < e.n ∧ w = .slice (some ⟨e.b id,off,none⟩) n sz := by
  cases h with
  | slm _ _ _ _ h => exact ⟨h,rfl⟩
  | pr h => cases h
theorem zab8 {cs : List TV} {off : Nat} (h : TR σ e tk (.rptr cs off) w) : ∃ g o t ws md,σ.at g = .cells t ws md ∧ md ≠ .rw ∧ o + cs.length ≤ ws.length ∧ (∀ j,j < cs.length → PR σ (cs.getD j .undef) (ws.getD (o + j) Go.undef)) ∧
    w = .pointer (some ⟨g,o + off,none⟩) := by
  cases h with
  | rptr _ _ g o t ws md hat hmd hlen hr => exact ⟨g,o,t,ws,md,hat,hmd,hlen,hr,rfl⟩
  | pr h => cases h
theorem za22 {tok : Nat} {t : TypeId} (h : TR σ e tk (.slb tok t) w) : ∃ g,w = .slice (some ⟨g,0,none⟩) 0 1 ∧ tok < tk.length ∧ ∀ n t',tk[tok]? = some (some (n,t')) → n = 0 → e.who g = .tok tok ∧ σ.at g = .cells t [] .app := by
  cases h with
  | slb _ _ g hlt hl => exact ⟨g,rfl,hlt,hl⟩
  | pr h => cases h
theorem zamd {a : List TV} (h : TR σ e tk (.agg a) w) : ∃ c,w = .agg c ∧ a.length = c.size ∧ ∀ i,i < a.length → TR σ e tk (a.getD i .undef) (c.getD i Go.undef) := by
  cases h with
  | agg _ c ha h => exact ⟨c,rfl,ha,h⟩
  | pr h => cases h
theorem tr_tup {a : List TV} (h : TR σ e tk (.tup a) w) : ∃ c,w = .tuple c ∧ a.length = c.size ∧ ∀ i,i < a.length → TR σ e tk (a.getD i .undef) (c.getD i Go.undef) := by
  cases h with
  | tup _ c ha h => exact ⟨c,rfl,ha,h⟩
  | pr h => cases h
theorem za1c {f : FuncId} {a b : List TV} (h : TR σ e tk (.func f a b) w) : ∃ c d,w = .func (.func f) c d ∧ a.length = c.size ∧ b.length = d.size ∧ (∀ i,i < a.length → TR σ e tk (a.getD i .undef) (c.getD i Go.undef)) ∧
    ∀ i,i < b.length → TR σ e tk (b.getD i .undef) (d.getD i Go.undef) := by
  cases h with
  | func _ _ _ c d ha hb h1 h2 => exact ⟨c,d,rfl,ha,hb,h1,h2⟩
  | pr h => cases h; exact ⟨_,_,rfl,rfl,rfl,fun i hi => by simp at hi,fun i hi => by simp at hi⟩
theorem pi {v : TV} {l : List TV} (hv : v.list = some l) (h : TR σ e tk v w) : PR σ (.sl l) w := by
  cases v with
  | sl l' => injection hv with hv; subst hv; cases h; assumption
  | sla tok l' => injection hv with hv; subst hv; cases h with | sla _ _ _ h => exact h | pr h => cases h
  | slz => injection hv with hv; subst hv; rw [zasx h]; exact .slN
  | _ => cases hv
theorem zack {l : List TV} (h : PR σ (.sl l) w) : ∃ a s,w = .slice a l.length s := by cases h <;> exact ⟨_,_,rfl⟩
theorem rn {l : List TV} (hne : l ≠ []) (h : PR σ (.sl l) w) : ∃ g o s t cs md,s ≠ 0 ∧ σ.at g = .cells t cs md ∧ md ≠ .rw ∧ o + l.length * s ≤ cs.length ∧ (∀ i,i < l.length → (l.getD i .undef).cells.length = s) ∧
    (∀ i,i < l.length → ∀ j,j < s → PR σ ((l.getD i .undef).cells.getD j .undef) (cs.getD (o + i * s + j) undef)) ∧ w = .slice (some ⟨g,o,none⟩) l.length s := by
  cases h with
  | slN => exact absurd rfl hne
  | slE => exact absurd rfl hne
  | sl _ g o s t cs md _ hs hat hmd hlen hc hr => exact ⟨g,o,s,t,cs,md,hs,hat,hmd,hlen,hc,hr,rfl⟩
end inv
theorem zawm {σ : ak} {e : Env} {tk : TK} (v : Value) : TR σ e tk (ofS v) v := by
  unfold ofS
  split
  · exact .pr (.bool _)
  · exact .pr (.int _ _)
  · exact .pr (.str _)
  · exact .pr .nilP
  · exact .pr .nilM
  · exact .pr .nilF
  · exact .pr .nilI
  · exact .slz
  · exact .pr (.func _)
  · exact .undef _
theorem tr_ofL {σ : ak} {e : Env} {tk : TK} (cs : Array Value) : ∀ i,i < (cs.toList.map ofS).length → TR σ e tk ((cs.toList.map ofS).getD i .undef) (cs.getD i undef) := fun i hi => by
  have hi' : i < cs.size := by simpa using hi
  have e1 : (cs.toList.map ofS).getD i .undef = ofS cs[i] := by simp [List.getD_eq_getElem?_getD,hi']
  have e2 : cs.getD i undef = cs[i] := by simp [Array.getD,hi']
  rw [e1,e2]
  exact zawm _
theorem tr_ofV {σ : ak} {e : Env} {tk : TK} (v : Value) : TR σ e tk (ofV v) v := by
  unfold ofV
  split
  · rename_i cs
    exact .agg _ _ (by simp) (tr_ofL cs)
  · rename_i cs
    exact .tup _ _ (by simp) (tr_ofL cs)
  · exact zawm _
def CR (σ : ak) (e : Env) (id j : Nat) (v : TV) (w : Value) : Prop :=
  match v with
  | .slo t l => PR σ (.sl l) w ∧ Link σ (fun g => e.who g = .cell id j) t l w
  | v => TR σ e [] v w ∧ v.under (id + 1) = true ∧ v.one = true
def OLive (σ : ak) (e : Env) (id : Nat) (b : Ob) : Prop :=
  e.who (e.b id) = .obj id ∧ ∃ cs,σ.at (e.b id) = .cells b.t cs .rw ∧ cs.length = b.cs.length ∧ ∀ j,j < cs.length → CR σ e id j (b.cs.getD j .undef) (cs.getD j undef) ∧ scalar (cs.getD j undef) = true
def zaru (σ : ak) (e : Env) (id : Nat) (b : Ob) : Prop := b.cs = [] ∨ OLive σ e id b
theorem zaru.live {σ : ak} {e : Env} {id : Nat} {b : Ob} (h : zaru σ e id b) (hne : b.cs ≠ []) : OLive σ e id b := h.resolve_left hne
structure Bs where
  σ : ak
  e : Env
  lo : Nat
def Bs.free (B : Bs) (g : Nat) : Prop := B.σ.next ≤ g ∨ ∃ id,B.lo ≤ id ∧ (B.e.who g = .obj id ∨ ∃ j,B.e.who g = .cell id j)
def Own.mine (lo : Nat) : Own → Prop
  | .none => False
  | .obj id => lo ≤ id
  | .cell id _ => lo ≤ id
  | .tok _ => True
structure St (B : Bs) (e : Env) (fr : TF) (tk : TK) (τ : TH) (fr' : Fr) (σ : ak) : Prop where
  nx : B.σ.next ≤ σ.next
  keep : ∀ g,g < B.σ.next → ¬ B.free g → σ.blk g = B.σ.blk g
  fro : zg B.σ σ
  n0 : B.e.n ≤ e.n
  b0 : ∀ id,id < B.e.n → e.b id = B.e.b id
  n : e.n = τ.next
  lo : τ.lock = B.lo
  mine : ∀ g,(e.who g).mine B.lo → B.free g
  wlt : ∀ g,e.who g ≠ .none → g < σ.next
  wid : ∀ g id,(e.who g = .obj id ∨ ∃ j,e.who g = .cell id j) → id < e.n
  old : ∀ g,g < B.σ.next → ¬ B.free g → e.who g = B.e.who g
  ob : ∀ id,id < τ.next → ∃ b,τ.at id = some b ∧ zaru σ e id b
  fm : ∀ t,TR σ e tk (lkp fr t) (fr' t)
theorem St.op {B : Bs} {e : Env} {fr : TF} {tk : TK} {τ : TH} {fr' : Fr} {σ : ak} (h : St B e fr tk τ fr' σ) (x : Operand) : TR σ e tk (tO fr x) (evO fr' x) := by
  cases x with
  | tmp t => exact h.fm t
  | const v => exact tr_ofV v
  | func f => exact .pr (.func f)
  | global g => exact .undef _
theorem lkp_tput (fr : TF) (d : Option Nat) (v : TV) (t : Nat) : lkp (fu fr d v) t = if d = some t then v else lkp fr t := by
  cases d with
  | none => simp [fu]
  | some d =>
    simp only [fu,lkp,Option.some.injEq]
    by_cases h : t = d
    · simp [h]
    · simp [h,Ne.symm h]
theorem St.frame {B : Bs} {e : Env} {fr fr2 : TF} {tk : TK} {τ : TH} {fr' fr2' : Fr} {σ : ak} (h : St B e fr tk τ fr' σ) (hf : ∀ t,TR σ e tk (lkp fr2 t) (fr2' t)) : St B e fr2 tk τ fr2' σ :=
  ⟨h.nx,h.keep,h.fro,h.n0,h.b0,h.n,h.lo,h.mine,h.wlt,h.wid,h.old,h.ob,hf⟩
theorem St.put {B : Bs} {e : Env} {fr : TF} {tk : TK} {τ : TH} {fr' : Fr} {σ : ak} (h : St B e fr tk τ fr' σ) (d : Option Nat) {v : TV} {w : Value} (hv : TR σ e tk v w) : St B e (fu fr d v) tk τ (fr'.put d w) σ :=
  h.frame fun t => by
    rw [lkp_tput]
    cases d with
    | none => simpa [Fr.put] using h.fm t
    | some d =>
      simp only [Fr.put,Option.some.injEq]
      by_cases e : t = d
      · rw [if_pos e.symm,if_pos e]; exact hv
      · rw [if_neg (Ne.symm e),if_neg e]; exact h.fm t
theorem lkp_sel (lv : List Nat) (fr : TF) (t : Nat) : lkp (sel lv fr) t = if t ∈ lv then lkp fr t else .undef := by
  unfold sel
  induction lv with
  | nil => rfl
  | cons a r ih =>
    simp only [List.map_cons,lkp,ih,List.mem_cons]
    by_cases h : t = a
    · simp [h]
    · simp [h]
theorem St.sel {B : Bs} {e : Env} {fr : TF} {tk : TK} {τ : TH} {fr' : Fr} {σ : ak} (h : St B e fr tk τ fr' σ) (lv : List Nat) : St B e (sel lv fr) tk τ fr' σ :=
  h.frame fun t => by
    rw [lkp_sel]
    split
    · exact h.fm t
    · exact .undef _
section
variable {σ : ak} {e : Env} {tk : TK}
theorem vbin_int {op : BinOp} {k k' : IntKind} {x y : Int} {r : Value} (h : zi op (.int k x) (.int k' y) = some r) : PR σ (ofS r) r := by
  have key : (∃ k n,r = .int k n) ∨ ∃ b,r = .bool b := by
    unfold zi at h
    simp only at h
    split at h
    · unfold zaqv at h; split at h <;> (try split at h) <;> first | (cases h; exact .inl ⟨_,_,rfl⟩) | cases h
    · unfold zaqv at h; split at h <;> (try split at h) <;> first | (cases h; exact .inl ⟨_,_,rfl⟩) | cases h
    · split at h
      · unfold zarz at h
        split at h <;> (try split at h) <;> first | (cases h; exact .inl ⟨_,_,rfl⟩) | (cases h; exact .inr ⟨_,rfl⟩) | cases h
      · cases h
  rcases key with ⟨k,n,rfl⟩ | ⟨b,rfl⟩
  · exact .int _ _
  · exact .bool _
theorem sbin_str {op : BinOp} {x y : ByteArray} {r : Value} (h : sbin op x y = some r) : PR σ (ofS r) r := by
  unfold sbin at h
  split at h <;> (try split at h) <;> first | (cases h; exact .str _) | (cases h; exact .bool _) | cases h
theorem vbin_str (op : BinOp) (x y : ByteArray) : zi op (.string x) (.string y) = sbin op x y := by unfold zi; rfl
theorem tbin_ok {op : BinOp} {v1 v2 v : TV} {w1 w2 : Value} (h1 : TR σ e tk v1 w1) (h2 : TR σ e tk v2 w2) (h : x7 op v1 v2 = some v) : ∃ r,zi op w1 w2 = some r ∧ PR σ v r := by
  unfold x7 at h
  split at h
  · obtain ⟨r,hr,rfl⟩ := Option.map_eq_some_iff.1 h
    rw [mc h1,mc h2]
    exact ⟨r,hr,vbin_int hr⟩
  · obtain ⟨r,hr,rfl⟩ := Option.map_eq_some_iff.1 h
    rw [zab7 h1,zab7 h2]
    exact ⟨r,by rw [vbin_str]; exact hr,sbin_str hr⟩
  · cases h
theorem tun_ok {op : UnOp} {v v1 : TV} {w1 : Value} (h1 : TR σ e tk v1 w1) (h : tun op v1 = some v) : ∃ r,vun op w1 = some r ∧ PR σ v r := by
  unfold tun at h
  split at h
  · obtain ⟨r,hr,rfl⟩ := Option.map_eq_some_iff.1 h
    rw [mc h1]
    refine ⟨r,hr,?_⟩
    unfold vun at hr
    split at hr <;> first | (cases hr; exact .int _ _) | (cases hr; exact .bool _) | cases hr
  · obtain ⟨r,hr,rfl⟩ := Option.map_eq_some_iff.1 h
    rw [va h1]
    refine ⟨r,hr,?_⟩
    unfold vun at hr
    split at hr <;> first | (cases hr; exact .int _ _) | (cases hr; exact .bool _) | cases hr
  · cases h
theorem tnil_ok {k : NK} {v : TV} {b : Bool} {w : Value} (h1 : TR σ e tk v w) (h : tnil k v = some b) : vnil k w = some b := by
  unfold tnil at h
  split at h
  · injection h with h; subst h; rw [tr_nilP h1]; rfl
  · injection h with h; subst h; rw [(u9 h1).2]; rfl
  · injection h with h; subst h; obtain ⟨_,_,_,_,_,_,_,_,_,rfl⟩ := zab8 h1; rfl
  · injection h with h; subst h; rw [zasx h1]; rfl
  · injection h with h; subst h
    obtain ⟨_,_,_,_,_,_,_,_,_,_,_,_,rfl⟩ := rn (by simp) (pi (v := .sl (_ :: _)) rfl h1); rfl
  · injection h with h; subst h
    obtain ⟨_,_,_,_,_,_,_,_,_,_,_,_,rfl⟩ := rn (by simp) (pi (v := .sla _ (_ :: _)) rfl h1); rfl
  · injection h with h; subst h; rw [(zapa h1).2]; rfl
  · injection h with h; subst h; rw [tr_nilM h1]; rfl
  · injection h with h; subst h; rw [tr_nilF h1]; rfl
  · injection h with h; subst h; obtain ⟨_,_,rfl,_⟩ := za1c h1; rfl
  · cases h
def vHi (n : Nat) : Option Value → Option Nat
  | none => some n
  | some (.int _ h) => if 0 ≤ h ∧ h ≤ n then some h.toNat else none
  | some _ => none
def vLo (h : Nat) : Option Value → Option (Nat × Nat)
  | none => some (0,h)
  | some (.int _ l) => if 0 ≤ l ∧ l ≤ h then some (l.toNat,h) else none
  | some _ => none
theorem bounds_eq (n : Nat) (lo hi : Option Value) : zabz n lo hi = (vHi n hi).bind fun h => vLo h lo := by
  have lo1 : ∀ h,(match lo with | none => some (0,h) | some (.int _ l) => if 0 ≤ l ∧ l ≤ h then some (l.toNat,h) else none | some _ => none) = vLo h lo := fun h => by
    rcases lo with _ | u
    · rfl
    · cases u <;> rfl
  rcases hi with _ | v
  · exact lo1 n
  · cases v with
    | int k h =>
      simp only [zabz,vHi]
      by_cases c : 0 ≤ h ∧ h ≤ n
      · simp only [if_pos c,Option.bind_some]; exact lo1 _
      · simp only [if_neg c,Option.bind_none]
    | _ => rfl
theorem zalm {n : Nat} {lo hi : Option TV} {lo' hi' : Option Value} {lh : Nat × Nat} (h1 : ∀ v,lo = some v → ∃ w,lo' = some w ∧ TR σ e tk v w) (h1' : lo = none → lo' = none)
    (h2 : ∀ v,hi = some v → ∃ w,hi' = some w ∧ TR σ e tk v w) (h2' : hi = none → hi' = none) (h : ig n lo hi = some lh) : zabz n lo' hi' = some lh := by
  rw [bounds_eq]
  unfold ig at h
  obtain ⟨m,hm,hl⟩ := Option.bind_eq_some_iff.1 h
  have e1 : vHi n hi' = some m := by
    cases hi with
    | none => rw [h2' rfl]; exact hm
    | some v =>
      obtain ⟨w,rfl,hw⟩ := h2 v rfl
      cases v with
      | int k x => obtain rfl := mc hw; exact hm
      | _ => cases hm
  rw [e1,Option.bind_some]
  cases lo with
  | none => rw [h1' rfl]; exact hl
  | some v =>
    obtain ⟨w,rfl,hw⟩ := h1 v rfl
    cases v with
    | int k x => obtain rfl := mc hw; exact hl
    | _ => cases hl
theorem tbounds_le {n : Nat} {lo hi : Option TV} {lh : Nat × Nat} (h : ig n lo hi = some lh) : lh.1 ≤ lh.2 ∧ lh.2 ≤ n := by
  unfold ig at h
  obtain ⟨m,hm,hl⟩ := Option.bind_eq_some_iff.1 h
  have hmn : m ≤ n := by
    unfold tHi at hm
    split at hm
    · injection hm with hm; omega
    · split at hm
      · injection hm with hm; omega
      · cases hm
    · cases hm
  unfold tLo at hl
  split at hl
  · injection hl with hl; subst hl; exact ⟨Nat.zero_le _,hmn⟩
  · split at hl
    · injection hl with hl; subst hl; exact ⟨by simp only; omega,hmn⟩
    · cases hl
  · cases hl
theorem teq_ok {k : FK} {v1 v2 : TV} {b : Bool} {w1 w2 : Value} (h1 : TR σ e tk v1 w1) (h2 : TR σ e tk v2 w2) (h : teq k v1 v2 = some b) : eqCell k w1 w2 = some b := by
  unfold teq at h
  split at h
  · rw [va h1,va h2]; exact h
  · rw [mc h1,mc h2]; exact h
  · rw [zab7 h1,zab7 h2]; exact h
  · cases h
theorem teqs_ok : ∀ {ks : List FK} {a c : List TV} {b : Bool} {a' c' : List Value},a.length = a'.length → c.length = c'.length → (∀ i,i < a.length → TR σ e tk (a.getD i .undef) (a'.getD i undef)) → (∀ i,i < c.length → TR σ e tk (c.getD i .undef) (c'.getD i undef)) →
    teqs ks a c = some b → zavp ks a' c' = some b
  | [],[],[],b,[],[],_,_,_,_,h => h
  | [],[],_ :: _,_,_,_,_,_,_,_,h => by cases h
  | [],_ :: _,_,_,_,_,_,_,_,_,h => by cases h
  | _ :: _,[],_,_,_,_,_,_,_,_,h => by cases h
  | _ :: _,_ :: _,[],_,_,_,_,_,_,_,h => by cases h
  | [],[],[],_,_ :: _,_,hl,_,_,_,_ => by cases hl
  | [],[],[],_,[],_ :: _,_,hl,_,_,_ => by cases hl
  | _ :: _,_ :: _,_ :: _,_,[],_,hl,_,_,_,_ => by cases hl
  | _ :: _,_ :: _,_ :: _,_,_ :: _,[],_,hl,_,_,_ => by cases hl
  | k :: ks,v :: vs,u :: us,b,v' :: vs',u' :: us',h1,h2,r1,r2,h => by
    simp only [teqs] at h
    split at h
    · rename_i p q hp hq
      injection h with h; subst h
      have a1 := r1 0 (by simp)
      have a2 := r2 0 (by simp)
      simp only [List.getD_cons_zero] at a1 a2
      have i1 := teqs_ok (ks := ks) (a := vs) (c := us) (a' := vs') (c' := us') (by simpa using h1) (by simpa using h2) (fun i hi => by have := r1 (i + 1) (by simpa using hi); simpa using this)
        (fun i hi => by have := r2 (i + 1) (by simpa using hi); simpa using this) hq
      simp only [zavp,teq_ok a1 a2 hp,i1]
    · cases h
end
end Go.Proofs.Ytdcfoaafkppojaa.Sh
