/- Operations: a small language of operations, made out of the program's by a function; what each does to the shadow; that the model does the same. -/
import Derived.Test.YtdcfoaafkppojaaSh2
import Derived.ChangeKeysEq
import Derived.Maps.Keyed
set_option linter.unusedVariables false
set_option linter.unusedSimpArgs false
namespace Go.Proofs.Ytdcfoaafkppojaa.Sh
open Go Go.RowKit
abbrev Fr := Nat → Value
def Fr.put (fr : Fr) (d : Option Nat) (v : Value) : Fr :=
  match d with
  | some t => fun s => if s = t then v else fr s
  | none => fr
structure ie (m : Mp) (N : Nat) (fr : Fr) (a : Act) : Prop where
  defers : a.defers = []
  size : a.tmps.size = N
  at_ : ∀ t,t < N → bu m (fr t) (a.tmps.getD t undef)
theorem ie.mono {m m' : Mp} {N : Nat} {fr : Fr} {a : Act} (hm : m.le m') (h : ie m N fr a) : ie m' N fr a := ⟨h.defers,h.size,fun t ht => (h.at_ t ht).mono hm⟩
theorem ie.put {m : Mp} {N : Nat} {fr : Fr} {a : Act} (h : ie m N fr a) (d : Option Nat) {v c : Value} (hv : bu m v c) : ie m N (fr.put d v) (a.put d c) := by
  cases d with
  | none => exact h
  | some d =>
    refine ⟨h.defers,by simpa [Act.put] using h.size,fun t ht => ?_⟩
    have hs := h.size
    simp only [Fr.put,Act.put]
    by_cases e : t = d
    · subst e
      rw [if_pos rfl]
      have : (a.tmps.setIfInBounds t c).getD t undef = c := by simp [Array.getD,hs,ht]
      rw [this]
      exact hv
    · rw [if_neg e]
      have : (a.tmps.setIfInBounds d c).getD t undef = a.tmps.getD t undef := by
        simp only [Array.getD_eq_getD_getElem?]
        rw [Array.getElem?_setIfInBounds_ne (Ne.symm e)]
      rw [this]
      exact h.at_ t ht
def xx : Value → Bool
  | .bool _ | .int _ _ | .string _ | .pointer none | .map none | .nilFunc | .nilIface => true
  | .slice none n k => n == 0 && k == 0
  | .func _ a b => a.size == 0 && b.size == 0
  | _ => false
def zaq9 : Value → Bool
  | .agg cs | .tuple cs => (List.range cs.size).all fun i => xx (cs.getD i undef)
  | v => xx v
theorem zaaf {m : Mp} {v : Value} (h : xx v = true) : bu m v v := by
  cases v with
  | bool b => exact .bool b
  | int k n => exact .int k n
  | string s => exact .string s
  | pointer a => cases a with | none => exact .nilP | some a => simp [xx] at h
  | slice a n k => cases a with
    | none => simp [xx] at h; obtain ⟨rfl,rfl⟩ := h; exact .nilS
    | some a => simp [xx] at h
  | map r => cases r with | none => exact .nilM | some a => simp [xx] at h
  | nilFunc => exact .nilF
  | nilIface => exact .nilI
  | func fn a b =>
    simp [xx] at h
    exact .func fn a b a b rfl rfl (fun i hi => by simp [h.1] at hi) (fun i hi => by simp [h.2] at hi)
  | _ => simp [xx] at h
theorem zaq8 {m : Mp} {v : Value} (h : zaq9 v = true) : bu m v v := by
  cases v with
  | agg cs => simp [zaq9] at h; exact .agg _ _ rfl fun i hi => zaaf (by simpa [Array.getD,hi] using h i hi)
  | tuple cs => simp [zaq9] at h; exact .tuple _ _ rfl fun i hi => zaaf (by simpa [Array.getD,hi] using h i hi)
  | _ => exact zaaf h
def okO (N : Nat) : Operand → Bool
  | .tmp t => decide (t < N)
  | .const v => zaq9 v
  | .func _ => true
  | .global _ => false
def evO (fr : Fr) : Operand → Value
  | .tmp t => fr t
  | .const v => v
  | .func f => .func (.func f) #[] #[]
  | .global _ => undef
theorem ba {m : Mp} {N : Nat} {fr : Fr} {a : Act} (h : ie m N fr a) {x : Operand} (hx : okO N x = true) : bu m (evO fr x) (a.eval x) := by
  cases x with
  | tmp t => exact h.at_ t (by simpa [okO] using hx)
  | const v => exact zaq8 hx
  | func f => exact .func _ _ _ _ _ rfl rfl (fun i hi => by simp at hi) (fun i hi => by simp at hi)
  | global g => simp [okO] at hx
def argVal (vs : List Value) (i : Nat) : Value := vs.getD i undef
inductive FK where
  | b | i | s
inductive NK where
  | p | s | m | f
inductive I where
  | mov (x : Operand)
  | pick (c a b : Operand)
  | box (t : TypeId) (n : Nat) (x : Operand)
  | load1 (x : Operand)
  | loadN (n : Nat) (x : Operand)
  | store (n : Nat) (a x : Operand)
  | nilchk (x : Operand)
  | bin (op : BinOp) (x y : Operand)
  | eqB (neg : Bool) (x y : Operand)
  | isNil (k : NK) (neg : Bool) (x : Operand)
  | un (op : UnOp) (x : Operand)
  | conv (k : IntKind) (x : Operand)
  | convS (x : Operand)
  | fieldAddr (off : Nat) (x : Operand)
  | field1 (off : Nat) (x : Operand)
  | fieldN (off n : Nat) (x : Operand)
  | indexPtr (len sz : Nat) (x i : Operand)
  | indexSl (sz : Nat) (x i : Operand)
  | indexStr (x i : Operand)
  | sliceStr (x : Operand) (lo hi : Option Operand)
  | sliceSl (sz : Nat) (x : Operand) (lo hi : Option Operand)
  | lenS (x : Operand)
  | lenL (x : Operand)
  | min (x y : Operand)
  | max (x y : Operand)
  | mkFunc (fn : Fn) (first captured : List Operand)
  | call (f : FuncId) (args : List Operand)
  | callv (x : Operand) (args : List Operand)
  | callW (f : FuncId) (args : List Operand)
  | callvW (x : Operand) (args : List Operand)
  | extract (x : Operand) (i : Nat)
  | build (zero : List Value) (parts : List (Nat × Nat × Operand))
  | buildSl (t : TypeId) (sz len : Nat) (zeros : List Value) (parts : List (Nat × Nat × Operand))
  | makeSl (t : TypeId) (bytes : Nat) (zero : List Value) (l c : Operand)
  | append (t : TypeId) (sz bytes : Nat) (s x : Operand)
  | appendS (t : TypeId) (s x : Operand)
  | toBytes (t : TypeId) (x : Operand)
  | toStr (x : Operand)
  | mkMap
  | indexAgg (len : Nat) (x i : Operand)
  | indexAggN (len sz : Nat) (x i : Operand)
  | eqF (neg : Bool) (ks : List FK) (x y : Operand)
  | mapGet (kt : TypeId) (x i : Operand)
  | mapSet (kt : TypeId) (x i v : Operand)
def zarz (op : BinOp) (k : IntKind) (x y : Int) : Option Value :=
  match op with
  | .add => some (.int k (k.wrap (x + y)))
  | .sub => some (.int k (k.wrap (x - y)))
  | .mul => some (.int k (k.wrap (x * y)))
  | .quo => if y = 0 then none else some (.int k (k.wrap (x.tdiv y)))
  | .rem => if y = 0 then none else some (.int k (x.tmod y))
  | .and => some (.int k (k.wrap (BitVec.ofInt k.bits x &&& BitVec.ofInt k.bits y).toNat))
  | .or => some (.int k (k.wrap (BitVec.ofInt k.bits x ||| BitVec.ofInt k.bits y).toNat))
  | .xor => some (.int k (k.wrap (BitVec.ofInt k.bits x ^^^ BitVec.ofInt k.bits y).toNat))
  | .andNot => some (.int k (k.wrap (BitVec.ofInt k.bits x &&& ~~~(BitVec.ofInt k.bits y)).toNat))
  | .eql => some (.bool (x == y))
  | .neq => some (.bool (x != y))
  | .lss => some (.bool (decide (x < y)))
  | .leq => some (.bool (decide (x ≤ y)))
  | .gtr => some (.bool (decide (y < x)))
  | .geq => some (.bool (decide (y ≤ x)))
  | .shl | .shr => none
def zaqv (op : BinOp) (k : IntKind) (x y : Int) : Option Value :=
  if y < 0 then none else
  match op with
  | .shl => some (.int k (k.wrap (x * 2 ^ (Nat.min y.toNat k.bits))))
  | .shr => some (.int k (x.fdiv (2 ^ (Nat.min y.toNat k.bits))))
  | _ => none
def sbin (op : BinOp) (x y : ByteArray) : Option Value :=
  match op with
  | .add => if ((x.size + y.size : Nat) : Int) > IntKind.i64.max then none else some (.string (x ++ y))
  | .eql => some (.bool (x.toList == y.toList))
  | .neq => some (.bool (!(x.toList == y.toList)))
  | _ => none
def zi (op : BinOp) (v w : Value) : Option Value :=
  match v,w with
  | .int k x,.int k' y => match op with
    | .shl => zaqv .shl k x y
    | .shr => zaqv .shr k x y
    | op => if k = k' then zarz op k x y else none
  | .string x,.string y => sbin op x y
  | _,_ => none
def vnil (k : NK) (v : Value) : Option Bool :=
  match k,v with
  | .p,.pointer a => some a.isNone
  | .s,.slice a _ _ => some a.isNone
  | .m,.map r => some r.isNone
  | .f,.nilFunc => some true
  | .f,.func _ _ _ => some false
  | _,_ => none
def vun (op : UnOp) (v : Value) : Option Value :=
  match op,v with
  | .neg,.int k n => some (.int k (k.wrap (0 - n)))
  | .xor,.int k n => some (.int k (k.wrap (BitVec.ofInt k.bits (if k.signed then -1 else k.max) ^^^ BitVec.ofInt k.bits n).toNat))
  | .not,.bool b => some (.bool !b)
  | _,_ => none
def zakn (P : Program) (f : FuncId) : Bool :=
  match P.funcs[f]? with
  | some fn => fn.name != "runtime.NumGoroutine" && fn.body.isSome
  | none => false
def io (P : Program) (f : FuncId) (args : List Value) (σ : ak) (Post : Value → ak → Prop) : Prop :=
  zakn P f = true ∧ ∀ B w0 m w (cargs : Array Value),Rep B w0 σ m w → cargs.size = args.length → (∀ i,i < args.length → bu m (args.getD i undef) (cargs.getD i undef)) →
    Calls P f cargs w fun e w' => ∃ v c m' σ',e = .returned c ∧ m.le m' ∧ bu m' v c ∧ Rep B w0 σ' m' w' ∧ Post v σ'
theorem io.mono {P : Program} {f : FuncId} {args : List Value} {σ : ak} {Post Post' : Value → ak → Prop} (h : io P f args σ Post) (hp : ∀ v σ',Post v σ' → Post' v σ') : io P f args σ Post' :=
  ⟨h.1,fun B w0 m w cargs hr hs hv => (h.2 B w0 m w cargs hr hs hv).mono fun e w' ⟨v,c,m',σ',h1,h2,h3,h4,h5⟩ => ⟨v,c,m',σ',h1,h2,h3,h4,hp _ _ h5⟩⟩
def intV : Value → Option (IntKind × Int)
  | .int k n => some (k,n)
  | _ => none
def zabz (n : Nat) (lo hi : Option Value) : Option (Nat × Nat) :=
  match (match hi with
    | none => some n
    | some (.int _ h) => if 0 ≤ h ∧ h ≤ n then some h.toNat else none
    | some _ => none) with
  | none => none
  | some h => match lo with
    | none => some (0,h)
    | some (.int _ l) => if 0 ≤ l ∧ l ≤ h then some (l.toNat,h) else none
    | some _ => none
def zab4 (v : Value) (K : Addr → Prop) : Prop := match v with | .pointer (some a) => K a | _ => False
def zk (v : Value) (K : IntKind → Int → Prop) : Prop := match v with | .int k n => K k n | _ => False
def zahs (v : Value) (K : Bool → Prop) : Prop := match v with | .bool b => K b | _ => False
def zaqs (v : Value) (K : ByteArray → Prop) : Prop := match v with | .string s => K s | _ => False
def kSl (v : Value) (K : Addr → Nat → Nat → Prop) : Prop := match v with | .slice (some a) n s => K a n s | _ => False
def kSlN (v : Value) (K : Nat → Prop) : Prop := match v with | .slice _ n _ => K n | _ => False
def zav9 (v : Value) (K : Array Value → Prop) : Prop := match v with | .agg cs => K cs | _ => False
def kTup (v : Value) (K : Array Value → Prop) : Prop := match v with | .tuple cs => K cs | _ => False
def kFun (v : Value) (K : FuncId → Array Value → Array Value → Prop) : Prop := match v with | .func (.func f) a b => K f a b | _ => False
def ma {α : Type} (o : Option α) (K : α → Prop) : Prop := match o with | some x => K x | none => False
def kChk (v : Value) (K : Prop) : Prop := match v with | .pointer (some _) => K | .func (.func _) _ _ => K | _ => False
def jh (cs : List Value) (off : Nat) : List Value → List Value
  | [] => cs
  | v :: r => jh (cs.set off v) (off + 1) r
def zaac (cs : List Value) : List (Nat × Nat × Value) → Option (List Value)
  | [] => some cs
  | (off,size,v) :: r => if v.cells.size = size ∧ off + size ≤ cs.length then zaac (jh cs off v.cells.toList) r else none
def zah7 (n : Nat) (zero : List Value) : List Value := (List.replicate n zero).flatten
def gj (v : Value) (Kn : Prop) (Ks : Addr → Nat → Nat → Prop) : Prop := match v with | .slice none _ _ => Kn | .slice (some a) n s => Ks a n s | _ => False
def ak.rwRow (σ : ak) (t : TypeId) (i : Nat) : Option (List Value) := match σ.at i with | .cells t' cs .rw => if t' = t then some cs else none | _ => none
def ak.apRow (σ : ak) (t : TypeId) (i : Nat) : Option (List Value) := match σ.at i with | .cells t' cs .app => if t' = t then some cs else none | _ => none
def ev (s : ByteArray) : List Value := s.data.toList.map fun b => .int .u8 b.toNat
def bytesOf : List Value → Option (List UInt8)
  | [] => some []
  | .int .u8 n :: r => (bytesOf r).map (UInt8.ofNat n.toNat :: ·)
  | _ :: _ => none
def appK (σ : ak) (t : TypeId) (sz bytes : Nat) (s : Value) (m : Nat) (news : List Value) (K : Value → ak → Prop) : Prop :=
  gj s ((m * bytes ≤ 140737488355328 ∧ m ≤ maxLen) ∧ (K (.slice (some ⟨σ.next,0,none⟩) m sz) (σ.push (.cells t news .rw)) ∨ K (.slice (some ⟨σ.next,0,none⟩) m sz) (σ.push (.cells t news .app)))) fun a n s' =>
    a.off = 0 ∧ s' = sz ∧ ((n + m) * bytes ≤ 140737488355328 ∧ n + m ≤ maxLen) ∧
      ((ma (σ.rwRow t a.block) fun cs => n * sz ≤ cs.length ∧ K (.slice (some ⟨σ.next,0,none⟩) (n + m) sz) ((σ.set a.block .dead).push (.cells t (cs.take (n * sz) ++ news) .rw))) ∨
       (ma (σ.apRow t a.block) fun cs => n * sz = cs.length ∧ K (.slice (some ⟨σ.next,0,none⟩) (n + m) sz) ((σ.set a.block (.cells t cs .ro)).push (.cells t (cs ++ news) .app))))
def eqCell (k : FK) (v w : Value) : Option Bool :=
  match k,v,w with
  | .b,.bool a,.bool b => some (a == b)
  | .i,.int j a,.int k b => if j = k then some (a == b) else none
  | .s,.string a,.string b => some (a == b)
  | _,_,_ => none
def zavp : List FK → List Value → List Value → Option Bool
  | [],[],[] => some true
  | k :: ks,v :: vs,w :: ws => match eqCell k v w,zavp ks vs ws with
    | some a,some b => some (a && b)
    | _,_ => none
  | _,_,_ => none
def flatS : Value → Bool
  | .bool _ | .int _ _ | .string _ => true
  | _ => false
def zaey : Value → Bool
  | .agg cs => cs.toList.all flatS
  | v => flatS v
def zatk (P : Program) (kt : TypeId) (σ : ak) (v k : Value) (es : List (Value × Value)) : Prop :=
  ∃ id,v = .map (some id) ∧ σ.at id = .map es ∧ Maps.Keyed P kt ∧ zaey k = true ∧ (∃ l,keyOf P kt k = some l) ∧ ∀ e ∈ es,zaey e.1 = true ∧ ∃ l,keyOf P kt e.1 = some l
def evI (P : Program) (i : I) (K : Value → ak → Prop) (fr : Fr) (σ : ak) : Prop :=
  match i with
  | .mov x => K (evO fr x) σ
  | .pick c a b => zahs (evO fr c) fun t => K (bif t then evO fr a else evO fr b) σ
  | .box t n x => (∀ j,j < (evO fr x).cells.size → scalar ((evO fr x).cells.getD j undef) = true) ∧ K (.pointer (some ⟨σ.next,0,none⟩)) (σ.push (.cells t (evO fr x).cells.toList .rw))
  | .load1 x => zab4 (evO fr x) fun a => ma (σ.load a.block a.off) fun v => K v σ
  | .loadN n x => zab4 (evO fr x) fun a => ma (σ.row a.block a.off n) fun vs => K (.agg vs.toArray) σ
  | .store n a x => zab4 (evO fr a) fun p => (evO fr x).cells.size = n ∧ ma (σ.store p.block p.off (evO fr x).cells.toList) fun σ' => K undef σ'
  | .nilchk x => kChk (evO fr x) (K (evO fr x) σ)
  | .bin op x y => ma (zi op (evO fr x) (evO fr y)) fun v => K v σ
  | .eqB neg x y => zahs (evO fr x) fun p => zahs (evO fr y) fun q => K (.bool (bif neg then p != q else p == q)) σ
  | .isNil k neg x => ma (vnil k (evO fr x)) fun b => K (.bool (bif neg then !b else b)) σ
  | .un op x => ma (vun op (evO fr x)) fun v => K v σ
  | .conv k x => zk (evO fr x) fun _ n => K (.int k (k.wrap n)) σ
  | .convS x => zaqs (evO fr x) fun _ => K (evO fr x) σ
  | .fieldAddr off x => zab4 (evO fr x) fun a => K (.pointer (some ⟨a.block,a.off + off,none⟩)) σ
  | .field1 off x => zav9 (evO fr x) fun cs => off < cs.size ∧ K (cs.getD off undef) σ
  | .fieldN off n x => zav9 (evO fr x) fun cs => off + n ≤ cs.size ∧ K (.agg (cs.extract off (off + n))) σ
  | .indexPtr len sz x i => zab4 (evO fr x) fun a => zk (evO fr i) fun _ n => (0 ≤ n ∧ n < len) ∧ K (.pointer (some ⟨a.block,a.off + n.toNat * sz,none⟩)) σ
  | .indexSl sz x i => kSl (evO fr x) fun a len _ => zk (evO fr i) fun _ n => (0 ≤ n ∧ n < len) ∧ K (.pointer (some ⟨a.block,a.off + n.toNat * sz,none⟩)) σ
  | .indexStr x i => zaqs (evO fr x) fun s => zk (evO fr i) fun _ n => (0 ≤ n ∧ n < s.size) ∧ K (.int .u8 (s.data.getD n.toNat 0).toNat) σ
  | .sliceStr x lo hi => zaqs (evO fr x) fun s => ma (zabz s.size (lo.map (evO fr)) (hi.map (evO fr))) fun lh => K (.string (s.extract lh.1 lh.2)) σ
  | .sliceSl sz x lo hi => kSl (evO fr x) fun a len s => s = sz ∧ ma (zabz len (lo.map (evO fr)) (hi.map (evO fr))) fun lh => K (.slice (some ⟨a.block,a.off + lh.1 * sz,none⟩) (lh.2 - lh.1) sz) σ
  | .lenS x => zaqs (evO fr x) fun s => K (.int .i64 s.size) σ
  | .lenL x => kSlN (evO fr x) fun n => K (.int .i64 n) σ
  | .min x y => zk (evO fr x) fun k a => zk (evO fr y) fun _ b => K (.int k (if b < a then b else a)) σ
  | .max x y => zk (evO fr x) fun k a => zk (evO fr y) fun _ b => K (.int k (if a < b then b else a)) σ
  | .mkFunc fn first captured => K (.func fn (first.map (evO fr)).toArray (captured.map (evO fr)).toArray) σ
  | .call f args => io P f (args.map (evO fr)) σ K
  | .callv x args => kFun (evO fr x) fun f first captured => io P f (first.toList ++ args.map (evO fr) ++ captured.toList) σ K
  | .callW f args => io P f (args.map (evO fr)) σ K
  | .callvW x args => kFun (evO fr x) fun f first captured => io P f (first.toList ++ args.map (evO fr) ++ captured.toList) σ K
  | .extract x i => kTup (evO fr x) fun vs => i < vs.size ∧ K (vs.getD i undef) σ
  | .build zero parts => ma (zaac zero (parts.map fun p => (p.1,p.2.1,evO fr p.2.2))) fun cs => K (.agg cs.toArray) σ
  | .buildSl t sz len zeros parts => ma (zaac zeros (parts.map fun p => (p.1,p.2.1,evO fr p.2.2))) fun cs => cs.all scalar = true ∧ ∃ md,K (.slice (some ⟨σ.next,0,none⟩) len sz) (σ.push (.cells t cs md))
  | .makeSl t bytes zero l c => zk (evO fr l) fun _ n => zk (evO fr c) fun _ k => (0 ≤ n ∧ n ≤ k ∧ k * bytes ≤ 140737488355328 ∧ k ≤ 9223372036854775807) ∧
      ∃ md,K (.slice (some ⟨σ.next,0,none⟩) n.toNat zero.length) (σ.push (.cells t (zah7 n.toNat zero) md))
  | .append t sz bytes s x => gj (evO fr x) (gj (evO fr s) (K (evO fr s) σ) fun _ _ _ => K (evO fr s) σ) fun a m sx =>
      (m = 0 → gj (evO fr s) (K (evO fr s) σ) fun _ _ _ => K (evO fr s) σ) ∧ (m ≠ 0 → sx = sz ∧ ma (σ.row a.block a.off (m * sz)) fun news => appK σ t sz bytes (evO fr s) m news K)
  | .appendS t s x => zaqs (evO fr x) fun str => (str.size = 0 → gj (evO fr s) (K (evO fr s) σ) fun _ _ _ => K (evO fr s) σ) ∧ (str.size ≠ 0 → appK σ t 1 1 (evO fr s) str.size (ev str) K)
  | .toBytes t x => zaqs (evO fr x) fun s => ∃ md,K (.slice (some ⟨σ.next,0,none⟩) s.size 1) (σ.push (.cells t (ev s) md))
  | .toStr x => gj (evO fr x) (K (.string ⟨#[]⟩) σ) fun a n s => (n = 0 → K (.string ⟨#[]⟩) σ) ∧ (n ≠ 0 → ma ((σ.row a.block a.off n).bind bytesOf) fun bs => K (.string ⟨bs.toArray⟩) σ)
  | .mkMap => K (.map (some σ.next)) (σ.push (.map []))
  | .indexAgg len x i => zav9 (evO fr x) fun cs => zk (evO fr i) fun _ n => (0 ≤ n ∧ n < len ∧ len ≤ cs.size) ∧ K (cs.getD n.toNat undef) σ
  | .indexAggN len sz x i => zav9 (evO fr x) fun cs => zk (evO fr i) fun _ n => (0 ≤ n ∧ n < len ∧ len * sz ≤ cs.size) ∧ K (.agg (cs.extract (n.toNat * sz) (n.toNat * sz + sz))) σ
  | .eqF neg ks x y => zav9 (evO fr x) fun p => zav9 (evO fr y) fun q => ma (zavp ks p.toList q.toList) fun b => K (.bool (bif neg then !b else b)) σ
  | .mapGet kt x i => ∃ es,zatk P kt σ (evO fr x) (evO fr i) es ∧ (∀ e ∈ es,e.1 = evO fr i → K e.2 σ) ∧ ((∀ e ∈ es,e.1 ≠ evO fr i) → K (.bool false) σ)
  | .mapSet kt x i v => ∃ es id,zatk P kt σ (evO fr x) (evO fr i) es ∧ evO fr x = .map (some id) ∧ (∀ e ∈ es,e.1 ≠ evO fr i) ∧ K undef (σ.set id (.map (es ++ [(evO fr i,evO fr v)])))
def zaby (P : Program) (t : TypeId) : Option Bool :=
  match P.underlying t with
  | some (.struct _) | some (.array _ _) => some true
  | some _ => some false
  | none => none
def szT (P : Program) (t : TypeId) : Option Nat := (P.info? t).map (·.size)
def okOs (N : Nat) (xs : List Operand) : Bool := xs.all (okO N)
def okOo (N : Nat) : Option Operand → Bool
  | none => true
  | some x => okO N x
def zatt (P : Program) : Nat → TypeId → Option (List FK)
  | 0,_ => none
  | d + 1,t =>
    match P.underlying t with
    | some .bool => some [.b]
    | some (.int _) => some [.i]
    | some .string => some [.s]
    | _ => none
def xz (l : List Value) : Bool := l.all xx
def zab5 (P : Program) (t : TypeId) : Option Value := (P.info? t).bind (·.zero)
def okPs (N : Nat) (ps : List (Nat × Nat × Operand)) : Bool := ps.all fun p => okO N p.2.2
def za4j (P : Program) (fs : Array Field) : List (Nat × Operand) → Option (List (Nat × Nat × Operand))
  | [] => some []
  | (i,x) :: r => match fs[i]? with
    | some f => match szT P f.type,za4j P fs r with
      | some n,some l => some ((f.offset,n,x) :: l)
      | _,_ => none
    | none => none
def gh (P : Program) (N : Nat) (o : Oper) : Option I :=
  match o.op with
  | .move x | .assign x => if okO N x then some (.mov x) else none
  | .pick c a b => if okO N c && okO N a && okO N b then some (.pick c a b) else none
  | .alloc t => match P.info? t with
    | some i => match i.zero with
      | some z => if zaq9 z then some (.box t i.size (.const z)) else none
      | none => none
    | none => none
  | .box t x => match szT P t with
    | some n => if okO N x then some (.box t n x) else none
    | none => none
  | .load t x => match zaby P t,szT P t with
    | some true,some n => if okO N x then some (.loadN n x) else none
    | some false,some _ => if okO N x then some (.load1 x) else none
    | _,_ => none
  | .store t a x => match szT P t with
    | some n => if okO N a && okO N x then some (.store n a x) else none
    | none => none
  | .nilCheck x => if okO N x then some (.nilchk x) else none
  | .binOp op t x y _ => if okO N x && okO N y then
      match P.underlying t with
      | some (.int _) | some .string => some (.bin op x y)
      | some .bool => match op with
        | .eql => some (.eqB false x y)
        | .neq => some (.eqB true x y)
        | _ => none
      | some (.pointer _) => match op,y with
        | .eql,.const (.pointer none) => some (.isNil .p false x)
        | .neq,.const (.pointer none) => some (.isNil .p true x)
        | _,_ => none
      | some (.slice _) => match op,y with
        | .eql,.const (.slice none 0 0) => some (.isNil .s false x)
        | .neq,.const (.slice none 0 0) => some (.isNil .s true x)
        | _,_ => none
      | some (.map _ _) => match op,y with
        | .eql,.const (.map none) => some (.isNil .m false x)
        | .neq,.const (.map none) => some (.isNil .m true x)
        | _,_ => none
      | some (.func _ _ _) => match op,y with
        | .eql,.const .nilFunc => some (.isNil .f false x)
        | .neq,.const .nilFunc => some (.isNil .f true x)
        | _,_ => none
      | some (.struct fs) => match zatt P 4 t with
        | some ks => if P.eqGuardType P.depth t then none else match op with
          | .eql => some (.eqF false ks x y)
          | .neq => some (.eqF true ks x y)
          | _ => none
        | none => none
      | some (.array n e) => match zatt P 4 t with
        | some ks => if P.eqGuardType P.depth t then none else match op with
          | .eql => some (.eqF false ks x y)
          | .neq => some (.eqF true ks x y)
          | _ => none
        | none => none
      | _ => none
    else none
  | .unOp op _ x => if okO N x then some (.un op x) else none
  | .convert s t x => if okO N x then
      match P.underlying s,P.underlying t with
      | some (.int _),some (.int k) => some (.conv k x)
      | some .string,some .string => some (.convS x)
      | some .string,some (.slice e) => match P.underlying e with
        | some (.int .u8) => some (.toBytes e x)
        | _ => none
      | some (.slice e),some .string => match P.underlying e with
        | some (.int .u8) => some (.toStr x)
        | _ => none
      | _,_ => none
    else none
  | .fieldAddr t x f => if okO N x then
      match P.underlying t with
      | some (.struct fields) => match fields[f]? with
        | some fd => match szT P fd.type with
          | some n => if n = 0 then none else some (.fieldAddr fd.offset x)
          | none => none
        | none => none
      | _ => none
    else none
  | .field t x f => if okO N x then
      match P.underlying t with
      | some (.struct fields) => match fields[f]? with
        | some fd => match zaby P fd.type,szT P fd.type with
          | some true,some n => some (.fieldN fd.offset n x)
          | some false,some _ => some (.field1 fd.offset x)
          | _,_ => none
        | none => none
      | _ => none
    else none
  | .indexAddr t x i => if okO N x && okO N i then
      match P.underlying t with
      | some (.array len e) => match szT P e with
        | some n => some (.indexPtr len n x i)
        | none => none
      | some (.slice e) => match szT P e with
        | some n => some (.indexSl n x i)
        | none => none
      | _ => none
    else none
  | .index t x i => if okO N x && okO N i then
      match P.underlying t with
      | some .string => some (.indexStr x i)
      | some (.array len e) => match zaby P e,szT P e with
        | some false,some 1 => some (.indexAgg len x i)
        | some true,some n => some (.indexAggN len n x i)
        | _,_ => none
      | _ => none
    else none
  | .slice t x lo hi none => if okO N x && okOo N lo && okOo N hi then
      match P.underlying t with
      | some .string => some (.sliceStr x lo hi)
      | some (.slice e) => match szT P e with
        | some n => some (.sliceSl n x lo hi)
        | none => none
      | _ => none
    else none
  | .build t parts => match P.underlying t,zab5 P t with
    | some (.struct fs),some z => match za4j P fs parts.toList with
      | some ps => if okPs N ps && xz z.cells.toList && fs.toList.all (fun f => (szT P f.type).isSome) then some (.build z.cells.toList ps) else none
      | none => none
    | some (.array _ e),some z => match szT P e with
      | some n => let ps := parts.toList.map fun p => (p.1 * n,n,p.2)
        if okPs N ps && xz z.cells.toList then some (.build z.cells.toList ps) else none
      | none => none
    | _,_ => none
  | .buildSlice t len parts => match P.underlying t with
    | some (.slice e) => match szT P e,zab5 P e with
      | some n,some z => let ps := parts.toList.map fun p => (p.1 * n,n,p.2)
        if okPs N ps && xz z.cells.toList && (z.cells.size == n) && decide (len * n ≤ 16777216) && (n != 0) then some (.buildSl e n len (zah7 len z.cells.toList) ps) else none
      | _,_ => none
    | _ => none
  | .makeSlice t l c => if okO N l && okO N c then match P.underlying t with
    | some (.slice e) => match P.info? e,zab5 P e with
      | some i,some z => if xz z.cells.toList && (z.cells.size == i.size) && (i.size != 0) && z.cells.toList.all scalar then some (.makeSl e i.bytes z.cells.toList l c) else none
      | _,_ => none
    | _ => none
    else none
  | .makeMap t none => some .mkMap
  | .lookup t x i false => if okO N x && okO N i then
      match P.underlying t with
      | some (.map kt et) => match zab5 P et with
        | some (.bool false) => some (.mapGet kt x i)
        | _ => none
      | _ => none
    else none
  | .mapUpdate t x i v => if okO N x && okO N i && okO N v then
      match P.underlying t with
      | some (.map kt _) => some (.mapSet kt x i v)
      | _ => none
    else none
  | .makeFunc fn first captured => if okOs N first.toList && okOs N captured.toList then some (.mkFunc fn first.toList captured.toList) else none
  | .extract x i => if okO N x then some (.extract x i) else none
  | .call c => if okOs N c.args.toList then
      match c.callee with
      | .value (.func f) => if zakn P f then some (.call f c.args.toList) else none
      | .value x => if okO N x then some (.callv x c.args.toList) else none
      | .builtin .len => match c.args.toList,c.argTypes[0]? with
        | [x],some t => match P.underlying t with
          | some .string => some (.lenS x)
          | some (.slice _) => some (.lenL x)
          | _ => none
        | _,_ => none
      | .builtin .append => match c.args.toList,c.argTypes.toList with
        | [s,x],[t,u] => match P.underlying t,P.underlying u with
          | some (.slice e),some (.slice _) => match P.info? e,zab5 P e with
            | some i,some z => if (t == u) && (z.cells.size == i.size) && (i.size != 0) then some (.append e i.size i.bytes s x) else none
            | _,_ => none
          | some (.slice e),some .string => match P.info? e,zab5 P e with
            | some i,some z => if (z.cells.size == 1) && (i.size == 1) && (i.bytes == 1) then some (.appendS e s x) else none
            | _,_ => none
          | _,_ => none
        | _,_ => none
      | .builtin .min => match c.args.toList with
        | [x,y] => some (.min x y)
        | _ => none
      | .builtin .max => match c.args.toList with
        | [x,y] => some (.max x y)
        | _ => none
      | _ => none
    else none
  | _ => none
end Go.Proofs.Ytdcfoaafkppojaa.Sh
