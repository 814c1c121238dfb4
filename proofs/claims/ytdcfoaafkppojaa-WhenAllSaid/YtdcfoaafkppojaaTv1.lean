/- The tree level: values that are trees where nobody writes, objects where somebody does; what each operation makes of them, told by functions. -/
import Derived.Test.YtdcfoaafkppojaaSh7
set_option linter.unusedVariables false
namespace Go.Proofs.Ytdcfoaafkppojaa.Sh
open Go Go.RowKit
theorem ai {p q : Prop} (a : p) (b : q) : p ∧ q := ⟨a,b⟩
inductive TV where
  | undef
  | bool (b : Bool)
  | int (k : IntKind) (n : Int)
  | str (s : ByteArray)
  | nilP
  | ptr (id off : Nat)
  | rptr (cells : List TV) (off : Nat)
  | slz
  | sl (l : List TV)
  | sla (tok : Nat) (l : List TV)
  | slo (t : TypeId) (l : List TV)
  | slm (id off n sz : Nat)
  | slb (tok : Nat) (t : TypeId)
  | nilM
  | nilF
  | func (f : FuncId) (a b : List TV)
  | nilI
  | agg (cells : List TV)
  | tup (cells : List TV)
  deriving Inhabited
def TV.cells : TV → List TV
  | .agg cs => cs
  | v => [v]
def TV.known : TV → Bool
  | .undef => false
  | _ => true
def TV.one : TV → Bool
  | .agg _ | .tup _ | .undef | .rptr _ _ => false
  | _ => true
def ofS : Value → TV
  | .bool b => .bool b
  | .int k n => .int k n
  | .string s => .str s
  | .pointer none => .nilP
  | .map none => .nilM
  | .nilFunc => .nilF
  | .nilIface => .nilI
  | .slice none 0 0 => .slz
  | .func (.func f) ⟨[]⟩ ⟨[]⟩ => .func f [] []
  | _ => .undef
def ofV : Value → TV
  | .agg cs => .agg (cs.toList.map ofS)
  | .tuple cs => .tup (cs.toList.map ofS)
  | v => ofS v
mutual
def TV.under (n : Nat) : TV → Bool
  | .ptr id _ => decide (id < n)
  | .slm id _ _ _ => decide (id < n)
  | .sla _ _ => false
  | .slb _ _ => false
  | .func _ a b => fw n a && fw n b
  | .agg cs => fw n cs
  | .tup cs => fw n cs
  | _ => true
def fw (n : Nat) : List TV → Bool
  | [] => true
  | v :: r => v.under n && fw n r
end
def TV.pureS : TV → Bool
  | .bool _ | .int _ _ | .str _ | .nilP | .sl _ | .nilM | .nilF | .nilI => true
  | .func _ [] [] => true
  | _ => false
def TV.pure : TV → Bool
  | .agg cs => cs.all TV.pureS
  | v => v.pureS
def TV.canS : TV → TV
  | .sla _ l => .sl l
  | .slb _ _ => .sl []
  | .slz => .sl []
  | v => v
def TV.canA : TV → TV
  | .agg cs => .agg (cs.map TV.canS)
  | v => v.canS
def TV.canT : TV → TV
  | .tup cs => .tup (cs.map TV.canA)
  | v => v.canA
def TV.part : TV → TV
  | .sla _ l => .sl l
  | .slb _ _ => .sl []
  | v => v
def TV.put : TV → TV
  | .sla _ l => .sl l
  | .slb _ _ => .sl []
  | v => v
def TV.rd : TV → TV
  | .slo _ l => .sl l
  | v => v
def TV.list : TV → Option (List TV)
  | .sl l => some l
  | .sla _ l => some l
  | .slz => some []
  | _ => none
abbrev TF := List (Nat × TV)
abbrev TK := List (Option (Nat × TypeId))
def lkp : TF → Nat → TV
  | [],_ => .undef
  | (k,v) :: r,t => if t = k then v else lkp r t
def fu (fr : TF) (d : Option Nat) (v : TV) : TF := match d with | some t => (t,v) :: fr | none => fr
def sel (lv : List Nat) (fr : TF) : TF := lv.map fun t => (t,lkp fr t)
def tO (fr : TF) : Operand → TV
  | .tmp t => lkp fr t
  | .const v => ofV v
  | .func f => .func f [] []
  | .global _ => .undef
structure Ob where
  t : TypeId
  cs : List TV
structure TH where
  o : List Ob
  lock : Nat
def TH.next (τ : TH) : Nat := τ.o.length
def TH.at (τ : TH) (id : Nat) : Option Ob := τ.o[id]?
def TH.push (τ : TH) (b : Ob) : TH := { τ with o := τ.o ++ [b] }
def TH.put (τ : TH) (id : Nat) (b : Ob) : TH := { τ with o := τ.o.set id b }
def TH.cut (τ : TH) (n : Nat) : TH := { τ with o := τ.o.take n }
def TH.locked (τ : TH) (n : Nat) : TH := { τ with lock := n }
def x7 (op : BinOp) (v w : TV) : Option TV :=
  match v,w with
  | .int k x,.int k' y => (zi op (.int k x) (.int k' y)).map ofS
  | .str x,.str y => (sbin op x y).map ofS
  | _,_ => none
def tnil (k : NK) (v : TV) : Option Bool :=
  match k,v with
  | .p,.nilP => some true
  | .p,.ptr _ _ => some false
  | .p,.rptr _ _ => some false
  | .s,.slz => some true
  | .s,.sl (_ :: _) => some false
  | .s,.sla _ (_ :: _) => some false
  | .s,.slm _ _ _ _ => some false
  | .m,.nilM => some true
  | .f,.nilF => some true
  | .f,.func _ _ _ => some false
  | _,_ => none
def tun (op : UnOp) (v : TV) : Option TV :=
  match v with
  | .int k x => (vun op (.int k x)).map ofS
  | .bool b => (vun op (.bool b)).map ofS
  | _ => none
def tHi (n : Nat) : Option TV → Option Nat
  | none => some n
  | some (.int _ h) => if 0 ≤ h ∧ h ≤ n then some h.toNat else none
  | some _ => none
def tLo (h : Nat) : Option TV → Option (Nat × Nat)
  | none => some (0,h)
  | some (.int _ l) => if 0 ≤ l ∧ l ≤ h then some (l.toNat,h) else none
  | some _ => none
def ig (n : Nat) (lo hi : Option TV) : Option (Nat × Nat) := (tHi n hi).bind fun h => tLo h lo
def teq (k : FK) (v w : TV) : Option Bool :=
  match k,v,w with
  | .b,.bool a,.bool b => some (a == b)
  | .i,.int j a,.int k b => if j = k then some (a == b) else none
  | .s,.str a,.str b => some (a == b)
  | _,_,_ => none
def teqs : List FK → List TV → List TV → Option Bool
  | [],[],[] => some true
  | k :: ks,v :: vs,w :: ws => match teq k v w,teqs ks vs ws with
    | some a,some b => some (a && b)
    | _,_ => none
  | _,_,_ => none
def zaup (cs : List TV) (off : Nat) : List TV → List TV
  | [] => cs
  | v :: r => zaup (cs.set off v) (off + 1) r
def zawu (cs : List TV) : List (Nat × Nat × TV) → Option (List TV)
  | [] => some cs
  | (off,size,v) :: r => if v.known = true ∧ v.cells.length = size ∧ off + size ≤ cs.length then zawu (zaup cs off (v.cells.map TV.part)) r else none
def za57 : List TV → TV
  | [v] => v
  | l => .agg l
def ej (s : ByteArray) : List TV := s.data.toList.map fun b => .int .u8 b.toNat
def uc : List TV → Option (List UInt8)
  | [] => some []
  | .int .u8 n :: r => (uc r).map (UInt8.ofNat n.toNat :: ·)
  | _ :: _ => none
def zaid (sz : Nat) : Nat → List (Nat × Nat × TV) → Option (List TV)
  | _,[] => some []
  | i,(off,n,v) :: r => if off = i * sz ∧ n = sz ∧ v.canA.cells.length = sz ∧ v.canA.pure = true then (zaid sz (i + 1) r).map (v.canA :: ·) else none
def zapi (τ : TH) (id off : Nat) : Option TV := (τ.at id).bind fun b => (b.cs[off]?).map TV.rd
def zauq (τ : TH) (id off n : Nat) : Option (List TV) := (τ.at id).bind fun b => if off + n ≤ b.cs.length then some (((b.cs.drop off).take n).map TV.rd) else none
def zao4 (τ : TH) (id off : Nat) (vs : List TV) : Option TH :=
  (τ.at id).bind fun b => if τ.lock ≤ id ∧ vs ≠ [] ∧ off + vs.length ≤ b.cs.length ∧ (vs.all TV.one = true) ∧ fw (id + 1) vs = true then some (τ.put id ⟨b.t,zaup b.cs off vs⟩) else none
def tP (i : I) (fr : TF) (τ : TH) : Option TV :=
  match i with
  | .mov x => some (tO fr x)
  | .pick c a b => match tO fr c with | .bool t => some (bif t then tO fr a else tO fr b) | _ => none
  | .load1 x => match tO fr x with
    | .ptr id off => zapi τ id off
    | .rptr cs off => cs[off]?
    | _ => none
  | .loadN n x => match tO fr x with
    | .ptr id off => if n = 0 then none else (zauq τ id off n).map .agg
    | .rptr cs off => if off + n ≤ cs.length then some (.agg ((cs.drop off).take n)) else none
    | _ => none
  | .nilchk x => match tO fr x with
    | .ptr id off => some (.ptr id off)
    | .rptr cs off => some (.rptr cs off)
    | .func f a b => some (.func f a b)
    | _ => none
  | .bin op x y => x7 op (tO fr x) (tO fr y)
  | .eqB neg x y => match tO fr x,tO fr y with | .bool p,.bool q => some (.bool (bif neg then p != q else p == q)) | _,_ => none
  | .isNil k neg x => (tnil k (tO fr x)).map fun b => .bool (bif neg then !b else b)
  | .un op x => tun op (tO fr x)
  | .conv k x => match tO fr x with | .int _ n => some (.int k (k.wrap n)) | _ => none
  | .convS x => match tO fr x with | .str s => some (.str s) | _ => none
  | .fieldAddr off x => match tO fr x with
    | .ptr id o => some (.ptr id (o + off))
    | .rptr cs o => some (.rptr cs (o + off))
    | _ => none
  | .field1 off x => match tO fr x with | .agg cs => cs[off]? | _ => none
  | .fieldN off n x => match tO fr x with | .agg cs => if off + n ≤ cs.length then some (.agg ((cs.drop off).take n)) else none | _ => none
  | .indexPtr len sz x i => match tO fr x,tO fr i with
    | .ptr id o,.int _ n => if 0 ≤ n ∧ n < len then some (.ptr id (o + n.toNat * sz)) else none
    | .rptr cs o,.int _ n => if 0 ≤ n ∧ n < len then some (.rptr cs (o + n.toNat * sz)) else none
    | _,_ => none
  | .indexSl sz x i => match tO fr i with
    | .int _ n => match tO fr x with
      | .slm id o len s => if 0 ≤ n ∧ n < len ∧ s = sz then some (.ptr id (o + n.toNat * sz)) else none
      | v => v.list.bind fun l => if 0 ≤ n ∧ n < l.length ∧ (l.getD n.toNat .undef).cells.length = sz then some (.rptr (l.getD n.toNat .undef).cells 0) else none
    | _ => none
  | .indexStr x i => match tO fr x,tO fr i with | .str s,.int _ n => if 0 ≤ n ∧ n < s.size then some (.int .u8 (s.data.getD n.toNat 0).toNat) else none | _,_ => none
  | .sliceStr x lo hi => match tO fr x with | .str s => (ig s.size (lo.map (tO fr)) (hi.map (tO fr))).map fun lh => .str (s.extract lh.1 lh.2) | _ => none
  | .sliceSl sz x lo hi => match tO fr x with
    | .slm id o len s => if s = sz then (ig len (lo.map (tO fr)) (hi.map (tO fr))).map fun lh => .slm id (o + lh.1 * sz) (lh.2 - lh.1) sz else none
    | .sl l => if l.all (fun e => e.cells.length == sz) && !l.isEmpty then (ig l.length (lo.map (tO fr)) (hi.map (tO fr))).map fun lh => .sl ((l.take lh.2).drop lh.1) else none
    | .sla _ l => if l.all (fun e => e.cells.length == sz) && !l.isEmpty then (ig l.length (lo.map (tO fr)) (hi.map (tO fr))).map fun lh => .sl ((l.take lh.2).drop lh.1) else none
    | _ => none
  | .lenS x => match tO fr x with | .str s => some (.int .i64 s.size) | _ => none
  | .lenL x => match tO fr x with
    | .slm _ _ n _ => some (.int .i64 n)
    | v => v.list.map fun l => .int .i64 l.length
  | .min x y => match tO fr x,tO fr y with | .int k a,.int _ b => some (.int k (if b < a then b else a)) | _,_ => none
  | .max x y => match tO fr x,tO fr y with | .int k a,.int _ b => some (.int k (if a < b then b else a)) | _,_ => none
  | .mkFunc (.func f) first captured => some (.func f (first.map fun x => (tO fr x).canS) (captured.map fun x => (tO fr x).canS))
  | .extract x i => match tO fr x with | .tup cs => cs[i]? | _ => none
  | .build zero parts => (zawu (zero.map ofS) (parts.map fun p => (p.1,p.2.1,tO fr p.2.2))).map .agg
  | .toStr x => match tO fr x with
    | .slm id off n s => if s = 1 then ((zauq τ id off n).bind uc).map fun bs => .str ⟨bs.toArray⟩ else none
    | v => (v.list.bind uc).map fun bs => .str ⟨bs.toArray⟩
  | .indexAgg len x i => match tO fr x,tO fr i with | .agg cs,.int _ n => if 0 ≤ n ∧ n < len ∧ len ≤ cs.length then cs[n.toNat]? else none | _,_ => none
  | .indexAggN len sz x i => match tO fr x,tO fr i with | .agg cs,.int _ n => if 0 ≤ n ∧ n < len ∧ len * sz ≤ cs.length then some (.agg ((cs.drop (n.toNat * sz)).take sz)) else none | _,_ => none
  | .eqF neg ks x y => match tO fr x,tO fr y with | .agg p,.agg q => (teqs ks p q).map fun b => .bool (bif neg then !b else b) | _,_ => none
  | _ => none
def tapp (t : TypeId) (sz bytes : Nat) (s : TV) (xs : List TV) (tk : TK) : Option (TV × TK) :=
  if xs.all (fun e => e.cells.length == sz && e.pure) = true ∧ xs.length * bytes ≤ 140737488355328 ∧ xs.length ≤ maxLen then
    match s with
    | .slz => some (.sla tk.length xs,tk ++ [some (xs.length,t)])
    | .slb tok t0 => match tk[tok]? with
      | some (some (n,t')) => if n = 0 ∧ t0 = t ∧ sz = 1 ∧ xs ≠ [] then some (.sla tok xs,tk.set tok (some (xs.length,t))) else none
      | _ => none
    | .sla tok l => match tk[tok]? with
      | some (some (n,t')) => if n = l.length ∧ (n = 0 ∨ t' = t) ∧ (l.all (fun e => e.cells.length == sz) = true) ∧ (l.length + xs.length) * bytes ≤ 140737488355328 ∧ l.length + xs.length ≤ maxLen then some (.sla tok (l ++ xs),tk.set tok (some (l.length + xs.length,t))) else none
      | _ => none
    | _ => none
  else none
def tappM (t : TypeId) (sz bytes : Nat) (s : TV) (xs : List TV) (τ : TH) : Option (TV × TH) :=
  if xs ≠ [] ∧ xs.all (fun e => e.cells.length == sz && e.pure) = true then
    match s with
    | .slz => if xs.length * bytes ≤ 140737488355328 ∧ xs.length ≤ maxLen then some (.slm τ.next 0 xs.length sz,τ.push ⟨t,xs.flatMap TV.cells⟩) else none
    | .slm id o n s' => (τ.at id).bind fun b => if o = 0 ∧ s' = sz ∧ b.t = t ∧ b.cs.length = n * sz ∧ n ≠ 0 ∧ τ.lock ≤ id ∧ (n + xs.length) * bytes ≤ 140737488355328 ∧ n + xs.length ≤ maxLen then
        some (.slm τ.next 0 (n + xs.length) sz,(τ.put id ⟨t,[]⟩).push ⟨t,b.cs ++ xs.flatMap TV.cells⟩) else none
    | _ => none
  else none
def yv (sz : Nat) : Nat → List TV → List TV
  | 0,_ => []
  | n + 1,l => za57 (l.take sz) :: yv sz n (l.drop sz)
def zalh (f : TV → Option TV) : List TV → Option (List TV)
  | [] => some []
  | v :: r => match f v,zalh f r with
    | some x,some y => some (x :: y)
    | _,_ => none
def zan6 (τ : TH) (n0 : Nat) : Nat → TV → Option TV
  | 0,v => if v.canS.pureS then some v.canS else none
  | k + 1,v => match v with
    | .slm id off n sz => if sz = 0 ∨ id < n0 then none else (zauq τ id off (n * sz)).bind fun l => (zalh (zan6 τ n0 k) l).map fun l => .sl (yv sz n l)
    | v => if v.canS.pureS then some v.canS else none
def tfz (τ : TH) (n0 : Nat) (v : TV) : Option TV :=
  match v with
  | .agg cs => (zalh (zan6 τ n0 2) cs).map .agg
  | v => zan6 τ n0 2 v
def tOp (i : I) (m : Nat) (fr : TF) (tk : TK) (τ : TH) : Option (TV × TK × TH) :=
  match i with
  | .mov x => if m = 1 then (match tO fr x with
      | .slz => some (.sla tk.length [],tk ++ [some (0,0)],τ)
      | _ => none) else if m = 3 then some ((tO fr x).canT,tk,τ) else some (tO fr x,tk,τ)
  | .load1 x => if m = 2 then (match tO fr x with
      | .ptr id off => (τ.at id).bind fun b => match b.cs[off]? with
        | some (.slo t l) => if τ.lock ≤ id then some (.sla tk.length l,tk ++ [some (l.length,t)],τ.put id ⟨b.t,b.cs.set off (.sl l)⟩) else none
        | some .slz => some (.sla tk.length [],tk ++ [some (0,0)],τ)
        | _ => none
      | _ => none) else (tP (.load1 x) fr τ).map fun v => (v,tk,τ)
  | .box t n x => if ((tO fr x).cells.all TV.one = true) ∧ fw τ.next ((tO fr x).cells.map TV.put) = true then some (.ptr τ.next 0,tk,τ.push ⟨t,(tO fr x).cells.map TV.put⟩) else none
  | .store n a x => if m = 2 then (match tO fr a,tO fr x with
      | .ptr id off,.sla tok l => match tk[tok]? with
        | some (some (k,t)) => if k = l.length ∧ n = 1 then (zao4 τ id off [.slo t l]).map fun τ' => (.tup [],tk.set tok none,τ') else none
        | _ => none
      | _,_ => none) else match tO fr a with
      | .ptr id off => if (tO fr x).cells.length = n then (zao4 τ id off ((tO fr x).cells.map TV.put)).map fun τ' => (.tup [],tk,τ') else none
      | _ => none
  | .buildSl t sz len zeros parts => if parts.length = len ∧ sz ≠ 0 ∧ zeros.length = len * sz then (zaid sz 0 (parts.map fun p => (p.1,p.2.1,tO fr p.2.2))).map fun l => (.sl l,tk,τ) else none
  | .makeSl t bytes zero l c => match tO fr l,tO fr c with
    | .int _ n,.int _ k => if 0 ≤ n ∧ n ≤ k ∧ k * bytes ≤ 140737488355328 ∧ k ≤ 9223372036854775807 ∧ zero.length ≠ 0 ∧ (zero.all fun z => (ofS z).canS.pureS) = true then
        (if m = 1 then some (.slm τ.next 0 n.toNat zero.length,tk,τ.push ⟨t,((List.replicate n.toNat (zero.map fun z => (ofS z).put)).flatten)⟩)
         else if m = 2 then (if n = 0 ∧ zero.length = 1 then some (.slb tk.length t,tk ++ [some (0,t)],τ) else none)
         else some (.sl (List.replicate n.toNat (za57 (zero.map fun z => (ofS z).canS))),tk,τ)) else none
    | _,_ => none
  | .append t sz bytes s x => if sz = 0 then none else (tO fr x).list.bind fun xs => if m = 1 then (tappM t sz bytes (tO fr s) xs τ).map fun p => (p.1,tk,p.2) else (tapp t sz bytes (tO fr s) xs tk).map fun p => (p.1,p.2,τ)
  | .appendS t s x => match tO fr x with
    | .str b => (tapp t 1 1 (tO fr s) (ej b) tk).map fun p => (p.1,p.2,τ)
    | _ => none
  | .toBytes t x => match tO fr x with
    | .str s => if m = 1 then some (.slm τ.next 0 s.size 1,tk,τ.push ⟨t,ej s⟩)
      else if m = 2 then some (if s.size = 0 then .slb tk.length t else .sla tk.length (ej s),tk ++ [some (s.size,t)],τ)
      else some (.sl (ej s),tk,τ)
    | _ => none
  | i => (tP i fr τ).map fun v => (v,tk,τ)
structure am where
  x : Ins
  m : Nat
inductive TC where
  | skip
  | ops (l : List am)
  | draw (l : List (am × List Nat))
  | seq (a b : TC)
  | cond (c : Operand) (a b : TC)
  | block (id : Nat) (lv : List Nat) (a : TC)
  | loop (lv : List Nat) (a : TC)
  | exit (id : Nat)
  | ret (lv : List Nat)
  | clean (lv : List Nat) (a : TC)
def za1s (l : List (am × List Nat)) (j : Nat) : List Ins := match l[j]? with | some p => [p.1.x] | none => []
def TC.erase : TC → IC
  | .skip => .skip
  | .ops l => .ops (l.map am.x)
  | .draw l => .draw (l.map fun p => (p.1.x,p.2.flatMap (za1s l)))
  | .seq a b => .seq a.erase b.erase
  | .cond c a b => .cond c a.erase b.erase
  | .block id _ a => .block id a.erase
  | .loop _ a => .loop a.erase
  | .exit id => .exit id
  | .ret _ => .ret
  | .clean _ a => a.erase
inductive TEx where
  | normal
  | exit (id : Nat)
  | ret
  deriving DecidableEq
def TEx.ex : TEx → Exit
  | .normal => .normal
  | .exit id => .exit id
  | .ret => .ret
abbrev CF := FuncId → List TV → TH → Option (TV × TH)
abbrev EF := TC → TF → TK → TH → Option (TEx × TF × TK × TH)
def zapl (cf : CF) (lk : Bool) (f : FuncId) (args : List TV) (tk : TK) (τ : TH) : Option (TV × TK × TH) :=
  if fw τ.next args = true then
    (bif lk then (cf f args (τ.locked τ.next)).map fun p => (p.1,tk,p.2.locked τ.lock) else (cf f args τ).map fun p => (p.1,tk,p.2))
  else none
def TV.flat : TV → Bool
  | .bool _ | .int _ _ | .str _ => true
  | _ => false
def tBor (cf : CF) (f : FuncId) (args : List TV) (tk : TK) (τ : TH) : Option (TV × TK × TH) :=
  (zalh (tfz τ 0) args).bind fun as => (cf f as ⟨[],0⟩).bind fun p => if p.1.flat = true then some (p.1,tk,τ) else none
def zar0 (cf : CF) (dr : Bool) (x : am) (fr : TF) (tk : TK) (τ : TH) : Option (TV × TK × TH) :=
  match x.x.i with
  | .call f args => if x.m = 1 then tBor cf f (args.map (tO fr)) tk τ else zapl cf dr f (args.map fun a => (tO fr a).canT) tk τ
  | .callW f args => zapl cf false f (args.map fun a => (tO fr a).canT) tk τ
  | .callv x args => match tO fr x with
    | .func f a b => zapl cf dr f (a ++ (args.map fun a => (tO fr a).canT) ++ b) tk τ
    | _ => none
  | .callvW x args => match tO fr x with
    | .func f a b => zapl cf false f (a ++ (args.map fun a => (tO fr a).canT) ++ b) tk τ
    | _ => none
  | i => tOp i x.m fr tk τ
def ren (id id' : Nat) : TV → TV
  | .ptr i off => if i = id then .ptr id' off else .ptr i off
  | v => v
def zaw8 (id id' : Nat) (fr : TF) : TF := fr.map fun p => (p.1,ren id id' p.2)
def za1d (a : Operand) (fr : TF) (τ : TH) : TF × TH :=
  match tO fr a with
  | .ptr id _ => match τ.at id with
    | some b => if τ.lock ≤ id ∧ b.cs ≠ [] then (zaw8 id τ.next fr,(τ.put id ⟨b.t,[]⟩).push b) else (fr,τ)
    | none => (fr,τ)
  | _ => (fr,τ)
def r6 (i : I) (m : Nat) (fr : TF) (τ : TH) : TF × TH :=
  if m = 9 then match i with
    | .fieldAddr _ a => za1d a fr τ
    | .store _ a _ => za1d a fr τ
    | _ => (fr,τ)
  else (fr,τ)
def tGo (cf : CF) (dr : Bool) (x : am) (fr : TF) (tk : TK) (τ : TH) : Option (TF × TK × TH) :=
  (zar0 cf dr x (r6 x.x.i x.m fr τ).1 tk (r6 x.x.i x.m fr τ).2).map fun p => (fu (r6 x.x.i x.m fr τ).1 x.x.dst p.1,p.2.1,p.2.2)
def tIns (cf : CF) (dr : Bool) (x : am) (fr : TF) (tk : TK) (τ : TH) : Option (TF × TK × TH) :=
  match x.x.guard with
  | none => tGo cf dr x fr tk τ
  | some (t,b) => match lkp fr t with
    | .bool c => if c = b then tGo cf dr x fr tk τ else some (fu fr x.x.dst (.tup []),tk,τ)
    | .tup [] => some (fu fr x.x.dst (.tup []),tk,τ)
    | _ => none
def tOps (cf : CF) : List am → TF → TK → TH → Option (TF × TK × TH)
  | [],fr,tk,τ => some (fr,tk,τ)
  | x :: r,fr,tk,τ => match tIns cf false x fr tk τ with
    | some (fr',tk',τ') => tOps cf r fr' tk' τ'
    | none => none
def eq (y : I) (fr : TF) : Option (Option Nat) :=
  match y with
  | .load1 x | .loadN _ x => match tO fr x with
    | .rptr _ _ => some none
    | .ptr id _ => some (some id)
    | _ => none
  | .toStr x => match tO fr x with
    | .sl _ | .sla _ _ => some none
    | _ => none
  | _ => none
def me (x : am) (fr : TF) : Option (Option Nat) :=
  match x.x.i with
  | .callW _ _ | .callvW _ _ => some none
  | .store _ a _ => match tO fr a with | .ptr id _ => some (some id) | _ => some none
  | .load1 a => if x.m = 2 then (match tO fr a with | .ptr id _ => some (some id) | _ => some none) else none
  | .append _ _ _ s _ => if x.m = 1 then (match tO fr s with | .slm id _ _ _ => some (some id) | _ => none) else none
  | _ => none
def b9 (x : am) (y : Ins) (fr : TF) (τ : TH) : Bool :=
  d6 x.x.dst y.dsts && match eq y.i fr with
    | some none => true
    | some (some id) => (match τ.at id with | some b => !b.cs.isEmpty | none => false) && match me x fr with
      | none => true
      | some (some id') => id != id'
      | some none => false
    | none => false
def gz (x : am) (k : Nat) (fr : TF) (τ : TH) (told : List (Nat × Ins)) : List (Nat × Ins) :=
  let old := told.filter fun y => b9 x y.2 fr τ
  if x.m = 0 ∧ rg x.x.i = .R ∧ d6 x.x.dst x.x.looks = true ∧ (eq x.x.i fr).isSome = true then (k,x.x) :: old else old
def zan7 (cf : CF) : Nat → List (am × List Nat) → List (Nat × Ins) → TF → TK → TH → Option (TF × TK × TH)
  | _,[],_,fr,tk,τ => some (fr,tk,τ)
  | k,(x,ys) :: r,told,fr,tk,τ => match tIns cf true x fr tk τ with
    | some (fr',tk',τ') => if ys.all (fun j => (gz x k (r6 x.x.i x.m fr τ).1 (r6 x.x.i x.m fr τ).2 told).any fun p => p.1 == j) = true then zan7 cf (k + 1) r (gz x k (r6 x.x.i x.m fr τ).1 (r6 x.x.i x.m fr τ).2 told) fr' tk' τ' else none
    | none => none
mutual
def TV.lt (n m : Nat) : TV → Bool
  | .ptr id _ => decide (id < n)
  | .slm id _ _ _ => decide (id < n)
  | .sla k _ => decide (k < m)
  | .slb k _ => decide (k < m)
  | .func _ a b => ltL n m a && ltL n m b
  | .agg cs => ltL n m cs
  | .tup cs => ltL n m cs
  | _ => true
def ltL (n m : Nat) : List TV → Bool
  | [] => true
  | v :: r => v.lt n m && ltL n m r
end
def mp (lv : List Nat) (tk : TK) (τ : TH) (fr' : TF) (tk' : TK) (τ' : TH) : TF × TK × TH :=
  if ltL τ.next tk.length (lv.map fun t => lkp fr' t) = true then (sel lv fr',tk'.take tk.length,τ'.cut τ.next) else (sel lv fr',tk',τ')
structure TFn where
  n : Nat
  c : TC
  rs : List R
  fz : Bool
inductive TG where
  | code (f : TFn)
  | prim (g : List TV → TH → Option (TV × TH))
def xf (fr : TF) (τ : TH) : R → Option TV
  | .tmp t => some (lkp fr t)
  | .cell1 t => match lkp fr t with
    | .ptr id off => zapi τ id off
    | _ => none
  | .cellN t n => match lkp fr t with
    | .ptr id off => if n = 0 then none else (zauq τ id off n).map .agg
    | _ => none
def ww (fr : TF) (τ : TH) : List R → Option (List TV)
  | [] => some []
  | r :: l => match xf fr τ r,ww fr τ l with
    | some x,some y => some (x :: y)
    | _,_ => none
def za07 (rs : List R) (fr : TF) (τ : TH) : Option TV :=
  match rs with
  | [r] => xf fr τ r
  | rs => (ww fr τ rs).map .tup
def argF : Nat → List TV → TF
  | _,[] => []
  | k,v :: r => (k,v) :: argF (k + 1) r
def bm (p : CF × EF) : EF := fun c fr tk τ =>
  match c with
  | .skip => some (.normal,fr,tk,τ)
  | .ops l => (tOps p.1 l fr tk τ).map fun q => (.normal,q)
  | .draw l => (zan7 p.1 0 l [] fr tk τ).map fun q => (.normal,q)
  | .seq a b => match p.2 a fr tk τ with
    | some (.normal,fr',tk',τ') => p.2 b fr' tk' τ'
    | r => r
  | .cond c a b => match tO fr c with
    | .bool true => p.2 a fr tk τ
    | .bool false => p.2 b fr tk τ
    | _ => none
  | .block id lv a => match p.2 a fr tk τ with
    | some (e,fr',tk',τ') => if e = .normal ∨ e = .exit id then some (.normal,mp lv tk τ fr' tk' τ') else some (e,fr',tk',τ')
    | none => none
  | .loop lv a => match p.2 a (sel lv fr) tk τ with
    | some (.normal,fr',tk',τ') => p.2 (.loop lv a) (mp lv tk τ fr' tk' τ').1 (mp lv tk τ fr' tk' τ').2.1 (mp lv tk τ fr' tk' τ').2.2
    | r => r
  | .exit id => some (.exit id,fr,tk,τ)
  | .ret lv => some (.ret,sel lv fr,tk,τ)
  | .clean lv a => p.2 a (sel lv fr) tk τ
def lw (Γ : FuncId → Option TG) (p : CF × EF) : CF := fun f args τ =>
  match Γ f with
  | some (.code fn) => if args.length ≤ fn.n then (match p.2 fn.c (argF 0 args) [] τ with
    | some (e,fr,tk,τ') => if e = .normal ∨ e = .ret then (za07 fn.rs fr τ').bind fun v => if fn.fz = true then ((tfz τ' τ.next v).bind fun u => some (u,τ'.cut τ.next)) else if v.canT.under τ.next then some (v.canT,τ'.cut τ.next) else if v.canT.under τ'.next then some (v.canT,τ') else none else none
    | none => none) else none
  | some (.prim g) => g args τ
  | none => none
def zaeb (Γ : FuncId → Option TG) : Nat → CF × EF
  | 0 => (fun _ _ _ => none,fun _ _ _ _ => none)
  | k + 1 => (lw Γ (zaeb Γ k),bm (zaeb Γ k))
end Go.Proofs.Ytdcfoaafkppojaa.Sh
