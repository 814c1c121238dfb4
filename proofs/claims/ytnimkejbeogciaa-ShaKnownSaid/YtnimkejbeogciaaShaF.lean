/- The digest by numbers, in a form that the kernel runs fast. -/
import Derived.Test.YtnimkejbeogciaaShaS
set_option linter.unusedSimpArgs false
set_option linter.unusedVariables false
namespace Go.Proofs.Ytnimkejbeogciaa
open Go Go.RowKit Sh Ic
noncomputable def frc {β : Type} (n : Nat) (f : Nat → β) : β := Nat.rec (f 0) (fun m _ => f (m + 1)) n
theorem frc_eq {β : Type} (n : Nat) (f : Nat → β) : frc n f = f n := by cases n <;> rfl
def dbl (x : Nat) : Nat := x * 4294967297
theorem rot_n (x : W) (n : Nat) (h0 : 0 < n) (hn : n < 32) : (dbl x.toNat >>> n) % 4294967296 = (rotr x n).toNat := by
  obtain ⟨k,rfl⟩ : ∃ k,k = 32 - n := ⟨_,rfl⟩
  have hX : x.toNat < 2 ^ 32 := x.isLt
  generalize hx : x.toNat = X at hX
  have p32 : 2 ^ 32 = 2 ^ n * 2 ^ (32 - n) := by rw [← Nat.pow_add]; congr 1; omega
  have pn : 0 < 2 ^ n := Nat.two_pow_pos n
  have lt : X / 2 ^ n < 2 ^ (32 - n) := by rw [Nat.div_lt_iff_lt_mul pn,Nat.mul_comm,← p32]; exact hX
  have e1 : X * 2 ^ (32 - n) % 2 ^ 32 = (X % 2 ^ n) * 2 ^ (32 - n) := by rw [p32,Nat.mul_mod_mul_right]
  have e2 : dbl X / 2 ^ n = X * 2 ^ (32 - n) + X / 2 ^ n := by
    unfold dbl
    rw [show X * 4294967297 = X + X * 2 ^ 32 from by omega,p32,Nat.mul_comm (2 ^ n),← Nat.mul_assoc,Nat.add_mul_div_right _ _ pn,Nat.add_comm]
  have lt2 : (X % 2 ^ n) * 2 ^ (32 - n) + X / 2 ^ n < 2 ^ 32 := by
    have : X % 2 ^ n + 1 ≤ 2 ^ n := Nat.mod_lt _ pn
    have h := Nat.mul_le_mul_right (2 ^ (32 - n)) this
    rw [← p32,Nat.add_mul,Nat.one_mul] at h
    omega
  unfold rotr
  rw [BitVec.toNat_or,BitVec.toNat_ushiftRight,BitVec.toNat_shiftLeft,hx,Nat.shiftRight_eq_div_pow,Nat.shiftRight_eq_div_pow,Nat.shiftLeft_eq,e1,e2]
  rw [show 4294967296 = 2 ^ 32 from rfl,Nat.add_mod,e1,Nat.or_comm,← Nat.shiftLeft_eq,← Nat.shiftLeft_add_eq_or_of_lt lt,Nat.shiftLeft_eq,← Nat.add_mod_mod,Nat.mod_mod,Nat.add_mod_mod,Nat.mod_eq_of_lt lt2]
theorem x3 (a b c : Nat) : (a ^^^ b ^^^ c) % 4294967296 = (a % 4294967296) ^^^ (b % 4294967296) ^^^ (c % 4294967296) := by
  rw [show 4294967296 = 2 ^ 32 from rfl,Nat.xor_mod_two_pow,Nat.xor_mod_two_pow]
def S1 (x : Nat) : Nat := dbl x >>> 6 ^^^ dbl x >>> 11 ^^^ dbl x >>> 25
def S0 (x : Nat) : Nat := dbl x >>> 2 ^^^ dbl x >>> 13 ^^^ dbl x >>> 22
def s0N (x : Nat) : Nat := dbl x >>> 7 ^^^ dbl x >>> 18 ^^^ x >>> 3
def s1N (x : Nat) : Nat := dbl x >>> 17 ^^^ dbl x >>> 19 ^^^ x >>> 10
theorem S1_eq (x : W) : S1 x.toNat % 4294967296 = (rotr x 6 ^^^ rotr x 11 ^^^ rotr x 25).toNat := by
  unfold S1; rw [x3,rot_n x 6 (by decide) (by decide),rot_n x 11 (by decide) (by decide),rot_n x 25 (by decide) (by decide),BitVec.toNat_xor,BitVec.toNat_xor]
theorem S0_eq (x : W) : S0 x.toNat % 4294967296 = (rotr x 2 ^^^ rotr x 13 ^^^ rotr x 22).toNat := by
  unfold S0; rw [x3,rot_n x 2 (by decide) (by decide),rot_n x 13 (by decide) (by decide),rot_n x 22 (by decide) (by decide),BitVec.toNat_xor,BitVec.toNat_xor]
theorem s0_eq (x : W) : s0N x.toNat % 4294967296 = (sig0 x).toNat := by
  unfold s0N sig0; rw [x3,rot_n x 7 (by decide) (by decide),rot_n x 18 (by decide) (by decide),BitVec.toNat_xor,BitVec.toNat_xor,BitVec.toNat_ushiftRight,Nat.mod_eq_of_lt]
  exact Nat.lt_of_le_of_lt (by rw [Nat.shiftRight_eq_div_pow]; exact Nat.div_le_self _ _) (w_lt x)
theorem s1_eq (x : W) : s1N x.toNat % 4294967296 = (sig1 x).toNat := by
  unfold s1N sig1; rw [x3,rot_n x 17 (by decide) (by decide),rot_n x 19 (by decide) (by decide),BitVec.toNat_xor,BitVec.toNat_xor,BitVec.toNat_ushiftRight,Nat.mod_eq_of_lt]
  exact Nat.lt_of_le_of_lt (by rw [Nat.shiftRight_eq_div_pow]; exact Nat.div_le_self _ _) (w_lt x)
def t1N (e f g h kw : Nat) : Nat := h + S1 e + (e &&& f ^^^ (4294967295 - e) &&& g) + kw
def t2N (a b c : Nat) : Nat := S0 a + (a &&& b ^^^ a &&& c ^^^ b &&& c)
theorem t1_eq (v : V8) (k w : W) (kw : Nat) (hkw : kw % 4294967296 = (k + w).toNat) : t1N v.e.toNat v.f.toNat v.g.toNat v.h.toNat kw % 4294967296 = (v.t1 k w).toNat := by
  have e1 := S1_eq v.e
  have e2 : (v.e.toNat &&& v.f.toNat ^^^ (4294967295 - v.e.toNat) &&& v.g.toNat) = (v.e &&& v.f ^^^ ~~~v.e &&& v.g).toNat := by
    rw [BitVec.toNat_xor,BitVec.toNat_and,BitVec.toNat_and,BitVec.toNat_not]
  unfold t1N V8.t1
  rw [e2]
  rw [BitVec.toNat_add] at hkw
  rw [BitVec.toNat_add,BitVec.toNat_add,BitVec.toNat_add,BitVec.toNat_add]
  omega
theorem t2_eq (v : V8) : t2N v.a.toNat v.b.toNat v.c.toNat % 4294967296 = v.t2.toNat := by
  have e1 := S0_eq v.a
  have e2 : (v.a.toNat &&& v.b.toNat ^^^ v.a.toNat &&& v.c.toNat ^^^ v.b.toNat &&& v.c.toNat) = (v.a &&& v.b ^^^ v.a &&& v.c ^^^ v.b &&& v.c).toNat := by
    rw [BitVec.toNat_xor,BitVec.toNat_xor,BitVec.toNat_and,BitVec.toNat_and,BitVec.toNat_and]
  unfold t2N V8.t2
  rw [e2,BitVec.toNat_add]
  omega
noncomputable def goN {β : Type} (kws : List Nat) : (a b c d e f g h : Nat) → (Nat → Nat → Nat → Nat → Nat → Nat → Nat → Nat → β) → β :=
  List.rec (motive := fun _ => (a b c d e f g h : Nat) → (Nat → Nat → Nat → Nat → Nat → Nat → Nat → Nat → β) → β)
    (fun a b c d e f g h K => K a b c d e f g h)
    (fun kw _ ih a b c d e f g h K => frc (t1N e f g h kw) fun t => frc ((d + t) % 4294967296) fun e' => frc ((t + t2N a b c) % 4294967296) fun a' => ih a' a b c e' e f g K) kws
theorem goN_cons {β : Type} (kw : Nat) (l : List Nat) (a b c d e f g h : Nat) (K : Nat → Nat → Nat → Nat → Nat → Nat → Nat → Nat → β) : goN (kw :: l) a b c d e f g h K = frc (t1N e f g h kw) fun t => frc ((d + t) % 4294967296) fun e' => frc ((t + t2N a b c) % 4294967296) fun a' => goN l a' a b c e' e f g K := rfl
def V8.run {β : Type} (v : V8) (K : Nat → Nat → Nat → Nat → Nat → Nat → Nat → Nat → β) : β := K v.a.toNat v.b.toNat v.c.toNat v.d.toNat v.e.toNat v.f.toNat v.g.toNat v.h.toNat
def rndL (v : V8) : List (W × W) → V8
  | [] => v
  | p :: r => rndL (v.rnd p.1 p.2) r
theorem goN_eq {β : Type} (K : Nat → Nat → Nat → Nat → Nat → Nat → Nat → Nat → β) (l : List (W × W)) : ∀ v : V8,v.run (fun a b c d e f g h => goN (l.map fun p => p.1.toNat + p.2.toNat) a b c d e f g h K) = (rndL v l).run K := by
  induction l with
  | nil => intro v; rfl
  | cons p r ih =>
    intro v
    have e1 := t1_eq v p.1 p.2 (p.1.toNat + p.2.toNat) (by rw [BitVec.toNat_add])
    have e2 := t2_eq v
    have ih := ih (v.rnd p.1 p.2)
    rw [rndL,← ih]
    have a1 : (v.d.toNat + t1N v.e.toNat v.f.toNat v.g.toNat v.h.toNat (p.1.toNat + p.2.toNat)) % 4294967296 = (v.rnd p.1 p.2).e.toNat := by
      show _ = (v.d + v.t1 p.1 p.2).toNat
      rw [BitVec.toNat_add]; omega
    have a2 : (t1N v.e.toNat v.f.toNat v.g.toNat v.h.toNat (p.1.toNat + p.2.toNat) + t2N v.a.toNat v.b.toNat v.c.toNat) % 4294967296 = (v.rnd p.1 p.2).a.toNat := by
      show _ = (v.t1 p.1 p.2 + v.t2).toNat
      rw [BitVec.toNat_add]; omega
    simp only [V8.run,List.map_cons,goN_cons,frc_eq]
    rw [a1,a2]
    rfl
theorem rnds_L (ks ws : List W) (hk : ks.length = 64) (hw : ws.length = 64) (n : Nat) : ∀ (i : Nat) (v : V8),n + i = 64 → rnds ks ws i n v = rndL v ((ks.zip ws).drop i) := by
  induction n with
  | zero =>
    intro i v hi
    rw [List.drop_of_length_le (by rw [List.length_zip]; omega)]
    rfl
  | succ n ih =>
    intro i v hi
    rw [List.drop_eq_getElem_cons (by rw [List.length_zip]; omega),rndL,rnds,ih (i + 1) _ (by omega),List.getElem_zip]
    rw [List.getD_eq_getElem?_getD,List.getD_eq_getElem?_getD,List.getElem?_eq_getElem (by omega),List.getElem?_eq_getElem (by omega)]
    rfl
def nextR (R : List Nat) : Nat := (R.getD 15 0 + s0N (R.getD 14 0) + R.getD 6 0 + s1N (R.getD 1 0)) % 4294967296
noncomputable def expN {β : Type} (n : Nat) : List Nat → (List Nat → β) → β :=
  Nat.rec (motive := fun _ => List Nat → (List Nat → β) → β) (fun R K => K R) (fun _ ih R K => frc (nextR R) fun w => ih (w :: R) K) n
theorem expN_succ {β : Type} (n : Nat) (R : List Nat) (K : List Nat → β) : expN (n + 1) R K = frc (nextR R) fun w => expN n (w :: R) K := rfl
def ln (l : List W) : List Nat := l.map BitVec.toNat
theorem rev_get (ws : List W) (i k j : Nat) (h : k < i) (hi : i ≤ ws.length) (hj : j = i - 1 - k) : (ln (ws.take i).reverse).getD k 0 = (ws.getD j 0).toNat := by
  subst hj
  unfold ln
  rw [List.getD_eq_getElem?_getD,List.getElem?_map,List.getElem?_reverse (by rw [List.length_take]; omega),List.length_take,Nat.min_eq_left hi,List.getElem?_take_of_lt (by omega),List.getD_eq_getElem?_getD,List.getElem?_eq_getElem (by omega)]
  rfl
theorem nextR_eq (ws : List W) (i : Nat) (h : 16 ≤ i) (hi : i ≤ ws.length) : nextR (ln (ws.take i).reverse) = (nextW ws i).toNat := by
  unfold nextR nextW
  rw [rev_get ws i 15 (i - 16) (by omega) hi (by omega),rev_get ws i 14 (i - 15) (by omega) hi (by omega),rev_get ws i 6 (i - 7) (by omega) hi (by omega),rev_get ws i 1 (i - 2) (by omega) hi (by omega)]
  have e0 := s0_eq (ws.getD (i - 15) 0)
  have e1 := s1_eq (ws.getD (i - 2) 0)
  rw [BitVec.toNat_add,BitVec.toNat_add,BitVec.toNat_add]
  omega
theorem take_set (ws : List W) (i : Nat) (x : W) (h : i < ws.length) : ((ws.set i x).take (i + 1)).reverse = x :: (ws.take i).reverse := by
  rw [List.take_add_one,List.getElem?_set_self h]
  have : (ws.set i x).take i = ws.take i := by
    apply List.ext_getElem?
    intro j
    by_cases c : j < i
    · rw [List.getElem?_take_of_lt c,List.getElem?_take_of_lt c,List.getElem?_set_ne (by omega)]
    · rw [List.getElem?_eq_none (by rw [List.length_take,List.length_set]; omega),List.getElem?_eq_none (by rw [List.length_take]; omega)]
  rw [this,List.reverse_append]
  rfl
theorem expN_eq {β : Type} (K : List Nat → β) (n : Nat) : ∀ (i : Nat) (ws : List W),n + i = 64 → 16 ≤ i → ws.length = 64 → expN n (ln (ws.take i).reverse) K = K (ln (sched i n ws).reverse) := by
  induction n with
  | zero =>
    intro i ws hi h16 hl
    rw [List.take_of_length_le (by omega)]
    rfl
  | succ n ih =>
    intro i ws hi h16 hl
    rw [expN_succ,frc_eq,nextR_eq ws i h16 (by omega),sched,← ih (i + 1) (ws.set i (nextW ws i)) (by omega) (by omega) (by rw [List.length_set,hl]),take_set ws i _ (by omega)]
    rfl
def w16 (s : ByteArray) : List W := [be4 s 15,be4 s 14,be4 s 13,be4 s 12,be4 s 11,be4 s 10,be4 s 9,be4 s 8,be4 s 7,be4 s 6,be4 s 5,be4 s 4,be4 s 3,be4 s 2,be4 s 1,be4 s 0]
theorem w16_eq (s : ByteArray) : ((fill s 0 16 zero64).take 16).reverse = w16 s := by
  simp only [fill,zero64,List.replicate,List.set_cons_zero,List.set_cons_succ,List.take_succ_cons,List.take_zero,w16,Nat.reduceAdd]
  rfl
theorem words_n {β : Type} (s : ByteArray) (K : List Nat → β) : expN 48 (ln (w16 s)) K = K (ln (words s).reverse) := by
  rw [← w16_eq,expN_eq K 48 16 (fill s 0 16 zero64) rfl (Nat.le_refl _) (by rw [fill_len]; rfl)]
  rfl
theorem zip_n : ∀ (ks ws : List W),List.zipWith (fun a b => a + b) (ln ks) (ln ws) = (ks.zip ws).map fun p => p.1.toNat + p.2.toNat
  | [],_ => by simp [ln]
  | _ :: _,[] => by simp [ln]
  | k :: ks,w :: ws => by
    have := zip_n ks ws
    unfold ln at this ⊢
    rw [List.map_cons,List.map_cons,List.zipWith_cons_cons,this,List.zip_cons_cons,List.map_cons]
def KN : List Nat := ln K256
noncomputable def finN {β : Type} (a b c d e f g h : Nat) (K : Nat → Nat → Nat → Nat → Nat → Nat → Nat → Nat → β) (a' b' c' d' e' f' g' h' : Nat) : β :=
    frc ((a + a') % 4294967296) fun a => frc ((b + b') % 4294967296) fun b => frc ((c + c') % 4294967296) fun c => frc ((d + d') % 4294967296) fun d =>
    frc ((e + e') % 4294967296) fun e => frc ((f + f') % 4294967296) fun f => frc ((g + g') % 4294967296) fun g => frc ((h + h') % 4294967296) fun h => K a b c d e f g h
theorem finN_eq {β : Type} (a b c d e f g h : W) (K : Nat → Nat → Nat → Nat → Nat → Nat → Nat → Nat → β) (v : V8) : v.run (finN a.toNat b.toNat c.toNat d.toNat e.toNat f.toNat g.toNat h.toNat K) = (V8.mk (a + v.a) (b + v.b) (c + v.c) (d + v.d) (e + v.e) (f + v.f) (g + v.g) (h + v.h)).run K := by
  unfold V8.run finN
  rw [frc_eq,frc_eq,frc_eq,frc_eq,frc_eq,frc_eq,frc_eq,frc_eq]
  simp only [BitVec.toNat_add]
noncomputable def blockN {β : Type} (s : ByteArray) (a b c d e f g h : Nat) (K : Nat → Nat → Nat → Nat → Nat → Nat → Nat → Nat → β) : β :=
  expN 48 (ln (w16 s)) fun R => goN (List.zipWith (fun a b => a + b) KN R.reverse) a b c d e f g h (finN a b c d e f g h K)
theorem rev_ln (l : List W) : (ln l.reverse).reverse = ln l := by unfold ln; rw [List.map_reverse,List.reverse_reverse]
theorem goN_at {β : Type} (K : Nat → Nat → Nat → Nat → Nat → Nat → Nat → Nat → β) (l : List (W × W)) (a b c d e f g h : W) : goN (l.map fun p => p.1.toNat + p.2.toNat) a.toNat b.toNat c.toNat d.toNat e.toNat f.toNat g.toNat h.toNat K = (rndL ⟨a,b,c,d,e,f,g,h⟩ l).run K := goN_eq K l ⟨a,b,c,d,e,f,g,h⟩
theorem add_at (v : V8) (a b c d e f g h : W) : V8.ofL (addup v.list 0 8 [a,b,c,d,e,f,g,h]) = ⟨a + v.a,b + v.b,c + v.c,d + v.d,e + v.e,f + v.f,g + v.g,h + v.h⟩ := rfl
theorem ofL_at (a b c d e f g h : W) : V8.ofL [a,b,c,d,e,f,g,h] = ⟨a,b,c,d,e,f,g,h⟩ := rfl
theorem blockN_at {β : Type} (K : Nat → Nat → Nat → Nat → Nat → Nat → Nat → Nat → β) (s : ByteArray) (a b c d e f g h : W) : blockN s a.toNat b.toNat c.toNat d.toNat e.toNat f.toNat g.toNat h.toNat K = (V8.ofL (blockW [a,b,c,d,e,f,g,h] s)).run K := by
  have e2 : rndL ⟨a,b,c,d,e,f,g,h⟩ (K256.zip (words s)) = rnds K256 (words s) 0 64 ⟨a,b,c,d,e,f,g,h⟩ := by
    rw [rnds_L K256 (words s) K256_len (words_len s) 64 0 _ rfl,List.drop_zero]
  unfold blockN
  rw [words_n,rev_ln,show KN = ln K256 from rfl,zip_n,goN_at,e2,finN_eq]
  unfold blockW
  rw [add_at,ofL_at]
theorem blockN_eq {β : Type} (K : Nat → Nat → Nat → Nat → Nat → Nat → Nat → Nat → β) (s : ByteArray) (hs : List W) (hl : hs.length = 8) : (V8.ofL hs).run (fun a b c d e f g h => blockN s a b c d e f g h K) = (V8.ofL (blockW hs s)).run K := by
  obtain ⟨a,b,c,d,e,f,g,h,rfl⟩ := eight hs hl
  rw [ofL_at,← blockN_at]
  rfl
noncomputable def blocksN {β : Type} (n : Nat) : List Int → (a b c d e f g h : Nat) → (Nat → Nat → Nat → Nat → Nat → Nat → Nat → Nat → β) → β :=
  Nat.rec (motive := fun _ => List Int → (a b c d e f g h : Nat) → (Nat → Nat → Nat → Nat → Nat → Nat → Nat → Nat → β) → β)
    (fun _ a b c d e f g h K => K a b c d e f g h)
    (fun _ ih m a b c d e f g h K => blockN (strL (m.take 64)) a b c d e f g h fun a b c d e f g h => ih (m.drop 64) a b c d e f g h K) n
theorem blocksN_eq {β : Type} (K : Nat → Nat → Nat → Nat → Nat → Nat → Nat → Nat → β) (n : Nat) : ∀ (m : List Int) (hs : List W),hs.length = 8 → (V8.ofL hs).run (fun a b c d e f g h => blocksN n m a b c d e f g h K) = (V8.ofL (blocks n m hs)).run K := by
  induction n with
  | zero => intro m hs hl; rfl
  | succ n ih =>
    intro m hs hl
    rw [blocks,← ih (m.drop 64) _ (blockW_len _ _ hl),← blockN_eq _ _ _ hl]
    rfl
def outN (a b c d e f g h : Nat) : ByteArray := strL (o4 (a : Int) ++ (o4 (b : Int) ++ (o4 (c : Int) ++ (o4 (d : Int) ++ (o4 (e : Int) ++ (o4 (f : Int) ++ (o4 (g : Int) ++ (o4 (h : Int) ++ []))))))))
noncomputable def SHAN (s : ByteArray) : ByteArray := blocksN (nblk s) (padded s) 1779033703 3144134277 1013904242 2773480762 1359893119 2600822924 528734635 1541459225 outN
theorem SHAN_eq (s : ByteArray) : SHA s = SHAN s := (blocksN_eq outN (nblk s) (padded s) H0 rfl).symm
def dblF (x : Nat) : Nat := Nat.mul x (nat_lit 4294967297)
def S1F (x : Nat) : Nat := Nat.xor (Nat.xor (Nat.shiftRight (dblF x) (nat_lit 6)) (Nat.shiftRight (dblF x) (nat_lit 11))) (Nat.shiftRight (dblF x) (nat_lit 25))
def S0F (x : Nat) : Nat := Nat.xor (Nat.xor (Nat.shiftRight (dblF x) (nat_lit 2)) (Nat.shiftRight (dblF x) (nat_lit 13))) (Nat.shiftRight (dblF x) (nat_lit 22))
def s0F (x : Nat) : Nat := Nat.xor (Nat.xor (Nat.shiftRight (dblF x) (nat_lit 7)) (Nat.shiftRight (dblF x) (nat_lit 18))) (Nat.shiftRight x (nat_lit 3))
def s1F (x : Nat) : Nat := Nat.xor (Nat.xor (Nat.shiftRight (dblF x) (nat_lit 17)) (Nat.shiftRight (dblF x) (nat_lit 19))) (Nat.shiftRight x (nat_lit 10))
def t1F (e f g h kw : Nat) : Nat := Nat.add (Nat.add (Nat.add h (S1F e)) (Nat.xor (Nat.land e f) (Nat.land (Nat.sub (nat_lit 4294967295) e) g))) kw
def t2F (a b c : Nat) : Nat := Nat.add (S0F a) (Nat.xor (Nat.xor (Nat.land a b) (Nat.land a c)) (Nat.land b c))
noncomputable def frF {β : Type} (n : Nat) (f : Nat → β) : β := Nat.rec (f (nat_lit 0)) (fun m _ => f (Nat.succ m)) n
def mdF (x : Nat) : Nat := Nat.mod x (nat_lit 4294967296)
noncomputable def goF {β : Type} (kws : List Nat) : (a b c d e f g h : Nat) → (Nat → Nat → Nat → Nat → Nat → Nat → Nat → Nat → β) → β :=
  List.rec (motive := fun _ => (a b c d e f g h : Nat) → (Nat → Nat → Nat → Nat → Nat → Nat → Nat → Nat → β) → β)
    (fun a b c d e f g h K => K a b c d e f g h)
    (fun kw _ ih a b c d e f g h K => frF (t1F e f g h kw) fun t => frF (mdF (Nat.add d t)) fun e' => frF (mdF (Nat.add t (t2F a b c))) fun a' => ih a' a b c e' e f g K) kws
theorem frF_eq {β : Type} (n : Nat) (f : Nat → β) : frF n f = frc n f := by cases n <;> rfl
theorem goF_cons {β : Type} (kw : Nat) (l : List Nat) (a b c d e f g h : Nat) (K : Nat → Nat → Nat → Nat → Nat → Nat → Nat → Nat → β) : goF (kw :: l) a b c d e f g h K = frF (t1N e f g h kw) fun t => frF ((d + t) % 4294967296) fun e' => frF ((t + t2N a b c) % 4294967296) fun a' => goF l a' a b c e' e f g K := rfl
theorem goF_eq {β : Type} (K : Nat → Nat → Nat → Nat → Nat → Nat → Nat → Nat → β) : ∀ (l : List Nat) (a b c d e f g h : Nat),goF l a b c d e f g h K = goN l a b c d e f g h K
  | [],_,_,_,_,_,_,_,_ => rfl
  | kw :: l,a,b,c,d,e,f,g,h => by simp only [goF_cons,goN_cons,frF_eq,frc_eq,goF_eq K l]
noncomputable def nth (l : List Nat) (n : Nat) : Nat := List.rec (motive := fun _ => Nat → Nat) (fun _ => nat_lit 0) (fun x _ ih n => Nat.rec (motive := fun _ => Nat) x (fun m _ => ih m) n) l n
theorem nth_eq : ∀ (l : List Nat) (n : Nat),nth l n = l.getD n 0
  | [],n => by simp [nth]
  | x :: l,0 => rfl
  | x :: l,n + 1 => by
    have := nth_eq l n
    rw [List.getD_cons_succ,← this]; rfl
noncomputable def nextF (R : List Nat) : Nat := mdF (Nat.add (Nat.add (Nat.add (nth R (nat_lit 15)) (s0F (nth R (nat_lit 14)))) (nth R (nat_lit 6))) (s1F (nth R (nat_lit 1))))
theorem nextF_eq (R : List Nat) : nextF R = nextR R := by
  unfold nextF nextR
  rw [nth_eq,nth_eq,nth_eq,nth_eq]
  rfl
noncomputable def expF {β : Type} (n : Nat) : List Nat → (List Nat → β) → β :=
  Nat.rec (motive := fun _ => List Nat → (List Nat → β) → β) (fun R K => K R) (fun _ ih R K => frF (nextF R) fun w => ih (w :: R) K) n
theorem expF_eq {β : Type} (K : List Nat → β) : ∀ (n : Nat) (R : List Nat),expF n R K = expN n R K
  | 0,_ => rfl
  | n + 1,R => by
    show frF (nextF R) (fun w => expF n (w :: R) K) = frc (nextR R) fun w => expN n (w :: R) K
    rw [frF_eq,frc_eq,frc_eq,nextF_eq,expF_eq K n]
noncomputable def addF (ks : List Nat) : List Nat → List Nat := List.rec (motive := fun _ => List Nat → List Nat) (fun _ => []) (fun k _ ih ws => List.rec (motive := fun _ => List Nat) [] (fun w ws _ => Nat.add k w :: ih ws) ws) ks
theorem addF_eq : ∀ ks ws : List Nat,addF ks ws = List.zipWith (fun a b => a + b) ks ws
  | [],ws => by cases ws <;> rfl
  | k :: ks,[] => rfl
  | k :: ks,w :: ws => by
    rw [List.zipWith_cons_cons,← addF_eq ks ws]; rfl
noncomputable def revF (l : List Nat) : List Nat → List Nat := List.rec (motive := fun _ => List Nat → List Nat) (fun r => r) (fun x _ ih r => ih (x :: r)) l
theorem revF_eq : ∀ l r : List Nat,revF l r = l.reverse ++ r
  | [],_ => rfl
  | x :: l,r => by
    rw [List.reverse_cons,List.append_assoc,List.singleton_append,← revF_eq l (x :: r)]; rfl
def KF : List Nat := [nat_lit 1116352408,nat_lit 1899447441,nat_lit 3049323471,nat_lit 3921009573,nat_lit 961987163,nat_lit 1508970993,nat_lit 2453635748,nat_lit 2870763221,nat_lit 3624381080,nat_lit 310598401,nat_lit 607225278,nat_lit 1426881987,nat_lit 1925078388,nat_lit 2162078206,nat_lit 2614888103,nat_lit 3248222580,nat_lit 3835390401,nat_lit 4022224774,nat_lit 264347078,nat_lit 604807628,nat_lit 770255983,nat_lit 1249150122,nat_lit 1555081692,nat_lit 1996064986,nat_lit 2554220882,nat_lit 2821834349,nat_lit 2952996808,nat_lit 3210313671,nat_lit 3336571891,nat_lit 3584528711,nat_lit 113926993,nat_lit 338241895,nat_lit 666307205,nat_lit 773529912,nat_lit 1294757372,nat_lit 1396182291,nat_lit 1695183700,nat_lit 1986661051,nat_lit 2177026350,nat_lit 2456956037,nat_lit 2730485921,nat_lit 2820302411,nat_lit 3259730800,nat_lit 3345764771,nat_lit 3516065817,nat_lit 3600352804,nat_lit 4094571909,nat_lit 275423344,nat_lit 430227734,nat_lit 506948616,nat_lit 659060556,nat_lit 883997877,nat_lit 958139571,nat_lit 1322822218,nat_lit 1537002063,nat_lit 1747873779,nat_lit 1955562222,nat_lit 2024104815,nat_lit 2227730452,nat_lit 2361852424,nat_lit 2428436474,nat_lit 2756734187,nat_lit 3204031479,nat_lit 3329325298]
theorem KF_eq : KF = KN := rfl
noncomputable def byF (s : ByteArray) (i : Nat) : Nat := nth (s.data.toList.map UInt8.toNat) i
theorem byF_eq (s : ByteArray) (i : Nat) : byF s i = (s.data.getD i 0).toNat := by
  unfold byF
  rw [nth_eq,List.getD_eq_getElem?_getD,List.getElem?_map,Array.getD_eq_getD_getElem?,← Array.getElem?_toList]
  cases s.data.toList[i]? <;> rfl
noncomputable def be4F (s : ByteArray) (i : Nat) : Nat := Nat.add (Nat.add (Nat.add (Nat.mul (byF s (Nat.mul 4 i)) (nat_lit 16777216)) (Nat.mul (byF s (Nat.add (Nat.mul 4 i) 1)) (nat_lit 65536))) (Nat.mul (byF s (Nat.add (Nat.mul 4 i) 2)) (nat_lit 256))) (byF s (Nat.add (Nat.mul 4 i) 3))
theorem be4F_eq (s : ByteArray) (i : Nat) : be4F s i = (be4 s i).toNat := by
  have h0 := (s.data.getD (4 * i) 0).toNat_lt
  have h1 := (s.data.getD (4 * i + 1) 0).toNat_lt
  have h2 := (s.data.getD (4 * i + 2) 0).toNat_lt
  have h3 := (s.data.getD (4 * i + 3) 0).toNat_lt
  show byF s (4 * i) * 16777216 + byF s (4 * i + 1) * 65536 + byF s (4 * i + 2) * 256 + byF s (4 * i + 3) = _
  rw [byF_eq,byF_eq,byF_eq,byF_eq]
  unfold be4
  rw [BitVec.toNat_or,BitVec.toNat_or,BitVec.toNat_or,BitVec.toNat_shiftLeft,BitVec.toNat_shiftLeft,BitVec.toNat_shiftLeft,bt_nat,bt_nat,bt_nat,bt_nat]
  generalize (s.data.getD (4 * i) 0).toNat = x0 at *
  generalize (s.data.getD (4 * i + 1) 0).toNat = x1 at *
  generalize (s.data.getD (4 * i + 2) 0).toNat = x2 at *
  generalize (s.data.getD (4 * i + 3) 0).toNat = x3 at *
  rw [Nat.shiftLeft_eq,Nat.shiftLeft_eq,Nat.shiftLeft_eq,Nat.mod_eq_of_lt (by omega),Nat.mod_eq_of_lt (by omega),Nat.mod_eq_of_lt (by omega)]
  rw [← Nat.shiftLeft_eq x0 24,← Nat.shiftLeft_add_eq_or_of_lt (show x1 * 2 ^ 16 < 2 ^ 24 by omega),Nat.shiftLeft_eq]
  rw [show x0 * 2 ^ 24 + x1 * 2 ^ 16 = (x0 * 256 + x1) * 2 ^ 16 from by omega,← Nat.shiftLeft_eq _ 16,← Nat.shiftLeft_add_eq_or_of_lt (show x2 * 2 ^ 8 < 2 ^ 16 by omega),Nat.shiftLeft_eq]
  rw [show (x0 * 256 + x1) * 2 ^ 16 + x2 * 2 ^ 8 = ((x0 * 256 + x1) * 256 + x2) * 2 ^ 8 from by omega,← Nat.shiftLeft_eq _ 8,← Nat.shiftLeft_add_eq_or_of_lt (show x3 < 2 ^ 8 by omega),Nat.shiftLeft_eq]
noncomputable def w16F (s : ByteArray) : List Nat := [be4F s 15,be4F s 14,be4F s 13,be4F s 12,be4F s 11,be4F s 10,be4F s 9,be4F s 8,be4F s 7,be4F s 6,be4F s 5,be4F s 4,be4F s 3,be4F s 2,be4F s 1,be4F s 0]
theorem w16F_eq (s : ByteArray) : w16F s = ln (w16 s) := by
  unfold w16F w16 ln
  simp only [be4F_eq,List.map_cons,List.map_nil]
noncomputable def finF {β : Type} (a b c d e f g h : Nat) (K : Nat → Nat → Nat → Nat → Nat → Nat → Nat → Nat → β) (a' b' c' d' e' f' g' h' : Nat) : β :=
    frF (mdF (Nat.add a a')) fun a => frF (mdF (Nat.add b b')) fun b => frF (mdF (Nat.add c c')) fun c => frF (mdF (Nat.add d d')) fun d =>
    frF (mdF (Nat.add e e')) fun e => frF (mdF (Nat.add f f')) fun f => frF (mdF (Nat.add g g')) fun g => frF (mdF (Nat.add h h')) fun h => K a b c d e f g h
theorem finF_eq {β : Type} (a b c d e f g h : Nat) (K : Nat → Nat → Nat → Nat → Nat → Nat → Nat → Nat → β) : finF a b c d e f g h K = finN a b c d e f g h K := by
  funext a' b' c' d' e' f' g' h'
  unfold finF finN
  simp only [frF_eq,frc_eq]
  rfl
noncomputable def blockF {β : Type} (s : ByteArray) (a b c d e f g h : Nat) (K : Nat → Nat → Nat → Nat → Nat → Nat → Nat → Nat → β) : β :=
  expF 48 (w16F s) fun R => goF (addF KF (revF R [])) a b c d e f g h (finF a b c d e f g h K)
theorem blockF_eq {β : Type} (s : ByteArray) (a b c d e f g h : Nat) (K : Nat → Nat → Nat → Nat → Nat → Nat → Nat → Nat → β) : blockF s a b c d e f g h K = blockN s a b c d e f g h K := by
  unfold blockF blockN
  rw [expF_eq,w16F_eq]
  congr 1
  funext R
  rw [goF_eq,addF_eq,revF_eq,List.append_nil,finF_eq,KF_eq]
noncomputable def blocksF {β : Type} (n : Nat) : List Int → (a b c d e f g h : Nat) → (Nat → Nat → Nat → Nat → Nat → Nat → Nat → Nat → β) → β :=
  Nat.rec (motive := fun _ => List Int → (a b c d e f g h : Nat) → (Nat → Nat → Nat → Nat → Nat → Nat → Nat → Nat → β) → β)
    (fun _ a b c d e f g h K => K a b c d e f g h)
    (fun _ ih m a b c d e f g h K => blockF (strL (m.take 64)) a b c d e f g h fun a b c d e f g h => ih (m.drop 64) a b c d e f g h K) n
theorem blocksF_eq {β : Type} (K : Nat → Nat → Nat → Nat → Nat → Nat → Nat → Nat → β) : ∀ (n : Nat) (m : List Int) (a b c d e f g h : Nat),blocksF n m a b c d e f g h K = blocksN n m a b c d e f g h K
  | 0,_,_,_,_,_,_,_,_,_ => rfl
  | n + 1,m,a,b,c,d,e,f,g,h => by
    show blockF (strL (m.take 64)) a b c d e f g h (fun a b c d e f g h => blocksF n (m.drop 64) a b c d e f g h K) = blockN (strL (m.take 64)) a b c d e f g h (fun a b c d e f g h => blocksN n (m.drop 64) a b c d e f g h K)
    have e : (fun a b c d e f g h => blocksF n (m.drop 64) a b c d e f g h K) = (fun a b c d e f g h => blocksN n (m.drop 64) a b c d e f g h K) := by
      funext a b c d e f g h
      exact blocksF_eq K n _ a b c d e f g h
    rw [blockF_eq,e]
noncomputable def SHAF (s : ByteArray) : ByteArray := blocksF (nblk s) (padded s) (nat_lit 1779033703) (nat_lit 3144134277) (nat_lit 1013904242) (nat_lit 2773480762) (nat_lit 1359893119) (nat_lit 2600822924) (nat_lit 528734635) (nat_lit 1541459225) outN
theorem SHAF_eq (s : ByteArray) : SHA s = SHAF s := (SHAN_eq s).trans (blocksF_eq outN (nblk s) (padded s) _ _ _ _ _ _ _ _).symm
end Go.Proofs.Ytnimkejbeogciaa
