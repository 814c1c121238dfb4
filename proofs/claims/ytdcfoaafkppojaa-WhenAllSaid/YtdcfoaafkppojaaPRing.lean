/- A ring of so many is a swap that may be. -/
import Derived.Test.YtdcfoaafkppojaaPSpec2
set_option linter.unusedSimpArgs false
set_option linter.unusedVariables false
namespace Go.Proofs.Ytdcfoaafkppojaa
open Go Go.RowKit Sh Ic
def digit (k : Nat) : ByteArray := (⟨#[48,49,50,51,52,53,54,55,56,57]⟩ : ByteArray).extract k (k + 1)
def acct (k : Nat) : ByteArray := (⟨#[112,97,114,116,121]⟩ : ByteArray) ++ digit k
def secr (k : Nat) : ByteArray := (⟨#[115,101,99,114,101,116]⟩ : ByteArray) ++ digit k
def zw (k : Nat) : ByteArray := (⟨#[115,101,101,100]⟩ : ByteArray) ++ digit k
theorem uq (k : Nat) (h : k < 10) : (digit k).size = 1 := by
  unfold digit
  rw [ByteArray.size_extract]
  show min (k + 1) 10 - k = 1
  omega
theorem zavq (k : Nat) (h : k < 10) : qy (k : Int) = some (digit k) := by
  unfold qy
  rw [if_pos ⟨by omega,by omega⟩,Int.toNat_natCast]; rfl
theorem acct_size (k : Nat) (h : k < 10) : (acct k).size = 6 := by unfold acct; rw [ByteArray.size_append,uq k h]; rfl
theorem secr_size (k : Nat) (h : k < 10) : (secr k).size = 7 := by unfold secr; rw [ByteArray.size_append,uq k h]; rfl
theorem seed_size (k : Nat) (h : k < 10) : (zw k).size = 5 := by unfold zw; rw [ByteArray.size_append,uq k h]; rfl
theorem account_f (k : Nat) (h : k < 10) : jl (k : Int) = some (acct k) := by
  unfold jl
  rw [zavq k h,obz,if_pos (by rw [uq k h]; decide)]; rfl
theorem secret_f (k : Nat) (h : k < 10) : qx (k : Int) = some (secr k) := by
  unfold qx
  rw [zavq k h,obz,if_pos (by rw [uq k h]; decide)]; rfl
theorem seed_f (k : Nat) (h : k < 10) : uv (k : Int) = some (zw k) := by
  unfold uv
  rw [zavq k h,obz,if_pos (by rw [uq k h]; decide)]; rfl
def lockS (k : Nat) : ByteArray := SHA (secr k)
def keyS' (i k : Nat) : ByteArray := PUB (zw i) (k : Int)
theorem PUB_size (s : ByteArray) (k : Int) : (PUB s k).size = 16 := by unfold PUB; exact x5 _
theorem lockO_f (k : Nat) (h : k < 10) : lockO (k : Int) = some (lockS k) := by
  unfold lockO
  rw [secret_f k h,obz,sum2_f _ (by rw [secr_size k h]; decide)]; rfl
theorem keyO_f (i k : Nat) (hi : i < 10) (hk : k < 10) : keyO (i : Int) (k : Int) = some (keyS' i k) := by
  unfold keyO
  rw [seed_f i hi,obz,pub2_f _ (by rw [seed_size i hi]; decide),if_pos (by unfold isK; omega)]; rfl
def upL (g : Nat → ByteArray) : Nat → Nat → List ByteArray
  | 0,_ => []
  | n + 1,k => g k :: upL g n (k + 1)
theorem upL_len (g : Nat → ByteArray) (n : Nat) : ∀ k,(upL g n k).length = n := by
  induction n with
  | zero => intro k; rfl
  | succ n ih => intro k; rw [upL,List.length_cons,ih]
theorem upL_mem {g : Nat → ByteArray} {n : Nat} : ∀ {k : Nat} {x : ByteArray},x ∈ upL g n k → ∃ j,k ≤ j ∧ j < k + n ∧ x = g j := by
  induction n with
  | zero => intro k x h; cases h
  | succ n ih =>
    intro k x h
    rw [upL,List.mem_cons] at h
    rcases h with rfl | h
    · exact ⟨k,Nat.le_refl _,by omega,rfl⟩
    · obtain ⟨j,h1,h2,h3⟩ := ih h
      exact ⟨j,by omega,by omega,h3⟩
theorem za1q {f : Int → Option ByteArray} {g : Nat → ByteArray} (hf : ∀ k : Nat,k < 10 → f (k : Int) = some (g k)) (n : Nat) : ∀ (k : Nat) (l : List ByteArray),n + k ≤ 10 → zahr f n k l = some (l ++ upL g n k) := by
  induction n with
  | zero => intro k l h; rw [zahr,upL,List.append_nil]
  | succ n ih => intro k l h; rw [zahr,hf k (by omega),obz,ih (k + 1) _ (by omega),upL,List.append_assoc]; rfl
def zaho (L : Nat) : Nat → Nat → List ac
  | 0,_ => []
  | n + 1,k => ⟨acct k,upL (keyS' k) L 0⟩ :: zaho L n (k + 1)
theorem zaw3 (L n : Nat) : ∀ k,(zaho L n k).length = n := by
  induction n with
  | zero => intro k; rfl
  | succ n ih => intro k; rw [zaho,List.length_cons,ih]
theorem rowsO_f (L : Nat) (hL : L ≤ 10) (n : Nat) : ∀ (k : Nat) (d : List ac),n + k ≤ 10 → zaw2 L (bare (upL acct n k)) k d = some (d ++ zaho L n k) := by
  induction n with
  | zero => intro k d h; show some d = some (d ++ []); rw [List.append_nil]
  | succ n ih =>
    intro k d h
    show (zahr (keyO (k : Int)) L 0 [] >>= fun ks => zaw2 L (bare (upL acct n (k + 1))) (k + 1) (d ++ [⟨acct k,ks⟩])) = _
    rw [za1q (g := keyS' k) (fun j hj => keyO_f k j (by omega) hj) L 0 [] (by omega),obz,ih (k + 1) _ (by omega),List.append_assoc]
    rfl
def ringS (n : Nat) (start delta : Int) : aa := ⟨⟨#[114,105,110,103]⟩,zaho 1 n 0,zaoh n 0 2,[0],[lockS 0],start,delta⟩
theorem ring_f (n : Nat) (start delta : Int) (h1 : 1 ≤ n) (h6 : n ≤ 6) : zf (n : Int) start delta = some (ringS n start delta) := by
  unfold zf
  have e1 : ze (n : Int) 0 2 = some (zaoh n 0 2) := if_pos ⟨⟨by omega,by omega⟩,by decide,by decide⟩
  rw [if_pos ⟨by omega,by omega⟩,e1,obz,Int.toNat_natCast,za1q account_f n 0 [] (by omega),obz,za1q lockO_f 1 0 [] (by omega),obz,List.nil_append,rowsO_f 1 (by omega) n 0 [] (by omega),obz]
  rfl
theorem rows_ok (L : Nat) (n : Nat) : ∀ k,n + k ≤ 10 → ∀ p ∈ zaho L n k,zau0 (L : Int) p = true := by
  induction n with
  | zero => intro k h p hp; cases hp
  | succ n ih =>
    intro k h p hp
    rw [zaho,List.mem_cons] at hp
    rcases hp with rfl | hp
    · unfold zau0
      rw [Bool.and_eq_true,zatg,yc]
      refine ⟨by show 1 ≤ (acct k).size ∧ (acct k).size ≤ 16; rw [acct_size k (by omega)]; decide,by show ((upL (keyS' k) L 0).length : Int) = _; rw [upL_len],fun x hx => ?_⟩
      obtain ⟨j,_,_,rfl⟩ := upL_mem hx
      show ((PUB _ _).size : Int) = 16
      rw [PUB_size]; rfl
    · exact ih (k + 1) (by omega) p hp
theorem rows_acct (L n : Nat) : ∀ k,(zaho L n k).map ac.Account = upL acct n k := by
  induction n with
  | zero => intro k; rfl
  | succ n ih => intro k; rw [zaho,List.map_cons,ih,upL]
theorem accts_nd : (upL acct 6 0).Nodup := by decide +kernel
theorem upL_take (g : Nat → ByteArray) (n m : Nat) : ∀ k,upL g n k = (upL g (n + m) k).take n := by
  induction n with
  | zero => intro k; rfl
  | succ n ih => intro k; rw [Nat.succ_add,upL,upL,List.take_succ_cons,← ih]
theorem za2t (n : Nat) (h : n ≤ 6) : (upL acct n 0).Nodup := by
  have e := upL_take acct n (6 - n) 0
  rw [show n + (6 - n) = 6 by omega] at e
  rw [e]
  exact accts_nd.sublist (List.take_sublist _ _)
def z4 (n : Nat) (l : List af) : Bool := l.all (zals (n : Int)) && decide ((l.map fun a => (a.From,a.To)).Nodup) && decide (1 ≤ l.length) && decide (l.length ≤ 12)
theorem ring_arcs : (z4 2 (zaoh 2 0 2) && z4 3 (zaoh 3 0 2) && z4 4 (zaoh 4 0 2) && z4 5 (zaoh 5 0 2) && z4 6 (zaoh 6 0 2)) = true := by decide +kernel
theorem ring_good (n : Nat) (h2 : 2 ≤ n) (h6 : n ≤ 6) : z4 n (zaoh n 0 2) = true := by
  have h := ring_arcs
  simp only [Bool.and_eq_true] at h
  obtain ⟨⟨⟨⟨a,b⟩,c⟩,d⟩,e⟩ := h
  have : n = 2 ∨ n = 3 ∨ n = 4 ∨ n = 5 ∨ n = 6 := by omega
  rcases this with rfl | rfl | rfl | rfl | rfl <;> assumption
theorem ring_ok (n : Nat) (start delta : Int) (h2 : 2 ≤ n) (h6 : n ≤ 6) (hs : 0 ≤ start ∧ start ≤ 1099511627776) (hd : 1 ≤ delta ∧ delta ≤ 1048576) : Ok (ringS n start delta) := by
  have g := ring_good n h2 h6
  unfold z4 at g
  simp only [Bool.and_eq_true,decide_eq_true_iff,List.all_eq_true] at g
  obtain ⟨⟨⟨g1,g2⟩,g3⟩,g4⟩ := g
  have ln : (zaho 1 n 0).length = n := zaw3 1 n 0
  refine ⟨by show rp ⟨#[114,105,110,103]⟩ = true; decide +kernel,?_,by show 1 ≤ 1 ∧ 1 ≤ 3; decide,⟨g3,g4⟩,⟨rfl,fun x hx => ?_⟩,hs,hd,rows_ok 1 n 0 (by omega),?_,?_,g2,by show [(0 : Int)].Nodup; decide,fun v hv => ?_⟩
  · show 2 ≤ (zaho 1 n 0).length ∧ (zaho 1 n 0).length ≤ 6
    omega
  · have : x = lockS 0 := by simpa [ringS] using hx
    rw [this]; exact zav5 _
  · show ∀ a ∈ zaoh n 0 2,zals ((zaho 1 n 0).length : Nat) a = true
    rw [ln]; exact g1
  · show ((zaho 1 n 0).map ac.Account).Nodup
    rw [rows_acct]; exact za2t n h6
  · have : v = 0 := by simpa [ringS] using hv
    rw [this]
    show (0 : Int) ≤ 0 ∧ (0 : Int) < ((zaho 1 n 0).length : Nat)
    omega
theorem ring_wf (n : Nat) (start delta : Int) (hs : zaos start = true) (hd : zaos delta = true) : Wf (ringS n start delta) := ⟨fun v hv => by
  have : v = 0 := by simpa [ringS] using hv
  rw [this]; decide,hs,hd⟩
end Go.Proofs.Ytdcfoaafkppojaa
