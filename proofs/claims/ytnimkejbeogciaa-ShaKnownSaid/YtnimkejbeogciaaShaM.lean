/- A block of equal bytes, many times over: the digest runs with one list of constants. -/
import Derived.Test.YtnimkejbeogciaaShaF
import Derived.KernelRfl
set_option linter.unusedSimpArgs false
set_option linter.unusedVariables false
set_option linter.unusedSectionVars false
namespace Go.Proofs.Ytnimkejbeogciaa
open Go Go.RowKit Sh Ic
def KA : List Nat := [nat_lit 2750124281,nat_lit 3533219314,nat_lit 4683095344,nat_lit 5554781446,nat_lit 2595759036,nat_lit 3142742866,nat_lit 4087407621,nat_lit 4504535094,nat_lit 5258152953,nat_lit 1944370274,nat_lit 2240997151,nat_lit 3060653860,nat_lit 3558850261,nat_lit 3795850079,nat_lit 4248659976,nat_lit 4881994453,nat_lit 7962470397,nat_lit 8149304770,nat_lit 1109373709,nat_lit 1449834259,nat_lit 1332383432,nat_lit 1811277571,nat_lit 5697566716,nat_lit 4336890837,nat_lit 4651386783,nat_lit 7023905028,nat_lit 4167673427,nat_lit 6075095564,nat_lit 3506461443,nat_lit 6222891004,nat_lit 3100717738,nat_lit 957412701,nat_lit 3211936012,nat_lit 2525724465,nat_lit 5192624004,nat_lit 2750766458,nat_lit 3733122911,nat_lit 5785415788,nat_lit 5302099131,nat_lit 4510137934,nat_lit 4494867471,nat_lit 3051847127,nat_lit 6841751890,nat_lit 5493434369,nat_lit 5416391400,nat_lit 6288792078,nat_lit 4206943767,nat_lit 1385611443,nat_lit 2838015846,nat_lit 4615462549,nat_lit 2870002303,nat_lit 4911289699,nat_lit 3868675357,nat_lit 5105900214,nat_lit 4192983651,nat_lit 4114851946,nat_lit 2567787456,nat_lit 3518289627,nat_lit 3043469264,nat_lit 3431775655,nat_lit 2875437985,nat_lit 3700493388,nat_lit 7133747437,nat_lit 3572068108]
noncomputable def milF {β : Type} (n : Nat) : (a b c d e f g h : Nat) → (Nat → Nat → Nat → Nat → Nat → Nat → Nat → Nat → β) → β :=
  Nat.rec (motive := fun _ => (a b c d e f g h : Nat) → (Nat → Nat → Nat → Nat → Nat → Nat → Nat → Nat → β) → β)
    (fun a b c d e f g h K => K a b c d e f g h)
    (fun _ ih a b c d e f g h K => goF KA a b c d e f g h (finF a b c d e f g h fun a b c d e f g h => ih a b c d e f g h K)) n
theorem milF_succ {β : Type} (n a b c d e f g h : Nat) (K : Nat → Nat → Nat → Nat → Nat → Nat → Nat → Nat → β) : milF (n + 1) a b c d e f g h K = goF KA a b c d e f g h (finF a b c d e f g h fun a b c d e f g h => milF n a b c d e f g h K) := rfl
theorem milF_add {β : Type} (K : Nat → Nat → Nat → Nat → Nat → Nat → Nat → Nat → β) (n : Nat) : ∀ (m a b c d e f g h : Nat),milF (m + n) a b c d e f g h K = milF m a b c d e f g h fun a b c d e f g h => milF n a b c d e f g h K
  | 0,a,b,c,d,e,f,g,h => by rw [Nat.zero_add]; rfl
  | m + 1,a,b,c,d,e,f,g,h => by
    rw [Nat.add_right_comm,milF_succ,milF_succ]
    have x : (fun a b c d e f g h => milF (m + n) a b c d e f g h K) = (fun a b c d e f g h => milF m a b c d e f g h fun a b c d e f g h => milF n a b c d e f g h K) := by
      funext a b c d e f g h
      exact milF_add K n m a b c d e f g h
    rw [x]
def A64 : List Int := List.replicate 64 97
set_option maxRecDepth 100000 in
theorem KA_run : expF 48 (w16F (strL A64)) (fun R => addF KF (revF R [])) = KA := by decide +kernel
theorem expF_nat {β γ : Type} (g : β → γ) (K : List Nat → β) : ∀ (n : Nat) (R : List Nat),g (expF n R K) = expF n R fun R => g (K R)
  | 0,_ => rfl
  | n + 1,R => by
    show g (frF (nextF R) fun w => expF n (w :: R) K) = frF (nextF R) fun w => expF n (w :: R) fun R => g (K R)
    rw [frF_eq,frF_eq,frc_eq,frc_eq,expF_nat g K n]
theorem blockA {β : Type} (a b c d e f g h : Nat) (K : Nat → Nat → Nat → Nat → Nat → Nat → Nat → Nat → β) : blockF (strL A64) a b c d e f g h K = goF KA a b c d e f g h (finF a b c d e f g h K) := by
  unfold blockF
  rw [← expF_nat (fun l => goF l a b c d e f g h (finF a b c d e f g h K)) (fun R => addF KF (revF R [])),KA_run]
theorem blocksA {β : Type} (K : Nat → Nat → Nat → Nat → Nat → Nat → Nat → Nat → β) (r : Nat) (rest : List Int) : ∀ (n a b c d e f g h : Nat),blocksF (n + r) (List.replicate (64 * n) 97 ++ rest) a b c d e f g h K = milF n a b c d e f g h fun a b c d e f g h => blocksF r rest a b c d e f g h K
  | 0,a,b,c,d,e,f,g,h => by rw [Nat.zero_add]; rfl
  | n + 1,a,b,c,d,e,f,g,h => by
    rw [Nat.add_right_comm,milF_succ,← blockA]
    show blockF (strL (List.take 64 (List.replicate (64 * (n + 1)) 97 ++ rest))) a b c d e f g h (fun a b c d e f g h => blocksF (n + r) (List.drop 64 (List.replicate (64 * (n + 1)) 97 ++ rest)) a b c d e f g h K) = _
    have e0 : (List.replicate (64 * (n + 1)) 97 : List Int) = A64 ++ List.replicate (64 * n) 97 := by
      rw [A64,List.replicate_append_replicate]; congr 1; omega
    have l64 : A64.length = 64 := List.length_replicate ..
    rw [e0,List.append_assoc,List.take_append_of_le_length (by omega),List.take_of_length_le (by omega),List.drop_append,List.drop_of_length_le (by omega),l64,Nat.sub_self,List.drop_zero,List.nil_append]
    have x : (fun a b c d e f g h => blocksF (n + r) (List.replicate (64 * n) 97 ++ rest) a b c d e f g h K) = (fun a b c d e f g h => milF n a b c d e f g h fun a b c d e f g h => blocksF r rest a b c d e f g h K) := by
      funext a b c d e f g h
      exact blocksA K r rest n a b c d e f g h
    rw [x]
end Go.Proofs.Ytnimkejbeogciaa
