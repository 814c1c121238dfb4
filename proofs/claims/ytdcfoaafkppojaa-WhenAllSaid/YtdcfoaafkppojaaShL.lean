/- From a function's condition, from the empty shadow, to a law's statement. -/
import Derived.Test.YtdcfoaafkppojaaSh7
import Derived.Carry
import Derived.ChangeSame
set_option linter.unusedVariables false
set_option linter.unusedSimpArgs false
namespace Go.Proofs.Ytdcfoaafkppojaa.Sh
open Go Go.RowKit
def ak.none : ak := ⟨0,fun _ => .dead⟩
theorem Rep.none (W : World) : Rep W.heap.size W ak.none ⟨0,fun _ => ⟨0,0,0⟩⟩ W :=
  ⟨rfl,.refl _ _,Nat.le_refl _,fun i hi => absurd hi (Nat.not_lt_zero _),fun i j hi => absurd hi (Nat.not_lt_zero _)⟩
theorem calls_true {P : Program} {f : FuncId} {args : List Value} {σ : ak} (h : io P f args σ fun v _ => v = .bool true) {W : World} {m : Mp} {cargs : Array Value} (hr : Rep W.heap.size W σ m W)
    (hs : cargs.size = args.length) (hv : ∀ i,i < args.length → bu m (args.getD i undef) (cargs.getD i undef)) :
    Calls P f cargs W fun e W' => e = .returned (.bool true) ∧ Below W.heap.size W W' :=
  (h.2 _ _ m W cargs hr hs hv).mono fun e w' ⟨v,c,m',σ',h1,h2,h3,h4,h5⟩ => by
    subst h5
    rw [zao1 h3] at h1
    exact ⟨h1,h4.below⟩
theorem zauy {H : Type} {enc : TypeId × Value → H} {P : Program} {f : Func} {s : ChangeSpec} {apart : Bool} {W W' : World} {args : Array Value} {v : Value} {ds gs : List (DataW H)} {before : List MemPlace}
    (hl : laidOutB P = true) (hts : (f.params.toList.all fun t => P.readableRec t && decide (t < P.types.size)) = true)
    (hW : DataW.Whole enc P f.params.toList s.vars apart W args.toList ds gs before) (hb : Below W.heap.size W W') (hsv : s.vars = [])
    (hfa : gs = [] → (s.fn H ds).args = ds) (hfv : gs = [] → (s.fn H ds).vars = [])
    (hres : gs = [] → DataW.TrodAll enc P W' W.heap.size (fun _ => false) false f.resultTypes.toList (v.resultList f.resultTypes.size) (s.fn H ds).results []) :
    s.post enc P f apart true false false W args v W' := by
  have hW' := hW
  obtain ⟨p,q,hA,hV,rfl,hfz,hnd⟩ := hW
  rw [hsv] at hV
  have hg : gs = [] ∧ q = [] := by
    cases gs with
    | nil => exact ⟨rfl,hV⟩
    | cons => exact hV.elim
  obtain ⟨rfl,rfl⟩ := hg
  have hlt := hA.lt
  refine ⟨ds,[],p ++ [],[],p,[],hW',?_,?_,?_,zaob hb _,fun h => by cases h⟩
  · rw [List.append_nil]; exact hres rfl
  · rw [List.append_nil,hfa rfl]
    exact zaib hl hb _ _ _ _ hts hA hlt
  · rw [List.append_nil,hfv rfl,hsv]
    rfl
end Go.Proofs.Ytdcfoaafkppojaa.Sh
