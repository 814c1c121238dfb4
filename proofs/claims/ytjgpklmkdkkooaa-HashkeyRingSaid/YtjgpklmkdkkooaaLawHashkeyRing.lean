import Derived.Test.YtjgpklmkdkkooaaRows
import Derived.WalkKit
import Derived.ProofKit
import Derived.OpenShut
import Derived.SizedLaws
import Derived.Test.YtjgpklmkdkkooaaPKeyR
import Derived.Test.YtjgpklmkdkkooaaM13
set_option linter.unusedVariables false
set_option linter.unusedSimpArgs false
/- 'Rows.HashkeyRingSaid': whatever the arguments, the law's function returns true; what it was handed reads as it did. -/
namespace Go.Proofs.Ytjgpklmkdkkooaa.hashkeyRing
open Go.ChangeShapes Go.WideShapes Go.ChangeAt Go.RowKit Go.Proofs.Ytjgpklmkdkkooaa.Sh
theorem own : ownKnob Try.prog.godebug = none:=by kernel_rfl
theorem laid : laidOutB Try.prog = true:=by kernel_rfl
set_option maxRecDepth 100000 in
theorem lifted (os : Os) (started : os.Started) (H : Type) (enc : TypeId × Value → H) :
 ReturnsInHanded {} Try.checked os 4 .any (Rows.hashkeyRingSpec.pre6 enc Try.prog Try.f4 Rows.hashkeyRingRow.domain false) (Rows.hashkeyRingSpec.post enc Try.prog Try.f4 false true false false):=by
 refine returnsInHanded_of_change_sized (C:=Try.checked) own started (by kernel_rfl) Try.func4
  (ChangeSpec.witness6 (enc:=enc) (C:=Try.checked) false ⟨#[],#[.int .i64 0],[]⟩ 8 (by kernel_rfl) (by kernel_rfl) (by kernel_rfl) (by kernel_rfl)) ?_
 intro W base args ds gs before hval0 hW hcnd hwt _
 have hval : ∀ (j : Nat) t v,Try.f4.params[j]? = some t → args[j]? = some v → Value.okWide Try.prog W .any base t v:=hval0
 have hW':=hW
 obtain ⟨p,q,hA0,hV,rfl,hfz,hnd⟩:=hW
 have hA : DataW.TrodAll enc Try.prog W 0 (fun _ => true) true Try.f4.params.toList args.toList ds p:=hA0
 rw [Try.params4] at hA hval
 obtain ⟨v0,vs0,d0,ds0,p0,q0,hargs,rfl,rfl,h0,r0⟩:=trodAll_cons hA
 obtain ⟨rfl,rfl,rfl⟩:=trodAll_nil r0
 obtain rfl : args = #[v0]:=by cases args; simp_all
 obtain ⟨a0,x0,σ0,m0,le0,ml0,rp0,rv0,av0,ok0⟩:=zccb (α:=Int) (P:=Try.prog) (by kernel_rfl) (hval 0 3 v0 rfl rfl) h0 (zdh7 hwt (j:=0) (t:=3) rfl rfl) (Rep.none W)
 have hrun:=zdhn a0 ok0
 have hlaw:=zcbj (P:=Try.prog) Ic.gok hrun (σ:=σ0) (ws:=[x0]) rfl (fun i hi => by
  match i,hi with
  | 0,_ => exact zc9t av0
  )
 have hcalls:=zdc5 (args:=[x0]) (cargs:=#[v0]) hlaw rp0 rfl (fun i hi => by
  match i,hi with
  | 0,_ => exact rv0
  )
 refine hcalls.mono fun e W' ⟨he,hg⟩ => ?_
 subst he
 exact ⟨_,rfl,zddx laid (by kernel_rfl) hW' hg rfl (fun _ => rfl) (fun _ => rfl) fun _ => trodAll_cons_mk (shut_bool Try.underlying4 _) trodAll_mk0⟩
theorem over : Rows.hashkeyRingRow.holds Try.pinned (OpenSpec.ofChange Rows.hashkeyRingSpec) :=
 OpenClaim.holds_of_wide 4 Try.f4 rfl rfl rfl rfl rfl rfl rfl ⟨rfl,rfl,rfl,rfl,rfl⟩ rfl rfl rfl rfl rfl (by kernel_rfl) Try.func4 (by kernel_rfl)
  (of_decide_eq_true (by kernel_rfl)) (by unfold Func.isWrapper; first | (rw [if_pos (by decide +kernel)]; kernel_rfl) | (rw [if_neg (by decide +kernel)]; exact ⟨rfl,rfl⟩))
  (fun os started H enc _ => lifted os started H enc)
theorem proved : Rows.HashkeyRingSaid :=
 over
#print axioms proved
end Go.Proofs.Ytjgpklmkdkkooaa.hashkeyRing
