import Derived.Test.YtgkkienmocpnbaaRows
import Derived.WalkKit
import Derived.ProofKit
import Derived.OpenShut
import Derived.SizedLaws
import Derived.Test.YtgkkienmocpnbaaM22
import Derived.Test.YtgkkienmocpnbaaM13
set_option linter.unusedVariables false
set_option linter.unusedSimpArgs false
/- 'Rows.WalFormsSaid': whatever the arguments, the law's function returns true; what it was handed reads as it did. -/
namespace Go.Proofs.Ytgkkienmocpnbaa.walForms
open Go.ChangeShapes Go.WideShapes Go.ChangeAt Go.RowKit Go.Proofs.Ytgkkienmocpnbaa.Sh
theorem own:ownKnob Try.prog.godebug = none:=by kernel_rfl
theorem laid:laidOutB Try.prog = true:=by kernel_rfl
set_option maxRecDepth 100000 in
theorem lifted (os:Os) (started:os.Started) (H:Type) (enc:TypeId × Value → H) :
 ReturnsInHanded {} Try.checked os 5 .any (Rows.walFormsSpec.pre6 enc Try.prog Try.f5 Rows.walFormsRow.domain false) (Rows.walFormsSpec.post enc Try.prog Try.f5 false true false false):=by
 refine returnsInHanded_of_change_sized (C:=Try.checked) own started (by kernel_rfl) Try.func5
  (ChangeSpec.witness6 (enc:=enc) (C:=Try.checked) false ⟨#[],#[.string ⟨#[]⟩,.int .i64 0,.int .i64 0],[]⟩ 8 (by kernel_rfl) (by kernel_rfl) (by kernel_rfl) (by kernel_rfl)) ?_
 intro W base args ds gs before hval0 hW hcnd hwt _
 have hval:∀ (j:Nat) t v,Try.f5.params[j]? = some t → args[j]? = some v → Value.okWide Try.prog W .any base t v:=hval0
 have hW':=hW
 obtain ⟨p,q,hA0,hV,rfl,hfz,hnd⟩:=hW
 have hA:DataW.TrodAll enc Try.prog W 0 (fun _ => true) true Try.f5.params.toList args.toList ds p:=hA0
 rw [Try.params5] at hA hval
 obtain ⟨v0,vs0,d0,ds0,p0,q0,hargs,rfl,rfl,h0,r0⟩:=trodAll_cons hA
 obtain ⟨v1,vs1,d1,ds1,p1,q1,rfl,rfl,rfl,h1,r1⟩:=trodAll_cons r0
 obtain ⟨v2,vs2,d2,ds2,p2,q2,rfl,rfl,rfl,h2,r2⟩:=trodAll_cons r1
 obtain ⟨rfl,rfl,rfl⟩:=trodAll_nil r2
 obtain rfl:args = #[v0,v1,v2]:=by cases args; simp_all
 obtain ⟨a0,x0,σ0,m0,le0,ml0,rp0,rv0,av0,ok0⟩:=zbnr (α:=ByteArray) (P:=Try.prog) (by kernel_rfl) (hval 0 9 v0 rfl rfl) h0 (uu hwt (j:=0) (t:=9) rfl rfl) (Rep.none W)
 obtain ⟨a1,x1,σ1,m1,le1,ml1,rp1,rv1,av1,ok1⟩:=zbnr (α:=Int) (P:=Try.prog) (by kernel_rfl) (hval 1 3 v1 rfl rfl) h1 (uu hwt (j:=1) (t:=3) rfl rfl) rp0
 obtain ⟨a2,x2,σ2,m2,le2,ml2,rp2,rv2,av2,ok2⟩:=zbnr (α:=Int) (P:=Try.prog) (by kernel_rfl) (hval 2 3 v2 rfl rfl) h2 (uu hwt (j:=2) (t:=3) rfl rfl) rp1
 have hrun:=zcfg a0 a1 a2 ok0 ok1 ok2
 have hlaw:=zbkj (P:=Try.prog) Ic.gok hrun (σ:=σ2) (ws:=[x0,x1,x2]) rfl (fun i hi => by
  match i,hi with
  | 0,_ => exact zbom (av0.mono (le1.trans le2))
  | 1,_ => exact zbom (av1.mono le2)
  | 2,_ => exact zbom av2
  )
 have hcalls:=zcar (args:=[x0,x1,x2]) (cargs:=#[v0,v1,v2]) hlaw rp2 rfl (fun i hi => by
  match i,hi with
  | 0,_ => exact (rv0.mono (ml1.trans ml2))
  | 1,_ => exact (rv1.mono ml2)
  | 2,_ => exact rv2
  )
 refine hcalls.mono fun e W' ⟨he,hg⟩ => ?_
 subst he
 exact ⟨_,rfl,zcd3 laid (by kernel_rfl) hW' hg rfl (fun _ => rfl) (fun _ => rfl) fun _ => trodAll_cons_mk (shut_bool Try.underlying4 _) trodAll_mk0⟩
theorem over:Rows.walFormsRow.holds Try.pinned (OpenSpec.ofChange Rows.walFormsSpec) :=
 OpenClaim.holds_of_wide 5 Try.f5 rfl rfl rfl rfl rfl rfl rfl ⟨rfl,rfl,rfl,rfl,rfl⟩ rfl rfl rfl rfl rfl (by kernel_rfl) Try.func5 (by kernel_rfl)
  (of_decide_eq_true (by kernel_rfl)) (by unfold Func.isWrapper; first | (rw [if_pos (by decide +kernel)]; kernel_rfl) | (rw [if_neg (by decide +kernel)]; exact ⟨rfl,rfl⟩))
  (fun os started H enc _ => lifted os started H enc)
theorem proved:Rows.WalFormsSaid :=
 over
#print axioms proved
end Go.Proofs.Ytgkkienmocpnbaa.walForms
