/- A swap as it is handed to a law. -/
import Derived.Test.YtdcfoaafkppojaaPWhenR
set_option linter.unusedSimpArgs false
set_option linter.unusedVariables false
namespace Go.Proofs.Ytdcfoaafkppojaa
open Go Go.RowKit Sh Ic
open ArgT (enc)
abbrev PartyR := Rec (ByteArray × List ByteArray × Unit)
abbrev ArcR := Rec (Int × Int × Int × ByteArray × Int × Unit)
abbrev SpecR := Rec (ByteArray × List PartyR × List ArcR × List Int × List ByteArray × Int × Int × Unit)
def partyS (p : PartyR) : ac := ⟨p.val.1,p.val.2.1⟩
def arcS (a : ArcR) : af := ⟨a.val.1,a.val.2.1,a.val.2.2.1,a.val.2.2.2.1,a.val.2.2.2.2.1⟩
def specS (x : SpecR) : aa := ⟨x.val.1,x.val.2.1.map partyS,x.val.2.2.1.map arcS,x.val.2.2.2.1,x.val.2.2.2.2.1,x.val.2.2.2.2.2.1,x.val.2.2.2.2.2.2.1⟩
theorem enc_party (p : PartyR) : enc p = (partyS p).tv := rfl
theorem enc_arc (a : ArcR) : enc a = (arcS a).tv := rfl
theorem enc_spec (x : SpecR) : enc x = (specS x).tv := by
  have h1 : x.val.2.1.map enc = (x.val.2.1.map partyS).map ac.tv := by rw [List.map_map]; rfl
  have h2 : x.val.2.2.1.map enc = (x.val.2.2.1.map arcS).map af.tv := by rw [List.map_map]; rfl
  show TV.agg [.str x.val.1,.sl (x.val.2.1.map enc),.sl (x.val.2.2.1.map enc),.sl (x.val.2.2.2.1.map enc),.sl (x.val.2.2.2.2.1.map enc),.int .i64 x.val.2.2.2.2.2.1,.int .i64 x.val.2.2.2.2.2.2.1] = _
  rw [h1,h2]
  rfl
theorem specR_wf (x : SpecR) (h : Arg.ok x) : Wf (specS x) := by
  obtain ⟨h1,h2,h3,h4,h5,h6,h7,_⟩ := (show Arg.ok x.val.1 ∧ Arg.ok x.val.2.1 ∧ Arg.ok x.val.2.2.1 ∧ Arg.ok x.val.2.2.2.1 ∧ Arg.ok x.val.2.2.2.2.1 ∧ Arg.ok x.val.2.2.2.2.2.1 ∧ Arg.ok x.val.2.2.2.2.2.2.1 ∧ True from h)
  exact ⟨fun v hv => zapz (h4.2 v hv).1 (h4.2 v hv).2,zapz h6.1 h6.2,zapz h7.1 h7.2⟩
theorem whenAll_ok (x : SpecR) (k : Int) (hx : Arg.ok x) (_ : Arg.ok k) : Lw G ny [enc x,enc k] := ⟨_,by
  rw [enc_spec]
  exact vu (specS x) k true (all6_f (specS x) (specR_wf x hx) k) ⟨[],0⟩ (Nat.le_refl _)⟩
end Go.Proofs.Ytdcfoaafkppojaa
