/- A million times one byte: blocks 3125 to 6250. -/
import Derived.Test.YtnimkejbeogciaaShaM1
set_option linter.unusedSimpArgs false
set_option linter.unusedVariables false
set_option linter.unusedSectionVars false
namespace Go.Proofs.Ytnimkejbeogciaa
open Go Go.RowKit Sh Ic
set_option maxRecDepth 100000 in
theorem mil5 {β : Type} (K : Nat → Nat → Nat → Nat → Nat → Nat → Nat → Nat → β) : milF 625 (nat_lit 316970583) (nat_lit 4221150854) (nat_lit 311357983) (nat_lit 64105143) (nat_lit 1164177717) (nat_lit 1807858894) (nat_lit 2571004778) (nat_lit 2276785209) K = K (nat_lit 3451735173) (nat_lit 1992480860) (nat_lit 4114376705) (nat_lit 4207124144) (nat_lit 1301879602) (nat_lit 2314567675) (nat_lit 2863845554) (nat_lit 413343649) := by kernel_rfl
set_option maxRecDepth 100000 in
theorem mil6 {β : Type} (K : Nat → Nat → Nat → Nat → Nat → Nat → Nat → Nat → β) : milF 625 (nat_lit 3451735173) (nat_lit 1992480860) (nat_lit 4114376705) (nat_lit 4207124144) (nat_lit 1301879602) (nat_lit 2314567675) (nat_lit 2863845554) (nat_lit 413343649) K = K (nat_lit 25303342) (nat_lit 1446205656) (nat_lit 22677385) (nat_lit 2976249951) (nat_lit 462609797) (nat_lit 3758847419) (nat_lit 1575596734) (nat_lit 4081208719) := by kernel_rfl
set_option maxRecDepth 100000 in
theorem mil7 {β : Type} (K : Nat → Nat → Nat → Nat → Nat → Nat → Nat → Nat → β) : milF 625 (nat_lit 25303342) (nat_lit 1446205656) (nat_lit 22677385) (nat_lit 2976249951) (nat_lit 462609797) (nat_lit 3758847419) (nat_lit 1575596734) (nat_lit 4081208719) K = K (nat_lit 4101075154) (nat_lit 129573525) (nat_lit 758111687) (nat_lit 2809097055) (nat_lit 2946173745) (nat_lit 4125254953) (nat_lit 3590949913) (nat_lit 2694474649) := by kernel_rfl
set_option maxRecDepth 100000 in
theorem mil8 {β : Type} (K : Nat → Nat → Nat → Nat → Nat → Nat → Nat → Nat → β) : milF 625 (nat_lit 4101075154) (nat_lit 129573525) (nat_lit 758111687) (nat_lit 2809097055) (nat_lit 2946173745) (nat_lit 4125254953) (nat_lit 3590949913) (nat_lit 2694474649) K = K (nat_lit 249274935) (nat_lit 97276911) (nat_lit 2625192275) (nat_lit 852671802) (nat_lit 2930304310) (nat_lit 3421827650) (nat_lit 450703807) (nat_lit 2891257336) := by kernel_rfl
set_option maxRecDepth 100000 in
theorem mil9 {β : Type} (K : Nat → Nat → Nat → Nat → Nat → Nat → Nat → Nat → β) : milF 625 (nat_lit 249274935) (nat_lit 97276911) (nat_lit 2625192275) (nat_lit 852671802) (nat_lit 2930304310) (nat_lit 3421827650) (nat_lit 450703807) (nat_lit 2891257336) K = K (nat_lit 3950689631) (nat_lit 1183676483) (nat_lit 523787800) (nat_lit 1079288165) (nat_lit 3531020339) (nat_lit 1967142716) (nat_lit 4113132345) (nat_lit 1750149100) := by kernel_rfl
theorem upto1 {β : Type} (K : Nat → Nat → Nat → Nat → Nat → Nat → Nat → Nat → β) : milF 6250 (nat_lit 1779033703) (nat_lit 3144134277) (nat_lit 1013904242) (nat_lit 2773480762) (nat_lit 1359893119) (nat_lit 2600822924) (nat_lit 528734635) (nat_lit 1541459225) K = K (nat_lit 3950689631) (nat_lit 1183676483) (nat_lit 523787800) (nat_lit 1079288165) (nat_lit 3531020339) (nat_lit 1967142716) (nat_lit 4113132345) (nat_lit 1750149100) := by
  rw [show 6250 = 3125 + (625 + (625 + (625 + (625 + 625)))) from rfl,milF_add,upto0,milF_add,mil5,milF_add,mil6,milF_add,mil7,milF_add,mil8,mil9]
end Go.Proofs.Ytnimkejbeogciaa
