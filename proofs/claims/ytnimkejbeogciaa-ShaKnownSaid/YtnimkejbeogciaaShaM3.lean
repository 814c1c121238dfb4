/- A million times one byte: blocks 6250 to 9375. -/
import Derived.Test.YtnimkejbeogciaaShaM2
set_option linter.unusedSimpArgs false
set_option linter.unusedVariables false
set_option linter.unusedSectionVars false
namespace Go.Proofs.Ytnimkejbeogciaa
open Go Go.RowKit Sh Ic
set_option maxRecDepth 100000 in
theorem mil10 {β : Type} (K : Nat → Nat → Nat → Nat → Nat → Nat → Nat → Nat → β) : milF 625 (nat_lit 3950689631) (nat_lit 1183676483) (nat_lit 523787800) (nat_lit 1079288165) (nat_lit 3531020339) (nat_lit 1967142716) (nat_lit 4113132345) (nat_lit 1750149100) K = K (nat_lit 92662511) (nat_lit 2039292810) (nat_lit 2812368728) (nat_lit 1398842276) (nat_lit 369889284) (nat_lit 3416214735) (nat_lit 196742846) (nat_lit 4050250501) := by kernel_rfl
set_option maxRecDepth 100000 in
theorem mil11 {β : Type} (K : Nat → Nat → Nat → Nat → Nat → Nat → Nat → Nat → β) : milF 625 (nat_lit 92662511) (nat_lit 2039292810) (nat_lit 2812368728) (nat_lit 1398842276) (nat_lit 369889284) (nat_lit 3416214735) (nat_lit 196742846) (nat_lit 4050250501) K = K (nat_lit 3644021289) (nat_lit 3318186913) (nat_lit 3635780383) (nat_lit 3250820814) (nat_lit 1352957489) (nat_lit 568761720) (nat_lit 3897415568) (nat_lit 2084911344) := by kernel_rfl
set_option maxRecDepth 100000 in
theorem mil12 {β : Type} (K : Nat → Nat → Nat → Nat → Nat → Nat → Nat → Nat → β) : milF 625 (nat_lit 3644021289) (nat_lit 3318186913) (nat_lit 3635780383) (nat_lit 3250820814) (nat_lit 1352957489) (nat_lit 568761720) (nat_lit 3897415568) (nat_lit 2084911344) K = K (nat_lit 2770629724) (nat_lit 3718244748) (nat_lit 1426248302) (nat_lit 1485112788) (nat_lit 2393428728) (nat_lit 2730147097) (nat_lit 2068496129) (nat_lit 955849718) := by kernel_rfl
set_option maxRecDepth 100000 in
theorem mil13 {β : Type} (K : Nat → Nat → Nat → Nat → Nat → Nat → Nat → Nat → β) : milF 625 (nat_lit 2770629724) (nat_lit 3718244748) (nat_lit 1426248302) (nat_lit 1485112788) (nat_lit 2393428728) (nat_lit 2730147097) (nat_lit 2068496129) (nat_lit 955849718) K = K (nat_lit 1991337870) (nat_lit 2309255265) (nat_lit 3993853711) (nat_lit 1510319335) (nat_lit 975131125) (nat_lit 1966570908) (nat_lit 2691746226) (nat_lit 549922638) := by kernel_rfl
set_option maxRecDepth 100000 in
theorem mil14 {β : Type} (K : Nat → Nat → Nat → Nat → Nat → Nat → Nat → Nat → β) : milF 625 (nat_lit 1991337870) (nat_lit 2309255265) (nat_lit 3993853711) (nat_lit 1510319335) (nat_lit 975131125) (nat_lit 1966570908) (nat_lit 2691746226) (nat_lit 549922638) K = K (nat_lit 2229091582) (nat_lit 1247898798) (nat_lit 3129489793) (nat_lit 801003700) (nat_lit 3664384409) (nat_lit 2135943812) (nat_lit 1655664929) (nat_lit 4043692830) := by kernel_rfl
theorem upto2 {β : Type} (K : Nat → Nat → Nat → Nat → Nat → Nat → Nat → Nat → β) : milF 9375 (nat_lit 1779033703) (nat_lit 3144134277) (nat_lit 1013904242) (nat_lit 2773480762) (nat_lit 1359893119) (nat_lit 2600822924) (nat_lit 528734635) (nat_lit 1541459225) K = K (nat_lit 2229091582) (nat_lit 1247898798) (nat_lit 3129489793) (nat_lit 801003700) (nat_lit 3664384409) (nat_lit 2135943812) (nat_lit 1655664929) (nat_lit 4043692830) := by
  rw [show 9375 = 6250 + (625 + (625 + (625 + (625 + 625)))) from rfl,milF_add,upto1,milF_add,mil10,milF_add,mil11,milF_add,mil12,milF_add,mil13,mil14]
end Go.Proofs.Ytnimkejbeogciaa
