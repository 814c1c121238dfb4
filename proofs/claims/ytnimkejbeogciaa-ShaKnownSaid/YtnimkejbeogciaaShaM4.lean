/- A million times one byte: blocks 9375 to 12500. -/
import Derived.Test.YtnimkejbeogciaaShaM3
set_option linter.unusedSimpArgs false
set_option linter.unusedVariables false
set_option linter.unusedSectionVars false
namespace Go.Proofs.Ytnimkejbeogciaa
open Go Go.RowKit Sh Ic
set_option maxRecDepth 100000 in
theorem mil15 {β : Type} (K : Nat → Nat → Nat → Nat → Nat → Nat → Nat → Nat → β) : milF 625 (nat_lit 2229091582) (nat_lit 1247898798) (nat_lit 3129489793) (nat_lit 801003700) (nat_lit 3664384409) (nat_lit 2135943812) (nat_lit 1655664929) (nat_lit 4043692830) K = K (nat_lit 1482359619) (nat_lit 3053920332) (nat_lit 2218581276) (nat_lit 956914467) (nat_lit 3284847132) (nat_lit 1532092920) (nat_lit 4107310820) (nat_lit 2931061524) := by kernel_rfl
set_option maxRecDepth 100000 in
theorem mil16 {β : Type} (K : Nat → Nat → Nat → Nat → Nat → Nat → Nat → Nat → β) : milF 625 (nat_lit 1482359619) (nat_lit 3053920332) (nat_lit 2218581276) (nat_lit 956914467) (nat_lit 3284847132) (nat_lit 1532092920) (nat_lit 4107310820) (nat_lit 2931061524) K = K (nat_lit 2671872303) (nat_lit 3494736969) (nat_lit 250824018) (nat_lit 496096432) (nat_lit 3522633456) (nat_lit 3909563648) (nat_lit 361649023) (nat_lit 839489138) := by kernel_rfl
set_option maxRecDepth 100000 in
theorem mil17 {β : Type} (K : Nat → Nat → Nat → Nat → Nat → Nat → Nat → Nat → β) : milF 625 (nat_lit 2671872303) (nat_lit 3494736969) (nat_lit 250824018) (nat_lit 496096432) (nat_lit 3522633456) (nat_lit 3909563648) (nat_lit 361649023) (nat_lit 839489138) K = K (nat_lit 185797383) (nat_lit 1717202109) (nat_lit 1189823254) (nat_lit 219299165) (nat_lit 1089675585) (nat_lit 3146653644) (nat_lit 666783934) (nat_lit 2760782249) := by kernel_rfl
set_option maxRecDepth 100000 in
theorem mil18 {β : Type} (K : Nat → Nat → Nat → Nat → Nat → Nat → Nat → Nat → β) : milF 625 (nat_lit 185797383) (nat_lit 1717202109) (nat_lit 1189823254) (nat_lit 219299165) (nat_lit 1089675585) (nat_lit 3146653644) (nat_lit 666783934) (nat_lit 2760782249) K = K (nat_lit 3420580859) (nat_lit 3753318278) (nat_lit 2910203626) (nat_lit 3238094755) (nat_lit 2261397776) (nat_lit 2929822888) (nat_lit 3194009251) (nat_lit 2296366361) := by kernel_rfl
set_option maxRecDepth 100000 in
theorem mil19 {β : Type} (K : Nat → Nat → Nat → Nat → Nat → Nat → Nat → Nat → β) : milF 625 (nat_lit 3420580859) (nat_lit 3753318278) (nat_lit 2910203626) (nat_lit 3238094755) (nat_lit 2261397776) (nat_lit 2929822888) (nat_lit 3194009251) (nat_lit 2296366361) K = K (nat_lit 1527903575) (nat_lit 643982266) (nat_lit 137930256) (nat_lit 1901535836) (nat_lit 1469484063) (nat_lit 211280277) (nat_lit 2609170097) (nat_lit 3664365886) := by kernel_rfl
theorem upto3 {β : Type} (K : Nat → Nat → Nat → Nat → Nat → Nat → Nat → Nat → β) : milF 12500 (nat_lit 1779033703) (nat_lit 3144134277) (nat_lit 1013904242) (nat_lit 2773480762) (nat_lit 1359893119) (nat_lit 2600822924) (nat_lit 528734635) (nat_lit 1541459225) K = K (nat_lit 1527903575) (nat_lit 643982266) (nat_lit 137930256) (nat_lit 1901535836) (nat_lit 1469484063) (nat_lit 211280277) (nat_lit 2609170097) (nat_lit 3664365886) := by
  rw [show 12500 = 9375 + (625 + (625 + (625 + (625 + 625)))) from rfl,milF_add,upto2,milF_add,mil15,milF_add,mil16,milF_add,mil17,milF_add,mil18,mil19]
end Go.Proofs.Ytnimkejbeogciaa
