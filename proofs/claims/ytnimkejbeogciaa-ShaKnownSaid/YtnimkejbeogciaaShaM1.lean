/- A million times one byte: blocks 0 to 3125. -/
import Derived.Test.YtnimkejbeogciaaShaM
set_option linter.unusedSimpArgs false
set_option linter.unusedVariables false
set_option linter.unusedSectionVars false
namespace Go.Proofs.Ytnimkejbeogciaa
open Go Go.RowKit Sh Ic
set_option maxRecDepth 100000 in
theorem mil0 {β : Type} (K : Nat → Nat → Nat → Nat → Nat → Nat → Nat → Nat → β) : milF 625 (nat_lit 1779033703) (nat_lit 3144134277) (nat_lit 1013904242) (nat_lit 2773480762) (nat_lit 1359893119) (nat_lit 2600822924) (nat_lit 528734635) (nat_lit 1541459225) K = K (nat_lit 2980184124) (nat_lit 4055252723) (nat_lit 380558326) (nat_lit 3848951136) (nat_lit 619917395) (nat_lit 3724953604) (nat_lit 1241085446) (nat_lit 2795455954) := by kernel_rfl
set_option maxRecDepth 100000 in
theorem mil1 {β : Type} (K : Nat → Nat → Nat → Nat → Nat → Nat → Nat → Nat → β) : milF 625 (nat_lit 2980184124) (nat_lit 4055252723) (nat_lit 380558326) (nat_lit 3848951136) (nat_lit 619917395) (nat_lit 3724953604) (nat_lit 1241085446) (nat_lit 2795455954) K = K (nat_lit 3480499010) (nat_lit 1333227246) (nat_lit 884393318) (nat_lit 2192927904) (nat_lit 2339805852) (nat_lit 2416519719) (nat_lit 2298295811) (nat_lit 2434603153) := by kernel_rfl
set_option maxRecDepth 100000 in
theorem mil2 {β : Type} (K : Nat → Nat → Nat → Nat → Nat → Nat → Nat → Nat → β) : milF 625 (nat_lit 3480499010) (nat_lit 1333227246) (nat_lit 884393318) (nat_lit 2192927904) (nat_lit 2339805852) (nat_lit 2416519719) (nat_lit 2298295811) (nat_lit 2434603153) K = K (nat_lit 3817410241) (nat_lit 129848790) (nat_lit 4156440462) (nat_lit 740622841) (nat_lit 449295930) (nat_lit 2859383890) (nat_lit 2573751462) (nat_lit 4092511495) := by kernel_rfl
set_option maxRecDepth 100000 in
theorem mil3 {β : Type} (K : Nat → Nat → Nat → Nat → Nat → Nat → Nat → Nat → β) : milF 625 (nat_lit 3817410241) (nat_lit 129848790) (nat_lit 4156440462) (nat_lit 740622841) (nat_lit 449295930) (nat_lit 2859383890) (nat_lit 2573751462) (nat_lit 4092511495) K = K (nat_lit 2480449054) (nat_lit 887052842) (nat_lit 3735950646) (nat_lit 2529967085) (nat_lit 2552717231) (nat_lit 2132796822) (nat_lit 2247734032) (nat_lit 1574115203) := by kernel_rfl
set_option maxRecDepth 100000 in
theorem mil4 {β : Type} (K : Nat → Nat → Nat → Nat → Nat → Nat → Nat → Nat → β) : milF 625 (nat_lit 2480449054) (nat_lit 887052842) (nat_lit 3735950646) (nat_lit 2529967085) (nat_lit 2552717231) (nat_lit 2132796822) (nat_lit 2247734032) (nat_lit 1574115203) K = K (nat_lit 316970583) (nat_lit 4221150854) (nat_lit 311357983) (nat_lit 64105143) (nat_lit 1164177717) (nat_lit 1807858894) (nat_lit 2571004778) (nat_lit 2276785209) := by kernel_rfl
theorem upto0 {β : Type} (K : Nat → Nat → Nat → Nat → Nat → Nat → Nat → Nat → β) : milF 3125 (nat_lit 1779033703) (nat_lit 3144134277) (nat_lit 1013904242) (nat_lit 2773480762) (nat_lit 1359893119) (nat_lit 2600822924) (nat_lit 528734635) (nat_lit 1541459225) K = K (nat_lit 316970583) (nat_lit 4221150854) (nat_lit 311357983) (nat_lit 64105143) (nat_lit 1164177717) (nat_lit 1807858894) (nat_lit 2571004778) (nat_lit 2276785209) := by
  rw [show 3125 = 625 + (625 + (625 + (625 + 625))) from rfl,milF_add,mil0,milF_add,mil1,milF_add,mil2,milF_add,mil3,mil4]
end Go.Proofs.Ytnimkejbeogciaa
