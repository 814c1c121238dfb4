/- A million times one byte: blocks 12500 to 15625. -/
import Derived.Test.YtnimkejbeogciaaShaM4
set_option linter.unusedSimpArgs false
set_option linter.unusedVariables false
set_option linter.unusedSectionVars false
namespace Go.Proofs.Ytnimkejbeogciaa
open Go Go.RowKit Sh Ic
set_option maxRecDepth 100000 in
theorem mil20 {β : Type} (K : Nat → Nat → Nat → Nat → Nat → Nat → Nat → Nat → β) : milF 625 (nat_lit 1527903575) (nat_lit 643982266) (nat_lit 137930256) (nat_lit 1901535836) (nat_lit 1469484063) (nat_lit 211280277) (nat_lit 2609170097) (nat_lit 3664365886) K = K (nat_lit 1782389935) (nat_lit 2251650807) (nat_lit 681093295) (nat_lit 2649148146) (nat_lit 1901012235) (nat_lit 2437441946) (nat_lit 16189232) (nat_lit 3449983928) := by kernel_rfl
set_option maxRecDepth 100000 in
theorem mil21 {β : Type} (K : Nat → Nat → Nat → Nat → Nat → Nat → Nat → Nat → β) : milF 625 (nat_lit 1782389935) (nat_lit 2251650807) (nat_lit 681093295) (nat_lit 2649148146) (nat_lit 1901012235) (nat_lit 2437441946) (nat_lit 16189232) (nat_lit 3449983928) K = K (nat_lit 1569553612) (nat_lit 654178797) (nat_lit 3862343199) (nat_lit 1717473844) (nat_lit 141936283) (nat_lit 2363548559) (nat_lit 2018722472) (nat_lit 3397912081) := by kernel_rfl
set_option maxRecDepth 100000 in
theorem mil22 {β : Type} (K : Nat → Nat → Nat → Nat → Nat → Nat → Nat → Nat → β) : milF 625 (nat_lit 1569553612) (nat_lit 654178797) (nat_lit 3862343199) (nat_lit 1717473844) (nat_lit 141936283) (nat_lit 2363548559) (nat_lit 2018722472) (nat_lit 3397912081) K = K (nat_lit 1965015889) (nat_lit 2320629160) (nat_lit 4007832554) (nat_lit 3991684233) (nat_lit 1295030224) (nat_lit 2131979557) (nat_lit 1814944490) (nat_lit 3770481227) := by kernel_rfl
set_option maxRecDepth 100000 in
theorem mil23 {β : Type} (K : Nat → Nat → Nat → Nat → Nat → Nat → Nat → Nat → β) : milF 625 (nat_lit 1965015889) (nat_lit 2320629160) (nat_lit 4007832554) (nat_lit 3991684233) (nat_lit 1295030224) (nat_lit 2131979557) (nat_lit 1814944490) (nat_lit 3770481227) K = K (nat_lit 3286924927) (nat_lit 1855780753) (nat_lit 2608627564) (nat_lit 176370035) (nat_lit 705989294) (nat_lit 1480277143) (nat_lit 2994088020) (nat_lit 951416902) := by kernel_rfl
set_option maxRecDepth 100000 in
theorem mil24 {β : Type} (K : Nat → Nat → Nat → Nat → Nat → Nat → Nat → Nat → β) : milF 625 (nat_lit 3286924927) (nat_lit 1855780753) (nat_lit 2608627564) (nat_lit 176370035) (nat_lit 705989294) (nat_lit 1480277143) (nat_lit 2994088020) (nat_lit 951416902) K = K (nat_lit 2061136107) (nat_lit 1745259042) (nat_lit 791610055) (nat_lit 2140370626) (nat_lit 1884297759) (nat_lit 3529239238) (nat_lit 671294972) (nat_lit 693152569) := by kernel_rfl
theorem upto4 {β : Type} (K : Nat → Nat → Nat → Nat → Nat → Nat → Nat → Nat → β) : milF 15625 (nat_lit 1779033703) (nat_lit 3144134277) (nat_lit 1013904242) (nat_lit 2773480762) (nat_lit 1359893119) (nat_lit 2600822924) (nat_lit 528734635) (nat_lit 1541459225) K = K (nat_lit 2061136107) (nat_lit 1745259042) (nat_lit 791610055) (nat_lit 2140370626) (nat_lit 1884297759) (nat_lit 3529239238) (nat_lit 671294972) (nat_lit 693152569) := by
  rw [show 15625 = 12500 + (625 + (625 + (625 + (625 + 625)))) from rfl,milF_add,upto3,milF_add,mil20,milF_add,mil21,milF_add,mil22,milF_add,mil23,mil24]
end Go.Proofs.Ytnimkejbeogciaa
