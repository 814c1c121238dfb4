/- The table of functions of the tree level. -/
import Derived.Test.YtdcfoaafkppojaaTcT
import Derived.Test.YtdcfoaafkppojaaOnce
namespace Go.Proofs.Ytdcfoaafkppojaa
open Go Go.RowKit Sh
namespace Ic
def gl : List (Nat × TG) := [(F_handsellaw06_WhenSteps,.code fn_handsellaw06_WhenSteps),(F_handsellaw06_awake,.code fn_handsellaw06_awake),(F_when_Deadline,.code fn_when_Deadline),(F_when_of,.code fn_when_of),(F_spec_Check,.code fn_spec_Check),(F_spec_name,.code fn_spec_name),(F_spec_in,.code fn_spec_in),(F_spec_sized,.code fn_spec_sized),(F_slices_ContainsFunc_string_string,.code fn_slices_ContainsFunc_string_string),(F_slices_IndexFunc_string_string,.code fn_slices_IndexFunc_string_string),(F_spec_sized_1,.code fn_spec_sized_1),(F_spec_arc,.code fn_spec_arc),(F_spec_Check_1,.code fn_spec_Check_1),(F_spec_once_string,.prim onceS),(F_spec_once_2_int,.prim onceA),(F_spec_once_int,.prim onceI),(F_slices_ContainsFunc_int_int,.code fn_slices_ContainsFunc_int_int),(F_slices_IndexFunc_int_int,.code fn_slices_IndexFunc_int_int),(F_when_times_at,.code fn_when_times_at),(F_when_Last,.code fn_when_Last),(F_when_End,.code fn_when_End),(F_when_Table,.code fn_when_Table),(F_handsellaw00_Ring,.code fn_handsellaw00_Ring),(F_handsellaw00_arcs,.code fn_handsellaw00_arcs),(F_handsellaw00_Account,.code fn_handsellaw00_Account),(F_handsellaw00_Digits,.code fn_handsellaw00_Digits),(F_handsellaw00_keyed,.code fn_handsellaw00_keyed),(F_handselref01_Sum,.code fn_handselref01_Sum),(F_handselref01_block,.code fn_handselref01_block),(F_handselref01_table,.code fn_handselref01_table),(F_handselref01_turn,.code fn_handselref01_turn),(F_handsellaw00_Secret,.code fn_handsellaw00_Secret),(F_handselref02_Public,.code fn_handselref02_Public),(F_handselref01_Short,.code fn_handselref01_Short),(F_handselref02_Value,.code fn_handselref02_Value),(F_handsellaw00_Seed,.code fn_handsellaw00_Seed),(F_handsellaw00_Place,.code fn_handsellaw00_Place),(F_handsellaw06_WhenNone,.code fn_handsellaw06_WhenNone)]
def G : FuncId → Option TG := gfind gl
theorem gok : GOK Try.prog G := gok_list (gok_cons c_handsellaw06_WhenSteps (gok_cons c_handsellaw06_awake (gok_cons c_when_Deadline (gok_cons c_when_of (gok_cons c_spec_Check (gok_cons c_spec_name (gok_cons c_spec_in (gok_cons c_spec_sized (gok_cons c_slices_ContainsFunc_string_string (gok_cons c_slices_IndexFunc_string_string (gok_cons c_spec_sized_1 (gok_cons c_spec_arc (gok_cons c_spec_Check_1 (gok_prim onceS_spec_once_string_ok (gok_prim onceA_spec_once_2_int_ok (gok_prim onceI_spec_once_int_ok (gok_cons c_slices_ContainsFunc_int_int (gok_cons c_slices_IndexFunc_int_int (gok_cons c_when_times_at (gok_cons c_when_Last (gok_cons c_when_End (gok_cons c_when_Table (gok_cons c_handsellaw00_Ring (gok_cons c_handsellaw00_arcs (gok_cons c_handsellaw00_Account (gok_cons c_handsellaw00_Digits (gok_cons c_handsellaw00_keyed (gok_cons c_handselref01_Sum (gok_cons c_handselref01_block (gok_cons c_handselref01_table (gok_cons c_handselref01_turn (gok_cons c_handsellaw00_Secret (gok_cons c_handselref02_Public (gok_cons c_handselref01_Short (gok_cons c_handselref02_Value (gok_cons c_handsellaw00_Seed (gok_cons c_handsellaw00_Place (gok_cons c_handsellaw06_WhenNone gok_nil))))))))))))))))))))))))))))))))))))))
theorem g_handsellaw06_WhenSteps : G F_handsellaw06_WhenSteps = some (.code fn_handsellaw06_WhenSteps) := by kernel_rfl
theorem g_handsellaw06_awake : G F_handsellaw06_awake = some (.code fn_handsellaw06_awake) := by kernel_rfl
theorem g_when_Deadline : G F_when_Deadline = some (.code fn_when_Deadline) := by kernel_rfl
theorem g_when_of : G F_when_of = some (.code fn_when_of) := by kernel_rfl
theorem g_spec_Check : G F_spec_Check = some (.code fn_spec_Check) := by kernel_rfl
theorem g_spec_name : G F_spec_name = some (.code fn_spec_name) := by kernel_rfl
theorem g_spec_in : G F_spec_in = some (.code fn_spec_in) := by kernel_rfl
theorem g_spec_sized : G F_spec_sized = some (.code fn_spec_sized) := by kernel_rfl
theorem g_slices_ContainsFunc_string_string : G F_slices_ContainsFunc_string_string = some (.code fn_slices_ContainsFunc_string_string) := by kernel_rfl
theorem g_slices_IndexFunc_string_string : G F_slices_IndexFunc_string_string = some (.code fn_slices_IndexFunc_string_string) := by kernel_rfl
theorem g_spec_sized_1 : G F_spec_sized_1 = some (.code fn_spec_sized_1) := by kernel_rfl
theorem g_spec_arc : G F_spec_arc = some (.code fn_spec_arc) := by kernel_rfl
theorem g_spec_Check_1 : G F_spec_Check_1 = some (.code fn_spec_Check_1) := by kernel_rfl
theorem g_spec_once_string : G F_spec_once_string = some (.prim onceS) := by kernel_rfl
theorem g_spec_once_2_int : G F_spec_once_2_int = some (.prim onceA) := by kernel_rfl
theorem g_spec_once_int : G F_spec_once_int = some (.prim onceI) := by kernel_rfl
theorem g_slices_ContainsFunc_int_int : G F_slices_ContainsFunc_int_int = some (.code fn_slices_ContainsFunc_int_int) := by kernel_rfl
theorem g_slices_IndexFunc_int_int : G F_slices_IndexFunc_int_int = some (.code fn_slices_IndexFunc_int_int) := by kernel_rfl
theorem g_when_times_at : G F_when_times_at = some (.code fn_when_times_at) := by kernel_rfl
theorem g_when_Last : G F_when_Last = some (.code fn_when_Last) := by kernel_rfl
theorem g_when_End : G F_when_End = some (.code fn_when_End) := by kernel_rfl
theorem g_when_Table : G F_when_Table = some (.code fn_when_Table) := by kernel_rfl
theorem g_handsellaw00_Ring : G F_handsellaw00_Ring = some (.code fn_handsellaw00_Ring) := by kernel_rfl
theorem g_handsellaw00_arcs : G F_handsellaw00_arcs = some (.code fn_handsellaw00_arcs) := by kernel_rfl
theorem g_handsellaw00_Account : G F_handsellaw00_Account = some (.code fn_handsellaw00_Account) := by kernel_rfl
theorem g_handsellaw00_Digits : G F_handsellaw00_Digits = some (.code fn_handsellaw00_Digits) := by kernel_rfl
theorem g_handsellaw00_keyed : G F_handsellaw00_keyed = some (.code fn_handsellaw00_keyed) := by kernel_rfl
theorem g_handselref01_Sum : G F_handselref01_Sum = some (.code fn_handselref01_Sum) := by kernel_rfl
theorem g_handselref01_block : G F_handselref01_block = some (.code fn_handselref01_block) := by kernel_rfl
theorem g_handselref01_table : G F_handselref01_table = some (.code fn_handselref01_table) := by kernel_rfl
theorem g_handselref01_turn : G F_handselref01_turn = some (.code fn_handselref01_turn) := by kernel_rfl
theorem g_handsellaw00_Secret : G F_handsellaw00_Secret = some (.code fn_handsellaw00_Secret) := by kernel_rfl
theorem g_handselref02_Public : G F_handselref02_Public = some (.code fn_handselref02_Public) := by kernel_rfl
theorem g_handselref01_Short : G F_handselref01_Short = some (.code fn_handselref01_Short) := by kernel_rfl
theorem g_handselref02_Value : G F_handselref02_Value = some (.code fn_handselref02_Value) := by kernel_rfl
theorem g_handsellaw00_Seed : G F_handsellaw00_Seed = some (.code fn_handsellaw00_Seed) := by kernel_rfl
theorem g_handsellaw00_Place : G F_handsellaw00_Place = some (.code fn_handsellaw00_Place) := by kernel_rfl
theorem g_handsellaw06_WhenNone : G F_handsellaw06_WhenNone = some (.code fn_handsellaw06_WhenNone) := by kernel_rfl
end Ic
end Go.Proofs.Ytdcfoaafkppojaa
