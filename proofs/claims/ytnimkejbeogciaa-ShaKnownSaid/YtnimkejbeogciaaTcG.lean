/- The table of functions of the tree level. -/
import Derived.Test.YtnimkejbeogciaaTcT
import Derived.Test.YtnimkejbeogciaaBld
namespace Go.Proofs.Ytnimkejbeogciaa
open Go Go.RowKit Sh
namespace Ic
def gl : List (Nat × TG) := [(F_handsellaw01_ShaAll,.code fn_handsellaw01_ShaAll),(F_handsellaw01_awake,.code fn_handsellaw01_awake),(F_sha_Sum,.code fn_sha_Sum),(F_strings_Builder_WriteString,.code fn_strings_Builder_WriteString),(F_strings_Builder_copyCheck,.prim bldCheck),(F_strings_Builder_Len,.code fn_strings_Builder_Len),(F_strings_Builder_WriteByte,.code fn_strings_Builder_WriteByte),(F_sha_first,.code fn_sha_first),(F_sha_constants,.code fn_sha_constants),(F_strings_Builder_String,.prim bldText),(F_sha_words_mix,.code fn_sha_words_mix),(F_sha_number,.code fn_sha_number),(F_sha_right,.code fn_sha_right),(F_math_bits_RotateLeft32,.code fn_math_bits_RotateLeft32),(F_sha_Short,.code fn_sha_Short),(F_sha_Hex,.code fn_sha_Hex),(F_handselref01_Sum,.code fn_handselref01_Sum),(F_handselref01_block,.code fn_handselref01_block),(F_handselref01_table,.code fn_handselref01_table),(F_handselref01_turn,.code fn_handselref01_turn),(F_handselref01_Hex,.code fn_handselref01_Hex),(F_handsellaw01_ShaKnown,.code fn_handsellaw01_ShaKnown),(F_handsellaw00_Place,.code fn_handsellaw00_Place),(F_handsellaw01_ShaLengths,.code fn_handsellaw01_ShaLengths),(F_handsellaw01_ShaTexts,.code fn_handsellaw01_ShaTexts)]
def G : FuncId → Option TG := gfind gl
theorem gok : GOK Try.prog G := gok_list (gok_cons c_handsellaw01_ShaAll (gok_cons c_handsellaw01_awake (gok_cons c_sha_Sum (gok_cons c_strings_Builder_WriteString (gok_prim bldCheck_strings_Builder_copyCheck_ok (gok_cons c_strings_Builder_Len (gok_cons c_strings_Builder_WriteByte (gok_cons c_sha_first (gok_cons c_sha_constants (gok_prim bldText_strings_Builder_String_ok (gok_cons c_sha_words_mix (gok_cons c_sha_number (gok_cons c_sha_right (gok_cons c_math_bits_RotateLeft32 (gok_cons c_sha_Short (gok_cons c_sha_Hex (gok_cons c_handselref01_Sum (gok_cons c_handselref01_block (gok_cons c_handselref01_table (gok_cons c_handselref01_turn (gok_cons c_handselref01_Hex (gok_cons c_handsellaw01_ShaKnown (gok_cons c_handsellaw00_Place (gok_cons c_handsellaw01_ShaLengths (gok_cons c_handsellaw01_ShaTexts gok_nil)))))))))))))))))))))))))
theorem g_handsellaw01_ShaAll : G F_handsellaw01_ShaAll = some (.code fn_handsellaw01_ShaAll) := by kernel_rfl
theorem g_handsellaw01_awake : G F_handsellaw01_awake = some (.code fn_handsellaw01_awake) := by kernel_rfl
theorem g_sha_Sum : G F_sha_Sum = some (.code fn_sha_Sum) := by kernel_rfl
theorem g_strings_Builder_WriteString : G F_strings_Builder_WriteString = some (.code fn_strings_Builder_WriteString) := by kernel_rfl
theorem g_strings_Builder_copyCheck : G F_strings_Builder_copyCheck = some (.prim bldCheck) := by kernel_rfl
theorem g_strings_Builder_Len : G F_strings_Builder_Len = some (.code fn_strings_Builder_Len) := by kernel_rfl
theorem g_strings_Builder_WriteByte : G F_strings_Builder_WriteByte = some (.code fn_strings_Builder_WriteByte) := by kernel_rfl
theorem g_sha_first : G F_sha_first = some (.code fn_sha_first) := by kernel_rfl
theorem g_sha_constants : G F_sha_constants = some (.code fn_sha_constants) := by kernel_rfl
theorem g_strings_Builder_String : G F_strings_Builder_String = some (.prim bldText) := by kernel_rfl
theorem g_sha_words_mix : G F_sha_words_mix = some (.code fn_sha_words_mix) := by kernel_rfl
theorem g_sha_number : G F_sha_number = some (.code fn_sha_number) := by kernel_rfl
theorem g_sha_right : G F_sha_right = some (.code fn_sha_right) := by kernel_rfl
theorem g_math_bits_RotateLeft32 : G F_math_bits_RotateLeft32 = some (.code fn_math_bits_RotateLeft32) := by kernel_rfl
theorem g_sha_Short : G F_sha_Short = some (.code fn_sha_Short) := by kernel_rfl
theorem g_sha_Hex : G F_sha_Hex = some (.code fn_sha_Hex) := by kernel_rfl
theorem g_handselref01_Sum : G F_handselref01_Sum = some (.code fn_handselref01_Sum) := by kernel_rfl
theorem g_handselref01_block : G F_handselref01_block = some (.code fn_handselref01_block) := by kernel_rfl
theorem g_handselref01_table : G F_handselref01_table = some (.code fn_handselref01_table) := by kernel_rfl
theorem g_handselref01_turn : G F_handselref01_turn = some (.code fn_handselref01_turn) := by kernel_rfl
theorem g_handselref01_Hex : G F_handselref01_Hex = some (.code fn_handselref01_Hex) := by kernel_rfl
theorem g_handsellaw01_ShaKnown : G F_handsellaw01_ShaKnown = some (.code fn_handsellaw01_ShaKnown) := by kernel_rfl
theorem g_handsellaw00_Place : G F_handsellaw00_Place = some (.code fn_handsellaw00_Place) := by kernel_rfl
theorem g_handsellaw01_ShaLengths : G F_handsellaw01_ShaLengths = some (.code fn_handsellaw01_ShaLengths) := by kernel_rfl
theorem g_handsellaw01_ShaTexts : G F_handsellaw01_ShaTexts = some (.code fn_handsellaw01_ShaTexts) := by kernel_rfl
end Ic
end Go.Proofs.Ytnimkejbeogciaa
