/- The table of functions of the tree level. -/
import Derived.Test.YtnimkejbeogciaaTcT
import Derived.Test.YtnimkejbeogciaaBld
namespace Go.Proofs.Ytnimkejbeogciaa
open Go Go.RowKit Sh
namespace Ic
def gl : List (Nat × TG) := [(F_handsellaw02_OtsPieces,.code fn_handsellaw02_OtsPieces),(F_sha_Sum,.code fn_sha_Sum),(F_strings_Builder_WriteString,.code fn_strings_Builder_WriteString),(F_strings_Builder_copyCheck,.prim bldCheck),(F_strings_Builder_Len,.code fn_strings_Builder_Len),(F_strings_Builder_WriteByte,.code fn_strings_Builder_WriteByte),(F_sha_first,.code fn_sha_first),(F_sha_constants,.code fn_sha_constants),(F_strings_Builder_String,.prim bldText),(F_sha_words_mix,.code fn_sha_words_mix),(F_sha_number,.code fn_sha_number),(F_sha_right,.code fn_sha_right),(F_math_bits_RotateLeft32,.code fn_math_bits_RotateLeft32),(F_sha_Short,.code fn_sha_Short),(F_handsellaw00_Place,.code fn_handsellaw00_Place),(F_handsellaw02_awake,.code fn_handsellaw02_awake),(F_ots_Public,.code fn_ots_Public),(F_ots_isKey,.code fn_ots_isKey),(F_ots_all,.code fn_ots_all),(F_ots_Public_1,.code fn_ots_Public_1),(F_ots_Value,.code fn_ots_Value),(F_ots_Sign,.code fn_ots_Sign),(F_ots_bits,.code fn_ots_bits),(F_ots_bits_1,.code fn_ots_bits_1),(F_ots_Sign_1,.code fn_ots_Sign_1),(F_ots_Verify,.code fn_ots_Verify),(F_ots_Verify_1,.code fn_ots_Verify_1),(F_handsellaw02_OtsNone,.code fn_handsellaw02_OtsNone),(F_handselref02_Value,.code fn_handselref02_Value),(F_handselref01_Short,.code fn_handselref01_Short),(F_handselref01_Sum,.code fn_handselref01_Sum),(F_handselref01_block,.code fn_handselref01_block),(F_handselref01_table,.code fn_handselref01_table),(F_handselref01_turn,.code fn_handselref01_turn),(F_handselref02_Public,.code fn_handselref02_Public),(F_handselref02_Sign,.code fn_handselref02_Sign),(F_handselref02_bit,.code fn_handselref02_bit),(F_handselref02_Verify,.code fn_handselref02_Verify)]
def G : FuncId → Option TG := gfind gl
theorem gok : GOK Try.prog G := gok_list (gok_cons c_handsellaw02_OtsPieces (gok_cons c_sha_Sum (gok_cons c_strings_Builder_WriteString (gok_prim bldCheck_strings_Builder_copyCheck_ok (gok_cons c_strings_Builder_Len (gok_cons c_strings_Builder_WriteByte (gok_cons c_sha_first (gok_cons c_sha_constants (gok_prim bldText_strings_Builder_String_ok (gok_cons c_sha_words_mix (gok_cons c_sha_number (gok_cons c_sha_right (gok_cons c_math_bits_RotateLeft32 (gok_cons c_sha_Short (gok_cons c_handsellaw00_Place (gok_cons c_handsellaw02_awake (gok_cons c_ots_Public (gok_cons c_ots_isKey (gok_cons c_ots_all (gok_cons c_ots_Public_1 (gok_cons c_ots_Value (gok_cons c_ots_Sign (gok_cons c_ots_bits (gok_cons c_ots_bits_1 (gok_cons c_ots_Sign_1 (gok_cons c_ots_Verify (gok_cons c_ots_Verify_1 (gok_cons c_handsellaw02_OtsNone (gok_cons c_handselref02_Value (gok_cons c_handselref01_Short (gok_cons c_handselref01_Sum (gok_cons c_handselref01_block (gok_cons c_handselref01_table (gok_cons c_handselref01_turn (gok_cons c_handselref02_Public (gok_cons c_handselref02_Sign (gok_cons c_handselref02_bit (gok_cons c_handselref02_Verify gok_nil))))))))))))))))))))))))))))))))))))))
theorem g_handsellaw02_OtsPieces : G F_handsellaw02_OtsPieces = some (.code fn_handsellaw02_OtsPieces) := by kernel_rfl
theorem g_sha_Sum : G F_sha_Sum = some (.code fn_sha_Sum) := by kernel_rfl
theorem g_strings_Builder_WriteString : G F_strings_Builder_WriteString = some (.code fn_strings_Builder_WriteString) := by kernel_rfl
theorem g_strings_Builder_copyCheck : G F_strings_Builder_copyCheck = some (.prim bldCheck) := by kernel_rfl
theorem g_strings_Builder_Len : G F_strings_Builder_Len = some (.code fn_strings_Builder_Len) := by kernel_rfl
theorem g_strings_Builder_WriteByte : G F_strings_Builder_WriteByte = some (.code fn_strings_Builder_WriteByte) := by kernel_rfl
theorem g_sha_first : G F_sha_first = some (.code fn_sha_first) := by kernel_rfl
theorem g_sha_constants : G F_sha_constants = some (.code fn_sha_constants) := by kernel_rfl
theorem g_strings_Builder_String : G F_strings_Builder_String = some (.prim bldText) := by kernel_rfl
theorem g_sha_words_mix : G F_sha_words_mix = some (.code fn_sha_words_mix) := by kernel_rfl
theorem g_sha_number : G F_sha_number = some (.code fn_sha_number) := by kernel_rfl
theorem g_sha_right : G F_sha_right = some (.code fn_sha_right) := by kernel_rfl
theorem g_math_bits_RotateLeft32 : G F_math_bits_RotateLeft32 = some (.code fn_math_bits_RotateLeft32) := by kernel_rfl
theorem g_sha_Short : G F_sha_Short = some (.code fn_sha_Short) := by kernel_rfl
theorem g_handsellaw00_Place : G F_handsellaw00_Place = some (.code fn_handsellaw00_Place) := by kernel_rfl
theorem g_handsellaw02_awake : G F_handsellaw02_awake = some (.code fn_handsellaw02_awake) := by kernel_rfl
theorem g_ots_Public : G F_ots_Public = some (.code fn_ots_Public) := by kernel_rfl
theorem g_ots_isKey : G F_ots_isKey = some (.code fn_ots_isKey) := by kernel_rfl
theorem g_ots_all : G F_ots_all = some (.code fn_ots_all) := by kernel_rfl
theorem g_ots_Public_1 : G F_ots_Public_1 = some (.code fn_ots_Public_1) := by kernel_rfl
theorem g_ots_Value : G F_ots_Value = some (.code fn_ots_Value) := by kernel_rfl
theorem g_ots_Sign : G F_ots_Sign = some (.code fn_ots_Sign) := by kernel_rfl
theorem g_ots_bits : G F_ots_bits = some (.code fn_ots_bits) := by kernel_rfl
theorem g_ots_bits_1 : G F_ots_bits_1 = some (.code fn_ots_bits_1) := by kernel_rfl
theorem g_ots_Sign_1 : G F_ots_Sign_1 = some (.code fn_ots_Sign_1) := by kernel_rfl
theorem g_ots_Verify : G F_ots_Verify = some (.code fn_ots_Verify) := by kernel_rfl
theorem g_ots_Verify_1 : G F_ots_Verify_1 = some (.code fn_ots_Verify_1) := by kernel_rfl
theorem g_handsellaw02_OtsNone : G F_handsellaw02_OtsNone = some (.code fn_handsellaw02_OtsNone) := by kernel_rfl
theorem g_handselref02_Value : G F_handselref02_Value = some (.code fn_handselref02_Value) := by kernel_rfl
theorem g_handselref01_Short : G F_handselref01_Short = some (.code fn_handselref01_Short) := by kernel_rfl
theorem g_handselref01_Sum : G F_handselref01_Sum = some (.code fn_handselref01_Sum) := by kernel_rfl
theorem g_handselref01_block : G F_handselref01_block = some (.code fn_handselref01_block) := by kernel_rfl
theorem g_handselref01_table : G F_handselref01_table = some (.code fn_handselref01_table) := by kernel_rfl
theorem g_handselref01_turn : G F_handselref01_turn = some (.code fn_handselref01_turn) := by kernel_rfl
theorem g_handselref02_Public : G F_handselref02_Public = some (.code fn_handselref02_Public) := by kernel_rfl
theorem g_handselref02_Sign : G F_handselref02_Sign = some (.code fn_handselref02_Sign) := by kernel_rfl
theorem g_handselref02_bit : G F_handselref02_bit = some (.code fn_handselref02_bit) := by kernel_rfl
theorem g_handselref02_Verify : G F_handselref02_Verify = some (.code fn_handselref02_Verify) := by kernel_rfl
end Ic
end Go.Proofs.Ytnimkejbeogciaa
