/- The code of functions for the tree level, printed by a program out of the model's own print; the kernel checks each. -/
import Derived.Test.YtnimkejbeogciaaProg
import Derived.Test.YtnimkejbeogciaaTv9
import Derived.KernelRfl
set_option linter.unusedVariables false
namespace Go.Proofs.Ytnimkejbeogciaa
open Go Go.RowKit Sh
namespace Ic
abbrev t (n : Nat) : Operand := .tmp n
abbrev ci (n : Int) : Operand := .const (.int .i64 n)
abbrev F_handsellaw01_ShaAll : Nat := 3
abbrev F_handsellaw01_ShaKnown : Nat := 4
abbrev F_handsellaw01_ShaLengths : Nat := 5
abbrev F_handsellaw01_ShaTexts : Nat := 6
abbrev F_handsellaw01_awake : Nat := 15
abbrev F_sha_Sum : Nat := 16
abbrev F_handselref01_Sum : Nat := 17
abbrev F_sha_Short : Nat := 18
abbrev F_sha_Hex : Nat := 19
abbrev F_handselref01_Hex : Nat := 20
abbrev F_handsellaw00_Place : Nat := 21
abbrev F_strings_Builder_WriteString : Nat := 38
abbrev F_strings_Builder_Len : Nat := 39
abbrev F_strings_Builder_WriteByte : Nat := 40
abbrev F_sha_first : Nat := 41
abbrev F_sha_constants : Nat := 42
abbrev F_strings_Builder_String : Nat := 43
abbrev F_sha_words_mix : Nat := 44
abbrev F_handselref01_block : Nat := 45
abbrev F_strings_Builder_copyCheck : Nat := 59
abbrev F_sha_number : Nat := 60
abbrev F_sha_right : Nat := 61
abbrev F_handselref01_table : Nat := 62
abbrev F_handselref01_turn : Nat := 63
abbrev F_internal_abi_NoEscape : Nat := 73
abbrev F_math_bits_RotateLeft32 : Nat := 74
abbrev T_uint8 : Nat := 5
abbrev T_strings_Builder : Nat := 50
abbrev T_8_uint32 : Nat := 58
abbrev T_sha_words : Nat := 59
abbrev T_64_uint32 : Nat := 61
def o_handsellaw01_ShaAll_0 : List TIns := [⟨⟨(some 2),.mov (.const (Go.Value.bool false)),none⟩,0⟩]
def o_handsellaw01_ShaAll_1 : List TIns := [⟨⟨(some 4),.mov (t 0),none⟩,0⟩,
  ⟨⟨(some 5),.lenS (t 4),none⟩,0⟩,
  ⟨⟨(some 6),.bin .gtr (t 5) (ci 3000),none⟩,0⟩]
def o_handsellaw01_ShaAll_2 : List TIns := [⟨⟨(some 7),.call F_handsellaw01_awake [],none⟩,0⟩,
  ⟨⟨(some 2),.mov (t 7),none⟩,0⟩]
def o_handsellaw01_ShaAll_3 : List TIns := [⟨⟨(some 8),.mov (t 0),none⟩,0⟩,
  ⟨⟨(some 9),.call F_sha_Sum [(t 8)],none⟩,0⟩,
  ⟨⟨(some 3),.mov (t 9),none⟩,0⟩]
def o_handsellaw01_ShaAll_4 : List TIns := [⟨⟨(some 10),.mov (t 3),none⟩,0⟩,
  ⟨⟨(some 11),.mov (t 0),none⟩,0⟩,
  ⟨⟨(some 12),.call F_handselref01_Sum [(t 11)],none⟩,0⟩,
  ⟨⟨(some 13),.bin .eql (t 10) (t 12),none⟩,0⟩,
  ⟨⟨(some 14),.mov (t 13),none⟩,0⟩,
  ⟨⟨(some 15),.mov (t 3),(some (14,true))⟩,0⟩,
  ⟨⟨(some 16),.lenS (t 15),(some (14,true))⟩,0⟩,
  ⟨⟨(some 17),.bin .eql (t 16) (ci 32),(some (14,true))⟩,0⟩,
  ⟨⟨(some 18),.pick (t 14) (t 17) (.const (Go.Value.bool false)),none⟩,0⟩,
  ⟨⟨(some 19),.mov (t 18),none⟩,0⟩,
  ⟨⟨(some 20),.mov (t 0),(some (19,true))⟩,0⟩,
  ⟨⟨(some 22),.mov (t 3),(some (19,true))⟩,0⟩,
  ⟨⟨(some 23),.sliceStr (t 22) none (some (ci 16)),(some (19,true))⟩,0⟩,
  ⟨⟨(some 21),.call F_sha_Short [(t 20)],(some (19,true))⟩,0⟩,
  ⟨⟨(some 24),.bin .eql (t 21) (t 23),(some (19,true))⟩,0⟩,
  ⟨⟨(some 25),.pick (t 19) (t 24) (.const (Go.Value.bool false)),none⟩,0⟩,
  ⟨⟨(some 26),.mov (t 25),none⟩,0⟩,
  ⟨⟨(some 27),.mov (t 0),(some (26,true))⟩,0⟩,
  ⟨⟨(some 29),.mov (t 0),(some (26,true))⟩,0⟩,
  ⟨⟨(some 28),.call F_sha_Hex [(t 27)],(some (26,true))⟩,0⟩,
  ⟨⟨(some 30),.call F_handselref01_Hex [(t 29)],(some (26,true))⟩,0⟩,
  ⟨⟨(some 31),.bin .eql (t 28) (t 30),(some (26,true))⟩,0⟩,
  ⟨⟨(some 32),.pick (t 26) (t 31) (.const (Go.Value.bool false)),none⟩,0⟩,
  ⟨⟨(some 33),.mov (t 32),none⟩,0⟩,
  ⟨⟨(some 34),.call F_handsellaw01_awake [],(some (33,true))⟩,0⟩,
  ⟨⟨(some 35),.pick (t 33) (t 34) (.const (Go.Value.bool false)),none⟩,0⟩,
  ⟨⟨(some 2),.mov (t 35),none⟩,0⟩]
def tc_handsellaw01_ShaAll : TC := (.seq (.ops o_handsellaw01_ShaAll_0) (.clean [0] (.seq (.seq (.ops o_handsellaw01_ShaAll_1) (.clean [0,6] (.cond (t 6) (.seq (.ops o_handsellaw01_ShaAll_2) (.ret [2])) .skip))) (.clean [0] (.seq (.ops o_handsellaw01_ShaAll_3) (.clean [0,3] (.seq (.draw (pl o_handsellaw01_ShaAll_4)) (.ret [2]))))))))
def fn_handsellaw01_ShaAll : TFn := ⟨36,tc_handsellaw01_ShaAll,[.tmp 2],false⟩
theorem U_handsellaw01_ShaAll : type_of% (And.intro @o_handsellaw01_ShaAll_0.eq_1 (And.intro @o_handsellaw01_ShaAll_1.eq_1 (And.intro @o_handsellaw01_ShaAll_2.eq_1 (And.intro @o_handsellaw01_ShaAll_3.eq_1 (And.intro @o_handsellaw01_ShaAll_4.eq_1 (And.intro @tc_handsellaw01_ShaAll.eq_1 @fn_handsellaw01_ShaAll.eq_1)))))) := And.intro @o_handsellaw01_ShaAll_0.eq_1 (And.intro @o_handsellaw01_ShaAll_1.eq_1 (And.intro @o_handsellaw01_ShaAll_2.eq_1 (And.intro @o_handsellaw01_ShaAll_3.eq_1 (And.intro @o_handsellaw01_ShaAll_4.eq_1 (And.intro @tc_handsellaw01_ShaAll.eq_1 @fn_handsellaw01_ShaAll.eq_1)))))
theorem c_handsellaw01_ShaAll : fnIC Try.prog [(4,⟨[0,1,2,3,4,5,6,7,8,9,10,12,13,11,14,15,16,17,19,18,20,21,22,23,24,25,26],[0,0,2,7,15,31,63,127,255,511,1023,2047,1023,5119,16383,32767,65535,131071,262143,131071,1048575,2097151,4194303,8388607,16777215,33554431,67108863],[],[]⟩)] F_handsellaw01_ShaAll = some (36,tc_handsellaw01_ShaAll.erase,[.tmp 2]) := by kernel_rfl
def o_handsellaw01_awake_0 : List TIns := [⟨⟨(some 0),.mov (.const (Go.Value.bool false)),none⟩,0⟩]
def o_handsellaw01_awake_1 : List TIns := [⟨⟨(some 1),.call F_sha_Sum [(.const (Go.Value.string ⟨#[97,98,99]⟩))],none⟩,0⟩,
  ⟨⟨(some 2),.call F_sha_Hex [(t 1)],none⟩,0⟩,
  ⟨⟨(some 3),.bin .eql (t 2) (.const (Go.Value.string ⟨#[98,97,55,56,49,54,98,102,56,102,48,49,99,102,101,97,52,49,52,49,52,48,100,101,53,100,97,101,50,50,50,51,98,48,48,51,54,49,97,51,57,54,49,55,55,97,57,99,98,52,49,48,102,102,54,49,102,50,48,48,49,53,97,100]⟩)),none⟩,0⟩,
  ⟨⟨(some 4),.mov (t 3),none⟩,0⟩,
  ⟨⟨(some 5),.call F_sha_Sum [(.const (Go.Value.string ⟨#[]⟩))],(some (4,true))⟩,0⟩,
  ⟨⟨(some 6),.call F_sha_Hex [(t 5)],(some (4,true))⟩,0⟩,
  ⟨⟨(some 7),.bin .eql (t 6) (.const (Go.Value.string ⟨#[101,51,98,48,99,52,52,50,57,56,102,99,49,99,49,52,57,97,102,98,102,52,99,56,57,57,54,102,98,57,50,52,50,55,97,101,52,49,101,52,54,52,57,98,57,51,52,99,97,52,57,53,57,57,49,98,55,56,53,50,98,56,53,53]⟩)),(some (4,true))⟩,0⟩,
  ⟨⟨(some 8),.pick (t 4) (t 7) (.const (Go.Value.bool false)),none⟩,0⟩,
  ⟨⟨(some 9),.mov (t 8),none⟩,0⟩,
  ⟨⟨(some 10),.call F_sha_Short [(.const (Go.Value.string ⟨#[]⟩))],(some (9,true))⟩,0⟩,
  ⟨⟨(some 11),.lenS (t 10),(some (9,true))⟩,0⟩,
  ⟨⟨(some 12),.bin .eql (t 11) (ci 16),(some (9,true))⟩,0⟩,
  ⟨⟨(some 13),.pick (t 9) (t 12) (.const (Go.Value.bool false)),none⟩,0⟩,
  ⟨⟨(some 0),.mov (t 13),none⟩,0⟩]
def tc_handsellaw01_awake : TC := (.seq (.ops o_handsellaw01_awake_0) (.clean [] (.seq (.ops o_handsellaw01_awake_1) (.ret [0]))))
def fn_handsellaw01_awake : TFn := ⟨14,tc_handsellaw01_awake,[.tmp 0],false⟩
theorem U_handsellaw01_awake : type_of% (And.intro @o_handsellaw01_awake_0.eq_1 (And.intro @o_handsellaw01_awake_1.eq_1 (And.intro @tc_handsellaw01_awake.eq_1 @fn_handsellaw01_awake.eq_1))) := And.intro @o_handsellaw01_awake_0.eq_1 (And.intro @o_handsellaw01_awake_1.eq_1 (And.intro @tc_handsellaw01_awake.eq_1 @fn_handsellaw01_awake.eq_1))
theorem c_handsellaw01_awake : fnIC Try.prog [] F_handsellaw01_awake = some (14,tc_handsellaw01_awake.erase,[.tmp 0]) := by kernel_rfl
def o_sha_Sum_0 : List TIns := [⟨⟨(some 2),.mov (.const (Go.Value.string ⟨#[]⟩)),none⟩,0⟩]
def o_sha_Sum_1 : List TIns := [⟨⟨(some 12),.mov (t 0),none⟩,0⟩,
  ⟨⟨(some 13),.lenS (t 12),none⟩,0⟩,
  ⟨⟨(some 14),.conv .u64 (t 13),none⟩,0⟩,
  ⟨⟨(some 15),.bin .mul (t 14) (.const (Go.Value.int Go.IntKind.u64 8)),none⟩,0⟩,
  ⟨⟨(some 3),.mov (t 15),none⟩,0⟩]
def o_sha_Sum_2 : List TIns := [⟨⟨(some 4),.box T_strings_Builder 2 (.const (.agg #[(.pointer none),(.slice none 0 0)])),none⟩,0⟩]
def o_sha_Sum_3 : List TIns := [⟨⟨(some 16),.mov (t 0),none⟩,0⟩,
  ⟨⟨(some 17),.call F_strings_Builder_WriteString [(t 4),(t 16)],none⟩,0⟩]
def o_sha_Sum_4 : List TIns := [⟨⟨(some 18),.call F_strings_Builder_WriteString [(t 4),(.const (Go.Value.string ⟨#[128]⟩))],none⟩,0⟩]
def o_sha_Sum_5 : List TIns := [⟨⟨(some 19),.call F_strings_Builder_Len [(t 4)],none⟩,0⟩,
  ⟨⟨(some 20),.bin .rem (t 19) (ci 64),none⟩,0⟩,
  ⟨⟨(some 21),.bin .neq (t 20) (ci 56),none⟩,0⟩]
def o_sha_Sum_6 : List TIns := [⟨⟨(some 22),.call F_strings_Builder_WriteByte [(t 4),(.const (Go.Value.int Go.IntKind.u8 0))],none⟩,0⟩]
def l_sha_Sum_1 : TC := (.seq (.seq (.ops o_sha_Sum_5) (.clean [3,4,21] (.cond (t 21) .skip (.exit 0)))) (.block 1 [3,4] (.ops o_sha_Sum_6)))
def o_sha_Sum_7 : List TIns := [⟨⟨(some 23),.mov (ci 0),none⟩,0⟩]
def o_sha_Sum_8 : List TIns := [⟨⟨(some 24),.bin .lss (t 23) (ci 8),none⟩,0⟩]
def o_sha_Sum_9 : List TIns := [⟨⟨(some 25),.mov (t 23),none⟩,0⟩,
  ⟨⟨(some 5),.mov (t 25),none⟩,0⟩]
def o_sha_Sum_10 : List TIns := [⟨⟨(some 26),.mov (t 3),none⟩,0⟩,
  ⟨⟨(some 27),.mov (t 5),none⟩,0⟩,
  ⟨⟨(some 28),.bin .mul (ci 8) (t 27),none⟩,0⟩,
  ⟨⟨(some 29),.bin .sub (ci 56) (t 28),none⟩,0⟩,
  ⟨⟨(some 30),.bin .shr (t 26) (t 29),none⟩,0⟩,
  ⟨⟨(some 31),.conv .u8 (t 30),none⟩,0⟩,
  ⟨⟨(some 32),.call F_strings_Builder_WriteByte [(t 4),(t 31)],none⟩,0⟩]
def o_sha_Sum_11 : List TIns := [⟨⟨(some 33),.bin .add (t 23) (ci 1),none⟩,0⟩,
  ⟨⟨(some 23),.mov (t 33),none⟩,0⟩]
def l_sha_Sum_2 : TC := (.seq (.ops o_sha_Sum_8) (.clean [3,4,23,24] (.seq (.cond (t 24) .skip (.exit 2)) (.clean [3,4,23] (.seq (.block 3 [3,4,23] (.seq (.ops o_sha_Sum_9) (.clean [3,4,5,23] (.ops o_sha_Sum_10)))) (.clean [3,4,23] (.ops o_sha_Sum_11)))))))
def o_sha_Sum_12 : List TIns := [⟨⟨(some 34),.call F_sha_first [],none⟩,0⟩,
  ⟨⟨(some 35),.call F_sha_constants [],none⟩,0⟩,
  ⟨⟨(some 6),.box T_sha_words 8 (.const (.agg #[(.int .u32 0),(.int .u32 0),(.int .u32 0),(.int .u32 0),(.int .u32 0),(.int .u32 0),(.int .u32 0),(.int .u32 0)])),none⟩,0⟩,
  ⟨⟨(some 7),.box T_64_uint32 64 (.const (.agg #[(.int .u32 0),(.int .u32 0),(.int .u32 0),(.int .u32 0),(.int .u32 0),(.int .u32 0),(.int .u32 0),(.int .u32 0),(.int .u32 0),(.int .u32 0),(.int .u32 0),(.int .u32 0),(.int .u32 0),(.int .u32 0),(.int .u32 0),(.int .u32 0),(.int .u32 0),(.int .u32 0),(.int .u32 0),(.int .u32 0),(.int .u32 0),(.int .u32 0),(.int .u32 0),(.int .u32 0),(.int .u32 0),(.int .u32 0),(.int .u32 0),(.int .u32 0),(.int .u32 0),(.int .u32 0),(.int .u32 0),(.int .u32 0),(.int .u32 0),(.int .u32 0),(.int .u32 0),(.int .u32 0),(.int .u32 0),(.int .u32 0),(.int .u32 0),(.int .u32 0),(.int .u32 0),(.int .u32 0),(.int .u32 0),(.int .u32 0),(.int .u32 0),(.int .u32 0),(.int .u32 0),(.int .u32 0),(.int .u32 0),(.int .u32 0),(.int .u32 0),(.int .u32 0),(.int .u32 0),(.int .u32 0),(.int .u32 0),(.int .u32 0),(.int .u32 0),(.int .u32 0),(.int .u32 0),(.int .u32 0),(.int .u32 0),(.int .u32 0),(.int .u32 0),(.int .u32 0)])),none⟩,0⟩,
  ⟨⟨none,.store 8 (t 6) (t 34),none⟩,0⟩,
  ⟨⟨none,.store 64 (t 7) (t 35),none⟩,0⟩]
def o_sha_Sum_13 : List TIns := [⟨⟨(some 36),.call F_strings_Builder_String [(t 4)],none⟩,0⟩,
  ⟨⟨(some 8),.mov (t 36),none⟩,0⟩]
def o_sha_Sum_14 : List TIns := [⟨⟨(some 37),.mov (t 8),none⟩,0⟩,
  ⟨⟨(some 38),.bin .neq (t 37) (.const (Go.Value.string ⟨#[]⟩)),none⟩,0⟩]
def o_sha_Sum_16 : List TIns := [⟨⟨(some 41),.mov (t 8),none⟩,0⟩,
  ⟨⟨(some 42),.sliceStr (t 41) none (some (ci 64)),none⟩,0⟩,
  ⟨⟨(some 43),.call F_sha_words_mix [(t 6),(t 42),(t 7)],none⟩,0⟩]
def o_sha_Sum_15 : List TIns := [⟨⟨(some 39),.mov (t 8),none⟩,0⟩,
  ⟨⟨(some 40),.sliceStr (t 39) (some (ci 64)) none,none⟩,0⟩,
  ⟨⟨(some 8),.mov (t 40),none⟩,0⟩]
def l_sha_Sum_3 : TC := (.seq (.seq (.ops o_sha_Sum_14) (.clean [6,7,8,38] (.cond (t 38) .skip (.exit 4)))) (.clean [6,7,8] (.seq (.block 5 [6,7,8] (.ops o_sha_Sum_16)) (.clean [6,7,8] (.ops o_sha_Sum_15)))))
def o_sha_Sum_17 : List TIns := [⟨⟨(some 44),.makeSl T_uint8 1 [(.int .u8 0)] (ci 0) (ci 32),none⟩,2⟩,
  ⟨⟨(some 9),.mov (t 44),none⟩,0⟩]
def o_sha_Sum_18 : List TIns := [⟨⟨(some 45),.loadN 8 (t 6),none⟩,0⟩,
  ⟨⟨(some 46),.mov (ci 0),none⟩,0⟩]
def o_sha_Sum_19 : List TIns := [⟨⟨(some 47),.bin .lss (t 46) (ci 8),none⟩,0⟩]
def o_sha_Sum_20 : List TIns := [⟨⟨(some 48),.indexAgg 8 (t 45) (t 46),none⟩,0⟩,
  ⟨⟨(some 11),.mov (t 48),none⟩,0⟩]
def o_sha_Sum_21 : List TIns := [⟨⟨(some 49),.mov (t 9),none⟩,0⟩,
  ⟨⟨(some 50),.mov (t 11),none⟩,0⟩,
  ⟨⟨(some 51),.bin .shr (t 50) (.const (Go.Value.int Go.IntKind.u64 24)),none⟩,0⟩,
  ⟨⟨(some 52),.conv .u8 (t 51),none⟩,0⟩,
  ⟨⟨(some 53),.mov (t 11),none⟩,0⟩,
  ⟨⟨(some 54),.bin .shr (t 53) (.const (Go.Value.int Go.IntKind.u64 16)),none⟩,0⟩,
  ⟨⟨(some 55),.conv .u8 (t 54),none⟩,0⟩,
  ⟨⟨(some 56),.mov (t 11),none⟩,0⟩,
  ⟨⟨(some 57),.bin .shr (t 56) (.const (Go.Value.int Go.IntKind.u64 8)),none⟩,0⟩,
  ⟨⟨(some 58),.conv .u8 (t 57),none⟩,0⟩,
  ⟨⟨(some 59),.mov (t 11),none⟩,0⟩,
  ⟨⟨(some 60),.conv .u8 (t 59),none⟩,0⟩,
  ⟨⟨(some 61),.buildSl T_uint8 1 4 [(.int .u8 0),(.int .u8 0),(.int .u8 0),(.int .u8 0)] [(0,1,(t 52)),(1,1,(t 55)),(2,1,(t 58)),(3,1,(t 60))],none⟩,0⟩,
  ⟨⟨(some 62),.append T_uint8 1 1 (t 49) (t 61),none⟩,0⟩,
  ⟨⟨(some 9),.mov (t 62),none⟩,0⟩]
def o_sha_Sum_22 : List TIns := [⟨⟨(some 63),.bin .add (t 46) (ci 1),none⟩,0⟩,
  ⟨⟨(some 46),.mov (t 63),none⟩,0⟩]
def l_sha_Sum_4 : TC := (.seq (.ops o_sha_Sum_19) (.clean [9,45,46,47] (.seq (.cond (t 47) .skip (.exit 6)) (.clean [9,45,46] (.seq (.block 7 [9,45,46] (.seq (.ops o_sha_Sum_20) (.clean [9,11,45,46] (.ops o_sha_Sum_21)))) (.clean [9,45,46] (.ops o_sha_Sum_22)))))))
def o_sha_Sum_23 : List TIns := [⟨⟨(some 64),.mov (t 9),none⟩,0⟩,
  ⟨⟨(some 65),.toStr (t 64),none⟩,0⟩,
  ⟨⟨(some 2),.mov (t 65),none⟩,0⟩]
def tc_sha_Sum : TC := (.seq (.ops o_sha_Sum_0) (.clean [0] (.seq (.ops o_sha_Sum_1) (.clean [0,3] (.seq (.ops o_sha_Sum_2) (.clean [0,3,4] (.seq (.ops o_sha_Sum_3) (.clean [3,4] (.seq (.ops o_sha_Sum_4) (.clean [3,4] (.seq (.block 0 [3,4] (.clean [3,4] (.loop [3,4] l_sha_Sum_1))) (.clean [3,4] (.seq (.seq (.ops o_sha_Sum_7) (.block 2 [4] (.clean [3,4,23] (.loop [3,4,23] l_sha_Sum_2)))) (.clean [4] (.seq (.ops o_sha_Sum_12) (.clean [4,6,7] (.seq (.seq (.ops o_sha_Sum_13) (.block 4 [6] (.clean [6,7,8] (.loop [6,7,8] l_sha_Sum_3)))) (.clean [6] (.seq (.ops o_sha_Sum_17) (.clean [6,9] (.seq (.seq (.ops o_sha_Sum_18) (.block 6 [9] (.clean [9,45,46] (.loop [9,45,46] l_sha_Sum_4)))) (.clean [9] (.seq (.ops o_sha_Sum_23) (.ret [2]))))))))))))))))))))))))
def fn_sha_Sum : TFn := ⟨66,tc_sha_Sum,[.tmp 2],false⟩
theorem U_sha_Sum : type_of% (And.intro @o_sha_Sum_0.eq_1 (And.intro @o_sha_Sum_1.eq_1 (And.intro @o_sha_Sum_2.eq_1 (And.intro @o_sha_Sum_3.eq_1 (And.intro @o_sha_Sum_4.eq_1 (And.intro @o_sha_Sum_5.eq_1 (And.intro @o_sha_Sum_6.eq_1 (And.intro @o_sha_Sum_7.eq_1 (And.intro @o_sha_Sum_8.eq_1 (And.intro @o_sha_Sum_9.eq_1 (And.intro @o_sha_Sum_10.eq_1 (And.intro @o_sha_Sum_11.eq_1 (And.intro @o_sha_Sum_12.eq_1 (And.intro @o_sha_Sum_13.eq_1 (And.intro @o_sha_Sum_14.eq_1 (And.intro @o_sha_Sum_16.eq_1 (And.intro @o_sha_Sum_15.eq_1 (And.intro @o_sha_Sum_17.eq_1 (And.intro @o_sha_Sum_18.eq_1 (And.intro @o_sha_Sum_19.eq_1 (And.intro @o_sha_Sum_20.eq_1 (And.intro @o_sha_Sum_21.eq_1 (And.intro @o_sha_Sum_22.eq_1 (And.intro @o_sha_Sum_23.eq_1 (And.intro @tc_sha_Sum.eq_1 @fn_sha_Sum.eq_1))))))))))))))))))))))))) := And.intro @o_sha_Sum_0.eq_1 (And.intro @o_sha_Sum_1.eq_1 (And.intro @o_sha_Sum_2.eq_1 (And.intro @o_sha_Sum_3.eq_1 (And.intro @o_sha_Sum_4.eq_1 (And.intro @o_sha_Sum_5.eq_1 (And.intro @o_sha_Sum_6.eq_1 (And.intro @o_sha_Sum_7.eq_1 (And.intro @o_sha_Sum_8.eq_1 (And.intro @o_sha_Sum_9.eq_1 (And.intro @o_sha_Sum_10.eq_1 (And.intro @o_sha_Sum_11.eq_1 (And.intro @o_sha_Sum_12.eq_1 (And.intro @o_sha_Sum_13.eq_1 (And.intro @o_sha_Sum_14.eq_1 (And.intro @o_sha_Sum_16.eq_1 (And.intro @o_sha_Sum_15.eq_1 (And.intro @o_sha_Sum_17.eq_1 (And.intro @o_sha_Sum_18.eq_1 (And.intro @o_sha_Sum_19.eq_1 (And.intro @o_sha_Sum_20.eq_1 (And.intro @o_sha_Sum_21.eq_1 (And.intro @o_sha_Sum_22.eq_1 (And.intro @o_sha_Sum_23.eq_1 (And.intro @tc_sha_Sum.eq_1 @fn_sha_Sum.eq_1))))))))))))))))))))))))
theorem c_sha_Sum : fnIC Try.prog [] F_sha_Sum = some (66,tc_sha_Sum.erase,[.tmp 2]) := by kernel_rfl
def o_strings_Builder_WriteString_0 : List TIns := [⟨⟨(some 4),.mov (ci 0),none⟩,0⟩,
  ⟨⟨(some 5),.mov (.const Go.Value.nilIface),none⟩,0⟩]
def o_strings_Builder_WriteString_1 : List TIns := [⟨⟨(some 6),.mov (t 0),none⟩,0⟩,
  ⟨⟨(some 7),.call F_strings_Builder_copyCheck [(t 6)],none⟩,0⟩]
def o_strings_Builder_WriteString_2 : List TIns := [⟨⟨(some 8),.mov (t 0),none⟩,0⟩,
  ⟨⟨(some 9),.mov (t 0),none⟩,0⟩,
  ⟨⟨(some 10),.nilchk (t 9),none⟩,0⟩,
  ⟨⟨(some 11),.fieldAddr 1 (t 10),none⟩,0⟩,
  ⟨⟨(some 12),.load1 (t 11),none⟩,2⟩,
  ⟨⟨(some 13),.mov (t 1),none⟩,0⟩,
  ⟨⟨(some 14),.appendS T_uint8 (t 12) (t 13),none⟩,0⟩,
  ⟨⟨(some 15),.nilchk (t 8),none⟩,0⟩,
  ⟨⟨(some 16),.fieldAddr 1 (t 15),none⟩,0⟩,
  ⟨⟨none,.store 1 (t 16) (t 14),none⟩,2⟩]
def o_strings_Builder_WriteString_3 : List TIns := [⟨⟨(some 17),.mov (t 1),none⟩,0⟩,
  ⟨⟨(some 18),.lenS (t 17),none⟩,0⟩,
  ⟨⟨(some 4),.mov (t 18),none⟩,0⟩,
  ⟨⟨(some 5),.mov (.const Go.Value.nilIface),none⟩,0⟩]
def tc_strings_Builder_WriteString : TC := (.seq (.ops o_strings_Builder_WriteString_0) (.clean [0,1] (.seq (.ops o_strings_Builder_WriteString_1) (.clean [0,1] (.seq (.ops o_strings_Builder_WriteString_2) (.clean [1] (.seq (.ops o_strings_Builder_WriteString_3) (.ret [4,5]))))))))
def fn_strings_Builder_WriteString : TFn := ⟨19,tc_strings_Builder_WriteString,[.tmp 4,.tmp 5],false⟩
theorem U_strings_Builder_WriteString : type_of% (And.intro @o_strings_Builder_WriteString_0.eq_1 (And.intro @o_strings_Builder_WriteString_1.eq_1 (And.intro @o_strings_Builder_WriteString_2.eq_1 (And.intro @o_strings_Builder_WriteString_3.eq_1 (And.intro @tc_strings_Builder_WriteString.eq_1 @fn_strings_Builder_WriteString.eq_1))))) := And.intro @o_strings_Builder_WriteString_0.eq_1 (And.intro @o_strings_Builder_WriteString_1.eq_1 (And.intro @o_strings_Builder_WriteString_2.eq_1 (And.intro @o_strings_Builder_WriteString_3.eq_1 (And.intro @tc_strings_Builder_WriteString.eq_1 @fn_strings_Builder_WriteString.eq_1))))
theorem c_strings_Builder_WriteString : fnIC Try.prog [] F_strings_Builder_WriteString = some (19,tc_strings_Builder_WriteString.erase,[.tmp 4,.tmp 5]) := by kernel_rfl
def o_strings_Builder_Len_0 : List TIns := [⟨⟨(some 2),.mov (ci 0),none⟩,0⟩]
def o_strings_Builder_Len_1 : List TIns := [⟨⟨(some 3),.mov (t 0),none⟩,0⟩,
  ⟨⟨(some 4),.nilchk (t 3),none⟩,0⟩,
  ⟨⟨(some 5),.fieldAddr 1 (t 4),none⟩,0⟩,
  ⟨⟨(some 6),.load1 (t 5),none⟩,0⟩,
  ⟨⟨(some 7),.lenL (t 6),none⟩,0⟩,
  ⟨⟨(some 2),.mov (t 7),none⟩,0⟩]
def tc_strings_Builder_Len : TC := (.seq (.ops o_strings_Builder_Len_0) (.clean [0] (.seq (.ops o_strings_Builder_Len_1) (.ret [2]))))
def fn_strings_Builder_Len : TFn := ⟨8,tc_strings_Builder_Len,[.tmp 2],false⟩
theorem U_strings_Builder_Len : type_of% (And.intro @o_strings_Builder_Len_0.eq_1 (And.intro @o_strings_Builder_Len_1.eq_1 (And.intro @tc_strings_Builder_Len.eq_1 @fn_strings_Builder_Len.eq_1))) := And.intro @o_strings_Builder_Len_0.eq_1 (And.intro @o_strings_Builder_Len_1.eq_1 (And.intro @tc_strings_Builder_Len.eq_1 @fn_strings_Builder_Len.eq_1))
theorem c_strings_Builder_Len : fnIC Try.prog [] F_strings_Builder_Len = some (8,tc_strings_Builder_Len.erase,[.tmp 2]) := by kernel_rfl
def o_strings_Builder_WriteByte_0 : List TIns := [⟨⟨(some 4),.mov (.const Go.Value.nilIface),none⟩,0⟩]
def o_strings_Builder_WriteByte_1 : List TIns := [⟨⟨(some 5),.mov (t 0),none⟩,0⟩,
  ⟨⟨(some 6),.call F_strings_Builder_copyCheck [(t 5)],none⟩,0⟩]
def o_strings_Builder_WriteByte_2 : List TIns := [⟨⟨(some 7),.mov (t 0),none⟩,0⟩,
  ⟨⟨(some 8),.mov (t 0),none⟩,0⟩,
  ⟨⟨(some 9),.nilchk (t 8),none⟩,0⟩,
  ⟨⟨(some 10),.fieldAddr 1 (t 9),none⟩,0⟩,
  ⟨⟨(some 11),.load1 (t 10),none⟩,2⟩,
  ⟨⟨(some 12),.mov (t 1),none⟩,0⟩,
  ⟨⟨(some 13),.buildSl T_uint8 1 1 [(.int .u8 0)] [(0,1,(t 12))],none⟩,0⟩,
  ⟨⟨(some 14),.append T_uint8 1 1 (t 11) (t 13),none⟩,0⟩,
  ⟨⟨(some 15),.nilchk (t 7),none⟩,0⟩,
  ⟨⟨(some 16),.fieldAddr 1 (t 15),none⟩,0⟩,
  ⟨⟨none,.store 1 (t 16) (t 14),none⟩,2⟩]
def o_strings_Builder_WriteByte_3 : List TIns := [⟨⟨(some 4),.mov (.const Go.Value.nilIface),none⟩,0⟩]
def tc_strings_Builder_WriteByte : TC := (.seq (.ops o_strings_Builder_WriteByte_0) (.clean [0,1] (.seq (.ops o_strings_Builder_WriteByte_1) (.clean [0,1] (.seq (.ops o_strings_Builder_WriteByte_2) (.clean [] (.seq (.ops o_strings_Builder_WriteByte_3) (.ret [4]))))))))
def fn_strings_Builder_WriteByte : TFn := ⟨17,tc_strings_Builder_WriteByte,[.tmp 4],false⟩
theorem U_strings_Builder_WriteByte : type_of% (And.intro @o_strings_Builder_WriteByte_0.eq_1 (And.intro @o_strings_Builder_WriteByte_1.eq_1 (And.intro @o_strings_Builder_WriteByte_2.eq_1 (And.intro @o_strings_Builder_WriteByte_3.eq_1 (And.intro @tc_strings_Builder_WriteByte.eq_1 @fn_strings_Builder_WriteByte.eq_1))))) := And.intro @o_strings_Builder_WriteByte_0.eq_1 (And.intro @o_strings_Builder_WriteByte_1.eq_1 (And.intro @o_strings_Builder_WriteByte_2.eq_1 (And.intro @o_strings_Builder_WriteByte_3.eq_1 (And.intro @tc_strings_Builder_WriteByte.eq_1 @fn_strings_Builder_WriteByte.eq_1))))
theorem c_strings_Builder_WriteByte : fnIC Try.prog [] F_strings_Builder_WriteByte = some (17,tc_strings_Builder_WriteByte.erase,[.tmp 4]) := by kernel_rfl
def o_sha_first_0 : List TIns := [⟨⟨(some 0),.box T_sha_words 8 (.const (.agg #[(.int .u32 0),(.int .u32 0),(.int .u32 0),(.int .u32 0),(.int .u32 0),(.int .u32 0),(.int .u32 0),(.int .u32 0)])),none⟩,0⟩]
def o_sha_first_1 : List TIns := [⟨⟨(some 1),.build [(.int .u32 0),(.int .u32 0),(.int .u32 0),(.int .u32 0),(.int .u32 0),(.int .u32 0),(.int .u32 0),(.int .u32 0)] [(0,1,(.const (Go.Value.int Go.IntKind.u32 1779033703))),(1,1,(.const (Go.Value.int Go.IntKind.u32 3144134277))),(2,1,(.const (Go.Value.int Go.IntKind.u32 1013904242))),(3,1,(.const (Go.Value.int Go.IntKind.u32 2773480762))),(4,1,(.const (Go.Value.int Go.IntKind.u32 1359893119))),(5,1,(.const (Go.Value.int Go.IntKind.u32 2600822924))),(6,1,(.const (Go.Value.int Go.IntKind.u32 528734635))),(7,1,(.const (Go.Value.int Go.IntKind.u32 1541459225)))],none⟩,0⟩,
  ⟨⟨none,.store 8 (t 0) (t 1),none⟩,0⟩]
def tc_sha_first : TC := (.seq (.ops o_sha_first_0) (.clean [0] (.seq (.ops o_sha_first_1) (.ret [0]))))
def fn_sha_first : TFn := ⟨2,tc_sha_first,[.cellN 0 8],false⟩
theorem U_sha_first : type_of% (And.intro @o_sha_first_0.eq_1 (And.intro @o_sha_first_1.eq_1 (And.intro @tc_sha_first.eq_1 @fn_sha_first.eq_1))) := And.intro @o_sha_first_0.eq_1 (And.intro @o_sha_first_1.eq_1 (And.intro @tc_sha_first.eq_1 @fn_sha_first.eq_1))
theorem c_sha_first : fnIC Try.prog [] F_sha_first = some (2,tc_sha_first.erase,[.cellN 0 8]) := by kernel_rfl
def o_sha_constants_0 : List TIns := [⟨⟨(some 0),.box T_64_uint32 64 (.const (.agg #[(.int .u32 0),(.int .u32 0),(.int .u32 0),(.int .u32 0),(.int .u32 0),(.int .u32 0),(.int .u32 0),(.int .u32 0),(.int .u32 0),(.int .u32 0),(.int .u32 0),(.int .u32 0),(.int .u32 0),(.int .u32 0),(.int .u32 0),(.int .u32 0),(.int .u32 0),(.int .u32 0),(.int .u32 0),(.int .u32 0),(.int .u32 0),(.int .u32 0),(.int .u32 0),(.int .u32 0),(.int .u32 0),(.int .u32 0),(.int .u32 0),(.int .u32 0),(.int .u32 0),(.int .u32 0),(.int .u32 0),(.int .u32 0),(.int .u32 0),(.int .u32 0),(.int .u32 0),(.int .u32 0),(.int .u32 0),(.int .u32 0),(.int .u32 0),(.int .u32 0),(.int .u32 0),(.int .u32 0),(.int .u32 0),(.int .u32 0),(.int .u32 0),(.int .u32 0),(.int .u32 0),(.int .u32 0),(.int .u32 0),(.int .u32 0),(.int .u32 0),(.int .u32 0),(.int .u32 0),(.int .u32 0),(.int .u32 0),(.int .u32 0),(.int .u32 0),(.int .u32 0),(.int .u32 0),(.int .u32 0),(.int .u32 0),(.int .u32 0),(.int .u32 0),(.int .u32 0)])),none⟩,0⟩]
def o_sha_constants_1 : List TIns := [⟨⟨(some 1),.build [(.int .u32 0),(.int .u32 0),(.int .u32 0),(.int .u32 0),(.int .u32 0),(.int .u32 0),(.int .u32 0),(.int .u32 0),(.int .u32 0),(.int .u32 0),(.int .u32 0),(.int .u32 0),(.int .u32 0),(.int .u32 0),(.int .u32 0),(.int .u32 0),(.int .u32 0),(.int .u32 0),(.int .u32 0),(.int .u32 0),(.int .u32 0),(.int .u32 0),(.int .u32 0),(.int .u32 0),(.int .u32 0),(.int .u32 0),(.int .u32 0),(.int .u32 0),(.int .u32 0),(.int .u32 0),(.int .u32 0),(.int .u32 0),(.int .u32 0),(.int .u32 0),(.int .u32 0),(.int .u32 0),(.int .u32 0),(.int .u32 0),(.int .u32 0),(.int .u32 0),(.int .u32 0),(.int .u32 0),(.int .u32 0),(.int .u32 0),(.int .u32 0),(.int .u32 0),(.int .u32 0),(.int .u32 0),(.int .u32 0),(.int .u32 0),(.int .u32 0),(.int .u32 0),(.int .u32 0),(.int .u32 0),(.int .u32 0),(.int .u32 0),(.int .u32 0),(.int .u32 0),(.int .u32 0),(.int .u32 0),(.int .u32 0),(.int .u32 0),(.int .u32 0),(.int .u32 0)] [(0,1,(.const (Go.Value.int Go.IntKind.u32 1116352408))),(1,1,(.const (Go.Value.int Go.IntKind.u32 1899447441))),(2,1,(.const (Go.Value.int Go.IntKind.u32 3049323471))),(3,1,(.const (Go.Value.int Go.IntKind.u32 3921009573))),(4,1,(.const (Go.Value.int Go.IntKind.u32 961987163))),(5,1,(.const (Go.Value.int Go.IntKind.u32 1508970993))),(6,1,(.const (Go.Value.int Go.IntKind.u32 2453635748))),(7,1,(.const (Go.Value.int Go.IntKind.u32 2870763221))),(8,1,(.const (Go.Value.int Go.IntKind.u32 3624381080))),(9,1,(.const (Go.Value.int Go.IntKind.u32 310598401))),(10,1,(.const (Go.Value.int Go.IntKind.u32 607225278))),(11,1,(.const (Go.Value.int Go.IntKind.u32 1426881987))),(12,1,(.const (Go.Value.int Go.IntKind.u32 1925078388))),(13,1,(.const (Go.Value.int Go.IntKind.u32 2162078206))),(14,1,(.const (Go.Value.int Go.IntKind.u32 2614888103))),(15,1,(.const (Go.Value.int Go.IntKind.u32 3248222580))),(16,1,(.const (Go.Value.int Go.IntKind.u32 3835390401))),(17,1,(.const (Go.Value.int Go.IntKind.u32 4022224774))),(18,1,(.const (Go.Value.int Go.IntKind.u32 264347078))),(19,1,(.const (Go.Value.int Go.IntKind.u32 604807628))),(20,1,(.const (Go.Value.int Go.IntKind.u32 770255983))),(21,1,(.const (Go.Value.int Go.IntKind.u32 1249150122))),(22,1,(.const (Go.Value.int Go.IntKind.u32 1555081692))),(23,1,(.const (Go.Value.int Go.IntKind.u32 1996064986))),(24,1,(.const (Go.Value.int Go.IntKind.u32 2554220882))),(25,1,(.const (Go.Value.int Go.IntKind.u32 2821834349))),(26,1,(.const (Go.Value.int Go.IntKind.u32 2952996808))),(27,1,(.const (Go.Value.int Go.IntKind.u32 3210313671))),(28,1,(.const (Go.Value.int Go.IntKind.u32 3336571891))),(29,1,(.const (Go.Value.int Go.IntKind.u32 3584528711))),(30,1,(.const (Go.Value.int Go.IntKind.u32 113926993))),(31,1,(.const (Go.Value.int Go.IntKind.u32 338241895))),(32,1,(.const (Go.Value.int Go.IntKind.u32 666307205))),(33,1,(.const (Go.Value.int Go.IntKind.u32 773529912))),(34,1,(.const (Go.Value.int Go.IntKind.u32 1294757372))),(35,1,(.const (Go.Value.int Go.IntKind.u32 1396182291))),(36,1,(.const (Go.Value.int Go.IntKind.u32 1695183700))),(37,1,(.const (Go.Value.int Go.IntKind.u32 1986661051))),(38,1,(.const (Go.Value.int Go.IntKind.u32 2177026350))),(39,1,(.const (Go.Value.int Go.IntKind.u32 2456956037))),(40,1,(.const (Go.Value.int Go.IntKind.u32 2730485921))),(41,1,(.const (Go.Value.int Go.IntKind.u32 2820302411))),(42,1,(.const (Go.Value.int Go.IntKind.u32 3259730800))),(43,1,(.const (Go.Value.int Go.IntKind.u32 3345764771))),(44,1,(.const (Go.Value.int Go.IntKind.u32 3516065817))),(45,1,(.const (Go.Value.int Go.IntKind.u32 3600352804))),(46,1,(.const (Go.Value.int Go.IntKind.u32 4094571909))),(47,1,(.const (Go.Value.int Go.IntKind.u32 275423344))),(48,1,(.const (Go.Value.int Go.IntKind.u32 430227734))),(49,1,(.const (Go.Value.int Go.IntKind.u32 506948616))),(50,1,(.const (Go.Value.int Go.IntKind.u32 659060556))),(51,1,(.const (Go.Value.int Go.IntKind.u32 883997877))),(52,1,(.const (Go.Value.int Go.IntKind.u32 958139571))),(53,1,(.const (Go.Value.int Go.IntKind.u32 1322822218))),(54,1,(.const (Go.Value.int Go.IntKind.u32 1537002063))),(55,1,(.const (Go.Value.int Go.IntKind.u32 1747873779))),(56,1,(.const (Go.Value.int Go.IntKind.u32 1955562222))),(57,1,(.const (Go.Value.int Go.IntKind.u32 2024104815))),(58,1,(.const (Go.Value.int Go.IntKind.u32 2227730452))),(59,1,(.const (Go.Value.int Go.IntKind.u32 2361852424))),(60,1,(.const (Go.Value.int Go.IntKind.u32 2428436474))),(61,1,(.const (Go.Value.int Go.IntKind.u32 2756734187))),(62,1,(.const (Go.Value.int Go.IntKind.u32 3204031479))),(63,1,(.const (Go.Value.int Go.IntKind.u32 3329325298)))],none⟩,0⟩,
  ⟨⟨none,.store 64 (t 0) (t 1),none⟩,0⟩]
def tc_sha_constants : TC := (.seq (.ops o_sha_constants_0) (.clean [0] (.seq (.ops o_sha_constants_1) (.ret [0]))))
def fn_sha_constants : TFn := ⟨2,tc_sha_constants,[.cellN 0 64],false⟩
theorem U_sha_constants : type_of% (And.intro @o_sha_constants_0.eq_1 (And.intro @o_sha_constants_1.eq_1 (And.intro @tc_sha_constants.eq_1 @fn_sha_constants.eq_1))) := And.intro @o_sha_constants_0.eq_1 (And.intro @o_sha_constants_1.eq_1 (And.intro @tc_sha_constants.eq_1 @fn_sha_constants.eq_1))
theorem c_sha_constants : fnIC Try.prog [] F_sha_constants = some (2,tc_sha_constants.erase,[.cellN 0 64]) := by kernel_rfl
def o_sha_words_mix_0 : List TIns := [⟨⟨(some 6),.box T_64_uint32 64 (.const (.agg #[(.int .u32 0),(.int .u32 0),(.int .u32 0),(.int .u32 0),(.int .u32 0),(.int .u32 0),(.int .u32 0),(.int .u32 0),(.int .u32 0),(.int .u32 0),(.int .u32 0),(.int .u32 0),(.int .u32 0),(.int .u32 0),(.int .u32 0),(.int .u32 0),(.int .u32 0),(.int .u32 0),(.int .u32 0),(.int .u32 0),(.int .u32 0),(.int .u32 0),(.int .u32 0),(.int .u32 0),(.int .u32 0),(.int .u32 0),(.int .u32 0),(.int .u32 0),(.int .u32 0),(.int .u32 0),(.int .u32 0),(.int .u32 0),(.int .u32 0),(.int .u32 0),(.int .u32 0),(.int .u32 0),(.int .u32 0),(.int .u32 0),(.int .u32 0),(.int .u32 0),(.int .u32 0),(.int .u32 0),(.int .u32 0),(.int .u32 0),(.int .u32 0),(.int .u32 0),(.int .u32 0),(.int .u32 0),(.int .u32 0),(.int .u32 0),(.int .u32 0),(.int .u32 0),(.int .u32 0),(.int .u32 0),(.int .u32 0),(.int .u32 0),(.int .u32 0),(.int .u32 0),(.int .u32 0),(.int .u32 0),(.int .u32 0),(.int .u32 0),(.int .u32 0),(.int .u32 0)])),none⟩,0⟩]
def o_sha_words_mix_1 : List TIns := [⟨⟨(some 23),.mov (ci 0),none⟩,0⟩]
def o_sha_words_mix_2 : List TIns := [⟨⟨(some 24),.bin .lss (t 23) (ci 64),none⟩,0⟩]
def o_sha_words_mix_3 : List TIns := [⟨⟨(some 25),.mov (t 23),none⟩,0⟩,
  ⟨⟨(some 7),.mov (t 25),none⟩,0⟩]
def o_sha_words_mix_4 : List TIns := [⟨⟨(some 26),.mov (t 7),none⟩,0⟩,
  ⟨⟨(some 27),.bin .lss (t 26) (ci 16),none⟩,0⟩]
def o_sha_words_mix_5 : List TIns := [⟨⟨(some 28),.mov (t 7),none⟩,0⟩,
  ⟨⟨(some 29),.mov (t 1),none⟩,0⟩,
  ⟨⟨(some 30),.mov (t 7),none⟩,0⟩,
  ⟨⟨(some 31),.bin .mul (ci 4) (t 30),none⟩,0⟩,
  ⟨⟨(some 32),.sliceStr (t 29) (some (t 31)) none,none⟩,0⟩,
  ⟨⟨(some 33),.call F_sha_number [(t 32)],none⟩,0⟩,
  ⟨⟨(some 34),.indexPtr 64 1 (t 6) (t 28),none⟩,0⟩,
  ⟨⟨none,.store 1 (t 34) (t 33),none⟩,0⟩]
def o_sha_words_mix_6 : List TIns := [⟨⟨(some 35),.mov (t 7),none⟩,0⟩,
  ⟨⟨(some 36),.bin .sub (t 35) (ci 15),none⟩,0⟩,
  ⟨⟨(some 37),.indexPtr 64 1 (t 6) (t 36),none⟩,0⟩,
  ⟨⟨(some 38),.load1 (t 37),none⟩,0⟩,
  ⟨⟨(some 39),.mov (t 7),none⟩,0⟩,
  ⟨⟨(some 40),.bin .sub (t 39) (ci 2),none⟩,0⟩,
  ⟨⟨(some 41),.indexPtr 64 1 (t 6) (t 40),none⟩,0⟩,
  ⟨⟨(some 42),.load1 (t 41),none⟩,0⟩,
  ⟨⟨(some 8),.mov (t 38),none⟩,0⟩,
  ⟨⟨(some 9),.mov (t 42),none⟩,0⟩]
def o_sha_words_mix_7 : List TIns := [⟨⟨(some 43),.mov (t 7),none⟩,0⟩,
  ⟨⟨(some 44),.mov (t 7),none⟩,0⟩,
  ⟨⟨(some 45),.bin .sub (t 44) (ci 16),none⟩,0⟩,
  ⟨⟨(some 46),.indexPtr 64 1 (t 6) (t 45),none⟩,0⟩,
  ⟨⟨(some 47),.load1 (t 46),none⟩,0⟩,
  ⟨⟨(some 48),.mov (t 8),none⟩,0⟩,
  ⟨⟨(some 50),.mov (t 8),none⟩,0⟩,
  ⟨⟨(some 53),.mov (t 8),none⟩,0⟩,
  ⟨⟨(some 54),.bin .shr (t 53) (.const (Go.Value.int Go.IntKind.u64 3)),none⟩,0⟩,
  ⟨⟨(some 57),.mov (t 7),none⟩,0⟩,
  ⟨⟨(some 58),.bin .sub (t 57) (ci 7),none⟩,0⟩,
  ⟨⟨(some 59),.indexPtr 64 1 (t 6) (t 58),none⟩,0⟩,
  ⟨⟨(some 60),.load1 (t 59),none⟩,0⟩,
  ⟨⟨(some 62),.mov (t 9),none⟩,0⟩,
  ⟨⟨(some 64),.mov (t 9),none⟩,0⟩,
  ⟨⟨(some 67),.mov (t 9),none⟩,0⟩,
  ⟨⟨(some 68),.bin .shr (t 67) (.const (Go.Value.int Go.IntKind.u64 10)),none⟩,0⟩,
  ⟨⟨(some 49),.call F_sha_right [(t 48),(ci 7)],none⟩,0⟩,
  ⟨⟨(some 51),.call F_sha_right [(t 50),(ci 18)],none⟩,0⟩,
  ⟨⟨(some 52),.bin .xor (t 49) (t 51),none⟩,0⟩,
  ⟨⟨(some 55),.bin .xor (t 52) (t 54),none⟩,0⟩,
  ⟨⟨(some 56),.bin .add (t 47) (t 55),none⟩,0⟩,
  ⟨⟨(some 61),.bin .add (t 56) (t 60),none⟩,0⟩,
  ⟨⟨(some 63),.call F_sha_right [(t 62),(ci 17)],none⟩,0⟩,
  ⟨⟨(some 65),.call F_sha_right [(t 64),(ci 19)],none⟩,0⟩,
  ⟨⟨(some 66),.bin .xor (t 63) (t 65),none⟩,0⟩,
  ⟨⟨(some 69),.bin .xor (t 66) (t 68),none⟩,0⟩,
  ⟨⟨(some 70),.bin .add (t 61) (t 69),none⟩,0⟩,
  ⟨⟨(some 71),.indexPtr 64 1 (t 6) (t 43),none⟩,0⟩,
  ⟨⟨none,.store 1 (t 71) (t 70),none⟩,0⟩]
def o_sha_words_mix_8 : List TIns := [⟨⟨(some 72),.bin .add (t 23) (ci 1),none⟩,0⟩,
  ⟨⟨(some 23),.mov (t 72),none⟩,0⟩]
def l_sha_words_mix_1 : TC := (.seq (.ops o_sha_words_mix_2) (.clean [0,1,2,6,23,24] (.seq (.cond (t 24) .skip (.exit 0)) (.clean [0,1,2,6,23] (.seq (.block 1 [0,1,2,6,23] (.seq (.ops o_sha_words_mix_3) (.clean [0,1,2,6,7,23] (.seq (.seq (.ops o_sha_words_mix_4) (.clean [0,1,2,6,7,23,27] (.cond (t 27) (.seq (.ops o_sha_words_mix_5) (.exit 1)) .skip))) (.clean [0,1,2,6,7,23] (.seq (.draw (pl o_sha_words_mix_6)) (.clean [0,1,2,6,7,8,9,23] (.draw (pl o_sha_words_mix_7))))))))) (.clean [0,1,2,6,23] (.ops o_sha_words_mix_8)))))))
def o_sha_words_mix_9 : List TIns := [⟨⟨(some 73),.mov (t 0),none⟩,0⟩,
  ⟨⟨(some 74),.nilchk (t 73),none⟩,0⟩,
  ⟨⟨(some 75),.indexPtr 8 1 (t 74) (ci 0),none⟩,0⟩,
  ⟨⟨(some 76),.load1 (t 75),none⟩,0⟩,
  ⟨⟨(some 77),.mov (t 0),none⟩,0⟩,
  ⟨⟨(some 78),.nilchk (t 77),none⟩,0⟩,
  ⟨⟨(some 79),.indexPtr 8 1 (t 78) (ci 1),none⟩,0⟩,
  ⟨⟨(some 80),.load1 (t 79),none⟩,0⟩,
  ⟨⟨(some 81),.mov (t 0),none⟩,0⟩,
  ⟨⟨(some 82),.nilchk (t 81),none⟩,0⟩,
  ⟨⟨(some 83),.indexPtr 8 1 (t 82) (ci 2),none⟩,0⟩,
  ⟨⟨(some 84),.load1 (t 83),none⟩,0⟩,
  ⟨⟨(some 85),.mov (t 0),none⟩,0⟩,
  ⟨⟨(some 86),.nilchk (t 85),none⟩,0⟩,
  ⟨⟨(some 87),.indexPtr 8 1 (t 86) (ci 3),none⟩,0⟩,
  ⟨⟨(some 88),.load1 (t 87),none⟩,0⟩,
  ⟨⟨(some 89),.mov (t 0),none⟩,0⟩,
  ⟨⟨(some 90),.nilchk (t 89),none⟩,0⟩,
  ⟨⟨(some 91),.indexPtr 8 1 (t 90) (ci 4),none⟩,0⟩,
  ⟨⟨(some 92),.load1 (t 91),none⟩,0⟩,
  ⟨⟨(some 93),.mov (t 0),none⟩,0⟩,
  ⟨⟨(some 94),.nilchk (t 93),none⟩,0⟩,
  ⟨⟨(some 95),.indexPtr 8 1 (t 94) (ci 5),none⟩,0⟩,
  ⟨⟨(some 96),.load1 (t 95),none⟩,0⟩,
  ⟨⟨(some 97),.mov (t 0),none⟩,0⟩,
  ⟨⟨(some 98),.nilchk (t 97),none⟩,0⟩,
  ⟨⟨(some 99),.indexPtr 8 1 (t 98) (ci 6),none⟩,0⟩,
  ⟨⟨(some 100),.load1 (t 99),none⟩,0⟩,
  ⟨⟨(some 101),.mov (t 0),none⟩,0⟩,
  ⟨⟨(some 102),.nilchk (t 101),none⟩,0⟩,
  ⟨⟨(some 103),.indexPtr 8 1 (t 102) (ci 7),none⟩,0⟩,
  ⟨⟨(some 104),.load1 (t 103),none⟩,0⟩,
  ⟨⟨(some 10),.mov (t 76),none⟩,0⟩,
  ⟨⟨(some 11),.mov (t 80),none⟩,0⟩,
  ⟨⟨(some 12),.mov (t 84),none⟩,0⟩,
  ⟨⟨(some 13),.mov (t 88),none⟩,0⟩,
  ⟨⟨(some 14),.mov (t 92),none⟩,0⟩,
  ⟨⟨(some 15),.mov (t 96),none⟩,0⟩,
  ⟨⟨(some 16),.mov (t 100),none⟩,0⟩,
  ⟨⟨(some 17),.mov (t 104),none⟩,0⟩]
def o_sha_words_mix_10 : List TIns := [⟨⟨(some 105),.mov (ci 0),none⟩,0⟩]
def o_sha_words_mix_11 : List TIns := [⟨⟨(some 106),.bin .lss (t 105) (ci 64),none⟩,0⟩]
def o_sha_words_mix_12 : List TIns := [⟨⟨(some 107),.mov (t 105),none⟩,0⟩,
  ⟨⟨(some 18),.mov (t 107),none⟩,0⟩]
def o_sha_words_mix_13 : List TIns := [⟨⟨(some 108),.mov (t 17),none⟩,0⟩,
  ⟨⟨(some 109),.mov (t 14),none⟩,0⟩,
  ⟨⟨(some 111),.mov (t 14),none⟩,0⟩,
  ⟨⟨(some 114),.mov (t 14),none⟩,0⟩,
  ⟨⟨(some 118),.mov (t 14),none⟩,0⟩,
  ⟨⟨(some 119),.mov (t 15),none⟩,0⟩,
  ⟨⟨(some 120),.bin .and (t 118) (t 119),none⟩,0⟩,
  ⟨⟨(some 121),.mov (t 14),none⟩,0⟩,
  ⟨⟨(some 122),.un .xor (t 121),none⟩,0⟩,
  ⟨⟨(some 123),.mov (t 16),none⟩,0⟩,
  ⟨⟨(some 124),.bin .and (t 122) (t 123),none⟩,0⟩,
  ⟨⟨(some 125),.bin .xor (t 120) (t 124),none⟩,0⟩,
  ⟨⟨(some 127),.mov (t 2),none⟩,0⟩,
  ⟨⟨(some 128),.mov (t 18),none⟩,0⟩,
  ⟨⟨(some 129),.nilchk (t 127),none⟩,0⟩,
  ⟨⟨(some 130),.indexPtr 64 1 (t 129) (t 128),none⟩,0⟩,
  ⟨⟨(some 131),.load1 (t 130),none⟩,0⟩,
  ⟨⟨(some 133),.mov (t 18),none⟩,0⟩,
  ⟨⟨(some 134),.indexPtr 64 1 (t 6) (t 133),none⟩,0⟩,
  ⟨⟨(some 135),.load1 (t 134),none⟩,0⟩,
  ⟨⟨(some 110),.call F_sha_right [(t 109),(ci 6)],none⟩,0⟩,
  ⟨⟨(some 112),.call F_sha_right [(t 111),(ci 11)],none⟩,0⟩,
  ⟨⟨(some 113),.bin .xor (t 110) (t 112),none⟩,0⟩,
  ⟨⟨(some 115),.call F_sha_right [(t 114),(ci 25)],none⟩,0⟩,
  ⟨⟨(some 116),.bin .xor (t 113) (t 115),none⟩,0⟩,
  ⟨⟨(some 117),.bin .add (t 108) (t 116),none⟩,0⟩,
  ⟨⟨(some 126),.bin .add (t 117) (t 125),none⟩,0⟩,
  ⟨⟨(some 132),.bin .add (t 126) (t 131),none⟩,0⟩,
  ⟨⟨(some 136),.bin .add (t 132) (t 135),none⟩,0⟩,
  ⟨⟨(some 19),.mov (t 136),none⟩,0⟩]
def o_sha_words_mix_14 : List TIns := [⟨⟨(some 137),.mov (t 10),none⟩,0⟩,
  ⟨⟨(some 138),.call F_sha_right [(t 137),(ci 2)],none⟩,0⟩,
  ⟨⟨(some 139),.mov (t 10),none⟩,0⟩,
  ⟨⟨(some 140),.call F_sha_right [(t 139),(ci 13)],none⟩,0⟩,
  ⟨⟨(some 141),.bin .xor (t 138) (t 140),none⟩,0⟩,
  ⟨⟨(some 142),.mov (t 10),none⟩,0⟩,
  ⟨⟨(some 143),.call F_sha_right [(t 142),(ci 22)],none⟩,0⟩,
  ⟨⟨(some 144),.bin .xor (t 141) (t 143),none⟩,0⟩,
  ⟨⟨(some 145),.mov (t 10),none⟩,0⟩,
  ⟨⟨(some 146),.mov (t 11),none⟩,0⟩,
  ⟨⟨(some 147),.bin .and (t 145) (t 146),none⟩,0⟩,
  ⟨⟨(some 148),.mov (t 10),none⟩,0⟩,
  ⟨⟨(some 149),.mov (t 12),none⟩,0⟩,
  ⟨⟨(some 150),.bin .and (t 148) (t 149),none⟩,0⟩,
  ⟨⟨(some 151),.bin .xor (t 147) (t 150),none⟩,0⟩,
  ⟨⟨(some 152),.mov (t 11),none⟩,0⟩,
  ⟨⟨(some 153),.mov (t 12),none⟩,0⟩,
  ⟨⟨(some 154),.bin .and (t 152) (t 153),none⟩,0⟩,
  ⟨⟨(some 155),.bin .xor (t 151) (t 154),none⟩,0⟩,
  ⟨⟨(some 156),.bin .add (t 144) (t 155),none⟩,0⟩,
  ⟨⟨(some 20),.mov (t 156),none⟩,0⟩]
def o_sha_words_mix_15 : List TIns := [⟨⟨(some 157),.mov (t 19),none⟩,0⟩,
  ⟨⟨(some 158),.mov (t 20),none⟩,0⟩,
  ⟨⟨(some 159),.bin .add (t 157) (t 158),none⟩,0⟩,
  ⟨⟨(some 160),.mov (t 10),none⟩,0⟩,
  ⟨⟨(some 161),.mov (t 11),none⟩,0⟩,
  ⟨⟨(some 162),.mov (t 12),none⟩,0⟩,
  ⟨⟨(some 163),.mov (t 13),none⟩,0⟩,
  ⟨⟨(some 164),.mov (t 19),none⟩,0⟩,
  ⟨⟨(some 165),.bin .add (t 163) (t 164),none⟩,0⟩,
  ⟨⟨(some 166),.mov (t 14),none⟩,0⟩,
  ⟨⟨(some 167),.mov (t 15),none⟩,0⟩,
  ⟨⟨(some 168),.mov (t 16),none⟩,0⟩,
  ⟨⟨(some 10),.mov (t 159),none⟩,0⟩,
  ⟨⟨(some 11),.mov (t 160),none⟩,0⟩,
  ⟨⟨(some 12),.mov (t 161),none⟩,0⟩,
  ⟨⟨(some 13),.mov (t 162),none⟩,0⟩,
  ⟨⟨(some 14),.mov (t 165),none⟩,0⟩,
  ⟨⟨(some 15),.mov (t 166),none⟩,0⟩,
  ⟨⟨(some 16),.mov (t 167),none⟩,0⟩,
  ⟨⟨(some 17),.mov (t 168),none⟩,0⟩]
def o_sha_words_mix_16 : List TIns := [⟨⟨(some 169),.bin .add (t 105) (ci 1),none⟩,0⟩,
  ⟨⟨(some 105),.mov (t 169),none⟩,0⟩]
def l_sha_words_mix_2 : TC := (.seq (.ops o_sha_words_mix_11) (.clean [0,2,6,10,11,12,13,14,15,16,17,105,106] (.seq (.cond (t 106) .skip (.exit 2)) (.clean [0,2,6,10,11,12,13,14,15,16,17,105] (.seq (.block 3 [0,2,6,10,11,12,13,14,15,16,17,105] (.seq (.ops o_sha_words_mix_12) (.clean [0,2,6,10,11,12,13,14,15,16,17,18,105] (.seq (.draw (pl o_sha_words_mix_13)) (.clean [0,2,6,10,11,12,13,14,15,16,19,105] (.seq (.ops o_sha_words_mix_14) (.clean [0,2,6,10,11,12,13,14,15,16,19,20,105] (.ops o_sha_words_mix_15)))))))) (.clean [0,2,6,10,11,12,13,14,15,16,17,105] (.ops o_sha_words_mix_16)))))))
def o_sha_words_mix_17 : List TIns := [⟨⟨(some 170),.mov (t 10),none⟩,0⟩,
  ⟨⟨(some 171),.mov (t 11),none⟩,0⟩,
  ⟨⟨(some 172),.mov (t 12),none⟩,0⟩,
  ⟨⟨(some 173),.mov (t 13),none⟩,0⟩,
  ⟨⟨(some 174),.mov (t 14),none⟩,0⟩,
  ⟨⟨(some 175),.mov (t 15),none⟩,0⟩,
  ⟨⟨(some 176),.mov (t 16),none⟩,0⟩,
  ⟨⟨(some 177),.mov (t 17),none⟩,0⟩,
  ⟨⟨(some 178),.build [(.int .u32 0),(.int .u32 0),(.int .u32 0),(.int .u32 0),(.int .u32 0),(.int .u32 0),(.int .u32 0),(.int .u32 0)] [(0,1,(t 170)),(1,1,(t 171)),(2,1,(t 172)),(3,1,(t 173)),(4,1,(t 174)),(5,1,(t 175)),(6,1,(t 176)),(7,1,(t 177))],none⟩,0⟩,
  ⟨⟨(some 179),.mov (ci 0),none⟩,0⟩]
def o_sha_words_mix_18 : List TIns := [⟨⟨(some 180),.bin .lss (t 179) (ci 8),none⟩,0⟩]
def o_sha_words_mix_19 : List TIns := [⟨⟨(some 181),.mov (t 179),none⟩,0⟩,
  ⟨⟨(some 182),.indexAgg 8 (t 178) (t 179),none⟩,0⟩,
  ⟨⟨(some 21),.mov (t 181),none⟩,0⟩,
  ⟨⟨(some 22),.mov (t 182),none⟩,0⟩]
def o_sha_words_mix_20 : List TIns := [⟨⟨(some 183),.mov (t 0),none⟩,0⟩,
  ⟨⟨(some 184),.mov (t 21),none⟩,0⟩,
  ⟨⟨(some 185),.nilchk (t 183),none⟩,0⟩,
  ⟨⟨(some 186),.indexPtr 8 1 (t 185) (t 184),none⟩,0⟩,
  ⟨⟨(some 187),.load1 (t 186),none⟩,0⟩,
  ⟨⟨(some 188),.mov (t 22),none⟩,0⟩,
  ⟨⟨(some 189),.bin .add (t 187) (t 188),none⟩,0⟩,
  ⟨⟨(some 190),.nilchk (t 183),none⟩,0⟩,
  ⟨⟨(some 191),.indexPtr 8 1 (t 190) (t 184),none⟩,0⟩,
  ⟨⟨none,.store 1 (t 191) (t 189),none⟩,0⟩]
def o_sha_words_mix_21 : List TIns := [⟨⟨(some 192),.bin .add (t 179) (ci 1),none⟩,0⟩,
  ⟨⟨(some 179),.mov (t 192),none⟩,0⟩]
def l_sha_words_mix_3 : TC := (.seq (.ops o_sha_words_mix_18) (.clean [0,178,179,180] (.seq (.cond (t 180) .skip (.exit 4)) (.clean [0,178,179] (.seq (.block 5 [0,178,179] (.seq (.ops o_sha_words_mix_19) (.clean [0,21,22,178,179] (.draw (pl o_sha_words_mix_20))))) (.clean [0,178,179] (.ops o_sha_words_mix_21)))))))
def tc_sha_words_mix : TC := (.seq (.ops o_sha_words_mix_0) (.clean [0,1,2,6] (.seq (.seq (.ops o_sha_words_mix_1) (.block 0 [0,2,6] (.clean [0,1,2,6,23] (.loop [0,1,2,6,23] l_sha_words_mix_1)))) (.clean [0,2,6] (.seq (.draw (pl o_sha_words_mix_9)) (.clean [0,2,6,10,11,12,13,14,15,16,17] (.seq (.seq (.ops o_sha_words_mix_10) (.block 2 [0,10,11,12,13,14,15,16,17] (.clean [0,2,6,10,11,12,13,14,15,16,17,105] (.loop [0,2,6,10,11,12,13,14,15,16,17,105] l_sha_words_mix_2)))) (.clean [0,10,11,12,13,14,15,16,17] (.seq (.ops o_sha_words_mix_17) (.block 4 [] (.clean [0,178,179] (.loop [0,178,179] l_sha_words_mix_3))))))))))))
def fn_sha_words_mix : TFn := ⟨193,tc_sha_words_mix,[],false⟩
theorem U_sha_words_mix : type_of% (And.intro @o_sha_words_mix_0.eq_1 (And.intro @o_sha_words_mix_1.eq_1 (And.intro @o_sha_words_mix_2.eq_1 (And.intro @o_sha_words_mix_3.eq_1 (And.intro @o_sha_words_mix_4.eq_1 (And.intro @o_sha_words_mix_5.eq_1 (And.intro @o_sha_words_mix_6.eq_1 (And.intro @o_sha_words_mix_7.eq_1 (And.intro @o_sha_words_mix_8.eq_1 (And.intro @o_sha_words_mix_9.eq_1 (And.intro @o_sha_words_mix_10.eq_1 (And.intro @o_sha_words_mix_11.eq_1 (And.intro @o_sha_words_mix_12.eq_1 (And.intro @o_sha_words_mix_13.eq_1 (And.intro @o_sha_words_mix_14.eq_1 (And.intro @o_sha_words_mix_15.eq_1 (And.intro @o_sha_words_mix_16.eq_1 (And.intro @o_sha_words_mix_17.eq_1 (And.intro @o_sha_words_mix_18.eq_1 (And.intro @o_sha_words_mix_19.eq_1 (And.intro @o_sha_words_mix_20.eq_1 (And.intro @o_sha_words_mix_21.eq_1 (And.intro @tc_sha_words_mix.eq_1 @fn_sha_words_mix.eq_1))))))))))))))))))))))) := And.intro @o_sha_words_mix_0.eq_1 (And.intro @o_sha_words_mix_1.eq_1 (And.intro @o_sha_words_mix_2.eq_1 (And.intro @o_sha_words_mix_3.eq_1 (And.intro @o_sha_words_mix_4.eq_1 (And.intro @o_sha_words_mix_5.eq_1 (And.intro @o_sha_words_mix_6.eq_1 (And.intro @o_sha_words_mix_7.eq_1 (And.intro @o_sha_words_mix_8.eq_1 (And.intro @o_sha_words_mix_9.eq_1 (And.intro @o_sha_words_mix_10.eq_1 (And.intro @o_sha_words_mix_11.eq_1 (And.intro @o_sha_words_mix_12.eq_1 (And.intro @o_sha_words_mix_13.eq_1 (And.intro @o_sha_words_mix_14.eq_1 (And.intro @o_sha_words_mix_15.eq_1 (And.intro @o_sha_words_mix_16.eq_1 (And.intro @o_sha_words_mix_17.eq_1 (And.intro @o_sha_words_mix_18.eq_1 (And.intro @o_sha_words_mix_19.eq_1 (And.intro @o_sha_words_mix_20.eq_1 (And.intro @o_sha_words_mix_21.eq_1 (And.intro @tc_sha_words_mix.eq_1 @fn_sha_words_mix.eq_1))))))))))))))))))))))
theorem c_sha_words_mix : fnIC Try.prog [(6,⟨[0,1,2,3,4,5,6,7,8,9],[0,1,3,7,0,16,48,112,15,511],[],[]⟩),(7,⟨[0,1,2,3,4,5,7,10,11,14,15,16,17,19,21,24,25,6,8,9,12,13,18,20,22,23,26,27,28,29],[0,0,2,6,14,0,32,0,224,480,0,1024,4064,8190,0,16384,49152,114688,262142,0,524768,0,3670496,7864800,0,16777216,66585056,134217726,268435455,536870911],[],[]⟩),(9,⟨[0,1,2,3,4,5,6,7,8,9,10,11,12,13,14,15,16,17,18,19,20,21,22,23,24,25,26,27,28,29,30,31,32,33,34,35,36,37,38,39],[0,1,3,7,0,16,48,112,0,256,768,1792,0,4096,12288,28672,0,65536,196608,458752,0,1048576,3145728,7340032,0,16777216,50331648,117440512,0,268435456,805306368,1879048192,15,4294967551,12884905983,30064836607,64425558015,133160763391,270851375103,549755813887],[],[]⟩),(13,⟨[0,1,3,6,10,11,12,13,14,15,16,17,19,20,21,22,23,25,26,27,2,4,5,7,8,9,18,24,28,29],[0,0,2,0,14,30,0,94,254,511,0,0,3072,0,8192,0,57344,130048,262143,0,0,524288,3670016,7864320,16777215,0,33554432,100663296,268435455,536870911],[],[]⟩),(20,⟨[0,1,2,3,4,5,6,7,8,9],[0,0,1,7,15,0,63,1,255,511],[],[]⟩)] F_sha_words_mix = some (193,tc_sha_words_mix.erase,[]) := by kernel_rfl
def o_sha_number_0 : List TIns := [⟨⟨(some 2),.mov (.const (Go.Value.int Go.IntKind.u32 0)),none⟩,0⟩]
def o_sha_number_1 : List TIns := [⟨⟨(some 3),.mov (t 0),none⟩,0⟩,
  ⟨⟨(some 4),.indexStr (t 3) (ci 0),none⟩,0⟩,
  ⟨⟨(some 5),.conv .u32 (t 4),none⟩,0⟩,
  ⟨⟨(some 6),.bin .shl (t 5) (.const (Go.Value.int Go.IntKind.u64 24)),none⟩,0⟩,
  ⟨⟨(some 7),.mov (t 0),none⟩,0⟩,
  ⟨⟨(some 8),.indexStr (t 7) (ci 1),none⟩,0⟩,
  ⟨⟨(some 9),.conv .u32 (t 8),none⟩,0⟩,
  ⟨⟨(some 10),.bin .shl (t 9) (.const (Go.Value.int Go.IntKind.u64 16)),none⟩,0⟩,
  ⟨⟨(some 11),.bin .or (t 6) (t 10),none⟩,0⟩,
  ⟨⟨(some 12),.mov (t 0),none⟩,0⟩,
  ⟨⟨(some 13),.indexStr (t 12) (ci 2),none⟩,0⟩,
  ⟨⟨(some 14),.conv .u32 (t 13),none⟩,0⟩,
  ⟨⟨(some 15),.bin .shl (t 14) (.const (Go.Value.int Go.IntKind.u64 8)),none⟩,0⟩,
  ⟨⟨(some 16),.bin .or (t 11) (t 15),none⟩,0⟩,
  ⟨⟨(some 17),.mov (t 0),none⟩,0⟩,
  ⟨⟨(some 18),.indexStr (t 17) (ci 3),none⟩,0⟩,
  ⟨⟨(some 19),.conv .u32 (t 18),none⟩,0⟩,
  ⟨⟨(some 20),.bin .or (t 16) (t 19),none⟩,0⟩,
  ⟨⟨(some 2),.mov (t 20),none⟩,0⟩]
def tc_sha_number : TC := (.seq (.ops o_sha_number_0) (.clean [0] (.seq (.draw (pl o_sha_number_1)) (.ret [2]))))
def fn_sha_number : TFn := ⟨21,tc_sha_number,[.tmp 2],false⟩
theorem U_sha_number : type_of% (And.intro @o_sha_number_0.eq_1 (And.intro @o_sha_number_1.eq_1 (And.intro @tc_sha_number.eq_1 @fn_sha_number.eq_1))) := And.intro @o_sha_number_0.eq_1 (And.intro @o_sha_number_1.eq_1 (And.intro @tc_sha_number.eq_1 @fn_sha_number.eq_1))
theorem c_sha_number : fnIC Try.prog [(1,⟨[0,1,2,3,4,5,6,7,8,9,10,11,12,13,14,15,16,17,18],[0,1,3,7,0,16,48,112,255,0,512,1536,3584,8191,0,16384,49152,131071,262143],[],[]⟩)] F_sha_number = some (21,tc_sha_number.erase,[.tmp 2]) := by kernel_rfl
def o_sha_right_0 : List TIns := [⟨⟨(some 4),.mov (.const (Go.Value.int Go.IntKind.u32 0)),none⟩,0⟩]
def o_sha_right_1 : List TIns := [⟨⟨(some 5),.mov (t 0),none⟩,0⟩,
  ⟨⟨(some 6),.mov (t 1),none⟩,0⟩,
  ⟨⟨(some 7),.un .neg (t 6),none⟩,0⟩,
  ⟨⟨(some 8),.call F_math_bits_RotateLeft32 [(t 5),(t 7)],none⟩,0⟩,
  ⟨⟨(some 4),.mov (t 8),none⟩,0⟩]
def tc_sha_right : TC := (.seq (.ops o_sha_right_0) (.clean [0,1] (.seq (.ops o_sha_right_1) (.ret [4]))))
def fn_sha_right : TFn := ⟨9,tc_sha_right,[.tmp 4],false⟩
theorem U_sha_right : type_of% (And.intro @o_sha_right_0.eq_1 (And.intro @o_sha_right_1.eq_1 (And.intro @tc_sha_right.eq_1 @fn_sha_right.eq_1))) := And.intro @o_sha_right_0.eq_1 (And.intro @o_sha_right_1.eq_1 (And.intro @tc_sha_right.eq_1 @fn_sha_right.eq_1))
theorem c_sha_right : fnIC Try.prog [] F_sha_right = some (9,tc_sha_right.erase,[.tmp 4]) := by kernel_rfl
def o_math_bits_RotateLeft32_0 : List TIns := [⟨⟨(some 4),.mov (.const (Go.Value.int Go.IntKind.u32 0)),none⟩,0⟩]
def o_math_bits_RotateLeft32_1 : List TIns := [⟨⟨(some 6),.mov (t 1),none⟩,0⟩,
  ⟨⟨(some 7),.conv .u64 (t 6),none⟩,0⟩,
  ⟨⟨(some 8),.bin .and (t 7) (.const (Go.Value.int Go.IntKind.u64 31)),none⟩,0⟩,
  ⟨⟨(some 5),.mov (t 8),none⟩,0⟩]
def o_math_bits_RotateLeft32_2 : List TIns := [⟨⟨(some 9),.mov (t 0),none⟩,0⟩,
  ⟨⟨(some 10),.mov (t 5),none⟩,0⟩,
  ⟨⟨(some 11),.bin .shl (t 9) (t 10),none⟩,0⟩,
  ⟨⟨(some 12),.mov (t 0),none⟩,0⟩,
  ⟨⟨(some 13),.mov (t 5),none⟩,0⟩,
  ⟨⟨(some 14),.bin .sub (.const (Go.Value.int Go.IntKind.u64 32)) (t 13),none⟩,0⟩,
  ⟨⟨(some 15),.bin .shr (t 12) (t 14),none⟩,0⟩,
  ⟨⟨(some 16),.bin .or (t 11) (t 15),none⟩,0⟩,
  ⟨⟨(some 4),.mov (t 16),none⟩,0⟩]
def tc_math_bits_RotateLeft32 : TC := (.seq (.ops o_math_bits_RotateLeft32_0) (.clean [0,1] (.seq (.ops o_math_bits_RotateLeft32_1) (.clean [0,5] (.seq (.ops o_math_bits_RotateLeft32_2) (.ret [4]))))))
def fn_math_bits_RotateLeft32 : TFn := ⟨17,tc_math_bits_RotateLeft32,[.tmp 4],false⟩
theorem U_math_bits_RotateLeft32 : type_of% (And.intro @o_math_bits_RotateLeft32_0.eq_1 (And.intro @o_math_bits_RotateLeft32_1.eq_1 (And.intro @o_math_bits_RotateLeft32_2.eq_1 (And.intro @tc_math_bits_RotateLeft32.eq_1 @fn_math_bits_RotateLeft32.eq_1)))) := And.intro @o_math_bits_RotateLeft32_0.eq_1 (And.intro @o_math_bits_RotateLeft32_1.eq_1 (And.intro @o_math_bits_RotateLeft32_2.eq_1 (And.intro @tc_math_bits_RotateLeft32.eq_1 @fn_math_bits_RotateLeft32.eq_1)))
theorem c_math_bits_RotateLeft32 : fnIC Try.prog [] F_math_bits_RotateLeft32 = some (17,tc_math_bits_RotateLeft32.erase,[.tmp 4]) := by kernel_rfl
def o_sha_Short_0 : List TIns := [⟨⟨(some 2),.mov (.const (Go.Value.string ⟨#[]⟩)),none⟩,0⟩]
def o_sha_Short_1 : List TIns := [⟨⟨(some 3),.mov (t 0),none⟩,0⟩,
  ⟨⟨(some 4),.call F_sha_Sum [(t 3)],none⟩,0⟩,
  ⟨⟨(some 5),.sliceStr (t 4) none (some (ci 16)),none⟩,0⟩,
  ⟨⟨(some 2),.mov (t 5),none⟩,0⟩]
def tc_sha_Short : TC := (.seq (.ops o_sha_Short_0) (.clean [0] (.seq (.ops o_sha_Short_1) (.ret [2]))))
def fn_sha_Short : TFn := ⟨6,tc_sha_Short,[.tmp 2],false⟩
theorem U_sha_Short : type_of% (And.intro @o_sha_Short_0.eq_1 (And.intro @o_sha_Short_1.eq_1 (And.intro @tc_sha_Short.eq_1 @fn_sha_Short.eq_1))) := And.intro @o_sha_Short_0.eq_1 (And.intro @o_sha_Short_1.eq_1 (And.intro @tc_sha_Short.eq_1 @fn_sha_Short.eq_1))
theorem c_sha_Short : fnIC Try.prog [] F_sha_Short = some (6,tc_sha_Short.erase,[.tmp 2]) := by kernel_rfl
def o_sha_Hex_0 : List TIns := [⟨⟨(some 2),.mov (.const (Go.Value.string ⟨#[]⟩)),none⟩,0⟩]
def o_sha_Hex_1 : List TIns := [⟨⟨(some 3),.box T_strings_Builder 2 (.const (.agg #[(.pointer none),(.slice none 0 0)])),none⟩,0⟩]
def o_sha_Hex_2 : List TIns := [⟨⟨(some 5),.mov (t 0),none⟩,0⟩,
  ⟨⟨(some 6),.lenS (t 5),none⟩,0⟩,
  ⟨⟨(some 7),.mov (ci 0),none⟩,0⟩]
def o_sha_Hex_3 : List TIns := [⟨⟨(some 8),.bin .lss (t 7) (t 6),none⟩,0⟩]
def o_sha_Hex_4 : List TIns := [⟨⟨(some 9),.mov (t 7),none⟩,0⟩,
  ⟨⟨(some 4),.mov (t 9),none⟩,0⟩]
def o_sha_Hex_5 : List TIns := [⟨⟨(some 10),.mov (t 0),none⟩,0⟩,
  ⟨⟨(some 11),.mov (t 4),none⟩,0⟩,
  ⟨⟨(some 12),.indexStr (t 10) (t 11),none⟩,0⟩,
  ⟨⟨(some 13),.bin .quo (t 12) (.const (Go.Value.int Go.IntKind.u8 16)),none⟩,0⟩,
  ⟨⟨(some 14),.indexStr (.const (Go.Value.string ⟨#[48,49,50,51,52,53,54,55,56,57,97,98,99,100,101,102]⟩)) (t 13),none⟩,0⟩,
  ⟨⟨(some 15),.call F_strings_Builder_WriteByte [(t 3),(t 14)],none⟩,0⟩]
def o_sha_Hex_6 : List TIns := [⟨⟨(some 16),.mov (t 0),none⟩,0⟩,
  ⟨⟨(some 17),.mov (t 4),none⟩,0⟩,
  ⟨⟨(some 18),.indexStr (t 16) (t 17),none⟩,0⟩,
  ⟨⟨(some 19),.bin .rem (t 18) (.const (Go.Value.int Go.IntKind.u8 16)),none⟩,0⟩,
  ⟨⟨(some 20),.indexStr (.const (Go.Value.string ⟨#[48,49,50,51,52,53,54,55,56,57,97,98,99,100,101,102]⟩)) (t 19),none⟩,0⟩,
  ⟨⟨(some 21),.call F_strings_Builder_WriteByte [(t 3),(t 20)],none⟩,0⟩]
def o_sha_Hex_7 : List TIns := [⟨⟨(some 22),.bin .add (t 7) (ci 1),none⟩,0⟩,
  ⟨⟨(some 7),.mov (t 22),none⟩,0⟩]
def l_sha_Hex_1 : TC := (.seq (.ops o_sha_Hex_3) (.clean [0,3,6,7,8] (.seq (.cond (t 8) .skip (.exit 0)) (.clean [0,3,6,7] (.seq (.block 1 [0,3,6,7] (.seq (.ops o_sha_Hex_4) (.clean [0,3,4,6,7] (.seq (.ops o_sha_Hex_5) (.clean [0,3,4,6,7] (.ops o_sha_Hex_6)))))) (.clean [0,3,6,7] (.ops o_sha_Hex_7)))))))
def o_sha_Hex_8 : List TIns := [⟨⟨(some 23),.call F_strings_Builder_String [(t 3)],none⟩,0⟩,
  ⟨⟨(some 2),.mov (t 23),none⟩,0⟩]
def tc_sha_Hex : TC := (.seq (.ops o_sha_Hex_0) (.clean [0] (.seq (.ops o_sha_Hex_1) (.clean [0,3] (.seq (.seq (.ops o_sha_Hex_2) (.block 0 [3] (.clean [0,3,6,7] (.loop [0,3,6,7] l_sha_Hex_1)))) (.clean [3] (.seq (.ops o_sha_Hex_8) (.ret [2]))))))))
def fn_sha_Hex : TFn := ⟨24,tc_sha_Hex,[.tmp 2],false⟩
theorem U_sha_Hex : type_of% (And.intro @o_sha_Hex_0.eq_1 (And.intro @o_sha_Hex_1.eq_1 (And.intro @o_sha_Hex_2.eq_1 (And.intro @o_sha_Hex_3.eq_1 (And.intro @o_sha_Hex_4.eq_1 (And.intro @o_sha_Hex_5.eq_1 (And.intro @o_sha_Hex_6.eq_1 (And.intro @o_sha_Hex_7.eq_1 (And.intro @o_sha_Hex_8.eq_1 (And.intro @tc_sha_Hex.eq_1 @fn_sha_Hex.eq_1)))))))))) := And.intro @o_sha_Hex_0.eq_1 (And.intro @o_sha_Hex_1.eq_1 (And.intro @o_sha_Hex_2.eq_1 (And.intro @o_sha_Hex_3.eq_1 (And.intro @o_sha_Hex_4.eq_1 (And.intro @o_sha_Hex_5.eq_1 (And.intro @o_sha_Hex_6.eq_1 (And.intro @o_sha_Hex_7.eq_1 (And.intro @o_sha_Hex_8.eq_1 (And.intro @tc_sha_Hex.eq_1 @fn_sha_Hex.eq_1)))))))))
theorem c_sha_Hex : fnIC Try.prog [] F_sha_Hex = some (24,tc_sha_Hex.erase,[.tmp 2]) := by kernel_rfl
def o_handselref01_Sum_0 : List TIns := [⟨⟨(some 2),.mov (.const (Go.Value.string ⟨#[]⟩)),none⟩,0⟩]
def o_handselref01_Sum_1 : List TIns := [⟨⟨(some 11),.mov (t 0),none⟩,0⟩,
  ⟨⟨(some 12),.toBytes T_uint8 (t 11),none⟩,2⟩,
  ⟨⟨(some 13),.buildSl T_uint8 1 1 [(.int .u8 0)] [(0,1,(.const (Go.Value.int Go.IntKind.u8 128)))],none⟩,0⟩,
  ⟨⟨(some 14),.append T_uint8 1 1 (t 12) (t 13),none⟩,0⟩,
  ⟨⟨(some 3),.mov (t 14),none⟩,0⟩]
def o_handselref01_Sum_2 : List TIns := [⟨⟨(some 15),.mov (t 3),none⟩,0⟩,
  ⟨⟨(some 16),.lenL (t 15),none⟩,0⟩,
  ⟨⟨(some 17),.bin .rem (t 16) (ci 64),none⟩,0⟩,
  ⟨⟨(some 18),.bin .neq (t 17) (ci 56),none⟩,0⟩]
def o_handselref01_Sum_3 : List TIns := [⟨⟨(some 19),.mov (t 3),none⟩,0⟩,
  ⟨⟨(some 20),.buildSl T_uint8 1 1 [(.int .u8 0)] [(0,1,(.const (Go.Value.int Go.IntKind.u8 0)))],none⟩,0⟩,
  ⟨⟨(some 21),.append T_uint8 1 1 (t 19) (t 20),none⟩,0⟩,
  ⟨⟨(some 3),.mov (t 21),none⟩,0⟩]
def l_handselref01_Sum_1 : TC := (.seq (.seq (.ops o_handselref01_Sum_2) (.clean [0,3,18] (.cond (t 18) .skip (.exit 0)))) (.block 1 [0,3] (.ops o_handselref01_Sum_3)))
def o_handselref01_Sum_4 : List TIns := [⟨⟨(some 22),.mov (t 0),none⟩,0⟩,
  ⟨⟨(some 23),.lenS (t 22),none⟩,0⟩,
  ⟨⟨(some 24),.conv .u64 (t 23),none⟩,0⟩,
  ⟨⟨(some 25),.bin .mul (t 24) (.const (Go.Value.int Go.IntKind.u64 8)),none⟩,0⟩,
  ⟨⟨(some 4),.mov (t 25),none⟩,0⟩]
def o_handselref01_Sum_5 : List TIns := [⟨⟨(some 5),.mov (ci 0),none⟩,0⟩]
def o_handselref01_Sum_6 : List TIns := [⟨⟨(some 26),.mov (t 5),none⟩,0⟩,
  ⟨⟨(some 27),.bin .lss (t 26) (ci 8),none⟩,0⟩]
def o_handselref01_Sum_8 : List TIns := [⟨⟨(some 30),.mov (t 3),none⟩,0⟩,
  ⟨⟨(some 31),.mov (t 4),none⟩,0⟩,
  ⟨⟨(some 32),.mov (t 5),none⟩,0⟩,
  ⟨⟨(some 33),.bin .mul (ci 8) (t 32),none⟩,0⟩,
  ⟨⟨(some 34),.bin .sub (ci 56) (t 33),none⟩,0⟩,
  ⟨⟨(some 35),.conv .u64 (t 34),none⟩,0⟩,
  ⟨⟨(some 36),.bin .shr (t 31) (t 35),none⟩,0⟩,
  ⟨⟨(some 37),.conv .u8 (t 36),none⟩,0⟩,
  ⟨⟨(some 38),.buildSl T_uint8 1 1 [(.int .u8 0)] [(0,1,(t 37))],none⟩,0⟩,
  ⟨⟨(some 39),.append T_uint8 1 1 (t 30) (t 38),none⟩,0⟩,
  ⟨⟨(some 3),.mov (t 39),none⟩,0⟩]
def o_handselref01_Sum_7 : List TIns := [⟨⟨(some 28),.mov (t 5),none⟩,0⟩,
  ⟨⟨(some 29),.bin .add (t 28) (ci 1),none⟩,0⟩,
  ⟨⟨(some 5),.mov (t 29),none⟩,0⟩]
def l_handselref01_Sum_2 : TC := (.seq (.seq (.ops o_handselref01_Sum_6) (.clean [3,4,5,27] (.cond (t 27) .skip (.exit 2)))) (.clean [3,4,5] (.seq (.block 3 [3,4,5] (.ops o_handselref01_Sum_8)) (.clean [3,4,5] (.ops o_handselref01_Sum_7)))))
def o_handselref01_Sum_9 : List TIns := [⟨⟨(some 40),.mov (t 3),none⟩,0⟩,
  ⟨⟨(some 41),.toStr (t 40),none⟩,0⟩,
  ⟨⟨(some 6),.mov (t 41),none⟩,0⟩]
def o_handselref01_Sum_10 : List TIns := [⟨⟨(some 42),.build [(.int .u32 0),(.int .u32 0),(.int .u32 0),(.int .u32 0),(.int .u32 0),(.int .u32 0),(.int .u32 0),(.int .u32 0)] [(0,1,(.const (Go.Value.int Go.IntKind.u32 1779033703))),(1,1,(.const (Go.Value.int Go.IntKind.u32 3144134277))),(2,1,(.const (Go.Value.int Go.IntKind.u32 1013904242))),(3,1,(.const (Go.Value.int Go.IntKind.u32 2773480762))),(4,1,(.const (Go.Value.int Go.IntKind.u32 1359893119))),(5,1,(.const (Go.Value.int Go.IntKind.u32 2600822924))),(6,1,(.const (Go.Value.int Go.IntKind.u32 528734635))),(7,1,(.const (Go.Value.int Go.IntKind.u32 1541459225)))],none⟩,0⟩,
  ⟨⟨(some 7),.box T_8_uint32 8 (.const (.agg #[(.int .u32 0),(.int .u32 0),(.int .u32 0),(.int .u32 0),(.int .u32 0),(.int .u32 0),(.int .u32 0),(.int .u32 0)])),none⟩,0⟩,
  ⟨⟨none,.store 8 (t 7) (t 42),none⟩,0⟩]
def o_handselref01_Sum_11 : List TIns := [⟨⟨(some 8),.mov (ci 0),none⟩,0⟩]
def o_handselref01_Sum_12 : List TIns := [⟨⟨(some 43),.mov (t 8),none⟩,0⟩,
  ⟨⟨(some 44),.mov (t 6),none⟩,0⟩,
  ⟨⟨(some 45),.lenS (t 44),none⟩,0⟩,
  ⟨⟨(some 46),.bin .lss (t 43) (t 45),none⟩,0⟩]
def o_handselref01_Sum_14 : List TIns := [⟨⟨(some 49),.loadN 8 (t 7),none⟩,0⟩,
  ⟨⟨(some 50),.mov (t 6),none⟩,0⟩,
  ⟨⟨(some 51),.mov (t 8),none⟩,0⟩,
  ⟨⟨(some 52),.mov (t 8),none⟩,0⟩,
  ⟨⟨(some 53),.bin .add (t 52) (ci 64),none⟩,0⟩,
  ⟨⟨(some 54),.sliceStr (t 50) (some (t 51)) (some (t 53)),none⟩,0⟩,
  ⟨⟨(some 55),.call F_handselref01_block [(t 49),(t 54)],none⟩,0⟩,
  ⟨⟨none,.store 8 (t 7) (t 55),none⟩,0⟩]
def o_handselref01_Sum_13 : List TIns := [⟨⟨(some 47),.mov (t 8),none⟩,0⟩,
  ⟨⟨(some 48),.bin .add (t 47) (ci 64),none⟩,0⟩,
  ⟨⟨(some 8),.mov (t 48),none⟩,0⟩]
def l_handselref01_Sum_3 : TC := (.seq (.seq (.ops o_handselref01_Sum_12) (.clean [6,7,8,46] (.cond (t 46) .skip (.exit 4)))) (.clean [6,7,8] (.seq (.block 5 [6,7,8] (.draw (pl o_handselref01_Sum_14))) (.clean [6,7,8] (.ops o_handselref01_Sum_13)))))
def o_handselref01_Sum_15 : List TIns := [⟨⟨(some 9),.mov (.const (Go.Value.slice none 0 0)),none⟩,1⟩]
def o_handselref01_Sum_16 : List TIns := [⟨⟨(some 10),.mov (ci 0),none⟩,0⟩]
def o_handselref01_Sum_17 : List TIns := [⟨⟨(some 56),.mov (t 10),none⟩,0⟩,
  ⟨⟨(some 57),.bin .lss (t 56) (ci 8),none⟩,0⟩]
def o_handselref01_Sum_19 : List TIns := [⟨⟨(some 60),.mov (t 9),none⟩,0⟩,
  ⟨⟨(some 61),.mov (t 10),none⟩,0⟩,
  ⟨⟨(some 62),.indexPtr 8 1 (t 7) (t 61),none⟩,0⟩,
  ⟨⟨(some 63),.load1 (t 62),none⟩,0⟩,
  ⟨⟨(some 64),.bin .shr (t 63) (.const (Go.Value.int Go.IntKind.u64 24)),none⟩,0⟩,
  ⟨⟨(some 65),.conv .u8 (t 64),none⟩,0⟩,
  ⟨⟨(some 66),.mov (t 10),none⟩,0⟩,
  ⟨⟨(some 67),.indexPtr 8 1 (t 7) (t 66),none⟩,0⟩,
  ⟨⟨(some 68),.load1 (t 67),none⟩,0⟩,
  ⟨⟨(some 69),.bin .shr (t 68) (.const (Go.Value.int Go.IntKind.u64 16)),none⟩,0⟩,
  ⟨⟨(some 70),.conv .u8 (t 69),none⟩,0⟩,
  ⟨⟨(some 71),.mov (t 10),none⟩,0⟩,
  ⟨⟨(some 72),.indexPtr 8 1 (t 7) (t 71),none⟩,0⟩,
  ⟨⟨(some 73),.load1 (t 72),none⟩,0⟩,
  ⟨⟨(some 74),.bin .shr (t 73) (.const (Go.Value.int Go.IntKind.u64 8)),none⟩,0⟩,
  ⟨⟨(some 75),.conv .u8 (t 74),none⟩,0⟩,
  ⟨⟨(some 76),.mov (t 10),none⟩,0⟩,
  ⟨⟨(some 77),.indexPtr 8 1 (t 7) (t 76),none⟩,0⟩,
  ⟨⟨(some 78),.load1 (t 77),none⟩,0⟩,
  ⟨⟨(some 79),.conv .u8 (t 78),none⟩,0⟩,
  ⟨⟨(some 80),.buildSl T_uint8 1 4 [(.int .u8 0),(.int .u8 0),(.int .u8 0),(.int .u8 0)] [(0,1,(t 65)),(1,1,(t 70)),(2,1,(t 75)),(3,1,(t 79))],none⟩,0⟩,
  ⟨⟨(some 81),.append T_uint8 1 1 (t 60) (t 80),none⟩,0⟩,
  ⟨⟨(some 9),.mov (t 81),none⟩,0⟩]
def o_handselref01_Sum_18 : List TIns := [⟨⟨(some 58),.mov (t 10),none⟩,0⟩,
  ⟨⟨(some 59),.bin .add (t 58) (ci 1),none⟩,0⟩,
  ⟨⟨(some 10),.mov (t 59),none⟩,0⟩]
def l_handselref01_Sum_4 : TC := (.seq (.seq (.ops o_handselref01_Sum_17) (.clean [7,9,10,57] (.cond (t 57) .skip (.exit 6)))) (.clean [7,9,10] (.seq (.block 7 [7,9,10] (.draw (pl o_handselref01_Sum_19))) (.clean [7,9,10] (.ops o_handselref01_Sum_18)))))
def o_handselref01_Sum_20 : List TIns := [⟨⟨(some 82),.mov (t 9),none⟩,0⟩,
  ⟨⟨(some 83),.toStr (t 82),none⟩,0⟩,
  ⟨⟨(some 2),.mov (t 83),none⟩,0⟩]
def tc_handselref01_Sum : TC := (.seq (.ops o_handselref01_Sum_0) (.clean [0] (.seq (.ops o_handselref01_Sum_1) (.clean [0,3] (.seq (.block 0 [0,3] (.clean [0,3] (.loop [0,3] l_handselref01_Sum_1))) (.clean [0,3] (.seq (.ops o_handselref01_Sum_4) (.clean [3,4] (.seq (.seq (.ops o_handselref01_Sum_5) (.block 2 [3] (.clean [3,4,5] (.loop [3,4,5] l_handselref01_Sum_2)))) (.clean [3] (.seq (.ops o_handselref01_Sum_9) (.clean [6] (.seq (.ops o_handselref01_Sum_10) (.clean [6,7] (.seq (.seq (.ops o_handselref01_Sum_11) (.block 4 [7] (.clean [6,7,8] (.loop [6,7,8] l_handselref01_Sum_3)))) (.clean [7] (.seq (.ops o_handselref01_Sum_15) (.clean [7,9] (.seq (.seq (.ops o_handselref01_Sum_16) (.block 6 [9] (.clean [7,9,10] (.loop [7,9,10] l_handselref01_Sum_4)))) (.clean [9] (.seq (.ops o_handselref01_Sum_20) (.ret [2]))))))))))))))))))))))
def fn_handselref01_Sum : TFn := ⟨84,tc_handselref01_Sum,[.tmp 2],false⟩
theorem U_handselref01_Sum : type_of% (And.intro @o_handselref01_Sum_0.eq_1 (And.intro @o_handselref01_Sum_1.eq_1 (And.intro @o_handselref01_Sum_2.eq_1 (And.intro @o_handselref01_Sum_3.eq_1 (And.intro @o_handselref01_Sum_4.eq_1 (And.intro @o_handselref01_Sum_5.eq_1 (And.intro @o_handselref01_Sum_6.eq_1 (And.intro @o_handselref01_Sum_8.eq_1 (And.intro @o_handselref01_Sum_7.eq_1 (And.intro @o_handselref01_Sum_9.eq_1 (And.intro @o_handselref01_Sum_10.eq_1 (And.intro @o_handselref01_Sum_11.eq_1 (And.intro @o_handselref01_Sum_12.eq_1 (And.intro @o_handselref01_Sum_14.eq_1 (And.intro @o_handselref01_Sum_13.eq_1 (And.intro @o_handselref01_Sum_15.eq_1 (And.intro @o_handselref01_Sum_16.eq_1 (And.intro @o_handselref01_Sum_17.eq_1 (And.intro @o_handselref01_Sum_19.eq_1 (And.intro @o_handselref01_Sum_18.eq_1 (And.intro @o_handselref01_Sum_20.eq_1 (And.intro @tc_handselref01_Sum.eq_1 @fn_handselref01_Sum.eq_1)))))))))))))))))))))) := And.intro @o_handselref01_Sum_0.eq_1 (And.intro @o_handselref01_Sum_1.eq_1 (And.intro @o_handselref01_Sum_2.eq_1 (And.intro @o_handselref01_Sum_3.eq_1 (And.intro @o_handselref01_Sum_4.eq_1 (And.intro @o_handselref01_Sum_5.eq_1 (And.intro @o_handselref01_Sum_6.eq_1 (And.intro @o_handselref01_Sum_8.eq_1 (And.intro @o_handselref01_Sum_7.eq_1 (And.intro @o_handselref01_Sum_9.eq_1 (And.intro @o_handselref01_Sum_10.eq_1 (And.intro @o_handselref01_Sum_11.eq_1 (And.intro @o_handselref01_Sum_12.eq_1 (And.intro @o_handselref01_Sum_14.eq_1 (And.intro @o_handselref01_Sum_13.eq_1 (And.intro @o_handselref01_Sum_15.eq_1 (And.intro @o_handselref01_Sum_16.eq_1 (And.intro @o_handselref01_Sum_17.eq_1 (And.intro @o_handselref01_Sum_19.eq_1 (And.intro @o_handselref01_Sum_18.eq_1 (And.intro @o_handselref01_Sum_20.eq_1 (And.intro @tc_handselref01_Sum.eq_1 @fn_handselref01_Sum.eq_1)))))))))))))))))))))
theorem c_handselref01_Sum : fnIC Try.prog [(14,⟨[0,1,2,3,4,5,6,7],[0,0,0,0,8,30,63,127],[],[]⟩),(19,⟨[0,1,2,3,4,5,6,7,8,9,10,11,12,13,14,15,16,17,18,19,20,21,22],[0,0,2,6,14,30,0,64,192,448,960,0,2048,6144,14336,30720,0,65536,196608,458752,1048574,2097151,4194303],[],[]⟩)] F_handselref01_Sum = some (84,tc_handselref01_Sum.erase,[.tmp 2]) := by kernel_rfl
def o_handselref01_block_0 : List TIns := [⟨⟨(some 2),.box T_8_uint32 8 (t 0),none⟩,0⟩,
  ⟨⟨(some 4),.box T_8_uint32 8 (.const (.agg #[(.int .u32 0),(.int .u32 0),(.int .u32 0),(.int .u32 0),(.int .u32 0),(.int .u32 0),(.int .u32 0),(.int .u32 0)])),none⟩,0⟩]
def o_handselref01_block_1 : List TIns := [⟨⟨(some 5),.box T_64_uint32 64 (.const (.agg #[(.int .u32 0),(.int .u32 0),(.int .u32 0),(.int .u32 0),(.int .u32 0),(.int .u32 0),(.int .u32 0),(.int .u32 0),(.int .u32 0),(.int .u32 0),(.int .u32 0),(.int .u32 0),(.int .u32 0),(.int .u32 0),(.int .u32 0),(.int .u32 0),(.int .u32 0),(.int .u32 0),(.int .u32 0),(.int .u32 0),(.int .u32 0),(.int .u32 0),(.int .u32 0),(.int .u32 0),(.int .u32 0),(.int .u32 0),(.int .u32 0),(.int .u32 0),(.int .u32 0),(.int .u32 0),(.int .u32 0),(.int .u32 0),(.int .u32 0),(.int .u32 0),(.int .u32 0),(.int .u32 0),(.int .u32 0),(.int .u32 0),(.int .u32 0),(.int .u32 0),(.int .u32 0),(.int .u32 0),(.int .u32 0),(.int .u32 0),(.int .u32 0),(.int .u32 0),(.int .u32 0),(.int .u32 0),(.int .u32 0),(.int .u32 0),(.int .u32 0),(.int .u32 0),(.int .u32 0),(.int .u32 0),(.int .u32 0),(.int .u32 0),(.int .u32 0),(.int .u32 0),(.int .u32 0),(.int .u32 0),(.int .u32 0),(.int .u32 0),(.int .u32 0),(.int .u32 0)])),none⟩,0⟩]
def o_handselref01_block_2 : List TIns := [⟨⟨(some 18),.call F_handselref01_table [],none⟩,0⟩,
  ⟨⟨(some 6),.box T_64_uint32 64 (.const (.agg #[(.int .u32 0),(.int .u32 0),(.int .u32 0),(.int .u32 0),(.int .u32 0),(.int .u32 0),(.int .u32 0),(.int .u32 0),(.int .u32 0),(.int .u32 0),(.int .u32 0),(.int .u32 0),(.int .u32 0),(.int .u32 0),(.int .u32 0),(.int .u32 0),(.int .u32 0),(.int .u32 0),(.int .u32 0),(.int .u32 0),(.int .u32 0),(.int .u32 0),(.int .u32 0),(.int .u32 0),(.int .u32 0),(.int .u32 0),(.int .u32 0),(.int .u32 0),(.int .u32 0),(.int .u32 0),(.int .u32 0),(.int .u32 0),(.int .u32 0),(.int .u32 0),(.int .u32 0),(.int .u32 0),(.int .u32 0),(.int .u32 0),(.int .u32 0),(.int .u32 0),(.int .u32 0),(.int .u32 0),(.int .u32 0),(.int .u32 0),(.int .u32 0),(.int .u32 0),(.int .u32 0),(.int .u32 0),(.int .u32 0),(.int .u32 0),(.int .u32 0),(.int .u32 0),(.int .u32 0),(.int .u32 0),(.int .u32 0),(.int .u32 0),(.int .u32 0),(.int .u32 0),(.int .u32 0),(.int .u32 0),(.int .u32 0),(.int .u32 0),(.int .u32 0),(.int .u32 0)])),none⟩,0⟩,
  ⟨⟨none,.store 64 (t 6) (t 18),none⟩,0⟩]
def o_handselref01_block_3 : List TIns := [⟨⟨(some 7),.mov (ci 0),none⟩,0⟩]
def o_handselref01_block_4 : List TIns := [⟨⟨(some 19),.mov (t 7),none⟩,0⟩,
  ⟨⟨(some 20),.bin .lss (t 19) (ci 16),none⟩,0⟩]
def o_handselref01_block_6 : List TIns := [⟨⟨(some 23),.mov (t 7),none⟩,0⟩,
  ⟨⟨(some 24),.mov (t 1),none⟩,0⟩,
  ⟨⟨(some 25),.mov (t 7),none⟩,0⟩,
  ⟨⟨(some 26),.bin .mul (ci 4) (t 25),none⟩,0⟩,
  ⟨⟨(some 27),.indexStr (t 24) (t 26),none⟩,0⟩,
  ⟨⟨(some 28),.conv .u32 (t 27),none⟩,0⟩,
  ⟨⟨(some 29),.bin .shl (t 28) (.const (Go.Value.int Go.IntKind.u64 24)),none⟩,0⟩,
  ⟨⟨(some 30),.mov (t 1),none⟩,0⟩,
  ⟨⟨(some 31),.mov (t 7),none⟩,0⟩,
  ⟨⟨(some 32),.bin .mul (ci 4) (t 31),none⟩,0⟩,
  ⟨⟨(some 33),.bin .add (t 32) (ci 1),none⟩,0⟩,
  ⟨⟨(some 34),.indexStr (t 30) (t 33),none⟩,0⟩,
  ⟨⟨(some 35),.conv .u32 (t 34),none⟩,0⟩,
  ⟨⟨(some 36),.bin .shl (t 35) (.const (Go.Value.int Go.IntKind.u64 16)),none⟩,0⟩,
  ⟨⟨(some 37),.bin .or (t 29) (t 36),none⟩,0⟩,
  ⟨⟨(some 38),.mov (t 1),none⟩,0⟩,
  ⟨⟨(some 39),.mov (t 7),none⟩,0⟩,
  ⟨⟨(some 40),.bin .mul (ci 4) (t 39),none⟩,0⟩,
  ⟨⟨(some 41),.bin .add (t 40) (ci 2),none⟩,0⟩,
  ⟨⟨(some 42),.indexStr (t 38) (t 41),none⟩,0⟩,
  ⟨⟨(some 43),.conv .u32 (t 42),none⟩,0⟩,
  ⟨⟨(some 44),.bin .shl (t 43) (.const (Go.Value.int Go.IntKind.u64 8)),none⟩,0⟩,
  ⟨⟨(some 45),.bin .or (t 37) (t 44),none⟩,0⟩,
  ⟨⟨(some 46),.mov (t 1),none⟩,0⟩,
  ⟨⟨(some 47),.mov (t 7),none⟩,0⟩,
  ⟨⟨(some 48),.bin .mul (ci 4) (t 47),none⟩,0⟩,
  ⟨⟨(some 49),.bin .add (t 48) (ci 3),none⟩,0⟩,
  ⟨⟨(some 50),.indexStr (t 46) (t 49),none⟩,0⟩,
  ⟨⟨(some 51),.conv .u32 (t 50),none⟩,0⟩,
  ⟨⟨(some 52),.bin .or (t 45) (t 51),none⟩,0⟩,
  ⟨⟨(some 53),.indexPtr 64 1 (t 5) (t 23),none⟩,0⟩,
  ⟨⟨none,.store 1 (t 53) (t 52),none⟩,0⟩]
def o_handselref01_block_5 : List TIns := [⟨⟨(some 21),.mov (t 7),none⟩,0⟩,
  ⟨⟨(some 22),.bin .add (t 21) (ci 1),none⟩,0⟩,
  ⟨⟨(some 7),.mov (t 22),none⟩,0⟩]
def l_handselref01_block_1 : TC := (.seq (.seq (.ops o_handselref01_block_4) (.clean [1,2,4,5,6,7,20] (.cond (t 20) .skip (.exit 0)))) (.clean [1,2,4,5,6,7] (.seq (.block 1 [1,2,4,5,6,7] (.draw (pl o_handselref01_block_6))) (.clean [1,2,4,5,6,7] (.ops o_handselref01_block_5)))))
def o_handselref01_block_7 : List TIns := [⟨⟨(some 8),.mov (ci 16),none⟩,0⟩]
def o_handselref01_block_8 : List TIns := [⟨⟨(some 54),.mov (t 8),none⟩,0⟩,
  ⟨⟨(some 55),.bin .lss (t 54) (ci 64),none⟩,0⟩]
def o_handselref01_block_10 : List TIns := [⟨⟨(some 58),.mov (t 8),none⟩,0⟩,
  ⟨⟨(some 59),.bin .sub (t 58) (ci 15),none⟩,0⟩,
  ⟨⟨(some 60),.indexPtr 64 1 (t 5) (t 59),none⟩,0⟩,
  ⟨⟨(some 61),.load1 (t 60),none⟩,0⟩,
  ⟨⟨(some 63),.mov (t 8),none⟩,0⟩,
  ⟨⟨(some 64),.bin .sub (t 63) (ci 15),none⟩,0⟩,
  ⟨⟨(some 65),.indexPtr 64 1 (t 5) (t 64),none⟩,0⟩,
  ⟨⟨(some 66),.load1 (t 65),none⟩,0⟩,
  ⟨⟨(some 69),.mov (t 8),none⟩,0⟩,
  ⟨⟨(some 70),.bin .sub (t 69) (ci 15),none⟩,0⟩,
  ⟨⟨(some 71),.indexPtr 64 1 (t 5) (t 70),none⟩,0⟩,
  ⟨⟨(some 72),.load1 (t 71),none⟩,0⟩,
  ⟨⟨(some 73),.bin .shr (t 72) (.const (Go.Value.int Go.IntKind.u64 3)),none⟩,0⟩,
  ⟨⟨(some 62),.call F_handselref01_turn [(t 61),(.const (Go.Value.int Go.IntKind.u64 7))],none⟩,0⟩,
  ⟨⟨(some 67),.call F_handselref01_turn [(t 66),(.const (Go.Value.int Go.IntKind.u64 18))],none⟩,0⟩,
  ⟨⟨(some 68),.bin .xor (t 62) (t 67),none⟩,0⟩,
  ⟨⟨(some 74),.bin .xor (t 68) (t 73),none⟩,0⟩,
  ⟨⟨(some 9),.mov (t 74),none⟩,0⟩]
def o_handselref01_block_11 : List TIns := [⟨⟨(some 75),.mov (t 8),none⟩,0⟩,
  ⟨⟨(some 76),.bin .sub (t 75) (ci 2),none⟩,0⟩,
  ⟨⟨(some 77),.indexPtr 64 1 (t 5) (t 76),none⟩,0⟩,
  ⟨⟨(some 78),.load1 (t 77),none⟩,0⟩,
  ⟨⟨(some 80),.mov (t 8),none⟩,0⟩,
  ⟨⟨(some 81),.bin .sub (t 80) (ci 2),none⟩,0⟩,
  ⟨⟨(some 82),.indexPtr 64 1 (t 5) (t 81),none⟩,0⟩,
  ⟨⟨(some 83),.load1 (t 82),none⟩,0⟩,
  ⟨⟨(some 86),.mov (t 8),none⟩,0⟩,
  ⟨⟨(some 87),.bin .sub (t 86) (ci 2),none⟩,0⟩,
  ⟨⟨(some 88),.indexPtr 64 1 (t 5) (t 87),none⟩,0⟩,
  ⟨⟨(some 89),.load1 (t 88),none⟩,0⟩,
  ⟨⟨(some 90),.bin .shr (t 89) (.const (Go.Value.int Go.IntKind.u64 10)),none⟩,0⟩,
  ⟨⟨(some 79),.call F_handselref01_turn [(t 78),(.const (Go.Value.int Go.IntKind.u64 17))],none⟩,0⟩,
  ⟨⟨(some 84),.call F_handselref01_turn [(t 83),(.const (Go.Value.int Go.IntKind.u64 19))],none⟩,0⟩,
  ⟨⟨(some 85),.bin .xor (t 79) (t 84),none⟩,0⟩,
  ⟨⟨(some 91),.bin .xor (t 85) (t 90),none⟩,0⟩,
  ⟨⟨(some 10),.mov (t 91),none⟩,0⟩]
def o_handselref01_block_12 : List TIns := [⟨⟨(some 92),.mov (t 8),none⟩,0⟩,
  ⟨⟨(some 93),.mov (t 8),none⟩,0⟩,
  ⟨⟨(some 94),.bin .sub (t 93) (ci 16),none⟩,0⟩,
  ⟨⟨(some 95),.indexPtr 64 1 (t 5) (t 94),none⟩,0⟩,
  ⟨⟨(some 96),.load1 (t 95),none⟩,0⟩,
  ⟨⟨(some 97),.mov (t 9),none⟩,0⟩,
  ⟨⟨(some 98),.bin .add (t 96) (t 97),none⟩,0⟩,
  ⟨⟨(some 99),.mov (t 8),none⟩,0⟩,
  ⟨⟨(some 100),.bin .sub (t 99) (ci 7),none⟩,0⟩,
  ⟨⟨(some 101),.indexPtr 64 1 (t 5) (t 100),none⟩,0⟩,
  ⟨⟨(some 102),.load1 (t 101),none⟩,0⟩,
  ⟨⟨(some 103),.bin .add (t 98) (t 102),none⟩,0⟩,
  ⟨⟨(some 104),.mov (t 10),none⟩,0⟩,
  ⟨⟨(some 105),.bin .add (t 103) (t 104),none⟩,0⟩,
  ⟨⟨(some 106),.indexPtr 64 1 (t 5) (t 92),none⟩,0⟩,
  ⟨⟨none,.store 1 (t 106) (t 105),none⟩,0⟩]
def o_handselref01_block_9 : List TIns := [⟨⟨(some 56),.mov (t 8),none⟩,0⟩,
  ⟨⟨(some 57),.bin .add (t 56) (ci 1),none⟩,0⟩,
  ⟨⟨(some 8),.mov (t 57),none⟩,0⟩]
def l_handselref01_block_2 : TC := (.seq (.seq (.ops o_handselref01_block_8) (.clean [2,4,5,6,8,55] (.cond (t 55) .skip (.exit 2)))) (.clean [2,4,5,6,8] (.seq (.block 3 [2,4,5,6,8] (.seq (.draw (pl o_handselref01_block_10)) (.clean [2,4,5,6,8,9] (.seq (.draw (pl o_handselref01_block_11)) (.clean [2,4,5,6,8,9,10] (.draw (pl o_handselref01_block_12))))))) (.clean [2,4,5,6,8] (.ops o_handselref01_block_9)))))
def o_handselref01_block_13 : List TIns := [⟨⟨(some 107),.loadN 8 (t 2),none⟩,0⟩,
  ⟨⟨(some 11),.box T_8_uint32 8 (.const (.agg #[(.int .u32 0),(.int .u32 0),(.int .u32 0),(.int .u32 0),(.int .u32 0),(.int .u32 0),(.int .u32 0),(.int .u32 0)])),none⟩,0⟩,
  ⟨⟨none,.store 8 (t 11) (t 107),none⟩,0⟩]
def o_handselref01_block_14 : List TIns := [⟨⟨(some 12),.mov (ci 0),none⟩,0⟩]
def o_handselref01_block_15 : List TIns := [⟨⟨(some 108),.mov (t 12),none⟩,0⟩,
  ⟨⟨(some 109),.bin .lss (t 108) (ci 64),none⟩,0⟩]
def o_handselref01_block_17 : List TIns := [⟨⟨(some 112),.indexPtr 8 1 (t 11) (ci 4),none⟩,0⟩,
  ⟨⟨(some 113),.load1 (t 112),none⟩,0⟩,
  ⟨⟨(some 115),.indexPtr 8 1 (t 11) (ci 4),none⟩,0⟩,
  ⟨⟨(some 116),.load1 (t 115),none⟩,0⟩,
  ⟨⟨(some 119),.indexPtr 8 1 (t 11) (ci 4),none⟩,0⟩,
  ⟨⟨(some 120),.load1 (t 119),none⟩,0⟩,
  ⟨⟨(some 114),.call F_handselref01_turn [(t 113),(.const (Go.Value.int Go.IntKind.u64 6))],none⟩,0⟩,
  ⟨⟨(some 117),.call F_handselref01_turn [(t 116),(.const (Go.Value.int Go.IntKind.u64 11))],none⟩,0⟩,
  ⟨⟨(some 118),.bin .xor (t 114) (t 117),none⟩,0⟩,
  ⟨⟨(some 121),.call F_handselref01_turn [(t 120),(.const (Go.Value.int Go.IntKind.u64 25))],none⟩,0⟩,
  ⟨⟨(some 122),.bin .xor (t 118) (t 121),none⟩,0⟩,
  ⟨⟨(some 13),.mov (t 122),none⟩,0⟩]
def o_handselref01_block_18 : List TIns := [⟨⟨(some 123),.indexPtr 8 1 (t 11) (ci 7),none⟩,0⟩,
  ⟨⟨(some 124),.load1 (t 123),none⟩,0⟩,
  ⟨⟨(some 125),.mov (t 13),none⟩,0⟩,
  ⟨⟨(some 126),.bin .add (t 124) (t 125),none⟩,0⟩,
  ⟨⟨(some 127),.indexPtr 8 1 (t 11) (ci 4),none⟩,0⟩,
  ⟨⟨(some 128),.load1 (t 127),none⟩,0⟩,
  ⟨⟨(some 129),.indexPtr 8 1 (t 11) (ci 5),none⟩,0⟩,
  ⟨⟨(some 130),.load1 (t 129),none⟩,0⟩,
  ⟨⟨(some 131),.bin .and (t 128) (t 130),none⟩,0⟩,
  ⟨⟨(some 132),.indexPtr 8 1 (t 11) (ci 4),none⟩,0⟩,
  ⟨⟨(some 133),.load1 (t 132),none⟩,0⟩,
  ⟨⟨(some 134),.un .xor (t 133),none⟩,0⟩,
  ⟨⟨(some 135),.indexPtr 8 1 (t 11) (ci 6),none⟩,0⟩,
  ⟨⟨(some 136),.load1 (t 135),none⟩,0⟩,
  ⟨⟨(some 137),.bin .and (t 134) (t 136),none⟩,0⟩,
  ⟨⟨(some 138),.bin .xor (t 131) (t 137),none⟩,0⟩,
  ⟨⟨(some 139),.bin .add (t 126) (t 138),none⟩,0⟩,
  ⟨⟨(some 140),.mov (t 12),none⟩,0⟩,
  ⟨⟨(some 141),.indexPtr 64 1 (t 6) (t 140),none⟩,0⟩,
  ⟨⟨(some 142),.load1 (t 141),none⟩,0⟩,
  ⟨⟨(some 143),.bin .add (t 139) (t 142),none⟩,0⟩,
  ⟨⟨(some 144),.mov (t 12),none⟩,0⟩,
  ⟨⟨(some 145),.indexPtr 64 1 (t 5) (t 144),none⟩,0⟩,
  ⟨⟨(some 146),.load1 (t 145),none⟩,0⟩,
  ⟨⟨(some 147),.bin .add (t 143) (t 146),none⟩,0⟩,
  ⟨⟨(some 14),.mov (t 147),none⟩,0⟩]
def o_handselref01_block_19 : List TIns := [⟨⟨(some 148),.indexPtr 8 1 (t 11) (ci 0),none⟩,0⟩,
  ⟨⟨(some 149),.load1 (t 148),none⟩,0⟩,
  ⟨⟨(some 151),.indexPtr 8 1 (t 11) (ci 0),none⟩,0⟩,
  ⟨⟨(some 152),.load1 (t 151),none⟩,0⟩,
  ⟨⟨(some 155),.indexPtr 8 1 (t 11) (ci 0),none⟩,0⟩,
  ⟨⟨(some 156),.load1 (t 155),none⟩,0⟩,
  ⟨⟨(some 150),.call F_handselref01_turn [(t 149),(.const (Go.Value.int Go.IntKind.u64 2))],none⟩,0⟩,
  ⟨⟨(some 153),.call F_handselref01_turn [(t 152),(.const (Go.Value.int Go.IntKind.u64 13))],none⟩,0⟩,
  ⟨⟨(some 154),.bin .xor (t 150) (t 153),none⟩,0⟩,
  ⟨⟨(some 157),.call F_handselref01_turn [(t 156),(.const (Go.Value.int Go.IntKind.u64 22))],none⟩,0⟩,
  ⟨⟨(some 158),.bin .xor (t 154) (t 157),none⟩,0⟩,
  ⟨⟨(some 15),.mov (t 158),none⟩,0⟩]
def o_handselref01_block_20 : List TIns := [⟨⟨(some 159),.mov (t 15),none⟩,0⟩,
  ⟨⟨(some 160),.indexPtr 8 1 (t 11) (ci 0),none⟩,0⟩,
  ⟨⟨(some 161),.load1 (t 160),none⟩,0⟩,
  ⟨⟨(some 162),.indexPtr 8 1 (t 11) (ci 1),none⟩,0⟩,
  ⟨⟨(some 163),.load1 (t 162),none⟩,0⟩,
  ⟨⟨(some 164),.bin .and (t 161) (t 163),none⟩,0⟩,
  ⟨⟨(some 165),.indexPtr 8 1 (t 11) (ci 0),none⟩,0⟩,
  ⟨⟨(some 166),.load1 (t 165),none⟩,0⟩,
  ⟨⟨(some 167),.indexPtr 8 1 (t 11) (ci 2),none⟩,0⟩,
  ⟨⟨(some 168),.load1 (t 167),none⟩,0⟩,
  ⟨⟨(some 169),.bin .and (t 166) (t 168),none⟩,0⟩,
  ⟨⟨(some 170),.bin .xor (t 164) (t 169),none⟩,0⟩,
  ⟨⟨(some 171),.indexPtr 8 1 (t 11) (ci 1),none⟩,0⟩,
  ⟨⟨(some 172),.load1 (t 171),none⟩,0⟩,
  ⟨⟨(some 173),.indexPtr 8 1 (t 11) (ci 2),none⟩,0⟩,
  ⟨⟨(some 174),.load1 (t 173),none⟩,0⟩,
  ⟨⟨(some 175),.bin .and (t 172) (t 174),none⟩,0⟩,
  ⟨⟨(some 176),.bin .xor (t 170) (t 175),none⟩,0⟩,
  ⟨⟨(some 177),.bin .add (t 159) (t 176),none⟩,0⟩,
  ⟨⟨(some 16),.mov (t 177),none⟩,0⟩]
def o_handselref01_block_21 : List TIns := [⟨⟨(some 178),.mov (t 14),none⟩,0⟩,
  ⟨⟨(some 179),.mov (t 16),none⟩,0⟩,
  ⟨⟨(some 180),.bin .add (t 178) (t 179),none⟩,0⟩,
  ⟨⟨(some 181),.indexPtr 8 1 (t 11) (ci 0),none⟩,0⟩,
  ⟨⟨(some 182),.load1 (t 181),none⟩,0⟩,
  ⟨⟨(some 183),.indexPtr 8 1 (t 11) (ci 1),none⟩,0⟩,
  ⟨⟨(some 184),.load1 (t 183),none⟩,0⟩,
  ⟨⟨(some 185),.indexPtr 8 1 (t 11) (ci 2),none⟩,0⟩,
  ⟨⟨(some 186),.load1 (t 185),none⟩,0⟩,
  ⟨⟨(some 187),.indexPtr 8 1 (t 11) (ci 3),none⟩,0⟩,
  ⟨⟨(some 188),.load1 (t 187),none⟩,0⟩,
  ⟨⟨(some 189),.mov (t 14),none⟩,0⟩,
  ⟨⟨(some 190),.bin .add (t 188) (t 189),none⟩,0⟩,
  ⟨⟨(some 191),.indexPtr 8 1 (t 11) (ci 4),none⟩,0⟩,
  ⟨⟨(some 192),.load1 (t 191),none⟩,0⟩,
  ⟨⟨(some 193),.indexPtr 8 1 (t 11) (ci 5),none⟩,0⟩,
  ⟨⟨(some 194),.load1 (t 193),none⟩,0⟩,
  ⟨⟨(some 195),.indexPtr 8 1 (t 11) (ci 6),none⟩,0⟩,
  ⟨⟨(some 196),.load1 (t 195),none⟩,0⟩,
  ⟨⟨(some 197),.build [(.int .u32 0),(.int .u32 0),(.int .u32 0),(.int .u32 0),(.int .u32 0),(.int .u32 0),(.int .u32 0),(.int .u32 0)] [(0,1,(t 180)),(1,1,(t 182)),(2,1,(t 184)),(3,1,(t 186)),(4,1,(t 190)),(5,1,(t 192)),(6,1,(t 194)),(7,1,(t 196))],none⟩,0⟩,
  ⟨⟨none,.store 8 (t 11) (t 197),none⟩,0⟩]
def o_handselref01_block_16 : List TIns := [⟨⟨(some 110),.mov (t 12),none⟩,0⟩,
  ⟨⟨(some 111),.bin .add (t 110) (ci 1),none⟩,0⟩,
  ⟨⟨(some 12),.mov (t 111),none⟩,0⟩]
def l_handselref01_block_3 : TC := (.seq (.seq (.ops o_handselref01_block_15) (.clean [2,4,5,6,11,12,109] (.cond (t 109) .skip (.exit 4)))) (.clean [2,4,5,6,11,12] (.seq (.block 5 [2,4,5,6,11,12] (.seq (.draw (pl o_handselref01_block_17)) (.clean [2,4,5,6,11,12,13] (.seq (.draw (pl o_handselref01_block_18)) (.clean [2,4,5,6,11,12,14] (.seq (.draw (pl o_handselref01_block_19)) (.clean [2,4,5,6,11,12,14,15] (.seq (.ops o_handselref01_block_20) (.clean [2,4,5,6,11,12,14,16] (.ops o_handselref01_block_21)))))))))) (.clean [2,4,5,6,11,12] (.ops o_handselref01_block_16)))))
def o_handselref01_block_22 : List TIns := [⟨⟨(some 17),.mov (ci 0),none⟩,0⟩]
def o_handselref01_block_23 : List TIns := [⟨⟨(some 198),.mov (t 17),none⟩,0⟩,
  ⟨⟨(some 199),.bin .lss (t 198) (ci 8),none⟩,0⟩]
def o_handselref01_block_25 : List TIns := [⟨⟨(some 202),.mov (t 17),none⟩,0⟩,
  ⟨⟨(some 203),.mov (t 17),none⟩,0⟩,
  ⟨⟨(some 204),.indexPtr 8 1 (t 2) (t 203),none⟩,0⟩,
  ⟨⟨(some 205),.load1 (t 204),none⟩,0⟩,
  ⟨⟨(some 206),.mov (t 17),none⟩,0⟩,
  ⟨⟨(some 207),.indexPtr 8 1 (t 11) (t 206),none⟩,0⟩,
  ⟨⟨(some 208),.load1 (t 207),none⟩,0⟩,
  ⟨⟨(some 209),.bin .add (t 205) (t 208),none⟩,0⟩,
  ⟨⟨(some 210),.indexPtr 8 1 (t 2) (t 202),none⟩,0⟩,
  ⟨⟨none,.store 1 (t 210) (t 209),none⟩,0⟩]
def o_handselref01_block_24 : List TIns := [⟨⟨(some 200),.mov (t 17),none⟩,0⟩,
  ⟨⟨(some 201),.bin .add (t 200) (ci 1),none⟩,0⟩,
  ⟨⟨(some 17),.mov (t 201),none⟩,0⟩]
def l_handselref01_block_4 : TC := (.seq (.seq (.ops o_handselref01_block_23) (.clean [2,4,11,17,199] (.cond (t 199) .skip (.exit 6)))) (.clean [2,4,11,17] (.seq (.block 7 [2,4,11,17] (.draw (pl o_handselref01_block_25))) (.clean [2,4,11,17] (.ops o_handselref01_block_24)))))
def o_handselref01_block_26 : List TIns := [⟨⟨(some 211),.loadN 8 (t 2),none⟩,0⟩,
  ⟨⟨none,.store 8 (t 4) (t 211),none⟩,0⟩]
def tc_handselref01_block : TC := (.seq (.ops o_handselref01_block_0) (.clean [1,2,4] (.seq (.ops o_handselref01_block_1) (.clean [1,2,4,5] (.seq (.ops o_handselref01_block_2) (.clean [1,2,4,5,6] (.seq (.seq (.ops o_handselref01_block_3) (.block 0 [2,4,5,6] (.clean [1,2,4,5,6,7] (.loop [1,2,4,5,6,7] l_handselref01_block_1)))) (.clean [2,4,5,6] (.seq (.seq (.ops o_handselref01_block_7) (.block 2 [2,4,5,6] (.clean [2,4,5,6,8] (.loop [2,4,5,6,8] l_handselref01_block_2)))) (.clean [2,4,5,6] (.seq (.ops o_handselref01_block_13) (.clean [2,4,5,6,11] (.seq (.seq (.ops o_handselref01_block_14) (.block 4 [2,4,11] (.clean [2,4,5,6,11,12] (.loop [2,4,5,6,11,12] l_handselref01_block_3)))) (.clean [2,4,11] (.seq (.seq (.ops o_handselref01_block_22) (.block 6 [2,4] (.clean [2,4,11,17] (.loop [2,4,11,17] l_handselref01_block_4)))) (.clean [2,4] (.seq (.ops o_handselref01_block_26) (.ret [4]))))))))))))))))))
def fn_handselref01_block : TFn := ⟨212,tc_handselref01_block,[.cellN 4 8],false⟩
theorem U_handselref01_block : type_of% (And.intro @o_handselref01_block_0.eq_1 (And.intro @o_handselref01_block_1.eq_1 (And.intro @o_handselref01_block_2.eq_1 (And.intro @o_handselref01_block_3.eq_1 (And.intro @o_handselref01_block_4.eq_1 (And.intro @o_handselref01_block_6.eq_1 (And.intro @o_handselref01_block_5.eq_1 (And.intro @o_handselref01_block_7.eq_1 (And.intro @o_handselref01_block_8.eq_1 (And.intro @o_handselref01_block_10.eq_1 (And.intro @o_handselref01_block_11.eq_1 (And.intro @o_handselref01_block_12.eq_1 (And.intro @o_handselref01_block_9.eq_1 (And.intro @o_handselref01_block_13.eq_1 (And.intro @o_handselref01_block_14.eq_1 (And.intro @o_handselref01_block_15.eq_1 (And.intro @o_handselref01_block_17.eq_1 (And.intro @o_handselref01_block_18.eq_1 (And.intro @o_handselref01_block_19.eq_1 (And.intro @o_handselref01_block_20.eq_1 (And.intro @o_handselref01_block_21.eq_1 (And.intro @o_handselref01_block_16.eq_1 (And.intro @o_handselref01_block_22.eq_1 (And.intro @o_handselref01_block_23.eq_1 (And.intro @o_handselref01_block_25.eq_1 (And.intro @o_handselref01_block_24.eq_1 (And.intro @o_handselref01_block_26.eq_1 (And.intro @tc_handselref01_block.eq_1 @fn_handselref01_block.eq_1)))))))))))))))))))))))))))) := And.intro @o_handselref01_block_0.eq_1 (And.intro @o_handselref01_block_1.eq_1 (And.intro @o_handselref01_block_2.eq_1 (And.intro @o_handselref01_block_3.eq_1 (And.intro @o_handselref01_block_4.eq_1 (And.intro @o_handselref01_block_6.eq_1 (And.intro @o_handselref01_block_5.eq_1 (And.intro @o_handselref01_block_7.eq_1 (And.intro @o_handselref01_block_8.eq_1 (And.intro @o_handselref01_block_10.eq_1 (And.intro @o_handselref01_block_11.eq_1 (And.intro @o_handselref01_block_12.eq_1 (And.intro @o_handselref01_block_9.eq_1 (And.intro @o_handselref01_block_13.eq_1 (And.intro @o_handselref01_block_14.eq_1 (And.intro @o_handselref01_block_15.eq_1 (And.intro @o_handselref01_block_17.eq_1 (And.intro @o_handselref01_block_18.eq_1 (And.intro @o_handselref01_block_19.eq_1 (And.intro @o_handselref01_block_20.eq_1 (And.intro @o_handselref01_block_21.eq_1 (And.intro @o_handselref01_block_16.eq_1 (And.intro @o_handselref01_block_22.eq_1 (And.intro @o_handselref01_block_23.eq_1 (And.intro @o_handselref01_block_25.eq_1 (And.intro @o_handselref01_block_24.eq_1 (And.intro @o_handselref01_block_26.eq_1 (And.intro @tc_handselref01_block.eq_1 @fn_handselref01_block.eq_1)))))))))))))))))))))))))))
theorem c_handselref01_block : fnIC Try.prog [(6,⟨[0,1,2,3,4,5,6,7,8,9,10,11,12,13,14,15,16,17,18,19,20,21,22,23,24,25,26,27,28,29,30,31],[0,0,0,4,14,30,62,0,0,256,768,1920,3968,8064,16382,0,0,65536,196608,491520,1015808,2064384,4194302,0,0,16777216,50331648,125829120,260046848,536870910,1073741823,2147483647],[],[]⟩),(10,⟨[0,1,2,3,5,6,7,8,11,12,13,14,15,4,9,10,16,17],[0,1,3,7,15,0,32,96,224,511,1023,0,2048,6144,14336,30720,65535,131071],[],[]⟩),(11,⟨[0,1,2,3,5,6,7,8,11,12,13,14,15,4,9,10,16,17],[0,1,3,7,15,0,32,96,224,511,1023,0,2048,6144,14336,30720,65535,131071],[],[]⟩),(12,⟨[0,1,2,3,4,5,6,7,8,9,10,11,12,13,14,15],[0,0,2,6,14,0,62,0,128,384,896,2046,0,8190,16383,32767],[],[]⟩),(17,⟨[0,1,3,4,7,8,2,5,6,9,10,11],[0,1,3,0,8,31,63,0,128,447,1023,2047],[],[]⟩),(18,⟨[0,1,2,3,4,5,6,7,8,9,10,11,12,13,14,15,16,17,18,19,20,21,22,23,24,25],[0,1,0,7,0,16,0,64,240,0,512,1536,0,4096,15872,32752,65535,0,131072,393216,1048575,0,2097152,6291456,16777215,33554431],[],[]⟩),(19,⟨[0,1,3,4,7,8,2,5,6,9,10,11],[0,1,3,0,8,31,63,0,128,447,1023,2047],[],[]⟩),(25,⟨[0,1,2,3,4,5,6,7,8,9],[0,0,2,6,0,16,48,126,255,511],[],[]⟩)] F_handselref01_block = some (212,tc_handselref01_block.erase,[.cellN 4 8]) := by kernel_rfl
def o_handselref01_table_0 : List TIns := [⟨⟨(some 0),.box T_64_uint32 64 (.const (.agg #[(.int .u32 0),(.int .u32 0),(.int .u32 0),(.int .u32 0),(.int .u32 0),(.int .u32 0),(.int .u32 0),(.int .u32 0),(.int .u32 0),(.int .u32 0),(.int .u32 0),(.int .u32 0),(.int .u32 0),(.int .u32 0),(.int .u32 0),(.int .u32 0),(.int .u32 0),(.int .u32 0),(.int .u32 0),(.int .u32 0),(.int .u32 0),(.int .u32 0),(.int .u32 0),(.int .u32 0),(.int .u32 0),(.int .u32 0),(.int .u32 0),(.int .u32 0),(.int .u32 0),(.int .u32 0),(.int .u32 0),(.int .u32 0),(.int .u32 0),(.int .u32 0),(.int .u32 0),(.int .u32 0),(.int .u32 0),(.int .u32 0),(.int .u32 0),(.int .u32 0),(.int .u32 0),(.int .u32 0),(.int .u32 0),(.int .u32 0),(.int .u32 0),(.int .u32 0),(.int .u32 0),(.int .u32 0),(.int .u32 0),(.int .u32 0),(.int .u32 0),(.int .u32 0),(.int .u32 0),(.int .u32 0),(.int .u32 0),(.int .u32 0),(.int .u32 0),(.int .u32 0),(.int .u32 0),(.int .u32 0),(.int .u32 0),(.int .u32 0),(.int .u32 0),(.int .u32 0)])),none⟩,0⟩]
def o_handselref01_table_1 : List TIns := [⟨⟨(some 1),.build [(.int .u32 0),(.int .u32 0),(.int .u32 0),(.int .u32 0),(.int .u32 0),(.int .u32 0),(.int .u32 0),(.int .u32 0),(.int .u32 0),(.int .u32 0),(.int .u32 0),(.int .u32 0),(.int .u32 0),(.int .u32 0),(.int .u32 0),(.int .u32 0),(.int .u32 0),(.int .u32 0),(.int .u32 0),(.int .u32 0),(.int .u32 0),(.int .u32 0),(.int .u32 0),(.int .u32 0),(.int .u32 0),(.int .u32 0),(.int .u32 0),(.int .u32 0),(.int .u32 0),(.int .u32 0),(.int .u32 0),(.int .u32 0),(.int .u32 0),(.int .u32 0),(.int .u32 0),(.int .u32 0),(.int .u32 0),(.int .u32 0),(.int .u32 0),(.int .u32 0),(.int .u32 0),(.int .u32 0),(.int .u32 0),(.int .u32 0),(.int .u32 0),(.int .u32 0),(.int .u32 0),(.int .u32 0),(.int .u32 0),(.int .u32 0),(.int .u32 0),(.int .u32 0),(.int .u32 0),(.int .u32 0),(.int .u32 0),(.int .u32 0),(.int .u32 0),(.int .u32 0),(.int .u32 0),(.int .u32 0),(.int .u32 0),(.int .u32 0),(.int .u32 0),(.int .u32 0)] [(0,1,(.const (Go.Value.int Go.IntKind.u32 1116352408))),(1,1,(.const (Go.Value.int Go.IntKind.u32 1899447441))),(2,1,(.const (Go.Value.int Go.IntKind.u32 3049323471))),(3,1,(.const (Go.Value.int Go.IntKind.u32 3921009573))),(4,1,(.const (Go.Value.int Go.IntKind.u32 961987163))),(5,1,(.const (Go.Value.int Go.IntKind.u32 1508970993))),(6,1,(.const (Go.Value.int Go.IntKind.u32 2453635748))),(7,1,(.const (Go.Value.int Go.IntKind.u32 2870763221))),(8,1,(.const (Go.Value.int Go.IntKind.u32 3624381080))),(9,1,(.const (Go.Value.int Go.IntKind.u32 310598401))),(10,1,(.const (Go.Value.int Go.IntKind.u32 607225278))),(11,1,(.const (Go.Value.int Go.IntKind.u32 1426881987))),(12,1,(.const (Go.Value.int Go.IntKind.u32 1925078388))),(13,1,(.const (Go.Value.int Go.IntKind.u32 2162078206))),(14,1,(.const (Go.Value.int Go.IntKind.u32 2614888103))),(15,1,(.const (Go.Value.int Go.IntKind.u32 3248222580))),(16,1,(.const (Go.Value.int Go.IntKind.u32 3835390401))),(17,1,(.const (Go.Value.int Go.IntKind.u32 4022224774))),(18,1,(.const (Go.Value.int Go.IntKind.u32 264347078))),(19,1,(.const (Go.Value.int Go.IntKind.u32 604807628))),(20,1,(.const (Go.Value.int Go.IntKind.u32 770255983))),(21,1,(.const (Go.Value.int Go.IntKind.u32 1249150122))),(22,1,(.const (Go.Value.int Go.IntKind.u32 1555081692))),(23,1,(.const (Go.Value.int Go.IntKind.u32 1996064986))),(24,1,(.const (Go.Value.int Go.IntKind.u32 2554220882))),(25,1,(.const (Go.Value.int Go.IntKind.u32 2821834349))),(26,1,(.const (Go.Value.int Go.IntKind.u32 2952996808))),(27,1,(.const (Go.Value.int Go.IntKind.u32 3210313671))),(28,1,(.const (Go.Value.int Go.IntKind.u32 3336571891))),(29,1,(.const (Go.Value.int Go.IntKind.u32 3584528711))),(30,1,(.const (Go.Value.int Go.IntKind.u32 113926993))),(31,1,(.const (Go.Value.int Go.IntKind.u32 338241895))),(32,1,(.const (Go.Value.int Go.IntKind.u32 666307205))),(33,1,(.const (Go.Value.int Go.IntKind.u32 773529912))),(34,1,(.const (Go.Value.int Go.IntKind.u32 1294757372))),(35,1,(.const (Go.Value.int Go.IntKind.u32 1396182291))),(36,1,(.const (Go.Value.int Go.IntKind.u32 1695183700))),(37,1,(.const (Go.Value.int Go.IntKind.u32 1986661051))),(38,1,(.const (Go.Value.int Go.IntKind.u32 2177026350))),(39,1,(.const (Go.Value.int Go.IntKind.u32 2456956037))),(40,1,(.const (Go.Value.int Go.IntKind.u32 2730485921))),(41,1,(.const (Go.Value.int Go.IntKind.u32 2820302411))),(42,1,(.const (Go.Value.int Go.IntKind.u32 3259730800))),(43,1,(.const (Go.Value.int Go.IntKind.u32 3345764771))),(44,1,(.const (Go.Value.int Go.IntKind.u32 3516065817))),(45,1,(.const (Go.Value.int Go.IntKind.u32 3600352804))),(46,1,(.const (Go.Value.int Go.IntKind.u32 4094571909))),(47,1,(.const (Go.Value.int Go.IntKind.u32 275423344))),(48,1,(.const (Go.Value.int Go.IntKind.u32 430227734))),(49,1,(.const (Go.Value.int Go.IntKind.u32 506948616))),(50,1,(.const (Go.Value.int Go.IntKind.u32 659060556))),(51,1,(.const (Go.Value.int Go.IntKind.u32 883997877))),(52,1,(.const (Go.Value.int Go.IntKind.u32 958139571))),(53,1,(.const (Go.Value.int Go.IntKind.u32 1322822218))),(54,1,(.const (Go.Value.int Go.IntKind.u32 1537002063))),(55,1,(.const (Go.Value.int Go.IntKind.u32 1747873779))),(56,1,(.const (Go.Value.int Go.IntKind.u32 1955562222))),(57,1,(.const (Go.Value.int Go.IntKind.u32 2024104815))),(58,1,(.const (Go.Value.int Go.IntKind.u32 2227730452))),(59,1,(.const (Go.Value.int Go.IntKind.u32 2361852424))),(60,1,(.const (Go.Value.int Go.IntKind.u32 2428436474))),(61,1,(.const (Go.Value.int Go.IntKind.u32 2756734187))),(62,1,(.const (Go.Value.int Go.IntKind.u32 3204031479))),(63,1,(.const (Go.Value.int Go.IntKind.u32 3329325298)))],none⟩,0⟩,
  ⟨⟨none,.store 64 (t 0) (t 1),none⟩,0⟩]
def tc_handselref01_table : TC := (.seq (.ops o_handselref01_table_0) (.clean [0] (.seq (.ops o_handselref01_table_1) (.ret [0]))))
def fn_handselref01_table : TFn := ⟨2,tc_handselref01_table,[.cellN 0 64],false⟩
theorem U_handselref01_table : type_of% (And.intro @o_handselref01_table_0.eq_1 (And.intro @o_handselref01_table_1.eq_1 (And.intro @tc_handselref01_table.eq_1 @fn_handselref01_table.eq_1))) := And.intro @o_handselref01_table_0.eq_1 (And.intro @o_handselref01_table_1.eq_1 (And.intro @tc_handselref01_table.eq_1 @fn_handselref01_table.eq_1))
theorem c_handselref01_table : fnIC Try.prog [] F_handselref01_table = some (2,tc_handselref01_table.erase,[.cellN 0 64]) := by kernel_rfl
def o_handselref01_turn_0 : List TIns := [⟨⟨(some 4),.mov (.const (Go.Value.int Go.IntKind.u32 0)),none⟩,0⟩]
def o_handselref01_turn_1 : List TIns := [⟨⟨(some 5),.mov (t 0),none⟩,0⟩,
  ⟨⟨(some 6),.mov (t 1),none⟩,0⟩,
  ⟨⟨(some 7),.bin .shr (t 5) (t 6),none⟩,0⟩,
  ⟨⟨(some 8),.mov (t 0),none⟩,0⟩,
  ⟨⟨(some 9),.mov (t 1),none⟩,0⟩,
  ⟨⟨(some 10),.bin .sub (.const (Go.Value.int Go.IntKind.u64 32)) (t 9),none⟩,0⟩,
  ⟨⟨(some 11),.bin .shl (t 8) (t 10),none⟩,0⟩,
  ⟨⟨(some 12),.bin .or (t 7) (t 11),none⟩,0⟩,
  ⟨⟨(some 4),.mov (t 12),none⟩,0⟩]
def tc_handselref01_turn : TC := (.seq (.ops o_handselref01_turn_0) (.clean [0,1] (.seq (.ops o_handselref01_turn_1) (.ret [4]))))
def fn_handselref01_turn : TFn := ⟨13,tc_handselref01_turn,[.tmp 4],false⟩
theorem U_handselref01_turn : type_of% (And.intro @o_handselref01_turn_0.eq_1 (And.intro @o_handselref01_turn_1.eq_1 (And.intro @tc_handselref01_turn.eq_1 @fn_handselref01_turn.eq_1))) := And.intro @o_handselref01_turn_0.eq_1 (And.intro @o_handselref01_turn_1.eq_1 (And.intro @tc_handselref01_turn.eq_1 @fn_handselref01_turn.eq_1))
theorem c_handselref01_turn : fnIC Try.prog [] F_handselref01_turn = some (13,tc_handselref01_turn.erase,[.tmp 4]) := by kernel_rfl
def o_handselref01_Hex_0 : List TIns := [⟨⟨(some 2),.mov (.const (Go.Value.string ⟨#[]⟩)),none⟩,0⟩]
def o_handselref01_Hex_1 : List TIns := [⟨⟨(some 3),.mov (.const (Go.Value.slice none 0 0)),none⟩,1⟩]
def o_handselref01_Hex_2 : List TIns := [⟨⟨(some 4),.mov (ci 0),none⟩,0⟩]
def o_handselref01_Hex_3 : List TIns := [⟨⟨(some 5),.mov (t 4),none⟩,0⟩,
  ⟨⟨(some 6),.mov (t 0),none⟩,0⟩,
  ⟨⟨(some 7),.lenS (t 6),none⟩,0⟩,
  ⟨⟨(some 8),.bin .lss (t 5) (t 7),none⟩,0⟩]
def o_handselref01_Hex_5 : List TIns := [⟨⟨(some 11),.mov (t 3),none⟩,0⟩,
  ⟨⟨(some 12),.mov (t 0),none⟩,0⟩,
  ⟨⟨(some 13),.mov (t 4),none⟩,0⟩,
  ⟨⟨(some 14),.indexStr (t 12) (t 13),none⟩,0⟩,
  ⟨⟨(some 15),.bin .shr (t 14) (.const (Go.Value.int Go.IntKind.u64 4)),none⟩,0⟩,
  ⟨⟨(some 16),.indexStr (.const (Go.Value.string ⟨#[48,49,50,51,52,53,54,55,56,57,97,98,99,100,101,102]⟩)) (t 15),none⟩,0⟩,
  ⟨⟨(some 17),.mov (t 0),none⟩,0⟩,
  ⟨⟨(some 18),.mov (t 4),none⟩,0⟩,
  ⟨⟨(some 19),.indexStr (t 17) (t 18),none⟩,0⟩,
  ⟨⟨(some 20),.bin .and (t 19) (.const (Go.Value.int Go.IntKind.u8 15)),none⟩,0⟩,
  ⟨⟨(some 21),.indexStr (.const (Go.Value.string ⟨#[48,49,50,51,52,53,54,55,56,57,97,98,99,100,101,102]⟩)) (t 20),none⟩,0⟩,
  ⟨⟨(some 22),.buildSl T_uint8 1 2 [(.int .u8 0),(.int .u8 0)] [(0,1,(t 16)),(1,1,(t 21))],none⟩,0⟩,
  ⟨⟨(some 23),.append T_uint8 1 1 (t 11) (t 22),none⟩,0⟩,
  ⟨⟨(some 3),.mov (t 23),none⟩,0⟩]
def o_handselref01_Hex_4 : List TIns := [⟨⟨(some 9),.mov (t 4),none⟩,0⟩,
  ⟨⟨(some 10),.bin .add (t 9) (ci 1),none⟩,0⟩,
  ⟨⟨(some 4),.mov (t 10),none⟩,0⟩]
def l_handselref01_Hex_1 : TC := (.seq (.seq (.ops o_handselref01_Hex_3) (.clean [0,3,4,8] (.cond (t 8) .skip (.exit 0)))) (.clean [0,3,4] (.seq (.block 1 [0,3,4] (.draw (pl o_handselref01_Hex_5))) (.clean [0,3,4] (.ops o_handselref01_Hex_4)))))
def o_handselref01_Hex_6 : List TIns := [⟨⟨(some 24),.mov (t 3),none⟩,0⟩,
  ⟨⟨(some 25),.toStr (t 24),none⟩,0⟩,
  ⟨⟨(some 2),.mov (t 25),none⟩,0⟩]
def tc_handselref01_Hex : TC := (.seq (.ops o_handselref01_Hex_0) (.clean [0] (.seq (.ops o_handselref01_Hex_1) (.clean [0,3] (.seq (.seq (.ops o_handselref01_Hex_2) (.block 0 [3] (.clean [0,3,4] (.loop [0,3,4] l_handselref01_Hex_1)))) (.clean [3] (.seq (.ops o_handselref01_Hex_6) (.ret [2]))))))))
def fn_handselref01_Hex : TFn := ⟨26,tc_handselref01_Hex,[.tmp 2],false⟩
theorem U_handselref01_Hex : type_of% (And.intro @o_handselref01_Hex_0.eq_1 (And.intro @o_handselref01_Hex_1.eq_1 (And.intro @o_handselref01_Hex_2.eq_1 (And.intro @o_handselref01_Hex_3.eq_1 (And.intro @o_handselref01_Hex_5.eq_1 (And.intro @o_handselref01_Hex_4.eq_1 (And.intro @o_handselref01_Hex_6.eq_1 (And.intro @tc_handselref01_Hex.eq_1 @fn_handselref01_Hex.eq_1)))))))) := And.intro @o_handselref01_Hex_0.eq_1 (And.intro @o_handselref01_Hex_1.eq_1 (And.intro @o_handselref01_Hex_2.eq_1 (And.intro @o_handselref01_Hex_3.eq_1 (And.intro @o_handselref01_Hex_5.eq_1 (And.intro @o_handselref01_Hex_4.eq_1 (And.intro @o_handselref01_Hex_6.eq_1 (And.intro @tc_handselref01_Hex.eq_1 @fn_handselref01_Hex.eq_1)))))))
theorem c_handselref01_Hex : fnIC Try.prog [(5,⟨[0,1,2,3,4,5,6,7,8,9,10,11,12,13],[0,0,0,6,14,30,0,0,192,448,960,2046,4095,8191],[],[]⟩)] F_handselref01_Hex = some (26,tc_handselref01_Hex.erase,[.tmp 2]) := by kernel_rfl
def o_handsellaw01_ShaKnown_0 : List TIns := [⟨⟨(some 2),.mov (.const (Go.Value.bool false)),none⟩,0⟩]
def o_handsellaw01_ShaKnown_1 : List TIns := [⟨⟨(some 8),.mov (t 0),none⟩,0⟩,
  ⟨⟨(some 9),.call F_handsellaw00_Place [(t 8),(ci 5)],none⟩,0⟩,
  ⟨⟨(some 3),.mov (t 9),none⟩,0⟩]
def o_handsellaw01_ShaKnown_2 : List TIns := [⟨⟨(some 10),.mov (t 3),none⟩,0⟩,
  ⟨⟨(some 11),.bin .eql (t 10) (ci 4),none⟩,0⟩]
def o_handsellaw01_ShaKnown_3 : List TIns := [⟨⟨(some 12),.makeSl T_uint8 1 [(.int .u8 0)] (ci 1000000) (ci 1000000),none⟩,1⟩,
  ⟨⟨(some 4),.mov (t 12),none⟩,0⟩]
def o_handsellaw01_ShaKnown_4 : List TIns := [⟨⟨(some 5),.mov (ci 0),none⟩,0⟩]
def o_handsellaw01_ShaKnown_5 : List TIns := [⟨⟨(some 13),.mov (t 5),none⟩,0⟩,
  ⟨⟨(some 14),.mov (t 4),none⟩,0⟩,
  ⟨⟨(some 15),.lenL (t 14),none⟩,0⟩,
  ⟨⟨(some 16),.bin .lss (t 13) (t 15),none⟩,0⟩]
def o_handsellaw01_ShaKnown_7 : List TIns := [⟨⟨(some 19),.mov (t 4),none⟩,0⟩,
  ⟨⟨(some 20),.mov (t 5),none⟩,0⟩,
  ⟨⟨(some 21),.indexSl 1 (t 19) (t 20),none⟩,0⟩,
  ⟨⟨none,.store 1 (t 21) (.const (Go.Value.int Go.IntKind.u8 97)),none⟩,0⟩]
def o_handsellaw01_ShaKnown_6 : List TIns := [⟨⟨(some 17),.mov (t 5),none⟩,0⟩,
  ⟨⟨(some 18),.bin .add (t 17) (ci 1),none⟩,0⟩,
  ⟨⟨(some 5),.mov (t 18),none⟩,0⟩]
def l_handsellaw01_ShaKnown_1 : TC := (.seq (.seq (.ops o_handsellaw01_ShaKnown_5) (.clean [4,5,16] (.cond (t 16) .skip (.exit 0)))) (.clean [4,5] (.seq (.block 1 [4,5] (.ops o_handsellaw01_ShaKnown_7)) (.clean [4,5] (.ops o_handsellaw01_ShaKnown_6)))))
def o_handsellaw01_ShaKnown_8 : List TIns := [⟨⟨(some 22),.mov (t 4),none⟩,0⟩,
  ⟨⟨(some 23),.toStr (t 22),none⟩,0⟩,
  ⟨⟨(some 24),.call F_sha_Sum [(t 23)],none⟩,0⟩,
  ⟨⟨(some 25),.call F_sha_Hex [(t 24)],none⟩,0⟩,
  ⟨⟨(some 26),.bin .eql (t 25) (.const (Go.Value.string ⟨#[99,100,99,55,54,101,53,99,57,57,49,52,102,98,57,50,56,49,97,49,99,55,101,50,56,52,100,55,51,101,54,55,102,49,56,48,57,97,52,56,97,52,57,55,50,48,48,101,48,52,54,100,51,57,99,99,99,55,49,49,50,99,100,48]⟩)),none⟩,0⟩,
  ⟨⟨(some 27),.mov (t 26),none⟩,0⟩,
  ⟨⟨(some 28),.call F_handsellaw01_awake [],(some (27,true))⟩,0⟩,
  ⟨⟨(some 29),.pick (t 27) (t 28) (.const (Go.Value.bool false)),none⟩,0⟩,
  ⟨⟨(some 2),.mov (t 29),none⟩,0⟩]
def o_handsellaw01_ShaKnown_9 : List TIns := [⟨⟨(some 30),.build [(.string ⟨#[]⟩),(.string ⟨#[]⟩),(.string ⟨#[]⟩),(.string ⟨#[]⟩)] [(0,1,(.const (Go.Value.string ⟨#[97,98,99,100,98,99,100,101,99,100,101,102,100,101,102,103,101,102,103,104,102,103,104,105,103,104,105,106,104,105,106,107,105,106,107,108,106,107,108,109,107,108,109,110,108,109,110,111,109,110,111,112,110,111,112,113]⟩))),(1,1,(.const (Go.Value.string ⟨#[97,98,99,100,101,102,103,104,98,99,100,101,102,103,104,105,99,100,101,102,103,104,105,106,100,101,102,103,104,105,106,107,101,102,103,104,105,106,107,108,102,103,104,105,106,107,108,109,103,104,105,106,107,108,109,110,104,105,106,107,108,109,110,111,105,106,107,108,109,110,111,112,106,107,108,109,110,111,112,113,107,108,109,110,111,112,113,114,108,109,110,111,112,113,114,115,109,110,111,112,113,114,115,116,110,111,112,113,114,115,116,117]⟩))),(2,1,(.const (Go.Value.string ⟨#[84,104,101,32,113,117,105,99,107,32,98,114,111,119,110,32,102,111,120,32,106,117,109,112,115,32,111,118,101,114,32,116,104,101,32,108,97,122,121,32,100,111,103]⟩))),(3,1,(.const (Go.Value.string ⟨#[97]⟩)))],none⟩,0⟩,
  ⟨⟨(some 31),.mov (t 3),none⟩,0⟩,
  ⟨⟨(some 32),.indexAgg 4 (t 30) (t 31),none⟩,0⟩,
  ⟨⟨(some 6),.mov (t 32),none⟩,0⟩]
def o_handsellaw01_ShaKnown_10 : List TIns := [⟨⟨(some 33),.build [(.string ⟨#[]⟩),(.string ⟨#[]⟩),(.string ⟨#[]⟩),(.string ⟨#[]⟩)] [(0,1,(.const (Go.Value.string ⟨#[50,52,56,100,54,97,54,49,100,50,48,54,51,56,98,56,101,53,99,48,50,54,57,51,48,99,51,101,54,48,51,57,97,51,51,99,101,52,53,57,54,52,102,102,50,49,54,55,102,54,101,99,101,100,100,52,49,57,100,98,48,54,99,49]⟩))),(1,1,(.const (Go.Value.string ⟨#[99,102,53,98,49,54,97,55,55,56,97,102,56,51,56,48,48,51,54,99,101,53,57,101,55,98,48,52,57,50,51,55,48,98,50,52,57,98,49,49,101,56,102,48,55,97,53,49,97,102,97,99,52,53,48,51,55,97,102,101,101,57,100,49]⟩))),(2,1,(.const (Go.Value.string ⟨#[100,55,97,56,102,98,98,51,48,55,100,55,56,48,57,52,54,57,99,97,57,97,98,99,98,48,48,56,50,101,52,102,56,100,53,54,53,49,101,52,54,100,51,99,100,98,55,54,50,100,48,50,100,48,98,102,51,55,99,57,101,53,57,50]⟩))),(3,1,(.const (Go.Value.string ⟨#[99,97,57,55,56,49,49,50,99,97,49,98,98,100,99,97,102,97,99,50,51,49,98,51,57,97,50,51,100,99,52,100,97,55,56,54,101,102,102,56,49,52,55,99,52,101,55,50,98,57,56,48,55,55,56,53,97,102,101,101,52,56,98,98]⟩)))],none⟩,0⟩,
  ⟨⟨(some 34),.mov (t 3),none⟩,0⟩,
  ⟨⟨(some 35),.indexAgg 4 (t 33) (t 34),none⟩,0⟩,
  ⟨⟨(some 7),.mov (t 35),none⟩,0⟩]
def o_handsellaw01_ShaKnown_11 : List TIns := [⟨⟨(some 36),.mov (t 6),none⟩,0⟩,
  ⟨⟨(some 37),.call F_sha_Sum [(t 36)],none⟩,0⟩,
  ⟨⟨(some 38),.call F_sha_Hex [(t 37)],none⟩,0⟩,
  ⟨⟨(some 39),.mov (t 7),none⟩,0⟩,
  ⟨⟨(some 40),.bin .eql (t 38) (t 39),none⟩,0⟩,
  ⟨⟨(some 41),.mov (t 40),none⟩,0⟩,
  ⟨⟨(some 42),.call F_handsellaw01_awake [],(some (41,true))⟩,0⟩,
  ⟨⟨(some 43),.pick (t 41) (t 42) (.const (Go.Value.bool false)),none⟩,0⟩,
  ⟨⟨(some 2),.mov (t 43),none⟩,0⟩]
def tc_handsellaw01_ShaKnown : TC := (.seq (.ops o_handsellaw01_ShaKnown_0) (.clean [0] (.seq (.ops o_handsellaw01_ShaKnown_1) (.clean [3] (.seq (.seq (.ops o_handsellaw01_ShaKnown_2) (.clean [3,11] (.cond (t 11) (.seq (.ops o_handsellaw01_ShaKnown_3) (.clean [4] (.seq (.seq (.ops o_handsellaw01_ShaKnown_4) (.block 0 [4] (.clean [4,5] (.loop [4,5] l_handsellaw01_ShaKnown_1)))) (.clean [4] (.seq (.ops o_handsellaw01_ShaKnown_8) (.ret [2])))))) .skip))) (.clean [3] (.seq (.ops o_handsellaw01_ShaKnown_9) (.clean [3,6] (.seq (.ops o_handsellaw01_ShaKnown_10) (.clean [6,7] (.seq (.ops o_handsellaw01_ShaKnown_11) (.ret [2]))))))))))))
def fn_handsellaw01_ShaKnown : TFn := ⟨44,tc_handsellaw01_ShaKnown,[.tmp 2],false⟩
theorem U_handsellaw01_ShaKnown : type_of% (And.intro @o_handsellaw01_ShaKnown_0.eq_1 (And.intro @o_handsellaw01_ShaKnown_1.eq_1 (And.intro @o_handsellaw01_ShaKnown_2.eq_1 (And.intro @o_handsellaw01_ShaKnown_3.eq_1 (And.intro @o_handsellaw01_ShaKnown_4.eq_1 (And.intro @o_handsellaw01_ShaKnown_5.eq_1 (And.intro @o_handsellaw01_ShaKnown_7.eq_1 (And.intro @o_handsellaw01_ShaKnown_6.eq_1 (And.intro @o_handsellaw01_ShaKnown_8.eq_1 (And.intro @o_handsellaw01_ShaKnown_9.eq_1 (And.intro @o_handsellaw01_ShaKnown_10.eq_1 (And.intro @o_handsellaw01_ShaKnown_11.eq_1 (And.intro @tc_handsellaw01_ShaKnown.eq_1 @fn_handsellaw01_ShaKnown.eq_1))))))))))))) := And.intro @o_handsellaw01_ShaKnown_0.eq_1 (And.intro @o_handsellaw01_ShaKnown_1.eq_1 (And.intro @o_handsellaw01_ShaKnown_2.eq_1 (And.intro @o_handsellaw01_ShaKnown_3.eq_1 (And.intro @o_handsellaw01_ShaKnown_4.eq_1 (And.intro @o_handsellaw01_ShaKnown_5.eq_1 (And.intro @o_handsellaw01_ShaKnown_7.eq_1 (And.intro @o_handsellaw01_ShaKnown_6.eq_1 (And.intro @o_handsellaw01_ShaKnown_8.eq_1 (And.intro @o_handsellaw01_ShaKnown_9.eq_1 (And.intro @o_handsellaw01_ShaKnown_10.eq_1 (And.intro @o_handsellaw01_ShaKnown_11.eq_1 (And.intro @tc_handsellaw01_ShaKnown.eq_1 @fn_handsellaw01_ShaKnown.eq_1))))))))))))
theorem c_handsellaw01_ShaKnown : fnIC Try.prog [] F_handsellaw01_ShaKnown = some (44,tc_handsellaw01_ShaKnown.erase,[.tmp 2]) := by kernel_rfl
def o_handsellaw00_Place_0 : List TIns := [⟨⟨(some 4),.mov (ci 0),none⟩,0⟩]
def o_handsellaw00_Place_1 : List TIns := [⟨⟨(some 6),.mov (t 0),none⟩,0⟩,
  ⟨⟨(some 7),.mov (t 1),none⟩,0⟩,
  ⟨⟨(some 8),.bin .rem (t 6) (t 7),none⟩,0⟩,
  ⟨⟨(some 5),.mov (t 8),none⟩,0⟩]
def o_handsellaw00_Place_2 : List TIns := [⟨⟨(some 9),.mov (t 5),none⟩,0⟩,
  ⟨⟨(some 10),.bin .lss (t 9) (ci 0),none⟩,0⟩]
def o_handsellaw00_Place_3 : List TIns := [⟨⟨(some 11),.mov (t 5),none⟩,0⟩,
  ⟨⟨(some 12),.mov (t 1),none⟩,0⟩,
  ⟨⟨(some 13),.bin .add (t 11) (t 12),none⟩,0⟩,
  ⟨⟨(some 5),.mov (t 13),none⟩,0⟩]
def o_handsellaw00_Place_4 : List TIns := [⟨⟨(some 14),.mov (t 5),none⟩,0⟩,
  ⟨⟨(some 4),.mov (t 14),none⟩,0⟩]
def tc_handsellaw00_Place : TC := (.seq (.ops o_handsellaw00_Place_0) (.clean [0,1] (.seq (.ops o_handsellaw00_Place_1) (.clean [1,5] (.seq (.seq (.ops o_handsellaw00_Place_2) (.clean [1,5,10] (.cond (t 10) (.ops o_handsellaw00_Place_3) .skip))) (.clean [5] (.seq (.ops o_handsellaw00_Place_4) (.ret [4]))))))))
def fn_handsellaw00_Place : TFn := ⟨15,tc_handsellaw00_Place,[.tmp 4],false⟩
theorem U_handsellaw00_Place : type_of% (And.intro @o_handsellaw00_Place_0.eq_1 (And.intro @o_handsellaw00_Place_1.eq_1 (And.intro @o_handsellaw00_Place_2.eq_1 (And.intro @o_handsellaw00_Place_3.eq_1 (And.intro @o_handsellaw00_Place_4.eq_1 (And.intro @tc_handsellaw00_Place.eq_1 @fn_handsellaw00_Place.eq_1)))))) := And.intro @o_handsellaw00_Place_0.eq_1 (And.intro @o_handsellaw00_Place_1.eq_1 (And.intro @o_handsellaw00_Place_2.eq_1 (And.intro @o_handsellaw00_Place_3.eq_1 (And.intro @o_handsellaw00_Place_4.eq_1 (And.intro @tc_handsellaw00_Place.eq_1 @fn_handsellaw00_Place.eq_1)))))
theorem c_handsellaw00_Place : fnIC Try.prog [] F_handsellaw00_Place = some (15,tc_handsellaw00_Place.erase,[.tmp 4]) := by kernel_rfl
def o_handsellaw01_ShaLengths_0 : List TIns := [⟨⟨(some 4),.mov (.const (Go.Value.bool false)),none⟩,0⟩]
def o_handsellaw01_ShaLengths_1 : List TIns := [⟨⟨(some 8),.mov (t 0),none⟩,0⟩,
  ⟨⟨(some 9),.call F_handsellaw00_Place [(t 8),(ci 300)],none⟩,0⟩,
  ⟨⟨(some 5),.mov (t 9),none⟩,0⟩]
def o_handsellaw01_ShaLengths_2 : List TIns := [⟨⟨(some 10),.mov (t 5),none⟩,0⟩,
  ⟨⟨(some 11),.makeSl T_uint8 1 [(.int .u8 0)] (t 10) (t 10),none⟩,1⟩,
  ⟨⟨(some 6),.mov (t 11),none⟩,0⟩]
def o_handsellaw01_ShaLengths_3 : List TIns := [⟨⟨(some 7),.mov (ci 0),none⟩,0⟩]
def o_handsellaw01_ShaLengths_4 : List TIns := [⟨⟨(some 12),.mov (t 7),none⟩,0⟩,
  ⟨⟨(some 13),.mov (t 5),none⟩,0⟩,
  ⟨⟨(some 14),.bin .lss (t 12) (t 13),none⟩,0⟩]
def o_handsellaw01_ShaLengths_6 : List TIns := [⟨⟨(some 17),.mov (t 6),none⟩,0⟩,
  ⟨⟨(some 18),.mov (t 7),none⟩,0⟩,
  ⟨⟨(some 19),.mov (t 1),none⟩,0⟩,
  ⟨⟨(some 20),.mov (t 7),none⟩,0⟩,
  ⟨⟨(some 21),.bin .rem (t 20) (ci 3),none⟩,0⟩,
  ⟨⟨(some 22),.conv .u8 (t 21),none⟩,0⟩,
  ⟨⟨(some 23),.bin .add (t 19) (t 22),none⟩,0⟩,
  ⟨⟨(some 24),.indexSl 1 (t 17) (t 18),none⟩,0⟩,
  ⟨⟨none,.store 1 (t 24) (t 23),none⟩,0⟩]
def o_handsellaw01_ShaLengths_5 : List TIns := [⟨⟨(some 15),.mov (t 7),none⟩,0⟩,
  ⟨⟨(some 16),.bin .add (t 15) (ci 1),none⟩,0⟩,
  ⟨⟨(some 7),.mov (t 16),none⟩,0⟩]
def l_handsellaw01_ShaLengths_1 : TC := (.seq (.seq (.ops o_handsellaw01_ShaLengths_4) (.clean [1,5,6,7,14] (.cond (t 14) .skip (.exit 0)))) (.clean [1,5,6,7] (.seq (.block 1 [1,5,6,7] (.ops o_handsellaw01_ShaLengths_6)) (.clean [1,5,6,7] (.ops o_handsellaw01_ShaLengths_5)))))
def o_handsellaw01_ShaLengths_7 : List TIns := [⟨⟨(some 25),.mov (t 6),none⟩,0⟩,
  ⟨⟨(some 26),.toStr (t 25),none⟩,0⟩,
  ⟨⟨(some 28),.mov (t 6),none⟩,0⟩,
  ⟨⟨(some 29),.toStr (t 28),none⟩,0⟩,
  ⟨⟨(some 27),.call F_sha_Sum [(t 26)],none⟩,0⟩,
  ⟨⟨(some 30),.call F_handselref01_Sum [(t 29)],none⟩,0⟩,
  ⟨⟨(some 31),.bin .eql (t 27) (t 30),none⟩,0⟩,
  ⟨⟨(some 32),.mov (t 31),none⟩,0⟩,
  ⟨⟨(some 33),.call F_handsellaw01_awake [],(some (32,true))⟩,0⟩,
  ⟨⟨(some 34),.pick (t 32) (t 33) (.const (Go.Value.bool false)),none⟩,0⟩,
  ⟨⟨(some 4),.mov (t 34),none⟩,0⟩]
def tc_handsellaw01_ShaLengths : TC := (.seq (.ops o_handsellaw01_ShaLengths_0) (.clean [0,1] (.seq (.ops o_handsellaw01_ShaLengths_1) (.clean [1,5] (.seq (.ops o_handsellaw01_ShaLengths_2) (.clean [1,5,6] (.seq (.seq (.ops o_handsellaw01_ShaLengths_3) (.block 0 [6] (.clean [1,5,6,7] (.loop [1,5,6,7] l_handsellaw01_ShaLengths_1)))) (.clean [6] (.seq (.draw (pl o_handsellaw01_ShaLengths_7)) (.ret [4]))))))))))
def fn_handsellaw01_ShaLengths : TFn := ⟨35,tc_handsellaw01_ShaLengths,[.tmp 4],false⟩
theorem U_handsellaw01_ShaLengths : type_of% (And.intro @o_handsellaw01_ShaLengths_0.eq_1 (And.intro @o_handsellaw01_ShaLengths_1.eq_1 (And.intro @o_handsellaw01_ShaLengths_2.eq_1 (And.intro @o_handsellaw01_ShaLengths_3.eq_1 (And.intro @o_handsellaw01_ShaLengths_4.eq_1 (And.intro @o_handsellaw01_ShaLengths_6.eq_1 (And.intro @o_handsellaw01_ShaLengths_5.eq_1 (And.intro @o_handsellaw01_ShaLengths_7.eq_1 (And.intro @tc_handsellaw01_ShaLengths.eq_1 @fn_handsellaw01_ShaLengths.eq_1))))))))) := And.intro @o_handsellaw01_ShaLengths_0.eq_1 (And.intro @o_handsellaw01_ShaLengths_1.eq_1 (And.intro @o_handsellaw01_ShaLengths_2.eq_1 (And.intro @o_handsellaw01_ShaLengths_3.eq_1 (And.intro @o_handsellaw01_ShaLengths_4.eq_1 (And.intro @o_handsellaw01_ShaLengths_6.eq_1 (And.intro @o_handsellaw01_ShaLengths_5.eq_1 (And.intro @o_handsellaw01_ShaLengths_7.eq_1 (And.intro @tc_handsellaw01_ShaLengths.eq_1 @fn_handsellaw01_ShaLengths.eq_1))))))))
theorem c_handsellaw01_ShaLengths : fnIC Try.prog [(7,⟨[0,1,3,4,2,5,6,7,8,9,10],[0,1,3,0,8,31,63,127,255,511,1023],[],[]⟩)] F_handsellaw01_ShaLengths = some (35,tc_handsellaw01_ShaLengths.erase,[.tmp 4]) := by kernel_rfl
def o_handsellaw01_ShaTexts_0 : List TIns := [⟨⟨(some 2),.mov (.const (Go.Value.bool false)),none⟩,0⟩]
def o_handsellaw01_ShaTexts_1 : List TIns := [⟨⟨(some 9),.mov (t 0),none⟩,0⟩,
  ⟨⟨(some 10),.lenS (t 9),none⟩,0⟩,
  ⟨⟨(some 11),.bin .gtr (t 10) (ci 1000),none⟩,0⟩]
def o_handsellaw01_ShaTexts_2 : List TIns := [⟨⟨(some 12),.call F_handsellaw01_awake [],none⟩,0⟩,
  ⟨⟨(some 2),.mov (t 12),none⟩,0⟩]
def o_handsellaw01_ShaTexts_3 : List TIns := [⟨⟨(some 13),.mov (t 0),none⟩,0⟩,
  ⟨⟨(some 14),.call F_sha_Hex [(t 13)],none⟩,0⟩,
  ⟨⟨(some 15),.mov (t 0),none⟩,0⟩,
  ⟨⟨(some 16),.call F_sha_Sum [(t 15)],none⟩,0⟩,
  ⟨⟨(some 3),.mov (t 14),none⟩,0⟩,
  ⟨⟨(some 4),.mov (t 16),none⟩,0⟩]
def o_handsellaw01_ShaTexts_4 : List TIns := [⟨⟨(some 17),.mov (t 3),none⟩,0⟩,
  ⟨⟨(some 18),.lenS (t 17),none⟩,0⟩,
  ⟨⟨(some 19),.mov (t 0),none⟩,0⟩,
  ⟨⟨(some 20),.lenS (t 19),none⟩,0⟩,
  ⟨⟨(some 21),.bin .mul (ci 2) (t 20),none⟩,0⟩,
  ⟨⟨(some 22),.bin .neq (t 18) (t 21),none⟩,0⟩,
  ⟨⟨(some 23),.mov (t 22),none⟩,0⟩,
  ⟨⟨(some 24),.mov (t 4),(some (23,false))⟩,0⟩,
  ⟨⟨(some 25),.lenS (t 24),(some (23,false))⟩,0⟩,
  ⟨⟨(some 26),.bin .neq (t 25) (ci 32),(some (23,false))⟩,0⟩,
  ⟨⟨(some 27),.pick (t 23) (.const (Go.Value.bool true)) (t 26),none⟩,0⟩,
  ⟨⟨(some 28),.mov (t 27),none⟩,0⟩,
  ⟨⟨(some 29),.mov (t 4),(some (28,false))⟩,0⟩,
  ⟨⟨(some 30),.mov (t 0),(some (28,false))⟩,0⟩,
  ⟨⟨(some 31),.call F_sha_Sum [(t 30)],(some (28,false))⟩,0⟩,
  ⟨⟨(some 32),.bin .neq (t 29) (t 31),(some (28,false))⟩,0⟩,
  ⟨⟨(some 33),.pick (t 28) (.const (Go.Value.bool true)) (t 32),none⟩,0⟩,
  ⟨⟨(some 34),.mov (t 33),none⟩,0⟩,
  ⟨⟨(some 35),.mov (t 0),(some (34,false))⟩,0⟩,
  ⟨⟨(some 37),.mov (t 4),(some (34,false))⟩,0⟩,
  ⟨⟨(some 38),.sliceStr (t 37) none (some (ci 16)),(some (34,false))⟩,0⟩,
  ⟨⟨(some 36),.call F_sha_Short [(t 35)],(some (34,false))⟩,0⟩,
  ⟨⟨(some 39),.bin .neq (t 36) (t 38),(some (34,false))⟩,0⟩,
  ⟨⟨(some 40),.pick (t 34) (.const (Go.Value.bool true)) (t 39),none⟩,0⟩]
def o_handsellaw01_ShaTexts_5 : List TIns := [⟨⟨(some 2),.mov (.const (Go.Value.bool false)),none⟩,0⟩]
def o_handsellaw01_ShaTexts_6 : List TIns := [⟨⟨(some 5),.mov (ci 0),none⟩,0⟩]
def o_handsellaw01_ShaTexts_7 : List TIns := [⟨⟨(some 41),.mov (t 5),none⟩,0⟩,
  ⟨⟨(some 42),.mov (t 0),none⟩,0⟩,
  ⟨⟨(some 43),.lenS (t 42),none⟩,0⟩,
  ⟨⟨(some 44),.bin .lss (t 41) (t 43),none⟩,0⟩]
def o_handsellaw01_ShaTexts_9 : List TIns := [⟨⟨(some 6),.mov (ci 0),none⟩,0⟩]
def o_handsellaw01_ShaTexts_10 : List TIns := [⟨⟨(some 7),.mov (ci 0),none⟩,0⟩]
def o_handsellaw01_ShaTexts_11 : List TIns := [⟨⟨(some 47),.mov (t 7),none⟩,0⟩,
  ⟨⟨(some 48),.bin .lss (t 47) (ci 2),none⟩,0⟩]
def o_handsellaw01_ShaTexts_13 : List TIns := [⟨⟨(some 51),.mov (t 3),none⟩,0⟩,
  ⟨⟨(some 52),.mov (t 5),none⟩,0⟩,
  ⟨⟨(some 53),.bin .mul (ci 2) (t 52),none⟩,0⟩,
  ⟨⟨(some 54),.mov (t 7),none⟩,0⟩,
  ⟨⟨(some 55),.bin .add (t 53) (t 54),none⟩,0⟩,
  ⟨⟨(some 56),.indexStr (t 51) (t 55),none⟩,0⟩,
  ⟨⟨(some 8),.mov (t 56),none⟩,0⟩]
def o_handsellaw01_ShaTexts_15 : List TIns := [⟨⟨(some 58),.mov (t 8),none⟩,0⟩,
  ⟨⟨(some 59),.bin .geq (t 58) (.const (Go.Value.int Go.IntKind.u8 48)),none⟩,0⟩,
  ⟨⟨(some 60),.mov (t 59),none⟩,0⟩,
  ⟨⟨(some 61),.mov (t 8),(some (60,true))⟩,0⟩,
  ⟨⟨(some 62),.bin .leq (t 61) (.const (Go.Value.int Go.IntKind.u8 57)),(some (60,true))⟩,0⟩,
  ⟨⟨(some 63),.pick (t 60) (t 62) (.const (Go.Value.bool false)),none⟩,0⟩,
  ⟨⟨(some 57),.mov (t 63),none⟩,0⟩]
def o_handsellaw01_ShaTexts_16 : List TIns := [⟨⟨(some 64),.mov (t 6),none⟩,0⟩,
  ⟨⟨(some 65),.bin .mul (ci 16) (t 64),none⟩,0⟩,
  ⟨⟨(some 66),.mov (t 8),none⟩,0⟩,
  ⟨⟨(some 67),.bin .sub (t 66) (.const (Go.Value.int Go.IntKind.u8 48)),none⟩,0⟩,
  ⟨⟨(some 68),.conv .i64 (t 67),none⟩,0⟩,
  ⟨⟨(some 69),.bin .add (t 65) (t 68),none⟩,0⟩,
  ⟨⟨(some 6),.mov (t 69),none⟩,0⟩]
def o_handsellaw01_ShaTexts_17 : List TIns := [⟨⟨(some 71),.mov (t 8),none⟩,0⟩,
  ⟨⟨(some 72),.bin .geq (t 71) (.const (Go.Value.int Go.IntKind.u8 97)),none⟩,0⟩,
  ⟨⟨(some 73),.mov (t 72),none⟩,0⟩,
  ⟨⟨(some 74),.mov (t 8),(some (73,true))⟩,0⟩,
  ⟨⟨(some 75),.bin .leq (t 74) (.const (Go.Value.int Go.IntKind.u8 102)),(some (73,true))⟩,0⟩,
  ⟨⟨(some 76),.pick (t 73) (t 75) (.const (Go.Value.bool false)),none⟩,0⟩,
  ⟨⟨(some 70),.mov (t 76),none⟩,0⟩]
def o_handsellaw01_ShaTexts_18 : List TIns := [⟨⟨(some 77),.mov (t 6),none⟩,0⟩,
  ⟨⟨(some 78),.bin .mul (ci 16) (t 77),none⟩,0⟩,
  ⟨⟨(some 79),.mov (t 8),none⟩,0⟩,
  ⟨⟨(some 80),.bin .sub (t 79) (.const (Go.Value.int Go.IntKind.u8 97)),none⟩,0⟩,
  ⟨⟨(some 81),.conv .i64 (t 80),none⟩,0⟩,
  ⟨⟨(some 82),.bin .add (t 78) (t 81),none⟩,0⟩,
  ⟨⟨(some 83),.bin .add (t 82) (ci 10),none⟩,0⟩,
  ⟨⟨(some 6),.mov (t 83),none⟩,0⟩]
def o_handsellaw01_ShaTexts_14 : List TIns := [⟨⟨(some 2),.mov (.const (Go.Value.bool false)),none⟩,0⟩]
def o_handsellaw01_ShaTexts_12 : List TIns := [⟨⟨(some 49),.mov (t 7),none⟩,0⟩,
  ⟨⟨(some 50),.bin .add (t 49) (ci 1),none⟩,0⟩,
  ⟨⟨(some 7),.mov (t 50),none⟩,0⟩]
def l_handsellaw01_ShaTexts_2 : TC := (.seq (.seq (.ops o_handsellaw01_ShaTexts_11) (.clean [0,3,5,6,7,48] (.cond (t 48) .skip (.exit 2)))) (.clean [0,3,5,6,7] (.seq (.block 3 [0,3,5,6,7] (.seq (.ops o_handsellaw01_ShaTexts_13) (.block 4 [0,3,5,6,7] (.seq (.ops o_handsellaw01_ShaTexts_15) (.clean [0,3,5,6,7,8,57] (.cond (t 57) (.ops o_handsellaw01_ShaTexts_16) (.seq (.ops o_handsellaw01_ShaTexts_17) (.clean [0,3,5,6,7,8,70] (.cond (t 70) (.ops o_handsellaw01_ShaTexts_18) (.seq (.ops o_handsellaw01_ShaTexts_14) (.ret [2]))))))))))) (.clean [0,3,5,6,7] (.ops o_handsellaw01_ShaTexts_12)))))
def o_handsellaw01_ShaTexts_19 : List TIns := [⟨⟨(some 84),.mov (t 6),none⟩,0⟩,
  ⟨⟨(some 85),.mov (t 0),none⟩,0⟩,
  ⟨⟨(some 86),.mov (t 5),none⟩,0⟩,
  ⟨⟨(some 87),.indexStr (t 85) (t 86),none⟩,0⟩,
  ⟨⟨(some 88),.conv .i64 (t 87),none⟩,0⟩,
  ⟨⟨(some 89),.bin .neq (t 84) (t 88),none⟩,0⟩]
def o_handsellaw01_ShaTexts_20 : List TIns := [⟨⟨(some 2),.mov (.const (Go.Value.bool false)),none⟩,0⟩]
def o_handsellaw01_ShaTexts_8 : List TIns := [⟨⟨(some 45),.mov (t 5),none⟩,0⟩,
  ⟨⟨(some 46),.bin .add (t 45) (ci 1),none⟩,0⟩,
  ⟨⟨(some 5),.mov (t 46),none⟩,0⟩]
def l_handsellaw01_ShaTexts_1 : TC := (.seq (.seq (.ops o_handsellaw01_ShaTexts_7) (.clean [0,3,5,44] (.cond (t 44) .skip (.exit 0)))) (.clean [0,3,5] (.seq (.block 1 [0,3,5] (.seq (.ops o_handsellaw01_ShaTexts_9) (.clean [0,3,5,6] (.seq (.seq (.ops o_handsellaw01_ShaTexts_10) (.block 2 [0,3,5,6] (.clean [0,3,5,6,7] (.loop [0,3,5,6,7] l_handsellaw01_ShaTexts_2)))) (.clean [0,3,5,6] (.seq (.ops o_handsellaw01_ShaTexts_19) (.clean [0,3,5,89] (.cond (t 89) (.seq (.ops o_handsellaw01_ShaTexts_20) (.ret [2])) .skip)))))))) (.clean [0,3,5] (.ops o_handsellaw01_ShaTexts_8)))))
def o_handsellaw01_ShaTexts_21 : List TIns := [⟨⟨(some 90),.call F_handsellaw01_awake [],none⟩,0⟩,
  ⟨⟨(some 2),.mov (t 90),none⟩,0⟩]
def tc_handsellaw01_ShaTexts : TC := (.seq (.ops o_handsellaw01_ShaTexts_0) (.clean [0] (.seq (.seq (.ops o_handsellaw01_ShaTexts_1) (.clean [0,11] (.cond (t 11) (.seq (.ops o_handsellaw01_ShaTexts_2) (.ret [2])) .skip))) (.clean [0] (.seq (.ops o_handsellaw01_ShaTexts_3) (.clean [0,3,4] (.seq (.seq (.draw (pl o_handsellaw01_ShaTexts_4)) (.clean [0,3,40] (.cond (t 40) (.seq (.ops o_handsellaw01_ShaTexts_5) (.ret [2])) .skip))) (.clean [0,3] (.seq (.seq (.ops o_handsellaw01_ShaTexts_6) (.block 0 [] (.clean [0,3,5] (.loop [0,3,5] l_handsellaw01_ShaTexts_1)))) (.clean [] (.seq (.ops o_handsellaw01_ShaTexts_21) (.ret [2]))))))))))))
def fn_handsellaw01_ShaTexts : TFn := ⟨91,tc_handsellaw01_ShaTexts,[.tmp 2],false⟩
theorem U_handsellaw01_ShaTexts : type_of% (And.intro @o_handsellaw01_ShaTexts_0.eq_1 (And.intro @o_handsellaw01_ShaTexts_1.eq_1 (And.intro @o_handsellaw01_ShaTexts_2.eq_1 (And.intro @o_handsellaw01_ShaTexts_3.eq_1 (And.intro @o_handsellaw01_ShaTexts_4.eq_1 (And.intro @o_handsellaw01_ShaTexts_5.eq_1 (And.intro @o_handsellaw01_ShaTexts_6.eq_1 (And.intro @o_handsellaw01_ShaTexts_7.eq_1 (And.intro @o_handsellaw01_ShaTexts_9.eq_1 (And.intro @o_handsellaw01_ShaTexts_10.eq_1 (And.intro @o_handsellaw01_ShaTexts_11.eq_1 (And.intro @o_handsellaw01_ShaTexts_13.eq_1 (And.intro @o_handsellaw01_ShaTexts_15.eq_1 (And.intro @o_handsellaw01_ShaTexts_16.eq_1 (And.intro @o_handsellaw01_ShaTexts_17.eq_1 (And.intro @o_handsellaw01_ShaTexts_18.eq_1 (And.intro @o_handsellaw01_ShaTexts_14.eq_1 (And.intro @o_handsellaw01_ShaTexts_12.eq_1 (And.intro @o_handsellaw01_ShaTexts_19.eq_1 (And.intro @o_handsellaw01_ShaTexts_20.eq_1 (And.intro @o_handsellaw01_ShaTexts_8.eq_1 (And.intro @o_handsellaw01_ShaTexts_21.eq_1 (And.intro @tc_handsellaw01_ShaTexts.eq_1 @fn_handsellaw01_ShaTexts.eq_1))))))))))))))))))))))) := And.intro @o_handsellaw01_ShaTexts_0.eq_1 (And.intro @o_handsellaw01_ShaTexts_1.eq_1 (And.intro @o_handsellaw01_ShaTexts_2.eq_1 (And.intro @o_handsellaw01_ShaTexts_3.eq_1 (And.intro @o_handsellaw01_ShaTexts_4.eq_1 (And.intro @o_handsellaw01_ShaTexts_5.eq_1 (And.intro @o_handsellaw01_ShaTexts_6.eq_1 (And.intro @o_handsellaw01_ShaTexts_7.eq_1 (And.intro @o_handsellaw01_ShaTexts_9.eq_1 (And.intro @o_handsellaw01_ShaTexts_10.eq_1 (And.intro @o_handsellaw01_ShaTexts_11.eq_1 (And.intro @o_handsellaw01_ShaTexts_13.eq_1 (And.intro @o_handsellaw01_ShaTexts_15.eq_1 (And.intro @o_handsellaw01_ShaTexts_16.eq_1 (And.intro @o_handsellaw01_ShaTexts_17.eq_1 (And.intro @o_handsellaw01_ShaTexts_18.eq_1 (And.intro @o_handsellaw01_ShaTexts_14.eq_1 (And.intro @o_handsellaw01_ShaTexts_12.eq_1 (And.intro @o_handsellaw01_ShaTexts_19.eq_1 (And.intro @o_handsellaw01_ShaTexts_20.eq_1 (And.intro @o_handsellaw01_ShaTexts_8.eq_1 (And.intro @o_handsellaw01_ShaTexts_21.eq_1 (And.intro @tc_handsellaw01_ShaTexts.eq_1 @fn_handsellaw01_ShaTexts.eq_1))))))))))))))))))))))
theorem c_handsellaw01_ShaTexts : fnIC Try.prog [(4,⟨[0,1,2,3,4,5,6,7,8,9,10,11,12,13,14,15,16,17,18,20,21,19,22,23],[0,1,0,4,12,31,63,127,255,511,1023,2047,4095,4095,12287,32767,65535,131071,262143,524287,262143,1310719,4194303,8388607],[],[]⟩)] F_handsellaw01_ShaTexts = some (91,tc_handsellaw01_ShaTexts.erase,[.tmp 2]) := by kernel_rfl
end Ic
end Go.Proofs.Ytnimkejbeogciaa
