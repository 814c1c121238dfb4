/- The code of functions for the tree level, printed by a program out of the model's own print; the kernel checks each. -/
import Derived.Test.YtdcfoaafkppojaaProg
import Derived.Test.YtdcfoaafkppojaaTv9
import Derived.KernelRfl
set_option linter.unusedVariables false
namespace Go.Proofs.Ytdcfoaafkppojaa
open Go Go.RowKit Sh
namespace Ic
abbrev t (n : Nat) : Operand := .tmp n
abbrev ci (n : Int) : Operand := .const (.int .i64 n)
abbrev F_handsellaw06_WhenSteps : Nat := 4
abbrev F_handsellaw06_WhenNone : Nat := 5
abbrev F_handsellaw06_awake : Nat := 17
abbrev F_when_Deadline : Nat := 18
abbrev F_when_Last : Nat := 20
abbrev F_when_End : Nat := 22
abbrev F_when_Table : Nat := 25
abbrev F_handsellaw00_Place : Nat := 27
abbrev F_handsellaw00_Ring : Nat := 28
abbrev F_spec_Check : Nat := 47
abbrev F_when_of : Nat := 53
abbrev F_handsellaw00_arcs : Nat := 54
abbrev F_handsellaw00_Account : Nat := 55
abbrev F_handsellaw00_keyed : Nat := 56
abbrev F_spec_name : Nat := 87
abbrev F_spec_in : Nat := 88
abbrev F_spec_sized : Nat := 89
abbrev F_spec_arc : Nat := 90
abbrev F_spec_Check_1 : Nat := 91
abbrev F_spec_once_string : Nat := 92
abbrev F_spec_once_2_int : Nat := 93
abbrev F_spec_once_int : Nat := 94
abbrev F_slices_ContainsFunc_int_int : Nat := 95
abbrev F_when_times_at : Nat := 118
abbrev F_handsellaw00_Digits : Nat := 119
abbrev F_handselref01_Sum : Nat := 120
abbrev F_handsellaw00_Secret : Nat := 121
abbrev F_handselref02_Public : Nat := 122
abbrev F_handsellaw00_Seed : Nat := 123
abbrev F_slices_ContainsFunc_string_string : Nat := 131
abbrev F_spec_sized_1 : Nat := 132
abbrev F_slices_IndexFunc_int_int : Nat := 133
abbrev F_handselref01_block : Nat := 136
abbrev F_handselref01_Short : Nat := 137
abbrev F_handselref02_Value : Nat := 138
abbrev F_slices_IndexFunc_string_string : Nat := 141
abbrev F_handselref01_table : Nat := 143
abbrev F_handselref01_turn : Nat := 144
abbrev T_int : Nat := 3
abbrev T_uint8 : Nat := 5
abbrev T_string : Nat := 9
abbrev T_api_Spec : Nat := 27
abbrev T_api_Arc : Nat := 43
abbrev T_api_Party : Nat := 45
abbrev T_2_int : Nat := 87
abbrev T_when_times : Nat := 106
abbrev T_8_uint32 : Nat := 130
abbrev T_64_uint32 : Nat := 136
def o_handsellaw06_WhenSteps_0 : List TIns := [⟨⟨(some 6),.mov (.const (Go.Value.bool false)),none⟩,0⟩]
def o_handsellaw06_WhenSteps_1 : List TIns := [⟨⟨(some 13),.mov (t 0),none⟩,0⟩,
  ⟨⟨(some 14),.call F_handsellaw00_Place [(t 13),(ci 5)],none⟩,0⟩,
  ⟨⟨(some 15),.bin .add (ci 2) (t 14),none⟩,0⟩,
  ⟨⟨(some 7),.mov (t 15),none⟩,0⟩]
def o_handsellaw06_WhenSteps_2 : List TIns := [⟨⟨(some 16),.mov (t 1),none⟩,0⟩,
  ⟨⟨(some 17),.call F_handsellaw00_Place [(t 16),(ci 1099511627777)],none⟩,0⟩,
  ⟨⟨(some 18),.mov (t 2),none⟩,0⟩,
  ⟨⟨(some 19),.call F_handsellaw00_Place [(t 18),(ci 1048576)],none⟩,0⟩,
  ⟨⟨(some 20),.bin .add (ci 1) (t 19),none⟩,0⟩,
  ⟨⟨(some 8),.mov (t 17),none⟩,0⟩,
  ⟨⟨(some 9),.mov (t 20),none⟩,0⟩]
def o_handsellaw06_WhenSteps_3 : List TIns := [⟨⟨(some 21),.mov (t 7),none⟩,0⟩,
  ⟨⟨(some 22),.mov (t 8),none⟩,0⟩,
  ⟨⟨(some 23),.mov (t 9),none⟩,0⟩,
  ⟨⟨(some 24),.call F_handsellaw00_Ring [(t 21),(t 22),(t 23)],none⟩,0⟩,
  ⟨⟨(some 10),.box T_api_Spec 7 (.const (.agg #[(.string ⟨#[]⟩),(.slice none 0 0),(.slice none 0 0),(.slice none 0 0),(.slice none 0 0),(.int .i64 0),(.int .i64 0)])),none⟩,0⟩,
  ⟨⟨none,.store 7 (t 10) (t 24),none⟩,0⟩]
def o_handsellaw06_WhenSteps_4 : List TIns := [⟨⟨(some 25),.loadN 7 (t 10),none⟩,0⟩,
  ⟨⟨(some 26),.call F_when_Table [(t 25)],none⟩,0⟩,
  ⟨⟨(some 11),.mov (t 26),none⟩,0⟩]
def o_handsellaw06_WhenSteps_5 : List TIns := [⟨⟨(some 27),.mov (t 11),none⟩,0⟩,
  ⟨⟨(some 28),.lenL (t 27),none⟩,0⟩,
  ⟨⟨(some 29),.mov (t 7),none⟩,0⟩,
  ⟨⟨(some 30),.bin .neq (t 28) (t 29),none⟩,0⟩,
  ⟨⟨(some 31),.mov (t 30),none⟩,0⟩,
  ⟨⟨(some 32),.mov (t 11),(some (31,false))⟩,0⟩,
  ⟨⟨(some 33),.indexSl 1 (t 32) (ci 0),(some (31,false))⟩,0⟩,
  ⟨⟨(some 34),.load1 (t 33),(some (31,false))⟩,0⟩,
  ⟨⟨(some 35),.mov (t 8),(some (31,false))⟩,0⟩,
  ⟨⟨(some 36),.mov (t 7),(some (31,false))⟩,0⟩,
  ⟨⟨(some 37),.mov (t 9),(some (31,false))⟩,0⟩,
  ⟨⟨(some 38),.bin .mul (t 36) (t 37),(some (31,false))⟩,0⟩,
  ⟨⟨(some 39),.bin .add (t 35) (t 38),(some (31,false))⟩,0⟩,
  ⟨⟨(some 40),.bin .neq (t 34) (t 39),(some (31,false))⟩,0⟩,
  ⟨⟨(some 41),.pick (t 31) (.const (Go.Value.bool true)) (t 40),none⟩,0⟩,
  ⟨⟨(some 42),.mov (t 41),none⟩,0⟩,
  ⟨⟨(some 43),.loadN 7 (t 10),(some (42,false))⟩,0⟩,
  ⟨⟨(some 45),.mov (t 11),(some (42,false))⟩,0⟩,
  ⟨⟨(some 46),.mov (t 7),(some (42,false))⟩,0⟩,
  ⟨⟨(some 47),.bin .sub (t 46) (ci 1),(some (42,false))⟩,0⟩,
  ⟨⟨(some 48),.indexSl 1 (t 45) (t 47),(some (42,false))⟩,0⟩,
  ⟨⟨(some 49),.load1 (t 48),(some (42,false))⟩,0⟩,
  ⟨⟨(some 44),.call F_when_Last [(t 43)],(some (42,false))⟩,0⟩,
  ⟨⟨(some 50),.bin .neq (t 44) (t 49),(some (42,false))⟩,0⟩,
  ⟨⟨(some 51),.pick (t 42) (.const (Go.Value.bool true)) (t 50),none⟩,0⟩,
  ⟨⟨(some 52),.mov (t 51),none⟩,0⟩,
  ⟨⟨(some 53),.loadN 7 (t 10),(some (52,false))⟩,0⟩,
  ⟨⟨(some 55),.mov (t 11),(some (52,false))⟩,0⟩,
  ⟨⟨(some 56),.mov (t 7),(some (52,false))⟩,0⟩,
  ⟨⟨(some 57),.bin .sub (t 56) (ci 1),(some (52,false))⟩,0⟩,
  ⟨⟨(some 58),.indexSl 1 (t 55) (t 57),(some (52,false))⟩,0⟩,
  ⟨⟨(some 59),.load1 (t 58),(some (52,false))⟩,0⟩,
  ⟨⟨(some 60),.mov (t 9),(some (52,false))⟩,0⟩,
  ⟨⟨(some 61),.bin .add (t 59) (t 60),(some (52,false))⟩,0⟩,
  ⟨⟨(some 54),.call F_when_End [(t 53)],(some (52,false))⟩,0⟩,
  ⟨⟨(some 62),.bin .neq (t 54) (t 61),(some (52,false))⟩,0⟩,
  ⟨⟨(some 63),.pick (t 52) (.const (Go.Value.bool true)) (t 62),none⟩,0⟩]
def o_handsellaw06_WhenSteps_6 : List TIns := [⟨⟨(some 6),.mov (.const (Go.Value.bool false)),none⟩,0⟩]
def o_handsellaw06_WhenSteps_7 : List TIns := [⟨⟨(some 12),.mov (ci 1),none⟩,0⟩]
def o_handsellaw06_WhenSteps_8 : List TIns := [⟨⟨(some 64),.mov (t 12),none⟩,0⟩,
  ⟨⟨(some 65),.mov (t 7),none⟩,0⟩,
  ⟨⟨(some 66),.bin .lss (t 64) (t 65),none⟩,0⟩]
def o_handsellaw06_WhenSteps_10 : List TIns := [⟨⟨(some 69),.mov (t 11),none⟩,0⟩,
  ⟨⟨(some 70),.mov (t 12),none⟩,0⟩,
  ⟨⟨(some 71),.indexSl 1 (t 69) (t 70),none⟩,0⟩,
  ⟨⟨(some 72),.load1 (t 71),none⟩,0⟩,
  ⟨⟨(some 73),.mov (t 11),none⟩,0⟩,
  ⟨⟨(some 74),.mov (t 12),none⟩,0⟩,
  ⟨⟨(some 75),.bin .sub (t 74) (ci 1),none⟩,0⟩,
  ⟨⟨(some 76),.indexSl 1 (t 73) (t 75),none⟩,0⟩,
  ⟨⟨(some 77),.load1 (t 76),none⟩,0⟩,
  ⟨⟨(some 78),.mov (t 9),none⟩,0⟩,
  ⟨⟨(some 79),.bin .add (t 77) (t 78),none⟩,0⟩,
  ⟨⟨(some 80),.bin .neq (t 72) (t 79),none⟩,0⟩,
  ⟨⟨(some 81),.mov (t 80),none⟩,0⟩,
  ⟨⟨(some 82),.loadN 7 (t 10),(some (81,false))⟩,0⟩,
  ⟨⟨(some 83),.mov (t 12),(some (81,false))⟩,0⟩,
  ⟨⟨(some 84),.bin .add (t 83) (ci 1),(some (81,false))⟩,0⟩,
  ⟨⟨(some 86),.mov (t 11),(some (81,false))⟩,0⟩,
  ⟨⟨(some 87),.mov (t 12),(some (81,false))⟩,0⟩,
  ⟨⟨(some 88),.indexSl 1 (t 86) (t 87),(some (81,false))⟩,0⟩,
  ⟨⟨(some 89),.load1 (t 88),(some (81,false))⟩,0⟩,
  ⟨⟨(some 85),.call F_when_Deadline [(t 82),(t 84)],(some (81,false))⟩,0⟩,
  ⟨⟨(some 90),.bin .neq (t 85) (t 89),(some (81,false))⟩,0⟩,
  ⟨⟨(some 91),.pick (t 81) (.const (Go.Value.bool true)) (t 90),none⟩,0⟩]
def o_handsellaw06_WhenSteps_11 : List TIns := [⟨⟨(some 6),.mov (.const (Go.Value.bool false)),none⟩,0⟩]
def o_handsellaw06_WhenSteps_9 : List TIns := [⟨⟨(some 67),.mov (t 12),none⟩,0⟩,
  ⟨⟨(some 68),.bin .add (t 67) (ci 1),none⟩,0⟩,
  ⟨⟨(some 12),.mov (t 68),none⟩,0⟩]
def l_handsellaw06_WhenSteps_1 : TC := (.seq (.seq (.ops o_handsellaw06_WhenSteps_8) (.clean [7,9,10,11,12,66] (.cond (t 66) .skip (.exit 0)))) (.clean [7,9,10,11,12] (.seq (.block 1 [7,9,10,11,12] (.seq (.draw (pl o_handsellaw06_WhenSteps_10)) (.clean [7,9,10,11,12,91] (.cond (t 91) (.seq (.ops o_handsellaw06_WhenSteps_11) (.ret [6])) .skip)))) (.clean [7,9,10,11,12] (.ops o_handsellaw06_WhenSteps_9)))))
def o_handsellaw06_WhenSteps_12 : List TIns := [⟨⟨(some 92),.loadN 7 (t 10),none⟩,0⟩,
  ⟨⟨(some 94),.mov (t 11),none⟩,0⟩,
  ⟨⟨(some 95),.indexSl 1 (t 94) (ci 0),none⟩,0⟩,
  ⟨⟨(some 96),.load1 (t 95),none⟩,0⟩,
  ⟨⟨(some 93),.call F_when_Deadline [(t 92),(ci (-5))],none⟩,0⟩,
  ⟨⟨(some 97),.bin .eql (t 93) (t 96),none⟩,0⟩,
  ⟨⟨(some 98),.mov (t 97),none⟩,0⟩,
  ⟨⟨(some 99),.loadN 7 (t 10),(some (98,true))⟩,0⟩,
  ⟨⟨(some 100),.mov (t 7),(some (98,true))⟩,0⟩,
  ⟨⟨(some 101),.bin .add (t 100) (ci 9),(some (98,true))⟩,0⟩,
  ⟨⟨(some 103),.mov (t 11),(some (98,true))⟩,0⟩,
  ⟨⟨(some 104),.mov (t 7),(some (98,true))⟩,0⟩,
  ⟨⟨(some 105),.bin .sub (t 104) (ci 1),(some (98,true))⟩,0⟩,
  ⟨⟨(some 106),.indexSl 1 (t 103) (t 105),(some (98,true))⟩,0⟩,
  ⟨⟨(some 107),.load1 (t 106),(some (98,true))⟩,0⟩,
  ⟨⟨(some 102),.call F_when_Deadline [(t 99),(t 101)],(some (98,true))⟩,0⟩,
  ⟨⟨(some 108),.bin .eql (t 102) (t 107),(some (98,true))⟩,0⟩,
  ⟨⟨(some 109),.pick (t 98) (t 108) (.const (Go.Value.bool false)),none⟩,0⟩,
  ⟨⟨(some 110),.mov (t 109),none⟩,0⟩,
  ⟨⟨(some 111),.call F_handsellaw06_awake [],(some (110,true))⟩,0⟩,
  ⟨⟨(some 112),.pick (t 110) (t 111) (.const (Go.Value.bool false)),none⟩,0⟩,
  ⟨⟨(some 6),.mov (t 112),none⟩,0⟩]
def tc_handsellaw06_WhenSteps : TC := (.seq (.ops o_handsellaw06_WhenSteps_0) (.clean [0,1,2] (.seq (.ops o_handsellaw06_WhenSteps_1) (.clean [1,2,7] (.seq (.ops o_handsellaw06_WhenSteps_2) (.clean [7,8,9] (.seq (.ops o_handsellaw06_WhenSteps_3) (.clean [7,8,9,10] (.seq (.ops o_handsellaw06_WhenSteps_4) (.clean [7,8,9,10,11] (.seq (.seq (.draw (pl o_handsellaw06_WhenSteps_5)) (.clean [7,9,10,11,63] (.cond (t 63) (.seq (.ops o_handsellaw06_WhenSteps_6) (.ret [6])) .skip))) (.clean [7,9,10,11] (.seq (.seq (.ops o_handsellaw06_WhenSteps_7) (.block 0 [7,10,11] (.clean [7,9,10,11,12] (.loop [7,9,10,11,12] l_handsellaw06_WhenSteps_1)))) (.clean [7,10,11] (.seq (.draw (pl o_handsellaw06_WhenSteps_12)) (.ret [6]))))))))))))))))
def fn_handsellaw06_WhenSteps : TFn := ⟨113,tc_handsellaw06_WhenSteps,[.tmp 6],false⟩
theorem U_handsellaw06_WhenSteps : type_of% (And.intro @o_handsellaw06_WhenSteps_0.eq_1 (And.intro @o_handsellaw06_WhenSteps_1.eq_1 (And.intro @o_handsellaw06_WhenSteps_2.eq_1 (And.intro @o_handsellaw06_WhenSteps_3.eq_1 (And.intro @o_handsellaw06_WhenSteps_4.eq_1 (And.intro @o_handsellaw06_WhenSteps_5.eq_1 (And.intro @o_handsellaw06_WhenSteps_6.eq_1 (And.intro @o_handsellaw06_WhenSteps_7.eq_1 (And.intro @o_handsellaw06_WhenSteps_8.eq_1 (And.intro @o_handsellaw06_WhenSteps_10.eq_1 (And.intro @o_handsellaw06_WhenSteps_11.eq_1 (And.intro @o_handsellaw06_WhenSteps_9.eq_1 (And.intro @o_handsellaw06_WhenSteps_12.eq_1 (And.intro @tc_handsellaw06_WhenSteps.eq_1 @fn_handsellaw06_WhenSteps.eq_1)))))))))))))) := And.intro @o_handsellaw06_WhenSteps_0.eq_1 (And.intro @o_handsellaw06_WhenSteps_1.eq_1 (And.intro @o_handsellaw06_WhenSteps_2.eq_1 (And.intro @o_handsellaw06_WhenSteps_3.eq_1 (And.intro @o_handsellaw06_WhenSteps_4.eq_1 (And.intro @o_handsellaw06_WhenSteps_5.eq_1 (And.intro @o_handsellaw06_WhenSteps_6.eq_1 (And.intro @o_handsellaw06_WhenSteps_7.eq_1 (And.intro @o_handsellaw06_WhenSteps_8.eq_1 (And.intro @o_handsellaw06_WhenSteps_10.eq_1 (And.intro @o_handsellaw06_WhenSteps_11.eq_1 (And.intro @o_handsellaw06_WhenSteps_9.eq_1 (And.intro @o_handsellaw06_WhenSteps_12.eq_1 (And.intro @tc_handsellaw06_WhenSteps.eq_1 @fn_handsellaw06_WhenSteps.eq_1)))))))))))))
theorem c_handsellaw06_WhenSteps : fnIC Try.prog [(5,⟨[0,1,2,3,4,5,6,7,8,9,10,11,12,13,14,15,16,18,19,20,21,22,17,23,24,25,26,28,29,30,31,32,33,34,27,35,36],[0,1,0,7,15,31,63,127,31,31,31,1567,3871,8191,16383,32767,65535,131071,65535,65535,589823,1900543,3997695,8388607,16777215,33554431,67108863,134217727,67108863,67108863,603979775,1946157055,4093640703,67108863,16978542591,34359738367,68719476735],[],[]⟩),(10,⟨[0,1,2,3,4,5,6,7,8,9,10,11,12,13,14,15,17,18,19,20,16,21,22],[0,0,3,7,0,0,32,112,240,0,1008,2047,4095,8191,8191,24575,65535,8191,8191,401407,925695,2097151,4194303],[],[]⟩),(12,⟨[0,2,3,4,1,5,6,7,8,9,11,12,13,14,15,10,16,17,18,19,20,21],[0,1,0,4,12,31,63,127,127,383,1023,127,127,4223,14463,30847,65535,131071,262143,524287,1048575,2097151],[],[]⟩)] F_handsellaw06_WhenSteps = some (113,tc_handsellaw06_WhenSteps.erase,[.tmp 6]) := by kernel_rfl
def o_handsellaw06_awake_0 : List TIns := [⟨⟨(some 0),.mov (.const (Go.Value.bool false)),none⟩,0⟩]
def o_handsellaw06_awake_1 : List TIns := [⟨⟨(some 3),.call F_handsellaw00_Ring [(ci 3),(ci 10),(ci 5)],none⟩,0⟩,
  ⟨⟨(some 1),.box T_api_Spec 7 (.const (.agg #[(.string ⟨#[]⟩),(.slice none 0 0),(.slice none 0 0),(.slice none 0 0),(.slice none 0 0),(.int .i64 0),(.int .i64 0)])),none⟩,0⟩,
  ⟨⟨none,.store 7 (t 1) (t 3),none⟩,0⟩]
def o_handsellaw06_awake_2 : List TIns := [⟨⟨(some 4),.loadN 7 (t 1),none⟩,0⟩,
  ⟨⟨(some 5),.call F_when_Table [(t 4)],none⟩,0⟩,
  ⟨⟨(some 2),.mov (t 5),none⟩,0⟩]
def o_handsellaw06_awake_3 : List TIns := [⟨⟨(some 6),.mov (t 2),none⟩,0⟩,
  ⟨⟨(some 7),.lenL (t 6),none⟩,0⟩,
  ⟨⟨(some 8),.bin .eql (t 7) (ci 3),none⟩,0⟩,
  ⟨⟨(some 9),.mov (t 8),none⟩,0⟩,
  ⟨⟨(some 10),.mov (t 2),(some (9,true))⟩,0⟩,
  ⟨⟨(some 11),.indexSl 1 (t 10) (ci 0),(some (9,true))⟩,0⟩,
  ⟨⟨(some 12),.load1 (t 11),(some (9,true))⟩,0⟩,
  ⟨⟨(some 13),.bin .eql (t 12) (ci 25),(some (9,true))⟩,0⟩,
  ⟨⟨(some 14),.pick (t 9) (t 13) (.const (Go.Value.bool false)),none⟩,0⟩,
  ⟨⟨(some 15),.mov (t 14),none⟩,0⟩,
  ⟨⟨(some 16),.mov (t 2),(some (15,true))⟩,0⟩,
  ⟨⟨(some 17),.indexSl 1 (t 16) (ci 2),(some (15,true))⟩,0⟩,
  ⟨⟨(some 18),.load1 (t 17),(some (15,true))⟩,0⟩,
  ⟨⟨(some 19),.bin .eql (t 18) (ci 35),(some (15,true))⟩,0⟩,
  ⟨⟨(some 20),.pick (t 15) (t 19) (.const (Go.Value.bool false)),none⟩,0⟩,
  ⟨⟨(some 21),.mov (t 20),none⟩,0⟩,
  ⟨⟨(some 22),.loadN 7 (t 1),(some (21,true))⟩,0⟩,
  ⟨⟨(some 23),.call F_when_End [(t 22)],(some (21,true))⟩,0⟩,
  ⟨⟨(some 24),.bin .eql (t 23) (ci 40),(some (21,true))⟩,0⟩,
  ⟨⟨(some 25),.pick (t 21) (t 24) (.const (Go.Value.bool false)),none⟩,0⟩,
  ⟨⟨(some 26),.mov (t 25),none⟩,0⟩,
  ⟨⟨(some 27),.loadN 7 (t 1),(some (26,true))⟩,0⟩,
  ⟨⟨(some 28),.call F_when_Last [(t 27)],(some (26,true))⟩,0⟩,
  ⟨⟨(some 29),.bin .eql (t 28) (ci 35),(some (26,true))⟩,0⟩,
  ⟨⟨(some 30),.pick (t 26) (t 29) (.const (Go.Value.bool false)),none⟩,0⟩,
  ⟨⟨(some 31),.mov (t 30),none⟩,0⟩,
  ⟨⟨(some 32),.loadN 7 (t 1),(some (31,true))⟩,0⟩,
  ⟨⟨(some 33),.call F_when_Deadline [(t 32),(ci 2)],(some (31,true))⟩,0⟩,
  ⟨⟨(some 34),.bin .eql (t 33) (ci 30),(some (31,true))⟩,0⟩,
  ⟨⟨(some 35),.pick (t 31) (t 34) (.const (Go.Value.bool false)),none⟩,0⟩,
  ⟨⟨(some 36),.mov (t 35),none⟩,0⟩,
  ⟨⟨(some 37),.build [(.string ⟨#[]⟩),(.slice none 0 0),(.slice none 0 0),(.slice none 0 0),(.slice none 0 0),(.int .i64 0),(.int .i64 0)] [],(some (36,true))⟩,0⟩,
  ⟨⟨(some 38),.call F_when_End [(t 37)],(some (36,true))⟩,0⟩,
  ⟨⟨(some 39),.bin .eql (t 38) (ci 0),(some (36,true))⟩,0⟩,
  ⟨⟨(some 40),.pick (t 36) (t 39) (.const (Go.Value.bool false)),none⟩,0⟩,
  ⟨⟨(some 0),.mov (t 40),none⟩,0⟩]
def tc_handsellaw06_awake : TC := (.seq (.ops o_handsellaw06_awake_0) (.clean [] (.seq (.ops o_handsellaw06_awake_1) (.clean [1] (.seq (.ops o_handsellaw06_awake_2) (.clean [1,2] (.seq (.ops o_handsellaw06_awake_3) (.ret [0]))))))))
def fn_handsellaw06_awake : TFn := ⟨41,tc_handsellaw06_awake,[.tmp 0],false⟩
theorem U_handsellaw06_awake : type_of% (And.intro @o_handsellaw06_awake_0.eq_1 (And.intro @o_handsellaw06_awake_1.eq_1 (And.intro @o_handsellaw06_awake_2.eq_1 (And.intro @o_handsellaw06_awake_3.eq_1 (And.intro @tc_handsellaw06_awake.eq_1 @fn_handsellaw06_awake.eq_1))))) := And.intro @o_handsellaw06_awake_0.eq_1 (And.intro @o_handsellaw06_awake_1.eq_1 (And.intro @o_handsellaw06_awake_2.eq_1 (And.intro @o_handsellaw06_awake_3.eq_1 (And.intro @tc_handsellaw06_awake.eq_1 @fn_handsellaw06_awake.eq_1))))
theorem c_handsellaw06_awake : fnIC Try.prog [] F_handsellaw06_awake = some (41,tc_handsellaw06_awake.erase,[.tmp 0]) := by kernel_rfl
def o_when_Deadline_0 : List TIns := [⟨⟨(some 2),.box T_api_Spec 7 (t 0),none⟩,0⟩,
  ⟨⟨(some 4),.mov (ci 0),none⟩,0⟩]
def o_when_Deadline_1 : List TIns := [⟨⟨(some 6),.fieldAddr 1 (t 2),none⟩,0⟩,
  ⟨⟨(some 7),.load1 (t 6),none⟩,0⟩,
  ⟨⟨(some 8),.lenL (t 7),none⟩,0⟩,
  ⟨⟨(some 5),.mov (t 8),none⟩,0⟩]
def o_when_Deadline_2 : List TIns := [⟨⟨(some 9),.loadN 7 (t 2),none⟩,0⟩,
  ⟨⟨(some 10),.mov (t 5),none⟩,0⟩,
  ⟨⟨(some 11),.mov (t 1),none⟩,0⟩,
  ⟨⟨(some 12),.mov (t 5),none⟩,0⟩,
  ⟨⟨(some 13),.min (t 11) (t 12),none⟩,0⟩,
  ⟨⟨(some 14),.max (ci 1) (t 13),none⟩,0⟩,
  ⟨⟨(some 15),.bin .add (t 10) (t 14),none⟩,0⟩,
  ⟨⟨(some 16),.bin .sub (t 15) (ci 1),none⟩,0⟩,
  ⟨⟨(some 17),.call F_when_of [(t 9),(t 16)],none⟩,0⟩,
  ⟨⟨(some 4),.mov (t 17),none⟩,0⟩]
def tc_when_Deadline : TC := (.seq (.ops o_when_Deadline_0) (.clean [1,2] (.seq (.ops o_when_Deadline_1) (.clean [1,2,5] (.seq (.ops o_when_Deadline_2) (.ret [4]))))))
def fn_when_Deadline : TFn := ⟨18,tc_when_Deadline,[.tmp 4],false⟩
theorem U_when_Deadline : type_of% (And.intro @o_when_Deadline_0.eq_1 (And.intro @o_when_Deadline_1.eq_1 (And.intro @o_when_Deadline_2.eq_1 (And.intro @tc_when_Deadline.eq_1 @fn_when_Deadline.eq_1)))) := And.intro @o_when_Deadline_0.eq_1 (And.intro @o_when_Deadline_1.eq_1 (And.intro @o_when_Deadline_2.eq_1 (And.intro @tc_when_Deadline.eq_1 @fn_when_Deadline.eq_1)))
theorem c_when_Deadline : fnIC Try.prog [] F_when_Deadline = some (18,tc_when_Deadline.erase,[.tmp 4]) := by kernel_rfl
def o_when_of_0 : List TIns := [⟨⟨(some 2),.box T_api_Spec 7 (t 0),none⟩,0⟩,
  ⟨⟨(some 4),.mov (ci 0),none⟩,0⟩]
def o_when_of_1 : List TIns := [⟨⟨(some 6),.loadN 7 (t 2),none⟩,0⟩,
  ⟨⟨(some 7),.call F_spec_Check [(t 6)],none⟩,0⟩,
  ⟨⟨(some 8),.un .not (t 7),none⟩,0⟩]
def o_when_of_2 : List TIns := [⟨⟨(some 4),.mov (ci 0),none⟩,0⟩]
def o_when_of_3 : List TIns := [⟨⟨(some 5),.mov (.func F_when_times_at),none⟩,0⟩]
def o_when_of_4 : List TIns := [⟨⟨(some 9),.mov (t 5),none⟩,0⟩,
  ⟨⟨(some 10),.loadN 7 (t 2),none⟩,0⟩,
  ⟨⟨(some 11),.mov (t 1),none⟩,0⟩,
  ⟨⟨(some 12),.callv (t 9) [(t 10),(t 11)],none⟩,0⟩,
  ⟨⟨(some 4),.mov (t 12),none⟩,0⟩]
def tc_when_of : TC := (.seq (.ops o_when_of_0) (.clean [1,2] (.seq (.seq (.ops o_when_of_1) (.clean [1,2,8] (.cond (t 8) (.seq (.ops o_when_of_2) (.ret [4])) .skip))) (.clean [1,2] (.seq (.ops o_when_of_3) (.clean [1,2,5] (.seq (.ops o_when_of_4) (.ret [4]))))))))
def fn_when_of : TFn := ⟨13,tc_when_of,[.tmp 4],false⟩
theorem U_when_of : type_of% (And.intro @o_when_of_0.eq_1 (And.intro @o_when_of_1.eq_1 (And.intro @o_when_of_2.eq_1 (And.intro @o_when_of_3.eq_1 (And.intro @o_when_of_4.eq_1 (And.intro @tc_when_of.eq_1 @fn_when_of.eq_1)))))) := And.intro @o_when_of_0.eq_1 (And.intro @o_when_of_1.eq_1 (And.intro @o_when_of_2.eq_1 (And.intro @o_when_of_3.eq_1 (And.intro @o_when_of_4.eq_1 (And.intro @tc_when_of.eq_1 @fn_when_of.eq_1)))))
theorem c_when_of : fnIC Try.prog [] F_when_of = some (13,tc_when_of.erase,[.tmp 4]) := by kernel_rfl
def o_spec_Check_0 : List TIns := [⟨⟨(some 1),.box T_api_Spec 7 (t 0),none⟩,0⟩,
  ⟨⟨(some 2),.mov (.const (Go.Value.bool false)),none⟩,0⟩]
def o_spec_Check_1 : List (TIns × List Nat) := [(⟨⟨(some 12),.fieldAddr 1 (t 1),none⟩,0⟩,[]),
  (⟨⟨(some 13),.load1 (t 12),none⟩,0⟩,[]),
  (⟨⟨(some 14),.lenL (t 13),none⟩,0⟩,[]),
  (⟨⟨(some 15),.fieldAddr 3 (t 1),none⟩,0⟩,[]),
  (⟨⟨(some 16),.load1 (t 15),none⟩,0⟩,[]),
  (⟨⟨(some 17),.lenL (t 16),none⟩,0⟩,[]),
  (⟨⟨(some 3),.box T_int 1 (.const (.int .i64 0)),none⟩,0⟩,[]),
  (⟨⟨none,.store 1 (t 3) (t 14),none⟩,0⟩,[4]),
  (⟨⟨(some 4),.mov (t 17),none⟩,0⟩,[])]
def o_spec_Check_2 : List TIns := [⟨⟨(some 18),.fieldAddr 0 (t 1),none⟩,0⟩,
  ⟨⟨(some 19),.load1 (t 18),none⟩,0⟩,
  ⟨⟨(some 20),.call F_spec_name [(t 19)],none⟩,0⟩,
  ⟨⟨(some 21),.un .not (t 20),none⟩,0⟩,
  ⟨⟨(some 22),.mov (t 21),none⟩,0⟩,
  ⟨⟨(some 23),.load1 (t 3),(some (22,false))⟩,0⟩,
  ⟨⟨(some 24),.call F_spec_in [(t 23),(ci 2),(ci 6)],(some (22,false))⟩,0⟩,
  ⟨⟨(some 25),.un .not (t 24),(some (22,false))⟩,0⟩,
  ⟨⟨(some 26),.pick (t 22) (.const (Go.Value.bool true)) (t 25),none⟩,0⟩,
  ⟨⟨(some 27),.mov (t 26),none⟩,0⟩,
  ⟨⟨(some 28),.mov (t 4),(some (27,false))⟩,0⟩,
  ⟨⟨(some 29),.call F_spec_in [(t 28),(ci 1),(ci 3)],(some (27,false))⟩,0⟩,
  ⟨⟨(some 30),.un .not (t 29),(some (27,false))⟩,0⟩,
  ⟨⟨(some 31),.pick (t 27) (.const (Go.Value.bool true)) (t 30),none⟩,0⟩,
  ⟨⟨(some 32),.mov (t 31),none⟩,0⟩,
  ⟨⟨(some 33),.fieldAddr 2 (t 1),(some (32,false))⟩,0⟩,
  ⟨⟨(some 34),.load1 (t 33),(some (32,false))⟩,0⟩,
  ⟨⟨(some 35),.lenL (t 34),(some (32,false))⟩,0⟩,
  ⟨⟨(some 36),.call F_spec_in [(t 35),(ci 1),(ci 12)],(some (32,false))⟩,0⟩,
  ⟨⟨(some 37),.un .not (t 36),(some (32,false))⟩,0⟩,
  ⟨⟨(some 38),.pick (t 32) (.const (Go.Value.bool true)) (t 37),none⟩,0⟩,
  ⟨⟨(some 39),.mov (t 38),none⟩,0⟩,
  ⟨⟨(some 40),.fieldAddr 4 (t 1),(some (39,false))⟩,0⟩,
  ⟨⟨(some 41),.load1 (t 40),(some (39,false))⟩,0⟩,
  ⟨⟨(some 42),.mov (t 4),(some (39,false))⟩,0⟩,
  ⟨⟨(some 43),.call F_spec_sized [(t 41),(t 42),(ci 32)],(some (39,false))⟩,0⟩,
  ⟨⟨(some 44),.un .not (t 43),(some (39,false))⟩,0⟩,
  ⟨⟨(some 45),.pick (t 39) (.const (Go.Value.bool true)) (t 44),none⟩,0⟩,
  ⟨⟨(some 46),.mov (t 45),none⟩,0⟩,
  ⟨⟨(some 47),.fieldAddr 5 (t 1),(some (46,false))⟩,0⟩,
  ⟨⟨(some 48),.load1 (t 47),(some (46,false))⟩,0⟩,
  ⟨⟨(some 49),.call F_spec_in [(t 48),(ci 0),(ci 1099511627776)],(some (46,false))⟩,0⟩,
  ⟨⟨(some 50),.un .not (t 49),(some (46,false))⟩,0⟩,
  ⟨⟨(some 51),.pick (t 46) (.const (Go.Value.bool true)) (t 50),none⟩,0⟩,
  ⟨⟨(some 52),.mov (t 51),none⟩,0⟩,
  ⟨⟨(some 53),.fieldAddr 6 (t 1),(some (52,false))⟩,0⟩,
  ⟨⟨(some 54),.load1 (t 53),(some (52,false))⟩,0⟩,
  ⟨⟨(some 55),.call F_spec_in [(t 54),(ci 1),(ci 1048576)],(some (52,false))⟩,0⟩,
  ⟨⟨(some 56),.un .not (t 55),(some (52,false))⟩,0⟩,
  ⟨⟨(some 57),.pick (t 52) (.const (Go.Value.bool true)) (t 56),none⟩,0⟩]
def o_spec_Check_3 : List TIns := [⟨⟨(some 2),.mov (.const (Go.Value.bool false)),none⟩,0⟩]
def o_spec_Check_4 : List TIns := [⟨⟨(some 5),.mov (.const (Go.Value.slice none 0 0)),none⟩,1⟩]
def o_spec_Check_5 : List TIns := [⟨⟨(some 58),.fieldAddr 1 (t 1),none⟩,0⟩,
  ⟨⟨(some 59),.load1 (t 58),none⟩,0⟩,
  ⟨⟨(some 60),.lenL (t 59),none⟩,0⟩,
  ⟨⟨(some 61),.mov (ci 0),none⟩,0⟩]
def o_spec_Check_6 : List TIns := [⟨⟨(some 62),.bin .lss (t 61) (t 60),none⟩,0⟩]
def o_spec_Check_7 : List TIns := [⟨⟨(some 63),.indexSl 2 (t 59) (t 61),none⟩,0⟩,
  ⟨⟨(some 64),.loadN 2 (t 63),none⟩,0⟩,
  ⟨⟨(some 7),.box T_api_Party 2 (.const (.agg #[(.string ⟨#[]⟩),(.slice none 0 0)])),none⟩,0⟩,
  ⟨⟨none,.store 2 (t 7) (t 64),none⟩,0⟩]
def o_spec_Check_8 : List TIns := [⟨⟨(some 65),.fieldAddr 0 (t 7),none⟩,0⟩,
  ⟨⟨(some 66),.load1 (t 65),none⟩,0⟩,
  ⟨⟨(some 67),.call F_spec_name [(t 66)],none⟩,0⟩,
  ⟨⟨(some 68),.un .not (t 67),none⟩,0⟩,
  ⟨⟨(some 69),.mov (t 68),none⟩,0⟩,
  ⟨⟨(some 70),.fieldAddr 1 (t 7),(some (69,false))⟩,0⟩,
  ⟨⟨(some 71),.load1 (t 70),(some (69,false))⟩,0⟩,
  ⟨⟨(some 72),.mov (t 4),(some (69,false))⟩,0⟩,
  ⟨⟨(some 73),.call F_spec_sized [(t 71),(t 72),(ci 16)],(some (69,false))⟩,0⟩,
  ⟨⟨(some 74),.un .not (t 73),(some (69,false))⟩,0⟩,
  ⟨⟨(some 75),.pick (t 69) (.const (Go.Value.bool true)) (t 74),none⟩,0⟩]
def o_spec_Check_9 : List TIns := [⟨⟨(some 2),.mov (.const (Go.Value.bool false)),none⟩,0⟩]
def o_spec_Check_10 : List TIns := [⟨⟨(some 76),.mov (t 5),none⟩,0⟩,
  ⟨⟨(some 77),.fieldAddr 0 (t 7),none⟩,0⟩,
  ⟨⟨(some 78),.load1 (t 77),none⟩,0⟩,
  ⟨⟨(some 79),.buildSl T_string 1 1 [(.string ⟨#[]⟩)] [(0,1,(t 78))],none⟩,0⟩,
  ⟨⟨(some 80),.append T_string 1 16 (t 76) (t 79),none⟩,0⟩,
  ⟨⟨(some 5),.mov (t 80),none⟩,0⟩]
def o_spec_Check_11 : List TIns := [⟨⟨(some 81),.bin .add (t 61) (ci 1),none⟩,0⟩,
  ⟨⟨(some 61),.mov (t 81),none⟩,0⟩]
def l_spec_Check_1 : TC := (.seq (.ops o_spec_Check_6) (.clean [1,3,4,5,59,60,61,62] (.seq (.cond (t 62) .skip (.exit 0)) (.clean [1,3,4,5,59,60,61] (.seq (.block 1 [1,3,4,5,59,60,61] (.seq (.ops o_spec_Check_7) (.clean [1,3,4,5,7,59,60,61] (.seq (.seq (.ops o_spec_Check_8) (.clean [1,3,4,5,7,59,60,61,75] (.cond (t 75) (.seq (.ops o_spec_Check_9) (.ret [2])) .skip))) (.clean [1,3,4,5,7,59,60,61] (.ops o_spec_Check_10)))))) (.clean [1,3,4,5,59,60,61] (.ops o_spec_Check_11)))))))
def o_spec_Check_12 : List TIns := [⟨⟨(some 8),.mov (.const (Go.Value.slice none 0 0)),none⟩,1⟩]
def o_spec_Check_13 : List TIns := [⟨⟨(some 82),.fieldAddr 2 (t 1),none⟩,0⟩,
  ⟨⟨(some 83),.load1 (t 82),none⟩,0⟩,
  ⟨⟨(some 84),.lenL (t 83),none⟩,0⟩,
  ⟨⟨(some 85),.mov (ci 0),none⟩,0⟩]
def o_spec_Check_14 : List TIns := [⟨⟨(some 86),.bin .lss (t 85) (t 84),none⟩,0⟩]
def o_spec_Check_15 : List TIns := [⟨⟨(some 87),.indexSl 5 (t 83) (t 85),none⟩,0⟩,
  ⟨⟨(some 88),.loadN 5 (t 87),none⟩,0⟩,
  ⟨⟨(some 10),.box T_api_Arc 5 (.const (.agg #[(.int .i64 0),(.int .i64 0),(.int .i64 0),(.string ⟨#[]⟩),(.int .i64 0)])),none⟩,0⟩,
  ⟨⟨none,.store 5 (t 10) (t 88),none⟩,0⟩]
def o_spec_Check_16 : List TIns := [⟨⟨(some 89),.loadN 5 (t 10),none⟩,0⟩,
  ⟨⟨(some 90),.load1 (t 3),none⟩,0⟩,
  ⟨⟨(some 91),.call F_spec_arc [(t 89),(t 90)],none⟩,0⟩,
  ⟨⟨(some 92),.un .not (t 91),none⟩,0⟩]
def o_spec_Check_17 : List TIns := [⟨⟨(some 2),.mov (.const (Go.Value.bool false)),none⟩,0⟩]
def o_spec_Check_18 : List TIns := [⟨⟨(some 93),.mov (t 8),none⟩,0⟩,
  ⟨⟨(some 94),.fieldAddr 0 (t 10),none⟩,0⟩,
  ⟨⟨(some 95),.load1 (t 94),none⟩,0⟩,
  ⟨⟨(some 96),.fieldAddr 1 (t 10),none⟩,0⟩,
  ⟨⟨(some 97),.load1 (t 96),none⟩,0⟩,
  ⟨⟨(some 98),.build [(.int .i64 0),(.int .i64 0)] [(0,1,(t 95)),(1,1,(t 97))],none⟩,0⟩,
  ⟨⟨(some 99),.buildSl T_2_int 2 1 [(.int .i64 0),(.int .i64 0)] [(0,2,(t 98))],none⟩,0⟩,
  ⟨⟨(some 100),.append T_2_int 2 16 (t 93) (t 99),none⟩,0⟩,
  ⟨⟨(some 8),.mov (t 100),none⟩,0⟩]
def o_spec_Check_19 : List TIns := [⟨⟨(some 101),.bin .add (t 85) (ci 1),none⟩,0⟩,
  ⟨⟨(some 85),.mov (t 101),none⟩,0⟩]
def l_spec_Check_2 : TC := (.seq (.ops o_spec_Check_14) (.clean [1,3,5,8,83,84,85,86] (.seq (.cond (t 86) .skip (.exit 2)) (.clean [1,3,5,8,83,84,85] (.seq (.block 3 [1,3,5,8,83,84,85] (.seq (.ops o_spec_Check_15) (.clean [1,3,5,8,10,83,84,85] (.seq (.seq (.ops o_spec_Check_16) (.clean [1,3,5,8,10,83,84,85,92] (.cond (t 92) (.seq (.ops o_spec_Check_17) (.ret [2])) .skip))) (.clean [1,3,5,8,10,83,84,85] (.ops o_spec_Check_18)))))) (.clean [1,3,5,8,83,84,85] (.ops o_spec_Check_19)))))))
def o_spec_Check_20 : List TIns := [⟨⟨(some 102),.mkFunc (.func F_spec_Check_1) [] [(t 3)],none⟩,0⟩,
  ⟨⟨(some 11),.mov (t 102),none⟩,0⟩]
def o_spec_Check_21 : List TIns := [⟨⟨(some 103),.mov (t 5),none⟩,0⟩,
  ⟨⟨(some 104),.call F_spec_once_string [(t 103)],none⟩,0⟩,
  ⟨⟨(some 105),.mov (t 104),none⟩,0⟩,
  ⟨⟨(some 106),.mov (t 8),(some (105,true))⟩,0⟩,
  ⟨⟨(some 107),.call F_spec_once_2_int [(t 106)],(some (105,true))⟩,0⟩,
  ⟨⟨(some 108),.pick (t 105) (t 107) (.const (Go.Value.bool false)),none⟩,0⟩,
  ⟨⟨(some 109),.mov (t 108),none⟩,0⟩,
  ⟨⟨(some 110),.fieldAddr 3 (t 1),(some (109,true))⟩,0⟩,
  ⟨⟨(some 111),.load1 (t 110),(some (109,true))⟩,0⟩,
  ⟨⟨(some 112),.call F_spec_once_int [(t 111)],(some (109,true))⟩,0⟩,
  ⟨⟨(some 113),.pick (t 109) (t 112) (.const (Go.Value.bool false)),none⟩,0⟩,
  ⟨⟨(some 114),.mov (t 113),none⟩,0⟩,
  ⟨⟨(some 115),.fieldAddr 3 (t 1),(some (114,true))⟩,0⟩,
  ⟨⟨(some 116),.load1 (t 115),(some (114,true))⟩,0⟩,
  ⟨⟨(some 117),.mov (t 11),(some (114,true))⟩,0⟩,
  ⟨⟨(some 118),.call F_slices_ContainsFunc_int_int [(t 116),(t 117)],(some (114,true))⟩,0⟩,
  ⟨⟨(some 119),.un .not (t 118),(some (114,true))⟩,0⟩,
  ⟨⟨(some 120),.pick (t 114) (t 119) (.const (Go.Value.bool false)),none⟩,0⟩,
  ⟨⟨(some 2),.mov (t 120),none⟩,0⟩]
def tc_spec_Check : TC := (.seq (.ops o_spec_Check_0) (.clean [1] (.seq (.draw o_spec_Check_1) (.clean [1,3,4] (.seq (.seq (.ops o_spec_Check_2) (.clean [1,3,4,57] (.cond (t 57) (.seq (.ops o_spec_Check_3) (.ret [2])) .skip))) (.clean [1,3,4] (.seq (.ops o_spec_Check_4) (.clean [1,3,4,5] (.seq (.seq (.ops o_spec_Check_5) (.block 0 [1,3,5] (.clean [1,3,4,5,59,60,61] (.loop [1,3,4,5,59,60,61] l_spec_Check_1)))) (.clean [1,3,5] (.seq (.ops o_spec_Check_12) (.clean [1,3,5,8] (.seq (.seq (.ops o_spec_Check_13) (.block 2 [1,3,5,8] (.clean [1,3,5,8,83,84,85] (.loop [1,3,5,8,83,84,85] l_spec_Check_2)))) (.clean [1,3,5,8] (.seq (.ops o_spec_Check_20) (.clean [1,5,8,11] (.seq (.ops o_spec_Check_21) (.ret [2]))))))))))))))))))
def fn_spec_Check : TFn := ⟨121,tc_spec_Check,[.tmp 2],false⟩
theorem U_spec_Check : type_of% (And.intro @o_spec_Check_0.eq_1 (And.intro @o_spec_Check_1.eq_1 (And.intro @o_spec_Check_2.eq_1 (And.intro @o_spec_Check_3.eq_1 (And.intro @o_spec_Check_4.eq_1 (And.intro @o_spec_Check_5.eq_1 (And.intro @o_spec_Check_6.eq_1 (And.intro @o_spec_Check_7.eq_1 (And.intro @o_spec_Check_8.eq_1 (And.intro @o_spec_Check_9.eq_1 (And.intro @o_spec_Check_10.eq_1 (And.intro @o_spec_Check_11.eq_1 (And.intro @o_spec_Check_12.eq_1 (And.intro @o_spec_Check_13.eq_1 (And.intro @o_spec_Check_14.eq_1 (And.intro @o_spec_Check_15.eq_1 (And.intro @o_spec_Check_16.eq_1 (And.intro @o_spec_Check_17.eq_1 (And.intro @o_spec_Check_18.eq_1 (And.intro @o_spec_Check_19.eq_1 (And.intro @o_spec_Check_20.eq_1 (And.intro @o_spec_Check_21.eq_1 (And.intro @tc_spec_Check.eq_1 @fn_spec_Check.eq_1))))))))))))))))))))))) := And.intro @o_spec_Check_0.eq_1 (And.intro @o_spec_Check_1.eq_1 (And.intro @o_spec_Check_2.eq_1 (And.intro @o_spec_Check_3.eq_1 (And.intro @o_spec_Check_4.eq_1 (And.intro @o_spec_Check_5.eq_1 (And.intro @o_spec_Check_6.eq_1 (And.intro @o_spec_Check_7.eq_1 (And.intro @o_spec_Check_8.eq_1 (And.intro @o_spec_Check_9.eq_1 (And.intro @o_spec_Check_10.eq_1 (And.intro @o_spec_Check_11.eq_1 (And.intro @o_spec_Check_12.eq_1 (And.intro @o_spec_Check_13.eq_1 (And.intro @o_spec_Check_14.eq_1 (And.intro @o_spec_Check_15.eq_1 (And.intro @o_spec_Check_16.eq_1 (And.intro @o_spec_Check_17.eq_1 (And.intro @o_spec_Check_18.eq_1 (And.intro @o_spec_Check_19.eq_1 (And.intro @o_spec_Check_20.eq_1 (And.intro @o_spec_Check_21.eq_1 (And.intro @tc_spec_Check.eq_1 @fn_spec_Check.eq_1))))))))))))))))))))))
theorem c_spec_Check : fnIC Try.prog [(1,⟨[0,1,2,3,4,5,6,7,8],[0,1,3,0,8,24,0,71,255],[],[(7,[4])]⟩)] F_spec_Check = some (121,tc_spec_Check.erase,[.tmp 2]) := by kernel_rfl
def o_spec_name_0 : List TIns := [⟨⟨(some 2),.mov (.const (Go.Value.bool false)),none⟩,0⟩]
def o_spec_name_1 : List TIns := [⟨⟨(some 3),.mov (t 0),none⟩,0⟩,
  ⟨⟨(some 4),.lenS (t 3),none⟩,0⟩,
  ⟨⟨(some 5),.bin .geq (t 4) (ci 1),none⟩,0⟩,
  ⟨⟨(some 6),.mov (t 5),none⟩,0⟩,
  ⟨⟨(some 7),.mov (t 0),(some (6,true))⟩,0⟩,
  ⟨⟨(some 8),.lenS (t 7),(some (6,true))⟩,0⟩,
  ⟨⟨(some 9),.bin .leq (t 8) (ci 16),(some (6,true))⟩,0⟩,
  ⟨⟨(some 10),.pick (t 6) (t 9) (.const (Go.Value.bool false)),none⟩,0⟩,
  ⟨⟨(some 2),.mov (t 10),none⟩,0⟩]
def tc_spec_name : TC := (.seq (.ops o_spec_name_0) (.clean [0] (.seq (.ops o_spec_name_1) (.ret [2]))))
def fn_spec_name : TFn := ⟨11,tc_spec_name,[.tmp 2],false⟩
theorem U_spec_name : type_of% (And.intro @o_spec_name_0.eq_1 (And.intro @o_spec_name_1.eq_1 (And.intro @tc_spec_name.eq_1 @fn_spec_name.eq_1))) := And.intro @o_spec_name_0.eq_1 (And.intro @o_spec_name_1.eq_1 (And.intro @tc_spec_name.eq_1 @fn_spec_name.eq_1))
theorem c_spec_name : fnIC Try.prog [] F_spec_name = some (11,tc_spec_name.erase,[.tmp 2]) := by kernel_rfl
def o_spec_in_0 : List TIns := [⟨⟨(some 6),.mov (.const (Go.Value.bool false)),none⟩,0⟩]
def o_spec_in_1 : List TIns := [⟨⟨(some 7),.mov (t 0),none⟩,0⟩,
  ⟨⟨(some 8),.mov (t 1),none⟩,0⟩,
  ⟨⟨(some 9),.bin .geq (t 7) (t 8),none⟩,0⟩,
  ⟨⟨(some 10),.mov (t 9),none⟩,0⟩,
  ⟨⟨(some 11),.mov (t 0),(some (10,true))⟩,0⟩,
  ⟨⟨(some 12),.mov (t 2),(some (10,true))⟩,0⟩,
  ⟨⟨(some 13),.bin .leq (t 11) (t 12),(some (10,true))⟩,0⟩,
  ⟨⟨(some 14),.pick (t 10) (t 13) (.const (Go.Value.bool false)),none⟩,0⟩,
  ⟨⟨(some 6),.mov (t 14),none⟩,0⟩]
def tc_spec_in : TC := (.seq (.ops o_spec_in_0) (.clean [0,1,2] (.seq (.ops o_spec_in_1) (.ret [6]))))
def fn_spec_in : TFn := ⟨15,tc_spec_in,[.tmp 6],false⟩
theorem U_spec_in : type_of% (And.intro @o_spec_in_0.eq_1 (And.intro @o_spec_in_1.eq_1 (And.intro @tc_spec_in.eq_1 @fn_spec_in.eq_1))) := And.intro @o_spec_in_0.eq_1 (And.intro @o_spec_in_1.eq_1 (And.intro @tc_spec_in.eq_1 @fn_spec_in.eq_1))
theorem c_spec_in : fnIC Try.prog [] F_spec_in = some (15,tc_spec_in.erase,[.tmp 6]) := by kernel_rfl
def o_spec_sized_0 : List TIns := [⟨⟨(some 5),.box T_int 1 (t 2),none⟩,0⟩,
  ⟨⟨(some 6),.mov (.const (Go.Value.bool false)),none⟩,0⟩]
def o_spec_sized_1 : List TIns := [⟨⟨(some 7),.mov (t 0),none⟩,0⟩,
  ⟨⟨(some 8),.lenL (t 7),none⟩,0⟩,
  ⟨⟨(some 9),.mov (t 1),none⟩,0⟩,
  ⟨⟨(some 10),.bin .eql (t 8) (t 9),none⟩,0⟩,
  ⟨⟨(some 11),.mov (t 10),none⟩,0⟩,
  ⟨⟨(some 12),.mov (t 0),(some (11,true))⟩,0⟩,
  ⟨⟨(some 13),.mkFunc (.func F_spec_sized_1) [] [(t 5)],(some (11,true))⟩,0⟩,
  ⟨⟨(some 14),.call F_slices_ContainsFunc_string_string [(t 12),(t 13)],(some (11,true))⟩,0⟩,
  ⟨⟨(some 15),.un .not (t 14),(some (11,true))⟩,0⟩,
  ⟨⟨(some 16),.pick (t 11) (t 15) (.const (Go.Value.bool false)),none⟩,0⟩,
  ⟨⟨(some 6),.mov (t 16),none⟩,0⟩]
def tc_spec_sized : TC := (.seq (.ops o_spec_sized_0) (.clean [0,1,5] (.seq (.ops o_spec_sized_1) (.ret [6]))))
def fn_spec_sized : TFn := ⟨17,tc_spec_sized,[.tmp 6],false⟩
theorem U_spec_sized : type_of% (And.intro @o_spec_sized_0.eq_1 (And.intro @o_spec_sized_1.eq_1 (And.intro @tc_spec_sized.eq_1 @fn_spec_sized.eq_1))) := And.intro @o_spec_sized_0.eq_1 (And.intro @o_spec_sized_1.eq_1 (And.intro @tc_spec_sized.eq_1 @fn_spec_sized.eq_1))
theorem c_spec_sized : fnIC Try.prog [] F_spec_sized = some (17,tc_spec_sized.erase,[.tmp 6]) := by kernel_rfl
def o_slices_ContainsFunc_string_string_0 : List TIns := [⟨⟨(some 4),.mov (.const (Go.Value.bool false)),none⟩,0⟩]
def o_slices_ContainsFunc_string_string_1 : List TIns := [⟨⟨(some 5),.mov (t 0),none⟩,0⟩,
  ⟨⟨(some 6),.mov (t 1),none⟩,0⟩,
  ⟨⟨(some 7),.call F_slices_IndexFunc_string_string [(t 5),(t 6)],none⟩,0⟩,
  ⟨⟨(some 8),.bin .geq (t 7) (ci 0),none⟩,0⟩,
  ⟨⟨(some 4),.mov (t 8),none⟩,0⟩]
def tc_slices_ContainsFunc_string_string : TC := (.seq (.ops o_slices_ContainsFunc_string_string_0) (.clean [0,1] (.seq (.ops o_slices_ContainsFunc_string_string_1) (.ret [4]))))
def fn_slices_ContainsFunc_string_string : TFn := ⟨9,tc_slices_ContainsFunc_string_string,[.tmp 4],false⟩
theorem U_slices_ContainsFunc_string_string : type_of% (And.intro @o_slices_ContainsFunc_string_string_0.eq_1 (And.intro @o_slices_ContainsFunc_string_string_1.eq_1 (And.intro @tc_slices_ContainsFunc_string_string.eq_1 @fn_slices_ContainsFunc_string_string.eq_1))) := And.intro @o_slices_ContainsFunc_string_string_0.eq_1 (And.intro @o_slices_ContainsFunc_string_string_1.eq_1 (And.intro @tc_slices_ContainsFunc_string_string.eq_1 @fn_slices_ContainsFunc_string_string.eq_1))
theorem c_slices_ContainsFunc_string_string : fnIC Try.prog [] F_slices_ContainsFunc_string_string = some (9,tc_slices_ContainsFunc_string_string.erase,[.tmp 4]) := by kernel_rfl
def o_slices_IndexFunc_string_string_0 : List TIns := [⟨⟨(some 4),.mov (ci 0),none⟩,0⟩]
def o_slices_IndexFunc_string_string_1 : List TIns := [⟨⟨(some 6),.mov (t 0),none⟩,0⟩,
  ⟨⟨(some 7),.lenL (t 6),none⟩,0⟩,
  ⟨⟨(some 8),.mov (ci 0),none⟩,0⟩]
def o_slices_IndexFunc_string_string_2 : List TIns := [⟨⟨(some 9),.bin .lss (t 8) (t 7),none⟩,0⟩]
def o_slices_IndexFunc_string_string_3 : List TIns := [⟨⟨(some 10),.mov (t 8),none⟩,0⟩,
  ⟨⟨(some 5),.mov (t 10),none⟩,0⟩]
def o_slices_IndexFunc_string_string_4 : List TIns := [⟨⟨(some 11),.mov (t 1),none⟩,0⟩,
  ⟨⟨(some 12),.mov (t 0),none⟩,0⟩,
  ⟨⟨(some 13),.mov (t 5),none⟩,0⟩,
  ⟨⟨(some 14),.indexSl 1 (t 12) (t 13),none⟩,0⟩,
  ⟨⟨(some 15),.load1 (t 14),none⟩,0⟩,
  ⟨⟨(some 16),.callv (t 11) [(t 15)],none⟩,0⟩]
def o_slices_IndexFunc_string_string_5 : List TIns := [⟨⟨(some 17),.mov (t 5),none⟩,0⟩,
  ⟨⟨(some 4),.mov (t 17),none⟩,0⟩]
def o_slices_IndexFunc_string_string_6 : List TIns := [⟨⟨(some 18),.bin .add (t 8) (ci 1),none⟩,0⟩,
  ⟨⟨(some 8),.mov (t 18),none⟩,0⟩]
def l_slices_IndexFunc_string_string_1 : TC := (.seq (.ops o_slices_IndexFunc_string_string_2) (.clean [0,1,7,8,9] (.seq (.cond (t 9) .skip (.exit 0)) (.clean [0,1,7,8] (.seq (.block 1 [0,1,7,8] (.seq (.ops o_slices_IndexFunc_string_string_3) (.clean [0,1,5,7,8] (.seq (.ops o_slices_IndexFunc_string_string_4) (.clean [0,1,5,7,8,16] (.cond (t 16) (.seq (.ops o_slices_IndexFunc_string_string_5) (.ret [4])) .skip)))))) (.clean [0,1,7,8] (.ops o_slices_IndexFunc_string_string_6)))))))
def o_slices_IndexFunc_string_string_7 : List TIns := [⟨⟨(some 4),.mov (ci (-1)),none⟩,0⟩]
def tc_slices_IndexFunc_string_string : TC := (.seq (.ops o_slices_IndexFunc_string_string_0) (.clean [0,1] (.seq (.seq (.ops o_slices_IndexFunc_string_string_1) (.block 0 [] (.clean [0,1,7,8] (.loop [0,1,7,8] l_slices_IndexFunc_string_string_1)))) (.clean [] (.seq (.ops o_slices_IndexFunc_string_string_7) (.ret [4]))))))
def fn_slices_IndexFunc_string_string : TFn := ⟨19,tc_slices_IndexFunc_string_string,[.tmp 4],false⟩
theorem U_slices_IndexFunc_string_string : type_of% (And.intro @o_slices_IndexFunc_string_string_0.eq_1 (And.intro @o_slices_IndexFunc_string_string_1.eq_1 (And.intro @o_slices_IndexFunc_string_string_2.eq_1 (And.intro @o_slices_IndexFunc_string_string_3.eq_1 (And.intro @o_slices_IndexFunc_string_string_4.eq_1 (And.intro @o_slices_IndexFunc_string_string_5.eq_1 (And.intro @o_slices_IndexFunc_string_string_6.eq_1 (And.intro @o_slices_IndexFunc_string_string_7.eq_1 (And.intro @tc_slices_IndexFunc_string_string.eq_1 @fn_slices_IndexFunc_string_string.eq_1))))))))) := And.intro @o_slices_IndexFunc_string_string_0.eq_1 (And.intro @o_slices_IndexFunc_string_string_1.eq_1 (And.intro @o_slices_IndexFunc_string_string_2.eq_1 (And.intro @o_slices_IndexFunc_string_string_3.eq_1 (And.intro @o_slices_IndexFunc_string_string_4.eq_1 (And.intro @o_slices_IndexFunc_string_string_5.eq_1 (And.intro @o_slices_IndexFunc_string_string_6.eq_1 (And.intro @o_slices_IndexFunc_string_string_7.eq_1 (And.intro @tc_slices_IndexFunc_string_string.eq_1 @fn_slices_IndexFunc_string_string.eq_1))))))))
theorem c_slices_IndexFunc_string_string : fnIC Try.prog [] F_slices_IndexFunc_string_string = some (19,tc_slices_IndexFunc_string_string.erase,[.tmp 4]) := by kernel_rfl
def o_spec_sized_1_0 : List TIns := [⟨⟨(some 3),.mov (.const (Go.Value.bool false)),none⟩,0⟩]
def o_spec_sized_1_1 : List TIns := [⟨⟨(some 4),.mov (t 0),none⟩,0⟩,
  ⟨⟨(some 5),.lenS (t 4),none⟩,0⟩,
  ⟨⟨(some 6),.load1 (t 1),none⟩,0⟩,
  ⟨⟨(some 7),.bin .neq (t 5) (t 6),none⟩,0⟩,
  ⟨⟨(some 3),.mov (t 7),none⟩,0⟩]
def tc_spec_sized_1 : TC := (.seq (.ops o_spec_sized_1_0) (.clean [0,1] (.seq (.ops o_spec_sized_1_1) (.ret [3]))))
def fn_spec_sized_1 : TFn := ⟨8,tc_spec_sized_1,[.tmp 3],false⟩
theorem U_spec_sized_1 : type_of% (And.intro @o_spec_sized_1_0.eq_1 (And.intro @o_spec_sized_1_1.eq_1 (And.intro @tc_spec_sized_1.eq_1 @fn_spec_sized_1.eq_1))) := And.intro @o_spec_sized_1_0.eq_1 (And.intro @o_spec_sized_1_1.eq_1 (And.intro @tc_spec_sized_1.eq_1 @fn_spec_sized_1.eq_1))
theorem c_spec_sized_1 : fnIC Try.prog [] F_spec_sized_1 = some (8,tc_spec_sized_1.erase,[.tmp 3]) := by kernel_rfl
def o_spec_arc_0 : List TIns := [⟨⟨(some 2),.box T_api_Arc 5 (t 0),none⟩,0⟩,
  ⟨⟨(some 4),.mov (.const (Go.Value.bool false)),none⟩,0⟩]
def o_spec_arc_1 : List TIns := [⟨⟨(some 5),.fieldAddr 0 (t 2),none⟩,0⟩,
  ⟨⟨(some 6),.load1 (t 5),none⟩,0⟩,
  ⟨⟨(some 7),.mov (t 1),none⟩,0⟩,
  ⟨⟨(some 8),.bin .sub (t 7) (ci 1),none⟩,0⟩,
  ⟨⟨(some 9),.call F_spec_in [(t 6),(ci 0),(t 8)],none⟩,0⟩,
  ⟨⟨(some 10),.mov (t 9),none⟩,0⟩,
  ⟨⟨(some 11),.fieldAddr 1 (t 2),(some (10,true))⟩,0⟩,
  ⟨⟨(some 12),.load1 (t 11),(some (10,true))⟩,0⟩,
  ⟨⟨(some 13),.mov (t 1),(some (10,true))⟩,0⟩,
  ⟨⟨(some 14),.bin .sub (t 13) (ci 1),(some (10,true))⟩,0⟩,
  ⟨⟨(some 15),.call F_spec_in [(t 12),(ci 0),(t 14)],(some (10,true))⟩,0⟩,
  ⟨⟨(some 16),.pick (t 10) (t 15) (.const (Go.Value.bool false)),none⟩,0⟩,
  ⟨⟨(some 17),.mov (t 16),none⟩,0⟩,
  ⟨⟨(some 18),.fieldAddr 0 (t 2),(some (17,true))⟩,0⟩,
  ⟨⟨(some 19),.load1 (t 18),(some (17,true))⟩,0⟩,
  ⟨⟨(some 20),.fieldAddr 1 (t 2),(some (17,true))⟩,0⟩,
  ⟨⟨(some 21),.load1 (t 20),(some (17,true))⟩,0⟩,
  ⟨⟨(some 22),.bin .neq (t 19) (t 21),(some (17,true))⟩,0⟩,
  ⟨⟨(some 23),.pick (t 17) (t 22) (.const (Go.Value.bool false)),none⟩,0⟩,
  ⟨⟨(some 24),.mov (t 23),none⟩,0⟩,
  ⟨⟨(some 25),.fieldAddr 2 (t 2),(some (24,true))⟩,0⟩,
  ⟨⟨(some 26),.load1 (t 25),(some (24,true))⟩,0⟩,
  ⟨⟨(some 27),.call F_spec_in [(t 26),(ci 0),(ci 3)],(some (24,true))⟩,0⟩,
  ⟨⟨(some 28),.pick (t 24) (t 27) (.const (Go.Value.bool false)),none⟩,0⟩,
  ⟨⟨(some 29),.mov (t 28),none⟩,0⟩,
  ⟨⟨(some 30),.fieldAddr 3 (t 2),(some (29,true))⟩,0⟩,
  ⟨⟨(some 31),.load1 (t 30),(some (29,true))⟩,0⟩,
  ⟨⟨(some 32),.call F_spec_name [(t 31)],(some (29,true))⟩,0⟩,
  ⟨⟨(some 33),.pick (t 29) (t 32) (.const (Go.Value.bool false)),none⟩,0⟩,
  ⟨⟨(some 34),.mov (t 33),none⟩,0⟩,
  ⟨⟨(some 35),.fieldAddr 4 (t 2),(some (34,true))⟩,0⟩,
  ⟨⟨(some 36),.load1 (t 35),(some (34,true))⟩,0⟩,
  ⟨⟨(some 37),.call F_spec_in [(t 36),(ci 1),(ci 1125899906842624)],(some (34,true))⟩,0⟩,
  ⟨⟨(some 38),.pick (t 34) (t 37) (.const (Go.Value.bool false)),none⟩,0⟩,
  ⟨⟨(some 4),.mov (t 38),none⟩,0⟩]
def tc_spec_arc : TC := (.seq (.ops o_spec_arc_0) (.clean [1,2] (.seq (.ops o_spec_arc_1) (.ret [4]))))
def fn_spec_arc : TFn := ⟨39,tc_spec_arc,[.tmp 4],false⟩
theorem U_spec_arc : type_of% (And.intro @o_spec_arc_0.eq_1 (And.intro @o_spec_arc_1.eq_1 (And.intro @tc_spec_arc.eq_1 @fn_spec_arc.eq_1))) := And.intro @o_spec_arc_0.eq_1 (And.intro @o_spec_arc_1.eq_1 (And.intro @tc_spec_arc.eq_1 @fn_spec_arc.eq_1))
theorem c_spec_arc : fnIC Try.prog [] F_spec_arc = some (39,tc_spec_arc.erase,[.tmp 4]) := by kernel_rfl
def o_spec_Check_1_0 : List TIns := [⟨⟨(some 3),.mov (.const (Go.Value.bool false)),none⟩,0⟩]
def o_spec_Check_1_1 : List TIns := [⟨⟨(some 4),.mov (t 0),none⟩,0⟩,
  ⟨⟨(some 5),.load1 (t 1),none⟩,0⟩,
  ⟨⟨(some 6),.bin .sub (t 5) (ci 1),none⟩,0⟩,
  ⟨⟨(some 7),.call F_spec_in [(t 4),(ci 0),(t 6)],none⟩,0⟩,
  ⟨⟨(some 8),.un .not (t 7),none⟩,0⟩,
  ⟨⟨(some 3),.mov (t 8),none⟩,0⟩]
def tc_spec_Check_1 : TC := (.seq (.ops o_spec_Check_1_0) (.clean [0,1] (.seq (.ops o_spec_Check_1_1) (.ret [3]))))
def fn_spec_Check_1 : TFn := ⟨9,tc_spec_Check_1,[.tmp 3],false⟩
theorem U_spec_Check_1 : type_of% (And.intro @o_spec_Check_1_0.eq_1 (And.intro @o_spec_Check_1_1.eq_1 (And.intro @tc_spec_Check_1.eq_1 @fn_spec_Check_1.eq_1))) := And.intro @o_spec_Check_1_0.eq_1 (And.intro @o_spec_Check_1_1.eq_1 (And.intro @tc_spec_Check_1.eq_1 @fn_spec_Check_1.eq_1))
theorem c_spec_Check_1 : fnIC Try.prog [] F_spec_Check_1 = some (9,tc_spec_Check_1.erase,[.tmp 3]) := by kernel_rfl
def o_spec_once_string_0 : List TIns := [⟨⟨(some 2),.mov (.const (Go.Value.bool false)),none⟩,0⟩]
def o_spec_once_string_1 : List TIns := [⟨⟨(some 6),.mkMap,none⟩,0⟩,
  ⟨⟨(some 3),.mov (t 6),none⟩,0⟩]
def o_spec_once_string_2 : List TIns := [⟨⟨(some 7),.mov (t 0),none⟩,0⟩,
  ⟨⟨(some 8),.lenL (t 7),none⟩,0⟩,
  ⟨⟨(some 9),.mov (ci 0),none⟩,0⟩]
def o_spec_once_string_3 : List TIns := [⟨⟨(some 10),.bin .lss (t 9) (t 8),none⟩,0⟩]
def o_spec_once_string_4 : List TIns := [⟨⟨(some 11),.indexSl 1 (t 7) (t 9),none⟩,0⟩,
  ⟨⟨(some 12),.load1 (t 11),none⟩,0⟩,
  ⟨⟨(some 5),.mov (t 12),none⟩,0⟩]
def o_spec_once_string_5 : List TIns := [⟨⟨(some 13),.mov (t 3),none⟩,0⟩,
  ⟨⟨(some 14),.mov (t 5),none⟩,0⟩,
  ⟨⟨(some 15),.mapGet T_string (t 13) (t 14),none⟩,0⟩]
def o_spec_once_string_6 : List TIns := [⟨⟨(some 2),.mov (.const (Go.Value.bool false)),none⟩,0⟩]
def o_spec_once_string_7 : List TIns := [⟨⟨(some 16),.mov (t 3),none⟩,0⟩,
  ⟨⟨(some 17),.mov (t 5),none⟩,0⟩,
  ⟨⟨none,.mapSet T_string (t 16) (t 17) (.const (Go.Value.bool true)),none⟩,0⟩]
def o_spec_once_string_8 : List TIns := [⟨⟨(some 18),.bin .add (t 9) (ci 1),none⟩,0⟩,
  ⟨⟨(some 9),.mov (t 18),none⟩,0⟩]
def l_spec_once_string_1 : TC := (.seq (.ops o_spec_once_string_3) (.clean [3,7,8,9,10] (.seq (.cond (t 10) .skip (.exit 0)) (.clean [3,7,8,9] (.seq (.block 1 [3,7,8,9] (.seq (.ops o_spec_once_string_4) (.clean [3,5,7,8,9] (.seq (.seq (.ops o_spec_once_string_5) (.clean [3,5,7,8,9,15] (.cond (t 15) (.seq (.ops o_spec_once_string_6) (.ret [2])) .skip))) (.clean [3,5,7,8,9] (.ops o_spec_once_string_7)))))) (.clean [3,7,8,9] (.ops o_spec_once_string_8)))))))
def o_spec_once_string_9 : List TIns := [⟨⟨(some 2),.mov (.const (Go.Value.bool true)),none⟩,0⟩]
def tc_spec_once_string : TC := (.seq (.ops o_spec_once_string_0) (.clean [0] (.seq (.ops o_spec_once_string_1) (.clean [0,3] (.seq (.seq (.ops o_spec_once_string_2) (.block 0 [] (.clean [3,7,8,9] (.loop [3,7,8,9] l_spec_once_string_1)))) (.clean [] (.seq (.ops o_spec_once_string_9) (.ret [2]))))))))
def fn_spec_once_string : TFn := ⟨19,tc_spec_once_string,[.tmp 2],false⟩
theorem U_spec_once_string : type_of% (And.intro @o_spec_once_string_0.eq_1 (And.intro @o_spec_once_string_1.eq_1 (And.intro @o_spec_once_string_2.eq_1 (And.intro @o_spec_once_string_3.eq_1 (And.intro @o_spec_once_string_4.eq_1 (And.intro @o_spec_once_string_5.eq_1 (And.intro @o_spec_once_string_6.eq_1 (And.intro @o_spec_once_string_7.eq_1 (And.intro @o_spec_once_string_8.eq_1 (And.intro @o_spec_once_string_9.eq_1 (And.intro @tc_spec_once_string.eq_1 @fn_spec_once_string.eq_1))))))))))) := And.intro @o_spec_once_string_0.eq_1 (And.intro @o_spec_once_string_1.eq_1 (And.intro @o_spec_once_string_2.eq_1 (And.intro @o_spec_once_string_3.eq_1 (And.intro @o_spec_once_string_4.eq_1 (And.intro @o_spec_once_string_5.eq_1 (And.intro @o_spec_once_string_6.eq_1 (And.intro @o_spec_once_string_7.eq_1 (And.intro @o_spec_once_string_8.eq_1 (And.intro @o_spec_once_string_9.eq_1 (And.intro @tc_spec_once_string.eq_1 @fn_spec_once_string.eq_1))))))))))
theorem c_spec_once_string : fnIC Try.prog [] F_spec_once_string = some (19,tc_spec_once_string.erase,[.tmp 2]) := by kernel_rfl
def o_spec_once_2_int_0 : List TIns := [⟨⟨(some 2),.mov (.const (Go.Value.bool false)),none⟩,0⟩]
def o_spec_once_2_int_1 : List TIns := [⟨⟨(some 6),.mkMap,none⟩,0⟩,
  ⟨⟨(some 3),.mov (t 6),none⟩,0⟩]
def o_spec_once_2_int_2 : List TIns := [⟨⟨(some 7),.mov (t 0),none⟩,0⟩,
  ⟨⟨(some 8),.lenL (t 7),none⟩,0⟩,
  ⟨⟨(some 9),.mov (ci 0),none⟩,0⟩]
def o_spec_once_2_int_3 : List TIns := [⟨⟨(some 10),.bin .lss (t 9) (t 8),none⟩,0⟩]
def o_spec_once_2_int_4 : List TIns := [⟨⟨(some 11),.indexSl 2 (t 7) (t 9),none⟩,0⟩,
  ⟨⟨(some 12),.loadN 2 (t 11),none⟩,0⟩,
  ⟨⟨(some 5),.box T_2_int 2 (.const (.agg #[(.int .i64 0),(.int .i64 0)])),none⟩,0⟩,
  ⟨⟨none,.store 2 (t 5) (t 12),none⟩,0⟩]
def o_spec_once_2_int_5 : List TIns := [⟨⟨(some 13),.mov (t 3),none⟩,0⟩,
  ⟨⟨(some 14),.loadN 2 (t 5),none⟩,0⟩,
  ⟨⟨(some 15),.mapGet T_2_int (t 13) (t 14),none⟩,0⟩]
def o_spec_once_2_int_6 : List TIns := [⟨⟨(some 2),.mov (.const (Go.Value.bool false)),none⟩,0⟩]
def o_spec_once_2_int_7 : List TIns := [⟨⟨(some 16),.mov (t 3),none⟩,0⟩,
  ⟨⟨(some 17),.loadN 2 (t 5),none⟩,0⟩,
  ⟨⟨none,.mapSet T_2_int (t 16) (t 17) (.const (Go.Value.bool true)),none⟩,0⟩]
def o_spec_once_2_int_8 : List TIns := [⟨⟨(some 18),.bin .add (t 9) (ci 1),none⟩,0⟩,
  ⟨⟨(some 9),.mov (t 18),none⟩,0⟩]
def l_spec_once_2_int_1 : TC := (.seq (.ops o_spec_once_2_int_3) (.clean [3,7,8,9,10] (.seq (.cond (t 10) .skip (.exit 0)) (.clean [3,7,8,9] (.seq (.block 1 [3,7,8,9] (.seq (.ops o_spec_once_2_int_4) (.clean [3,5,7,8,9] (.seq (.seq (.ops o_spec_once_2_int_5) (.clean [3,5,7,8,9,15] (.cond (t 15) (.seq (.ops o_spec_once_2_int_6) (.ret [2])) .skip))) (.clean [3,5,7,8,9] (.ops o_spec_once_2_int_7)))))) (.clean [3,7,8,9] (.ops o_spec_once_2_int_8)))))))
def o_spec_once_2_int_9 : List TIns := [⟨⟨(some 2),.mov (.const (Go.Value.bool true)),none⟩,0⟩]
def tc_spec_once_2_int : TC := (.seq (.ops o_spec_once_2_int_0) (.clean [0] (.seq (.ops o_spec_once_2_int_1) (.clean [0,3] (.seq (.seq (.ops o_spec_once_2_int_2) (.block 0 [] (.clean [3,7,8,9] (.loop [3,7,8,9] l_spec_once_2_int_1)))) (.clean [] (.seq (.ops o_spec_once_2_int_9) (.ret [2]))))))))
def fn_spec_once_2_int : TFn := ⟨19,tc_spec_once_2_int,[.tmp 2],false⟩
theorem U_spec_once_2_int : type_of% (And.intro @o_spec_once_2_int_0.eq_1 (And.intro @o_spec_once_2_int_1.eq_1 (And.intro @o_spec_once_2_int_2.eq_1 (And.intro @o_spec_once_2_int_3.eq_1 (And.intro @o_spec_once_2_int_4.eq_1 (And.intro @o_spec_once_2_int_5.eq_1 (And.intro @o_spec_once_2_int_6.eq_1 (And.intro @o_spec_once_2_int_7.eq_1 (And.intro @o_spec_once_2_int_8.eq_1 (And.intro @o_spec_once_2_int_9.eq_1 (And.intro @tc_spec_once_2_int.eq_1 @fn_spec_once_2_int.eq_1))))))))))) := And.intro @o_spec_once_2_int_0.eq_1 (And.intro @o_spec_once_2_int_1.eq_1 (And.intro @o_spec_once_2_int_2.eq_1 (And.intro @o_spec_once_2_int_3.eq_1 (And.intro @o_spec_once_2_int_4.eq_1 (And.intro @o_spec_once_2_int_5.eq_1 (And.intro @o_spec_once_2_int_6.eq_1 (And.intro @o_spec_once_2_int_7.eq_1 (And.intro @o_spec_once_2_int_8.eq_1 (And.intro @o_spec_once_2_int_9.eq_1 (And.intro @tc_spec_once_2_int.eq_1 @fn_spec_once_2_int.eq_1))))))))))
theorem c_spec_once_2_int : fnIC Try.prog [] F_spec_once_2_int = some (19,tc_spec_once_2_int.erase,[.tmp 2]) := by kernel_rfl
def o_spec_once_int_0 : List TIns := [⟨⟨(some 2),.mov (.const (Go.Value.bool false)),none⟩,0⟩]
def o_spec_once_int_1 : List TIns := [⟨⟨(some 6),.mkMap,none⟩,0⟩,
  ⟨⟨(some 3),.mov (t 6),none⟩,0⟩]
def o_spec_once_int_2 : List TIns := [⟨⟨(some 7),.mov (t 0),none⟩,0⟩,
  ⟨⟨(some 8),.lenL (t 7),none⟩,0⟩,
  ⟨⟨(some 9),.mov (ci 0),none⟩,0⟩]
def o_spec_once_int_3 : List TIns := [⟨⟨(some 10),.bin .lss (t 9) (t 8),none⟩,0⟩]
def o_spec_once_int_4 : List TIns := [⟨⟨(some 11),.indexSl 1 (t 7) (t 9),none⟩,0⟩,
  ⟨⟨(some 12),.load1 (t 11),none⟩,0⟩,
  ⟨⟨(some 5),.mov (t 12),none⟩,0⟩]
def o_spec_once_int_5 : List TIns := [⟨⟨(some 13),.mov (t 3),none⟩,0⟩,
  ⟨⟨(some 14),.mov (t 5),none⟩,0⟩,
  ⟨⟨(some 15),.mapGet T_int (t 13) (t 14),none⟩,0⟩]
def o_spec_once_int_6 : List TIns := [⟨⟨(some 2),.mov (.const (Go.Value.bool false)),none⟩,0⟩]
def o_spec_once_int_7 : List TIns := [⟨⟨(some 16),.mov (t 3),none⟩,0⟩,
  ⟨⟨(some 17),.mov (t 5),none⟩,0⟩,
  ⟨⟨none,.mapSet T_int (t 16) (t 17) (.const (Go.Value.bool true)),none⟩,0⟩]
def o_spec_once_int_8 : List TIns := [⟨⟨(some 18),.bin .add (t 9) (ci 1),none⟩,0⟩,
  ⟨⟨(some 9),.mov (t 18),none⟩,0⟩]
def l_spec_once_int_1 : TC := (.seq (.ops o_spec_once_int_3) (.clean [3,7,8,9,10] (.seq (.cond (t 10) .skip (.exit 0)) (.clean [3,7,8,9] (.seq (.block 1 [3,7,8,9] (.seq (.ops o_spec_once_int_4) (.clean [3,5,7,8,9] (.seq (.seq (.ops o_spec_once_int_5) (.clean [3,5,7,8,9,15] (.cond (t 15) (.seq (.ops o_spec_once_int_6) (.ret [2])) .skip))) (.clean [3,5,7,8,9] (.ops o_spec_once_int_7)))))) (.clean [3,7,8,9] (.ops o_spec_once_int_8)))))))
def o_spec_once_int_9 : List TIns := [⟨⟨(some 2),.mov (.const (Go.Value.bool true)),none⟩,0⟩]
def tc_spec_once_int : TC := (.seq (.ops o_spec_once_int_0) (.clean [0] (.seq (.ops o_spec_once_int_1) (.clean [0,3] (.seq (.seq (.ops o_spec_once_int_2) (.block 0 [] (.clean [3,7,8,9] (.loop [3,7,8,9] l_spec_once_int_1)))) (.clean [] (.seq (.ops o_spec_once_int_9) (.ret [2]))))))))
def fn_spec_once_int : TFn := ⟨19,tc_spec_once_int,[.tmp 2],false⟩
theorem U_spec_once_int : type_of% (And.intro @o_spec_once_int_0.eq_1 (And.intro @o_spec_once_int_1.eq_1 (And.intro @o_spec_once_int_2.eq_1 (And.intro @o_spec_once_int_3.eq_1 (And.intro @o_spec_once_int_4.eq_1 (And.intro @o_spec_once_int_5.eq_1 (And.intro @o_spec_once_int_6.eq_1 (And.intro @o_spec_once_int_7.eq_1 (And.intro @o_spec_once_int_8.eq_1 (And.intro @o_spec_once_int_9.eq_1 (And.intro @tc_spec_once_int.eq_1 @fn_spec_once_int.eq_1))))))))))) := And.intro @o_spec_once_int_0.eq_1 (And.intro @o_spec_once_int_1.eq_1 (And.intro @o_spec_once_int_2.eq_1 (And.intro @o_spec_once_int_3.eq_1 (And.intro @o_spec_once_int_4.eq_1 (And.intro @o_spec_once_int_5.eq_1 (And.intro @o_spec_once_int_6.eq_1 (And.intro @o_spec_once_int_7.eq_1 (And.intro @o_spec_once_int_8.eq_1 (And.intro @o_spec_once_int_9.eq_1 (And.intro @tc_spec_once_int.eq_1 @fn_spec_once_int.eq_1))))))))))
theorem c_spec_once_int : fnIC Try.prog [] F_spec_once_int = some (19,tc_spec_once_int.erase,[.tmp 2]) := by kernel_rfl
def o_slices_ContainsFunc_int_int_0 : List TIns := [⟨⟨(some 4),.mov (.const (Go.Value.bool false)),none⟩,0⟩]
def o_slices_ContainsFunc_int_int_1 : List TIns := [⟨⟨(some 5),.mov (t 0),none⟩,0⟩,
  ⟨⟨(some 6),.mov (t 1),none⟩,0⟩,
  ⟨⟨(some 7),.call F_slices_IndexFunc_int_int [(t 5),(t 6)],none⟩,0⟩,
  ⟨⟨(some 8),.bin .geq (t 7) (ci 0),none⟩,0⟩,
  ⟨⟨(some 4),.mov (t 8),none⟩,0⟩]
def tc_slices_ContainsFunc_int_int : TC := (.seq (.ops o_slices_ContainsFunc_int_int_0) (.clean [0,1] (.seq (.ops o_slices_ContainsFunc_int_int_1) (.ret [4]))))
def fn_slices_ContainsFunc_int_int : TFn := ⟨9,tc_slices_ContainsFunc_int_int,[.tmp 4],false⟩
theorem U_slices_ContainsFunc_int_int : type_of% (And.intro @o_slices_ContainsFunc_int_int_0.eq_1 (And.intro @o_slices_ContainsFunc_int_int_1.eq_1 (And.intro @tc_slices_ContainsFunc_int_int.eq_1 @fn_slices_ContainsFunc_int_int.eq_1))) := And.intro @o_slices_ContainsFunc_int_int_0.eq_1 (And.intro @o_slices_ContainsFunc_int_int_1.eq_1 (And.intro @tc_slices_ContainsFunc_int_int.eq_1 @fn_slices_ContainsFunc_int_int.eq_1))
theorem c_slices_ContainsFunc_int_int : fnIC Try.prog [] F_slices_ContainsFunc_int_int = some (9,tc_slices_ContainsFunc_int_int.erase,[.tmp 4]) := by kernel_rfl
def o_slices_IndexFunc_int_int_0 : List TIns := [⟨⟨(some 4),.mov (ci 0),none⟩,0⟩]
def o_slices_IndexFunc_int_int_1 : List TIns := [⟨⟨(some 6),.mov (t 0),none⟩,0⟩,
  ⟨⟨(some 7),.lenL (t 6),none⟩,0⟩,
  ⟨⟨(some 8),.mov (ci 0),none⟩,0⟩]
def o_slices_IndexFunc_int_int_2 : List TIns := [⟨⟨(some 9),.bin .lss (t 8) (t 7),none⟩,0⟩]
def o_slices_IndexFunc_int_int_3 : List TIns := [⟨⟨(some 10),.mov (t 8),none⟩,0⟩,
  ⟨⟨(some 5),.mov (t 10),none⟩,0⟩]
def o_slices_IndexFunc_int_int_4 : List TIns := [⟨⟨(some 11),.mov (t 1),none⟩,0⟩,
  ⟨⟨(some 12),.mov (t 0),none⟩,0⟩,
  ⟨⟨(some 13),.mov (t 5),none⟩,0⟩,
  ⟨⟨(some 14),.indexSl 1 (t 12) (t 13),none⟩,0⟩,
  ⟨⟨(some 15),.load1 (t 14),none⟩,0⟩,
  ⟨⟨(some 16),.callv (t 11) [(t 15)],none⟩,0⟩]
def o_slices_IndexFunc_int_int_5 : List TIns := [⟨⟨(some 17),.mov (t 5),none⟩,0⟩,
  ⟨⟨(some 4),.mov (t 17),none⟩,0⟩]
def o_slices_IndexFunc_int_int_6 : List TIns := [⟨⟨(some 18),.bin .add (t 8) (ci 1),none⟩,0⟩,
  ⟨⟨(some 8),.mov (t 18),none⟩,0⟩]
def l_slices_IndexFunc_int_int_1 : TC := (.seq (.ops o_slices_IndexFunc_int_int_2) (.clean [0,1,7,8,9] (.seq (.cond (t 9) .skip (.exit 0)) (.clean [0,1,7,8] (.seq (.block 1 [0,1,7,8] (.seq (.ops o_slices_IndexFunc_int_int_3) (.clean [0,1,5,7,8] (.seq (.ops o_slices_IndexFunc_int_int_4) (.clean [0,1,5,7,8,16] (.cond (t 16) (.seq (.ops o_slices_IndexFunc_int_int_5) (.ret [4])) .skip)))))) (.clean [0,1,7,8] (.ops o_slices_IndexFunc_int_int_6)))))))
def o_slices_IndexFunc_int_int_7 : List TIns := [⟨⟨(some 4),.mov (ci (-1)),none⟩,0⟩]
def tc_slices_IndexFunc_int_int : TC := (.seq (.ops o_slices_IndexFunc_int_int_0) (.clean [0,1] (.seq (.seq (.ops o_slices_IndexFunc_int_int_1) (.block 0 [] (.clean [0,1,7,8] (.loop [0,1,7,8] l_slices_IndexFunc_int_int_1)))) (.clean [] (.seq (.ops o_slices_IndexFunc_int_int_7) (.ret [4]))))))
def fn_slices_IndexFunc_int_int : TFn := ⟨19,tc_slices_IndexFunc_int_int,[.tmp 4],false⟩
theorem U_slices_IndexFunc_int_int : type_of% (And.intro @o_slices_IndexFunc_int_int_0.eq_1 (And.intro @o_slices_IndexFunc_int_int_1.eq_1 (And.intro @o_slices_IndexFunc_int_int_2.eq_1 (And.intro @o_slices_IndexFunc_int_int_3.eq_1 (And.intro @o_slices_IndexFunc_int_int_4.eq_1 (And.intro @o_slices_IndexFunc_int_int_5.eq_1 (And.intro @o_slices_IndexFunc_int_int_6.eq_1 (And.intro @o_slices_IndexFunc_int_int_7.eq_1 (And.intro @tc_slices_IndexFunc_int_int.eq_1 @fn_slices_IndexFunc_int_int.eq_1))))))))) := And.intro @o_slices_IndexFunc_int_int_0.eq_1 (And.intro @o_slices_IndexFunc_int_int_1.eq_1 (And.intro @o_slices_IndexFunc_int_int_2.eq_1 (And.intro @o_slices_IndexFunc_int_int_3.eq_1 (And.intro @o_slices_IndexFunc_int_int_4.eq_1 (And.intro @o_slices_IndexFunc_int_int_5.eq_1 (And.intro @o_slices_IndexFunc_int_int_6.eq_1 (And.intro @o_slices_IndexFunc_int_int_7.eq_1 (And.intro @tc_slices_IndexFunc_int_int.eq_1 @fn_slices_IndexFunc_int_int.eq_1))))))))
theorem c_slices_IndexFunc_int_int : fnIC Try.prog [] F_slices_IndexFunc_int_int = some (19,tc_slices_IndexFunc_int_int.erase,[.tmp 4]) := by kernel_rfl
def o_when_times_at_0 : List TIns := [⟨⟨(some 2),.box T_when_times 7 (t 0),none⟩,0⟩,
  ⟨⟨(some 4),.mov (ci 0),none⟩,0⟩]
def o_when_times_at_1 : List TIns := [⟨⟨(some 5),.fieldAddr 5 (t 2),none⟩,0⟩,
  ⟨⟨(some 6),.load1 (t 5),none⟩,0⟩,
  ⟨⟨(some 7),.mov (t 1),none⟩,0⟩,
  ⟨⟨(some 8),.fieldAddr 6 (t 2),none⟩,0⟩,
  ⟨⟨(some 9),.load1 (t 8),none⟩,0⟩,
  ⟨⟨(some 10),.bin .mul (t 7) (t 9),none⟩,0⟩,
  ⟨⟨(some 11),.bin .add (t 6) (t 10),none⟩,0⟩,
  ⟨⟨(some 4),.mov (t 11),none⟩,0⟩]
def tc_when_times_at : TC := (.seq (.ops o_when_times_at_0) (.clean [1,2] (.seq (.ops o_when_times_at_1) (.ret [4]))))
def fn_when_times_at : TFn := ⟨12,tc_when_times_at,[.tmp 4],false⟩
theorem U_when_times_at : type_of% (And.intro @o_when_times_at_0.eq_1 (And.intro @o_when_times_at_1.eq_1 (And.intro @tc_when_times_at.eq_1 @fn_when_times_at.eq_1))) := And.intro @o_when_times_at_0.eq_1 (And.intro @o_when_times_at_1.eq_1 (And.intro @tc_when_times_at.eq_1 @fn_when_times_at.eq_1))
theorem c_when_times_at : fnIC Try.prog [] F_when_times_at = some (12,tc_when_times_at.erase,[.tmp 4]) := by kernel_rfl
def o_when_Last_0 : List TIns := [⟨⟨(some 1),.box T_api_Spec 7 (t 0),none⟩,0⟩,
  ⟨⟨(some 2),.mov (ci 0),none⟩,0⟩]
def o_when_Last_1 : List TIns := [⟨⟨(some 3),.loadN 7 (t 1),none⟩,0⟩,
  ⟨⟨(some 4),.fieldAddr 1 (t 1),none⟩,0⟩,
  ⟨⟨(some 5),.load1 (t 4),none⟩,0⟩,
  ⟨⟨(some 6),.lenL (t 5),none⟩,0⟩,
  ⟨⟨(some 7),.call F_when_Deadline [(t 3),(t 6)],none⟩,0⟩,
  ⟨⟨(some 2),.mov (t 7),none⟩,0⟩]
def tc_when_Last : TC := (.seq (.ops o_when_Last_0) (.clean [1] (.seq (.ops o_when_Last_1) (.ret [2]))))
def fn_when_Last : TFn := ⟨8,tc_when_Last,[.tmp 2],false⟩
theorem U_when_Last : type_of% (And.intro @o_when_Last_0.eq_1 (And.intro @o_when_Last_1.eq_1 (And.intro @tc_when_Last.eq_1 @fn_when_Last.eq_1))) := And.intro @o_when_Last_0.eq_1 (And.intro @o_when_Last_1.eq_1 (And.intro @tc_when_Last.eq_1 @fn_when_Last.eq_1))
theorem c_when_Last : fnIC Try.prog [] F_when_Last = some (8,tc_when_Last.erase,[.tmp 2]) := by kernel_rfl
def o_when_End_0 : List TIns := [⟨⟨(some 1),.box T_api_Spec 7 (t 0),none⟩,0⟩,
  ⟨⟨(some 2),.mov (ci 0),none⟩,0⟩]
def o_when_End_1 : List TIns := [⟨⟨(some 3),.loadN 7 (t 1),none⟩,0⟩,
  ⟨⟨(some 4),.fieldAddr 1 (t 1),none⟩,0⟩,
  ⟨⟨(some 5),.load1 (t 4),none⟩,0⟩,
  ⟨⟨(some 6),.lenL (t 5),none⟩,0⟩,
  ⟨⟨(some 7),.bin .mul (ci 2) (t 6),none⟩,0⟩,
  ⟨⟨(some 8),.call F_when_of [(t 3),(t 7)],none⟩,0⟩,
  ⟨⟨(some 2),.mov (t 8),none⟩,0⟩]
def tc_when_End : TC := (.seq (.ops o_when_End_0) (.clean [1] (.seq (.ops o_when_End_1) (.ret [2]))))
def fn_when_End : TFn := ⟨9,tc_when_End,[.tmp 2],false⟩
theorem U_when_End : type_of% (And.intro @o_when_End_0.eq_1 (And.intro @o_when_End_1.eq_1 (And.intro @tc_when_End.eq_1 @fn_when_End.eq_1))) := And.intro @o_when_End_0.eq_1 (And.intro @o_when_End_1.eq_1 (And.intro @tc_when_End.eq_1 @fn_when_End.eq_1))
theorem c_when_End : fnIC Try.prog [] F_when_End = some (9,tc_when_End.erase,[.tmp 2]) := by kernel_rfl
def o_when_Table_0 : List TIns := [⟨⟨(some 1),.box T_api_Spec 7 (t 0),none⟩,0⟩,
  ⟨⟨(some 2),.mov (.const (Go.Value.slice none 0 0)),none⟩,0⟩]
def o_when_Table_1 : List TIns := [⟨⟨(some 3),.mov (.const (Go.Value.slice none 0 0)),none⟩,1⟩]
def o_when_Table_2 : List TIns := [⟨⟨(some 5),.loadN 7 (t 1),none⟩,0⟩,
  ⟨⟨(some 6),.call F_spec_Check [(t 5)],none⟩,0⟩,
  ⟨⟨(some 7),.un .not (t 6),none⟩,0⟩]
def o_when_Table_3 : List TIns := [⟨⟨(some 2),.mov (.const (Go.Value.slice none 0 0)),none⟩,0⟩]
def o_when_Table_4 : List TIns := [⟨⟨(some 8),.fieldAddr 1 (t 1),none⟩,0⟩,
  ⟨⟨(some 9),.load1 (t 8),none⟩,0⟩,
  ⟨⟨(some 10),.lenL (t 9),none⟩,0⟩,
  ⟨⟨(some 11),.mov (ci 0),none⟩,0⟩]
def o_when_Table_5 : List TIns := [⟨⟨(some 12),.bin .lss (t 11) (t 10),none⟩,0⟩]
def o_when_Table_6 : List TIns := [⟨⟨(some 13),.mov (t 11),none⟩,0⟩,
  ⟨⟨(some 4),.mov (t 13),none⟩,0⟩]
def o_when_Table_7 : List TIns := [⟨⟨(some 14),.mov (t 3),none⟩,0⟩,
  ⟨⟨(some 15),.loadN 7 (t 1),none⟩,0⟩,
  ⟨⟨(some 16),.mov (t 4),none⟩,0⟩,
  ⟨⟨(some 17),.bin .add (t 16) (ci 1),none⟩,0⟩,
  ⟨⟨(some 18),.call F_when_Deadline [(t 15),(t 17)],none⟩,0⟩,
  ⟨⟨(some 19),.buildSl T_int 1 1 [(.int .i64 0)] [(0,1,(t 18))],none⟩,0⟩,
  ⟨⟨(some 20),.append T_int 1 8 (t 14) (t 19),none⟩,0⟩,
  ⟨⟨(some 3),.mov (t 20),none⟩,0⟩]
def o_when_Table_8 : List TIns := [⟨⟨(some 21),.bin .add (t 11) (ci 1),none⟩,0⟩,
  ⟨⟨(some 11),.mov (t 21),none⟩,0⟩]
def l_when_Table_1 : TC := (.seq (.ops o_when_Table_5) (.clean [1,3,10,11,12] (.seq (.cond (t 12) .skip (.exit 0)) (.clean [1,3,10,11] (.seq (.block 1 [1,3,10,11] (.seq (.ops o_when_Table_6) (.clean [1,3,4,10,11] (.ops o_when_Table_7)))) (.clean [1,3,10,11] (.ops o_when_Table_8)))))))
def o_when_Table_9 : List TIns := [⟨⟨(some 22),.mov (t 3),none⟩,0⟩,
  ⟨⟨(some 2),.mov (t 22),none⟩,0⟩]
def tc_when_Table : TC := (.seq (.ops o_when_Table_0) (.clean [1] (.seq (.ops o_when_Table_1) (.clean [1,3] (.seq (.seq (.ops o_when_Table_2) (.clean [1,3,7] (.cond (t 7) (.seq (.ops o_when_Table_3) (.ret [2])) .skip))) (.clean [1,3] (.seq (.seq (.ops o_when_Table_4) (.block 0 [3] (.clean [1,3,10,11] (.loop [1,3,10,11] l_when_Table_1)))) (.clean [3] (.seq (.ops o_when_Table_9) (.ret [2]))))))))))
def fn_when_Table : TFn := ⟨23,tc_when_Table,[.tmp 2],false⟩
theorem U_when_Table : type_of% (And.intro @o_when_Table_0.eq_1 (And.intro @o_when_Table_1.eq_1 (And.intro @o_when_Table_2.eq_1 (And.intro @o_when_Table_3.eq_1 (And.intro @o_when_Table_4.eq_1 (And.intro @o_when_Table_5.eq_1 (And.intro @o_when_Table_6.eq_1 (And.intro @o_when_Table_7.eq_1 (And.intro @o_when_Table_8.eq_1 (And.intro @o_when_Table_9.eq_1 (And.intro @tc_when_Table.eq_1 @fn_when_Table.eq_1))))))))))) := And.intro @o_when_Table_0.eq_1 (And.intro @o_when_Table_1.eq_1 (And.intro @o_when_Table_2.eq_1 (And.intro @o_when_Table_3.eq_1 (And.intro @o_when_Table_4.eq_1 (And.intro @o_when_Table_5.eq_1 (And.intro @o_when_Table_6.eq_1 (And.intro @o_when_Table_7.eq_1 (And.intro @o_when_Table_8.eq_1 (And.intro @o_when_Table_9.eq_1 (And.intro @tc_when_Table.eq_1 @fn_when_Table.eq_1))))))))))
theorem c_when_Table : fnIC Try.prog [] F_when_Table = some (23,tc_when_Table.erase,[.tmp 2]) := by kernel_rfl
def o_handsellaw00_Ring_0 : List TIns := [⟨⟨(some 6),.box T_api_Spec 7 (.const (.agg #[(.string ⟨#[]⟩),(.slice none 0 0),(.slice none 0 0),(.slice none 0 0),(.slice none 0 0),(.int .i64 0),(.int .i64 0)])),none⟩,0⟩]
def o_handsellaw00_Ring_1 : List TIns := [⟨⟨(some 9),.mov (t 0),none⟩,0⟩,
  ⟨⟨(some 10),.call F_handsellaw00_arcs [(t 9),(ci 0),(ci 2)],none⟩,0⟩,
  ⟨⟨(some 11),.buildSl T_int 1 1 [(.int .i64 0)] [(0,1,(ci 0))],none⟩,0⟩,
  ⟨⟨(some 12),.mov (t 1),none⟩,0⟩,
  ⟨⟨(some 13),.mov (t 2),none⟩,0⟩,
  ⟨⟨(some 14),.build [(.string ⟨#[]⟩),(.slice none 0 0),(.slice none 0 0),(.slice none 0 0),(.slice none 0 0),(.int .i64 0),(.int .i64 0)] [(0,1,(.const (Go.Value.string ⟨#[114,105,110,103]⟩))),(2,1,(t 10)),(3,1,(t 11)),(5,1,(t 12)),(6,1,(t 13))],none⟩,0⟩,
  ⟨⟨(some 7),.box T_api_Spec 7 (.const (.agg #[(.string ⟨#[]⟩),(.slice none 0 0),(.slice none 0 0),(.slice none 0 0),(.slice none 0 0),(.int .i64 0),(.int .i64 0)])),none⟩,0⟩,
  ⟨⟨none,.store 7 (t 7) (t 14),none⟩,0⟩]
def o_handsellaw00_Ring_2 : List TIns := [⟨⟨(some 8),.mov (ci 0),none⟩,0⟩]
def o_handsellaw00_Ring_3 : List TIns := [⟨⟨(some 15),.mov (t 8),none⟩,0⟩,
  ⟨⟨(some 16),.mov (t 0),none⟩,0⟩,
  ⟨⟨(some 17),.bin .lss (t 15) (t 16),none⟩,0⟩]
def o_handsellaw00_Ring_5 : List TIns := [⟨⟨(some 20),.fieldAddr 1 (t 7),none⟩,0⟩,
  ⟨⟨(some 21),.load1 (t 20),none⟩,0⟩,
  ⟨⟨(some 22),.mov (t 8),none⟩,0⟩,
  ⟨⟨(some 23),.call F_handsellaw00_Account [(t 22)],none⟩,0⟩,
  ⟨⟨(some 24),.build [(.string ⟨#[]⟩),(.slice none 0 0)] [(0,1,(t 23))],none⟩,0⟩,
  ⟨⟨(some 25),.buildSl T_api_Party 2 1 [(.string ⟨#[]⟩),(.slice none 0 0)] [(0,2,(t 24))],none⟩,0⟩,
  ⟨⟨(some 26),.append T_api_Party 2 40 (t 21) (t 25),none⟩,1⟩,
  ⟨⟨(some 27),.fieldAddr 1 (t 7),none⟩,9⟩,
  ⟨⟨none,.store 1 (t 27) (t 26),none⟩,0⟩]
def o_handsellaw00_Ring_4 : List TIns := [⟨⟨(some 18),.mov (t 8),none⟩,0⟩,
  ⟨⟨(some 19),.bin .add (t 18) (ci 1),none⟩,0⟩,
  ⟨⟨(some 8),.mov (t 19),none⟩,0⟩]
def l_handsellaw00_Ring_1 : TC := (.seq (.seq (.ops o_handsellaw00_Ring_3) (.clean [0,6,7,8,17] (.cond (t 17) .skip (.exit 0)))) (.clean [0,6,7,8] (.seq (.block 1 [0,6,7,8] (.draw (pl o_handsellaw00_Ring_5))) (.clean [0,6,7,8] (.ops o_handsellaw00_Ring_4)))))
def o_handsellaw00_Ring_6 : List TIns := [⟨⟨(some 28),.loadN 7 (t 7),none⟩,0⟩,
  ⟨⟨(some 29),.call F_handsellaw00_keyed [(t 28)],none⟩,0⟩,
  ⟨⟨none,.store 7 (t 6) (t 29),none⟩,9⟩]
def tc_handsellaw00_Ring : TC := (.seq (.ops o_handsellaw00_Ring_0) (.clean [0,1,2,6] (.seq (.ops o_handsellaw00_Ring_1) (.clean [0,6,7] (.seq (.seq (.ops o_handsellaw00_Ring_2) (.block 0 [6,7] (.clean [0,6,7,8] (.loop [0,6,7,8] l_handsellaw00_Ring_1)))) (.clean [6,7] (.seq (.ops o_handsellaw00_Ring_6) (.ret [6]))))))))
def fn_handsellaw00_Ring : TFn := ⟨30,tc_handsellaw00_Ring,[.cellN 6 7],true⟩
theorem U_handsellaw00_Ring : type_of% (And.intro @o_handsellaw00_Ring_0.eq_1 (And.intro @o_handsellaw00_Ring_1.eq_1 (And.intro @o_handsellaw00_Ring_2.eq_1 (And.intro @o_handsellaw00_Ring_3.eq_1 (And.intro @o_handsellaw00_Ring_5.eq_1 (And.intro @o_handsellaw00_Ring_4.eq_1 (And.intro @o_handsellaw00_Ring_6.eq_1 (And.intro @tc_handsellaw00_Ring.eq_1 @fn_handsellaw00_Ring.eq_1)))))))) := And.intro @o_handsellaw00_Ring_0.eq_1 (And.intro @o_handsellaw00_Ring_1.eq_1 (And.intro @o_handsellaw00_Ring_2.eq_1 (And.intro @o_handsellaw00_Ring_3.eq_1 (And.intro @o_handsellaw00_Ring_5.eq_1 (And.intro @o_handsellaw00_Ring_4.eq_1 (And.intro @o_handsellaw00_Ring_6.eq_1 (And.intro @tc_handsellaw00_Ring.eq_1 @fn_handsellaw00_Ring.eq_1)))))))
theorem c_handsellaw00_Ring : fnIC Try.prog [(5,⟨[0,1,2,3,4,5,6,7,8],[0,1,0,4,12,28,63,127,255],[],[]⟩)] F_handsellaw00_Ring = some (30,tc_handsellaw00_Ring.erase,[.cellN 6 7]) := by kernel_rfl
def o_handsellaw00_arcs_0 : List TIns := [⟨⟨(some 6),.mov (.const (Go.Value.slice none 0 0)),none⟩,0⟩]
def o_handsellaw00_arcs_1 : List TIns := [⟨⟨(some 7),.mov (.const (Go.Value.slice none 0 0)),none⟩,0⟩]
def o_handsellaw00_arcs_2 : List TIns := [⟨⟨(some 8),.mov (ci 0),none⟩,0⟩]
def o_handsellaw00_arcs_3 : List TIns := [⟨⟨(some 12),.mov (t 8),none⟩,0⟩,
  ⟨⟨(some 13),.mov (t 0),none⟩,0⟩,
  ⟨⟨(some 14),.bin .lss (t 12) (t 13),none⟩,0⟩]
def o_handsellaw00_arcs_5 : List TIns := [⟨⟨(some 17),.mov (t 7),none⟩,0⟩,
  ⟨⟨(some 18),.mov (t 8),none⟩,0⟩,
  ⟨⟨(some 19),.mov (t 8),none⟩,0⟩,
  ⟨⟨(some 20),.bin .add (t 19) (ci 1),none⟩,0⟩,
  ⟨⟨(some 21),.mov (t 0),none⟩,0⟩,
  ⟨⟨(some 22),.bin .rem (t 20) (t 21),none⟩,0⟩,
  ⟨⟨(some 23),.build [(.int .i64 0),(.int .i64 0),(.int .i64 0),(.string ⟨#[]⟩),(.int .i64 0)] [(0,1,(t 18)),(1,1,(t 22))],none⟩,0⟩,
  ⟨⟨(some 24),.buildSl T_api_Arc 5 1 [(.int .i64 0),(.int .i64 0),(.int .i64 0),(.string ⟨#[]⟩),(.int .i64 0)] [(0,5,(t 23))],none⟩,0⟩,
  ⟨⟨(some 25),.append T_api_Arc 5 48 (t 17) (t 24),none⟩,1⟩,
  ⟨⟨(some 7),.mov (t 25),none⟩,0⟩]
def o_handsellaw00_arcs_4 : List TIns := [⟨⟨(some 15),.mov (t 8),none⟩,0⟩,
  ⟨⟨(some 16),.bin .add (t 15) (ci 1),none⟩,0⟩,
  ⟨⟨(some 8),.mov (t 16),none⟩,0⟩]
def l_handsellaw00_arcs_1 : TC := (.seq (.seq (.ops o_handsellaw00_arcs_3) (.clean [0,1,2,7,8,14] (.cond (t 14) .skip (.exit 0)))) (.clean [0,1,2,7,8] (.seq (.block 1 [0,1,2,7,8] (.ops o_handsellaw00_arcs_5)) (.clean [0,1,2,7,8] (.ops o_handsellaw00_arcs_4)))))
def o_handsellaw00_arcs_6 : List TIns := [⟨⟨(some 9),.mov (ci 0),none⟩,0⟩]
def o_handsellaw00_arcs_7 : List TIns := [⟨⟨(some 26),.mov (t 9),none⟩,0⟩,
  ⟨⟨(some 27),.mov (t 0),none⟩,0⟩,
  ⟨⟨(some 28),.bin .lss (t 26) (t 27),none⟩,0⟩]
def o_handsellaw00_arcs_9 : List TIns := [⟨⟨(some 10),.mov (ci 0),none⟩,0⟩]
def o_handsellaw00_arcs_10 : List TIns := [⟨⟨(some 31),.mov (t 10),none⟩,0⟩,
  ⟨⟨(some 32),.mov (t 0),none⟩,0⟩,
  ⟨⟨(some 33),.bin .lss (t 31) (t 32),none⟩,0⟩]
def o_handsellaw00_arcs_12 : List TIns := [⟨⟨(some 36),.mov (t 9),none⟩,0⟩,
  ⟨⟨(some 37),.mov (t 10),none⟩,0⟩,
  ⟨⟨(some 38),.bin .eql (t 36) (t 37),none⟩,0⟩,
  ⟨⟨(some 39),.mov (t 38),none⟩,0⟩,
  ⟨⟨(some 40),.mov (t 10),(some (39,false))⟩,0⟩,
  ⟨⟨(some 41),.mov (t 9),(some (39,false))⟩,0⟩,
  ⟨⟨(some 42),.bin .add (t 41) (ci 1),(some (39,false))⟩,0⟩,
  ⟨⟨(some 43),.mov (t 0),(some (39,false))⟩,0⟩,
  ⟨⟨(some 44),.bin .rem (t 42) (t 43),(some (39,false))⟩,0⟩,
  ⟨⟨(some 45),.bin .eql (t 40) (t 44),(some (39,false))⟩,0⟩,
  ⟨⟨(some 46),.pick (t 39) (.const (Go.Value.bool true)) (t 45),none⟩,0⟩]
def o_handsellaw00_arcs_13 : List TIns := [⟨⟨(some 47),.mov (t 1),none⟩,0⟩,
  ⟨⟨(some 48),.bin .rem (t 47) (ci 2),none⟩,0⟩,
  ⟨⟨(some 49),.bin .eql (t 48) (ci 1),none⟩,0⟩,
  ⟨⟨(some 50),.mov (t 49),none⟩,0⟩,
  ⟨⟨(some 51),.mov (t 7),(some (50,true))⟩,0⟩,
  ⟨⟨(some 52),.lenL (t 51),(some (50,true))⟩,0⟩,
  ⟨⟨(some 53),.bin .lss (t 52) (ci 8),(some (50,true))⟩,0⟩,
  ⟨⟨(some 54),.pick (t 50) (t 53) (.const (Go.Value.bool false)),none⟩,0⟩]
def o_handsellaw00_arcs_14 : List TIns := [⟨⟨(some 55),.mov (t 7),none⟩,0⟩,
  ⟨⟨(some 56),.mov (t 9),none⟩,0⟩,
  ⟨⟨(some 57),.mov (t 10),none⟩,0⟩,
  ⟨⟨(some 58),.build [(.int .i64 0),(.int .i64 0),(.int .i64 0),(.string ⟨#[]⟩),(.int .i64 0)] [(0,1,(t 56)),(1,1,(t 57))],none⟩,0⟩,
  ⟨⟨(some 59),.buildSl T_api_Arc 5 1 [(.int .i64 0),(.int .i64 0),(.int .i64 0),(.string ⟨#[]⟩),(.int .i64 0)] [(0,5,(t 58))],none⟩,0⟩,
  ⟨⟨(some 60),.append T_api_Arc 5 48 (t 55) (t 59),none⟩,1⟩,
  ⟨⟨(some 7),.mov (t 60),none⟩,0⟩]
def o_handsellaw00_arcs_15 : List TIns := [⟨⟨(some 61),.mov (t 1),none⟩,0⟩,
  ⟨⟨(some 62),.bin .quo (t 61) (ci 2),none⟩,0⟩,
  ⟨⟨(some 1),.mov (t 62),none⟩,0⟩]
def o_handsellaw00_arcs_11 : List TIns := [⟨⟨(some 34),.mov (t 10),none⟩,0⟩,
  ⟨⟨(some 35),.bin .add (t 34) (ci 1),none⟩,0⟩,
  ⟨⟨(some 10),.mov (t 35),none⟩,0⟩]
def l_handsellaw00_arcs_3 : TC := (.seq (.seq (.ops o_handsellaw00_arcs_10) (.clean [0,1,2,7,9,10,33] (.cond (t 33) .skip (.exit 4)))) (.clean [0,1,2,7,9,10] (.seq (.block 5 [0,1,2,7,9,10] (.seq (.seq (.ops o_handsellaw00_arcs_12) (.clean [0,1,2,7,9,10,46] (.cond (t 46) (.exit 5) .skip))) (.clean [0,1,2,7,9,10] (.seq (.seq (.ops o_handsellaw00_arcs_13) (.clean [0,1,2,7,9,10,54] (.cond (t 54) (.ops o_handsellaw00_arcs_14) .skip))) (.clean [0,1,2,7,9,10] (.ops o_handsellaw00_arcs_15)))))) (.clean [0,1,2,7,9,10] (.ops o_handsellaw00_arcs_11)))))
def o_handsellaw00_arcs_8 : List TIns := [⟨⟨(some 29),.mov (t 9),none⟩,0⟩,
  ⟨⟨(some 30),.bin .add (t 29) (ci 1),none⟩,0⟩,
  ⟨⟨(some 9),.mov (t 30),none⟩,0⟩]
def l_handsellaw00_arcs_2 : TC := (.seq (.seq (.ops o_handsellaw00_arcs_7) (.clean [0,1,2,7,9,28] (.cond (t 28) .skip (.exit 2)))) (.clean [0,1,2,7,9] (.seq (.block 3 [0,1,2,7,9] (.seq (.ops o_handsellaw00_arcs_9) (.block 4 [0,1,2,7,9] (.clean [0,1,2,7,9,10] (.loop [0,1,2,7,9,10] l_handsellaw00_arcs_3))))) (.clean [0,1,2,7,9] (.ops o_handsellaw00_arcs_8)))))
def o_handsellaw00_arcs_16 : List TIns := [⟨⟨(some 11),.mov (ci 0),none⟩,0⟩]
def o_handsellaw00_arcs_17 : List TIns := [⟨⟨(some 63),.mov (t 11),none⟩,0⟩,
  ⟨⟨(some 64),.mov (t 7),none⟩,0⟩,
  ⟨⟨(some 65),.lenL (t 64),none⟩,0⟩,
  ⟨⟨(some 66),.bin .lss (t 63) (t 65),none⟩,0⟩]
def o_handsellaw00_arcs_19 : List TIns := [⟨⟨(some 69),.mov (t 7),none⟩,0⟩,
  ⟨⟨(some 70),.mov (t 11),none⟩,0⟩,
  ⟨⟨(some 71),.mov (t 11),none⟩,0⟩,
  ⟨⟨(some 72),.mov (t 2),none⟩,0⟩,
  ⟨⟨(some 73),.bin .add (t 71) (t 72),none⟩,0⟩,
  ⟨⟨(some 74),.mov (t 2),none⟩,0⟩,
  ⟨⟨(some 75),.bin .rem (t 74) (ci 3),none⟩,0⟩,
  ⟨⟨(some 76),.bin .add (ci 1) (t 75),none⟩,0⟩,
  ⟨⟨(some 77),.bin .rem (t 73) (t 76),none⟩,0⟩,
  ⟨⟨(some 78),.indexSl 5 (t 69) (t 70),none⟩,0⟩,
  ⟨⟨(some 79),.fieldAddr 2 (t 78),none⟩,0⟩,
  ⟨⟨none,.store 1 (t 79) (t 77),none⟩,0⟩]
def o_handsellaw00_arcs_20 : List TIns := [⟨⟨(some 80),.mov (t 7),none⟩,0⟩,
  ⟨⟨(some 81),.mov (t 11),none⟩,0⟩,
  ⟨⟨(some 82),.build [(.string ⟨#[]⟩),(.string ⟨#[]⟩)] [(0,1,(.const (Go.Value.string ⟨#[103,111,108,100]⟩))),(1,1,(.const (Go.Value.string ⟨#[115,97,108,116]⟩)))],none⟩,0⟩,
  ⟨⟨(some 83),.mov (t 11),none⟩,0⟩,
  ⟨⟨(some 84),.mov (t 1),none⟩,0⟩,
  ⟨⟨(some 85),.bin .add (t 83) (t 84),none⟩,0⟩,
  ⟨⟨(some 86),.bin .rem (t 85) (ci 2),none⟩,0⟩,
  ⟨⟨(some 87),.indexAgg 2 (t 82) (t 86),none⟩,0⟩,
  ⟨⟨(some 88),.indexSl 5 (t 80) (t 81),none⟩,0⟩,
  ⟨⟨(some 89),.fieldAddr 3 (t 88),none⟩,0⟩,
  ⟨⟨none,.store 1 (t 89) (t 87),none⟩,0⟩]
def o_handsellaw00_arcs_21 : List TIns := [⟨⟨(some 90),.mov (t 7),none⟩,0⟩,
  ⟨⟨(some 91),.mov (t 11),none⟩,0⟩,
  ⟨⟨(some 92),.mov (t 11),none⟩,0⟩,
  ⟨⟨(some 93),.bin .mul (ci 7) (t 92),none⟩,0⟩,
  ⟨⟨(some 94),.mov (t 2),none⟩,0⟩,
  ⟨⟨(some 95),.bin .add (t 93) (t 94),none⟩,0⟩,
  ⟨⟨(some 96),.bin .rem (t 95) (ci 20),none⟩,0⟩,
  ⟨⟨(some 97),.bin .add (ci 1) (t 96),none⟩,0⟩,
  ⟨⟨(some 98),.indexSl 5 (t 90) (t 91),none⟩,0⟩,
  ⟨⟨(some 99),.fieldAddr 4 (t 98),none⟩,0⟩,
  ⟨⟨none,.store 1 (t 99) (t 97),none⟩,0⟩]
def o_handsellaw00_arcs_18 : List TIns := [⟨⟨(some 67),.mov (t 11),none⟩,0⟩,
  ⟨⟨(some 68),.bin .add (t 67) (ci 1),none⟩,0⟩,
  ⟨⟨(some 11),.mov (t 68),none⟩,0⟩]
def l_handsellaw00_arcs_4 : TC := (.seq (.seq (.ops o_handsellaw00_arcs_17) (.clean [1,2,7,11,66] (.cond (t 66) .skip (.exit 6)))) (.clean [1,2,7,11] (.seq (.block 7 [1,2,7,11] (.seq (.ops o_handsellaw00_arcs_19) (.clean [1,2,7,11] (.seq (.ops o_handsellaw00_arcs_20) (.clean [1,2,7,11] (.ops o_handsellaw00_arcs_21)))))) (.clean [1,2,7,11] (.ops o_handsellaw00_arcs_18)))))
def o_handsellaw00_arcs_22 : List TIns := [⟨⟨(some 100),.mov (t 7),none⟩,0⟩,
  ⟨⟨(some 6),.mov (t 100),none⟩,0⟩]
def tc_handsellaw00_arcs : TC := (.seq (.ops o_handsellaw00_arcs_0) (.clean [0,1,2] (.seq (.ops o_handsellaw00_arcs_1) (.clean [0,1,2,7] (.seq (.seq (.ops o_handsellaw00_arcs_2) (.block 0 [0,1,2,7] (.clean [0,1,2,7,8] (.loop [0,1,2,7,8] l_handsellaw00_arcs_1)))) (.clean [0,1,2,7] (.seq (.seq (.ops o_handsellaw00_arcs_6) (.block 2 [1,2,7] (.clean [0,1,2,7,9] (.loop [0,1,2,7,9] l_handsellaw00_arcs_2)))) (.clean [1,2,7] (.seq (.seq (.ops o_handsellaw00_arcs_16) (.block 6 [7] (.clean [1,2,7,11] (.loop [1,2,7,11] l_handsellaw00_arcs_4)))) (.clean [7] (.seq (.ops o_handsellaw00_arcs_22) (.ret [6]))))))))))))
def fn_handsellaw00_arcs : TFn := ⟨101,tc_handsellaw00_arcs,[.tmp 6],true⟩
theorem U_handsellaw00_arcs : type_of% (And.intro @o_handsellaw00_arcs_0.eq_1 (And.intro @o_handsellaw00_arcs_1.eq_1 (And.intro @o_handsellaw00_arcs_2.eq_1 (And.intro @o_handsellaw00_arcs_3.eq_1 (And.intro @o_handsellaw00_arcs_5.eq_1 (And.intro @o_handsellaw00_arcs_4.eq_1 (And.intro @o_handsellaw00_arcs_6.eq_1 (And.intro @o_handsellaw00_arcs_7.eq_1 (And.intro @o_handsellaw00_arcs_9.eq_1 (And.intro @o_handsellaw00_arcs_10.eq_1 (And.intro @o_handsellaw00_arcs_12.eq_1 (And.intro @o_handsellaw00_arcs_13.eq_1 (And.intro @o_handsellaw00_arcs_14.eq_1 (And.intro @o_handsellaw00_arcs_15.eq_1 (And.intro @o_handsellaw00_arcs_11.eq_1 (And.intro @o_handsellaw00_arcs_8.eq_1 (And.intro @o_handsellaw00_arcs_16.eq_1 (And.intro @o_handsellaw00_arcs_17.eq_1 (And.intro @o_handsellaw00_arcs_19.eq_1 (And.intro @o_handsellaw00_arcs_20.eq_1 (And.intro @o_handsellaw00_arcs_21.eq_1 (And.intro @o_handsellaw00_arcs_18.eq_1 (And.intro @o_handsellaw00_arcs_22.eq_1 (And.intro @tc_handsellaw00_arcs.eq_1 @fn_handsellaw00_arcs.eq_1)))))))))))))))))))))))) := And.intro @o_handsellaw00_arcs_0.eq_1 (And.intro @o_handsellaw00_arcs_1.eq_1 (And.intro @o_handsellaw00_arcs_2.eq_1 (And.intro @o_handsellaw00_arcs_3.eq_1 (And.intro @o_handsellaw00_arcs_5.eq_1 (And.intro @o_handsellaw00_arcs_4.eq_1 (And.intro @o_handsellaw00_arcs_6.eq_1 (And.intro @o_handsellaw00_arcs_7.eq_1 (And.intro @o_handsellaw00_arcs_9.eq_1 (And.intro @o_handsellaw00_arcs_10.eq_1 (And.intro @o_handsellaw00_arcs_12.eq_1 (And.intro @o_handsellaw00_arcs_13.eq_1 (And.intro @o_handsellaw00_arcs_14.eq_1 (And.intro @o_handsellaw00_arcs_15.eq_1 (And.intro @o_handsellaw00_arcs_11.eq_1 (And.intro @o_handsellaw00_arcs_8.eq_1 (And.intro @o_handsellaw00_arcs_16.eq_1 (And.intro @o_handsellaw00_arcs_17.eq_1 (And.intro @o_handsellaw00_arcs_19.eq_1 (And.intro @o_handsellaw00_arcs_20.eq_1 (And.intro @o_handsellaw00_arcs_21.eq_1 (And.intro @o_handsellaw00_arcs_18.eq_1 (And.intro @o_handsellaw00_arcs_22.eq_1 (And.intro @tc_handsellaw00_arcs.eq_1 @fn_handsellaw00_arcs.eq_1)))))))))))))))))))))))
theorem c_handsellaw00_arcs : fnIC Try.prog [] F_handsellaw00_arcs = some (101,tc_handsellaw00_arcs.erase,[.tmp 6]) := by kernel_rfl
def o_handsellaw00_Account_0 : List TIns := [⟨⟨(some 2),.mov (.const (Go.Value.string ⟨#[]⟩)),none⟩,0⟩]
def o_handsellaw00_Account_1 : List TIns := [⟨⟨(some 3),.mov (t 0),none⟩,0⟩,
  ⟨⟨(some 4),.call F_handsellaw00_Digits [(t 3)],none⟩,0⟩,
  ⟨⟨(some 5),.bin .add (.const (Go.Value.string ⟨#[112,97,114,116,121]⟩)) (t 4),none⟩,0⟩,
  ⟨⟨(some 2),.mov (t 5),none⟩,0⟩]
def tc_handsellaw00_Account : TC := (.seq (.ops o_handsellaw00_Account_0) (.clean [0] (.seq (.ops o_handsellaw00_Account_1) (.ret [2]))))
def fn_handsellaw00_Account : TFn := ⟨6,tc_handsellaw00_Account,[.tmp 2],false⟩
theorem U_handsellaw00_Account : type_of% (And.intro @o_handsellaw00_Account_0.eq_1 (And.intro @o_handsellaw00_Account_1.eq_1 (And.intro @tc_handsellaw00_Account.eq_1 @fn_handsellaw00_Account.eq_1))) := And.intro @o_handsellaw00_Account_0.eq_1 (And.intro @o_handsellaw00_Account_1.eq_1 (And.intro @tc_handsellaw00_Account.eq_1 @fn_handsellaw00_Account.eq_1))
theorem c_handsellaw00_Account : fnIC Try.prog [] F_handsellaw00_Account = some (6,tc_handsellaw00_Account.erase,[.tmp 2]) := by kernel_rfl
def o_handsellaw00_Digits_0 : List TIns := [⟨⟨(some 2),.mov (.const (Go.Value.string ⟨#[]⟩)),none⟩,0⟩]
def o_handsellaw00_Digits_1 : List TIns := [⟨⟨(some 5),.mov (t 0),none⟩,0⟩,
  ⟨⟨(some 6),.bin .leq (t 5) (ci (-10)),none⟩,0⟩,
  ⟨⟨(some 4),.mov (t 6),none⟩,0⟩]
def o_handsellaw00_Digits_2 : List TIns := [⟨⟨(some 7),.mov (t 0),none⟩,0⟩,
  ⟨⟨(some 8),.bin .rem (t 7) (ci 10),none⟩,0⟩,
  ⟨⟨(some 9),.un .neg (t 8),none⟩,0⟩,
  ⟨⟨(some 3),.mov (t 9),none⟩,0⟩]
def o_handsellaw00_Digits_3 : List TIns := [⟨⟨(some 10),.mov (t 0),none⟩,0⟩,
  ⟨⟨(some 11),.bin .quo (t 10) (ci 10),none⟩,0⟩,
  ⟨⟨(some 13),.mov (t 3),none⟩,0⟩,
  ⟨⟨(some 14),.mov (t 3),none⟩,0⟩,
  ⟨⟨(some 15),.bin .add (t 14) (ci 1),none⟩,0⟩,
  ⟨⟨(some 16),.sliceStr (.const (Go.Value.string ⟨#[48,49,50,51,52,53,54,55,56,57]⟩)) (some (t 13)) (some (t 15)),none⟩,0⟩,
  ⟨⟨(some 12),.call F_handsellaw00_Digits [(t 11)],none⟩,0⟩,
  ⟨⟨(some 17),.bin .add (t 12) (t 16),none⟩,0⟩,
  ⟨⟨(some 2),.mov (t 17),none⟩,0⟩]
def o_handsellaw00_Digits_4 : List TIns := [⟨⟨(some 19),.mov (t 0),none⟩,0⟩,
  ⟨⟨(some 20),.bin .lss (t 19) (ci 0),none⟩,0⟩,
  ⟨⟨(some 18),.mov (t 20),none⟩,0⟩]
def o_handsellaw00_Digits_5 : List TIns := [⟨⟨(some 21),.mov (t 0),none⟩,0⟩,
  ⟨⟨(some 22),.un .neg (t 21),none⟩,0⟩,
  ⟨⟨(some 23),.mov (t 0),none⟩,0⟩,
  ⟨⟨(some 24),.un .neg (t 23),none⟩,0⟩,
  ⟨⟨(some 25),.bin .add (t 24) (ci 1),none⟩,0⟩,
  ⟨⟨(some 26),.sliceStr (.const (Go.Value.string ⟨#[48,49,50,51,52,53,54,55,56,57]⟩)) (some (t 22)) (some (t 25)),none⟩,0⟩,
  ⟨⟨(some 27),.bin .add (.const (Go.Value.string ⟨#[45]⟩)) (t 26),none⟩,0⟩,
  ⟨⟨(some 2),.mov (t 27),none⟩,0⟩]
def o_handsellaw00_Digits_6 : List TIns := [⟨⟨(some 29),.mov (t 0),none⟩,0⟩,
  ⟨⟨(some 30),.bin .lss (t 29) (ci 10),none⟩,0⟩,
  ⟨⟨(some 28),.mov (t 30),none⟩,0⟩]
def o_handsellaw00_Digits_7 : List TIns := [⟨⟨(some 31),.mov (t 0),none⟩,0⟩,
  ⟨⟨(some 32),.mov (t 0),none⟩,0⟩,
  ⟨⟨(some 33),.bin .add (t 32) (ci 1),none⟩,0⟩,
  ⟨⟨(some 34),.sliceStr (.const (Go.Value.string ⟨#[48,49,50,51,52,53,54,55,56,57]⟩)) (some (t 31)) (some (t 33)),none⟩,0⟩,
  ⟨⟨(some 2),.mov (t 34),none⟩,0⟩]
def o_handsellaw00_Digits_8 : List TIns := [⟨⟨(some 35),.mov (t 0),none⟩,0⟩,
  ⟨⟨(some 36),.bin .quo (t 35) (ci 10),none⟩,0⟩,
  ⟨⟨(some 38),.mov (t 0),none⟩,0⟩,
  ⟨⟨(some 39),.bin .rem (t 38) (ci 10),none⟩,0⟩,
  ⟨⟨(some 40),.mov (t 0),none⟩,0⟩,
  ⟨⟨(some 41),.bin .rem (t 40) (ci 10),none⟩,0⟩,
  ⟨⟨(some 42),.bin .add (t 41) (ci 1),none⟩,0⟩,
  ⟨⟨(some 43),.sliceStr (.const (Go.Value.string ⟨#[48,49,50,51,52,53,54,55,56,57]⟩)) (some (t 39)) (some (t 42)),none⟩,0⟩,
  ⟨⟨(some 37),.call F_handsellaw00_Digits [(t 36)],none⟩,0⟩,
  ⟨⟨(some 44),.bin .add (t 37) (t 43),none⟩,0⟩,
  ⟨⟨(some 2),.mov (t 44),none⟩,0⟩]
def tc_handsellaw00_Digits : TC := (.seq (.ops o_handsellaw00_Digits_0) (.clean [0] (.seq (.block 0 [0] (.seq (.ops o_handsellaw00_Digits_1) (.clean [0,4] (.cond (t 4) (.seq (.ops o_handsellaw00_Digits_2) (.clean [0,3] (.seq (.draw (pl o_handsellaw00_Digits_3)) (.ret [2])))) (.seq (.ops o_handsellaw00_Digits_4) (.clean [0,18] (.cond (t 18) (.seq (.ops o_handsellaw00_Digits_5) (.ret [2])) (.seq (.ops o_handsellaw00_Digits_6) (.clean [0,28] (.cond (t 28) (.seq (.ops o_handsellaw00_Digits_7) (.ret [2])) .skip)))))))))) (.clean [0] (.seq (.draw (pl o_handsellaw00_Digits_8)) (.ret [2]))))))
def fn_handsellaw00_Digits : TFn := ⟨45,tc_handsellaw00_Digits,[.tmp 2],false⟩
theorem U_handsellaw00_Digits : type_of% (And.intro @o_handsellaw00_Digits_0.eq_1 (And.intro @o_handsellaw00_Digits_1.eq_1 (And.intro @o_handsellaw00_Digits_2.eq_1 (And.intro @o_handsellaw00_Digits_3.eq_1 (And.intro @o_handsellaw00_Digits_4.eq_1 (And.intro @o_handsellaw00_Digits_5.eq_1 (And.intro @o_handsellaw00_Digits_6.eq_1 (And.intro @o_handsellaw00_Digits_7.eq_1 (And.intro @o_handsellaw00_Digits_8.eq_1 (And.intro @tc_handsellaw00_Digits.eq_1 @fn_handsellaw00_Digits.eq_1)))))))))) := And.intro @o_handsellaw00_Digits_0.eq_1 (And.intro @o_handsellaw00_Digits_1.eq_1 (And.intro @o_handsellaw00_Digits_2.eq_1 (And.intro @o_handsellaw00_Digits_3.eq_1 (And.intro @o_handsellaw00_Digits_4.eq_1 (And.intro @o_handsellaw00_Digits_5.eq_1 (And.intro @o_handsellaw00_Digits_6.eq_1 (And.intro @o_handsellaw00_Digits_7.eq_1 (And.intro @o_handsellaw00_Digits_8.eq_1 (And.intro @tc_handsellaw00_Digits.eq_1 @fn_handsellaw00_Digits.eq_1)))))))))
theorem c_handsellaw00_Digits : fnIC Try.prog [(3,⟨[0,1,3,4,5,6,2,7,8],[0,1,3,0,0,16,56,127,255],[],[]⟩),(8,⟨[0,1,3,4,5,6,7,8,2,9,10],[0,1,3,0,8,0,32,96,248,511,1023],[],[]⟩)] F_handsellaw00_Digits = some (45,tc_handsellaw00_Digits.erase,[.tmp 2]) := by kernel_rfl
def o_handsellaw00_keyed_0 : List TIns := [⟨⟨(some 1),.box T_api_Spec 7 (t 0),none⟩,0⟩,
  ⟨⟨(some 2),.box T_api_Spec 7 (.const (.agg #[(.string ⟨#[]⟩),(.slice none 0 0),(.slice none 0 0),(.slice none 0 0),(.slice none 0 0),(.int .i64 0),(.int .i64 0)])),none⟩,0⟩]
def o_handsellaw00_keyed_1 : List TIns := [⟨⟨(some 6),.fieldAddr 4 (t 1),none⟩,0⟩,
  ⟨⟨none,.store 1 (t 6) (.const (Go.Value.slice none 0 0)),none⟩,0⟩]
def o_handsellaw00_keyed_2 : List TIns := [⟨⟨(some 3),.mov (ci 0),none⟩,0⟩]
def o_handsellaw00_keyed_3 : List TIns := [⟨⟨(some 7),.mov (t 3),none⟩,0⟩,
  ⟨⟨(some 8),.fieldAddr 3 (t 1),none⟩,0⟩,
  ⟨⟨(some 9),.load1 (t 8),none⟩,0⟩,
  ⟨⟨(some 10),.lenL (t 9),none⟩,0⟩,
  ⟨⟨(some 11),.bin .lss (t 7) (t 10),none⟩,0⟩]
def o_handsellaw00_keyed_5 : List TIns := [⟨⟨(some 14),.fieldAddr 4 (t 1),none⟩,0⟩,
  ⟨⟨(some 15),.load1 (t 14),none⟩,2⟩,
  ⟨⟨(some 16),.mov (t 3),none⟩,0⟩,
  ⟨⟨(some 17),.call F_handsellaw00_Secret [(t 16)],none⟩,0⟩,
  ⟨⟨(some 18),.call F_handselref01_Sum [(t 17)],none⟩,0⟩,
  ⟨⟨(some 19),.buildSl T_string 1 1 [(.string ⟨#[]⟩)] [(0,1,(t 18))],none⟩,0⟩,
  ⟨⟨(some 20),.append T_string 1 16 (t 15) (t 19),none⟩,0⟩,
  ⟨⟨(some 21),.fieldAddr 4 (t 1),none⟩,0⟩,
  ⟨⟨none,.store 1 (t 21) (t 20),none⟩,2⟩]
def o_handsellaw00_keyed_4 : List TIns := [⟨⟨(some 12),.mov (t 3),none⟩,0⟩,
  ⟨⟨(some 13),.bin .add (t 12) (ci 1),none⟩,0⟩,
  ⟨⟨(some 3),.mov (t 13),none⟩,0⟩]
def l_handsellaw00_keyed_1 : TC := (.seq (.seq (.ops o_handsellaw00_keyed_3) (.clean [1,2,3,11] (.cond (t 11) .skip (.exit 0)))) (.clean [1,2,3] (.seq (.block 1 [1,2,3] (.draw (pl o_handsellaw00_keyed_5))) (.clean [1,2,3] (.ops o_handsellaw00_keyed_4)))))
def o_handsellaw00_keyed_6 : List TIns := [⟨⟨(some 4),.mov (ci 0),none⟩,0⟩]
def o_handsellaw00_keyed_7 : List TIns := [⟨⟨(some 22),.mov (t 4),none⟩,0⟩,
  ⟨⟨(some 23),.fieldAddr 1 (t 1),none⟩,0⟩,
  ⟨⟨(some 24),.load1 (t 23),none⟩,0⟩,
  ⟨⟨(some 25),.lenL (t 24),none⟩,0⟩,
  ⟨⟨(some 26),.bin .lss (t 22) (t 25),none⟩,0⟩]
def o_handsellaw00_keyed_9 : List TIns := [⟨⟨(some 29),.fieldAddr 1 (t 1),none⟩,0⟩,
  ⟨⟨(some 30),.load1 (t 29),none⟩,0⟩,
  ⟨⟨(some 31),.mov (t 4),none⟩,0⟩,
  ⟨⟨(some 32),.indexSl 2 (t 30) (t 31),none⟩,0⟩,
  ⟨⟨(some 33),.fieldAddr 1 (t 32),none⟩,0⟩,
  ⟨⟨none,.store 1 (t 33) (.const (Go.Value.slice none 0 0)),none⟩,0⟩]
def o_handsellaw00_keyed_10 : List TIns := [⟨⟨(some 5),.mov (ci 0),none⟩,0⟩]
def o_handsellaw00_keyed_11 : List TIns := [⟨⟨(some 34),.mov (t 5),none⟩,0⟩,
  ⟨⟨(some 35),.fieldAddr 3 (t 1),none⟩,0⟩,
  ⟨⟨(some 36),.load1 (t 35),none⟩,0⟩,
  ⟨⟨(some 37),.lenL (t 36),none⟩,0⟩,
  ⟨⟨(some 38),.bin .lss (t 34) (t 37),none⟩,0⟩]
def o_handsellaw00_keyed_13 : List (TIns × List Nat) := [(⟨⟨(some 41),.fieldAddr 1 (t 1),none⟩,0⟩,[]),
  (⟨⟨(some 42),.load1 (t 41),none⟩,0⟩,[]),
  (⟨⟨(some 43),.mov (t 4),none⟩,0⟩,[]),
  (⟨⟨(some 44),.fieldAddr 1 (t 1),none⟩,0⟩,[]),
  (⟨⟨(some 45),.load1 (t 44),none⟩,0⟩,[]),
  (⟨⟨(some 46),.mov (t 4),none⟩,0⟩,[]),
  (⟨⟨(some 47),.indexSl 2 (t 45) (t 46),none⟩,0⟩,[]),
  (⟨⟨(some 48),.fieldAddr 1 (t 47),none⟩,0⟩,[]),
  (⟨⟨(some 49),.load1 (t 48),none⟩,2⟩,[]),
  (⟨⟨(some 50),.mov (t 4),none⟩,0⟩,[]),
  (⟨⟨(some 52),.mov (t 5),none⟩,0⟩,[]),
  (⟨⟨(some 51),.call F_handsellaw00_Seed [(t 50)],none⟩,0⟩,[]),
  (⟨⟨(some 53),.call F_handselref02_Public [(t 51),(t 52)],none⟩,0⟩,[]),
  (⟨⟨(some 54),.buildSl T_string 1 1 [(.string ⟨#[]⟩)] [(0,1,(t 53))],none⟩,0⟩,[]),
  (⟨⟨(some 55),.append T_string 1 16 (t 49) (t 54),none⟩,0⟩,[1]),
  (⟨⟨(some 56),.indexSl 2 (t 42) (t 43),none⟩,0⟩,[]),
  (⟨⟨(some 57),.fieldAddr 1 (t 56),none⟩,0⟩,[]),
  (⟨⟨none,.store 1 (t 57) (t 55),none⟩,2⟩,[])]
def o_handsellaw00_keyed_12 : List TIns := [⟨⟨(some 39),.mov (t 5),none⟩,0⟩,
  ⟨⟨(some 40),.bin .add (t 39) (ci 1),none⟩,0⟩,
  ⟨⟨(some 5),.mov (t 40),none⟩,0⟩]
def l_handsellaw00_keyed_3 : TC := (.seq (.seq (.ops o_handsellaw00_keyed_11) (.clean [1,2,4,5,38] (.cond (t 38) .skip (.exit 4)))) (.clean [1,2,4,5] (.seq (.block 5 [1,2,4,5] (.draw o_handsellaw00_keyed_13)) (.clean [1,2,4,5] (.ops o_handsellaw00_keyed_12)))))
def o_handsellaw00_keyed_8 : List TIns := [⟨⟨(some 27),.mov (t 4),none⟩,0⟩,
  ⟨⟨(some 28),.bin .add (t 27) (ci 1),none⟩,0⟩,
  ⟨⟨(some 4),.mov (t 28),none⟩,0⟩]
def l_handsellaw00_keyed_2 : TC := (.seq (.seq (.ops o_handsellaw00_keyed_7) (.clean [1,2,4,26] (.cond (t 26) .skip (.exit 2)))) (.clean [1,2,4] (.seq (.block 3 [1,2,4] (.seq (.ops o_handsellaw00_keyed_9) (.clean [1,2,4] (.seq (.ops o_handsellaw00_keyed_10) (.block 4 [1,2,4] (.clean [1,2,4,5] (.loop [1,2,4,5] l_handsellaw00_keyed_3))))))) (.clean [1,2,4] (.ops o_handsellaw00_keyed_8)))))
def o_handsellaw00_keyed_14 : List TIns := [⟨⟨(some 58),.loadN 7 (t 1),none⟩,0⟩,
  ⟨⟨none,.store 7 (t 2) (t 58),none⟩,0⟩]
def tc_handsellaw00_keyed : TC := (.seq (.ops o_handsellaw00_keyed_0) (.clean [1,2] (.seq (.ops o_handsellaw00_keyed_1) (.clean [1,2] (.seq (.seq (.ops o_handsellaw00_keyed_2) (.block 0 [1,2] (.clean [1,2,3] (.loop [1,2,3] l_handsellaw00_keyed_1)))) (.clean [1,2] (.seq (.seq (.ops o_handsellaw00_keyed_6) (.block 2 [1,2] (.clean [1,2,4] (.loop [1,2,4] l_handsellaw00_keyed_2)))) (.clean [1,2] (.seq (.ops o_handsellaw00_keyed_14) (.ret [2]))))))))))
def fn_handsellaw00_keyed : TFn := ⟨59,tc_handsellaw00_keyed,[.cellN 2 7],false⟩
theorem U_handsellaw00_keyed : type_of% (And.intro @o_handsellaw00_keyed_0.eq_1 (And.intro @o_handsellaw00_keyed_1.eq_1 (And.intro @o_handsellaw00_keyed_2.eq_1 (And.intro @o_handsellaw00_keyed_3.eq_1 (And.intro @o_handsellaw00_keyed_5.eq_1 (And.intro @o_handsellaw00_keyed_4.eq_1 (And.intro @o_handsellaw00_keyed_6.eq_1 (And.intro @o_handsellaw00_keyed_7.eq_1 (And.intro @o_handsellaw00_keyed_9.eq_1 (And.intro @o_handsellaw00_keyed_10.eq_1 (And.intro @o_handsellaw00_keyed_11.eq_1 (And.intro @o_handsellaw00_keyed_13.eq_1 (And.intro @o_handsellaw00_keyed_12.eq_1 (And.intro @o_handsellaw00_keyed_8.eq_1 (And.intro @o_handsellaw00_keyed_14.eq_1 (And.intro @tc_handsellaw00_keyed.eq_1 @fn_handsellaw00_keyed.eq_1)))))))))))))))) := And.intro @o_handsellaw00_keyed_0.eq_1 (And.intro @o_handsellaw00_keyed_1.eq_1 (And.intro @o_handsellaw00_keyed_2.eq_1 (And.intro @o_handsellaw00_keyed_3.eq_1 (And.intro @o_handsellaw00_keyed_5.eq_1 (And.intro @o_handsellaw00_keyed_4.eq_1 (And.intro @o_handsellaw00_keyed_6.eq_1 (And.intro @o_handsellaw00_keyed_7.eq_1 (And.intro @o_handsellaw00_keyed_9.eq_1 (And.intro @o_handsellaw00_keyed_10.eq_1 (And.intro @o_handsellaw00_keyed_11.eq_1 (And.intro @o_handsellaw00_keyed_13.eq_1 (And.intro @o_handsellaw00_keyed_12.eq_1 (And.intro @o_handsellaw00_keyed_8.eq_1 (And.intro @o_handsellaw00_keyed_14.eq_1 (And.intro @tc_handsellaw00_keyed.eq_1 @fn_handsellaw00_keyed.eq_1)))))))))))))))
theorem c_handsellaw00_keyed : fnIC Try.prog [(5,⟨[0,1,2,3,4,5,6,7,8],[0,1,0,4,12,28,63,127,255],[],[]⟩),(13,⟨[0,1,2,3,4,5,6,7,8,9,11,10,12,13,14,15,16,17],[0,1,0,0,8,0,56,120,248,0,512,0,3584,7680,16376,32767,65535,131071],[],[(14,[1])]⟩)] F_handsellaw00_keyed = some (59,tc_handsellaw00_keyed.erase,[.cellN 2 7]) := by kernel_rfl
def o_handselref01_Sum_0 : List TIns := [⟨⟨(some 2),.mov (.const (Go.Value.string ⟨#[]⟩)),none⟩,0⟩]
def o_handselref01_Sum_1 : List TIns := [⟨⟨(some 11),.mov (t 0),none⟩,0⟩,
  ⟨⟨(some 12),.toBytes T_uint8 (t 11),none⟩,2⟩,
  ⟨⟨(some 13),.buildSl T_uint8 1 1 [(.int .u8 0)] [(0,1,(.const (Go.Value.int Go.IntKind.u8 128)))],none⟩,0⟩,
  ⟨⟨(some 14),.append T_uint8 1 1 (t 12) (t 13),none⟩,0⟩,
  ⟨⟨(some 3),.mov (t 14),none⟩,0⟩]
def o_handselref01_Sum_2 : List TIns := [⟨⟨(some 15),.mov (t 3),none⟩,0⟩,
  ⟨⟨(some 16),.lenL (t 15),none⟩,0⟩,
  ⟨⟨(some 17),.bin .rem (t 16) (ci 64),none⟩,0⟩,
  ⟨⟨(some 18),.bin .neq (t 17) (ci 56),none⟩,0⟩]
def o_handselref01_Sum_3 : List TIns := [⟨⟨(some 19),.mov (t 3),none⟩,0⟩,
  ⟨⟨(some 20),.buildSl T_uint8 1 1 [(.int .u8 0)] [(0,1,(.const (Go.Value.int Go.IntKind.u8 0)))],none⟩,0⟩,
  ⟨⟨(some 21),.append T_uint8 1 1 (t 19) (t 20),none⟩,0⟩,
  ⟨⟨(some 3),.mov (t 21),none⟩,0⟩]
def l_handselref01_Sum_1 : TC := (.seq (.seq (.ops o_handselref01_Sum_2) (.clean [0,3,18] (.cond (t 18) .skip (.exit 0)))) (.block 1 [0,3] (.ops o_handselref01_Sum_3)))
def o_handselref01_Sum_4 : List TIns := [⟨⟨(some 22),.mov (t 0),none⟩,0⟩,
  ⟨⟨(some 23),.lenS (t 22),none⟩,0⟩,
  ⟨⟨(some 24),.conv .u64 (t 23),none⟩,0⟩,
  ⟨⟨(some 25),.bin .mul (t 24) (.const (Go.Value.int Go.IntKind.u64 8)),none⟩,0⟩,
  ⟨⟨(some 4),.mov (t 25),none⟩,0⟩]
def o_handselref01_Sum_5 : List TIns := [⟨⟨(some 5),.mov (ci 0),none⟩,0⟩]
def o_handselref01_Sum_6 : List TIns := [⟨⟨(some 26),.mov (t 5),none⟩,0⟩,
  ⟨⟨(some 27),.bin .lss (t 26) (ci 8),none⟩,0⟩]
def o_handselref01_Sum_8 : List TIns := [⟨⟨(some 30),.mov (t 3),none⟩,0⟩,
  ⟨⟨(some 31),.mov (t 4),none⟩,0⟩,
  ⟨⟨(some 32),.mov (t 5),none⟩,0⟩,
  ⟨⟨(some 33),.bin .mul (ci 8) (t 32),none⟩,0⟩,
  ⟨⟨(some 34),.bin .sub (ci 56) (t 33),none⟩,0⟩,
  ⟨⟨(some 35),.conv .u64 (t 34),none⟩,0⟩,
  ⟨⟨(some 36),.bin .shr (t 31) (t 35),none⟩,0⟩,
  ⟨⟨(some 37),.conv .u8 (t 36),none⟩,0⟩,
  ⟨⟨(some 38),.buildSl T_uint8 1 1 [(.int .u8 0)] [(0,1,(t 37))],none⟩,0⟩,
  ⟨⟨(some 39),.append T_uint8 1 1 (t 30) (t 38),none⟩,0⟩,
  ⟨⟨(some 3),.mov (t 39),none⟩,0⟩]
def o_handselref01_Sum_7 : List TIns := [⟨⟨(some 28),.mov (t 5),none⟩,0⟩,
  ⟨⟨(some 29),.bin .add (t 28) (ci 1),none⟩,0⟩,
  ⟨⟨(some 5),.mov (t 29),none⟩,0⟩]
def l_handselref01_Sum_2 : TC := (.seq (.seq (.ops o_handselref01_Sum_6) (.clean [3,4,5,27] (.cond (t 27) .skip (.exit 2)))) (.clean [3,4,5] (.seq (.block 3 [3,4,5] (.ops o_handselref01_Sum_8)) (.clean [3,4,5] (.ops o_handselref01_Sum_7)))))
def o_handselref01_Sum_9 : List TIns := [⟨⟨(some 40),.mov (t 3),none⟩,0⟩,
  ⟨⟨(some 41),.toStr (t 40),none⟩,0⟩,
  ⟨⟨(some 6),.mov (t 41),none⟩,0⟩]
def o_handselref01_Sum_10 : List TIns := [⟨⟨(some 42),.build [(.int .u32 0),(.int .u32 0),(.int .u32 0),(.int .u32 0),(.int .u32 0),(.int .u32 0),(.int .u32 0),(.int .u32 0)] [(0,1,(.const (Go.Value.int Go.IntKind.u32 1779033703))),(1,1,(.const (Go.Value.int Go.IntKind.u32 3144134277))),(2,1,(.const (Go.Value.int Go.IntKind.u32 1013904242))),(3,1,(.const (Go.Value.int Go.IntKind.u32 2773480762))),(4,1,(.const (Go.Value.int Go.IntKind.u32 1359893119))),(5,1,(.const (Go.Value.int Go.IntKind.u32 2600822924))),(6,1,(.const (Go.Value.int Go.IntKind.u32 528734635))),(7,1,(.const (Go.Value.int Go.IntKind.u32 1541459225)))],none⟩,0⟩,
  ⟨⟨(some 7),.box T_8_uint32 8 (.const (.agg #[(.int .u32 0),(.int .u32 0),(.int .u32 0),(.int .u32 0),(.int .u32 0),(.int .u32 0),(.int .u32 0),(.int .u32 0)])),none⟩,0⟩,
  ⟨⟨none,.store 8 (t 7) (t 42),none⟩,0⟩]
def o_handselref01_Sum_11 : List TIns := [⟨⟨(some 8),.mov (ci 0),none⟩,0⟩]
def o_handselref01_Sum_12 : List TIns := [⟨⟨(some 43),.mov (t 8),none⟩,0⟩,
  ⟨⟨(some 44),.mov (t 6),none⟩,0⟩,
  ⟨⟨(some 45),.lenS (t 44),none⟩,0⟩,
  ⟨⟨(some 46),.bin .lss (t 43) (t 45),none⟩,0⟩]
def o_handselref01_Sum_14 : List TIns := [⟨⟨(some 49),.loadN 8 (t 7),none⟩,0⟩,
  ⟨⟨(some 50),.mov (t 6),none⟩,0⟩,
  ⟨⟨(some 51),.mov (t 8),none⟩,0⟩,
  ⟨⟨(some 52),.mov (t 8),none⟩,0⟩,
  ⟨⟨(some 53),.bin .add (t 52) (ci 64),none⟩,0⟩,
  ⟨⟨(some 54),.sliceStr (t 50) (some (t 51)) (some (t 53)),none⟩,0⟩,
  ⟨⟨(some 55),.call F_handselref01_block [(t 49),(t 54)],none⟩,0⟩,
  ⟨⟨none,.store 8 (t 7) (t 55),none⟩,0⟩]
def o_handselref01_Sum_13 : List TIns := [⟨⟨(some 47),.mov (t 8),none⟩,0⟩,
  ⟨⟨(some 48),.bin .add (t 47) (ci 64),none⟩,0⟩,
  ⟨⟨(some 8),.mov (t 48),none⟩,0⟩]
def l_handselref01_Sum_3 : TC := (.seq (.seq (.ops o_handselref01_Sum_12) (.clean [6,7,8,46] (.cond (t 46) .skip (.exit 4)))) (.clean [6,7,8] (.seq (.block 5 [6,7,8] (.draw (pl o_handselref01_Sum_14))) (.clean [6,7,8] (.ops o_handselref01_Sum_13)))))
def o_handselref01_Sum_15 : List TIns := [⟨⟨(some 9),.mov (.const (Go.Value.slice none 0 0)),none⟩,1⟩]
def o_handselref01_Sum_16 : List TIns := [⟨⟨(some 10),.mov (ci 0),none⟩,0⟩]
def o_handselref01_Sum_17 : List TIns := [⟨⟨(some 56),.mov (t 10),none⟩,0⟩,
  ⟨⟨(some 57),.bin .lss (t 56) (ci 8),none⟩,0⟩]
def o_handselref01_Sum_19 : List TIns := [⟨⟨(some 60),.mov (t 9),none⟩,0⟩,
  ⟨⟨(some 61),.mov (t 10),none⟩,0⟩,
  ⟨⟨(some 62),.indexPtr 8 1 (t 7) (t 61),none⟩,0⟩,
  ⟨⟨(some 63),.load1 (t 62),none⟩,0⟩,
  ⟨⟨(some 64),.bin .shr (t 63) (.const (Go.Value.int Go.IntKind.u64 24)),none⟩,0⟩,
  ⟨⟨(some 65),.conv .u8 (t 64),none⟩,0⟩,
  ⟨⟨(some 66),.mov (t 10),none⟩,0⟩,
  ⟨⟨(some 67),.indexPtr 8 1 (t 7) (t 66),none⟩,0⟩,
  ⟨⟨(some 68),.load1 (t 67),none⟩,0⟩,
  ⟨⟨(some 69),.bin .shr (t 68) (.const (Go.Value.int Go.IntKind.u64 16)),none⟩,0⟩,
  ⟨⟨(some 70),.conv .u8 (t 69),none⟩,0⟩,
  ⟨⟨(some 71),.mov (t 10),none⟩,0⟩,
  ⟨⟨(some 72),.indexPtr 8 1 (t 7) (t 71),none⟩,0⟩,
  ⟨⟨(some 73),.load1 (t 72),none⟩,0⟩,
  ⟨⟨(some 74),.bin .shr (t 73) (.const (Go.Value.int Go.IntKind.u64 8)),none⟩,0⟩,
  ⟨⟨(some 75),.conv .u8 (t 74),none⟩,0⟩,
  ⟨⟨(some 76),.mov (t 10),none⟩,0⟩,
  ⟨⟨(some 77),.indexPtr 8 1 (t 7) (t 76),none⟩,0⟩,
  ⟨⟨(some 78),.load1 (t 77),none⟩,0⟩,
  ⟨⟨(some 79),.conv .u8 (t 78),none⟩,0⟩,
  ⟨⟨(some 80),.buildSl T_uint8 1 4 [(.int .u8 0),(.int .u8 0),(.int .u8 0),(.int .u8 0)] [(0,1,(t 65)),(1,1,(t 70)),(2,1,(t 75)),(3,1,(t 79))],none⟩,0⟩,
  ⟨⟨(some 81),.append T_uint8 1 1 (t 60) (t 80),none⟩,0⟩,
  ⟨⟨(some 9),.mov (t 81),none⟩,0⟩]
def o_handselref01_Sum_18 : List TIns := [⟨⟨(some 58),.mov (t 10),none⟩,0⟩,
  ⟨⟨(some 59),.bin .add (t 58) (ci 1),none⟩,0⟩,
  ⟨⟨(some 10),.mov (t 59),none⟩,0⟩]
def l_handselref01_Sum_4 : TC := (.seq (.seq (.ops o_handselref01_Sum_17) (.clean [7,9,10,57] (.cond (t 57) .skip (.exit 6)))) (.clean [7,9,10] (.seq (.block 7 [7,9,10] (.draw (pl o_handselref01_Sum_19))) (.clean [7,9,10] (.ops o_handselref01_Sum_18)))))
def o_handselref01_Sum_20 : List TIns := [⟨⟨(some 82),.mov (t 9),none⟩,0⟩,
  ⟨⟨(some 83),.toStr (t 82),none⟩,0⟩,
  ⟨⟨(some 2),.mov (t 83),none⟩,0⟩]
def tc_handselref01_Sum : TC := (.seq (.ops o_handselref01_Sum_0) (.clean [0] (.seq (.ops o_handselref01_Sum_1) (.clean [0,3] (.seq (.block 0 [0,3] (.clean [0,3] (.loop [0,3] l_handselref01_Sum_1))) (.clean [0,3] (.seq (.ops o_handselref01_Sum_4) (.clean [3,4] (.seq (.seq (.ops o_handselref01_Sum_5) (.block 2 [3] (.clean [3,4,5] (.loop [3,4,5] l_handselref01_Sum_2)))) (.clean [3] (.seq (.ops o_handselref01_Sum_9) (.clean [6] (.seq (.ops o_handselref01_Sum_10) (.clean [6,7] (.seq (.seq (.ops o_handselref01_Sum_11) (.block 4 [7] (.clean [6,7,8] (.loop [6,7,8] l_handselref01_Sum_3)))) (.clean [7] (.seq (.ops o_handselref01_Sum_15) (.clean [7,9] (.seq (.seq (.ops o_handselref01_Sum_16) (.block 6 [9] (.clean [7,9,10] (.loop [7,9,10] l_handselref01_Sum_4)))) (.clean [9] (.seq (.ops o_handselref01_Sum_20) (.ret [2]))))))))))))))))))))))
def fn_handselref01_Sum : TFn := ⟨84,tc_handselref01_Sum,[.tmp 2],false⟩
theorem U_handselref01_Sum : type_of% (And.intro @o_handselref01_Sum_0.eq_1 (And.intro @o_handselref01_Sum_1.eq_1 (And.intro @o_handselref01_Sum_2.eq_1 (And.intro @o_handselref01_Sum_3.eq_1 (And.intro @o_handselref01_Sum_4.eq_1 (And.intro @o_handselref01_Sum_5.eq_1 (And.intro @o_handselref01_Sum_6.eq_1 (And.intro @o_handselref01_Sum_8.eq_1 (And.intro @o_handselref01_Sum_7.eq_1 (And.intro @o_handselref01_Sum_9.eq_1 (And.intro @o_handselref01_Sum_10.eq_1 (And.intro @o_handselref01_Sum_11.eq_1 (And.intro @o_handselref01_Sum_12.eq_1 (And.intro @o_handselref01_Sum_14.eq_1 (And.intro @o_handselref01_Sum_13.eq_1 (And.intro @o_handselref01_Sum_15.eq_1 (And.intro @o_handselref01_Sum_16.eq_1 (And.intro @o_handselref01_Sum_17.eq_1 (And.intro @o_handselref01_Sum_19.eq_1 (And.intro @o_handselref01_Sum_18.eq_1 (And.intro @o_handselref01_Sum_20.eq_1 (And.intro @tc_handselref01_Sum.eq_1 @fn_handselref01_Sum.eq_1)))))))))))))))))))))) := And.intro @o_handselref01_Sum_0.eq_1 (And.intro @o_handselref01_Sum_1.eq_1 (And.intro @o_handselref01_Sum_2.eq_1 (And.intro @o_handselref01_Sum_3.eq_1 (And.intro @o_handselref01_Sum_4.eq_1 (And.intro @o_handselref01_Sum_5.eq_1 (And.intro @o_handselref01_Sum_6.eq_1 (And.intro @o_handselref01_Sum_8.eq_1 (And.intro @o_handselref01_Sum_7.eq_1 (And.intro @o_handselref01_Sum_9.eq_1 (And.intro @o_handselref01_Sum_10.eq_1 (And.intro @o_handselref01_Sum_11.eq_1 (And.intro @o_handselref01_Sum_12.eq_1 (And.intro @o_handselref01_Sum_14.eq_1 (And.intro @o_handselref01_Sum_13.eq_1 (And.intro @o_handselref01_Sum_15.eq_1 (And.intro @o_handselref01_Sum_16.eq_1 (And.intro @o_handselref01_Sum_17.eq_1 (And.intro @o_handselref01_Sum_19.eq_1 (And.intro @o_handselref01_Sum_18.eq_1 (And.intro @o_handselref01_Sum_20.eq_1 (And.intro @tc_handselref01_Sum.eq_1 @fn_handselref01_Sum.eq_1)))))))))))))))))))))
theorem c_handselref01_Sum : fnIC Try.prog [(14,⟨[0,1,2,3,4,5,6,7],[0,0,0,0,8,30,63,127],[],[]⟩),(19,⟨[0,1,2,3,4,5,6,7,8,9,10,11,12,13,14,15,16,17,18,19,20,21,22],[0,0,2,6,14,30,0,64,192,448,960,0,2048,6144,14336,30720,0,65536,196608,458752,1048574,2097151,4194303],[],[]⟩)] F_handselref01_Sum = some (84,tc_handselref01_Sum.erase,[.tmp 2]) := by kernel_rfl
def o_handselref01_block_0 : List TIns := [⟨⟨(some 2),.box T_8_uint32 8 (t 0),none⟩,0⟩,
  ⟨⟨(some 4),.box T_8_uint32 8 (.const (.agg #[(.int .u32 0),(.int .u32 0),(.int .u32 0),(.int .u32 0),(.int .u32 0),(.int .u32 0),(.int .u32 0),(.int .u32 0)])),none⟩,0⟩]
def o_handselref01_block_1 : List TIns := [⟨⟨(some 5),.box T_64_uint32 64 (.const (.agg #[(.int .u32 0),(.int .u32 0),(.int .u32 0),(.int .u32 0),(.int .u32 0),(.int .u32 0),(.int .u32 0),(.int .u32 0),(.int .u32 0),(.int .u32 0),(.int .u32 0),(.int .u32 0),(.int .u32 0),(.int .u32 0),(.int .u32 0),(.int .u32 0),(.int .u32 0),(.int .u32 0),(.int .u32 0),(.int .u32 0),(.int .u32 0),(.int .u32 0),(.int .u32 0),(.int .u32 0),(.int .u32 0),(.int .u32 0),(.int .u32 0),(.int .u32 0),(.int .u32 0),(.int .u32 0),(.int .u32 0),(.int .u32 0),(.int .u32 0),(.int .u32 0),(.int .u32 0),(.int .u32 0),(.int .u32 0),(.int .u32 0),(.int .u32 0),(.int .u32 0),(.int .u32 0),(.int .u32 0),(.int .u32 0),(.int .u32 0),(.int .u32 0),(.int .u32 0),(.int .u32 0),(.int .u32 0),(.int .u32 0),(.int .u32 0),(.int .u32 0),(.int .u32 0),(.int .u32 0),(.int .u32 0),(.int .u32 0),(.int .u32 0),(.int .u32 0),(.int .u32 0),(.int .u32 0),(.int .u32 0),(.int .u32 0),(.int .u32 0),(.int .u32 0),(.int .u32 0)])),none⟩,0⟩]
def o_handselref01_block_2 : List TIns := [⟨⟨(some 18),.call F_handselref01_table [],none⟩,0⟩,
  ⟨⟨(some 6),.box T_64_uint32 64 (.const (.agg #[(.int .u32 0),(.int .u32 0),(.int .u32 0),(.int .u32 0),(.int .u32 0),(.int .u32 0),(.int .u32 0),(.int .u32 0),(.int .u32 0),(.int .u32 0),(.int .u32 0),(.int .u32 0),(.int .u32 0),(.int .u32 0),(.int .u32 0),(.int .u32 0),(.int .u32 0),(.int .u32 0),(.int .u32 0),(.int .u32 0),(.int .u32 0),(.int .u32 0),(.int .u32 0),(.int .u32 0),(.int .u32 0),(.int .u32 0),(.int .u32 0),(.int .u32 0),(.int .u32 0),(.int .u32 0),(.int .u32 0),(.int .u32 0),(.int .u32 0),(.int .u32 0),(.int .u32 0),(.int .u32 0),(.int .u32 0),(.int .u32 0),(.int .u32 0),(.int .u32 0),(.int .u32 0),(.int .u32 0),(.int .u32 0),(.int .u32 0),(.int .u32 0),(.int .u32 0),(.int .u32 0),(.int .u32 0),(.int .u32 0),(.int .u32 0),(.int .u32 0),(.int .u32 0),(.int .u32 0),(.int .u32 0),(.int .u32 0),(.int .u32 0),(.int .u32 0),(.int .u32 0),(.int .u32 0),(.int .u32 0),(.int .u32 0),(.int .u32 0),(.int .u32 0),(.int .u32 0)])),none⟩,0⟩,
  ⟨⟨none,.store 64 (t 6) (t 18),none⟩,0⟩]
def o_handselref01_block_3 : List TIns := [⟨⟨(some 7),.mov (ci 0),none⟩,0⟩]
def o_handselref01_block_4 : List TIns := [⟨⟨(some 19),.mov (t 7),none⟩,0⟩,
  ⟨⟨(some 20),.bin .lss (t 19) (ci 16),none⟩,0⟩]
def o_handselref01_block_6 : List TIns := [⟨⟨(some 23),.mov (t 7),none⟩,0⟩,
  ⟨⟨(some 24),.mov (t 1),none⟩,0⟩,
  ⟨⟨(some 25),.mov (t 7),none⟩,0⟩,
  ⟨⟨(some 26),.bin .mul (ci 4) (t 25),none⟩,0⟩,
  ⟨⟨(some 27),.indexStr (t 24) (t 26),none⟩,0⟩,
  ⟨⟨(some 28),.conv .u32 (t 27),none⟩,0⟩,
  ⟨⟨(some 29),.bin .shl (t 28) (.const (Go.Value.int Go.IntKind.u64 24)),none⟩,0⟩,
  ⟨⟨(some 30),.mov (t 1),none⟩,0⟩,
  ⟨⟨(some 31),.mov (t 7),none⟩,0⟩,
  ⟨⟨(some 32),.bin .mul (ci 4) (t 31),none⟩,0⟩,
  ⟨⟨(some 33),.bin .add (t 32) (ci 1),none⟩,0⟩,
  ⟨⟨(some 34),.indexStr (t 30) (t 33),none⟩,0⟩,
  ⟨⟨(some 35),.conv .u32 (t 34),none⟩,0⟩,
  ⟨⟨(some 36),.bin .shl (t 35) (.const (Go.Value.int Go.IntKind.u64 16)),none⟩,0⟩,
  ⟨⟨(some 37),.bin .or (t 29) (t 36),none⟩,0⟩,
  ⟨⟨(some 38),.mov (t 1),none⟩,0⟩,
  ⟨⟨(some 39),.mov (t 7),none⟩,0⟩,
  ⟨⟨(some 40),.bin .mul (ci 4) (t 39),none⟩,0⟩,
  ⟨⟨(some 41),.bin .add (t 40) (ci 2),none⟩,0⟩,
  ⟨⟨(some 42),.indexStr (t 38) (t 41),none⟩,0⟩,
  ⟨⟨(some 43),.conv .u32 (t 42),none⟩,0⟩,
  ⟨⟨(some 44),.bin .shl (t 43) (.const (Go.Value.int Go.IntKind.u64 8)),none⟩,0⟩,
  ⟨⟨(some 45),.bin .or (t 37) (t 44),none⟩,0⟩,
  ⟨⟨(some 46),.mov (t 1),none⟩,0⟩,
  ⟨⟨(some 47),.mov (t 7),none⟩,0⟩,
  ⟨⟨(some 48),.bin .mul (ci 4) (t 47),none⟩,0⟩,
  ⟨⟨(some 49),.bin .add (t 48) (ci 3),none⟩,0⟩,
  ⟨⟨(some 50),.indexStr (t 46) (t 49),none⟩,0⟩,
  ⟨⟨(some 51),.conv .u32 (t 50),none⟩,0⟩,
  ⟨⟨(some 52),.bin .or (t 45) (t 51),none⟩,0⟩,
  ⟨⟨(some 53),.indexPtr 64 1 (t 5) (t 23),none⟩,0⟩,
  ⟨⟨none,.store 1 (t 53) (t 52),none⟩,0⟩]
def o_handselref01_block_5 : List TIns := [⟨⟨(some 21),.mov (t 7),none⟩,0⟩,
  ⟨⟨(some 22),.bin .add (t 21) (ci 1),none⟩,0⟩,
  ⟨⟨(some 7),.mov (t 22),none⟩,0⟩]
def l_handselref01_block_1 : TC := (.seq (.seq (.ops o_handselref01_block_4) (.clean [1,2,4,5,6,7,20] (.cond (t 20) .skip (.exit 0)))) (.clean [1,2,4,5,6,7] (.seq (.block 1 [1,2,4,5,6,7] (.draw (pl o_handselref01_block_6))) (.clean [1,2,4,5,6,7] (.ops o_handselref01_block_5)))))
def o_handselref01_block_7 : List TIns := [⟨⟨(some 8),.mov (ci 16),none⟩,0⟩]
def o_handselref01_block_8 : List TIns := [⟨⟨(some 54),.mov (t 8),none⟩,0⟩,
  ⟨⟨(some 55),.bin .lss (t 54) (ci 64),none⟩,0⟩]
def o_handselref01_block_10 : List TIns := [⟨⟨(some 58),.mov (t 8),none⟩,0⟩,
  ⟨⟨(some 59),.bin .sub (t 58) (ci 15),none⟩,0⟩,
  ⟨⟨(some 60),.indexPtr 64 1 (t 5) (t 59),none⟩,0⟩,
  ⟨⟨(some 61),.load1 (t 60),none⟩,0⟩,
  ⟨⟨(some 63),.mov (t 8),none⟩,0⟩,
  ⟨⟨(some 64),.bin .sub (t 63) (ci 15),none⟩,0⟩,
  ⟨⟨(some 65),.indexPtr 64 1 (t 5) (t 64),none⟩,0⟩,
  ⟨⟨(some 66),.load1 (t 65),none⟩,0⟩,
  ⟨⟨(some 69),.mov (t 8),none⟩,0⟩,
  ⟨⟨(some 70),.bin .sub (t 69) (ci 15),none⟩,0⟩,
  ⟨⟨(some 71),.indexPtr 64 1 (t 5) (t 70),none⟩,0⟩,
  ⟨⟨(some 72),.load1 (t 71),none⟩,0⟩,
  ⟨⟨(some 73),.bin .shr (t 72) (.const (Go.Value.int Go.IntKind.u64 3)),none⟩,0⟩,
  ⟨⟨(some 62),.call F_handselref01_turn [(t 61),(.const (Go.Value.int Go.IntKind.u64 7))],none⟩,0⟩,
  ⟨⟨(some 67),.call F_handselref01_turn [(t 66),(.const (Go.Value.int Go.IntKind.u64 18))],none⟩,0⟩,
  ⟨⟨(some 68),.bin .xor (t 62) (t 67),none⟩,0⟩,
  ⟨⟨(some 74),.bin .xor (t 68) (t 73),none⟩,0⟩,
  ⟨⟨(some 9),.mov (t 74),none⟩,0⟩]
def o_handselref01_block_11 : List TIns := [⟨⟨(some 75),.mov (t 8),none⟩,0⟩,
  ⟨⟨(some 76),.bin .sub (t 75) (ci 2),none⟩,0⟩,
  ⟨⟨(some 77),.indexPtr 64 1 (t 5) (t 76),none⟩,0⟩,
  ⟨⟨(some 78),.load1 (t 77),none⟩,0⟩,
  ⟨⟨(some 80),.mov (t 8),none⟩,0⟩,
  ⟨⟨(some 81),.bin .sub (t 80) (ci 2),none⟩,0⟩,
  ⟨⟨(some 82),.indexPtr 64 1 (t 5) (t 81),none⟩,0⟩,
  ⟨⟨(some 83),.load1 (t 82),none⟩,0⟩,
  ⟨⟨(some 86),.mov (t 8),none⟩,0⟩,
  ⟨⟨(some 87),.bin .sub (t 86) (ci 2),none⟩,0⟩,
  ⟨⟨(some 88),.indexPtr 64 1 (t 5) (t 87),none⟩,0⟩,
  ⟨⟨(some 89),.load1 (t 88),none⟩,0⟩,
  ⟨⟨(some 90),.bin .shr (t 89) (.const (Go.Value.int Go.IntKind.u64 10)),none⟩,0⟩,
  ⟨⟨(some 79),.call F_handselref01_turn [(t 78),(.const (Go.Value.int Go.IntKind.u64 17))],none⟩,0⟩,
  ⟨⟨(some 84),.call F_handselref01_turn [(t 83),(.const (Go.Value.int Go.IntKind.u64 19))],none⟩,0⟩,
  ⟨⟨(some 85),.bin .xor (t 79) (t 84),none⟩,0⟩,
  ⟨⟨(some 91),.bin .xor (t 85) (t 90),none⟩,0⟩,
  ⟨⟨(some 10),.mov (t 91),none⟩,0⟩]
def o_handselref01_block_12 : List TIns := [⟨⟨(some 92),.mov (t 8),none⟩,0⟩,
  ⟨⟨(some 93),.mov (t 8),none⟩,0⟩,
  ⟨⟨(some 94),.bin .sub (t 93) (ci 16),none⟩,0⟩,
  ⟨⟨(some 95),.indexPtr 64 1 (t 5) (t 94),none⟩,0⟩,
  ⟨⟨(some 96),.load1 (t 95),none⟩,0⟩,
  ⟨⟨(some 97),.mov (t 9),none⟩,0⟩,
  ⟨⟨(some 98),.bin .add (t 96) (t 97),none⟩,0⟩,
  ⟨⟨(some 99),.mov (t 8),none⟩,0⟩,
  ⟨⟨(some 100),.bin .sub (t 99) (ci 7),none⟩,0⟩,
  ⟨⟨(some 101),.indexPtr 64 1 (t 5) (t 100),none⟩,0⟩,
  ⟨⟨(some 102),.load1 (t 101),none⟩,0⟩,
  ⟨⟨(some 103),.bin .add (t 98) (t 102),none⟩,0⟩,
  ⟨⟨(some 104),.mov (t 10),none⟩,0⟩,
  ⟨⟨(some 105),.bin .add (t 103) (t 104),none⟩,0⟩,
  ⟨⟨(some 106),.indexPtr 64 1 (t 5) (t 92),none⟩,0⟩,
  ⟨⟨none,.store 1 (t 106) (t 105),none⟩,0⟩]
def o_handselref01_block_9 : List TIns := [⟨⟨(some 56),.mov (t 8),none⟩,0⟩,
  ⟨⟨(some 57),.bin .add (t 56) (ci 1),none⟩,0⟩,
  ⟨⟨(some 8),.mov (t 57),none⟩,0⟩]
def l_handselref01_block_2 : TC := (.seq (.seq (.ops o_handselref01_block_8) (.clean [2,4,5,6,8,55] (.cond (t 55) .skip (.exit 2)))) (.clean [2,4,5,6,8] (.seq (.block 3 [2,4,5,6,8] (.seq (.draw (pl o_handselref01_block_10)) (.clean [2,4,5,6,8,9] (.seq (.draw (pl o_handselref01_block_11)) (.clean [2,4,5,6,8,9,10] (.draw (pl o_handselref01_block_12))))))) (.clean [2,4,5,6,8] (.ops o_handselref01_block_9)))))
def o_handselref01_block_13 : List TIns := [⟨⟨(some 107),.loadN 8 (t 2),none⟩,0⟩,
  ⟨⟨(some 11),.box T_8_uint32 8 (.const (.agg #[(.int .u32 0),(.int .u32 0),(.int .u32 0),(.int .u32 0),(.int .u32 0),(.int .u32 0),(.int .u32 0),(.int .u32 0)])),none⟩,0⟩,
  ⟨⟨none,.store 8 (t 11) (t 107),none⟩,0⟩]
def o_handselref01_block_14 : List TIns := [⟨⟨(some 12),.mov (ci 0),none⟩,0⟩]
def o_handselref01_block_15 : List TIns := [⟨⟨(some 108),.mov (t 12),none⟩,0⟩,
  ⟨⟨(some 109),.bin .lss (t 108) (ci 64),none⟩,0⟩]
def o_handselref01_block_17 : List TIns := [⟨⟨(some 112),.indexPtr 8 1 (t 11) (ci 4),none⟩,0⟩,
  ⟨⟨(some 113),.load1 (t 112),none⟩,0⟩,
  ⟨⟨(some 115),.indexPtr 8 1 (t 11) (ci 4),none⟩,0⟩,
  ⟨⟨(some 116),.load1 (t 115),none⟩,0⟩,
  ⟨⟨(some 119),.indexPtr 8 1 (t 11) (ci 4),none⟩,0⟩,
  ⟨⟨(some 120),.load1 (t 119),none⟩,0⟩,
  ⟨⟨(some 114),.call F_handselref01_turn [(t 113),(.const (Go.Value.int Go.IntKind.u64 6))],none⟩,0⟩,
  ⟨⟨(some 117),.call F_handselref01_turn [(t 116),(.const (Go.Value.int Go.IntKind.u64 11))],none⟩,0⟩,
  ⟨⟨(some 118),.bin .xor (t 114) (t 117),none⟩,0⟩,
  ⟨⟨(some 121),.call F_handselref01_turn [(t 120),(.const (Go.Value.int Go.IntKind.u64 25))],none⟩,0⟩,
  ⟨⟨(some 122),.bin .xor (t 118) (t 121),none⟩,0⟩,
  ⟨⟨(some 13),.mov (t 122),none⟩,0⟩]
def o_handselref01_block_18 : List TIns := [⟨⟨(some 123),.indexPtr 8 1 (t 11) (ci 7),none⟩,0⟩,
  ⟨⟨(some 124),.load1 (t 123),none⟩,0⟩,
  ⟨⟨(some 125),.mov (t 13),none⟩,0⟩,
  ⟨⟨(some 126),.bin .add (t 124) (t 125),none⟩,0⟩,
  ⟨⟨(some 127),.indexPtr 8 1 (t 11) (ci 4),none⟩,0⟩,
  ⟨⟨(some 128),.load1 (t 127),none⟩,0⟩,
  ⟨⟨(some 129),.indexPtr 8 1 (t 11) (ci 5),none⟩,0⟩,
  ⟨⟨(some 130),.load1 (t 129),none⟩,0⟩,
  ⟨⟨(some 131),.bin .and (t 128) (t 130),none⟩,0⟩,
  ⟨⟨(some 132),.indexPtr 8 1 (t 11) (ci 4),none⟩,0⟩,
  ⟨⟨(some 133),.load1 (t 132),none⟩,0⟩,
  ⟨⟨(some 134),.un .xor (t 133),none⟩,0⟩,
  ⟨⟨(some 135),.indexPtr 8 1 (t 11) (ci 6),none⟩,0⟩,
  ⟨⟨(some 136),.load1 (t 135),none⟩,0⟩,
  ⟨⟨(some 137),.bin .and (t 134) (t 136),none⟩,0⟩,
  ⟨⟨(some 138),.bin .xor (t 131) (t 137),none⟩,0⟩,
  ⟨⟨(some 139),.bin .add (t 126) (t 138),none⟩,0⟩,
  ⟨⟨(some 140),.mov (t 12),none⟩,0⟩,
  ⟨⟨(some 141),.indexPtr 64 1 (t 6) (t 140),none⟩,0⟩,
  ⟨⟨(some 142),.load1 (t 141),none⟩,0⟩,
  ⟨⟨(some 143),.bin .add (t 139) (t 142),none⟩,0⟩,
  ⟨⟨(some 144),.mov (t 12),none⟩,0⟩,
  ⟨⟨(some 145),.indexPtr 64 1 (t 5) (t 144),none⟩,0⟩,
  ⟨⟨(some 146),.load1 (t 145),none⟩,0⟩,
  ⟨⟨(some 147),.bin .add (t 143) (t 146),none⟩,0⟩,
  ⟨⟨(some 14),.mov (t 147),none⟩,0⟩]
def o_handselref01_block_19 : List TIns := [⟨⟨(some 148),.indexPtr 8 1 (t 11) (ci 0),none⟩,0⟩,
  ⟨⟨(some 149),.load1 (t 148),none⟩,0⟩,
  ⟨⟨(some 151),.indexPtr 8 1 (t 11) (ci 0),none⟩,0⟩,
  ⟨⟨(some 152),.load1 (t 151),none⟩,0⟩,
  ⟨⟨(some 155),.indexPtr 8 1 (t 11) (ci 0),none⟩,0⟩,
  ⟨⟨(some 156),.load1 (t 155),none⟩,0⟩,
  ⟨⟨(some 150),.call F_handselref01_turn [(t 149),(.const (Go.Value.int Go.IntKind.u64 2))],none⟩,0⟩,
  ⟨⟨(some 153),.call F_handselref01_turn [(t 152),(.const (Go.Value.int Go.IntKind.u64 13))],none⟩,0⟩,
  ⟨⟨(some 154),.bin .xor (t 150) (t 153),none⟩,0⟩,
  ⟨⟨(some 157),.call F_handselref01_turn [(t 156),(.const (Go.Value.int Go.IntKind.u64 22))],none⟩,0⟩,
  ⟨⟨(some 158),.bin .xor (t 154) (t 157),none⟩,0⟩,
  ⟨⟨(some 15),.mov (t 158),none⟩,0⟩]
def o_handselref01_block_20 : List TIns := [⟨⟨(some 159),.mov (t 15),none⟩,0⟩,
  ⟨⟨(some 160),.indexPtr 8 1 (t 11) (ci 0),none⟩,0⟩,
  ⟨⟨(some 161),.load1 (t 160),none⟩,0⟩,
  ⟨⟨(some 162),.indexPtr 8 1 (t 11) (ci 1),none⟩,0⟩,
  ⟨⟨(some 163),.load1 (t 162),none⟩,0⟩,
  ⟨⟨(some 164),.bin .and (t 161) (t 163),none⟩,0⟩,
  ⟨⟨(some 165),.indexPtr 8 1 (t 11) (ci 0),none⟩,0⟩,
  ⟨⟨(some 166),.load1 (t 165),none⟩,0⟩,
  ⟨⟨(some 167),.indexPtr 8 1 (t 11) (ci 2),none⟩,0⟩,
  ⟨⟨(some 168),.load1 (t 167),none⟩,0⟩,
  ⟨⟨(some 169),.bin .and (t 166) (t 168),none⟩,0⟩,
  ⟨⟨(some 170),.bin .xor (t 164) (t 169),none⟩,0⟩,
  ⟨⟨(some 171),.indexPtr 8 1 (t 11) (ci 1),none⟩,0⟩,
  ⟨⟨(some 172),.load1 (t 171),none⟩,0⟩,
  ⟨⟨(some 173),.indexPtr 8 1 (t 11) (ci 2),none⟩,0⟩,
  ⟨⟨(some 174),.load1 (t 173),none⟩,0⟩,
  ⟨⟨(some 175),.bin .and (t 172) (t 174),none⟩,0⟩,
  ⟨⟨(some 176),.bin .xor (t 170) (t 175),none⟩,0⟩,
  ⟨⟨(some 177),.bin .add (t 159) (t 176),none⟩,0⟩,
  ⟨⟨(some 16),.mov (t 177),none⟩,0⟩]
def o_handselref01_block_21 : List TIns := [⟨⟨(some 178),.mov (t 14),none⟩,0⟩,
  ⟨⟨(some 179),.mov (t 16),none⟩,0⟩,
  ⟨⟨(some 180),.bin .add (t 178) (t 179),none⟩,0⟩,
  ⟨⟨(some 181),.indexPtr 8 1 (t 11) (ci 0),none⟩,0⟩,
  ⟨⟨(some 182),.load1 (t 181),none⟩,0⟩,
  ⟨⟨(some 183),.indexPtr 8 1 (t 11) (ci 1),none⟩,0⟩,
  ⟨⟨(some 184),.load1 (t 183),none⟩,0⟩,
  ⟨⟨(some 185),.indexPtr 8 1 (t 11) (ci 2),none⟩,0⟩,
  ⟨⟨(some 186),.load1 (t 185),none⟩,0⟩,
  ⟨⟨(some 187),.indexPtr 8 1 (t 11) (ci 3),none⟩,0⟩,
  ⟨⟨(some 188),.load1 (t 187),none⟩,0⟩,
  ⟨⟨(some 189),.mov (t 14),none⟩,0⟩,
  ⟨⟨(some 190),.bin .add (t 188) (t 189),none⟩,0⟩,
  ⟨⟨(some 191),.indexPtr 8 1 (t 11) (ci 4),none⟩,0⟩,
  ⟨⟨(some 192),.load1 (t 191),none⟩,0⟩,
  ⟨⟨(some 193),.indexPtr 8 1 (t 11) (ci 5),none⟩,0⟩,
  ⟨⟨(some 194),.load1 (t 193),none⟩,0⟩,
  ⟨⟨(some 195),.indexPtr 8 1 (t 11) (ci 6),none⟩,0⟩,
  ⟨⟨(some 196),.load1 (t 195),none⟩,0⟩,
  ⟨⟨(some 197),.build [(.int .u32 0),(.int .u32 0),(.int .u32 0),(.int .u32 0),(.int .u32 0),(.int .u32 0),(.int .u32 0),(.int .u32 0)] [(0,1,(t 180)),(1,1,(t 182)),(2,1,(t 184)),(3,1,(t 186)),(4,1,(t 190)),(5,1,(t 192)),(6,1,(t 194)),(7,1,(t 196))],none⟩,0⟩,
  ⟨⟨none,.store 8 (t 11) (t 197),none⟩,0⟩]
def o_handselref01_block_16 : List TIns := [⟨⟨(some 110),.mov (t 12),none⟩,0⟩,
  ⟨⟨(some 111),.bin .add (t 110) (ci 1),none⟩,0⟩,
  ⟨⟨(some 12),.mov (t 111),none⟩,0⟩]
def l_handselref01_block_3 : TC := (.seq (.seq (.ops o_handselref01_block_15) (.clean [2,4,5,6,11,12,109] (.cond (t 109) .skip (.exit 4)))) (.clean [2,4,5,6,11,12] (.seq (.block 5 [2,4,5,6,11,12] (.seq (.draw (pl o_handselref01_block_17)) (.clean [2,4,5,6,11,12,13] (.seq (.draw (pl o_handselref01_block_18)) (.clean [2,4,5,6,11,12,14] (.seq (.draw (pl o_handselref01_block_19)) (.clean [2,4,5,6,11,12,14,15] (.seq (.ops o_handselref01_block_20) (.clean [2,4,5,6,11,12,14,16] (.ops o_handselref01_block_21)))))))))) (.clean [2,4,5,6,11,12] (.ops o_handselref01_block_16)))))
def o_handselref01_block_22 : List TIns := [⟨⟨(some 17),.mov (ci 0),none⟩,0⟩]
def o_handselref01_block_23 : List TIns := [⟨⟨(some 198),.mov (t 17),none⟩,0⟩,
  ⟨⟨(some 199),.bin .lss (t 198) (ci 8),none⟩,0⟩]
def o_handselref01_block_25 : List TIns := [⟨⟨(some 202),.mov (t 17),none⟩,0⟩,
  ⟨⟨(some 203),.mov (t 17),none⟩,0⟩,
  ⟨⟨(some 204),.indexPtr 8 1 (t 2) (t 203),none⟩,0⟩,
  ⟨⟨(some 205),.load1 (t 204),none⟩,0⟩,
  ⟨⟨(some 206),.mov (t 17),none⟩,0⟩,
  ⟨⟨(some 207),.indexPtr 8 1 (t 11) (t 206),none⟩,0⟩,
  ⟨⟨(some 208),.load1 (t 207),none⟩,0⟩,
  ⟨⟨(some 209),.bin .add (t 205) (t 208),none⟩,0⟩,
  ⟨⟨(some 210),.indexPtr 8 1 (t 2) (t 202),none⟩,0⟩,
  ⟨⟨none,.store 1 (t 210) (t 209),none⟩,0⟩]
def o_handselref01_block_24 : List TIns := [⟨⟨(some 200),.mov (t 17),none⟩,0⟩,
  ⟨⟨(some 201),.bin .add (t 200) (ci 1),none⟩,0⟩,
  ⟨⟨(some 17),.mov (t 201),none⟩,0⟩]
def l_handselref01_block_4 : TC := (.seq (.seq (.ops o_handselref01_block_23) (.clean [2,4,11,17,199] (.cond (t 199) .skip (.exit 6)))) (.clean [2,4,11,17] (.seq (.block 7 [2,4,11,17] (.draw (pl o_handselref01_block_25))) (.clean [2,4,11,17] (.ops o_handselref01_block_24)))))
def o_handselref01_block_26 : List TIns := [⟨⟨(some 211),.loadN 8 (t 2),none⟩,0⟩,
  ⟨⟨none,.store 8 (t 4) (t 211),none⟩,0⟩]
def tc_handselref01_block : TC := (.seq (.ops o_handselref01_block_0) (.clean [1,2,4] (.seq (.ops o_handselref01_block_1) (.clean [1,2,4,5] (.seq (.ops o_handselref01_block_2) (.clean [1,2,4,5,6] (.seq (.seq (.ops o_handselref01_block_3) (.block 0 [2,4,5,6] (.clean [1,2,4,5,6,7] (.loop [1,2,4,5,6,7] l_handselref01_block_1)))) (.clean [2,4,5,6] (.seq (.seq (.ops o_handselref01_block_7) (.block 2 [2,4,5,6] (.clean [2,4,5,6,8] (.loop [2,4,5,6,8] l_handselref01_block_2)))) (.clean [2,4,5,6] (.seq (.ops o_handselref01_block_13) (.clean [2,4,5,6,11] (.seq (.seq (.ops o_handselref01_block_14) (.block 4 [2,4,11] (.clean [2,4,5,6,11,12] (.loop [2,4,5,6,11,12] l_handselref01_block_3)))) (.clean [2,4,11] (.seq (.seq (.ops o_handselref01_block_22) (.block 6 [2,4] (.clean [2,4,11,17] (.loop [2,4,11,17] l_handselref01_block_4)))) (.clean [2,4] (.seq (.ops o_handselref01_block_26) (.ret [4]))))))))))))))))))
def fn_handselref01_block : TFn := ⟨212,tc_handselref01_block,[.cellN 4 8],false⟩
theorem U_handselref01_block : type_of% (And.intro @o_handselref01_block_0.eq_1 (And.intro @o_handselref01_block_1.eq_1 (And.intro @o_handselref01_block_2.eq_1 (And.intro @o_handselref01_block_3.eq_1 (And.intro @o_handselref01_block_4.eq_1 (And.intro @o_handselref01_block_6.eq_1 (And.intro @o_handselref01_block_5.eq_1 (And.intro @o_handselref01_block_7.eq_1 (And.intro @o_handselref01_block_8.eq_1 (And.intro @o_handselref01_block_10.eq_1 (And.intro @o_handselref01_block_11.eq_1 (And.intro @o_handselref01_block_12.eq_1 (And.intro @o_handselref01_block_9.eq_1 (And.intro @o_handselref01_block_13.eq_1 (And.intro @o_handselref01_block_14.eq_1 (And.intro @o_handselref01_block_15.eq_1 (And.intro @o_handselref01_block_17.eq_1 (And.intro @o_handselref01_block_18.eq_1 (And.intro @o_handselref01_block_19.eq_1 (And.intro @o_handselref01_block_20.eq_1 (And.intro @o_handselref01_block_21.eq_1 (And.intro @o_handselref01_block_16.eq_1 (And.intro @o_handselref01_block_22.eq_1 (And.intro @o_handselref01_block_23.eq_1 (And.intro @o_handselref01_block_25.eq_1 (And.intro @o_handselref01_block_24.eq_1 (And.intro @o_handselref01_block_26.eq_1 (And.intro @tc_handselref01_block.eq_1 @fn_handselref01_block.eq_1)))))))))))))))))))))))))))) := And.intro @o_handselref01_block_0.eq_1 (And.intro @o_handselref01_block_1.eq_1 (And.intro @o_handselref01_block_2.eq_1 (And.intro @o_handselref01_block_3.eq_1 (And.intro @o_handselref01_block_4.eq_1 (And.intro @o_handselref01_block_6.eq_1 (And.intro @o_handselref01_block_5.eq_1 (And.intro @o_handselref01_block_7.eq_1 (And.intro @o_handselref01_block_8.eq_1 (And.intro @o_handselref01_block_10.eq_1 (And.intro @o_handselref01_block_11.eq_1 (And.intro @o_handselref01_block_12.eq_1 (And.intro @o_handselref01_block_9.eq_1 (And.intro @o_handselref01_block_13.eq_1 (And.intro @o_handselref01_block_14.eq_1 (And.intro @o_handselref01_block_15.eq_1 (And.intro @o_handselref01_block_17.eq_1 (And.intro @o_handselref01_block_18.eq_1 (And.intro @o_handselref01_block_19.eq_1 (And.intro @o_handselref01_block_20.eq_1 (And.intro @o_handselref01_block_21.eq_1 (And.intro @o_handselref01_block_16.eq_1 (And.intro @o_handselref01_block_22.eq_1 (And.intro @o_handselref01_block_23.eq_1 (And.intro @o_handselref01_block_25.eq_1 (And.intro @o_handselref01_block_24.eq_1 (And.intro @o_handselref01_block_26.eq_1 (And.intro @tc_handselref01_block.eq_1 @fn_handselref01_block.eq_1)))))))))))))))))))))))))))
theorem c_handselref01_block : fnIC Try.prog [(6,⟨[0,1,2,3,4,5,6,7,8,9,10,11,12,13,14,15,16,17,18,19,20,21,22,23,24,25,26,27,28,29,30,31],[0,0,0,4,14,30,62,0,0,256,768,1920,3968,8064,16382,0,0,65536,196608,491520,1015808,2064384,4194302,0,0,16777216,50331648,125829120,260046848,536870910,1073741823,2147483647],[],[]⟩),(10,⟨[0,1,2,3,5,6,7,8,11,12,13,14,15,4,9,10,16,17],[0,1,3,7,15,0,32,96,224,511,1023,0,2048,6144,14336,30720,65535,131071],[],[]⟩),(11,⟨[0,1,2,3,5,6,7,8,11,12,13,14,15,4,9,10,16,17],[0,1,3,7,15,0,32,96,224,511,1023,0,2048,6144,14336,30720,65535,131071],[],[]⟩),(12,⟨[0,1,2,3,4,5,6,7,8,9,10,11,12,13,14,15],[0,0,2,6,14,0,62,0,128,384,896,2046,0,8190,16383,32767],[],[]⟩),(17,⟨[0,1,3,4,7,8,2,5,6,9,10,11],[0,1,3,0,8,31,63,0,128,447,1023,2047],[],[]⟩),(18,⟨[0,1,2,3,4,5,6,7,8,9,10,11,12,13,14,15,16,17,18,19,20,21,22,23,24,25],[0,1,0,7,0,16,0,64,240,0,512,1536,0,4096,15872,32752,65535,0,131072,393216,1048575,0,2097152,6291456,16777215,33554431],[],[]⟩),(19,⟨[0,1,3,4,7,8,2,5,6,9,10,11],[0,1,3,0,8,31,63,0,128,447,1023,2047],[],[]⟩),(25,⟨[0,1,2,3,4,5,6,7,8,9],[0,0,2,6,0,16,48,126,255,511],[],[]⟩)] F_handselref01_block = some (212,tc_handselref01_block.erase,[.cellN 4 8]) := by kernel_rfl
def o_handselref01_table_0 : List TIns := [⟨⟨(some 0),.box T_64_uint32 64 (.const (.agg #[(.int .u32 0),(.int .u32 0),(.int .u32 0),(.int .u32 0),(.int .u32 0),(.int .u32 0),(.int .u32 0),(.int .u32 0),(.int .u32 0),(.int .u32 0),(.int .u32 0),(.int .u32 0),(.int .u32 0),(.int .u32 0),(.int .u32 0),(.int .u32 0),(.int .u32 0),(.int .u32 0),(.int .u32 0),(.int .u32 0),(.int .u32 0),(.int .u32 0),(.int .u32 0),(.int .u32 0),(.int .u32 0),(.int .u32 0),(.int .u32 0),(.int .u32 0),(.int .u32 0),(.int .u32 0),(.int .u32 0),(.int .u32 0),(.int .u32 0),(.int .u32 0),(.int .u32 0),(.int .u32 0),(.int .u32 0),(.int .u32 0),(.int .u32 0),(.int .u32 0),(.int .u32 0),(.int .u32 0),(.int .u32 0),(.int .u32 0),(.int .u32 0),(.int .u32 0),(.int .u32 0),(.int .u32 0),(.int .u32 0),(.int .u32 0),(.int .u32 0),(.int .u32 0),(.int .u32 0),(.int .u32 0),(.int .u32 0),(.int .u32 0),(.int .u32 0),(.int .u32 0),(.int .u32 0),(.int .u32 0),(.int .u32 0),(.int .u32 0),(.int .u32 0),(.int .u32 0)])),none⟩,0⟩]
def o_handselref01_table_1 : List TIns := [⟨⟨(some 1),.build [(.int .u32 0),(.int .u32 0),(.int .u32 0),(.int .u32 0),(.int .u32 0),(.int .u32 0),(.int .u32 0),(.int .u32 0),(.int .u32 0),(.int .u32 0),(.int .u32 0),(.int .u32 0),(.int .u32 0),(.int .u32 0),(.int .u32 0),(.int .u32 0),(.int .u32 0),(.int .u32 0),(.int .u32 0),(.int .u32 0),(.int .u32 0),(.int .u32 0),(.int .u32 0),(.int .u32 0),(.int .u32 0),(.int .u32 0),(.int .u32 0),(.int .u32 0),(.int .u32 0),(.int .u32 0),(.int .u32 0),(.int .u32 0),(.int .u32 0),(.int .u32 0),(.int .u32 0),(.int .u32 0),(.int .u32 0),(.int .u32 0),(.int .u32 0),(.int .u32 0),(.int .u32 0),(.int .u32 0),(.int .u32 0),(.int .u32 0),(.int .u32 0),(.int .u32 0),(.int .u32 0),(.int .u32 0),(.int .u32 0),(.int .u32 0),(.int .u32 0),(.int .u32 0),(.int .u32 0),(.int .u32 0),(.int .u32 0),(.int .u32 0),(.int .u32 0),(.int .u32 0),(.int .u32 0),(.int .u32 0),(.int .u32 0),(.int .u32 0),(.int .u32 0),(.int .u32 0)] [(0,1,(.const (Go.Value.int Go.IntKind.u32 1116352408))),(1,1,(.const (Go.Value.int Go.IntKind.u32 1899447441))),(2,1,(.const (Go.Value.int Go.IntKind.u32 3049323471))),(3,1,(.const (Go.Value.int Go.IntKind.u32 3921009573))),(4,1,(.const (Go.Value.int Go.IntKind.u32 961987163))),(5,1,(.const (Go.Value.int Go.IntKind.u32 1508970993))),(6,1,(.const (Go.Value.int Go.IntKind.u32 2453635748))),(7,1,(.const (Go.Value.int Go.IntKind.u32 2870763221))),(8,1,(.const (Go.Value.int Go.IntKind.u32 3624381080))),(9,1,(.const (Go.Value.int Go.IntKind.u32 310598401))),(10,1,(.const (Go.Value.int Go.IntKind.u32 607225278))),(11,1,(.const (Go.Value.int Go.IntKind.u32 1426881987))),(12,1,(.const (Go.Value.int Go.IntKind.u32 1925078388))),(13,1,(.const (Go.Value.int Go.IntKind.u32 2162078206))),(14,1,(.const (Go.Value.int Go.IntKind.u32 2614888103))),(15,1,(.const (Go.Value.int Go.IntKind.u32 3248222580))),(16,1,(.const (Go.Value.int Go.IntKind.u32 3835390401))),(17,1,(.const (Go.Value.int Go.IntKind.u32 4022224774))),(18,1,(.const (Go.Value.int Go.IntKind.u32 264347078))),(19,1,(.const (Go.Value.int Go.IntKind.u32 604807628))),(20,1,(.const (Go.Value.int Go.IntKind.u32 770255983))),(21,1,(.const (Go.Value.int Go.IntKind.u32 1249150122))),(22,1,(.const (Go.Value.int Go.IntKind.u32 1555081692))),(23,1,(.const (Go.Value.int Go.IntKind.u32 1996064986))),(24,1,(.const (Go.Value.int Go.IntKind.u32 2554220882))),(25,1,(.const (Go.Value.int Go.IntKind.u32 2821834349))),(26,1,(.const (Go.Value.int Go.IntKind.u32 2952996808))),(27,1,(.const (Go.Value.int Go.IntKind.u32 3210313671))),(28,1,(.const (Go.Value.int Go.IntKind.u32 3336571891))),(29,1,(.const (Go.Value.int Go.IntKind.u32 3584528711))),(30,1,(.const (Go.Value.int Go.IntKind.u32 113926993))),(31,1,(.const (Go.Value.int Go.IntKind.u32 338241895))),(32,1,(.const (Go.Value.int Go.IntKind.u32 666307205))),(33,1,(.const (Go.Value.int Go.IntKind.u32 773529912))),(34,1,(.const (Go.Value.int Go.IntKind.u32 1294757372))),(35,1,(.const (Go.Value.int Go.IntKind.u32 1396182291))),(36,1,(.const (Go.Value.int Go.IntKind.u32 1695183700))),(37,1,(.const (Go.Value.int Go.IntKind.u32 1986661051))),(38,1,(.const (Go.Value.int Go.IntKind.u32 2177026350))),(39,1,(.const (Go.Value.int Go.IntKind.u32 2456956037))),(40,1,(.const (Go.Value.int Go.IntKind.u32 2730485921))),(41,1,(.const (Go.Value.int Go.IntKind.u32 2820302411))),(42,1,(.const (Go.Value.int Go.IntKind.u32 3259730800))),(43,1,(.const (Go.Value.int Go.IntKind.u32 3345764771))),(44,1,(.const (Go.Value.int Go.IntKind.u32 3516065817))),(45,1,(.const (Go.Value.int Go.IntKind.u32 3600352804))),(46,1,(.const (Go.Value.int Go.IntKind.u32 4094571909))),(47,1,(.const (Go.Value.int Go.IntKind.u32 275423344))),(48,1,(.const (Go.Value.int Go.IntKind.u32 430227734))),(49,1,(.const (Go.Value.int Go.IntKind.u32 506948616))),(50,1,(.const (Go.Value.int Go.IntKind.u32 659060556))),(51,1,(.const (Go.Value.int Go.IntKind.u32 883997877))),(52,1,(.const (Go.Value.int Go.IntKind.u32 958139571))),(53,1,(.const (Go.Value.int Go.IntKind.u32 1322822218))),(54,1,(.const (Go.Value.int Go.IntKind.u32 1537002063))),(55,1,(.const (Go.Value.int Go.IntKind.u32 1747873779))),(56,1,(.const (Go.Value.int Go.IntKind.u32 1955562222))),(57,1,(.const (Go.Value.int Go.IntKind.u32 2024104815))),(58,1,(.const (Go.Value.int Go.IntKind.u32 2227730452))),(59,1,(.const (Go.Value.int Go.IntKind.u32 2361852424))),(60,1,(.const (Go.Value.int Go.IntKind.u32 2428436474))),(61,1,(.const (Go.Value.int Go.IntKind.u32 2756734187))),(62,1,(.const (Go.Value.int Go.IntKind.u32 3204031479))),(63,1,(.const (Go.Value.int Go.IntKind.u32 3329325298)))],none⟩,0⟩,
  ⟨⟨none,.store 64 (t 0) (t 1),none⟩,0⟩]
def tc_handselref01_table : TC := (.seq (.ops o_handselref01_table_0) (.clean [0] (.seq (.ops o_handselref01_table_1) (.ret [0]))))
def fn_handselref01_table : TFn := ⟨2,tc_handselref01_table,[.cellN 0 64],false⟩
theorem U_handselref01_table : type_of% (And.intro @o_handselref01_table_0.eq_1 (And.intro @o_handselref01_table_1.eq_1 (And.intro @tc_handselref01_table.eq_1 @fn_handselref01_table.eq_1))) := And.intro @o_handselref01_table_0.eq_1 (And.intro @o_handselref01_table_1.eq_1 (And.intro @tc_handselref01_table.eq_1 @fn_handselref01_table.eq_1))
theorem c_handselref01_table : fnIC Try.prog [] F_handselref01_table = some (2,tc_handselref01_table.erase,[.cellN 0 64]) := by kernel_rfl
def o_handselref01_turn_0 : List TIns := [⟨⟨(some 4),.mov (.const (Go.Value.int Go.IntKind.u32 0)),none⟩,0⟩]
def o_handselref01_turn_1 : List TIns := [⟨⟨(some 5),.mov (t 0),none⟩,0⟩,
  ⟨⟨(some 6),.mov (t 1),none⟩,0⟩,
  ⟨⟨(some 7),.bin .shr (t 5) (t 6),none⟩,0⟩,
  ⟨⟨(some 8),.mov (t 0),none⟩,0⟩,
  ⟨⟨(some 9),.mov (t 1),none⟩,0⟩,
  ⟨⟨(some 10),.bin .sub (.const (Go.Value.int Go.IntKind.u64 32)) (t 9),none⟩,0⟩,
  ⟨⟨(some 11),.bin .shl (t 8) (t 10),none⟩,0⟩,
  ⟨⟨(some 12),.bin .or (t 7) (t 11),none⟩,0⟩,
  ⟨⟨(some 4),.mov (t 12),none⟩,0⟩]
def tc_handselref01_turn : TC := (.seq (.ops o_handselref01_turn_0) (.clean [0,1] (.seq (.ops o_handselref01_turn_1) (.ret [4]))))
def fn_handselref01_turn : TFn := ⟨13,tc_handselref01_turn,[.tmp 4],false⟩
theorem U_handselref01_turn : type_of% (And.intro @o_handselref01_turn_0.eq_1 (And.intro @o_handselref01_turn_1.eq_1 (And.intro @tc_handselref01_turn.eq_1 @fn_handselref01_turn.eq_1))) := And.intro @o_handselref01_turn_0.eq_1 (And.intro @o_handselref01_turn_1.eq_1 (And.intro @tc_handselref01_turn.eq_1 @fn_handselref01_turn.eq_1))
theorem c_handselref01_turn : fnIC Try.prog [] F_handselref01_turn = some (13,tc_handselref01_turn.erase,[.tmp 4]) := by kernel_rfl
def o_handsellaw00_Secret_0 : List TIns := [⟨⟨(some 2),.mov (.const (Go.Value.string ⟨#[]⟩)),none⟩,0⟩]
def o_handsellaw00_Secret_1 : List TIns := [⟨⟨(some 3),.mov (t 0),none⟩,0⟩,
  ⟨⟨(some 4),.call F_handsellaw00_Digits [(t 3)],none⟩,0⟩,
  ⟨⟨(some 5),.bin .add (.const (Go.Value.string ⟨#[115,101,99,114,101,116]⟩)) (t 4),none⟩,0⟩,
  ⟨⟨(some 2),.mov (t 5),none⟩,0⟩]
def tc_handsellaw00_Secret : TC := (.seq (.ops o_handsellaw00_Secret_0) (.clean [0] (.seq (.ops o_handsellaw00_Secret_1) (.ret [2]))))
def fn_handsellaw00_Secret : TFn := ⟨6,tc_handsellaw00_Secret,[.tmp 2],false⟩
theorem U_handsellaw00_Secret : type_of% (And.intro @o_handsellaw00_Secret_0.eq_1 (And.intro @o_handsellaw00_Secret_1.eq_1 (And.intro @tc_handsellaw00_Secret.eq_1 @fn_handsellaw00_Secret.eq_1))) := And.intro @o_handsellaw00_Secret_0.eq_1 (And.intro @o_handsellaw00_Secret_1.eq_1 (And.intro @tc_handsellaw00_Secret.eq_1 @fn_handsellaw00_Secret.eq_1))
theorem c_handsellaw00_Secret : fnIC Try.prog [] F_handsellaw00_Secret = some (6,tc_handsellaw00_Secret.erase,[.tmp 2]) := by kernel_rfl
def o_handselref02_Public_0 : List TIns := [⟨⟨(some 4),.mov (.const (Go.Value.string ⟨#[]⟩)),none⟩,0⟩]
def o_handselref02_Public_1 : List TIns := [⟨⟨(some 7),.mov (t 1),none⟩,0⟩,
  ⟨⟨(some 8),.bin .lss (t 7) (ci 0),none⟩,0⟩,
  ⟨⟨(some 9),.mov (t 8),none⟩,0⟩,
  ⟨⟨(some 10),.mov (t 1),(some (9,false))⟩,0⟩,
  ⟨⟨(some 11),.bin .gtr (t 10) (ci 255),(some (9,false))⟩,0⟩,
  ⟨⟨(some 12),.pick (t 9) (.const (Go.Value.bool true)) (t 11),none⟩,0⟩]
def o_handselref02_Public_2 : List TIns := [⟨⟨(some 4),.mov (.const (Go.Value.string ⟨#[]⟩)),none⟩,0⟩]
def o_handselref02_Public_3 : List TIns := [⟨⟨(some 5),.mov (.const (Go.Value.string ⟨#[]⟩)),none⟩,0⟩]
def o_handselref02_Public_4 : List TIns := [⟨⟨(some 6),.mov (ci 0),none⟩,0⟩]
def o_handselref02_Public_5 : List TIns := [⟨⟨(some 13),.mov (t 6),none⟩,0⟩,
  ⟨⟨(some 14),.bin .lss (t 13) (ci 16),none⟩,0⟩]
def o_handselref02_Public_7 : List TIns := [⟨⟨(some 17),.mov (t 5),none⟩,0⟩,
  ⟨⟨(some 18),.mov (t 0),none⟩,0⟩,
  ⟨⟨(some 19),.mov (t 1),none⟩,0⟩,
  ⟨⟨(some 20),.mov (t 6),none⟩,0⟩,
  ⟨⟨(some 21),.call F_handselref02_Value [(t 18),(t 19),(t 20),(ci 0)],none⟩,0⟩,
  ⟨⟨(some 22),.call F_handselref01_Short [(t 21)],none⟩,0⟩,
  ⟨⟨(some 23),.bin .add (t 17) (t 22),none⟩,0⟩,
  ⟨⟨(some 24),.mov (t 0),none⟩,0⟩,
  ⟨⟨(some 25),.mov (t 1),none⟩,0⟩,
  ⟨⟨(some 26),.mov (t 6),none⟩,0⟩,
  ⟨⟨(some 27),.call F_handselref02_Value [(t 24),(t 25),(t 26),(ci 1)],none⟩,0⟩,
  ⟨⟨(some 28),.call F_handselref01_Short [(t 27)],none⟩,0⟩,
  ⟨⟨(some 29),.bin .add (t 23) (t 28),none⟩,0⟩,
  ⟨⟨(some 5),.mov (t 29),none⟩,0⟩]
def o_handselref02_Public_6 : List TIns := [⟨⟨(some 15),.mov (t 6),none⟩,0⟩,
  ⟨⟨(some 16),.bin .add (t 15) (ci 1),none⟩,0⟩,
  ⟨⟨(some 6),.mov (t 16),none⟩,0⟩]
def l_handselref02_Public_1 : TC := (.seq (.seq (.ops o_handselref02_Public_5) (.clean [0,1,5,6,14] (.cond (t 14) .skip (.exit 0)))) (.clean [0,1,5,6] (.seq (.block 1 [0,1,5,6] (.ops o_handselref02_Public_7)) (.clean [0,1,5,6] (.ops o_handselref02_Public_6)))))
def o_handselref02_Public_8 : List TIns := [⟨⟨(some 30),.mov (t 5),none⟩,0⟩,
  ⟨⟨(some 31),.call F_handselref01_Short [(t 30)],none⟩,0⟩,
  ⟨⟨(some 4),.mov (t 31),none⟩,0⟩]
def tc_handselref02_Public : TC := (.seq (.ops o_handselref02_Public_0) (.clean [0,1] (.seq (.seq (.ops o_handselref02_Public_1) (.clean [0,1,12] (.cond (t 12) (.seq (.ops o_handselref02_Public_2) (.ret [4])) .skip))) (.clean [0,1] (.seq (.ops o_handselref02_Public_3) (.clean [0,1,5] (.seq (.seq (.ops o_handselref02_Public_4) (.block 0 [5] (.clean [0,1,5,6] (.loop [0,1,5,6] l_handselref02_Public_1)))) (.clean [5] (.seq (.ops o_handselref02_Public_8) (.ret [4]))))))))))
def fn_handselref02_Public : TFn := ⟨32,tc_handselref02_Public,[.tmp 4],false⟩
theorem U_handselref02_Public : type_of% (And.intro @o_handselref02_Public_0.eq_1 (And.intro @o_handselref02_Public_1.eq_1 (And.intro @o_handselref02_Public_2.eq_1 (And.intro @o_handselref02_Public_3.eq_1 (And.intro @o_handselref02_Public_4.eq_1 (And.intro @o_handselref02_Public_5.eq_1 (And.intro @o_handselref02_Public_7.eq_1 (And.intro @o_handselref02_Public_6.eq_1 (And.intro @o_handselref02_Public_8.eq_1 (And.intro @tc_handselref02_Public.eq_1 @fn_handselref02_Public.eq_1)))))))))) := And.intro @o_handselref02_Public_0.eq_1 (And.intro @o_handselref02_Public_1.eq_1 (And.intro @o_handselref02_Public_2.eq_1 (And.intro @o_handselref02_Public_3.eq_1 (And.intro @o_handselref02_Public_4.eq_1 (And.intro @o_handselref02_Public_5.eq_1 (And.intro @o_handselref02_Public_7.eq_1 (And.intro @o_handselref02_Public_6.eq_1 (And.intro @o_handselref02_Public_8.eq_1 (And.intro @tc_handselref02_Public.eq_1 @fn_handselref02_Public.eq_1)))))))))
theorem c_handselref02_Public : fnIC Try.prog [] F_handselref02_Public = some (32,tc_handselref02_Public.erase,[.tmp 4]) := by kernel_rfl
def o_handselref01_Short_0 : List TIns := [⟨⟨(some 2),.mov (.const (Go.Value.string ⟨#[]⟩)),none⟩,0⟩]
def o_handselref01_Short_1 : List TIns := [⟨⟨(some 3),.mov (t 0),none⟩,0⟩,
  ⟨⟨(some 4),.call F_handselref01_Sum [(t 3)],none⟩,0⟩,
  ⟨⟨(some 5),.sliceStr (t 4) none (some (ci 16)),none⟩,0⟩,
  ⟨⟨(some 2),.mov (t 5),none⟩,0⟩]
def tc_handselref01_Short : TC := (.seq (.ops o_handselref01_Short_0) (.clean [0] (.seq (.ops o_handselref01_Short_1) (.ret [2]))))
def fn_handselref01_Short : TFn := ⟨6,tc_handselref01_Short,[.tmp 2],false⟩
theorem U_handselref01_Short : type_of% (And.intro @o_handselref01_Short_0.eq_1 (And.intro @o_handselref01_Short_1.eq_1 (And.intro @tc_handselref01_Short.eq_1 @fn_handselref01_Short.eq_1))) := And.intro @o_handselref01_Short_0.eq_1 (And.intro @o_handselref01_Short_1.eq_1 (And.intro @tc_handselref01_Short.eq_1 @fn_handselref01_Short.eq_1))
theorem c_handselref01_Short : fnIC Try.prog [] F_handselref01_Short = some (6,tc_handselref01_Short.erase,[.tmp 2]) := by kernel_rfl
def o_handselref02_Value_0 : List TIns := [⟨⟨(some 8),.mov (.const (Go.Value.string ⟨#[]⟩)),none⟩,0⟩]
def o_handselref02_Value_1 : List TIns := [⟨⟨(some 9),.mov (t 1),none⟩,0⟩,
  ⟨⟨(some 10),.bin .lss (t 9) (ci 0),none⟩,0⟩,
  ⟨⟨(some 11),.mov (t 10),none⟩,0⟩,
  ⟨⟨(some 12),.mov (t 1),(some (11,false))⟩,0⟩,
  ⟨⟨(some 13),.bin .gtr (t 12) (ci 255),(some (11,false))⟩,0⟩,
  ⟨⟨(some 14),.pick (t 11) (.const (Go.Value.bool true)) (t 13),none⟩,0⟩,
  ⟨⟨(some 15),.mov (t 14),none⟩,0⟩,
  ⟨⟨(some 16),.mov (t 2),(some (15,false))⟩,0⟩,
  ⟨⟨(some 17),.bin .lss (t 16) (ci 0),(some (15,false))⟩,0⟩,
  ⟨⟨(some 18),.pick (t 15) (.const (Go.Value.bool true)) (t 17),none⟩,0⟩,
  ⟨⟨(some 19),.mov (t 18),none⟩,0⟩,
  ⟨⟨(some 20),.mov (t 2),(some (19,false))⟩,0⟩,
  ⟨⟨(some 21),.bin .geq (t 20) (ci 16),(some (19,false))⟩,0⟩,
  ⟨⟨(some 22),.pick (t 19) (.const (Go.Value.bool true)) (t 21),none⟩,0⟩,
  ⟨⟨(some 23),.mov (t 22),none⟩,0⟩,
  ⟨⟨(some 24),.mov (t 3),(some (23,false))⟩,0⟩,
  ⟨⟨(some 25),.bin .lss (t 24) (ci 0),(some (23,false))⟩,0⟩,
  ⟨⟨(some 26),.pick (t 23) (.const (Go.Value.bool true)) (t 25),none⟩,0⟩,
  ⟨⟨(some 27),.mov (t 26),none⟩,0⟩,
  ⟨⟨(some 28),.mov (t 3),(some (27,false))⟩,0⟩,
  ⟨⟨(some 29),.bin .gtr (t 28) (ci 1),(some (27,false))⟩,0⟩,
  ⟨⟨(some 30),.pick (t 27) (.const (Go.Value.bool true)) (t 29),none⟩,0⟩]
def o_handselref02_Value_2 : List TIns := [⟨⟨(some 8),.mov (.const (Go.Value.string ⟨#[]⟩)),none⟩,0⟩]
def o_handselref02_Value_3 : List TIns := [⟨⟨(some 31),.mov (t 0),none⟩,0⟩,
  ⟨⟨(some 32),.mov (t 1),none⟩,0⟩,
  ⟨⟨(some 33),.conv .u8 (t 32),none⟩,0⟩,
  ⟨⟨(some 34),.mov (t 2),none⟩,0⟩,
  ⟨⟨(some 35),.conv .u8 (t 34),none⟩,0⟩,
  ⟨⟨(some 36),.mov (t 3),none⟩,0⟩,
  ⟨⟨(some 37),.conv .u8 (t 36),none⟩,0⟩,
  ⟨⟨(some 38),.buildSl T_uint8 1 3 [(.int .u8 0),(.int .u8 0),(.int .u8 0)] [(0,1,(t 33)),(1,1,(t 35)),(2,1,(t 37))],none⟩,0⟩,
  ⟨⟨(some 39),.toStr (t 38),none⟩,0⟩,
  ⟨⟨(some 40),.bin .add (t 31) (t 39),none⟩,0⟩,
  ⟨⟨(some 41),.call F_handselref01_Short [(t 40)],none⟩,0⟩,
  ⟨⟨(some 8),.mov (t 41),none⟩,0⟩]
def tc_handselref02_Value : TC := (.seq (.ops o_handselref02_Value_0) (.clean [0,1,2,3] (.seq (.seq (.ops o_handselref02_Value_1) (.clean [0,1,2,3,30] (.cond (t 30) (.seq (.ops o_handselref02_Value_2) (.ret [8])) .skip))) (.clean [0,1,2,3] (.seq (.ops o_handselref02_Value_3) (.ret [8]))))))
def fn_handselref02_Value : TFn := ⟨42,tc_handselref02_Value,[.tmp 8],false⟩
theorem U_handselref02_Value : type_of% (And.intro @o_handselref02_Value_0.eq_1 (And.intro @o_handselref02_Value_1.eq_1 (And.intro @o_handselref02_Value_2.eq_1 (And.intro @o_handselref02_Value_3.eq_1 (And.intro @tc_handselref02_Value.eq_1 @fn_handselref02_Value.eq_1))))) := And.intro @o_handselref02_Value_0.eq_1 (And.intro @o_handselref02_Value_1.eq_1 (And.intro @o_handselref02_Value_2.eq_1 (And.intro @o_handselref02_Value_3.eq_1 (And.intro @tc_handselref02_Value.eq_1 @fn_handselref02_Value.eq_1))))
theorem c_handselref02_Value : fnIC Try.prog [] F_handselref02_Value = some (42,tc_handselref02_Value.erase,[.tmp 8]) := by kernel_rfl
def o_handsellaw00_Seed_0 : List TIns := [⟨⟨(some 2),.mov (.const (Go.Value.string ⟨#[]⟩)),none⟩,0⟩]
def o_handsellaw00_Seed_1 : List TIns := [⟨⟨(some 3),.mov (t 0),none⟩,0⟩,
  ⟨⟨(some 4),.call F_handsellaw00_Digits [(t 3)],none⟩,0⟩,
  ⟨⟨(some 5),.bin .add (.const (Go.Value.string ⟨#[115,101,101,100]⟩)) (t 4),none⟩,0⟩,
  ⟨⟨(some 2),.mov (t 5),none⟩,0⟩]
def tc_handsellaw00_Seed : TC := (.seq (.ops o_handsellaw00_Seed_0) (.clean [0] (.seq (.ops o_handsellaw00_Seed_1) (.ret [2]))))
def fn_handsellaw00_Seed : TFn := ⟨6,tc_handsellaw00_Seed,[.tmp 2],false⟩
theorem U_handsellaw00_Seed : type_of% (And.intro @o_handsellaw00_Seed_0.eq_1 (And.intro @o_handsellaw00_Seed_1.eq_1 (And.intro @tc_handsellaw00_Seed.eq_1 @fn_handsellaw00_Seed.eq_1))) := And.intro @o_handsellaw00_Seed_0.eq_1 (And.intro @o_handsellaw00_Seed_1.eq_1 (And.intro @tc_handsellaw00_Seed.eq_1 @fn_handsellaw00_Seed.eq_1))
theorem c_handsellaw00_Seed : fnIC Try.prog [] F_handsellaw00_Seed = some (6,tc_handsellaw00_Seed.erase,[.tmp 2]) := by kernel_rfl
def o_handsellaw00_Place_0 : List TIns := [⟨⟨(some 4),.mov (ci 0),none⟩,0⟩]
def o_handsellaw00_Place_1 : List TIns := [⟨⟨(some 6),.mov (t 0),none⟩,0⟩,
  ⟨⟨(some 7),.mov (t 1),none⟩,0⟩,
  ⟨⟨(some 8),.bin .rem (t 6) (t 7),none⟩,0⟩,
  ⟨⟨(some 5),.mov (t 8),none⟩,0⟩]
def o_handsellaw00_Place_2 : List TIns := [⟨⟨(some 9),.mov (t 5),none⟩,0⟩,
  ⟨⟨(some 10),.bin .lss (t 9) (ci 0),none⟩,0⟩]
def o_handsellaw00_Place_3 : List TIns := [⟨⟨(some 11),.mov (t 5),none⟩,0⟩,
  ⟨⟨(some 12),.mov (t 1),none⟩,0⟩,
  ⟨⟨(some 13),.bin .add (t 11) (t 12),none⟩,0⟩,
  ⟨⟨(some 5),.mov (t 13),none⟩,0⟩]
def o_handsellaw00_Place_4 : List TIns := [⟨⟨(some 14),.mov (t 5),none⟩,0⟩,
  ⟨⟨(some 4),.mov (t 14),none⟩,0⟩]
def tc_handsellaw00_Place : TC := (.seq (.ops o_handsellaw00_Place_0) (.clean [0,1] (.seq (.ops o_handsellaw00_Place_1) (.clean [1,5] (.seq (.seq (.ops o_handsellaw00_Place_2) (.clean [1,5,10] (.cond (t 10) (.ops o_handsellaw00_Place_3) .skip))) (.clean [5] (.seq (.ops o_handsellaw00_Place_4) (.ret [4]))))))))
def fn_handsellaw00_Place : TFn := ⟨15,tc_handsellaw00_Place,[.tmp 4],false⟩
theorem U_handsellaw00_Place : type_of% (And.intro @o_handsellaw00_Place_0.eq_1 (And.intro @o_handsellaw00_Place_1.eq_1 (And.intro @o_handsellaw00_Place_2.eq_1 (And.intro @o_handsellaw00_Place_3.eq_1 (And.intro @o_handsellaw00_Place_4.eq_1 (And.intro @tc_handsellaw00_Place.eq_1 @fn_handsellaw00_Place.eq_1)))))) := And.intro @o_handsellaw00_Place_0.eq_1 (And.intro @o_handsellaw00_Place_1.eq_1 (And.intro @o_handsellaw00_Place_2.eq_1 (And.intro @o_handsellaw00_Place_3.eq_1 (And.intro @o_handsellaw00_Place_4.eq_1 (And.intro @tc_handsellaw00_Place.eq_1 @fn_handsellaw00_Place.eq_1)))))
theorem c_handsellaw00_Place : fnIC Try.prog [] F_handsellaw00_Place = some (15,tc_handsellaw00_Place.erase,[.tmp 4]) := by kernel_rfl
def o_handsellaw06_WhenNone_0 : List TIns := [⟨⟨(some 6),.mov (.const (Go.Value.bool false)),none⟩,0⟩]
def o_handsellaw06_WhenNone_1 : List TIns := [⟨⟨(some 8),.mov (t 0),none⟩,0⟩,
  ⟨⟨(some 9),.call F_handsellaw00_Place [(t 8),(ci 5)],none⟩,0⟩,
  ⟨⟨(some 10),.bin .add (ci 2) (t 9),none⟩,0⟩,
  ⟨⟨(some 11),.call F_handsellaw00_Ring [(t 10),(ci 5),(ci 6)],none⟩,0⟩,
  ⟨⟨(some 7),.box T_api_Spec 7 (.const (.agg #[(.string ⟨#[]⟩),(.slice none 0 0),(.slice none 0 0),(.slice none 0 0),(.slice none 0 0),(.int .i64 0),(.int .i64 0)])),none⟩,0⟩,
  ⟨⟨none,.store 7 (t 7) (t 11),none⟩,0⟩]
def o_handsellaw06_WhenNone_2 : List TIns := [⟨⟨(some 12),.loadN 7 (t 7),none⟩,0⟩,
  ⟨⟨(some 14),.fieldAddr 1 (t 7),none⟩,0⟩,
  ⟨⟨(some 15),.load1 (t 14),none⟩,0⟩,
  ⟨⟨(some 16),.lenL (t 15),none⟩,0⟩,
  ⟨⟨(some 17),.bin .mul (ci 12) (t 16),none⟩,0⟩,
  ⟨⟨(some 18),.bin .add (ci 5) (t 17),none⟩,0⟩,
  ⟨⟨(some 13),.call F_when_End [(t 12)],none⟩,0⟩,
  ⟨⟨(some 19),.bin .neq (t 13) (t 18),none⟩,0⟩]
def o_handsellaw06_WhenNone_3 : List TIns := [⟨⟨(some 6),.mov (.const (Go.Value.bool false)),none⟩,0⟩]
def o_handsellaw06_WhenNone_4 : List TIns := [⟨⟨(some 20),.mov (t 1),none⟩,0⟩,
  ⟨⟨(some 21),.call F_handsellaw00_Place [(t 20),(ci 5)],none⟩,0⟩]
def o_handsellaw06_WhenNone_6 : List TIns := [⟨⟨(some 24),.bin .eql (t 21) (ci 0),none⟩,0⟩,
  ⟨⟨(some 23),.mov (t 24),none⟩,0⟩]
def o_handsellaw06_WhenNone_7 : List TIns := [⟨⟨(some 25),.fieldAddr 6 (t 7),none⟩,0⟩,
  ⟨⟨none,.store 1 (t 25) (ci 0),none⟩,0⟩]
def o_handsellaw06_WhenNone_8 : List TIns := [⟨⟨(some 27),.bin .eql (t 21) (ci 1),none⟩,0⟩,
  ⟨⟨(some 26),.mov (t 27),none⟩,0⟩]
def o_handsellaw06_WhenNone_9 : List TIns := [⟨⟨(some 28),.fieldAddr 5 (t 7),none⟩,0⟩,
  ⟨⟨none,.store 1 (t 28) (ci (-1)),none⟩,0⟩]
def o_handsellaw06_WhenNone_10 : List TIns := [⟨⟨(some 30),.bin .eql (t 21) (ci 2),none⟩,0⟩,
  ⟨⟨(some 29),.mov (t 30),none⟩,0⟩]
def o_handsellaw06_WhenNone_11 : List TIns := [⟨⟨(some 31),.fieldAddr 0 (t 7),none⟩,0⟩,
  ⟨⟨none,.store 1 (t 31) (.const (Go.Value.string ⟨#[]⟩)),none⟩,0⟩]
def o_handsellaw06_WhenNone_12 : List TIns := [⟨⟨(some 33),.bin .eql (t 21) (ci 3),none⟩,0⟩,
  ⟨⟨(some 32),.mov (t 33),none⟩,0⟩]
def o_handsellaw06_WhenNone_13 : List TIns := [⟨⟨(some 34),.fieldAddr 2 (t 7),none⟩,0⟩,
  ⟨⟨none,.store 1 (t 34) (.const (Go.Value.slice none 0 0)),none⟩,0⟩]
def o_handsellaw06_WhenNone_5 : List TIns := [⟨⟨(some 22),.fieldAddr 6 (t 7),none⟩,0⟩,
  ⟨⟨none,.store 1 (t 22) (ci 1048577),none⟩,0⟩]
def o_handsellaw06_WhenNone_14 : List TIns := [⟨⟨(some 35),.loadN 7 (t 7),none⟩,0⟩,
  ⟨⟨(some 36),.call F_when_End [(t 35)],none⟩,0⟩,
  ⟨⟨(some 37),.bin .eql (t 36) (ci 0),none⟩,0⟩,
  ⟨⟨(some 38),.mov (t 37),none⟩,0⟩,
  ⟨⟨(some 39),.loadN 7 (t 7),(some (38,true))⟩,0⟩,
  ⟨⟨(some 40),.call F_when_Last [(t 39)],(some (38,true))⟩,0⟩,
  ⟨⟨(some 41),.bin .eql (t 40) (ci 0),(some (38,true))⟩,0⟩,
  ⟨⟨(some 42),.pick (t 38) (t 41) (.const (Go.Value.bool false)),none⟩,0⟩,
  ⟨⟨(some 43),.mov (t 42),none⟩,0⟩,
  ⟨⟨(some 44),.loadN 7 (t 7),(some (43,true))⟩,0⟩,
  ⟨⟨(some 45),.mov (t 2),(some (43,true))⟩,0⟩,
  ⟨⟨(some 46),.call F_when_Deadline [(t 44),(t 45)],(some (43,true))⟩,0⟩,
  ⟨⟨(some 47),.bin .eql (t 46) (ci 0),(some (43,true))⟩,0⟩,
  ⟨⟨(some 48),.pick (t 43) (t 47) (.const (Go.Value.bool false)),none⟩,0⟩,
  ⟨⟨(some 49),.mov (t 48),none⟩,0⟩,
  ⟨⟨(some 50),.loadN 7 (t 7),(some (49,true))⟩,0⟩,
  ⟨⟨(some 51),.call F_when_Table [(t 50)],(some (49,true))⟩,0⟩,
  ⟨⟨(some 52),.lenL (t 51),(some (49,true))⟩,0⟩,
  ⟨⟨(some 53),.bin .eql (t 52) (ci 0),(some (49,true))⟩,0⟩,
  ⟨⟨(some 54),.pick (t 49) (t 53) (.const (Go.Value.bool false)),none⟩,0⟩,
  ⟨⟨(some 55),.mov (t 54),none⟩,0⟩,
  ⟨⟨(some 56),.call F_handsellaw06_awake [],(some (55,true))⟩,0⟩,
  ⟨⟨(some 57),.pick (t 55) (t 56) (.const (Go.Value.bool false)),none⟩,0⟩,
  ⟨⟨(some 6),.mov (t 57),none⟩,0⟩]
def tc_handsellaw06_WhenNone : TC := (.seq (.ops o_handsellaw06_WhenNone_0) (.clean [0,1,2] (.seq (.ops o_handsellaw06_WhenNone_1) (.clean [1,2,7] (.seq (.seq (.draw (pl o_handsellaw06_WhenNone_2)) (.clean [1,2,7,19] (.cond (t 19) (.seq (.ops o_handsellaw06_WhenNone_3) (.ret [6])) .skip))) (.clean [1,2,7] (.seq (.seq (.ops o_handsellaw06_WhenNone_4) (.block 0 [2,7] (.seq (.ops o_handsellaw06_WhenNone_6) (.clean [2,7,21,23] (.cond (t 23) (.ops o_handsellaw06_WhenNone_7) (.seq (.ops o_handsellaw06_WhenNone_8) (.clean [2,7,21,26] (.cond (t 26) (.ops o_handsellaw06_WhenNone_9) (.seq (.ops o_handsellaw06_WhenNone_10) (.clean [2,7,21,29] (.cond (t 29) (.ops o_handsellaw06_WhenNone_11) (.seq (.ops o_handsellaw06_WhenNone_12) (.clean [2,7,32] (.cond (t 32) (.ops o_handsellaw06_WhenNone_13) (.ops o_handsellaw06_WhenNone_5))))))))))))))) (.clean [2,7] (.seq (.ops o_handsellaw06_WhenNone_14) (.ret [6]))))))))))
def fn_handsellaw06_WhenNone : TFn := ⟨58,tc_handsellaw06_WhenNone,[.tmp 6],false⟩
theorem U_handsellaw06_WhenNone : type_of% (And.intro @o_handsellaw06_WhenNone_0.eq_1 (And.intro @o_handsellaw06_WhenNone_1.eq_1 (And.intro @o_handsellaw06_WhenNone_2.eq_1 (And.intro @o_handsellaw06_WhenNone_3.eq_1 (And.intro @o_handsellaw06_WhenNone_4.eq_1 (And.intro @o_handsellaw06_WhenNone_6.eq_1 (And.intro @o_handsellaw06_WhenNone_7.eq_1 (And.intro @o_handsellaw06_WhenNone_8.eq_1 (And.intro @o_handsellaw06_WhenNone_9.eq_1 (And.intro @o_handsellaw06_WhenNone_10.eq_1 (And.intro @o_handsellaw06_WhenNone_11.eq_1 (And.intro @o_handsellaw06_WhenNone_12.eq_1 (And.intro @o_handsellaw06_WhenNone_13.eq_1 (And.intro @o_handsellaw06_WhenNone_5.eq_1 (And.intro @o_handsellaw06_WhenNone_14.eq_1 (And.intro @tc_handsellaw06_WhenNone.eq_1 @fn_handsellaw06_WhenNone.eq_1)))))))))))))))) := And.intro @o_handsellaw06_WhenNone_0.eq_1 (And.intro @o_handsellaw06_WhenNone_1.eq_1 (And.intro @o_handsellaw06_WhenNone_2.eq_1 (And.intro @o_handsellaw06_WhenNone_3.eq_1 (And.intro @o_handsellaw06_WhenNone_4.eq_1 (And.intro @o_handsellaw06_WhenNone_6.eq_1 (And.intro @o_handsellaw06_WhenNone_7.eq_1 (And.intro @o_handsellaw06_WhenNone_8.eq_1 (And.intro @o_handsellaw06_WhenNone_9.eq_1 (And.intro @o_handsellaw06_WhenNone_10.eq_1 (And.intro @o_handsellaw06_WhenNone_11.eq_1 (And.intro @o_handsellaw06_WhenNone_12.eq_1 (And.intro @o_handsellaw06_WhenNone_13.eq_1 (And.intro @o_handsellaw06_WhenNone_5.eq_1 (And.intro @o_handsellaw06_WhenNone_14.eq_1 (And.intro @tc_handsellaw06_WhenNone.eq_1 @fn_handsellaw06_WhenNone.eq_1)))))))))))))))
theorem c_handsellaw06_WhenNone : fnIC Try.prog [(2,⟨[0,2,3,4,5,6,1,7],[0,1,0,4,12,28,60,127],[],[]⟩)] F_handsellaw06_WhenNone = some (58,tc_handsellaw06_WhenNone.erase,[.tmp 6]) := by kernel_rfl
end Ic
end Go.Proofs.Ytdcfoaafkppojaa
