import Derived.Test.YtdcfoaafkppojaaProg
import Derived.Test.YtdcfoaafkppojaaTv9
import Derived.KernelRfl
set_option linter.unusedVariables false
/- The code of functions for the tree level, printed by a program out of the model's own print; the kernel checks each. -/
namespace Go.Proofs.Ytdcfoaafkppojaa
open Go Go.RowKit Sh
namespace Ic
abbrev t (n : Nat) : Operand := .tmp n
abbrev ci (n : Int) : Operand := .const (.int .i64 n)
abbrev ql : Nat := 15
abbrev ud : Nat := 27
abbrev zabv : Nat := 28
abbrev zabu : Nat := 44
abbrev uc : Nat := 45
abbrev pa : Nat := 47
abbrev rc : Nat := 49
abbrev yj : Nat := 51
abbrev zaez : Nat := 54
abbrev ut : Nat := 55
abbrev zafy : Nat := 56
abbrev zabr : Nat := 70
abbrev dt : Nat := 71
abbrev kx : Nat := 72
abbrev ig : Nat := 73
abbrev m7 : Nat := 74
abbrev jc : Nat := 75
abbrev kc : Nat := 76
abbrev m6 : Nat := 77
abbrev bp : Nat := 78
abbrev oo : Nat := 79
abbrev mg : Nat := 80
abbrev ky : Nat := 81
abbrev ub : Nat := 87
abbrev nu : Nat := 88
abbrev ua : Nat := 89
abbrev zaey : Nat := 90
abbrev iq : Nat := 91
abbrev g9 : Nat := 92
abbrev jo : Nat := 93
abbrev l7 : Nat := 94
abbrev ee : Nat := 95
abbrev lp : Nat := 100
abbrev jq : Nat := 101
abbrev ka : Nat := 102
abbrev lm : Nat := 103
abbrev fj : Nat := 104
abbrev jp : Nat := 105
abbrev kw : Nat := 106
abbrev qk : Nat := 107
abbrev m5 : Nat := 112
abbrev du : Nat := 113
abbrev az : Nat := 114
abbrev d4 : Nat := 115
abbrev ij : Nat := 116
abbrev nc : Nat := 119
abbrev zafx : Nat := 120
abbrev zu : Nat := 121
abbrev zt : Nat := 122
abbrev zae0 : Nat := 123
abbrev d6 : Nat := 128
abbrev jd : Nat := 129
abbrev cw : Nat := 131
abbrev ip : Nat := 132
abbrev fw : Nat := 133
abbrev a9 : Nat := 134
abbrev bu : Nat := 135
abbrev zabt : Nat := 136
abbrev ru : Nat := 137
abbrev yk : Nat := 138
abbrev nh : Nat := 139
abbrev je : Nat := 140
abbrev dk : Nat := 141
abbrev dx : Nat := 142
abbrev zabs : Nat := 143
abbrev lc : Nat := 144
abbrev uq : Nat := 3
abbrev fi : Nat := 5
abbrev fq : Nat := 9
abbrev dj : Nat := 27
abbrev mp : Nat := 43
abbrev dq : Nat := 45
abbrev cy : Nat := 68
abbrev j9 : Nat := 70
abbrev qi : Nat := 87
abbrev ah : Nat := 115
abbrev bq : Nat := 124
abbrev fv : Nat := 130
abbrev kq : Nat := 136
def zahv : List au := [⟨⟨(some 6),.mov (.const (Go.Value.bool false)),none⟩,0⟩]
def zahu : List au := [⟨⟨(some 12),.mov (t 0),none⟩,0⟩,
 ⟨⟨(some 13),.call ud [(t 12),(ci 5)],none⟩,0⟩,
 ⟨⟨(some 14),.bin .add (ci 2) (t 13),none⟩,0⟩,
 ⟨⟨(some 7),.mov (t 14),none⟩,0⟩]
def zaht : List au := [⟨⟨(some 15),.mov (t 7),none⟩,0⟩,
 ⟨⟨(some 16),.mov (t 1),none⟩,0⟩,
 ⟨⟨(some 17),.call ud [(t 16),(ci 1099511627776)],none⟩,0⟩,
 ⟨⟨(some 18),.mov (t 2),none⟩,0⟩,
 ⟨⟨(some 19),.call ud [(t 18),(ci 1048576)],none⟩,0⟩,
 ⟨⟨(some 20),.bin .add (ci 1) (t 19),none⟩,0⟩,
 ⟨⟨(some 21),.call zabv [(t 15),(t 17),(t 20)],none⟩,0⟩,
 ⟨⟨(some 8),.box dj 7 (.const (.agg #[(.string ⟨#[]⟩),(.slice none 0 0),(.slice none 0 0),(.slice none 0 0),(.slice none 0 0),(.int .i64 0),(.int .i64 0)])),none⟩,0⟩,
 ⟨⟨none,.store 7 (t 8) (t 21),none⟩,0⟩]
def zahs : List au := [⟨⟨(some 22),.mov (t 7),none⟩,0⟩,
 ⟨⟨(some 23),.bin .mul (t 22) (ci 46),none⟩,0⟩,
 ⟨⟨(some 24),.bin .add (ci 20) (t 23),none⟩,0⟩,
 ⟨⟨(some 25),.bin .add (t 24) (ci 8),none⟩,0⟩,
 ⟨⟨(some 26),.mov (t 7),none⟩,0⟩,
 ⟨⟨(some 27),.bin .mul (t 26) (ci 44),none⟩,0⟩,
 ⟨⟨(some 28),.bin .add (t 25) (t 27),none⟩,0⟩,
 ⟨⟨(some 29),.bin .add (t 28) (ci 8),none⟩,0⟩,
 ⟨⟨(some 30),.bin .add (t 29) (ci 8),none⟩,0⟩,
 ⟨⟨(some 31),.bin .add (t 30) (ci 8),none⟩,0⟩,
 ⟨⟨(some 32),.bin .add (t 31) (ci 8),none⟩,0⟩,
 ⟨⟨(some 33),.bin .add (t 32) (ci 32),none⟩,0⟩,
 ⟨⟨(some 34),.bin .add (t 33) (ci 16),none⟩,0⟩,
 ⟨⟨(some 9),.mov (t 34),none⟩,0⟩]
def zahr : List au := [⟨⟨(some 36),.loadN 7 (t 8),none⟩,0⟩,
 ⟨⟨(some 37),.call rc [(t 36)],none⟩,0⟩,
 ⟨⟨(some 38),.call uc [(t 37)],none⟩,0⟩,
 ⟨⟨(some 35),.mov (t 38),none⟩,0⟩,
 ⟨⟨(some 39),.extract (t 35) 0,none⟩,0⟩,
 ⟨⟨(some 40),.extract (t 35) 1,none⟩,0⟩,
 ⟨⟨(some 10),.box dj 7 (.const (.agg #[(.string ⟨#[]⟩),(.slice none 0 0),(.slice none 0 0),(.slice none 0 0),(.slice none 0 0),(.int .i64 0),(.int .i64 0)])),none⟩,0⟩,
 ⟨⟨none,.store 7 (t 10) (t 39),none⟩,0⟩,
 ⟨⟨(some 11),.mov (t 40),none⟩,0⟩]
def zahq : List au := [⟨⟨(some 41),.loadN 7 (t 8),none⟩,0⟩,
 ⟨⟨(some 42),.call rc [(t 41)],none⟩,0⟩,
 ⟨⟨(some 43),.lenS (t 42),none⟩,0⟩,
 ⟨⟨(some 44),.mov (t 9),none⟩,0⟩,
 ⟨⟨(some 45),.bin .eql (t 43) (t 44),none⟩,0⟩,
 ⟨⟨(some 46),.mov (t 45),none⟩,0⟩,
 ⟨⟨(some 47),.mov (t 11),(some (46,true))⟩,0⟩,
 ⟨⟨(some 48),.bin .eql (t 47) (ci 0),(some (46,true))⟩,0⟩,
 ⟨⟨(some 49),.pick (t 46) (t 48) (.const (Go.Value.bool false)),none⟩,0⟩,
 ⟨⟨(some 50),.mov (t 49),none⟩,0⟩,
 ⟨⟨(some 51),.loadN 7 (t 8),(some (50,true))⟩,0⟩,
 ⟨⟨(some 52),.loadN 7 (t 10),(some (50,true))⟩,0⟩,
 ⟨⟨(some 53),.call yj [(t 51),(t 52)],(some (50,true))⟩,0⟩,
 ⟨⟨(some 54),.pick (t 50) (t 53) (.const (Go.Value.bool false)),none⟩,0⟩,
 ⟨⟨(some 55),.mov (t 54),none⟩,0⟩,
 ⟨⟨(some 56),.call zabu [],(some (55,true))⟩,0⟩,
 ⟨⟨(some 57),.pick (t 55) (t 56) (.const (Go.Value.bool false)),none⟩,0⟩,
 ⟨⟨(some 6),.mov (t 57),none⟩,0⟩]
def zadf : TC := (.seq (.ops zahv) (.clean [0,1,2] (.seq (.ops zahu) (.clean [1,2,7] (.seq (.ops zaht) (.clean [7,8] (.seq (.ops zahs) (.clean [8,9] (.seq (.ops zahr) (.clean [8,9,10,11] (.seq (.ops zahq) (.ret [6]))))))))))))
def zadl : TFn := ⟨58,zadf,[.tmp 6],false⟩
theorem zaas : type_of% (ai @zahv.eq_1 (ai @zahu.eq_1 (ai @zaht.eq_1 (ai @zahs.eq_1 (ai @zahr.eq_1 (ai @zahq.eq_1 (ai @zadf.eq_1 @zadl.eq_1))))))) := ⟨rfl,rfl,rfl,rfl,rfl,rfl,rfl,rfl⟩
theorem zazw : uo Try.prog [] ql = some (58,zadf.erase,[.tmp 6]) := by kernel_rfl
def zas6 : List au := [⟨⟨(some 4),.mov (ci 0),none⟩,0⟩]
def zas5 : List au := [⟨⟨(some 6),.mov (t 0),none⟩,0⟩,
 ⟨⟨(some 7),.mov (t 1),none⟩,0⟩,
 ⟨⟨(some 8),.bin .rem (t 6) (t 7),none⟩,0⟩,
 ⟨⟨(some 5),.mov (t 8),none⟩,0⟩]
def zas4 : List au := [⟨⟨(some 9),.mov (t 5),none⟩,0⟩,
 ⟨⟨(some 10),.bin .lss (t 9) (ci 0),none⟩,0⟩]
def zas3 : List au := [⟨⟨(some 11),.mov (t 5),none⟩,0⟩,
 ⟨⟨(some 12),.mov (t 1),none⟩,0⟩,
 ⟨⟨(some 13),.bin .add (t 11) (t 12),none⟩,0⟩,
 ⟨⟨(some 5),.mov (t 13),none⟩,0⟩]
def zas2 : List au := [⟨⟨(some 14),.mov (t 5),none⟩,0⟩,
 ⟨⟨(some 4),.mov (t 14),none⟩,0⟩]
def zakq : TC := (.seq (.ops zas6) (.clean [0,1] (.seq (.ops zas5) (.clean [1,5] (.seq (.seq (.ops zas4) (.clean [1,5,10] (.cond (t 10) (.ops zas3) .skip))) (.clean [5] (.seq (.ops zas2) (.ret [4]))))))))
def zal0 : TFn := ⟨15,zakq,[.tmp 4],false⟩
theorem zaz3 : type_of% (ai @zas6.eq_1 (ai @zas5.eq_1 (ai @zas4.eq_1 (ai @zas3.eq_1 (ai @zas2.eq_1 (ai @zakq.eq_1 @zal0.eq_1)))))) := ⟨rfl,rfl,rfl,rfl,rfl,rfl,rfl⟩
theorem zbcf : uo Try.prog [] ud = some (15,zakq.erase,[.tmp 4]) := by kernel_rfl
def zav5 : List au := [⟨⟨(some 6),.box dj 7 (.const (.agg #[(.string ⟨#[]⟩),(.slice none 0 0),(.slice none 0 0),(.slice none 0 0),(.slice none 0 0),(.int .i64 0),(.int .i64 0)])),none⟩,0⟩]
def zav4 : List au := [⟨⟨(some 9),.mov (t 0),none⟩,0⟩,
 ⟨⟨(some 10),.call zaez [(t 9),(ci 0),(ci 2)],none⟩,0⟩,
 ⟨⟨(some 11),.buildSl uq 1 1 [(.int .i64 0)] [(0,1,(ci 0))],none⟩,0⟩,
 ⟨⟨(some 12),.mov (t 1),none⟩,0⟩,
 ⟨⟨(some 13),.mov (t 2),none⟩,0⟩,
 ⟨⟨(some 14),.build [(.string ⟨#[]⟩),(.slice none 0 0),(.slice none 0 0),(.slice none 0 0),(.slice none 0 0),(.int .i64 0),(.int .i64 0)] [(0,1,(.const (Go.Value.string ⟨#[114,105,110,103]⟩))),(2,1,(t 10)),(3,1,(t 11)),(5,1,(t 12)),(6,1,(t 13))],none⟩,0⟩,
 ⟨⟨(some 7),.box dj 7 (.const (.agg #[(.string ⟨#[]⟩),(.slice none 0 0),(.slice none 0 0),(.slice none 0 0),(.slice none 0 0),(.int .i64 0),(.int .i64 0)])),none⟩,0⟩,
 ⟨⟨none,.store 7 (t 7) (t 14),none⟩,0⟩]
def zav3 : List au := [⟨⟨(some 8),.mov (ci 0),none⟩,0⟩]
def zav2 : List au := [⟨⟨(some 15),.mov (t 8),none⟩,0⟩,
 ⟨⟨(some 16),.mov (t 0),none⟩,0⟩,
 ⟨⟨(some 17),.bin .lss (t 15) (t 16),none⟩,0⟩]
def zav0 : List au := [⟨⟨(some 20),.fieldAddr 1 (t 7),none⟩,0⟩,
 ⟨⟨(some 21),.load1 (t 20),none⟩,0⟩,
 ⟨⟨(some 22),.mov (t 8),none⟩,0⟩,
 ⟨⟨(some 23),.call ut [(t 22)],none⟩,0⟩,
 ⟨⟨(some 24),.build [(.string ⟨#[]⟩),(.slice none 0 0)] [(0,1,(t 23))],none⟩,0⟩,
 ⟨⟨(some 25),.buildSl dq 2 1 [(.string ⟨#[]⟩),(.slice none 0 0)] [(0,2,(t 24))],none⟩,0⟩,
 ⟨⟨(some 26),.append dq 2 40 (t 21) (t 25),none⟩,1⟩,
 ⟨⟨(some 27),.fieldAddr 1 (t 7),none⟩,9⟩,
 ⟨⟨none,.store 1 (t 27) (t 26),none⟩,0⟩]
def zav1 : List au := [⟨⟨(some 18),.mov (t 8),none⟩,0⟩,
 ⟨⟨(some 19),.bin .add (t 18) (ci 1),none⟩,0⟩,
 ⟨⟨(some 8),.mov (t 19),none⟩,0⟩]
def zac3 : TC := (.seq (.seq (.ops zav2) (.clean [0,6,7,8,17] (.cond (t 17) .skip (.exit 0)))) (.clean [0,6,7,8] (.seq (.block 1 [0,6,7,8] (.draw (pl zav0))) (.clean [0,6,7,8] (.ops zav1)))))
def zavz : List au := [⟨⟨(some 28),.loadN 7 (t 7),none⟩,0⟩,
 ⟨⟨(some 29),.call zafy [(t 28)],none⟩,0⟩,
 ⟨⟨none,.store 7 (t 6) (t 29),none⟩,9⟩]
def zapi : TC := (.seq (.ops zav5) (.clean [0,1,2,6] (.seq (.ops zav4) (.clean [0,6,7] (.seq (.seq (.ops zav3) (.block 0 [6,7] (.clean [0,6,7,8] (.loop [0,6,7,8] zac3)))) (.clean [6,7] (.seq (.ops zavz) (.ret [6]))))))))
def zap2 : TFn := ⟨30,zapi,[.cellN 6 7],true⟩
theorem zamq : type_of% (ai @zav5.eq_1 (ai @zav4.eq_1 (ai @zav3.eq_1 (ai @zav2.eq_1 (ai @zav0.eq_1 (ai @zav1.eq_1 (ai @zavz.eq_1 (ai @zapi.eq_1 @zap2.eq_1)))))))) := ⟨rfl,rfl,rfl,rfl,rfl,rfl,rfl,rfl,rfl⟩
theorem c_L00_Ring : uo Try.prog [(5,⟨[0,1,2,3,4,5,6,7,8],[0,1,0,4,12,28,63,127,255],[],[]⟩)] zabv = some (30,zapi.erase,[.cellN 6 7]) := by kernel_rfl
def zavw : List au := [⟨⟨(some 6),.mov (.const (Go.Value.slice none 0 0)),none⟩,0⟩]
def zavv : List au := [⟨⟨(some 7),.mov (.const (Go.Value.slice none 0 0)),none⟩,0⟩]
def zavu : List au := [⟨⟨(some 8),.mov (ci 0),none⟩,0⟩]
def zavt : List au := [⟨⟨(some 12),.mov (t 8),none⟩,0⟩,
 ⟨⟨(some 13),.mov (t 0),none⟩,0⟩,
 ⟨⟨(some 14),.bin .lss (t 12) (t 13),none⟩,0⟩]
def zavr : List au := [⟨⟨(some 17),.mov (t 7),none⟩,0⟩,
 ⟨⟨(some 18),.mov (t 8),none⟩,0⟩,
 ⟨⟨(some 19),.mov (t 8),none⟩,0⟩,
 ⟨⟨(some 20),.bin .add (t 19) (ci 1),none⟩,0⟩,
 ⟨⟨(some 21),.mov (t 0),none⟩,0⟩,
 ⟨⟨(some 22),.bin .rem (t 20) (t 21),none⟩,0⟩,
 ⟨⟨(some 23),.build [(.int .i64 0),(.int .i64 0),(.int .i64 0),(.string ⟨#[]⟩),(.int .i64 0)] [(0,1,(t 18)),(1,1,(t 22))],none⟩,0⟩,
 ⟨⟨(some 24),.buildSl mp 5 1 [(.int .i64 0),(.int .i64 0),(.int .i64 0),(.string ⟨#[]⟩),(.int .i64 0)] [(0,5,(t 23))],none⟩,0⟩,
 ⟨⟨(some 25),.append mp 5 48 (t 17) (t 24),none⟩,1⟩,
 ⟨⟨(some 7),.mov (t 25),none⟩,0⟩]
def zavs : List au := [⟨⟨(some 15),.mov (t 8),none⟩,0⟩,
 ⟨⟨(some 16),.bin .add (t 15) (ci 1),none⟩,0⟩,
 ⟨⟨(some 8),.mov (t 16),none⟩,0⟩]
def zk : TC := (.seq (.seq (.ops zavt) (.clean [0,1,2,7,8,14] (.cond (t 14) .skip (.exit 0)))) (.clean [0,1,2,7,8] (.seq (.block 1 [0,1,2,7,8] (.ops zavr)) (.clean [0,1,2,7,8] (.ops zavs)))))
def zavq : List au := [⟨⟨(some 9),.mov (ci 0),none⟩,0⟩]
def zavp : List au := [⟨⟨(some 26),.mov (t 9),none⟩,0⟩,
 ⟨⟨(some 27),.mov (t 0),none⟩,0⟩,
 ⟨⟨(some 28),.bin .lss (t 26) (t 27),none⟩,0⟩]
def zavn : List au := [⟨⟨(some 10),.mov (ci 0),none⟩,0⟩]
def zas1 : List au := [⟨⟨(some 31),.mov (t 10),none⟩,0⟩,
 ⟨⟨(some 32),.mov (t 0),none⟩,0⟩,
 ⟨⟨(some 33),.bin .lss (t 31) (t 32),none⟩,0⟩]
def zasz : List au := [⟨⟨(some 36),.mov (t 9),none⟩,0⟩,
 ⟨⟨(some 37),.mov (t 10),none⟩,0⟩,
 ⟨⟨(some 38),.bin .eql (t 36) (t 37),none⟩,0⟩,
 ⟨⟨(some 39),.mov (t 38),none⟩,0⟩,
 ⟨⟨(some 40),.mov (t 10),(some (39,false))⟩,0⟩,
 ⟨⟨(some 41),.mov (t 9),(some (39,false))⟩,0⟩,
 ⟨⟨(some 42),.bin .add (t 41) (ci 1),(some (39,false))⟩,0⟩,
 ⟨⟨(some 43),.mov (t 0),(some (39,false))⟩,0⟩,
 ⟨⟨(some 44),.bin .rem (t 42) (t 43),(some (39,false))⟩,0⟩,
 ⟨⟨(some 45),.bin .eql (t 40) (t 44),(some (39,false))⟩,0⟩,
 ⟨⟨(some 46),.pick (t 39) (.const (Go.Value.bool true)) (t 45),none⟩,0⟩]
def zasy : List au := [⟨⟨(some 47),.mov (t 1),none⟩,0⟩,
 ⟨⟨(some 48),.bin .rem (t 47) (ci 2),none⟩,0⟩,
 ⟨⟨(some 49),.bin .eql (t 48) (ci 1),none⟩,0⟩,
 ⟨⟨(some 50),.mov (t 49),none⟩,0⟩,
 ⟨⟨(some 51),.mov (t 7),(some (50,true))⟩,0⟩,
 ⟨⟨(some 52),.lenL (t 51),(some (50,true))⟩,0⟩,
 ⟨⟨(some 53),.bin .lss (t 52) (ci 8),(some (50,true))⟩,0⟩,
 ⟨⟨(some 54),.pick (t 50) (t 53) (.const (Go.Value.bool false)),none⟩,0⟩]
def zasx : List au := [⟨⟨(some 55),.mov (t 7),none⟩,0⟩,
 ⟨⟨(some 56),.mov (t 9),none⟩,0⟩,
 ⟨⟨(some 57),.mov (t 10),none⟩,0⟩,
 ⟨⟨(some 58),.build [(.int .i64 0),(.int .i64 0),(.int .i64 0),(.string ⟨#[]⟩),(.int .i64 0)] [(0,1,(t 56)),(1,1,(t 57))],none⟩,0⟩,
 ⟨⟨(some 59),.buildSl mp 5 1 [(.int .i64 0),(.int .i64 0),(.int .i64 0),(.string ⟨#[]⟩),(.int .i64 0)] [(0,5,(t 58))],none⟩,0⟩,
 ⟨⟨(some 60),.append mp 5 48 (t 55) (t 59),none⟩,1⟩,
 ⟨⟨(some 7),.mov (t 60),none⟩,0⟩]
def zasw : List au := [⟨⟨(some 61),.mov (t 1),none⟩,0⟩,
 ⟨⟨(some 62),.bin .quo (t 61) (ci 2),none⟩,0⟩,
 ⟨⟨(some 1),.mov (t 62),none⟩,0⟩]
def zas0 : List au := [⟨⟨(some 34),.mov (t 10),none⟩,0⟩,
 ⟨⟨(some 35),.bin .add (t 34) (ci 1),none⟩,0⟩,
 ⟨⟨(some 10),.mov (t 35),none⟩,0⟩]
def ji : TC := (.seq (.seq (.ops zas1) (.clean [0,1,2,7,9,10,33] (.cond (t 33) .skip (.exit 4)))) (.clean [0,1,2,7,9,10] (.seq (.block 5 [0,1,2,7,9,10] (.seq (.seq (.ops zasz) (.clean [0,1,2,7,9,10,46] (.cond (t 46) (.exit 5) .skip))) (.clean [0,1,2,7,9,10] (.seq (.seq (.ops zasy) (.clean [0,1,2,7,9,10,54] (.cond (t 54) (.ops zasx) .skip))) (.clean [0,1,2,7,9,10] (.ops zasw)))))) (.clean [0,1,2,7,9,10] (.ops zas0)))))
def zavo : List au := [⟨⟨(some 29),.mov (t 9),none⟩,0⟩,
 ⟨⟨(some 30),.bin .add (t 29) (ci 1),none⟩,0⟩,
 ⟨⟨(some 9),.mov (t 30),none⟩,0⟩]
def zj : TC := (.seq (.seq (.ops zavp) (.clean [0,1,2,7,9,28] (.cond (t 28) .skip (.exit 2)))) (.clean [0,1,2,7,9] (.seq (.block 3 [0,1,2,7,9] (.seq (.ops zavn) (.block 4 [0,1,2,7,9] (.clean [0,1,2,7,9,10] (.loop [0,1,2,7,9,10] ji))))) (.clean [0,1,2,7,9] (.ops zavo)))))
def zasv : List au := [⟨⟨(some 11),.mov (ci 0),none⟩,0⟩]
def zasu : List au := [⟨⟨(some 63),.mov (t 11),none⟩,0⟩,
 ⟨⟨(some 64),.mov (t 7),none⟩,0⟩,
 ⟨⟨(some 65),.lenL (t 64),none⟩,0⟩,
 ⟨⟨(some 66),.bin .lss (t 63) (t 65),none⟩,0⟩]
def zass : List au := [⟨⟨(some 69),.mov (t 7),none⟩,0⟩,
 ⟨⟨(some 70),.mov (t 11),none⟩,0⟩,
 ⟨⟨(some 71),.mov (t 11),none⟩,0⟩,
 ⟨⟨(some 72),.mov (t 2),none⟩,0⟩,
 ⟨⟨(some 73),.bin .add (t 71) (t 72),none⟩,0⟩,
 ⟨⟨(some 74),.mov (t 2),none⟩,0⟩,
 ⟨⟨(some 75),.bin .rem (t 74) (ci 3),none⟩,0⟩,
 ⟨⟨(some 76),.bin .add (ci 1) (t 75),none⟩,0⟩,
 ⟨⟨(some 77),.bin .rem (t 73) (t 76),none⟩,0⟩,
 ⟨⟨(some 78),.indexSl 5 (t 69) (t 70),none⟩,0⟩,
 ⟨⟨(some 79),.fieldAddr 2 (t 78),none⟩,0⟩,
 ⟨⟨none,.store 1 (t 79) (t 77),none⟩,0⟩]
def zasr : List au := [⟨⟨(some 80),.mov (t 7),none⟩,0⟩,
 ⟨⟨(some 81),.mov (t 11),none⟩,0⟩,
 ⟨⟨(some 82),.build [(.string ⟨#[]⟩),(.string ⟨#[]⟩)] [(0,1,(.const (Go.Value.string ⟨#[103,111,108,100]⟩))),(1,1,(.const (Go.Value.string ⟨#[115,97,108,116]⟩)))],none⟩,0⟩,
 ⟨⟨(some 83),.mov (t 11),none⟩,0⟩,
 ⟨⟨(some 84),.mov (t 1),none⟩,0⟩,
 ⟨⟨(some 85),.bin .add (t 83) (t 84),none⟩,0⟩,
 ⟨⟨(some 86),.bin .rem (t 85) (ci 2),none⟩,0⟩,
 ⟨⟨(some 87),.indexAgg 2 (t 82) (t 86),none⟩,0⟩,
 ⟨⟨(some 88),.indexSl 5 (t 80) (t 81),none⟩,0⟩,
 ⟨⟨(some 89),.fieldAddr 3 (t 88),none⟩,0⟩,
 ⟨⟨none,.store 1 (t 89) (t 87),none⟩,0⟩]
def zasq : List au := [⟨⟨(some 90),.mov (t 7),none⟩,0⟩,
 ⟨⟨(some 91),.mov (t 11),none⟩,0⟩,
 ⟨⟨(some 92),.mov (t 11),none⟩,0⟩,
 ⟨⟨(some 93),.bin .mul (ci 7) (t 92),none⟩,0⟩,
 ⟨⟨(some 94),.mov (t 2),none⟩,0⟩,
 ⟨⟨(some 95),.bin .add (t 93) (t 94),none⟩,0⟩,
 ⟨⟨(some 96),.bin .rem (t 95) (ci 20),none⟩,0⟩,
 ⟨⟨(some 97),.bin .add (ci 1) (t 96),none⟩,0⟩,
 ⟨⟨(some 98),.indexSl 5 (t 90) (t 91),none⟩,0⟩,
 ⟨⟨(some 99),.fieldAddr 4 (t 98),none⟩,0⟩,
 ⟨⟨none,.store 1 (t 99) (t 97),none⟩,0⟩]
def zast : List au := [⟨⟨(some 67),.mov (t 11),none⟩,0⟩,
 ⟨⟨(some 68),.bin .add (t 67) (ci 1),none⟩,0⟩,
 ⟨⟨(some 11),.mov (t 68),none⟩,0⟩]
def zac2 : TC := (.seq (.seq (.ops zasu) (.clean [1,2,7,11,66] (.cond (t 66) .skip (.exit 6)))) (.clean [1,2,7,11] (.seq (.block 7 [1,2,7,11] (.seq (.ops zass) (.clean [1,2,7,11] (.seq (.ops zasr) (.clean [1,2,7,11] (.ops zasq)))))) (.clean [1,2,7,11] (.ops zast)))))
def zasp : List au := [⟨⟨(some 100),.mov (t 7),none⟩,0⟩,
 ⟨⟨(some 6),.mov (t 100),none⟩,0⟩]
def zapg : TC := (.seq (.ops zavw) (.clean [0,1,2] (.seq (.ops zavv) (.clean [0,1,2,7] (.seq (.seq (.ops zavu) (.block 0 [0,1,2,7] (.clean [0,1,2,7,8] (.loop [0,1,2,7,8] zk)))) (.clean [0,1,2,7] (.seq (.seq (.ops zavq) (.block 2 [1,2,7] (.clean [0,1,2,7,9] (.loop [0,1,2,7,9] zj)))) (.clean [1,2,7] (.seq (.seq (.ops zasv) (.block 6 [7] (.clean [1,2,7,11] (.loop [1,2,7,11] zac2)))) (.clean [7] (.seq (.ops zasp) (.ret [6]))))))))))))
def zap0 : TFn := ⟨101,zapg,[.tmp 6],true⟩
theorem fh : type_of% (ai @zavw.eq_1 (ai @zavv.eq_1 (ai @zavu.eq_1 (ai @zavt.eq_1 (ai @zavr.eq_1 (ai @zavs.eq_1 (ai @zavq.eq_1 (ai @zavp.eq_1 (ai @zavn.eq_1 (ai @zas1.eq_1 (ai @zasz.eq_1 (ai @zasy.eq_1 (ai @zasx.eq_1 (ai @zasw.eq_1 (ai @zas0.eq_1 (ai @zavo.eq_1 (ai @zasv.eq_1 (ai @zasu.eq_1 (ai @zass.eq_1 (ai @zasr.eq_1 (ai @zasq.eq_1 (ai @zast.eq_1 (ai @zasp.eq_1 (ai @zapg.eq_1 @zap0.eq_1)))))))))))))))))))))))) := ⟨rfl,rfl,rfl,rfl,rfl,rfl,rfl,rfl,rfl,rfl,rfl,rfl,rfl,rfl,rfl,rfl,rfl,rfl,rfl,rfl,rfl,rfl,rfl,rfl,rfl⟩
theorem c_L00_arcs : uo Try.prog [] zaez = some (101,zapg.erase,[.tmp 6]) := by kernel_rfl
def zalk : List au := [⟨⟨(some 2),.mov (.const (Go.Value.string ⟨#[]⟩)),none⟩,0⟩]
def zalj : List au := [⟨⟨(some 3),.mov (t 0),none⟩,0⟩,
 ⟨⟨(some 4),.call nc [(t 3)],none⟩,0⟩,
 ⟨⟨(some 5),.bin .add (.const (Go.Value.string ⟨#[112,97,114,116,121]⟩)) (t 4),none⟩,0⟩,
 ⟨⟨(some 2),.mov (t 5),none⟩,0⟩]
def zagn : TC := (.seq (.ops zalk) (.clean [0] (.seq (.ops zalj) (.ret [2]))))
def zagw : TFn := ⟨6,zagn,[.tmp 2],false⟩
theorem za43 : type_of% (ai @zalk.eq_1 (ai @zalj.eq_1 (ai @zagn.eq_1 @zagw.eq_1))) := ⟨rfl,rfl,rfl,rfl⟩
theorem za4x : uo Try.prog [] ut = some (6,zagn.erase,[.tmp 2]) := by kernel_rfl
def zao4 : List au := [⟨⟨(some 2),.mov (.const (Go.Value.string ⟨#[]⟩)),none⟩,0⟩]
def zao3 : List au := [⟨⟨(some 5),.mov (t 0),none⟩,0⟩,
 ⟨⟨(some 6),.bin .leq (t 5) (ci (-10)),none⟩,0⟩,
 ⟨⟨(some 4),.mov (t 6),none⟩,0⟩]
def zao2 : List au := [⟨⟨(some 7),.mov (t 0),none⟩,0⟩,
 ⟨⟨(some 8),.bin .rem (t 7) (ci 10),none⟩,0⟩,
 ⟨⟨(some 9),.un .neg (t 8),none⟩,0⟩,
 ⟨⟨(some 3),.mov (t 9),none⟩,0⟩]
def zao1 : List au := [⟨⟨(some 10),.mov (t 0),none⟩,0⟩,
 ⟨⟨(some 11),.bin .quo (t 10) (ci 10),none⟩,0⟩,
 ⟨⟨(some 13),.mov (t 3),none⟩,0⟩,
 ⟨⟨(some 14),.mov (t 3),none⟩,0⟩,
 ⟨⟨(some 15),.bin .add (t 14) (ci 1),none⟩,0⟩,
 ⟨⟨(some 16),.sliceStr (.const (Go.Value.string ⟨#[48,49,50,51,52,53,54,55,56,57]⟩)) (some (t 13)) (some (t 15)),none⟩,0⟩,
 ⟨⟨(some 12),.call nc [(t 11)],none⟩,0⟩,
 ⟨⟨(some 17),.bin .add (t 12) (t 16),none⟩,0⟩,
 ⟨⟨(some 2),.mov (t 17),none⟩,0⟩]
def zao0 : List au := [⟨⟨(some 19),.mov (t 0),none⟩,0⟩,
 ⟨⟨(some 20),.bin .lss (t 19) (ci 0),none⟩,0⟩,
 ⟨⟨(some 18),.mov (t 20),none⟩,0⟩]
def zaoz : List au := [⟨⟨(some 21),.mov (t 0),none⟩,0⟩,
 ⟨⟨(some 22),.un .neg (t 21),none⟩,0⟩,
 ⟨⟨(some 23),.mov (t 0),none⟩,0⟩,
 ⟨⟨(some 24),.un .neg (t 23),none⟩,0⟩,
 ⟨⟨(some 25),.bin .add (t 24) (ci 1),none⟩,0⟩,
 ⟨⟨(some 26),.sliceStr (.const (Go.Value.string ⟨#[48,49,50,51,52,53,54,55,56,57]⟩)) (some (t 22)) (some (t 25)),none⟩,0⟩,
 ⟨⟨(some 27),.bin .add (.const (Go.Value.string ⟨#[45]⟩)) (t 26),none⟩,0⟩,
 ⟨⟨(some 2),.mov (t 27),none⟩,0⟩]
def zaoy : List au := [⟨⟨(some 29),.mov (t 0),none⟩,0⟩,
 ⟨⟨(some 30),.bin .lss (t 29) (ci 10),none⟩,0⟩,
 ⟨⟨(some 28),.mov (t 30),none⟩,0⟩]
def zaox : List au := [⟨⟨(some 31),.mov (t 0),none⟩,0⟩,
 ⟨⟨(some 32),.mov (t 0),none⟩,0⟩,
 ⟨⟨(some 33),.bin .add (t 32) (ci 1),none⟩,0⟩,
 ⟨⟨(some 34),.sliceStr (.const (Go.Value.string ⟨#[48,49,50,51,52,53,54,55,56,57]⟩)) (some (t 31)) (some (t 33)),none⟩,0⟩,
 ⟨⟨(some 2),.mov (t 34),none⟩,0⟩]
def zaow : List au := [⟨⟨(some 35),.mov (t 0),none⟩,0⟩,
 ⟨⟨(some 36),.bin .quo (t 35) (ci 10),none⟩,0⟩,
 ⟨⟨(some 38),.mov (t 0),none⟩,0⟩,
 ⟨⟨(some 39),.bin .rem (t 38) (ci 10),none⟩,0⟩,
 ⟨⟨(some 40),.mov (t 0),none⟩,0⟩,
 ⟨⟨(some 41),.bin .rem (t 40) (ci 10),none⟩,0⟩,
 ⟨⟨(some 42),.bin .add (t 41) (ci 1),none⟩,0⟩,
 ⟨⟨(some 43),.sliceStr (.const (Go.Value.string ⟨#[48,49,50,51,52,53,54,55,56,57]⟩)) (some (t 39)) (some (t 42)),none⟩,0⟩,
 ⟨⟨(some 37),.call nc [(t 36)],none⟩,0⟩,
 ⟨⟨(some 44),.bin .add (t 37) (t 43),none⟩,0⟩,
 ⟨⟨(some 2),.mov (t 44),none⟩,0⟩]
def zaim : TC := (.seq (.ops zao4) (.clean [0] (.seq (.block 0 [0] (.seq (.ops zao3) (.clean [0,4] (.cond (t 4) (.seq (.ops zao2) (.clean [0,3] (.seq (.draw (pl zao1)) (.ret [2])))) (.seq (.ops zao0) (.clean [0,18] (.cond (t 18) (.seq (.ops zaoz) (.ret [2])) (.seq (.ops zaoy) (.clean [0,28] (.cond (t 28) (.seq (.ops zaox) (.ret [2])) .skip)))))))))) (.clean [0] (.seq (.draw (pl zaow)) (.ret [2]))))))
def zai7 : TFn := ⟨45,zaim,[.tmp 2],false⟩
theorem za96 : type_of% (ai @zao4.eq_1 (ai @zao3.eq_1 (ai @zao2.eq_1 (ai @zao1.eq_1 (ai @zao0.eq_1 (ai @zaoz.eq_1 (ai @zaoy.eq_1 (ai @zaox.eq_1 (ai @zaow.eq_1 (ai @zaim.eq_1 @zai7.eq_1)))))))))) := ⟨rfl,rfl,rfl,rfl,rfl,rfl,rfl,rfl,rfl,rfl,rfl⟩
theorem za9t : uo Try.prog [(3,⟨[0,1,3,4,5,6,2,7,8],[0,1,3,0,0,16,56,127,255],[],[]⟩),(8,⟨[0,1,3,4,5,6,7,8,2,9,10],[0,1,3,0,8,0,32,96,248,511,1023],[],[]⟩)] nc = some (45,zaim.erase,[.tmp 2]) := by kernel_rfl
def zaso : List au := [⟨⟨(some 1),.box dj 7 (t 0),none⟩,0⟩,
 ⟨⟨(some 2),.box dj 7 (.const (.agg #[(.string ⟨#[]⟩),(.slice none 0 0),(.slice none 0 0),(.slice none 0 0),(.slice none 0 0),(.int .i64 0),(.int .i64 0)])),none⟩,0⟩]
def zasn : List au := [⟨⟨(some 6),.fieldAddr 4 (t 1),none⟩,0⟩,
 ⟨⟨none,.store 1 (t 6) (.const (Go.Value.slice none 0 0)),none⟩,0⟩]
def zasm : List au := [⟨⟨(some 3),.mov (ci 0),none⟩,0⟩]
def zasl : List au := [⟨⟨(some 7),.mov (t 3),none⟩,0⟩,
 ⟨⟨(some 8),.fieldAddr 3 (t 1),none⟩,0⟩,
 ⟨⟨(some 9),.load1 (t 8),none⟩,0⟩,
 ⟨⟨(some 10),.lenL (t 9),none⟩,0⟩,
 ⟨⟨(some 11),.bin .lss (t 7) (t 10),none⟩,0⟩]
def zasj : List au := [⟨⟨(some 14),.fieldAddr 4 (t 1),none⟩,0⟩,
 ⟨⟨(some 15),.load1 (t 14),none⟩,2⟩,
 ⟨⟨(some 16),.mov (t 3),none⟩,0⟩,
 ⟨⟨(some 17),.call zu [(t 16)],none⟩,0⟩,
 ⟨⟨(some 18),.call zafx [(t 17)],none⟩,0⟩,
 ⟨⟨(some 19),.buildSl fq 1 1 [(.string ⟨#[]⟩)] [(0,1,(t 18))],none⟩,0⟩,
 ⟨⟨(some 20),.append fq 1 16 (t 15) (t 19),none⟩,0⟩,
 ⟨⟨(some 21),.fieldAddr 4 (t 1),none⟩,0⟩,
 ⟨⟨none,.store 1 (t 21) (t 20),none⟩,2⟩]
def zask : List au := [⟨⟨(some 12),.mov (t 3),none⟩,0⟩,
 ⟨⟨(some 13),.bin .add (t 12) (ci 1),none⟩,0⟩,
 ⟨⟨(some 3),.mov (t 13),none⟩,0⟩]
def zaan : TC := (.seq (.seq (.ops zasl) (.clean [1,2,3,11] (.cond (t 11) .skip (.exit 0)))) (.clean [1,2,3] (.seq (.block 1 [1,2,3] (.draw (pl zasj))) (.clean [1,2,3] (.ops zask)))))
def zasi : List au := [⟨⟨(some 4),.mov (ci 0),none⟩,0⟩]
def zash : List au := [⟨⟨(some 22),.mov (t 4),none⟩,0⟩,
 ⟨⟨(some 23),.fieldAddr 1 (t 1),none⟩,0⟩,
 ⟨⟨(some 24),.load1 (t 23),none⟩,0⟩,
 ⟨⟨(some 25),.lenL (t 24),none⟩,0⟩,
 ⟨⟨(some 26),.bin .lss (t 22) (t 25),none⟩,0⟩]
def zasf : List au := [⟨⟨(some 29),.fieldAddr 1 (t 1),none⟩,0⟩,
 ⟨⟨(some 30),.load1 (t 29),none⟩,0⟩,
 ⟨⟨(some 31),.mov (t 4),none⟩,0⟩,
 ⟨⟨(some 32),.indexSl 2 (t 30) (t 31),none⟩,0⟩,
 ⟨⟨(some 33),.fieldAddr 1 (t 32),none⟩,0⟩,
 ⟨⟨none,.store 1 (t 33) (.const (Go.Value.slice none 0 0)),none⟩,0⟩]
def zaot : List au := [⟨⟨(some 5),.mov (ci 0),none⟩,0⟩]
def zaos : List au := [⟨⟨(some 34),.mov (t 5),none⟩,0⟩,
 ⟨⟨(some 35),.fieldAddr 3 (t 1),none⟩,0⟩,
 ⟨⟨(some 36),.load1 (t 35),none⟩,0⟩,
 ⟨⟨(some 37),.lenL (t 36),none⟩,0⟩,
 ⟨⟨(some 38),.bin .lss (t 34) (t 37),none⟩,0⟩]
def zaoq : List (au × List Nat) := [(⟨⟨(some 41),.fieldAddr 1 (t 1),none⟩,0⟩,[]),
 (⟨⟨(some 42),.load1 (t 41),none⟩,0⟩,[]),
 (⟨⟨(some 43),.mov (t 4),none⟩,0⟩,[]),
 (⟨⟨(some 44),.fieldAddr 1 (t 1),none⟩,0⟩,[]),
 (⟨⟨(some 45),.load1 (t 44),none⟩,0⟩,[]),
 (⟨⟨(some 46),.mov (t 4),none⟩,0⟩,[]),
 (⟨⟨(some 47),.indexSl 2 (t 45) (t 46),none⟩,0⟩,[]),
 (⟨⟨(some 48),.fieldAddr 1 (t 47),none⟩,0⟩,[]),
 (⟨⟨(some 49),.load1 (t 48),none⟩,2⟩,[]),
 (⟨⟨(some 50),.mov (t 4),none⟩,0⟩,[]),
 (⟨⟨(some 52),.mov (t 5),none⟩,0⟩,[]),
 (⟨⟨(some 51),.call zae0 [(t 50)],none⟩,0⟩,[]),
 (⟨⟨(some 53),.call zt [(t 51),(t 52)],none⟩,0⟩,[]),
 (⟨⟨(some 54),.buildSl fq 1 1 [(.string ⟨#[]⟩)] [(0,1,(t 53))],none⟩,0⟩,[]),
 (⟨⟨(some 55),.append fq 1 16 (t 49) (t 54),none⟩,0⟩,[1]),
 (⟨⟨(some 56),.indexSl 2 (t 42) (t 43),none⟩,0⟩,[]),
 (⟨⟨(some 57),.fieldAddr 1 (t 56),none⟩,0⟩,[]),
 (⟨⟨none,.store 1 (t 57) (t 55),none⟩,2⟩,[])]
def zaor : List au := [⟨⟨(some 39),.mov (t 5),none⟩,0⟩,
 ⟨⟨(some 40),.bin .add (t 39) (ci 1),none⟩,0⟩,
 ⟨⟨(some 5),.mov (t 40),none⟩,0⟩]
def zaam : TC := (.seq (.seq (.ops zaos) (.clean [1,2,4,5,38] (.cond (t 38) .skip (.exit 4)))) (.clean [1,2,4,5] (.seq (.block 5 [1,2,4,5] (.draw zaoq)) (.clean [1,2,4,5] (.ops zaor)))))
def zasg : List au := [⟨⟨(some 27),.mov (t 4),none⟩,0⟩,
 ⟨⟨(some 28),.bin .add (t 27) (ci 1),none⟩,0⟩,
 ⟨⟨(some 4),.mov (t 28),none⟩,0⟩]
def zaek : TC := (.seq (.seq (.ops zash) (.clean [1,2,4,26] (.cond (t 26) .skip (.exit 2)))) (.clean [1,2,4] (.seq (.block 3 [1,2,4] (.seq (.ops zasf) (.clean [1,2,4] (.seq (.ops zaot) (.block 4 [1,2,4] (.clean [1,2,4,5] (.loop [1,2,4,5] zaam))))))) (.clean [1,2,4] (.ops zasg)))))
def zaop : List au := [⟨⟨(some 58),.loadN 7 (t 1),none⟩,0⟩,
 ⟨⟨none,.store 7 (t 2) (t 58),none⟩,0⟩]
def zakp : TC := (.seq (.ops zaso) (.clean [1,2] (.seq (.ops zasn) (.clean [1,2] (.seq (.seq (.ops zasm) (.block 0 [1,2] (.clean [1,2,3] (.loop [1,2,3] zaan)))) (.clean [1,2] (.seq (.seq (.ops zasi) (.block 2 [1,2] (.clean [1,2,4] (.loop [1,2,4] zaek)))) (.clean [1,2] (.seq (.ops zaop) (.ret [2]))))))))))
def zalz : TFn := ⟨59,zakp,[.cellN 2 7],false⟩
theorem rq : type_of% (ai @zaso.eq_1 (ai @zasn.eq_1 (ai @zasm.eq_1 (ai @zasl.eq_1 (ai @zasj.eq_1 (ai @zask.eq_1 (ai @zasi.eq_1 (ai @zash.eq_1 (ai @zasf.eq_1 (ai @zaot.eq_1 (ai @zaos.eq_1 (ai @zaoq.eq_1 (ai @zaor.eq_1 (ai @zasg.eq_1 (ai @zaop.eq_1 (ai @zakp.eq_1 @zalz.eq_1)))))))))))))))) := ⟨rfl,rfl,rfl,rfl,rfl,rfl,rfl,rfl,rfl,rfl,rfl,rfl,rfl,rfl,rfl,rfl,rfl⟩
theorem zbce : uo Try.prog [(5,⟨[0,1,2,3,4,5,6,7,8],[0,1,0,4,12,28,63,127,255],[],[]⟩),(13,⟨[0,1,2,3,4,5,6,7,8,9,11,10,12,13,14,15,16,17],[0,1,0,0,8,0,56,120,248,0,512,0,3584,7680,16376,32767,65535,131071],[],[(14,[1])]⟩)] zafy = some (59,zakp.erase,[.cellN 2 7]) := by kernel_rfl
def zay1 : List au := [⟨⟨(some 2),.mov (.const (Go.Value.string ⟨#[]⟩)),none⟩,0⟩]
def zay0 : List au := [⟨⟨(some 11),.mov (t 0),none⟩,0⟩,
 ⟨⟨(some 12),.toBytes fi (t 11),none⟩,2⟩,
 ⟨⟨(some 13),.buildSl fi 1 1 [(.int .u8 0)] [(0,1,(.const (Go.Value.int Go.IntKind.u8 128)))],none⟩,0⟩,
 ⟨⟨(some 14),.append fi 1 1 (t 12) (t 13),none⟩,0⟩,
 ⟨⟨(some 3),.mov (t 14),none⟩,0⟩]
def zayz : List au := [⟨⟨(some 15),.mov (t 3),none⟩,0⟩,
 ⟨⟨(some 16),.lenL (t 15),none⟩,0⟩,
 ⟨⟨(some 17),.bin .rem (t 16) (ci 64),none⟩,0⟩,
 ⟨⟨(some 18),.bin .neq (t 17) (ci 56),none⟩,0⟩]
def zayy : List au := [⟨⟨(some 19),.mov (t 3),none⟩,0⟩,
 ⟨⟨(some 20),.buildSl fi 1 1 [(.int .u8 0)] [(0,1,(.const (Go.Value.int Go.IntKind.u8 0)))],none⟩,0⟩,
 ⟨⟨(some 21),.append fi 1 1 (t 19) (t 20),none⟩,0⟩,
 ⟨⟨(some 3),.mov (t 21),none⟩,0⟩]
def zaiz : TC := (.seq (.seq (.ops zayz) (.clean [0,3,18] (.cond (t 18) .skip (.exit 0)))) (.block 1 [0,3] (.ops zayy)))
def zayx : List au := [⟨⟨(some 22),.mov (t 0),none⟩,0⟩,
 ⟨⟨(some 23),.lenS (t 22),none⟩,0⟩,
 ⟨⟨(some 24),.conv .u64 (t 23),none⟩,0⟩,
 ⟨⟨(some 25),.bin .mul (t 24) (.const (Go.Value.int Go.IntKind.u64 8)),none⟩,0⟩,
 ⟨⟨(some 4),.mov (t 25),none⟩,0⟩]
def zayw : List au := [⟨⟨(some 5),.mov (ci 0),none⟩,0⟩]
def zayv : List au := [⟨⟨(some 26),.mov (t 5),none⟩,0⟩,
 ⟨⟨(some 27),.bin .lss (t 26) (ci 8),none⟩,0⟩]
def zayt : List au := [⟨⟨(some 30),.mov (t 3),none⟩,0⟩,
 ⟨⟨(some 31),.mov (t 4),none⟩,0⟩,
 ⟨⟨(some 32),.mov (t 5),none⟩,0⟩,
 ⟨⟨(some 33),.bin .mul (ci 8) (t 32),none⟩,0⟩,
 ⟨⟨(some 34),.bin .sub (ci 56) (t 33),none⟩,0⟩,
 ⟨⟨(some 35),.conv .u64 (t 34),none⟩,0⟩,
 ⟨⟨(some 36),.bin .shr (t 31) (t 35),none⟩,0⟩,
 ⟨⟨(some 37),.conv .u8 (t 36),none⟩,0⟩,
 ⟨⟨(some 38),.buildSl fi 1 1 [(.int .u8 0)] [(0,1,(t 37))],none⟩,0⟩,
 ⟨⟨(some 39),.append fi 1 1 (t 30) (t 38),none⟩,0⟩,
 ⟨⟨(some 3),.mov (t 39),none⟩,0⟩]
def zayu : List au := [⟨⟨(some 28),.mov (t 5),none⟩,0⟩,
 ⟨⟨(some 29),.bin .add (t 28) (ci 1),none⟩,0⟩,
 ⟨⟨(some 5),.mov (t 29),none⟩,0⟩]
def zaiy : TC := (.seq (.seq (.ops zayv) (.clean [3,4,5,27] (.cond (t 27) .skip (.exit 2)))) (.clean [3,4,5] (.seq (.block 3 [3,4,5] (.ops zayt)) (.clean [3,4,5] (.ops zayu)))))
def zays : List au := [⟨⟨(some 40),.mov (t 3),none⟩,0⟩,
 ⟨⟨(some 41),.toStr (t 40),none⟩,0⟩,
 ⟨⟨(some 6),.mov (t 41),none⟩,0⟩]
def zavm : List au := [⟨⟨(some 42),.build [(.int .u32 0),(.int .u32 0),(.int .u32 0),(.int .u32 0),(.int .u32 0),(.int .u32 0),(.int .u32 0),(.int .u32 0)] [(0,1,(.const (Go.Value.int Go.IntKind.u32 1779033703))),(1,1,(.const (Go.Value.int Go.IntKind.u32 3144134277))),(2,1,(.const (Go.Value.int Go.IntKind.u32 1013904242))),(3,1,(.const (Go.Value.int Go.IntKind.u32 2773480762))),(4,1,(.const (Go.Value.int Go.IntKind.u32 1359893119))),(5,1,(.const (Go.Value.int Go.IntKind.u32 2600822924))),(6,1,(.const (Go.Value.int Go.IntKind.u32 528734635))),(7,1,(.const (Go.Value.int Go.IntKind.u32 1541459225)))],none⟩,0⟩,
 ⟨⟨(some 7),.box fv 8 (.const (.agg #[(.int .u32 0),(.int .u32 0),(.int .u32 0),(.int .u32 0),(.int .u32 0),(.int .u32 0),(.int .u32 0),(.int .u32 0)])),none⟩,0⟩,
 ⟨⟨none,.store 8 (t 7) (t 42),none⟩,0⟩]
def zavl : List au := [⟨⟨(some 8),.mov (ci 0),none⟩,0⟩]
def zavk : List au := [⟨⟨(some 43),.mov (t 8),none⟩,0⟩,
 ⟨⟨(some 44),.mov (t 6),none⟩,0⟩,
 ⟨⟨(some 45),.lenS (t 44),none⟩,0⟩,
 ⟨⟨(some 46),.bin .lss (t 43) (t 45),none⟩,0⟩]
def zavi : List au := [⟨⟨(some 49),.loadN 8 (t 7),none⟩,0⟩,
 ⟨⟨(some 50),.mov (t 6),none⟩,0⟩,
 ⟨⟨(some 51),.mov (t 8),none⟩,0⟩,
 ⟨⟨(some 52),.mov (t 8),none⟩,0⟩,
 ⟨⟨(some 53),.bin .add (t 52) (ci 64),none⟩,0⟩,
 ⟨⟨(some 54),.sliceStr (t 50) (some (t 51)) (some (t 53)),none⟩,0⟩,
 ⟨⟨(some 55),.call zabt [(t 49),(t 54)],none⟩,0⟩,
 ⟨⟨none,.store 8 (t 7) (t 55),none⟩,0⟩]
def zavj : List au := [⟨⟨(some 47),.mov (t 8),none⟩,0⟩,
 ⟨⟨(some 48),.bin .add (t 47) (ci 64),none⟩,0⟩,
 ⟨⟨(some 8),.mov (t 48),none⟩,0⟩]
def zaix : TC := (.seq (.seq (.ops zavk) (.clean [6,7,8,46] (.cond (t 46) .skip (.exit 4)))) (.clean [6,7,8] (.seq (.block 5 [6,7,8] (.draw (pl zavi))) (.clean [6,7,8] (.ops zavj)))))
def zavh : List au := [⟨⟨(some 9),.mov (.const (Go.Value.slice none 0 0)),none⟩,1⟩]
def zavg : List au := [⟨⟨(some 10),.mov (ci 0),none⟩,0⟩]
def zavf : List au := [⟨⟨(some 56),.mov (t 10),none⟩,0⟩,
 ⟨⟨(some 57),.bin .lss (t 56) (ci 8),none⟩,0⟩]
def zavd : List au := [⟨⟨(some 60),.mov (t 9),none⟩,0⟩,
 ⟨⟨(some 61),.mov (t 10),none⟩,0⟩,
 ⟨⟨(some 62),.indexPtr 8 1 (t 7) (t 61),none⟩,0⟩,
 ⟨⟨(some 63),.load1 (t 62),none⟩,0⟩,
 ⟨⟨(some 64),.bin .shr (t 63) (.const (Go.Value.int Go.IntKind.u64 24)),none⟩,0⟩,
 ⟨⟨(some 65),.conv .u8 (t 64),none⟩,0⟩,
 ⟨⟨(some 66),.mov (t 10),none⟩,0⟩,
 ⟨⟨(some 67),.indexPtr 8 1 (t 7) (t 66),none⟩,0⟩,
 ⟨⟨(some 68),.load1 (t 67),none⟩,0⟩,
 ⟨⟨(some 69),.bin .shr (t 68) (.const (Go.Value.int Go.IntKind.u64 16)),none⟩,0⟩,
 ⟨⟨(some 70),.conv .u8 (t 69),none⟩,0⟩,
 ⟨⟨(some 71),.mov (t 10),none⟩,0⟩,
 ⟨⟨(some 72),.indexPtr 8 1 (t 7) (t 71),none⟩,0⟩,
 ⟨⟨(some 73),.load1 (t 72),none⟩,0⟩,
 ⟨⟨(some 74),.bin .shr (t 73) (.const (Go.Value.int Go.IntKind.u64 8)),none⟩,0⟩,
 ⟨⟨(some 75),.conv .u8 (t 74),none⟩,0⟩,
 ⟨⟨(some 76),.mov (t 10),none⟩,0⟩,
 ⟨⟨(some 77),.indexPtr 8 1 (t 7) (t 76),none⟩,0⟩,
 ⟨⟨(some 78),.load1 (t 77),none⟩,0⟩,
 ⟨⟨(some 79),.conv .u8 (t 78),none⟩,0⟩,
 ⟨⟨(some 80),.buildSl fi 1 4 [(.int .u8 0),(.int .u8 0),(.int .u8 0),(.int .u8 0)] [(0,1,(t 65)),(1,1,(t 70)),(2,1,(t 75)),(3,1,(t 79))],none⟩,0⟩,
 ⟨⟨(some 81),.append fi 1 1 (t 60) (t 80),none⟩,0⟩,
 ⟨⟨(some 9),.mov (t 81),none⟩,0⟩]
def zave : List au := [⟨⟨(some 58),.mov (t 10),none⟩,0⟩,
 ⟨⟨(some 59),.bin .add (t 58) (ci 1),none⟩,0⟩,
 ⟨⟨(some 10),.mov (t 59),none⟩,0⟩]
def zaiw : TC := (.seq (.seq (.ops zavf) (.clean [7,9,10,57] (.cond (t 57) .skip (.exit 6)))) (.clean [7,9,10] (.seq (.block 7 [7,9,10] (.draw (pl zavd))) (.clean [7,9,10] (.ops zave)))))
def zavc : List au := [⟨⟨(some 82),.mov (t 9),none⟩,0⟩,
 ⟨⟨(some 83),.toStr (t 82),none⟩,0⟩,
 ⟨⟨(some 2),.mov (t 83),none⟩,0⟩]
def zauc : TC := (.seq (.ops zay1) (.clean [0] (.seq (.ops zay0) (.clean [0,3] (.seq (.block 0 [0,3] (.clean [0,3] (.loop [0,3] zaiz))) (.clean [0,3] (.seq (.ops zayx) (.clean [3,4] (.seq (.seq (.ops zayw) (.block 2 [3] (.clean [3,4,5] (.loop [3,4,5] zaiy)))) (.clean [3] (.seq (.ops zays) (.clean [6] (.seq (.ops zavm) (.clean [6,7] (.seq (.seq (.ops zavl) (.block 4 [7] (.clean [6,7,8] (.loop [6,7,8] zaix)))) (.clean [7] (.seq (.ops zavh) (.clean [7,9] (.seq (.seq (.ops zavg) (.block 6 [9] (.clean [7,9,10] (.loop [7,9,10] zaiw)))) (.clean [9] (.seq (.ops zavc) (.ret [2]))))))))))))))))))))))
def zauw : TFn := ⟨84,zauc,[.tmp 2],false⟩
theorem kj : type_of% (ai @zay1.eq_1 (ai @zay0.eq_1 (ai @zayz.eq_1 (ai @zayy.eq_1 (ai @zayx.eq_1 (ai @zayw.eq_1 (ai @zayv.eq_1 (ai @zayt.eq_1 (ai @zayu.eq_1 (ai @zays.eq_1 (ai @zavm.eq_1 (ai @zavl.eq_1 (ai @zavk.eq_1 (ai @zavi.eq_1 (ai @zavj.eq_1 (ai @zavh.eq_1 (ai @zavg.eq_1 (ai @zavf.eq_1 (ai @zavd.eq_1 (ai @zave.eq_1 (ai @zavc.eq_1 (ai @zauc.eq_1 @zauw.eq_1)))))))))))))))))))))) := ⟨rfl,rfl,rfl,rfl,rfl,rfl,rfl,rfl,rfl,rfl,rfl,rfl,rfl,rfl,rfl,rfl,rfl,rfl,rfl,rfl,rfl,rfl,rfl⟩
theorem c_R01_Sum : uo Try.prog [(14,⟨[0,1,2,3,4,5,6,7],[0,0,0,0,8,30,63,127],[],[]⟩),(19,⟨[0,1,2,3,4,5,6,7,8,9,10,11,12,13,14,15,16,17,18,19,20,21,22],[0,0,2,6,14,30,0,64,192,448,960,0,2048,6144,14336,30720,0,65536,196608,458752,1048574,2097151,4194303],[],[]⟩)] zafx = some (84,zauc.erase,[.tmp 2]) := by kernel_rfl
def zar7 : List au := [⟨⟨(some 2),.box fv 8 (t 0),none⟩,0⟩,
 ⟨⟨(some 4),.box fv 8 (.const (.agg #[(.int .u32 0),(.int .u32 0),(.int .u32 0),(.int .u32 0),(.int .u32 0),(.int .u32 0),(.int .u32 0),(.int .u32 0)])),none⟩,0⟩]
def zar6 : List au := [⟨⟨(some 5),.box kq 64 (.const (.agg #[(.int .u32 0),(.int .u32 0),(.int .u32 0),(.int .u32 0),(.int .u32 0),(.int .u32 0),(.int .u32 0),(.int .u32 0),(.int .u32 0),(.int .u32 0),(.int .u32 0),(.int .u32 0),(.int .u32 0),(.int .u32 0),(.int .u32 0),(.int .u32 0),(.int .u32 0),(.int .u32 0),(.int .u32 0),(.int .u32 0),(.int .u32 0),(.int .u32 0),(.int .u32 0),(.int .u32 0),(.int .u32 0),(.int .u32 0),(.int .u32 0),(.int .u32 0),(.int .u32 0),(.int .u32 0),(.int .u32 0),(.int .u32 0),(.int .u32 0),(.int .u32 0),(.int .u32 0),(.int .u32 0),(.int .u32 0),(.int .u32 0),(.int .u32 0),(.int .u32 0),(.int .u32 0),(.int .u32 0),(.int .u32 0),(.int .u32 0),(.int .u32 0),(.int .u32 0),(.int .u32 0),(.int .u32 0),(.int .u32 0),(.int .u32 0),(.int .u32 0),(.int .u32 0),(.int .u32 0),(.int .u32 0),(.int .u32 0),(.int .u32 0),(.int .u32 0),(.int .u32 0),(.int .u32 0),(.int .u32 0),(.int .u32 0),(.int .u32 0),(.int .u32 0),(.int .u32 0)])),none⟩,0⟩]
def zar5 : List au := [⟨⟨(some 18),.call zabs [],none⟩,0⟩,
 ⟨⟨(some 6),.box kq 64 (.const (.agg #[(.int .u32 0),(.int .u32 0),(.int .u32 0),(.int .u32 0),(.int .u32 0),(.int .u32 0),(.int .u32 0),(.int .u32 0),(.int .u32 0),(.int .u32 0),(.int .u32 0),(.int .u32 0),(.int .u32 0),(.int .u32 0),(.int .u32 0),(.int .u32 0),(.int .u32 0),(.int .u32 0),(.int .u32 0),(.int .u32 0),(.int .u32 0),(.int .u32 0),(.int .u32 0),(.int .u32 0),(.int .u32 0),(.int .u32 0),(.int .u32 0),(.int .u32 0),(.int .u32 0),(.int .u32 0),(.int .u32 0),(.int .u32 0),(.int .u32 0),(.int .u32 0),(.int .u32 0),(.int .u32 0),(.int .u32 0),(.int .u32 0),(.int .u32 0),(.int .u32 0),(.int .u32 0),(.int .u32 0),(.int .u32 0),(.int .u32 0),(.int .u32 0),(.int .u32 0),(.int .u32 0),(.int .u32 0),(.int .u32 0),(.int .u32 0),(.int .u32 0),(.int .u32 0),(.int .u32 0),(.int .u32 0),(.int .u32 0),(.int .u32 0),(.int .u32 0),(.int .u32 0),(.int .u32 0),(.int .u32 0),(.int .u32 0),(.int .u32 0),(.int .u32 0),(.int .u32 0)])),none⟩,0⟩,
 ⟨⟨none,.store 64 (t 6) (t 18),none⟩,0⟩]
def zar4 : List au := [⟨⟨(some 7),.mov (ci 0),none⟩,0⟩]
def zar3 : List au := [⟨⟨(some 19),.mov (t 7),none⟩,0⟩,
 ⟨⟨(some 20),.bin .lss (t 19) (ci 16),none⟩,0⟩]
def zar1 : List au := [⟨⟨(some 23),.mov (t 7),none⟩,0⟩,
 ⟨⟨(some 24),.mov (t 1),none⟩,0⟩,
 ⟨⟨(some 25),.mov (t 7),none⟩,0⟩,
 ⟨⟨(some 26),.bin .mul (ci 4) (t 25),none⟩,0⟩,
 ⟨⟨(some 27),.indexStr (t 24) (t 26),none⟩,0⟩,
 ⟨⟨(some 28),.conv .u32 (t 27),none⟩,0⟩,
 ⟨⟨(some 29),.bin .shl (t 28) (.const (Go.Value.int Go.IntKind.u64 24)),none⟩,0⟩,
 ⟨⟨(some 30),.mov (t 1),none⟩,0⟩,
 ⟨⟨(some 31),.mov (t 7),none⟩,0⟩,
 ⟨⟨(some 32),.bin .mul (ci 4) (t 31),none⟩,0⟩,
 ⟨⟨(some 33),.bin .add (t 32) (ci 1),none⟩,0⟩,
 ⟨⟨(some 34),.indexStr (t 30) (t 33),none⟩,0⟩,
 ⟨⟨(some 35),.conv .u32 (t 34),none⟩,0⟩,
 ⟨⟨(some 36),.bin .shl (t 35) (.const (Go.Value.int Go.IntKind.u64 16)),none⟩,0⟩,
 ⟨⟨(some 37),.bin .or (t 29) (t 36),none⟩,0⟩,
 ⟨⟨(some 38),.mov (t 1),none⟩,0⟩,
 ⟨⟨(some 39),.mov (t 7),none⟩,0⟩,
 ⟨⟨(some 40),.bin .mul (ci 4) (t 39),none⟩,0⟩,
 ⟨⟨(some 41),.bin .add (t 40) (ci 2),none⟩,0⟩,
 ⟨⟨(some 42),.indexStr (t 38) (t 41),none⟩,0⟩,
 ⟨⟨(some 43),.conv .u32 (t 42),none⟩,0⟩,
 ⟨⟨(some 44),.bin .shl (t 43) (.const (Go.Value.int Go.IntKind.u64 8)),none⟩,0⟩,
 ⟨⟨(some 45),.bin .or (t 37) (t 44),none⟩,0⟩,
 ⟨⟨(some 46),.mov (t 1),none⟩,0⟩,
 ⟨⟨(some 47),.mov (t 7),none⟩,0⟩,
 ⟨⟨(some 48),.bin .mul (ci 4) (t 47),none⟩,0⟩,
 ⟨⟨(some 49),.bin .add (t 48) (ci 3),none⟩,0⟩,
 ⟨⟨(some 50),.indexStr (t 46) (t 49),none⟩,0⟩,
 ⟨⟨(some 51),.conv .u32 (t 50),none⟩,0⟩,
 ⟨⟨(some 52),.bin .or (t 45) (t 51),none⟩,0⟩,
 ⟨⟨(some 53),.indexPtr 64 1 (t 5) (t 23),none⟩,0⟩,
 ⟨⟨none,.store 1 (t 53) (t 52),none⟩,0⟩]
def zar2 : List au := [⟨⟨(some 21),.mov (t 7),none⟩,0⟩,
 ⟨⟨(some 22),.bin .add (t 21) (ci 1),none⟩,0⟩,
 ⟨⟨(some 7),.mov (t 22),none⟩,0⟩]
def zaej : TC := (.seq (.seq (.ops zar3) (.clean [1,2,4,5,6,7,20] (.cond (t 20) .skip (.exit 0)))) (.clean [1,2,4,5,6,7] (.seq (.block 1 [1,2,4,5,6,7] (.draw (pl zar1))) (.clean [1,2,4,5,6,7] (.ops zar2)))))
def zar0 : List au := [⟨⟨(some 8),.mov (ci 16),none⟩,0⟩]
def zarz : List au := [⟨⟨(some 54),.mov (t 8),none⟩,0⟩,
 ⟨⟨(some 55),.bin .lss (t 54) (ci 64),none⟩,0⟩]
def zaoo : List au := [⟨⟨(some 58),.mov (t 8),none⟩,0⟩,
 ⟨⟨(some 59),.bin .sub (t 58) (ci 15),none⟩,0⟩,
 ⟨⟨(some 60),.indexPtr 64 1 (t 5) (t 59),none⟩,0⟩,
 ⟨⟨(some 61),.load1 (t 60),none⟩,0⟩,
 ⟨⟨(some 63),.mov (t 8),none⟩,0⟩,
 ⟨⟨(some 64),.bin .sub (t 63) (ci 15),none⟩,0⟩,
 ⟨⟨(some 65),.indexPtr 64 1 (t 5) (t 64),none⟩,0⟩,
 ⟨⟨(some 66),.load1 (t 65),none⟩,0⟩,
 ⟨⟨(some 69),.mov (t 8),none⟩,0⟩,
 ⟨⟨(some 70),.bin .sub (t 69) (ci 15),none⟩,0⟩,
 ⟨⟨(some 71),.indexPtr 64 1 (t 5) (t 70),none⟩,0⟩,
 ⟨⟨(some 72),.load1 (t 71),none⟩,0⟩,
 ⟨⟨(some 73),.bin .shr (t 72) (.const (Go.Value.int Go.IntKind.u64 3)),none⟩,0⟩,
 ⟨⟨(some 62),.call lc [(t 61),(.const (Go.Value.int Go.IntKind.u64 7))],none⟩,0⟩,
 ⟨⟨(some 67),.call lc [(t 66),(.const (Go.Value.int Go.IntKind.u64 18))],none⟩,0⟩,
 ⟨⟨(some 68),.bin .xor (t 62) (t 67),none⟩,0⟩,
 ⟨⟨(some 74),.bin .xor (t 68) (t 73),none⟩,0⟩,
 ⟨⟨(some 9),.mov (t 74),none⟩,0⟩]
def zaon : List au := [⟨⟨(some 75),.mov (t 8),none⟩,0⟩,
 ⟨⟨(some 76),.bin .sub (t 75) (ci 2),none⟩,0⟩,
 ⟨⟨(some 77),.indexPtr 64 1 (t 5) (t 76),none⟩,0⟩,
 ⟨⟨(some 78),.load1 (t 77),none⟩,0⟩,
 ⟨⟨(some 80),.mov (t 8),none⟩,0⟩,
 ⟨⟨(some 81),.bin .sub (t 80) (ci 2),none⟩,0⟩,
 ⟨⟨(some 82),.indexPtr 64 1 (t 5) (t 81),none⟩,0⟩,
 ⟨⟨(some 83),.load1 (t 82),none⟩,0⟩,
 ⟨⟨(some 86),.mov (t 8),none⟩,0⟩,
 ⟨⟨(some 87),.bin .sub (t 86) (ci 2),none⟩,0⟩,
 ⟨⟨(some 88),.indexPtr 64 1 (t 5) (t 87),none⟩,0⟩,
 ⟨⟨(some 89),.load1 (t 88),none⟩,0⟩,
 ⟨⟨(some 90),.bin .shr (t 89) (.const (Go.Value.int Go.IntKind.u64 10)),none⟩,0⟩,
 ⟨⟨(some 79),.call lc [(t 78),(.const (Go.Value.int Go.IntKind.u64 17))],none⟩,0⟩,
 ⟨⟨(some 84),.call lc [(t 83),(.const (Go.Value.int Go.IntKind.u64 19))],none⟩,0⟩,
 ⟨⟨(some 85),.bin .xor (t 79) (t 84),none⟩,0⟩,
 ⟨⟨(some 91),.bin .xor (t 85) (t 90),none⟩,0⟩,
 ⟨⟨(some 10),.mov (t 91),none⟩,0⟩]
def zaom : List au := [⟨⟨(some 92),.mov (t 8),none⟩,0⟩,
 ⟨⟨(some 93),.mov (t 8),none⟩,0⟩,
 ⟨⟨(some 94),.bin .sub (t 93) (ci 16),none⟩,0⟩,
 ⟨⟨(some 95),.indexPtr 64 1 (t 5) (t 94),none⟩,0⟩,
 ⟨⟨(some 96),.load1 (t 95),none⟩,0⟩,
 ⟨⟨(some 97),.mov (t 9),none⟩,0⟩,
 ⟨⟨(some 98),.bin .add (t 96) (t 97),none⟩,0⟩,
 ⟨⟨(some 99),.mov (t 8),none⟩,0⟩,
 ⟨⟨(some 100),.bin .sub (t 99) (ci 7),none⟩,0⟩,
 ⟨⟨(some 101),.indexPtr 64 1 (t 5) (t 100),none⟩,0⟩,
 ⟨⟨(some 102),.load1 (t 101),none⟩,0⟩,
 ⟨⟨(some 103),.bin .add (t 98) (t 102),none⟩,0⟩,
 ⟨⟨(some 104),.mov (t 10),none⟩,0⟩,
 ⟨⟨(some 105),.bin .add (t 103) (t 104),none⟩,0⟩,
 ⟨⟨(some 106),.indexPtr 64 1 (t 5) (t 92),none⟩,0⟩,
 ⟨⟨none,.store 1 (t 106) (t 105),none⟩,0⟩]
def zary : List au := [⟨⟨(some 56),.mov (t 8),none⟩,0⟩,
 ⟨⟨(some 57),.bin .add (t 56) (ci 1),none⟩,0⟩,
 ⟨⟨(some 8),.mov (t 57),none⟩,0⟩]
def zaei : TC := (.seq (.seq (.ops zarz) (.clean [2,4,5,6,8,55] (.cond (t 55) .skip (.exit 2)))) (.clean [2,4,5,6,8] (.seq (.block 3 [2,4,5,6,8] (.seq (.draw (pl zaoo)) (.clean [2,4,5,6,8,9] (.seq (.draw (pl zaon)) (.clean [2,4,5,6,8,9,10] (.draw (pl zaom))))))) (.clean [2,4,5,6,8] (.ops zary)))))
def zaol : List au := [⟨⟨(some 107),.loadN 8 (t 2),none⟩,0⟩,
 ⟨⟨(some 11),.box fv 8 (.const (.agg #[(.int .u32 0),(.int .u32 0),(.int .u32 0),(.int .u32 0),(.int .u32 0),(.int .u32 0),(.int .u32 0),(.int .u32 0)])),none⟩,0⟩,
 ⟨⟨none,.store 8 (t 11) (t 107),none⟩,0⟩]
def zaok : List au := [⟨⟨(some 12),.mov (ci 0),none⟩,0⟩]
def zaoj : List au := [⟨⟨(some 108),.mov (t 12),none⟩,0⟩,
 ⟨⟨(some 109),.bin .lss (t 108) (ci 64),none⟩,0⟩]
def zaoh : List au := [⟨⟨(some 112),.indexPtr 8 1 (t 11) (ci 4),none⟩,0⟩,
 ⟨⟨(some 113),.load1 (t 112),none⟩,0⟩,
 ⟨⟨(some 115),.indexPtr 8 1 (t 11) (ci 4),none⟩,0⟩,
 ⟨⟨(some 116),.load1 (t 115),none⟩,0⟩,
 ⟨⟨(some 119),.indexPtr 8 1 (t 11) (ci 4),none⟩,0⟩,
 ⟨⟨(some 120),.load1 (t 119),none⟩,0⟩,
 ⟨⟨(some 114),.call lc [(t 113),(.const (Go.Value.int Go.IntKind.u64 6))],none⟩,0⟩,
 ⟨⟨(some 117),.call lc [(t 116),(.const (Go.Value.int Go.IntKind.u64 11))],none⟩,0⟩,
 ⟨⟨(some 118),.bin .xor (t 114) (t 117),none⟩,0⟩,
 ⟨⟨(some 121),.call lc [(t 120),(.const (Go.Value.int Go.IntKind.u64 25))],none⟩,0⟩,
 ⟨⟨(some 122),.bin .xor (t 118) (t 121),none⟩,0⟩,
 ⟨⟨(some 13),.mov (t 122),none⟩,0⟩]
def zaog : List au := [⟨⟨(some 123),.indexPtr 8 1 (t 11) (ci 7),none⟩,0⟩,
 ⟨⟨(some 124),.load1 (t 123),none⟩,0⟩,
 ⟨⟨(some 125),.mov (t 13),none⟩,0⟩,
 ⟨⟨(some 126),.bin .add (t 124) (t 125),none⟩,0⟩,
 ⟨⟨(some 127),.indexPtr 8 1 (t 11) (ci 4),none⟩,0⟩,
 ⟨⟨(some 128),.load1 (t 127),none⟩,0⟩,
 ⟨⟨(some 129),.indexPtr 8 1 (t 11) (ci 5),none⟩,0⟩,
 ⟨⟨(some 130),.load1 (t 129),none⟩,0⟩,
 ⟨⟨(some 131),.bin .and (t 128) (t 130),none⟩,0⟩,
 ⟨⟨(some 132),.indexPtr 8 1 (t 11) (ci 4),none⟩,0⟩,
 ⟨⟨(some 133),.load1 (t 132),none⟩,0⟩,
 ⟨⟨(some 134),.un .xor (t 133),none⟩,0⟩,
 ⟨⟨(some 135),.indexPtr 8 1 (t 11) (ci 6),none⟩,0⟩,
 ⟨⟨(some 136),.load1 (t 135),none⟩,0⟩,
 ⟨⟨(some 137),.bin .and (t 134) (t 136),none⟩,0⟩,
 ⟨⟨(some 138),.bin .xor (t 131) (t 137),none⟩,0⟩,
 ⟨⟨(some 139),.bin .add (t 126) (t 138),none⟩,0⟩,
 ⟨⟨(some 140),.mov (t 12),none⟩,0⟩,
 ⟨⟨(some 141),.indexPtr 64 1 (t 6) (t 140),none⟩,0⟩,
 ⟨⟨(some 142),.load1 (t 141),none⟩,0⟩,
 ⟨⟨(some 143),.bin .add (t 139) (t 142),none⟩,0⟩,
 ⟨⟨(some 144),.mov (t 12),none⟩,0⟩,
 ⟨⟨(some 145),.indexPtr 64 1 (t 5) (t 144),none⟩,0⟩,
 ⟨⟨(some 146),.load1 (t 145),none⟩,0⟩,
 ⟨⟨(some 147),.bin .add (t 143) (t 146),none⟩,0⟩,
 ⟨⟨(some 14),.mov (t 147),none⟩,0⟩]
def zaof : List au := [⟨⟨(some 148),.indexPtr 8 1 (t 11) (ci 0),none⟩,0⟩,
 ⟨⟨(some 149),.load1 (t 148),none⟩,0⟩,
 ⟨⟨(some 151),.indexPtr 8 1 (t 11) (ci 0),none⟩,0⟩,
 ⟨⟨(some 152),.load1 (t 151),none⟩,0⟩,
 ⟨⟨(some 155),.indexPtr 8 1 (t 11) (ci 0),none⟩,0⟩,
 ⟨⟨(some 156),.load1 (t 155),none⟩,0⟩,
 ⟨⟨(some 150),.call lc [(t 149),(.const (Go.Value.int Go.IntKind.u64 2))],none⟩,0⟩,
 ⟨⟨(some 153),.call lc [(t 152),(.const (Go.Value.int Go.IntKind.u64 13))],none⟩,0⟩,
 ⟨⟨(some 154),.bin .xor (t 150) (t 153),none⟩,0⟩,
 ⟨⟨(some 157),.call lc [(t 156),(.const (Go.Value.int Go.IntKind.u64 22))],none⟩,0⟩,
 ⟨⟨(some 158),.bin .xor (t 154) (t 157),none⟩,0⟩,
 ⟨⟨(some 15),.mov (t 158),none⟩,0⟩]
def zaoe : List au := [⟨⟨(some 159),.mov (t 15),none⟩,0⟩,
 ⟨⟨(some 160),.indexPtr 8 1 (t 11) (ci 0),none⟩,0⟩,
 ⟨⟨(some 161),.load1 (t 160),none⟩,0⟩,
 ⟨⟨(some 162),.indexPtr 8 1 (t 11) (ci 1),none⟩,0⟩,
 ⟨⟨(some 163),.load1 (t 162),none⟩,0⟩,
 ⟨⟨(some 164),.bin .and (t 161) (t 163),none⟩,0⟩,
 ⟨⟨(some 165),.indexPtr 8 1 (t 11) (ci 0),none⟩,0⟩,
 ⟨⟨(some 166),.load1 (t 165),none⟩,0⟩,
 ⟨⟨(some 167),.indexPtr 8 1 (t 11) (ci 2),none⟩,0⟩,
 ⟨⟨(some 168),.load1 (t 167),none⟩,0⟩,
 ⟨⟨(some 169),.bin .and (t 166) (t 168),none⟩,0⟩,
 ⟨⟨(some 170),.bin .xor (t 164) (t 169),none⟩,0⟩,
 ⟨⟨(some 171),.indexPtr 8 1 (t 11) (ci 1),none⟩,0⟩,
 ⟨⟨(some 172),.load1 (t 171),none⟩,0⟩,
 ⟨⟨(some 173),.indexPtr 8 1 (t 11) (ci 2),none⟩,0⟩,
 ⟨⟨(some 174),.load1 (t 173),none⟩,0⟩,
 ⟨⟨(some 175),.bin .and (t 172) (t 174),none⟩,0⟩,
 ⟨⟨(some 176),.bin .xor (t 170) (t 175),none⟩,0⟩,
 ⟨⟨(some 177),.bin .add (t 159) (t 176),none⟩,0⟩,
 ⟨⟨(some 16),.mov (t 177),none⟩,0⟩]
def zaod : List au := [⟨⟨(some 178),.mov (t 14),none⟩,0⟩,
 ⟨⟨(some 179),.mov (t 16),none⟩,0⟩,
 ⟨⟨(some 180),.bin .add (t 178) (t 179),none⟩,0⟩,
 ⟨⟨(some 181),.indexPtr 8 1 (t 11) (ci 0),none⟩,0⟩,
 ⟨⟨(some 182),.load1 (t 181),none⟩,0⟩,
 ⟨⟨(some 183),.indexPtr 8 1 (t 11) (ci 1),none⟩,0⟩,
 ⟨⟨(some 184),.load1 (t 183),none⟩,0⟩,
 ⟨⟨(some 185),.indexPtr 8 1 (t 11) (ci 2),none⟩,0⟩,
 ⟨⟨(some 186),.load1 (t 185),none⟩,0⟩,
 ⟨⟨(some 187),.indexPtr 8 1 (t 11) (ci 3),none⟩,0⟩,
 ⟨⟨(some 188),.load1 (t 187),none⟩,0⟩,
 ⟨⟨(some 189),.mov (t 14),none⟩,0⟩,
 ⟨⟨(some 190),.bin .add (t 188) (t 189),none⟩,0⟩,
 ⟨⟨(some 191),.indexPtr 8 1 (t 11) (ci 4),none⟩,0⟩,
 ⟨⟨(some 192),.load1 (t 191),none⟩,0⟩,
 ⟨⟨(some 193),.indexPtr 8 1 (t 11) (ci 5),none⟩,0⟩,
 ⟨⟨(some 194),.load1 (t 193),none⟩,0⟩,
 ⟨⟨(some 195),.indexPtr 8 1 (t 11) (ci 6),none⟩,0⟩,
 ⟨⟨(some 196),.load1 (t 195),none⟩,0⟩,
 ⟨⟨(some 197),.build [(.int .u32 0),(.int .u32 0),(.int .u32 0),(.int .u32 0),(.int .u32 0),(.int .u32 0),(.int .u32 0),(.int .u32 0)] [(0,1,(t 180)),(1,1,(t 182)),(2,1,(t 184)),(3,1,(t 186)),(4,1,(t 190)),(5,1,(t 192)),(6,1,(t 194)),(7,1,(t 196))],none⟩,0⟩,
 ⟨⟨none,.store 8 (t 11) (t 197),none⟩,0⟩]
def zaoi : List au := [⟨⟨(some 110),.mov (t 12),none⟩,0⟩,
 ⟨⟨(some 111),.bin .add (t 110) (ci 1),none⟩,0⟩,
 ⟨⟨(some 12),.mov (t 111),none⟩,0⟩]
def zaeh : TC := (.seq (.seq (.ops zaoj) (.clean [2,4,5,6,11,12,109] (.cond (t 109) .skip (.exit 4)))) (.clean [2,4,5,6,11,12] (.seq (.block 5 [2,4,5,6,11,12] (.seq (.draw (pl zaoh)) (.clean [2,4,5,6,11,12,13] (.seq (.draw (pl zaog)) (.clean [2,4,5,6,11,12,14] (.seq (.draw (pl zaof)) (.clean [2,4,5,6,11,12,14,15] (.seq (.ops zaoe) (.clean [2,4,5,6,11,12,14,16] (.ops zaod)))))))))) (.clean [2,4,5,6,11,12] (.ops zaoi)))))
def zaoc : List au := [⟨⟨(some 17),.mov (ci 0),none⟩,0⟩]
def zaob : List au := [⟨⟨(some 198),.mov (t 17),none⟩,0⟩,
 ⟨⟨(some 199),.bin .lss (t 198) (ci 8),none⟩,0⟩]
def zan9 : List au := [⟨⟨(some 202),.mov (t 17),none⟩,0⟩,
 ⟨⟨(some 203),.mov (t 17),none⟩,0⟩,
 ⟨⟨(some 204),.indexPtr 8 1 (t 2) (t 203),none⟩,0⟩,
 ⟨⟨(some 205),.load1 (t 204),none⟩,0⟩,
 ⟨⟨(some 206),.mov (t 17),none⟩,0⟩,
 ⟨⟨(some 207),.indexPtr 8 1 (t 11) (t 206),none⟩,0⟩,
 ⟨⟨(some 208),.load1 (t 207),none⟩,0⟩,
 ⟨⟨(some 209),.bin .add (t 205) (t 208),none⟩,0⟩,
 ⟨⟨(some 210),.indexPtr 8 1 (t 2) (t 202),none⟩,0⟩,
 ⟨⟨none,.store 1 (t 210) (t 209),none⟩,0⟩]
def zaoa : List au := [⟨⟨(some 200),.mov (t 17),none⟩,0⟩,
 ⟨⟨(some 201),.bin .add (t 200) (ci 1),none⟩,0⟩,
 ⟨⟨(some 17),.mov (t 201),none⟩,0⟩]
def zaeg : TC := (.seq (.seq (.ops zaob) (.clean [2,4,11,17,199] (.cond (t 199) .skip (.exit 6)))) (.clean [2,4,11,17] (.seq (.block 7 [2,4,11,17] (.draw (pl zan9))) (.clean [2,4,11,17] (.ops zaoa)))))
def zan8 : List au := [⟨⟨(some 211),.loadN 8 (t 2),none⟩,0⟩,
 ⟨⟨none,.store 8 (t 4) (t 211),none⟩,0⟩]
def zakm : TC := (.seq (.ops zar7) (.clean [1,2,4] (.seq (.ops zar6) (.clean [1,2,4,5] (.seq (.ops zar5) (.clean [1,2,4,5,6] (.seq (.seq (.ops zar4) (.block 0 [2,4,5,6] (.clean [1,2,4,5,6,7] (.loop [1,2,4,5,6,7] zaej)))) (.clean [2,4,5,6] (.seq (.seq (.ops zar0) (.block 2 [2,4,5,6] (.clean [2,4,5,6,8] (.loop [2,4,5,6,8] zaei)))) (.clean [2,4,5,6] (.seq (.ops zaol) (.clean [2,4,5,6,11] (.seq (.seq (.ops zaok) (.block 4 [2,4,11] (.clean [2,4,5,6,11,12] (.loop [2,4,5,6,11,12] zaeh)))) (.clean [2,4,11] (.seq (.seq (.ops zaoc) (.block 6 [2,4] (.clean [2,4,11,17] (.loop [2,4,11,17] zaeg)))) (.clean [2,4] (.seq (.ops zan8) (.ret [4]))))))))))))))))))
def zalw : TFn := ⟨212,zakm,[.cellN 4 8],false⟩
theorem kp : type_of% (ai @zar7.eq_1 (ai @zar6.eq_1 (ai @zar5.eq_1 (ai @zar4.eq_1 (ai @zar3.eq_1 (ai @zar1.eq_1 (ai @zar2.eq_1 (ai @zar0.eq_1 (ai @zarz.eq_1 (ai @zaoo.eq_1 (ai @zaon.eq_1 (ai @zaom.eq_1 (ai @zary.eq_1 (ai @zaol.eq_1 (ai @zaok.eq_1 (ai @zaoj.eq_1 (ai @zaoh.eq_1 (ai @zaog.eq_1 (ai @zaof.eq_1 (ai @zaoe.eq_1 (ai @zaod.eq_1 (ai @zaoi.eq_1 (ai @zaoc.eq_1 (ai @zaob.eq_1 (ai @zan9.eq_1 (ai @zaoa.eq_1 (ai @zan8.eq_1 (ai @zakm.eq_1 @zalw.eq_1)))))))))))))))))))))))))))) := ⟨rfl,rfl,rfl,rfl,rfl,rfl,rfl,rfl,rfl,rfl,rfl,rfl,rfl,rfl,rfl,rfl,rfl,rfl,rfl,rfl,rfl,rfl,rfl,rfl,rfl,rfl,rfl,rfl,rfl⟩
theorem zbcb : uo Try.prog [(6,⟨[0,1,2,3,4,5,6,7,8,9,10,11,12,13,14,15,16,17,18,19,20,21,22,23,24,25,26,27,28,29,30,31],[0,0,0,4,14,30,62,0,0,256,768,1920,3968,8064,16382,0,0,65536,196608,491520,1015808,2064384,4194302,0,0,16777216,50331648,125829120,260046848,536870910,1073741823,2147483647],[],[]⟩),(10,⟨[0,1,2,3,5,6,7,8,11,12,13,14,15,4,9,10,16,17],[0,1,3,7,15,0,32,96,224,511,1023,0,2048,6144,14336,30720,65535,131071],[],[]⟩),(11,⟨[0,1,2,3,5,6,7,8,11,12,13,14,15,4,9,10,16,17],[0,1,3,7,15,0,32,96,224,511,1023,0,2048,6144,14336,30720,65535,131071],[],[]⟩),(12,⟨[0,1,2,3,4,5,6,7,8,9,10,11,12,13,14,15],[0,0,2,6,14,0,62,0,128,384,896,2046,0,8190,16383,32767],[],[]⟩),(17,⟨[0,1,3,4,7,8,2,5,6,9,10,11],[0,1,3,0,8,31,63,0,128,447,1023,2047],[],[]⟩),(18,⟨[0,1,2,3,4,5,6,7,8,9,10,11,12,13,14,15,16,17,18,19,20,21,22,23,24,25],[0,1,0,7,0,16,0,64,240,0,512,1536,0,4096,15872,32752,65535,0,131072,393216,1048575,0,2097152,6291456,16777215,33554431],[],[]⟩),(19,⟨[0,1,3,4,7,8,2,5,6,9,10,11],[0,1,3,0,8,31,63,0,128,447,1023,2047],[],[]⟩),(25,⟨[0,1,2,3,4,5,6,7,8,9],[0,0,2,6,0,16,48,126,255,511],[],[]⟩)] zabt = some (212,zakm.erase,[.cellN 4 8]) := by kernel_rfl
def zarx : List au := [⟨⟨(some 0),.box kq 64 (.const (.agg #[(.int .u32 0),(.int .u32 0),(.int .u32 0),(.int .u32 0),(.int .u32 0),(.int .u32 0),(.int .u32 0),(.int .u32 0),(.int .u32 0),(.int .u32 0),(.int .u32 0),(.int .u32 0),(.int .u32 0),(.int .u32 0),(.int .u32 0),(.int .u32 0),(.int .u32 0),(.int .u32 0),(.int .u32 0),(.int .u32 0),(.int .u32 0),(.int .u32 0),(.int .u32 0),(.int .u32 0),(.int .u32 0),(.int .u32 0),(.int .u32 0),(.int .u32 0),(.int .u32 0),(.int .u32 0),(.int .u32 0),(.int .u32 0),(.int .u32 0),(.int .u32 0),(.int .u32 0),(.int .u32 0),(.int .u32 0),(.int .u32 0),(.int .u32 0),(.int .u32 0),(.int .u32 0),(.int .u32 0),(.int .u32 0),(.int .u32 0),(.int .u32 0),(.int .u32 0),(.int .u32 0),(.int .u32 0),(.int .u32 0),(.int .u32 0),(.int .u32 0),(.int .u32 0),(.int .u32 0),(.int .u32 0),(.int .u32 0),(.int .u32 0),(.int .u32 0),(.int .u32 0),(.int .u32 0),(.int .u32 0),(.int .u32 0),(.int .u32 0),(.int .u32 0),(.int .u32 0)])),none⟩,0⟩]
def zarw : List au := [⟨⟨(some 1),.build [(.int .u32 0),(.int .u32 0),(.int .u32 0),(.int .u32 0),(.int .u32 0),(.int .u32 0),(.int .u32 0),(.int .u32 0),(.int .u32 0),(.int .u32 0),(.int .u32 0),(.int .u32 0),(.int .u32 0),(.int .u32 0),(.int .u32 0),(.int .u32 0),(.int .u32 0),(.int .u32 0),(.int .u32 0),(.int .u32 0),(.int .u32 0),(.int .u32 0),(.int .u32 0),(.int .u32 0),(.int .u32 0),(.int .u32 0),(.int .u32 0),(.int .u32 0),(.int .u32 0),(.int .u32 0),(.int .u32 0),(.int .u32 0),(.int .u32 0),(.int .u32 0),(.int .u32 0),(.int .u32 0),(.int .u32 0),(.int .u32 0),(.int .u32 0),(.int .u32 0),(.int .u32 0),(.int .u32 0),(.int .u32 0),(.int .u32 0),(.int .u32 0),(.int .u32 0),(.int .u32 0),(.int .u32 0),(.int .u32 0),(.int .u32 0),(.int .u32 0),(.int .u32 0),(.int .u32 0),(.int .u32 0),(.int .u32 0),(.int .u32 0),(.int .u32 0),(.int .u32 0),(.int .u32 0),(.int .u32 0),(.int .u32 0),(.int .u32 0),(.int .u32 0),(.int .u32 0)] [(0,1,(.const (Go.Value.int Go.IntKind.u32 1116352408))),(1,1,(.const (Go.Value.int Go.IntKind.u32 1899447441))),(2,1,(.const (Go.Value.int Go.IntKind.u32 3049323471))),(3,1,(.const (Go.Value.int Go.IntKind.u32 3921009573))),(4,1,(.const (Go.Value.int Go.IntKind.u32 961987163))),(5,1,(.const (Go.Value.int Go.IntKind.u32 1508970993))),(6,1,(.const (Go.Value.int Go.IntKind.u32 2453635748))),(7,1,(.const (Go.Value.int Go.IntKind.u32 2870763221))),(8,1,(.const (Go.Value.int Go.IntKind.u32 3624381080))),(9,1,(.const (Go.Value.int Go.IntKind.u32 310598401))),(10,1,(.const (Go.Value.int Go.IntKind.u32 607225278))),(11,1,(.const (Go.Value.int Go.IntKind.u32 1426881987))),(12,1,(.const (Go.Value.int Go.IntKind.u32 1925078388))),(13,1,(.const (Go.Value.int Go.IntKind.u32 2162078206))),(14,1,(.const (Go.Value.int Go.IntKind.u32 2614888103))),(15,1,(.const (Go.Value.int Go.IntKind.u32 3248222580))),(16,1,(.const (Go.Value.int Go.IntKind.u32 3835390401))),(17,1,(.const (Go.Value.int Go.IntKind.u32 4022224774))),(18,1,(.const (Go.Value.int Go.IntKind.u32 264347078))),(19,1,(.const (Go.Value.int Go.IntKind.u32 604807628))),(20,1,(.const (Go.Value.int Go.IntKind.u32 770255983))),(21,1,(.const (Go.Value.int Go.IntKind.u32 1249150122))),(22,1,(.const (Go.Value.int Go.IntKind.u32 1555081692))),(23,1,(.const (Go.Value.int Go.IntKind.u32 1996064986))),(24,1,(.const (Go.Value.int Go.IntKind.u32 2554220882))),(25,1,(.const (Go.Value.int Go.IntKind.u32 2821834349))),(26,1,(.const (Go.Value.int Go.IntKind.u32 2952996808))),(27,1,(.const (Go.Value.int Go.IntKind.u32 3210313671))),(28,1,(.const (Go.Value.int Go.IntKind.u32 3336571891))),(29,1,(.const (Go.Value.int Go.IntKind.u32 3584528711))),(30,1,(.const (Go.Value.int Go.IntKind.u32 113926993))),(31,1,(.const (Go.Value.int Go.IntKind.u32 338241895))),(32,1,(.const (Go.Value.int Go.IntKind.u32 666307205))),(33,1,(.const (Go.Value.int Go.IntKind.u32 773529912))),(34,1,(.const (Go.Value.int Go.IntKind.u32 1294757372))),(35,1,(.const (Go.Value.int Go.IntKind.u32 1396182291))),(36,1,(.const (Go.Value.int Go.IntKind.u32 1695183700))),(37,1,(.const (Go.Value.int Go.IntKind.u32 1986661051))),(38,1,(.const (Go.Value.int Go.IntKind.u32 2177026350))),(39,1,(.const (Go.Value.int Go.IntKind.u32 2456956037))),(40,1,(.const (Go.Value.int Go.IntKind.u32 2730485921))),(41,1,(.const (Go.Value.int Go.IntKind.u32 2820302411))),(42,1,(.const (Go.Value.int Go.IntKind.u32 3259730800))),(43,1,(.const (Go.Value.int Go.IntKind.u32 3345764771))),(44,1,(.const (Go.Value.int Go.IntKind.u32 3516065817))),(45,1,(.const (Go.Value.int Go.IntKind.u32 3600352804))),(46,1,(.const (Go.Value.int Go.IntKind.u32 4094571909))),(47,1,(.const (Go.Value.int Go.IntKind.u32 275423344))),(48,1,(.const (Go.Value.int Go.IntKind.u32 430227734))),(49,1,(.const (Go.Value.int Go.IntKind.u32 506948616))),(50,1,(.const (Go.Value.int Go.IntKind.u32 659060556))),(51,1,(.const (Go.Value.int Go.IntKind.u32 883997877))),(52,1,(.const (Go.Value.int Go.IntKind.u32 958139571))),(53,1,(.const (Go.Value.int Go.IntKind.u32 1322822218))),(54,1,(.const (Go.Value.int Go.IntKind.u32 1537002063))),(55,1,(.const (Go.Value.int Go.IntKind.u32 1747873779))),(56,1,(.const (Go.Value.int Go.IntKind.u32 1955562222))),(57,1,(.const (Go.Value.int Go.IntKind.u32 2024104815))),(58,1,(.const (Go.Value.int Go.IntKind.u32 2227730452))),(59,1,(.const (Go.Value.int Go.IntKind.u32 2361852424))),(60,1,(.const (Go.Value.int Go.IntKind.u32 2428436474))),(61,1,(.const (Go.Value.int Go.IntKind.u32 2756734187))),(62,1,(.const (Go.Value.int Go.IntKind.u32 3204031479))),(63,1,(.const (Go.Value.int Go.IntKind.u32 3329325298)))],none⟩,0⟩,
 ⟨⟨none,.store 64 (t 0) (t 1),none⟩,0⟩]
def zakl : TC := (.seq (.ops zarx) (.clean [0] (.seq (.ops zarw) (.ret [0]))))
def zalv : TFn := ⟨2,zakl,[.cellN 0 64],false⟩
theorem zbcl : type_of% (ai @zarx.eq_1 (ai @zarw.eq_1 (ai @zakl.eq_1 @zalv.eq_1))) := ⟨rfl,rfl,rfl,rfl⟩
theorem zbca : uo Try.prog [] zabs = some (2,zakl.erase,[.cellN 0 64]) := by kernel_rfl
def zavb : List au := [⟨⟨(some 4),.mov (.const (Go.Value.int Go.IntKind.u32 0)),none⟩,0⟩]
def zava : List au := [⟨⟨(some 5),.mov (t 0),none⟩,0⟩,
 ⟨⟨(some 6),.mov (t 1),none⟩,0⟩,
 ⟨⟨(some 7),.bin .shr (t 5) (t 6),none⟩,0⟩,
 ⟨⟨(some 8),.mov (t 0),none⟩,0⟩,
 ⟨⟨(some 9),.mov (t 1),none⟩,0⟩,
 ⟨⟨(some 10),.bin .sub (.const (Go.Value.int Go.IntKind.u64 32)) (t 9),none⟩,0⟩,
 ⟨⟨(some 11),.bin .shl (t 8) (t 10),none⟩,0⟩,
 ⟨⟨(some 12),.bin .or (t 7) (t 11),none⟩,0⟩,
 ⟨⟨(some 4),.mov (t 12),none⟩,0⟩]
def zapf : TC := (.seq (.ops zavb) (.clean [0,1] (.seq (.ops zava) (.ret [4]))))
def zapz : TFn := ⟨13,zapf,[.tmp 4],false⟩
theorem U_R01_turn : type_of% (ai @zavb.eq_1 (ai @zava.eq_1 (ai @zapf.eq_1 @zapz.eq_1))) := ⟨rfl,rfl,rfl,rfl⟩
theorem c_R01_turn : uo Try.prog [] lc = some (13,zapf.erase,[.tmp 4]) := by kernel_rfl
def zaov : List au := [⟨⟨(some 2),.mov (.const (Go.Value.string ⟨#[]⟩)),none⟩,0⟩]
def zaou : List au := [⟨⟨(some 3),.mov (t 0),none⟩,0⟩,
 ⟨⟨(some 4),.call nc [(t 3)],none⟩,0⟩,
 ⟨⟨(some 5),.bin .add (.const (Go.Value.string ⟨#[115,101,99,114,101,116]⟩)) (t 4),none⟩,0⟩,
 ⟨⟨(some 2),.mov (t 5),none⟩,0⟩]
def zail : TC := (.seq (.ops zaov) (.clean [0] (.seq (.ops zaou) (.ret [2]))))
def zai6 : TFn := ⟨6,zail,[.tmp 2],false⟩
theorem za95 : type_of% (ai @zaov.eq_1 (ai @zaou.eq_1 (ai @zail.eq_1 @zai6.eq_1))) := ⟨rfl,rfl,rfl,rfl⟩
theorem za9s : uo Try.prog [] zu = some (6,zail.erase,[.tmp 2]) := by kernel_rfl
def zan7 : List au := [⟨⟨(some 4),.mov (.const (Go.Value.string ⟨#[]⟩)),none⟩,0⟩]
def zan6 : List au := [⟨⟨(some 7),.mov (t 1),none⟩,0⟩,
 ⟨⟨(some 8),.bin .lss (t 7) (ci 0),none⟩,0⟩,
 ⟨⟨(some 9),.mov (t 8),none⟩,0⟩,
 ⟨⟨(some 10),.mov (t 1),(some (9,false))⟩,0⟩,
 ⟨⟨(some 11),.bin .gtr (t 10) (ci 255),(some (9,false))⟩,0⟩,
 ⟨⟨(some 12),.pick (t 9) (.const (Go.Value.bool true)) (t 11),none⟩,0⟩]
def zan5 : List au := [⟨⟨(some 4),.mov (.const (Go.Value.string ⟨#[]⟩)),none⟩,0⟩]
def zan4 : List au := [⟨⟨(some 5),.mov (.const (Go.Value.string ⟨#[]⟩)),none⟩,0⟩]
def zan3 : List au := [⟨⟨(some 6),.mov (ci 0),none⟩,0⟩]
def zan2 : List au := [⟨⟨(some 13),.mov (t 6),none⟩,0⟩,
 ⟨⟨(some 14),.bin .lss (t 13) (ci 16),none⟩,0⟩]
def zan0 : List au := [⟨⟨(some 17),.mov (t 5),none⟩,0⟩,
 ⟨⟨(some 18),.mov (t 0),none⟩,0⟩,
 ⟨⟨(some 19),.mov (t 1),none⟩,0⟩,
 ⟨⟨(some 20),.mov (t 6),none⟩,0⟩,
 ⟨⟨(some 21),.call yk [(t 18),(t 19),(t 20),(ci 0)],none⟩,0⟩,
 ⟨⟨(some 22),.call ru [(t 21)],none⟩,0⟩,
 ⟨⟨(some 23),.bin .add (t 17) (t 22),none⟩,0⟩,
 ⟨⟨(some 24),.mov (t 0),none⟩,0⟩,
 ⟨⟨(some 25),.mov (t 1),none⟩,0⟩,
 ⟨⟨(some 26),.mov (t 6),none⟩,0⟩,
 ⟨⟨(some 27),.call yk [(t 24),(t 25),(t 26),(ci 1)],none⟩,0⟩,
 ⟨⟨(some 28),.call ru [(t 27)],none⟩,0⟩,
 ⟨⟨(some 29),.bin .add (t 23) (t 28),none⟩,0⟩,
 ⟨⟨(some 5),.mov (t 29),none⟩,0⟩]
def zan1 : List au := [⟨⟨(some 15),.mov (t 6),none⟩,0⟩,
 ⟨⟨(some 16),.bin .add (t 15) (ci 1),none⟩,0⟩,
 ⟨⟨(some 6),.mov (t 16),none⟩,0⟩]
def zaby : TC := (.seq (.seq (.ops zan2) (.clean [0,1,5,6,14] (.cond (t 14) .skip (.exit 0)))) (.clean [0,1,5,6] (.seq (.block 1 [0,1,5,6] (.ops zan0)) (.clean [0,1,5,6] (.ops zan1)))))
def zanz : List au := [⟨⟨(some 30),.mov (t 5),none⟩,0⟩,
 ⟨⟨(some 31),.call ru [(t 30)],none⟩,0⟩,
 ⟨⟨(some 4),.mov (t 31),none⟩,0⟩]
def zaik : TC := (.seq (.ops zan7) (.clean [0,1] (.seq (.seq (.ops zan6) (.clean [0,1,12] (.cond (t 12) (.seq (.ops zan5) (.ret [4])) .skip))) (.clean [0,1] (.seq (.ops zan4) (.clean [0,1,5] (.seq (.seq (.ops zan3) (.block 0 [5] (.clean [0,1,5,6] (.loop [0,1,5,6] zaby)))) (.clean [5] (.seq (.ops zanz) (.ret [4]))))))))))
def zai5 : TFn := ⟨32,zaik,[.tmp 4],false⟩
theorem zn : type_of% (ai @zan7.eq_1 (ai @zan6.eq_1 (ai @zan5.eq_1 (ai @zan4.eq_1 (ai @zan3.eq_1 (ai @zan2.eq_1 (ai @zan0.eq_1 (ai @zan1.eq_1 (ai @zanz.eq_1 (ai @zaik.eq_1 @zai5.eq_1)))))))))) := ⟨rfl,rfl,rfl,rfl,rfl,rfl,rfl,rfl,rfl,rfl,rfl⟩
theorem za9r : uo Try.prog [] zt = some (32,zaik.erase,[.tmp 4]) := by kernel_rfl
def zar9 : List au := [⟨⟨(some 2),.mov (.const (Go.Value.string ⟨#[]⟩)),none⟩,0⟩]
def zar8 : List au := [⟨⟨(some 3),.mov (t 0),none⟩,0⟩,
 ⟨⟨(some 4),.call zafx [(t 3)],none⟩,0⟩,
 ⟨⟨(some 5),.sliceStr (t 4) none (some (ci 16)),none⟩,0⟩,
 ⟨⟨(some 2),.mov (t 5),none⟩,0⟩]
def zakn : TC := (.seq (.ops zar9) (.clean [0] (.seq (.ops zar8) (.ret [2]))))
def zalx : TFn := ⟨6,zakn,[.tmp 2],false⟩
theorem zbcm : type_of% (ai @zar9.eq_1 (ai @zar8.eq_1 (ai @zakn.eq_1 @zalx.eq_1))) := ⟨rfl,rfl,rfl,rfl⟩
theorem zbcc : uo Try.prog [] ru = some (6,zakn.erase,[.tmp 2]) := by kernel_rfl
def zarv : List au := [⟨⟨(some 8),.mov (.const (Go.Value.string ⟨#[]⟩)),none⟩,0⟩]
def zaru : List au := [⟨⟨(some 9),.mov (t 1),none⟩,0⟩,
 ⟨⟨(some 10),.bin .lss (t 9) (ci 0),none⟩,0⟩,
 ⟨⟨(some 11),.mov (t 10),none⟩,0⟩,
 ⟨⟨(some 12),.mov (t 1),(some (11,false))⟩,0⟩,
 ⟨⟨(some 13),.bin .gtr (t 12) (ci 255),(some (11,false))⟩,0⟩,
 ⟨⟨(some 14),.pick (t 11) (.const (Go.Value.bool true)) (t 13),none⟩,0⟩,
 ⟨⟨(some 15),.mov (t 14),none⟩,0⟩,
 ⟨⟨(some 16),.mov (t 2),(some (15,false))⟩,0⟩,
 ⟨⟨(some 17),.bin .lss (t 16) (ci 0),(some (15,false))⟩,0⟩,
 ⟨⟨(some 18),.pick (t 15) (.const (Go.Value.bool true)) (t 17),none⟩,0⟩,
 ⟨⟨(some 19),.mov (t 18),none⟩,0⟩,
 ⟨⟨(some 20),.mov (t 2),(some (19,false))⟩,0⟩,
 ⟨⟨(some 21),.bin .geq (t 20) (ci 16),(some (19,false))⟩,0⟩,
 ⟨⟨(some 22),.pick (t 19) (.const (Go.Value.bool true)) (t 21),none⟩,0⟩,
 ⟨⟨(some 23),.mov (t 22),none⟩,0⟩,
 ⟨⟨(some 24),.mov (t 3),(some (23,false))⟩,0⟩,
 ⟨⟨(some 25),.bin .lss (t 24) (ci 0),(some (23,false))⟩,0⟩,
 ⟨⟨(some 26),.pick (t 23) (.const (Go.Value.bool true)) (t 25),none⟩,0⟩,
 ⟨⟨(some 27),.mov (t 26),none⟩,0⟩,
 ⟨⟨(some 28),.mov (t 3),(some (27,false))⟩,0⟩,
 ⟨⟨(some 29),.bin .gtr (t 28) (ci 1),(some (27,false))⟩,0⟩,
 ⟨⟨(some 30),.pick (t 27) (.const (Go.Value.bool true)) (t 29),none⟩,0⟩]
def zart : List au := [⟨⟨(some 8),.mov (.const (Go.Value.string ⟨#[]⟩)),none⟩,0⟩]
def zars : List au := [⟨⟨(some 31),.mov (t 0),none⟩,0⟩,
 ⟨⟨(some 32),.mov (t 1),none⟩,0⟩,
 ⟨⟨(some 33),.conv .u8 (t 32),none⟩,0⟩,
 ⟨⟨(some 34),.mov (t 2),none⟩,0⟩,
 ⟨⟨(some 35),.conv .u8 (t 34),none⟩,0⟩,
 ⟨⟨(some 36),.mov (t 3),none⟩,0⟩,
 ⟨⟨(some 37),.conv .u8 (t 36),none⟩,0⟩,
 ⟨⟨(some 38),.buildSl fi 1 3 [(.int .u8 0),(.int .u8 0),(.int .u8 0)] [(0,1,(t 33)),(1,1,(t 35)),(2,1,(t 37))],none⟩,0⟩,
 ⟨⟨(some 39),.toStr (t 38),none⟩,0⟩,
 ⟨⟨(some 40),.bin .add (t 31) (t 39),none⟩,0⟩,
 ⟨⟨(some 41),.call ru [(t 40)],none⟩,0⟩,
 ⟨⟨(some 8),.mov (t 41),none⟩,0⟩]
def zakk : TC := (.seq (.ops zarv) (.clean [0,1,2,3] (.seq (.seq (.ops zaru) (.clean [0,1,2,3,30] (.cond (t 30) (.seq (.ops zart) (.ret [8])) .skip))) (.clean [0,1,2,3] (.seq (.ops zars) (.ret [8]))))))
def zalu : TFn := ⟨42,zakk,[.tmp 8],false⟩
theorem yg : type_of% (ai @zarv.eq_1 (ai @zaru.eq_1 (ai @zart.eq_1 (ai @zars.eq_1 (ai @zakk.eq_1 @zalu.eq_1))))) := ⟨rfl,rfl,rfl,rfl,rfl,rfl⟩
theorem zbb9 : uo Try.prog [] yk = some (42,zakk.erase,[.tmp 8]) := by kernel_rfl
def zavy : List au := [⟨⟨(some 2),.mov (.const (Go.Value.string ⟨#[]⟩)),none⟩,0⟩]
def zavx : List au := [⟨⟨(some 3),.mov (t 0),none⟩,0⟩,
 ⟨⟨(some 4),.call nc [(t 3)],none⟩,0⟩,
 ⟨⟨(some 5),.bin .add (.const (Go.Value.string ⟨#[115,101,101,100]⟩)) (t 4),none⟩,0⟩,
 ⟨⟨(some 2),.mov (t 5),none⟩,0⟩]
def zaph : TC := (.seq (.ops zavy) (.clean [0] (.seq (.ops zavx) (.ret [2]))))
def zap1 : TFn := ⟨6,zaph,[.tmp 2],false⟩
theorem U_L00_Seed : type_of% (ai @zavy.eq_1 (ai @zavx.eq_1 (ai @zaph.eq_1 @zap1.eq_1))) := ⟨rfl,rfl,rfl,rfl⟩
theorem c_L00_Seed : uo Try.prog [] zae0 = some (6,zaph.erase,[.tmp 2]) := by kernel_rfl
def zase : List au := [⟨⟨(some 0),.mov (.const (Go.Value.bool false)),none⟩,0⟩]
def zasd : List au := [⟨⟨(some 6),.call zabv [(ci 2),(ci 5),(ci 6)],none⟩,0⟩,
 ⟨⟨(some 1),.box dj 7 (.const (.agg #[(.string ⟨#[]⟩),(.slice none 0 0),(.slice none 0 0),(.slice none 0 0),(.slice none 0 0),(.int .i64 0),(.int .i64 0)])),none⟩,0⟩,
 ⟨⟨none,.store 7 (t 1) (t 6),none⟩,0⟩]
def zasc : List au := [⟨⟨(some 8),.loadN 7 (t 1),none⟩,0⟩,
 ⟨⟨(some 9),.call rc [(t 8)],none⟩,0⟩,
 ⟨⟨(some 10),.call uc [(t 9)],none⟩,0⟩,
 ⟨⟨(some 7),.mov (t 10),none⟩,0⟩,
 ⟨⟨(some 11),.extract (t 7) 0,none⟩,0⟩,
 ⟨⟨(some 12),.extract (t 7) 1,none⟩,0⟩,
 ⟨⟨(some 2),.box dj 7 (.const (.agg #[(.string ⟨#[]⟩),(.slice none 0 0),(.slice none 0 0),(.slice none 0 0),(.slice none 0 0),(.int .i64 0),(.int .i64 0)])),none⟩,0⟩,
 ⟨⟨none,.store 7 (t 2) (t 11),none⟩,0⟩,
 ⟨⟨(some 3),.mov (t 12),none⟩,0⟩]
def zasb : List au := [⟨⟨(some 14),.call uc [(.const (Go.Value.string ⟨#[]⟩))],none⟩,0⟩,
 ⟨⟨(some 13),.mov (t 14),none⟩,0⟩,
 ⟨⟨(some 15),.extract (t 13) 0,none⟩,0⟩,
 ⟨⟨(some 16),.extract (t 13) 1,none⟩,0⟩,
 ⟨⟨(some 4),.box dj 7 (.const (.agg #[(.string ⟨#[]⟩),(.slice none 0 0),(.slice none 0 0),(.slice none 0 0),(.slice none 0 0),(.int .i64 0),(.int .i64 0)])),none⟩,0⟩,
 ⟨⟨none,.store 7 (t 4) (t 15),none⟩,0⟩,
 ⟨⟨(some 5),.mov (t 16),none⟩,0⟩]
def zasa : List au := [⟨⟨(some 17),.loadN 7 (t 1),none⟩,0⟩,
 ⟨⟨(some 18),.call pa [(t 17)],none⟩,0⟩,
 ⟨⟨(some 19),.mov (t 18),none⟩,0⟩,
 ⟨⟨(some 20),.mov (t 3),(some (19,true))⟩,0⟩,
 ⟨⟨(some 21),.bin .eql (t 20) (ci 0),(some (19,true))⟩,0⟩,
 ⟨⟨(some 22),.pick (t 19) (t 21) (.const (Go.Value.bool false)),none⟩,0⟩,
 ⟨⟨(some 23),.mov (t 22),none⟩,0⟩,
 ⟨⟨(some 24),.loadN 7 (t 1),(some (23,true))⟩,0⟩,
 ⟨⟨(some 25),.loadN 7 (t 2),(some (23,true))⟩,0⟩,
 ⟨⟨(some 26),.call yj [(t 24),(t 25)],(some (23,true))⟩,0⟩,
 ⟨⟨(some 27),.pick (t 23) (t 26) (.const (Go.Value.bool false)),none⟩,0⟩,
 ⟨⟨(some 28),.mov (t 27),none⟩,0⟩,
 ⟨⟨(some 29),.mov (t 5),(some (28,true))⟩,0⟩,
 ⟨⟨(some 30),.bin .eql (t 29) (ci 2),(some (28,true))⟩,0⟩,
 ⟨⟨(some 31),.pick (t 28) (t 30) (.const (Go.Value.bool false)),none⟩,0⟩,
 ⟨⟨(some 32),.mov (t 31),none⟩,0⟩,
 ⟨⟨(some 33),.build [(.string ⟨#[]⟩),(.slice none 0 0),(.slice none 0 0),(.slice none 0 0),(.slice none 0 0),(.int .i64 0),(.int .i64 0)] [],(some (32,true))⟩,0⟩,
 ⟨⟨(some 34),.call pa [(t 33)],(some (32,true))⟩,0⟩,
 ⟨⟨(some 35),.un .not (t 34),(some (32,true))⟩,0⟩,
 ⟨⟨(some 36),.pick (t 32) (t 35) (.const (Go.Value.bool false)),none⟩,0⟩,
 ⟨⟨(some 0),.mov (t 36),none⟩,0⟩]
def zako : TC := (.seq (.ops zase) (.clean [] (.seq (.ops zasd) (.clean [1] (.seq (.ops zasc) (.clean [1,2,3] (.seq (.ops zasb) (.clean [1,2,3,5] (.seq (.ops zasa) (.ret [0]))))))))))
def zaly : TFn := ⟨37,zako,[.tmp 0],false⟩
theorem zaft : type_of% (ai @zase.eq_1 (ai @zasd.eq_1 (ai @zasc.eq_1 (ai @zasb.eq_1 (ai @zasa.eq_1 (ai @zako.eq_1 @zaly.eq_1)))))) := ⟨rfl,rfl,rfl,rfl,rfl,rfl,rfl⟩
theorem zbcd : uo Try.prog [] zabu = some (37,zako.erase,[.tmp 0]) := by kernel_rfl
def zarh : List au := [⟨⟨(some 2),.box dj 7 (.const (.agg #[(.string ⟨#[]⟩),(.slice none 0 0),(.slice none 0 0),(.slice none 0 0),(.slice none 0 0),(.int .i64 0),(.int .i64 0)])),none⟩,0⟩,
 ⟨⟨(some 3),.mov (ci 0),none⟩,0⟩]
def zarg : List au := [⟨⟨(some 7),.mov (t 0),none⟩,0⟩,
 ⟨⟨(some 8),.call zabr [(t 7)],none⟩,0⟩,
 ⟨⟨(some 4),.box cy 1 (.const (.pointer none)),none⟩,0⟩,
 ⟨⟨none,.store 1 (t 4) (t 8),none⟩,0⟩]
def zarf : List au := [⟨⟨(some 9),.mkFunc (.func dt) [] [(t 4)],none⟩,0⟩,
 ⟨⟨(some 5),.box j9 1 (.const .nilFunc),none⟩,0⟩,
 ⟨⟨none,.store 1 (t 5) (t 9),none⟩,0⟩]
def zare : List au := [⟨⟨(some 10),.load1 (t 5),none⟩,0⟩,
 ⟨⟨(some 11),.callv (t 10) [],none⟩,0⟩,
 ⟨⟨(some 12),.build [(.string ⟨#[]⟩),(.slice none 0 0),(.slice none 0 0),(.slice none 0 0),(.slice none 0 0),(.int .i64 0),(.int .i64 0)] [(0,1,(t 11))],none⟩,0⟩,
 ⟨⟨(some 6),.box dj 7 (.const (.agg #[(.string ⟨#[]⟩),(.slice none 0 0),(.slice none 0 0),(.slice none 0 0),(.slice none 0 0),(.int .i64 0),(.int .i64 0)])),none⟩,0⟩,
 ⟨⟨none,.store 7 (t 6) (t 12),none⟩,0⟩]
def zard : List au := [⟨⟨(some 13),.load1 (t 4),none⟩,0⟩,
 ⟨⟨(some 14),.mkFunc (.func m7) [] [(t 5),(t 4)],none⟩,0⟩,
 ⟨⟨(some 15),.call ig [(t 13),(ci 6),(t 14)],none⟩,0⟩,
 ⟨⟨(some 16),.fieldAddr 1 (t 6),none⟩,0⟩,
 ⟨⟨none,.store 1 (t 16) (t 15),none⟩,0⟩]
def zarc : List au := [⟨⟨(some 17),.load1 (t 4),none⟩,0⟩,
 ⟨⟨(some 18),.mkFunc (.func m6) [] [(t 4),(t 5)],none⟩,0⟩,
 ⟨⟨(some 19),.call kc [(t 17),(ci 12),(t 18)],none⟩,0⟩,
 ⟨⟨(some 20),.fieldAddr 2 (t 6),none⟩,0⟩,
 ⟨⟨none,.store 1 (t 20) (t 19),none⟩,0⟩]
def zarb : List au := [⟨⟨(some 21),.load1 (t 4),none⟩,0⟩,
 ⟨⟨(some 22),.load1 (t 4),none⟩,0⟩,
 ⟨⟨(some 23),.mkFunc (.func bp) [(t 22)] [],none⟩,0⟩,
 ⟨⟨(some 24),.call oo [(t 21),(ci 3),(t 23)],none⟩,0⟩,
 ⟨⟨(some 25),.fieldAddr 3 (t 6),none⟩,0⟩,
 ⟨⟨none,.store 1 (t 25) (t 24),none⟩,0⟩]
def zara : List au := [⟨⟨(some 26),.load1 (t 4),none⟩,0⟩,
 ⟨⟨(some 27),.load1 (t 5),none⟩,0⟩,
 ⟨⟨(some 28),.call jc [(t 26),(ci 3),(t 27)],none⟩,0⟩,
 ⟨⟨(some 29),.fieldAddr 4 (t 6),none⟩,0⟩,
 ⟨⟨none,.store 1 (t 29) (t 28),none⟩,0⟩]
def zaq9 : List (au × List Nat) := [(⟨⟨(some 30),.load1 (t 4),none⟩,0⟩,[]),
 (⟨⟨(some 32),.load1 (t 4),none⟩,0⟩,[]),
 (⟨⟨(some 31),.callW bp [(t 30)],none⟩,7⟩,[1]),
 (⟨⟨(some 34),.fieldAddr 5 (t 6),none⟩,0⟩,[]),
 (⟨⟨(some 33),.callW bp [(t 32)],none⟩,0⟩,[]),
 (⟨⟨none,.store 1 (t 34) (t 31),none⟩,0⟩,[]),
 (⟨⟨(some 35),.fieldAddr 6 (t 6),none⟩,0⟩,[]),
 (⟨⟨none,.store 1 (t 35) (t 33),none⟩,0⟩,[])]
def zaq8 : List au := [⟨⟨(some 36),.load1 (t 4),none⟩,0⟩,
 ⟨⟨(some 37),.call mg [(t 36)],none⟩,0⟩,
 ⟨⟨(some 38),.mov (t 37),none⟩,0⟩,
 ⟨⟨(some 39),.load1 (t 4),(some (38,false))⟩,0⟩,
 ⟨⟨(some 40),.call ky [(t 39)],(some (38,false))⟩,0⟩,
 ⟨⟨(some 41),.bin .gtr (t 40) (ci 0),(some (38,false))⟩,0⟩,
 ⟨⟨(some 42),.pick (t 38) (.const (Go.Value.bool true)) (t 41),none⟩,0⟩,
 ⟨⟨(some 43),.mov (t 42),none⟩,0⟩,
 ⟨⟨(some 44),.loadN 7 (t 6),(some (43,false))⟩,0⟩,
 ⟨⟨(some 45),.call pa [(t 44)],(some (43,false))⟩,0⟩,
 ⟨⟨(some 46),.un .not (t 45),(some (43,false))⟩,0⟩,
 ⟨⟨(some 47),.pick (t 43) (.const (Go.Value.bool true)) (t 46),none⟩,0⟩]
def zang : List au := [⟨⟨(some 48),.build [(.string ⟨#[]⟩),(.slice none 0 0),(.slice none 0 0),(.slice none 0 0),(.slice none 0 0),(.int .i64 0),(.int .i64 0)] [],none⟩,0⟩,
 ⟨⟨none,.store 7 (t 2) (t 48),none⟩,0⟩,
 ⟨⟨(some 3),.mov (ci 2),none⟩,0⟩]
def zanf : List au := [⟨⟨(some 49),.loadN 7 (t 6),none⟩,0⟩,
 ⟨⟨none,.store 7 (t 2) (t 49),none⟩,0⟩,
 ⟨⟨(some 3),.mov (ci 0),none⟩,0⟩]
def zakh : TC := (.seq (.ops zarh) (.clean [0,2] (.seq (.ops zarg) (.clean [2,4] (.seq (.ops zarf) (.clean [2,4,5] (.seq (.ops zare) (.clean [2,4,5,6] (.seq (.ops zard) (.clean [2,4,5,6] (.seq (.ops zarc) (.clean [2,4,5,6] (.seq (.ops zarb) (.clean [2,4,5,6] (.seq (.ops zara) (.clean [2,4,6] (.seq (.draw zaq9) (.clean [2,4,6] (.seq (.seq (.ops zaq8) (.clean [2,6,47] (.cond (t 47) (.seq (.ops zang) (.ret [2,3])) .skip))) (.clean [2,6] (.seq (.ops zanf) (.ret [2,3]))))))))))))))))))))))
def zalr : TFn := ⟨50,zakh,[.cellN 2 7,.tmp 3],false⟩
theorem zajh : type_of% (ai @zarh.eq_1 (ai @zarg.eq_1 (ai @zarf.eq_1 (ai @zare.eq_1 (ai @zard.eq_1 (ai @zarc.eq_1 (ai @zarb.eq_1 (ai @zara.eq_1 (ai @zaq9.eq_1 (ai @zaq8.eq_1 (ai @zang.eq_1 (ai @zanf.eq_1 (ai @zakh.eq_1 @zalr.eq_1))))))))))))) := ⟨rfl,rfl,rfl,rfl,rfl,rfl,rfl,rfl,rfl,rfl,rfl,rfl,rfl,rfl⟩
theorem zbb6 : uo Try.prog [(8,⟨[0,2,1,4,3,5,6,7],[0,1,0,7,3,31,63,127],[1,3],[(1,[2])]⟩)] uc = some (50,zakh.erase,[.cellN 2 7,.tmp 3]) := by kernel_rfl
def zanq : List au := [⟨⟨(some 1),.box dj 7 (t 0),none⟩,0⟩,
 ⟨⟨(some 2),.mov (.const (Go.Value.bool false)),none⟩,0⟩]
def zanp : List (au × List Nat) := [(⟨⟨(some 12),.fieldAddr 1 (t 1),none⟩,0⟩,[]),
 (⟨⟨(some 13),.load1 (t 12),none⟩,0⟩,[]),
 (⟨⟨(some 14),.lenL (t 13),none⟩,0⟩,[]),
 (⟨⟨(some 15),.fieldAddr 3 (t 1),none⟩,0⟩,[]),
 (⟨⟨(some 16),.load1 (t 15),none⟩,0⟩,[]),
 (⟨⟨(some 17),.lenL (t 16),none⟩,0⟩,[]),
 (⟨⟨(some 3),.box uq 1 (.const (.int .i64 0)),none⟩,0⟩,[]),
 (⟨⟨none,.store 1 (t 3) (t 14),none⟩,0⟩,[4]),
 (⟨⟨(some 4),.mov (t 17),none⟩,0⟩,[])]
def zano : List au := [⟨⟨(some 18),.fieldAddr 0 (t 1),none⟩,0⟩,
 ⟨⟨(some 19),.load1 (t 18),none⟩,0⟩,
 ⟨⟨(some 20),.call ub [(t 19)],none⟩,0⟩,
 ⟨⟨(some 21),.un .not (t 20),none⟩,0⟩,
 ⟨⟨(some 22),.mov (t 21),none⟩,0⟩,
 ⟨⟨(some 23),.load1 (t 3),(some (22,false))⟩,0⟩,
 ⟨⟨(some 24),.call nu [(t 23),(ci 2),(ci 6)],(some (22,false))⟩,0⟩,
 ⟨⟨(some 25),.un .not (t 24),(some (22,false))⟩,0⟩,
 ⟨⟨(some 26),.pick (t 22) (.const (Go.Value.bool true)) (t 25),none⟩,0⟩,
 ⟨⟨(some 27),.mov (t 26),none⟩,0⟩,
 ⟨⟨(some 28),.mov (t 4),(some (27,false))⟩,0⟩,
 ⟨⟨(some 29),.call nu [(t 28),(ci 1),(ci 3)],(some (27,false))⟩,0⟩,
 ⟨⟨(some 30),.un .not (t 29),(some (27,false))⟩,0⟩,
 ⟨⟨(some 31),.pick (t 27) (.const (Go.Value.bool true)) (t 30),none⟩,0⟩,
 ⟨⟨(some 32),.mov (t 31),none⟩,0⟩,
 ⟨⟨(some 33),.fieldAddr 2 (t 1),(some (32,false))⟩,0⟩,
 ⟨⟨(some 34),.load1 (t 33),(some (32,false))⟩,0⟩,
 ⟨⟨(some 35),.lenL (t 34),(some (32,false))⟩,0⟩,
 ⟨⟨(some 36),.call nu [(t 35),(ci 1),(ci 12)],(some (32,false))⟩,0⟩,
 ⟨⟨(some 37),.un .not (t 36),(some (32,false))⟩,0⟩,
 ⟨⟨(some 38),.pick (t 32) (.const (Go.Value.bool true)) (t 37),none⟩,0⟩,
 ⟨⟨(some 39),.mov (t 38),none⟩,0⟩,
 ⟨⟨(some 40),.fieldAddr 4 (t 1),(some (39,false))⟩,0⟩,
 ⟨⟨(some 41),.load1 (t 40),(some (39,false))⟩,0⟩,
 ⟨⟨(some 42),.mov (t 4),(some (39,false))⟩,0⟩,
 ⟨⟨(some 43),.call ua [(t 41),(t 42),(ci 32)],(some (39,false))⟩,0⟩,
 ⟨⟨(some 44),.un .not (t 43),(some (39,false))⟩,0⟩,
 ⟨⟨(some 45),.pick (t 39) (.const (Go.Value.bool true)) (t 44),none⟩,0⟩,
 ⟨⟨(some 46),.mov (t 45),none⟩,0⟩,
 ⟨⟨(some 47),.fieldAddr 5 (t 1),(some (46,false))⟩,0⟩,
 ⟨⟨(some 48),.load1 (t 47),(some (46,false))⟩,0⟩,
 ⟨⟨(some 49),.call nu [(t 48),(ci 0),(ci 1099511627776)],(some (46,false))⟩,0⟩,
 ⟨⟨(some 50),.un .not (t 49),(some (46,false))⟩,0⟩,
 ⟨⟨(some 51),.pick (t 46) (.const (Go.Value.bool true)) (t 50),none⟩,0⟩,
 ⟨⟨(some 52),.mov (t 51),none⟩,0⟩,
 ⟨⟨(some 53),.fieldAddr 6 (t 1),(some (52,false))⟩,0⟩,
 ⟨⟨(some 54),.load1 (t 53),(some (52,false))⟩,0⟩,
 ⟨⟨(some 55),.call nu [(t 54),(ci 1),(ci 1048576)],(some (52,false))⟩,0⟩,
 ⟨⟨(some 56),.un .not (t 55),(some (52,false))⟩,0⟩,
 ⟨⟨(some 57),.pick (t 52) (.const (Go.Value.bool true)) (t 56),none⟩,0⟩]
def zann : List au := [⟨⟨(some 2),.mov (.const (Go.Value.bool false)),none⟩,0⟩]
def zanm : List au := [⟨⟨(some 5),.mov (.const (Go.Value.slice none 0 0)),none⟩,1⟩]
def zanl : List au := [⟨⟨(some 58),.fieldAddr 1 (t 1),none⟩,0⟩,
 ⟨⟨(some 59),.load1 (t 58),none⟩,0⟩,
 ⟨⟨(some 60),.lenL (t 59),none⟩,0⟩,
 ⟨⟨(some 61),.mov (ci 0),none⟩,0⟩]
def zank : List au := [⟨⟨(some 62),.bin .lss (t 61) (t 60),none⟩,0⟩]
def zanj : List au := [⟨⟨(some 63),.indexSl 2 (t 59) (t 61),none⟩,0⟩,
 ⟨⟨(some 64),.loadN 2 (t 63),none⟩,0⟩,
 ⟨⟨(some 7),.box dq 2 (.const (.agg #[(.string ⟨#[]⟩),(.slice none 0 0)])),none⟩,0⟩,
 ⟨⟨none,.store 2 (t 7) (t 64),none⟩,0⟩]
def zani : List au := [⟨⟨(some 65),.fieldAddr 0 (t 7),none⟩,0⟩,
 ⟨⟨(some 66),.load1 (t 65),none⟩,0⟩,
 ⟨⟨(some 67),.call ub [(t 66)],none⟩,0⟩,
 ⟨⟨(some 68),.un .not (t 67),none⟩,0⟩,
 ⟨⟨(some 69),.mov (t 68),none⟩,0⟩,
 ⟨⟨(some 70),.fieldAddr 1 (t 7),(some (69,false))⟩,0⟩,
 ⟨⟨(some 71),.load1 (t 70),(some (69,false))⟩,0⟩,
 ⟨⟨(some 72),.mov (t 4),(some (69,false))⟩,0⟩,
 ⟨⟨(some 73),.call ua [(t 71),(t 72),(ci 16)],(some (69,false))⟩,0⟩,
 ⟨⟨(some 74),.un .not (t 73),(some (69,false))⟩,0⟩,
 ⟨⟨(some 75),.pick (t 69) (.const (Go.Value.bool true)) (t 74),none⟩,0⟩]
def zanh : List au := [⟨⟨(some 2),.mov (.const (Go.Value.bool false)),none⟩,0⟩]
def zali : List au := [⟨⟨(some 76),.mov (t 5),none⟩,0⟩,
 ⟨⟨(some 77),.fieldAddr 0 (t 7),none⟩,0⟩,
 ⟨⟨(some 78),.load1 (t 77),none⟩,0⟩,
 ⟨⟨(some 79),.buildSl fq 1 1 [(.string ⟨#[]⟩)] [(0,1,(t 78))],none⟩,0⟩,
 ⟨⟨(some 80),.append fq 1 16 (t 76) (t 79),none⟩,0⟩,
 ⟨⟨(some 5),.mov (t 80),none⟩,0⟩]
def zalh : List au := [⟨⟨(some 81),.bin .add (t 61) (ci 1),none⟩,0⟩,
 ⟨⟨(some 61),.mov (t 81),none⟩,0⟩]
def sb : TC := (.seq (.ops zank) (.clean [1,3,4,5,59,60,61,62] (.seq (.cond (t 62) .skip (.exit 0)) (.clean [1,3,4,5,59,60,61] (.seq (.block 1 [1,3,4,5,59,60,61] (.seq (.ops zanj) (.clean [1,3,4,5,7,59,60,61] (.seq (.seq (.ops zani) (.clean [1,3,4,5,7,59,60,61,75] (.cond (t 75) (.seq (.ops zanh) (.ret [2])) .skip))) (.clean [1,3,4,5,7,59,60,61] (.ops zali)))))) (.clean [1,3,4,5,59,60,61] (.ops zalh)))))))
def zalg : List au := [⟨⟨(some 8),.mov (.const (Go.Value.slice none 0 0)),none⟩,1⟩]
def zalf : List au := [⟨⟨(some 82),.fieldAddr 2 (t 1),none⟩,0⟩,
 ⟨⟨(some 83),.load1 (t 82),none⟩,0⟩,
 ⟨⟨(some 84),.lenL (t 83),none⟩,0⟩,
 ⟨⟨(some 85),.mov (ci 0),none⟩,0⟩]
def zale : List au := [⟨⟨(some 86),.bin .lss (t 85) (t 84),none⟩,0⟩]
def zald : List au := [⟨⟨(some 87),.indexSl 5 (t 83) (t 85),none⟩,0⟩,
 ⟨⟨(some 88),.loadN 5 (t 87),none⟩,0⟩,
 ⟨⟨(some 10),.box mp 5 (.const (.agg #[(.int .i64 0),(.int .i64 0),(.int .i64 0),(.string ⟨#[]⟩),(.int .i64 0)])),none⟩,0⟩,
 ⟨⟨none,.store 5 (t 10) (t 88),none⟩,0⟩]
def zalc : List au := [⟨⟨(some 89),.loadN 5 (t 10),none⟩,0⟩,
 ⟨⟨(some 90),.load1 (t 3),none⟩,0⟩,
 ⟨⟨(some 91),.call zaey [(t 89),(t 90)],none⟩,0⟩,
 ⟨⟨(some 92),.un .not (t 91),none⟩,0⟩]
def zalb : List au := [⟨⟨(some 2),.mov (.const (Go.Value.bool false)),none⟩,0⟩]
def zala : List au := [⟨⟨(some 93),.mov (t 8),none⟩,0⟩,
 ⟨⟨(some 94),.fieldAddr 0 (t 10),none⟩,0⟩,
 ⟨⟨(some 95),.load1 (t 94),none⟩,0⟩,
 ⟨⟨(some 96),.fieldAddr 1 (t 10),none⟩,0⟩,
 ⟨⟨(some 97),.load1 (t 96),none⟩,0⟩,
 ⟨⟨(some 98),.build [(.int .i64 0),(.int .i64 0)] [(0,1,(t 95)),(1,1,(t 97))],none⟩,0⟩,
 ⟨⟨(some 99),.buildSl qi 2 1 [(.int .i64 0),(.int .i64 0)] [(0,2,(t 98))],none⟩,0⟩,
 ⟨⟨(some 100),.append qi 2 16 (t 93) (t 99),none⟩,0⟩,
 ⟨⟨(some 8),.mov (t 100),none⟩,0⟩]
def zak9 : List au := [⟨⟨(some 101),.bin .add (t 85) (ci 1),none⟩,0⟩,
 ⟨⟨(some 85),.mov (t 101),none⟩,0⟩]
def vy : TC := (.seq (.ops zale) (.clean [1,3,5,8,83,84,85,86] (.seq (.cond (t 86) .skip (.exit 2)) (.clean [1,3,5,8,83,84,85] (.seq (.block 3 [1,3,5,8,83,84,85] (.seq (.ops zald) (.clean [1,3,5,8,10,83,84,85] (.seq (.seq (.ops zalc) (.clean [1,3,5,8,10,83,84,85,92] (.cond (t 92) (.seq (.ops zalb) (.ret [2])) .skip))) (.clean [1,3,5,8,10,83,84,85] (.ops zala)))))) (.clean [1,3,5,8,83,84,85] (.ops zak9)))))))
def zak8 : List au := [⟨⟨(some 102),.mkFunc (.func iq) [] [(t 3)],none⟩,0⟩,
 ⟨⟨(some 11),.mov (t 102),none⟩,0⟩]
def zak7 : List au := [⟨⟨(some 103),.mov (t 5),none⟩,0⟩,
 ⟨⟨(some 104),.call g9 [(t 103)],none⟩,0⟩,
 ⟨⟨(some 105),.mov (t 104),none⟩,0⟩,
 ⟨⟨(some 106),.mov (t 8),(some (105,true))⟩,0⟩,
 ⟨⟨(some 107),.call jo [(t 106)],(some (105,true))⟩,0⟩,
 ⟨⟨(some 108),.pick (t 105) (t 107) (.const (Go.Value.bool false)),none⟩,0⟩,
 ⟨⟨(some 109),.mov (t 108),none⟩,0⟩,
 ⟨⟨(some 110),.fieldAddr 3 (t 1),(some (109,true))⟩,0⟩,
 ⟨⟨(some 111),.load1 (t 110),(some (109,true))⟩,0⟩,
 ⟨⟨(some 112),.call l7 [(t 111)],(some (109,true))⟩,0⟩,
 ⟨⟨(some 113),.pick (t 109) (t 112) (.const (Go.Value.bool false)),none⟩,0⟩,
 ⟨⟨(some 114),.mov (t 113),none⟩,0⟩,
 ⟨⟨(some 115),.fieldAddr 3 (t 1),(some (114,true))⟩,0⟩,
 ⟨⟨(some 116),.load1 (t 115),(some (114,true))⟩,0⟩,
 ⟨⟨(some 117),.mov (t 11),(some (114,true))⟩,0⟩,
 ⟨⟨(some 118),.call ee [(t 116),(t 117)],(some (114,true))⟩,0⟩,
 ⟨⟨(some 119),.un .not (t 118),(some (114,true))⟩,0⟩,
 ⟨⟨(some 120),.pick (t 114) (t 119) (.const (Go.Value.bool false)),none⟩,0⟩,
 ⟨⟨(some 2),.mov (t 120),none⟩,0⟩]
def zaih : TC := (.seq (.ops zanq) (.clean [1] (.seq (.draw zanp) (.clean [1,3,4] (.seq (.seq (.ops zano) (.clean [1,3,4,57] (.cond (t 57) (.seq (.ops zann) (.ret [2])) .skip))) (.clean [1,3,4] (.seq (.ops zanm) (.clean [1,3,4,5] (.seq (.seq (.ops zanl) (.block 0 [1,3,5] (.clean [1,3,4,5,59,60,61] (.loop [1,3,4,5,59,60,61] sb)))) (.clean [1,3,5] (.seq (.ops zalg) (.clean [1,3,5,8] (.seq (.seq (.ops zalf) (.block 2 [1,3,5,8] (.clean [1,3,5,8,83,84,85] (.loop [1,3,5,8,83,84,85] vy)))) (.clean [1,3,5,8] (.seq (.ops zak8) (.clean [1,5,8,11] (.seq (.ops zak7) (.ret [2]))))))))))))))))))
def zai2 : TFn := ⟨121,zaih,[.tmp 2],false⟩
theorem dh : type_of% (ai @zanq.eq_1 (ai @zanp.eq_1 (ai @zano.eq_1 (ai @zann.eq_1 (ai @zanm.eq_1 (ai @zanl.eq_1 (ai @zank.eq_1 (ai @zanj.eq_1 (ai @zani.eq_1 (ai @zanh.eq_1 (ai @zali.eq_1 (ai @zalh.eq_1 (ai @zalg.eq_1 (ai @zalf.eq_1 (ai @zale.eq_1 (ai @zald.eq_1 (ai @zalc.eq_1 (ai @zalb.eq_1 (ai @zala.eq_1 (ai @zak9.eq_1 (ai @zak8.eq_1 (ai @zak7.eq_1 (ai @zaih.eq_1 @zai2.eq_1))))))))))))))))))))))) := ⟨rfl,rfl,rfl,rfl,rfl,rfl,rfl,rfl,rfl,rfl,rfl,rfl,rfl,rfl,rfl,rfl,rfl,rfl,rfl,rfl,rfl,rfl,rfl,rfl⟩
theorem za9o : uo Try.prog [(1,⟨[0,1,2,3,4,5,6,7,8],[0,1,3,0,8,24,0,71,255],[],[(7,[4])]⟩)] pa = some (121,zaih.erase,[.tmp 2]) := by kernel_rfl
def zaq4 : List au := [⟨⟨(some 2),.mov (.const (Go.Value.bool false)),none⟩,0⟩]
def zaq3 : List au := [⟨⟨(some 3),.mov (t 0),none⟩,0⟩,
 ⟨⟨(some 4),.lenS (t 3),none⟩,0⟩,
 ⟨⟨(some 5),.bin .geq (t 4) (ci 1),none⟩,0⟩,
 ⟨⟨(some 6),.mov (t 5),none⟩,0⟩,
 ⟨⟨(some 7),.mov (t 0),(some (6,true))⟩,0⟩,
 ⟨⟨(some 8),.lenS (t 7),(some (6,true))⟩,0⟩,
 ⟨⟨(some 9),.bin .leq (t 8) (ci 16),(some (6,true))⟩,0⟩,
 ⟨⟨(some 10),.pick (t 6) (t 9) (.const (Go.Value.bool false)),none⟩,0⟩,
 ⟨⟨(some 2),.mov (t 10),none⟩,0⟩]
def zakf : TC := (.seq (.ops zaq4) (.clean [0] (.seq (.ops zaq3) (.ret [2]))))
def zalp : TFn := ⟨11,zakf,[.tmp 2],false⟩
theorem zaz2 : type_of% (ai @zaq4.eq_1 (ai @zaq3.eq_1 (ai @zakf.eq_1 @zalp.eq_1))) := ⟨rfl,rfl,rfl,rfl⟩
theorem zbb4 : uo Try.prog [] ub = some (11,zakf.erase,[.tmp 2]) := by kernel_rfl
def zayr : List au := [⟨⟨(some 6),.mov (.const (Go.Value.bool false)),none⟩,0⟩]
def zayq : List au := [⟨⟨(some 7),.mov (t 0),none⟩,0⟩,
 ⟨⟨(some 8),.mov (t 1),none⟩,0⟩,
 ⟨⟨(some 9),.bin .geq (t 7) (t 8),none⟩,0⟩,
 ⟨⟨(some 10),.mov (t 9),none⟩,0⟩,
 ⟨⟨(some 11),.mov (t 0),(some (10,true))⟩,0⟩,
 ⟨⟨(some 12),.mov (t 2),(some (10,true))⟩,0⟩,
 ⟨⟨(some 13),.bin .leq (t 11) (t 12),(some (10,true))⟩,0⟩,
 ⟨⟨(some 14),.pick (t 10) (t 13) (.const (Go.Value.bool false)),none⟩,0⟩,
 ⟨⟨(some 6),.mov (t 14),none⟩,0⟩]
def zaub : TC := (.seq (.ops zayr) (.clean [0,1,2] (.seq (.ops zayq) (.ret [6]))))
def zauv : TFn := ⟨15,zaub,[.tmp 6],false⟩
theorem za93 : type_of% (ai @zayr.eq_1 (ai @zayq.eq_1 (ai @zaub.eq_1 @zauv.eq_1))) := ⟨rfl,rfl,rfl,rfl⟩
theorem c_spec_in : uo Try.prog [] nu = some (15,zaub.erase,[.tmp 6]) := by kernel_rfl
def zane : List au := [⟨⟨(some 5),.box uq 1 (t 2),none⟩,0⟩,
 ⟨⟨(some 6),.mov (.const (Go.Value.bool false)),none⟩,0⟩]
def zand : List au := [⟨⟨(some 7),.mov (t 0),none⟩,0⟩,
 ⟨⟨(some 8),.lenL (t 7),none⟩,0⟩,
 ⟨⟨(some 9),.mov (t 1),none⟩,0⟩,
 ⟨⟨(some 10),.bin .eql (t 8) (t 9),none⟩,0⟩,
 ⟨⟨(some 11),.mov (t 10),none⟩,0⟩,
 ⟨⟨(some 12),.mov (t 0),(some (11,true))⟩,0⟩,
 ⟨⟨(some 13),.mkFunc (.func ip) [] [(t 5)],(some (11,true))⟩,0⟩,
 ⟨⟨(some 14),.call cw [(t 12),(t 13)],(some (11,true))⟩,0⟩,
 ⟨⟨(some 15),.un .not (t 14),(some (11,true))⟩,0⟩,
 ⟨⟨(some 16),.pick (t 11) (t 15) (.const (Go.Value.bool false)),none⟩,0⟩,
 ⟨⟨(some 6),.mov (t 16),none⟩,0⟩]
def zaig : TC := (.seq (.ops zane) (.clean [0,1,5] (.seq (.ops zand) (.ret [6]))))
def zai1 : TFn := ⟨17,zaig,[.tmp 6],false⟩
theorem zawb : type_of% (ai @zane.eq_1 (ai @zand.eq_1 (ai @zaig.eq_1 @zai1.eq_1))) := ⟨rfl,rfl,rfl,rfl⟩
theorem za9n : uo Try.prog [] ua = some (17,zaig.erase,[.tmp 6]) := by kernel_rfl
def mo : List au := [⟨⟨(some 4),.mov (.const (Go.Value.bool false)),none⟩,0⟩]
def mn : List au := [⟨⟨(some 5),.mov (t 0),none⟩,0⟩,
 ⟨⟨(some 6),.mov (t 1),none⟩,0⟩,
 ⟨⟨(some 7),.call dk [(t 5),(t 6)],none⟩,0⟩,
 ⟨⟨(some 8),.bin .geq (t 7) (ci 0),none⟩,0⟩,
 ⟨⟨(some 4),.mov (t 8),none⟩,0⟩]
def ik : TC := (.seq (.ops mo) (.clean [0,1] (.seq (.ops mn) (.ret [4]))))
def io : TFn := ⟨9,ik,[.tmp 4],false⟩
theorem yf : type_of% (ai @mo.eq_1 (ai @mn.eq_1 (ai @ik.eq_1 @io.eq_1))) := ⟨rfl,rfl,rfl,rfl⟩
theorem yd : uo Try.prog [] cw = some (9,ik.erase,[.tmp 4]) := by kernel_rfl
def ol : List au := [⟨⟨(some 4),.mov (ci 0),none⟩,0⟩]
def oi : List au := [⟨⟨(some 6),.mov (t 0),none⟩,0⟩,
 ⟨⟨(some 7),.lenL (t 6),none⟩,0⟩,
 ⟨⟨(some 8),.mov (ci 0),none⟩,0⟩]
def oh : List au := [⟨⟨(some 9),.bin .lss (t 8) (t 7),none⟩,0⟩]
def og : List au := [⟨⟨(some 10),.mov (t 8),none⟩,0⟩,
 ⟨⟨(some 5),.mov (t 10),none⟩,0⟩]
def od : List au := [⟨⟨(some 11),.mov (t 1),none⟩,0⟩,
 ⟨⟨(some 12),.mov (t 0),none⟩,0⟩,
 ⟨⟨(some 13),.mov (t 5),none⟩,0⟩,
 ⟨⟨(some 14),.indexSl 1 (t 12) (t 13),none⟩,0⟩,
 ⟨⟨(some 15),.load1 (t 14),none⟩,0⟩,
 ⟨⟨(some 16),.callv (t 11) [(t 15)],none⟩,0⟩]
def oa : List au := [⟨⟨(some 17),.mov (t 5),none⟩,0⟩,
 ⟨⟨(some 4),.mov (t 17),none⟩,0⟩]
def n9 : List au := [⟨⟨(some 18),.bin .add (t 8) (ci 1),none⟩,0⟩,
 ⟨⟨(some 8),.mov (t 18),none⟩,0⟩]
def d7 : TC := (.seq (.ops oh) (.clean [0,1,7,8,9] (.seq (.cond (t 9) .skip (.exit 0)) (.clean [0,1,7,8] (.seq (.block 1 [0,1,7,8] (.seq (.ops og) (.clean [0,1,5,7,8] (.seq (.ops od) (.clean [0,1,5,7,8,16] (.cond (t 16) (.seq (.ops oa) (.ret [4])) .skip)))))) (.clean [0,1,7,8] (.ops n9)))))))
def n8 : List au := [⟨⟨(some 4),.mov (ci (-1)),none⟩,0⟩]
def jv : TC := (.seq (.ops ol) (.clean [0,1] (.seq (.seq (.ops oi) (.block 0 [] (.clean [0,1,7,8] (.loop [0,1,7,8] d7)))) (.clean [] (.seq (.ops n8) (.ret [4]))))))
def j8 : TFn := ⟨19,jv,[.tmp 4],false⟩
theorem di : type_of% (ai @ol.eq_1 (ai @oi.eq_1 (ai @oh.eq_1 (ai @og.eq_1 (ai @od.eq_1 (ai @oa.eq_1 (ai @n9.eq_1 (ai @n8.eq_1 (ai @jv.eq_1 @j8.eq_1))))))))) := ⟨rfl,rfl,rfl,rfl,rfl,rfl,rfl,rfl,rfl,rfl⟩
theorem zaaw : uo Try.prog [] dk = some (19,jv.erase,[.tmp 4]) := by kernel_rfl
def zajp : List au := [⟨⟨(some 3),.mov (.const (Go.Value.bool false)),none⟩,0⟩]
def zajo : List au := [⟨⟨(some 4),.mov (t 0),none⟩,0⟩,
 ⟨⟨(some 5),.lenS (t 4),none⟩,0⟩,
 ⟨⟨(some 6),.load1 (t 1),none⟩,0⟩,
 ⟨⟨(some 7),.bin .neq (t 5) (t 6),none⟩,0⟩,
 ⟨⟨(some 3),.mov (t 7),none⟩,0⟩]
def zae3 : TC := (.seq (.ops zajp) (.clean [0,1] (.seq (.ops zajo) (.ret [3]))))
def zafn : TFn := ⟨8,zae3,[.tmp 3],false⟩
theorem za0x : type_of% (ai @zajp.eq_1 (ai @zajo.eq_1 (ai @zae3.eq_1 @zafn.eq_1))) := ⟨rfl,rfl,rfl,rfl⟩
theorem za0q : uo Try.prog [] ip = some (8,zae3.erase,[.tmp 3]) := by kernel_rfl
def zau9 : List au := [⟨⟨(some 2),.box mp 5 (t 0),none⟩,0⟩,
 ⟨⟨(some 4),.mov (.const (Go.Value.bool false)),none⟩,0⟩]
def zau8 : List au := [⟨⟨(some 5),.fieldAddr 0 (t 2),none⟩,0⟩,
 ⟨⟨(some 6),.load1 (t 5),none⟩,0⟩,
 ⟨⟨(some 7),.mov (t 1),none⟩,0⟩,
 ⟨⟨(some 8),.bin .sub (t 7) (ci 1),none⟩,0⟩,
 ⟨⟨(some 9),.call nu [(t 6),(ci 0),(t 8)],none⟩,0⟩,
 ⟨⟨(some 10),.mov (t 9),none⟩,0⟩,
 ⟨⟨(some 11),.fieldAddr 1 (t 2),(some (10,true))⟩,0⟩,
 ⟨⟨(some 12),.load1 (t 11),(some (10,true))⟩,0⟩,
 ⟨⟨(some 13),.mov (t 1),(some (10,true))⟩,0⟩,
 ⟨⟨(some 14),.bin .sub (t 13) (ci 1),(some (10,true))⟩,0⟩,
 ⟨⟨(some 15),.call nu [(t 12),(ci 0),(t 14)],(some (10,true))⟩,0⟩,
 ⟨⟨(some 16),.pick (t 10) (t 15) (.const (Go.Value.bool false)),none⟩,0⟩,
 ⟨⟨(some 17),.mov (t 16),none⟩,0⟩,
 ⟨⟨(some 18),.fieldAddr 0 (t 2),(some (17,true))⟩,0⟩,
 ⟨⟨(some 19),.load1 (t 18),(some (17,true))⟩,0⟩,
 ⟨⟨(some 20),.fieldAddr 1 (t 2),(some (17,true))⟩,0⟩,
 ⟨⟨(some 21),.load1 (t 20),(some (17,true))⟩,0⟩,
 ⟨⟨(some 22),.bin .neq (t 19) (t 21),(some (17,true))⟩,0⟩,
 ⟨⟨(some 23),.pick (t 17) (t 22) (.const (Go.Value.bool false)),none⟩,0⟩,
 ⟨⟨(some 24),.mov (t 23),none⟩,0⟩,
 ⟨⟨(some 25),.fieldAddr 2 (t 2),(some (24,true))⟩,0⟩,
 ⟨⟨(some 26),.load1 (t 25),(some (24,true))⟩,0⟩,
 ⟨⟨(some 27),.call nu [(t 26),(ci 0),(ci 3)],(some (24,true))⟩,0⟩,
 ⟨⟨(some 28),.pick (t 24) (t 27) (.const (Go.Value.bool false)),none⟩,0⟩,
 ⟨⟨(some 29),.mov (t 28),none⟩,0⟩,
 ⟨⟨(some 30),.fieldAddr 3 (t 2),(some (29,true))⟩,0⟩,
 ⟨⟨(some 31),.load1 (t 30),(some (29,true))⟩,0⟩,
 ⟨⟨(some 32),.call ub [(t 31)],(some (29,true))⟩,0⟩,
 ⟨⟨(some 33),.pick (t 29) (t 32) (.const (Go.Value.bool false)),none⟩,0⟩,
 ⟨⟨(some 34),.mov (t 33),none⟩,0⟩,
 ⟨⟨(some 35),.fieldAddr 4 (t 2),(some (34,true))⟩,0⟩,
 ⟨⟨(some 36),.load1 (t 35),(some (34,true))⟩,0⟩,
 ⟨⟨(some 37),.call nu [(t 36),(ci 1),(ci 1125899906842624)],(some (34,true))⟩,0⟩,
 ⟨⟨(some 38),.pick (t 34) (t 37) (.const (Go.Value.bool false)),none⟩,0⟩,
 ⟨⟨(some 4),.mov (t 38),none⟩,0⟩]
def zape : TC := (.seq (.ops zau9) (.clean [1,2] (.seq (.ops zau8) (.ret [4]))))
def zapy : TFn := ⟨39,zape,[.tmp 4],false⟩
theorem zaew : type_of% (ai @zau9.eq_1 (ai @zau8.eq_1 (ai @zape.eq_1 @zapy.eq_1))) := ⟨rfl,rfl,rfl,rfl⟩
theorem c_spec_arc : uo Try.prog [] zaey = some (39,zape.erase,[.tmp 4]) := by kernel_rfl
def zajr : List au := [⟨⟨(some 3),.mov (.const (Go.Value.bool false)),none⟩,0⟩]
def zajq : List au := [⟨⟨(some 4),.mov (t 0),none⟩,0⟩,
 ⟨⟨(some 5),.load1 (t 1),none⟩,0⟩,
 ⟨⟨(some 6),.bin .sub (t 5) (ci 1),none⟩,0⟩,
 ⟨⟨(some 7),.call nu [(t 4),(ci 0),(t 6)],none⟩,0⟩,
 ⟨⟨(some 8),.un .not (t 7),none⟩,0⟩,
 ⟨⟨(some 3),.mov (t 8),none⟩,0⟩]
def zae4 : TC := (.seq (.ops zajr) (.clean [0,1] (.seq (.ops zajq) (.ret [3]))))
def zafo : TFn := ⟨9,zae4,[.tmp 3],false⟩
theorem za0y : type_of% (ai @zajr.eq_1 (ai @zajq.eq_1 (ai @zae4.eq_1 @zafo.eq_1))) := ⟨rfl,rfl,rfl,rfl⟩
theorem za0r : uo Try.prog [] iq = some (9,zae4.erase,[.tmp 3]) := by kernel_rfl
def vh : List au := [⟨⟨(some 2),.mov (.const (Go.Value.bool false)),none⟩,0⟩]
def vg : List au := [⟨⟨(some 6),.mkMap,none⟩,0⟩,
 ⟨⟨(some 3),.mov (t 6),none⟩,0⟩]
def vf : List au := [⟨⟨(some 7),.mov (t 0),none⟩,0⟩,
 ⟨⟨(some 8),.lenL (t 7),none⟩,0⟩,
 ⟨⟨(some 9),.mov (ci 0),none⟩,0⟩]
def ve : List au := [⟨⟨(some 10),.bin .lss (t 9) (t 8),none⟩,0⟩]
def vd : List au := [⟨⟨(some 11),.indexSl 1 (t 7) (t 9),none⟩,0⟩,
 ⟨⟨(some 12),.load1 (t 11),none⟩,0⟩,
 ⟨⟨(some 5),.mov (t 12),none⟩,0⟩]
def vc : List au := [⟨⟨(some 13),.mov (t 3),none⟩,0⟩,
 ⟨⟨(some 14),.mov (t 5),none⟩,0⟩,
 ⟨⟨(some 15),.mapGet fq (t 13) (t 14),none⟩,0⟩]
def vb : List au := [⟨⟨(some 2),.mov (.const (Go.Value.bool false)),none⟩,0⟩]
def va : List au := [⟨⟨(some 16),.mov (t 3),none⟩,0⟩,
 ⟨⟨(some 17),.mov (t 5),none⟩,0⟩,
 ⟨⟨none,.mapSet fq (t 16) (t 17) (.const (Go.Value.bool true)),none⟩,0⟩]
def u9 : List au := [⟨⟨(some 18),.bin .add (t 9) (ci 1),none⟩,0⟩,
 ⟨⟨(some 9),.mov (t 18),none⟩,0⟩]
def zaeb : TC := (.seq (.ops ve) (.clean [3,7,8,9,10] (.seq (.cond (t 10) .skip (.exit 0)) (.clean [3,7,8,9] (.seq (.block 1 [3,7,8,9] (.seq (.ops vd) (.clean [3,5,7,8,9] (.seq (.seq (.ops vc) (.clean [3,5,7,8,9,15] (.cond (t 15) (.seq (.ops vb) (.ret [2])) .skip))) (.clean [3,5,7,8,9] (.ops va)))))) (.clean [3,7,8,9] (.ops u9)))))))
def u7 : List au := [⟨⟨(some 2),.mov (.const (Go.Value.bool true)),none⟩,0⟩]
def rf : TC := (.seq (.ops vh) (.clean [0] (.seq (.ops vg) (.clean [0,3] (.seq (.seq (.ops vf) (.block 0 [] (.clean [3,7,8,9] (.loop [3,7,8,9] zaeb)))) (.clean [] (.seq (.ops u7) (.ret [2]))))))))
theorem zatq : uo Try.prog [] g9 = some (19,rf.erase,[.tmp 2]) := by kernel_rfl
def xx : List au := [⟨⟨(some 2),.mov (.const (Go.Value.bool false)),none⟩,0⟩]
def xw : List au := [⟨⟨(some 6),.mkMap,none⟩,0⟩,
 ⟨⟨(some 3),.mov (t 6),none⟩,0⟩]
def xv : List au := [⟨⟨(some 7),.mov (t 0),none⟩,0⟩,
 ⟨⟨(some 8),.lenL (t 7),none⟩,0⟩,
 ⟨⟨(some 9),.mov (ci 0),none⟩,0⟩]
def xu : List au := [⟨⟨(some 10),.bin .lss (t 9) (t 8),none⟩,0⟩]
def xt : List au := [⟨⟨(some 11),.indexSl 2 (t 7) (t 9),none⟩,0⟩,
 ⟨⟨(some 12),.loadN 2 (t 11),none⟩,0⟩,
 ⟨⟨(some 5),.box qi 2 (.const (.agg #[(.int .i64 0),(.int .i64 0)])),none⟩,0⟩,
 ⟨⟨none,.store 2 (t 5) (t 12),none⟩,0⟩]
def xq : List au := [⟨⟨(some 13),.mov (t 3),none⟩,0⟩,
 ⟨⟨(some 14),.loadN 2 (t 5),none⟩,0⟩,
 ⟨⟨(some 15),.mapGet qi (t 13) (t 14),none⟩,0⟩]
def xp : List au := [⟨⟨(some 2),.mov (.const (Go.Value.bool false)),none⟩,0⟩]
def xo : List au := [⟨⟨(some 16),.mov (t 3),none⟩,0⟩,
 ⟨⟨(some 17),.loadN 2 (t 5),none⟩,0⟩,
 ⟨⟨none,.mapSet qi (t 16) (t 17) (.const (Go.Value.bool true)),none⟩,0⟩]
def xn : List au := [⟨⟨(some 18),.bin .add (t 9) (ci 1),none⟩,0⟩,
 ⟨⟨(some 9),.mov (t 18),none⟩,0⟩]
def zafj : TC := (.seq (.ops xu) (.clean [3,7,8,9,10] (.seq (.cond (t 10) .skip (.exit 0)) (.clean [3,7,8,9] (.seq (.block 1 [3,7,8,9] (.seq (.ops xt) (.clean [3,5,7,8,9] (.seq (.seq (.ops xq) (.clean [3,5,7,8,9,15] (.cond (t 15) (.seq (.ops xp) (.ret [2])) .skip))) (.clean [3,5,7,8,9] (.ops xo)))))) (.clean [3,7,8,9] (.ops xn)))))))
def xm : List au := [⟨⟨(some 2),.mov (.const (Go.Value.bool true)),none⟩,0⟩]
def si : TC := (.seq (.ops xx) (.clean [0] (.seq (.ops xw) (.clean [0,3] (.seq (.seq (.ops xv) (.block 0 [] (.clean [3,7,8,9] (.loop [3,7,8,9] zafj)))) (.clean [] (.seq (.ops xm) (.ret [2]))))))))
theorem zaux : uo Try.prog [] jo = some (19,si.erase,[.tmp 2]) := by kernel_rfl
def zabk : List au := [⟨⟨(some 2),.mov (.const (Go.Value.bool false)),none⟩,0⟩]
def zabj : List au := [⟨⟨(some 6),.mkMap,none⟩,0⟩,
 ⟨⟨(some 3),.mov (t 6),none⟩,0⟩]
def zabi : List au := [⟨⟨(some 7),.mov (t 0),none⟩,0⟩,
 ⟨⟨(some 8),.lenL (t 7),none⟩,0⟩,
 ⟨⟨(some 9),.mov (ci 0),none⟩,0⟩]
def zabh : List au := [⟨⟨(some 10),.bin .lss (t 9) (t 8),none⟩,0⟩]
def zabg : List au := [⟨⟨(some 11),.indexSl 1 (t 7) (t 9),none⟩,0⟩,
 ⟨⟨(some 12),.load1 (t 11),none⟩,0⟩,
 ⟨⟨(some 5),.mov (t 12),none⟩,0⟩]
def zabf : List au := [⟨⟨(some 13),.mov (t 3),none⟩,0⟩,
 ⟨⟨(some 14),.mov (t 5),none⟩,0⟩,
 ⟨⟨(some 15),.mapGet uq (t 13) (t 14),none⟩,0⟩]
def zabe : List au := [⟨⟨(some 2),.mov (.const (Go.Value.bool false)),none⟩,0⟩]
def zabd : List au := [⟨⟨(some 16),.mov (t 3),none⟩,0⟩,
 ⟨⟨(some 17),.mov (t 5),none⟩,0⟩,
 ⟨⟨none,.mapSet uq (t 16) (t 17) (.const (Go.Value.bool true)),none⟩,0⟩]
def zabc : List au := [⟨⟨(some 18),.bin .add (t 9) (ci 1),none⟩,0⟩,
 ⟨⟨(some 9),.mov (t 18),none⟩,0⟩]
def zahx : TC := (.seq (.ops zabh) (.clean [3,7,8,9,10] (.seq (.cond (t 10) .skip (.exit 0)) (.clean [3,7,8,9] (.seq (.block 1 [3,7,8,9] (.seq (.ops zabg) (.clean [3,5,7,8,9] (.seq (.seq (.ops zabf) (.clean [3,5,7,8,9,15] (.cond (t 15) (.seq (.ops zabe) (.ret [2])) .skip))) (.clean [3,5,7,8,9] (.ops zabd)))))) (.clean [3,7,8,9] (.ops zabc)))))))
def zabb : List au := [⟨⟨(some 2),.mov (.const (Go.Value.bool true)),none⟩,0⟩]
def wx : TC := (.seq (.ops zabk) (.clean [0] (.seq (.ops zabj) (.clean [0,3] (.seq (.seq (.ops zabi) (.block 0 [] (.clean [3,7,8,9] (.loop [3,7,8,9] zahx)))) (.clean [] (.seq (.ops zabb) (.ret [2]))))))))
theorem zazu : uo Try.prog [] l7 = some (19,wx.erase,[.tmp 2]) := by kernel_rfl
def qg : List au := [⟨⟨(some 4),.mov (.const (Go.Value.bool false)),none⟩,0⟩]
def qf : List au := [⟨⟨(some 5),.mov (t 0),none⟩,0⟩,
 ⟨⟨(some 6),.mov (t 1),none⟩,0⟩,
 ⟨⟨(some 7),.call fw [(t 5),(t 6)],none⟩,0⟩,
 ⟨⟨(some 8),.bin .geq (t 7) (ci 0),none⟩,0⟩,
 ⟨⟨(some 4),.mov (t 8),none⟩,0⟩]
def lw : TC := (.seq (.ops qg) (.clean [0,1] (.seq (.ops qf) (.ret [4]))))
def l4 : TFn := ⟨9,lw,[.tmp 4],false⟩
theorem zadp : type_of% (ai @qg.eq_1 (ai @qf.eq_1 (ai @lw.eq_1 @l4.eq_1))) := ⟨rfl,rfl,rfl,rfl⟩
theorem zado : uo Try.prog [] ee = some (9,lw.erase,[.tmp 4]) := by kernel_rfl
def sy : List au := [⟨⟨(some 4),.mov (ci 0),none⟩,0⟩]
def sw : List au := [⟨⟨(some 6),.mov (t 0),none⟩,0⟩,
 ⟨⟨(some 7),.lenL (t 6),none⟩,0⟩,
 ⟨⟨(some 8),.mov (ci 0),none⟩,0⟩]
def su : List au := [⟨⟨(some 9),.bin .lss (t 8) (t 7),none⟩,0⟩]
def ss : List au := [⟨⟨(some 10),.mov (t 8),none⟩,0⟩,
 ⟨⟨(some 5),.mov (t 10),none⟩,0⟩]
def sr : List au := [⟨⟨(some 11),.mov (t 1),none⟩,0⟩,
 ⟨⟨(some 12),.mov (t 0),none⟩,0⟩,
 ⟨⟨(some 13),.mov (t 5),none⟩,0⟩,
 ⟨⟨(some 14),.indexSl 1 (t 12) (t 13),none⟩,0⟩,
 ⟨⟨(some 15),.load1 (t 14),none⟩,0⟩,
 ⟨⟨(some 16),.callv (t 11) [(t 15)],none⟩,0⟩]
def sq : List au := [⟨⟨(some 17),.mov (t 5),none⟩,0⟩,
 ⟨⟨(some 4),.mov (t 17),none⟩,0⟩]
def sp : List au := [⟨⟨(some 18),.bin .add (t 8) (ci 1),none⟩,0⟩,
 ⟨⟨(some 8),.mov (t 18),none⟩,0⟩]
def gq : TC := (.seq (.ops su) (.clean [0,1,7,8,9] (.seq (.cond (t 9) .skip (.exit 0)) (.clean [0,1,7,8] (.seq (.block 1 [0,1,7,8] (.seq (.ops ss) (.clean [0,1,5,7,8] (.seq (.ops sr) (.clean [0,1,5,7,8,16] (.cond (t 16) (.seq (.ops sq) (.ret [4])) .skip)))))) (.clean [0,1,7,8] (.ops sp)))))))
def sn : List au := [⟨⟨(some 4),.mov (ci (-1)),none⟩,0⟩]
def ni : TC := (.seq (.ops sy) (.clean [0,1] (.seq (.seq (.ops sw) (.block 0 [] (.clean [0,1,7,8] (.loop [0,1,7,8] gq)))) (.clean [] (.seq (.ops sn) (.ret [4]))))))
def nr : TFn := ⟨19,ni,[.tmp 4],false⟩
theorem fu : type_of% (ai @sy.eq_1 (ai @sw.eq_1 (ai @su.eq_1 (ai @ss.eq_1 (ai @sr.eq_1 (ai @sq.eq_1 (ai @sp.eq_1 (ai @sn.eq_1 (ai @ni.eq_1 @nr.eq_1))))))))) := ⟨rfl,rfl,rfl,rfl,rfl,rfl,rfl,rfl,rfl,rfl⟩
theorem zaf2 : uo Try.prog [] fw = some (19,ni.erase,[.tmp 4]) := by kernel_rfl
def zarr : List au := [⟨⟨(some 2),.mov (.const (Go.Value.pointer none)),none⟩,0⟩]
def zarq : List au := [⟨⟨(some 3),.mov (t 0),none⟩,0⟩,
 ⟨⟨(some 4),.build [(.string ⟨#[]⟩),(.bool false)] [(0,1,(t 3))],none⟩,0⟩,
 ⟨⟨(some 5),.box ah 2 (t 4),none⟩,0⟩,
 ⟨⟨(some 2),.mov (t 5),none⟩,0⟩]
def zakj : TC := (.seq (.ops zarr) (.clean [0] (.seq (.ops zarq) (.ret [2]))))
def zalt : TFn := ⟨6,zakj,[.tmp 2],false⟩
theorem zbck : type_of% (ai @zarr.eq_1 (ai @zarq.eq_1 (ai @zakj.eq_1 @zalt.eq_1))) := ⟨rfl,rfl,rfl,rfl⟩
theorem zbb8 : uo Try.prog [] zabr = some (6,zakj.erase,[.tmp 2]) := by kernel_rfl
def zak6 : List au := [⟨⟨(some 1),.mov (.const (Go.Value.string ⟨#[]⟩)),none⟩,0⟩]
def zak5 : List au := [⟨⟨(some 2),.load1 (t 0),none⟩,0⟩,
 ⟨⟨(some 3),.call kx [(t 2),(ci 1048576)],none⟩,0⟩,
 ⟨⟨(some 1),.mov (t 3),none⟩,0⟩]
def zagm : TC := (.seq (.ops zak6) (.clean [0] (.seq (.ops zak5) (.ret [1]))))
def zagv : TFn := ⟨4,zagm,[.tmp 1],false⟩
theorem za42 : type_of% (ai @zak6.eq_1 (ai @zak5.eq_1 (ai @zagm.eq_1 @zagv.eq_1))) := ⟨rfl,rfl,rfl,rfl⟩
theorem za4w : uo Try.prog [] dt = some (4,zagm.erase,[.tmp 1]) := by kernel_rfl
def zacy : List au := [⟨⟨(some 4),.mov (.const (Go.Value.string ⟨#[]⟩)),none⟩,0⟩]
def zacx : List au := [⟨⟨(some 6),.mov (t 0),none⟩,0⟩,
 ⟨⟨(some 7),.mov (t 1),none⟩,0⟩,
 ⟨⟨(some 8),.call d6 [(t 6),(t 7)],none⟩,0⟩,
 ⟨⟨(some 5),.mov (t 8),none⟩,0⟩]
def zacw : List au := [⟨⟨(some 9),.mov (t 0),none⟩,0⟩,
 ⟨⟨(some 10),.mov (t 5),none⟩,0⟩,
 ⟨⟨(some 11),.call jd [(t 9),(t 10)],none⟩,0⟩,
 ⟨⟨(some 4),.mov (t 11),none⟩,0⟩]
def uz : TC := (.seq (.ops zacy) (.clean [0,1] (.seq (.ops zacx) (.clean [0,5] (.seq (.ops zacw) (.ret [4]))))))
def vm : TFn := ⟨12,uz,[.tmp 4],false⟩
theorem zaqi : type_of% (ai @zacy.eq_1 (ai @zacx.eq_1 (ai @zacw.eq_1 (ai @uz.eq_1 @vm.eq_1)))) := ⟨rfl,rfl,rfl,rfl,rfl⟩
theorem zaqb : uo Try.prog [] kx = some (12,uz.erase,[.tmp 4]) := by kernel_rfl
def zaa6 : List au := [⟨⟨(some 4),.mov (ci 0),none⟩,0⟩]
def zaa5 : List au := [⟨⟨(some 5),.mov (t 0),none⟩,0⟩,
 ⟨⟨(some 6),.mov (t 0),none⟩,0⟩,
 ⟨⟨(some 7),.mkFunc (.func bp) [(t 6)] [],none⟩,0⟩,
 ⟨⟨(some 8),.mov (t 1),none⟩,0⟩,
 ⟨⟨(some 9),.call nh [(t 5),(t 7),(t 8)],none⟩,0⟩,
 ⟨⟨(some 4),.mov (t 9),none⟩,0⟩]
def ti : TC := (.seq (.ops zaa6) (.clean [0,1] (.seq (.ops zaa5) (.ret [4]))))
def tw : TFn := ⟨10,ti,[.tmp 4],false⟩
theorem zam1 : type_of% (ai @zaa6.eq_1 (ai @zaa5.eq_1 (ai @ti.eq_1 @tw.eq_1))) := ⟨rfl,rfl,rfl,rfl⟩
theorem zam0 : uo Try.prog [] d6 = some (10,ti.erase,[.tmp 4]) := by kernel_rfl
def zad8 : List au := [⟨⟨(some 2),.mov (ci 0),none⟩,0⟩]
def zad7 : List au := [⟨⟨(some 3),.mov (ci 0),none⟩,0⟩]
def zad6 : List au := [⟨⟨(some 6),.mov (t 0),none⟩,0⟩,
 ⟨⟨(some 7),.call jd [(t 6),(ci 8)],none⟩,0⟩,
 ⟨⟨(some 8),.toBytes fi (t 7),none⟩,0⟩,
 ⟨⟨(some 9),.lenL (t 8),none⟩,0⟩,
 ⟨⟨(some 10),.mov (ci 0),none⟩,0⟩]
def zad5 : List au := [⟨⟨(some 11),.bin .lss (t 10) (t 9),none⟩,0⟩]
def zad4 : List au := [⟨⟨(some 12),.indexSl 1 (t 8) (t 10),none⟩,0⟩,
 ⟨⟨(some 13),.load1 (t 12),none⟩,0⟩,
 ⟨⟨(some 5),.mov (t 13),none⟩,0⟩]
def zad3 : List au := [⟨⟨(some 14),.mov (t 3),none⟩,0⟩,
 ⟨⟨(some 15),.bin .shl (t 14) (.const (Go.Value.int Go.IntKind.u64 8)),none⟩,0⟩,
 ⟨⟨(some 16),.mov (t 5),none⟩,0⟩,
 ⟨⟨(some 17),.conv .i64 (t 16),none⟩,0⟩,
 ⟨⟨(some 18),.bin .or (t 15) (t 17),none⟩,0⟩,
 ⟨⟨(some 3),.mov (t 18),none⟩,0⟩]
def zad2 : List au := [⟨⟨(some 19),.bin .add (t 10) (ci 1),none⟩,0⟩,
 ⟨⟨(some 10),.mov (t 19),none⟩,0⟩]
def pw : TC := (.seq (.ops zad5) (.clean [3,8,9,10,11] (.seq (.cond (t 11) .skip (.exit 0)) (.clean [3,8,9,10] (.seq (.block 1 [3,8,9,10] (.seq (.ops zad4) (.clean [3,5,8,9,10] (.ops zad3)))) (.clean [3,8,9,10] (.ops zad2)))))))
def zad1 : List au := [⟨⟨(some 20),.mov (t 3),none⟩,0⟩,
 ⟨⟨(some 2),.mov (t 20),none⟩,0⟩]
def xg : TC := (.seq (.ops zad8) (.clean [0] (.seq (.ops zad7) (.clean [0,3] (.seq (.seq (.ops zad6) (.block 0 [3] (.clean [3,8,9,10] (.loop [3,8,9,10] pw)))) (.clean [3] (.seq (.ops zad1) (.ret [2]))))))))
def yb : TFn := ⟨21,xg,[.tmp 2],false⟩
theorem tf : type_of% (ai @zad8.eq_1 (ai @zad7.eq_1 (ai @zad6.eq_1 (ai @zad5.eq_1 (ai @zad4.eq_1 (ai @zad3.eq_1 (ai @zad2.eq_1 (ai @zad1.eq_1 (ai @xg.eq_1 @yb.eq_1))))))))) := ⟨rfl,rfl,rfl,rfl,rfl,rfl,rfl,rfl,rfl,rfl⟩
theorem zats : uo Try.prog [] bp = some (21,xg.erase,[.tmp 2]) := by kernel_rfl
def zacu : List au := [⟨⟨(some 4),.mov (.const (Go.Value.string ⟨#[]⟩)),none⟩,0⟩]
def zact : List au := [⟨⟨(some 6),.mov (t 0),none⟩,0⟩,
 ⟨⟨(some 7),.nilchk (t 6),none⟩,0⟩,
 ⟨⟨(some 8),.fieldAddr 1 (t 7),none⟩,0⟩,
 ⟨⟨(some 9),.load1 (t 8),none⟩,0⟩,
 ⟨⟨(some 10),.mov (t 9),none⟩,0⟩,
 ⟨⟨(some 11),.mov (t 1),(some (10,false))⟩,0⟩,
 ⟨⟨(some 12),.bin .lss (t 11) (ci 0),(some (10,false))⟩,0⟩,
 ⟨⟨(some 13),.pick (t 10) (.const (Go.Value.bool true)) (t 12),none⟩,0⟩,
 ⟨⟨(some 14),.mov (t 13),none⟩,0⟩,
 ⟨⟨(some 15),.mov (t 1),(some (14,false))⟩,0⟩,
 ⟨⟨(some 16),.mov (t 0),(some (14,false))⟩,0⟩,
 ⟨⟨(some 17),.nilchk (t 16),(some (14,false))⟩,0⟩,
 ⟨⟨(some 18),.fieldAddr 0 (t 17),(some (14,false))⟩,0⟩,
 ⟨⟨(some 19),.load1 (t 18),(some (14,false))⟩,0⟩,
 ⟨⟨(some 20),.lenS (t 19),(some (14,false))⟩,0⟩,
 ⟨⟨(some 21),.bin .gtr (t 15) (t 20),(some (14,false))⟩,0⟩,
 ⟨⟨(some 22),.pick (t 14) (.const (Go.Value.bool true)) (t 21),none⟩,0⟩]
def zacs : List au := [⟨⟨(some 23),.mov (t 0),none⟩,0⟩,
 ⟨⟨(some 24),.call je [(t 23)],none⟩,0⟩]
def zacr : List au := [⟨⟨(some 4),.mov (.const (Go.Value.string ⟨#[]⟩)),none⟩,0⟩]
def zacq : List au := [⟨⟨(some 25),.mov (t 0),none⟩,0⟩,
 ⟨⟨(some 26),.nilchk (t 25),none⟩,0⟩,
 ⟨⟨(some 27),.fieldAddr 0 (t 26),none⟩,0⟩,
 ⟨⟨(some 28),.load1 (t 27),none⟩,0⟩,
 ⟨⟨(some 29),.mov (t 1),none⟩,0⟩,
 ⟨⟨(some 30),.sliceStr (t 28) none (some (t 29)),none⟩,0⟩,
 ⟨⟨(some 5),.mov (t 30),none⟩,0⟩]
def zacp : List au := [⟨⟨(some 31),.mov (t 0),none⟩,0⟩,
 ⟨⟨(some 32),.mov (t 0),none⟩,0⟩,
 ⟨⟨(some 33),.nilchk (t 32),none⟩,0⟩,
 ⟨⟨(some 34),.fieldAddr 0 (t 33),none⟩,0⟩,
 ⟨⟨(some 35),.load1 (t 34),none⟩,0⟩,
 ⟨⟨(some 36),.mov (t 1),none⟩,0⟩,
 ⟨⟨(some 37),.sliceStr (t 35) (some (t 36)) none,none⟩,0⟩,
 ⟨⟨(some 38),.nilchk (t 31),none⟩,0⟩,
 ⟨⟨(some 39),.fieldAddr 0 (t 38),none⟩,0⟩,
 ⟨⟨none,.store 1 (t 39) (t 37),none⟩,0⟩]
def zaco : List au := [⟨⟨(some 40),.mov (t 5),none⟩,0⟩,
 ⟨⟨(some 4),.mov (t 40),none⟩,0⟩]
def ux : TC := (.seq (.ops zacu) (.clean [0,1] (.seq (.seq (.ops zact) (.clean [0,1,22] (.cond (t 22) (.seq (.ops zacs) (.clean [] (.seq (.ops zacr) (.ret [4])))) .skip))) (.clean [0,1] (.seq (.ops zacq) (.clean [0,1,5] (.seq (.ops zacp) (.clean [5] (.seq (.ops zaco) (.ret [4]))))))))))
def vk : TFn := ⟨41,ux,[.tmp 4],false⟩
theorem rp : type_of% (ai @zacu.eq_1 (ai @zact.eq_1 (ai @zacs.eq_1 (ai @zacr.eq_1 (ai @zacq.eq_1 (ai @zacp.eq_1 (ai @zaco.eq_1 (ai @ux.eq_1 @vk.eq_1)))))))) := ⟨rfl,rfl,rfl,rfl,rfl,rfl,rfl,rfl,rfl⟩
theorem zap9 : uo Try.prog [] jd = some (41,ux.erase,[.tmp 4]) := by kernel_rfl
def zacv : List au := [⟨⟨(some 2),.mov (t 0),none⟩,0⟩,
 ⟨⟨(some 3),.mov (t 0),none⟩,0⟩,
 ⟨⟨(some 4),.nilchk (t 2),none⟩,0⟩,
 ⟨⟨(some 5),.fieldAddr 0 (t 4),none⟩,0⟩,
 ⟨⟨none,.store 1 (t 5) (.const (Go.Value.string ⟨#[]⟩)),none⟩,0⟩,
 ⟨⟨(some 6),.nilchk (t 3),none⟩,0⟩,
 ⟨⟨(some 7),.fieldAddr 1 (t 6),none⟩,0⟩,
 ⟨⟨none,.store 1 (t 7) (.const (Go.Value.bool true)),none⟩,0⟩]
def uy : TC := (.ops zacv)
def vl : TFn := ⟨8,uy,[],false⟩
theorem zaqh : type_of% (ai @zacv.eq_1 (ai @uy.eq_1 @vl.eq_1)) := ⟨rfl,rfl,rfl⟩
theorem zaqa : uo Try.prog [] je = some (8,uy.erase,[]) := by kernel_rfl
def zafi : List au := [⟨⟨(some 6),.mov (ci 0),none⟩,0⟩]
def zafh : List au := [⟨⟨(some 8),.mov (t 1),none⟩,0⟩,
 ⟨⟨(some 9),.callv (t 8) [],none⟩,0⟩,
 ⟨⟨(some 7),.mov (t 9),none⟩,0⟩]
def zafg : List au := [⟨⟨(some 10),.mov (t 7),none⟩,0⟩,
 ⟨⟨(some 11),.bin .lss (t 10) (ci 0),none⟩,0⟩,
 ⟨⟨(some 12),.mov (t 11),none⟩,0⟩,
 ⟨⟨(some 13),.mov (t 7),(some (12,false))⟩,0⟩,
 ⟨⟨(some 14),.mov (t 2),(some (12,false))⟩,0⟩,
 ⟨⟨(some 15),.bin .gtr (t 13) (t 14),(some (12,false))⟩,0⟩,
 ⟨⟨(some 16),.pick (t 12) (.const (Go.Value.bool true)) (t 15),none⟩,0⟩]
def zaff : List au := [⟨⟨(some 17),.mov (t 0),none⟩,0⟩,
 ⟨⟨(some 18),.call je [(t 17)],none⟩,0⟩]
def zafe : List au := [⟨⟨(some 6),.mov (ci 0),none⟩,0⟩]
def zafd : List au := [⟨⟨(some 19),.mov (t 7),none⟩,0⟩,
 ⟨⟨(some 6),.mov (t 19),none⟩,0⟩]
def zy : TC := (.seq (.ops zafi) (.clean [0,1,2] (.seq (.ops zafh) (.clean [0,2,7] (.seq (.seq (.ops zafg) (.clean [0,7,16] (.cond (t 16) (.seq (.ops zaff) (.clean [] (.seq (.ops zafe) (.ret [6])))) .skip))) (.clean [7] (.seq (.ops zafd) (.ret [6]))))))))
def zaao : TFn := ⟨20,zy,[.tmp 6],false⟩
theorem zabn : type_of% (ai @zafi.eq_1 (ai @zafh.eq_1 (ai @zafg.eq_1 (ai @zaff.eq_1 (ai @zafe.eq_1 (ai @zafd.eq_1 (ai @zy.eq_1 @zaao.eq_1))))))) := ⟨rfl,rfl,rfl,rfl,rfl,rfl,rfl,rfl⟩
theorem zauy : uo Try.prog [] nh = some (20,zy.erase,[.tmp 6]) := by kernel_rfl
def yz : List au := [⟨⟨(some 6),.mov (.const (Go.Value.slice none 0 0)),none⟩,0⟩]
def yx : List au := [⟨⟨(some 7),.mov (.const (Go.Value.slice none 0 0)),none⟩,1⟩]
def yw : List au := [⟨⟨(some 8),.mov (t 0),none⟩,0⟩,
 ⟨⟨(some 9),.mov (t 1),none⟩,0⟩,
 ⟨⟨(some 10),.call d6 [(t 8),(t 9)],none⟩,0⟩,
 ⟨⟨(some 11),.mov (ci 0),none⟩,0⟩]
def yv : List au := [⟨⟨(some 12),.bin .lss (t 11) (t 10),none⟩,0⟩]
def yu : List au := [⟨⟨(some 13),.mov (t 7),none⟩,0⟩,
 ⟨⟨(some 14),.mov (t 2),none⟩,0⟩,
 ⟨⟨(some 15),.callv (t 14) [],none⟩,0⟩,
 ⟨⟨(some 16),.buildSl dq 2 1 [(.string ⟨#[]⟩),(.slice none 0 0)] [(0,2,(t 15))],none⟩,0⟩,
 ⟨⟨(some 17),.append dq 2 40 (t 13) (t 16),none⟩,0⟩,
 ⟨⟨(some 7),.mov (t 17),none⟩,0⟩]
def yr : List au := [⟨⟨(some 18),.bin .add (t 11) (ci 1),none⟩,0⟩,
 ⟨⟨(some 11),.mov (t 18),none⟩,0⟩]
def mf : TC := (.seq (.ops yv) (.clean [2,7,10,11,12] (.seq (.cond (t 12) .skip (.exit 0)) (.clean [2,7,10,11] (.seq (.block 1 [2,7,10,11] (.ops yu)) (.clean [2,7,10,11] (.ops yr)))))))
def yq : List au := [⟨⟨(some 19),.mov (t 7),none⟩,0⟩,
 ⟨⟨(some 6),.mov (t 19),none⟩,0⟩]
def rg : TC := (.seq (.ops yz) (.clean [0,1,2] (.seq (.ops yx) (.clean [0,1,2,7] (.seq (.seq (.ops yw) (.block 0 [7] (.clean [2,7,10,11] (.loop [2,7,10,11] mf)))) (.clean [7] (.seq (.ops yq) (.ret [6]))))))))
def ri : TFn := ⟨20,rg,[.tmp 6],false⟩
theorem ny : type_of% (ai @yz.eq_1 (ai @yx.eq_1 (ai @yw.eq_1 (ai @yv.eq_1 (ai @yu.eq_1 (ai @yr.eq_1 (ai @yq.eq_1 (ai @rg.eq_1 @ri.eq_1)))))))) := ⟨rfl,rfl,rfl,rfl,rfl,rfl,rfl,rfl,rfl⟩
theorem zaj8 : uo Try.prog [] ig = some (20,rg.erase,[.tmp 6]) := by kernel_rfl
def zak4 : List au := [⟨⟨(some 2),.box dq 2 (.const (.agg #[(.string ⟨#[]⟩),(.slice none 0 0)])),none⟩,0⟩]
def zak3 : List (au × List Nat) := [(⟨⟨(some 3),.load1 (t 0),none⟩,0⟩,[]),
 (⟨⟨(some 5),.load1 (t 1),none⟩,0⟩,[]),
 (⟨⟨(some 6),.load1 (t 0),none⟩,0⟩,[]),
 (⟨⟨(some 4),.callvW (t 3) [],none⟩,7⟩,[1,2]),
 (⟨⟨(some 7),.callW jc [(t 5),(ci 3),(t 6)],none⟩,0⟩,[]),
 (⟨⟨(some 8),.build [(.string ⟨#[]⟩),(.slice none 0 0)] [(0,1,(t 4)),(1,1,(t 7))],none⟩,0⟩,[]),
 (⟨⟨none,.store 2 (t 2) (t 8),none⟩,0⟩,[])]
def zagl : TC := (.seq (.ops zak4) (.clean [0,1,2] (.seq (.draw zak3) (.ret [2]))))
def zagu : TFn := ⟨9,zagl,[.cellN 2 2],false⟩
theorem za41 : type_of% (ai @zak4.eq_1 (ai @zak3.eq_1 (ai @zagl.eq_1 @zagu.eq_1))) := ⟨rfl,rfl,rfl,rfl⟩
theorem za4v : uo Try.prog [(1,⟨[0,2,3,1,4,5,6],[0,1,0,0,15,31,63],[1,4],[(1,[2,3])]⟩)] m7 = some (9,zagl.erase,[.cellN 2 2]) := by kernel_rfl
def zacn : List au := [⟨⟨(some 6),.mov (.const (Go.Value.slice none 0 0)),none⟩,0⟩]
def zacm : List au := [⟨⟨(some 7),.mov (.const (Go.Value.slice none 0 0)),none⟩,1⟩]
def zacl : List au := [⟨⟨(some 8),.mov (t 0),none⟩,0⟩,
 ⟨⟨(some 9),.mov (t 1),none⟩,0⟩,
 ⟨⟨(some 10),.call d6 [(t 8),(t 9)],none⟩,0⟩,
 ⟨⟨(some 11),.mov (ci 0),none⟩,0⟩]
def zack : List au := [⟨⟨(some 12),.bin .lss (t 11) (t 10),none⟩,0⟩]
def zacj : List au := [⟨⟨(some 13),.mov (t 7),none⟩,0⟩,
 ⟨⟨(some 14),.mov (t 2),none⟩,0⟩,
 ⟨⟨(some 15),.callv (t 14) [],none⟩,0⟩,
 ⟨⟨(some 16),.buildSl fq 1 1 [(.string ⟨#[]⟩)] [(0,1,(t 15))],none⟩,0⟩,
 ⟨⟨(some 17),.append fq 1 16 (t 13) (t 16),none⟩,0⟩,
 ⟨⟨(some 7),.mov (t 17),none⟩,0⟩]
def zaci : List au := [⟨⟨(some 18),.bin .add (t 11) (ci 1),none⟩,0⟩,
 ⟨⟨(some 11),.mov (t 18),none⟩,0⟩]
def o5 : TC := (.seq (.ops zack) (.clean [2,7,10,11,12] (.seq (.cond (t 12) .skip (.exit 0)) (.clean [2,7,10,11] (.seq (.block 1 [2,7,10,11] (.ops zacj)) (.clean [2,7,10,11] (.ops zaci)))))))
def zach : List au := [⟨⟨(some 19),.mov (t 7),none⟩,0⟩,
 ⟨⟨(some 6),.mov (t 19),none⟩,0⟩]
def uw : TC := (.seq (.ops zacn) (.clean [0,1,2] (.seq (.ops zacm) (.clean [0,1,2,7] (.seq (.seq (.ops zacl) (.block 0 [7] (.clean [2,7,10,11] (.loop [2,7,10,11] o5)))) (.clean [7] (.seq (.ops zach) (.ret [6]))))))))
def vj : TFn := ⟨20,uw,[.tmp 6],false⟩
theorem rn : type_of% (ai @zacn.eq_1 (ai @zacm.eq_1 (ai @zacl.eq_1 (ai @zack.eq_1 (ai @zacj.eq_1 (ai @zaci.eq_1 (ai @zach.eq_1 (ai @uw.eq_1 @vj.eq_1)))))))) := ⟨rfl,rfl,rfl,rfl,rfl,rfl,rfl,rfl,rfl⟩
theorem zap8 : uo Try.prog [] jc = some (20,uw.erase,[.tmp 6]) := by kernel_rfl
def zaa4 : List au := [⟨⟨(some 6),.mov (.const (Go.Value.slice none 0 0)),none⟩,0⟩]
def zaa3 : List au := [⟨⟨(some 7),.mov (.const (Go.Value.slice none 0 0)),none⟩,1⟩]
def zaa2 : List au := [⟨⟨(some 8),.mov (t 0),none⟩,0⟩,
 ⟨⟨(some 9),.mov (t 1),none⟩,0⟩,
 ⟨⟨(some 10),.call d6 [(t 8),(t 9)],none⟩,0⟩,
 ⟨⟨(some 11),.mov (ci 0),none⟩,0⟩]
def zaa1 : List au := [⟨⟨(some 12),.bin .lss (t 11) (t 10),none⟩,0⟩]
def zaa0 : List au := [⟨⟨(some 13),.mov (t 7),none⟩,0⟩,
 ⟨⟨(some 14),.mov (t 2),none⟩,0⟩,
 ⟨⟨(some 15),.callv (t 14) [],none⟩,0⟩,
 ⟨⟨(some 16),.buildSl mp 5 1 [(.int .i64 0),(.int .i64 0),(.int .i64 0),(.string ⟨#[]⟩),(.int .i64 0)] [(0,5,(t 15))],none⟩,0⟩,
 ⟨⟨(some 17),.append mp 5 48 (t 13) (t 16),none⟩,0⟩,
 ⟨⟨(some 7),.mov (t 17),none⟩,0⟩]
def zaaz : List au := [⟨⟨(some 18),.bin .add (t 11) (ci 1),none⟩,0⟩,
 ⟨⟨(some 11),.mov (t 18),none⟩,0⟩]
def nv : TC := (.seq (.ops zaa1) (.clean [2,7,10,11,12] (.seq (.cond (t 12) .skip (.exit 0)) (.clean [2,7,10,11] (.seq (.block 1 [2,7,10,11] (.ops zaa0)) (.clean [2,7,10,11] (.ops zaaz)))))))
def zaay : List au := [⟨⟨(some 19),.mov (t 7),none⟩,0⟩,
 ⟨⟨(some 6),.mov (t 19),none⟩,0⟩]
def th : TC := (.seq (.ops zaa4) (.clean [0,1,2] (.seq (.ops zaa3) (.clean [0,1,2,7] (.seq (.seq (.ops zaa2) (.block 0 [7] (.clean [2,7,10,11] (.loop [2,7,10,11] nv)))) (.clean [7] (.seq (.ops zaay) (.ret [6]))))))))
def tu : TFn := ⟨20,th,[.tmp 6],false⟩
theorem py : type_of% (ai @zaa4.eq_1 (ai @zaa3.eq_1 (ai @zaa2.eq_1 (ai @zaa1.eq_1 (ai @zaa0.eq_1 (ai @zaaz.eq_1 (ai @zaay.eq_1 (ai @th.eq_1 @tu.eq_1)))))))) := ⟨rfl,rfl,rfl,rfl,rfl,rfl,rfl,rfl,rfl⟩
theorem zamz : uo Try.prog [] kc = some (20,th.erase,[.tmp 6]) := by kernel_rfl
def zak2 : List au := [⟨⟨(some 2),.box mp 5 (.const (.agg #[(.int .i64 0),(.int .i64 0),(.int .i64 0),(.string ⟨#[]⟩),(.int .i64 0)])),none⟩,0⟩]
def zak1 : List (au × List Nat) := [(⟨⟨(some 3),.load1 (t 0),none⟩,0⟩,[]),
 (⟨⟨(some 5),.load1 (t 0),none⟩,0⟩,[]),
 (⟨⟨(some 7),.load1 (t 0),none⟩,0⟩,[]),
 (⟨⟨(some 9),.load1 (t 1),none⟩,0⟩,[]),
 (⟨⟨(some 11),.load1 (t 0),none⟩,0⟩,[]),
 (⟨⟨(some 4),.callW bp [(t 3)],none⟩,7⟩,[1,2,3,4]),
 (⟨⟨(some 6),.callW bp [(t 5)],none⟩,7⟩,[2,3,4]),
 (⟨⟨(some 8),.callW bp [(t 7)],none⟩,7⟩,[3,4]),
 (⟨⟨(some 10),.callvW (t 9) [],none⟩,7⟩,[4]),
 (⟨⟨(some 12),.callW bp [(t 11)],none⟩,0⟩,[]),
 (⟨⟨(some 13),.build [(.int .i64 0),(.int .i64 0),(.int .i64 0),(.string ⟨#[]⟩),(.int .i64 0)] [(0,1,(t 4)),(1,1,(t 6)),(2,1,(t 8)),(3,1,(t 10)),(4,1,(t 12))],none⟩,0⟩,[]),
 (⟨⟨none,.store 5 (t 2) (t 13),none⟩,0⟩,[])]
def zagk : TC := (.seq (.ops zak2) (.clean [0,1,2] (.seq (.draw zak1) (.ret [2]))))
def zagt : TFn := ⟨14,zagk,[.cellN 2 5],false⟩
theorem za40 : type_of% (ai @zak2.eq_1 (ai @zak1.eq_1 (ai @zagk.eq_1 @zagt.eq_1))) := ⟨rfl,rfl,rfl,rfl⟩
theorem za4u : uo Try.prog [(1,⟨[0,2,4,6,8,1,3,5,7,9,10,11],[0,1,0,7,0,31,0,127,0,511,1023,2047],[1,3,5,7,9],[(1,[2,4,6,8]),(3,[4,6,8]),(5,[6,8]),(7,[8])]⟩)] m6 = some (14,zagk.erase,[.cellN 2 5]) := by kernel_rfl
def zage : List au := [⟨⟨(some 6),.mov (.const (Go.Value.slice none 0 0)),none⟩,0⟩]
def zagd : List au := [⟨⟨(some 7),.mov (.const (Go.Value.slice none 0 0)),none⟩,1⟩]
def zagc : List au := [⟨⟨(some 8),.mov (t 0),none⟩,0⟩,
 ⟨⟨(some 9),.mov (t 1),none⟩,0⟩,
 ⟨⟨(some 10),.call d6 [(t 8),(t 9)],none⟩,0⟩,
 ⟨⟨(some 11),.mov (ci 0),none⟩,0⟩]
def zagb : List au := [⟨⟨(some 12),.bin .lss (t 11) (t 10),none⟩,0⟩]
def zaga : List au := [⟨⟨(some 13),.mov (t 7),none⟩,0⟩,
 ⟨⟨(some 14),.mov (t 2),none⟩,0⟩,
 ⟨⟨(some 15),.callv (t 14) [],none⟩,0⟩,
 ⟨⟨(some 16),.buildSl uq 1 1 [(.int .i64 0)] [(0,1,(t 15))],none⟩,0⟩,
 ⟨⟨(some 17),.append uq 1 8 (t 13) (t 16),none⟩,0⟩,
 ⟨⟨(some 7),.mov (t 17),none⟩,0⟩]
def zaf9 : List au := [⟨⟨(some 18),.bin .add (t 11) (ci 1),none⟩,0⟩,
 ⟨⟨(some 11),.mov (t 18),none⟩,0⟩]
def ta : TC := (.seq (.ops zagb) (.clean [2,7,10,11,12] (.seq (.cond (t 12) .skip (.exit 0)) (.clean [2,7,10,11] (.seq (.block 1 [2,7,10,11] (.ops zaga)) (.clean [2,7,10,11] (.ops zaf9)))))))
def zaf8 : List au := [⟨⟨(some 19),.mov (t 7),none⟩,0⟩,
 ⟨⟨(some 6),.mov (t 19),none⟩,0⟩]
def zaa8 : TC := (.seq (.ops zage) (.clean [0,1,2] (.seq (.ops zagd) (.clean [0,1,2,7] (.seq (.seq (.ops zagc) (.block 0 [7] (.clean [2,7,10,11] (.loop [2,7,10,11] ta)))) (.clean [7] (.seq (.ops zaf8) (.ret [6]))))))))
def zabl : TFn := ⟨20,zaa8,[.tmp 6],false⟩
theorem wz : type_of% (ai @zage.eq_1 (ai @zagd.eq_1 (ai @zagc.eq_1 (ai @zagb.eq_1 (ai @zaga.eq_1 (ai @zaf9.eq_1 (ai @zaf8.eq_1 (ai @zaa8.eq_1 @zabl.eq_1)))))))) := ⟨rfl,rfl,rfl,rfl,rfl,rfl,rfl,rfl,rfl⟩
theorem zawx : uo Try.prog [] oo = some (20,zaa8.erase,[.tmp 6]) := by kernel_rfl
def zaea : List au := [⟨⟨(some 2),.mov (.const (Go.Value.bool false)),none⟩,0⟩]
def zad9 : List au := [⟨⟨(some 3),.mov (t 0),none⟩,0⟩,
 ⟨⟨(some 4),.nilchk (t 3),none⟩,0⟩,
 ⟨⟨(some 5),.fieldAddr 1 (t 4),none⟩,0⟩,
 ⟨⟨(some 6),.load1 (t 5),none⟩,0⟩,
 ⟨⟨(some 2),.mov (t 6),none⟩,0⟩]
def xh : TC := (.seq (.ops zaea) (.clean [0] (.seq (.ops zad9) (.ret [2]))))
def yc : TFn := ⟨7,xh,[.tmp 2],false⟩
theorem zatz : type_of% (ai @zaea.eq_1 (ai @zad9.eq_1 (ai @xh.eq_1 @yc.eq_1))) := ⟨rfl,rfl,rfl,rfl⟩
theorem zatt : uo Try.prog [] mg = some (7,xh.erase,[.tmp 2]) := by kernel_rfl
def zac0 : List au := [⟨⟨(some 2),.mov (ci 0),none⟩,0⟩]
def zacz : List au := [⟨⟨(some 3),.mov (t 0),none⟩,0⟩,
 ⟨⟨(some 4),.nilchk (t 3),none⟩,0⟩,
 ⟨⟨(some 5),.fieldAddr 0 (t 4),none⟩,0⟩,
 ⟨⟨(some 6),.load1 (t 5),none⟩,0⟩,
 ⟨⟨(some 7),.lenS (t 6),none⟩,0⟩,
 ⟨⟨(some 2),.mov (t 7),none⟩,0⟩]
def u4 : TC := (.seq (.ops zac0) (.clean [0] (.seq (.ops zacz) (.ret [2]))))
def vn : TFn := ⟨8,u4,[.tmp 2],false⟩
theorem zaqj : type_of% (ai @zac0.eq_1 (ai @zacz.eq_1 (ai @u4.eq_1 @vn.eq_1))) := ⟨rfl,rfl,rfl,rfl⟩
theorem zaqc : uo Try.prog [] ky = some (8,u4.erase,[.tmp 2]) := by kernel_rfl
def zanw : List au := [⟨⟨(some 1),.box dj 7 (t 0),none⟩,0⟩,
 ⟨⟨(some 2),.mov (.const (Go.Value.string ⟨#[]⟩)),none⟩,0⟩]
def zanv : List au := [⟨⟨(some 5),.loadN 7 (t 1),none⟩,0⟩,
 ⟨⟨(some 6),.call pa [(t 5)],none⟩,0⟩,
 ⟨⟨(some 7),.un .not (t 6),none⟩,0⟩]
def zanu : List au := [⟨⟨(some 2),.mov (.const (Go.Value.string ⟨#[]⟩)),none⟩,0⟩]
def zant : List au := [⟨⟨(some 3),.mov (.func lp),none⟩,0⟩]
def zans : List au := [⟨⟨(some 4),.mov (.func lm),none⟩,0⟩]
def zanr : List au := [⟨⟨(some 8),.fieldAddr 0 (t 1),none⟩,0⟩,
 ⟨⟨(some 9),.load1 (t 8),none⟩,0⟩,
 ⟨⟨(some 11),.fieldAddr 1 (t 1),none⟩,0⟩,
 ⟨⟨(some 12),.load1 (t 11),none⟩,0⟩,
 ⟨⟨(some 13),.mov (t 3),none⟩,0⟩,
 ⟨⟨(some 16),.fieldAddr 2 (t 1),none⟩,0⟩,
 ⟨⟨(some 17),.load1 (t 16),none⟩,0⟩,
 ⟨⟨(some 18),.mov (t 4),none⟩,0⟩,
 ⟨⟨(some 21),.fieldAddr 3 (t 1),none⟩,0⟩,
 ⟨⟨(some 22),.load1 (t 21),none⟩,0⟩,
 ⟨⟨(some 25),.fieldAddr 4 (t 1),none⟩,0⟩,
 ⟨⟨(some 26),.load1 (t 25),none⟩,0⟩,
 ⟨⟨(some 29),.fieldAddr 5 (t 1),none⟩,0⟩,
 ⟨⟨(some 30),.load1 (t 29),none⟩,0⟩,
 ⟨⟨(some 33),.fieldAddr 6 (t 1),none⟩,0⟩,
 ⟨⟨(some 34),.load1 (t 33),none⟩,0⟩,
 ⟨⟨(some 10),.call jq [(t 9)],none⟩,0⟩,
 ⟨⟨(some 14),.call jp [(t 12),(t 13)],none⟩,0⟩,
 ⟨⟨(some 15),.bin .add (t 10) (t 14),none⟩,0⟩,
 ⟨⟨(some 19),.call kw [(t 17),(t 18)],none⟩,0⟩,
 ⟨⟨(some 20),.bin .add (t 15) (t 19),none⟩,0⟩,
 ⟨⟨(some 23),.call qk [(t 22),(.func fj)],none⟩,0⟩,
 ⟨⟨(some 24),.bin .add (t 20) (t 23),none⟩,0⟩,
 ⟨⟨(some 27),.call ka [(t 26),(.func jq)],none⟩,0⟩,
 ⟨⟨(some 28),.bin .add (t 24) (t 27),none⟩,0⟩,
 ⟨⟨(some 31),.call fj [(t 30)],none⟩,0⟩,
 ⟨⟨(some 32),.bin .add (t 28) (t 31),none⟩,0⟩,
 ⟨⟨(some 35),.call fj [(t 34)],none⟩,0⟩,
 ⟨⟨(some 36),.bin .add (t 32) (t 35),none⟩,0⟩,
 ⟨⟨(some 2),.mov (t 36),none⟩,0⟩]
def zaii : TC := (.seq (.ops zanw) (.clean [1] (.seq (.seq (.ops zanv) (.clean [1,7] (.cond (t 7) (.seq (.ops zanu) (.ret [2])) .skip))) (.clean [1] (.seq (.ops zant) (.clean [1,3] (.seq (.ops zans) (.clean [1,3,4] (.seq (.draw (pl zanr)) (.ret [2]))))))))))
def zai3 : TFn := ⟨37,zaii,[.tmp 2],false⟩
theorem zawc : type_of% (ai @zanw.eq_1 (ai @zanv.eq_1 (ai @zanu.eq_1 (ai @zant.eq_1 (ai @zans.eq_1 (ai @zanr.eq_1 (ai @zaii.eq_1 @zai3.eq_1))))))) := ⟨rfl,rfl,rfl,rfl,rfl,rfl,rfl,rfl⟩
theorem za9p : uo Try.prog [(5,⟨[0,1,3,4,5,8,9,10,13,14,17,18,21,22,25,26,2,6,7,11,12,15,16,19,20,23,24,27,28,29],[0,1,3,0,8,0,63,127,0,256,0,1919,4095,0,8192,28543,65535,0,131072,454527,1048575,0,2097152,7270271,16777215,0,33554432,116322175,268435455,536870911],[],[]⟩)] rc = some (37,zaii.erase,[.tmp 2]) := by kernel_rfl
def zajv : List au := [⟨⟨(some 1),.box dq 2 (t 0),none⟩,0⟩,
 ⟨⟨(some 2),.mov (.const (Go.Value.string ⟨#[]⟩)),none⟩,0⟩]
def zaju : List au := [⟨⟨(some 3),.fieldAddr 0 (t 1),none⟩,0⟩,
 ⟨⟨(some 4),.load1 (t 3),none⟩,0⟩,
 ⟨⟨(some 6),.fieldAddr 1 (t 1),none⟩,0⟩,
 ⟨⟨(some 7),.load1 (t 6),none⟩,0⟩,
 ⟨⟨(some 5),.call jq [(t 4)],none⟩,0⟩,
 ⟨⟨(some 8),.call ka [(t 7),(.func jq)],none⟩,0⟩,
 ⟨⟨(some 9),.bin .add (t 5) (t 8),none⟩,0⟩,
 ⟨⟨(some 2),.mov (t 9),none⟩,0⟩]
def zae6 : TC := (.seq (.ops zajv) (.clean [1] (.seq (.draw (pl zaju)) (.ret [2]))))
def zafq : TFn := ⟨10,zae6,[.tmp 2],false⟩
theorem za00 : type_of% (ai @zajv.eq_1 (ai @zaju.eq_1 (ai @zae6.eq_1 @zafq.eq_1))) := ⟨rfl,rfl,rfl,rfl⟩
theorem za0t : uo Try.prog [(1,⟨[0,1,3,4,2,5,6,7],[0,1,3,0,8,31,63,127],[],[]⟩)] lp = some (10,zae6.erase,[.tmp 2]) := by kernel_rfl
def zany : List au := [⟨⟨(some 2),.mov (.const (Go.Value.string ⟨#[]⟩)),none⟩,0⟩]
def zanx : List au := [⟨⟨(some 3),.mov (t 0),none⟩,0⟩,
 ⟨⟨(some 4),.lenS (t 3),none⟩,0⟩,
 ⟨⟨(some 5),.call fj [(t 4)],none⟩,0⟩,
 ⟨⟨(some 6),.mov (t 0),none⟩,0⟩,
 ⟨⟨(some 7),.bin .add (t 5) (t 6),none⟩,0⟩,
 ⟨⟨(some 2),.mov (t 7),none⟩,0⟩]
def zaij : TC := (.seq (.ops zany) (.clean [0] (.seq (.ops zanx) (.ret [2]))))
def zai4 : TFn := ⟨8,zaij,[.tmp 2],false⟩
theorem za94 : type_of% (ai @zany.eq_1 (ai @zanx.eq_1 (ai @zaij.eq_1 @zai4.eq_1))) := ⟨rfl,rfl,rfl,rfl⟩
theorem za9q : uo Try.prog [] jq = some (8,zaij.erase,[.tmp 2]) := by kernel_rfl
def zarp : List au := [⟨⟨(some 2),.mov (.const (Go.Value.string ⟨#[]⟩)),none⟩,0⟩]
def zaro : List au := [⟨⟨(some 5),.makeSl fi 1 [(.int .u8 0)] (ci 8) (ci 8),none⟩,1⟩,
 ⟨⟨(some 3),.mov (t 5),none⟩,0⟩]
def zarn : List au := [⟨⟨(some 6),.mov (t 3),none⟩,0⟩,
 ⟨⟨(some 7),.lenL (t 6),none⟩,0⟩,
 ⟨⟨(some 8),.mov (ci 0),none⟩,0⟩]
def zarm : List au := [⟨⟨(some 9),.bin .lss (t 8) (t 7),none⟩,0⟩]
def zarl : List au := [⟨⟨(some 10),.mov (t 8),none⟩,0⟩,
 ⟨⟨(some 4),.mov (t 10),none⟩,0⟩]
def zark : List au := [⟨⟨(some 11),.mov (t 3),none⟩,0⟩,
 ⟨⟨(some 12),.mov (t 4),none⟩,0⟩,
 ⟨⟨(some 13),.mov (t 0),none⟩,0⟩,
 ⟨⟨(some 14),.mov (t 4),none⟩,0⟩,
 ⟨⟨(some 15),.bin .sub (ci 7) (t 14),none⟩,0⟩,
 ⟨⟨(some 16),.bin .mul (ci 8) (t 15),none⟩,0⟩,
 ⟨⟨(some 17),.bin .shr (t 13) (t 16),none⟩,0⟩,
 ⟨⟨(some 18),.conv .u8 (t 17),none⟩,0⟩,
 ⟨⟨(some 19),.indexSl 1 (t 11) (t 12),none⟩,0⟩,
 ⟨⟨none,.store 1 (t 19) (t 18),none⟩,0⟩]
def zarj : List au := [⟨⟨(some 20),.bin .add (t 8) (ci 1),none⟩,0⟩,
 ⟨⟨(some 8),.mov (t 20),none⟩,0⟩]
def zaef : TC := (.seq (.ops zarm) (.clean [0,3,7,8,9] (.seq (.cond (t 9) .skip (.exit 0)) (.clean [0,3,7,8] (.seq (.block 1 [0,3,7,8] (.seq (.ops zarl) (.clean [0,3,4,7,8] (.ops zark)))) (.clean [0,3,7,8] (.ops zarj)))))))
def zari : List au := [⟨⟨(some 21),.mov (t 3),none⟩,0⟩,
 ⟨⟨(some 22),.toStr (t 21),none⟩,0⟩,
 ⟨⟨(some 2),.mov (t 22),none⟩,0⟩]
def zaki : TC := (.seq (.ops zarp) (.clean [0] (.seq (.ops zaro) (.clean [0,3] (.seq (.seq (.ops zarn) (.block 0 [3] (.clean [0,3,7,8] (.loop [0,3,7,8] zaef)))) (.clean [3] (.seq (.ops zari) (.ret [2]))))))))
def zals : TFn := ⟨23,zaki,[.tmp 2],false⟩
theorem zaji : type_of% (ai @zarp.eq_1 (ai @zaro.eq_1 (ai @zarn.eq_1 (ai @zarm.eq_1 (ai @zarl.eq_1 (ai @zark.eq_1 (ai @zarj.eq_1 (ai @zari.eq_1 (ai @zaki.eq_1 @zals.eq_1))))))))) := ⟨rfl,rfl,rfl,rfl,rfl,rfl,rfl,rfl,rfl,rfl⟩
theorem zbb7 : uo Try.prog [] fj = some (23,zaki.erase,[.tmp 2]) := by kernel_rfl
def zad0 : List au := [⟨⟨(some 4),.mov (.const (Go.Value.string ⟨#[]⟩)),none⟩,0⟩]
def zadz : List au := [⟨⟨(some 5),.box bq 2 (.const (.agg #[(.pointer none),(.slice none 0 0)])),none⟩,0⟩]
def zady : List au := [⟨⟨(some 8),.mov (t 0),none⟩,0⟩,
 ⟨⟨(some 9),.lenL (t 8),none⟩,0⟩,
 ⟨⟨(some 10),.call fj [(t 9)],none⟩,0⟩,
 ⟨⟨(some 11),.call a9 [(t 5),(t 10)],none⟩,0⟩]
def zadx : List au := [⟨⟨(some 12),.mov (t 0),none⟩,0⟩,
 ⟨⟨(some 13),.lenL (t 12),none⟩,0⟩,
 ⟨⟨(some 14),.mov (ci 0),none⟩,0⟩]
def zadw : List au := [⟨⟨(some 15),.bin .lss (t 14) (t 13),none⟩,0⟩]
def zadv : List au := [⟨⟨(some 16),.indexSl 1 (t 12) (t 14),none⟩,0⟩,
 ⟨⟨(some 17),.load1 (t 16),none⟩,0⟩,
 ⟨⟨(some 7),.mov (t 17),none⟩,0⟩]
def zadu : List au := [⟨⟨(some 18),.mov (t 1),none⟩,0⟩,
 ⟨⟨(some 19),.mov (t 7),none⟩,0⟩,
 ⟨⟨(some 20),.callv (t 18) [(t 19)],none⟩,0⟩,
 ⟨⟨(some 21),.call a9 [(t 5),(t 20)],none⟩,0⟩]
def zadt : List au := [⟨⟨(some 22),.bin .add (t 14) (ci 1),none⟩,0⟩,
 ⟨⟨(some 14),.mov (t 22),none⟩,0⟩]
def pv : TC := (.seq (.ops zadw) (.clean [1,5,12,13,14,15] (.seq (.cond (t 15) .skip (.exit 0)) (.clean [1,5,12,13,14] (.seq (.block 1 [1,5,12,13,14] (.seq (.ops zadv) (.clean [1,5,7,12,13,14] (.ops zadu)))) (.clean [1,5,12,13,14] (.ops zadt)))))))
def zads : List au := [⟨⟨(some 23),.call bu [(t 5)],none⟩,0⟩,
 ⟨⟨(some 4),.mov (t 23),none⟩,0⟩]
def xf : TC := (.seq (.ops zad0) (.clean [0,1] (.seq (.ops zadz) (.clean [0,1,5] (.seq (.ops zady) (.clean [0,1,5] (.seq (.seq (.ops zadx) (.block 0 [5] (.clean [1,5,12,13,14] (.loop [1,5,12,13,14] pv)))) (.clean [5] (.seq (.ops zads) (.ret [4]))))))))))
def ya : TFn := ⟨24,xf,[.tmp 4],false⟩
theorem te : type_of% (ai @zad0.eq_1 (ai @zadz.eq_1 (ai @zady.eq_1 (ai @zadx.eq_1 (ai @zadw.eq_1 (ai @zadv.eq_1 (ai @zadu.eq_1 (ai @zadt.eq_1 (ai @zads.eq_1 (ai @xf.eq_1 @ya.eq_1)))))))))) := ⟨rfl,rfl,rfl,rfl,rfl,rfl,rfl,rfl,rfl,rfl,rfl⟩
theorem zatr : uo Try.prog [] ka = some (24,xf.erase,[.tmp 4]) := by kernel_rfl
def qe : List au := [⟨⟨(some 4),.mov (ci 0),none⟩,0⟩,
 ⟨⟨(some 5),.mov (.const Go.Value.nilIface),none⟩,0⟩]
def qd : List au := [⟨⟨(some 6),.mov (t 0),none⟩,0⟩,
 ⟨⟨(some 7),.call dx [(t 6)],none⟩,0⟩]
def qc : List au := [⟨⟨(some 8),.mov (t 0),none⟩,0⟩,
 ⟨⟨(some 9),.mov (t 0),none⟩,0⟩,
 ⟨⟨(some 10),.nilchk (t 9),none⟩,0⟩,
 ⟨⟨(some 11),.fieldAddr 1 (t 10),none⟩,0⟩,
 ⟨⟨(some 12),.load1 (t 11),none⟩,2⟩,
 ⟨⟨(some 13),.mov (t 1),none⟩,0⟩,
 ⟨⟨(some 14),.appendS fi (t 12) (t 13),none⟩,0⟩,
 ⟨⟨(some 15),.nilchk (t 8),none⟩,0⟩,
 ⟨⟨(some 16),.fieldAddr 1 (t 15),none⟩,0⟩,
 ⟨⟨none,.store 1 (t 16) (t 14),none⟩,2⟩]
def qb : List au := [⟨⟨(some 17),.mov (t 1),none⟩,0⟩,
 ⟨⟨(some 18),.lenS (t 17),none⟩,0⟩,
 ⟨⟨(some 4),.mov (t 18),none⟩,0⟩,
 ⟨⟨(some 5),.mov (.const Go.Value.nilIface),none⟩,0⟩]
def lu : TC := (.seq (.ops qe) (.clean [0,1] (.seq (.ops qd) (.clean [0,1] (.seq (.ops qc) (.clean [1] (.seq (.ops qb) (.ret [4,5]))))))))
def l0 : TFn := ⟨19,lu,[.tmp 4,.tmp 5],false⟩
theorem r7 : type_of% (ai @qe.eq_1 (ai @qd.eq_1 (ai @qc.eq_1 (ai @qb.eq_1 (ai @lu.eq_1 @l0.eq_1))))) := ⟨rfl,rfl,rfl,rfl,rfl,rfl⟩
theorem zadn : uo Try.prog [] a9 = some (19,lu.erase,[.tmp 4,.tmp 5]) := by kernel_rfl
def zajt : List au := [⟨⟨(some 1),.box mp 5 (t 0),none⟩,0⟩,
 ⟨⟨(some 2),.mov (.const (Go.Value.string ⟨#[]⟩)),none⟩,0⟩]
def zajs : List au := [⟨⟨(some 3),.fieldAddr 0 (t 1),none⟩,0⟩,
 ⟨⟨(some 4),.load1 (t 3),none⟩,0⟩,
 ⟨⟨(some 6),.fieldAddr 1 (t 1),none⟩,0⟩,
 ⟨⟨(some 7),.load1 (t 6),none⟩,0⟩,
 ⟨⟨(some 10),.fieldAddr 2 (t 1),none⟩,0⟩,
 ⟨⟨(some 11),.load1 (t 10),none⟩,0⟩,
 ⟨⟨(some 14),.fieldAddr 3 (t 1),none⟩,0⟩,
 ⟨⟨(some 15),.load1 (t 14),none⟩,0⟩,
 ⟨⟨(some 18),.fieldAddr 4 (t 1),none⟩,0⟩,
 ⟨⟨(some 19),.load1 (t 18),none⟩,0⟩,
 ⟨⟨(some 5),.call fj [(t 4)],none⟩,0⟩,
 ⟨⟨(some 8),.call fj [(t 7)],none⟩,0⟩,
 ⟨⟨(some 9),.bin .add (t 5) (t 8),none⟩,0⟩,
 ⟨⟨(some 12),.call fj [(t 11)],none⟩,0⟩,
 ⟨⟨(some 13),.bin .add (t 9) (t 12),none⟩,0⟩,
 ⟨⟨(some 16),.call jq [(t 15)],none⟩,0⟩,
 ⟨⟨(some 17),.bin .add (t 13) (t 16),none⟩,0⟩,
 ⟨⟨(some 20),.call fj [(t 19)],none⟩,0⟩,
 ⟨⟨(some 21),.bin .add (t 17) (t 20),none⟩,0⟩,
 ⟨⟨(some 2),.mov (t 21),none⟩,0⟩]
def zae5 : TC := (.seq (.ops zajt) (.clean [1] (.seq (.draw (pl zajs)) (.ret [2]))))
def zafp : TFn := ⟨22,zae5,[.tmp 2],false⟩
theorem za0z : type_of% (ai @zajt.eq_1 (ai @zajs.eq_1 (ai @zae5.eq_1 @zafp.eq_1))) := ⟨rfl,rfl,rfl,rfl⟩
theorem za0s : uo Try.prog [(1,⟨[0,1,3,4,7,8,11,12,15,16,2,5,6,9,10,13,14,17,18,19],[0,1,3,0,8,31,63,0,128,447,1023,0,2048,7103,16383,0,32768,113599,262143,524287],[],[]⟩)] lm = some (22,zae5.erase,[.tmp 2]) := by kernel_rfl
def zaal : List au := [⟨⟨(some 4),.mov (.const (Go.Value.string ⟨#[]⟩)),none⟩,0⟩]
def zaak : List au := [⟨⟨(some 5),.box bq 2 (.const (.agg #[(.pointer none),(.slice none 0 0)])),none⟩,0⟩]
def zaaj : List au := [⟨⟨(some 8),.mov (t 0),none⟩,0⟩,
 ⟨⟨(some 9),.lenL (t 8),none⟩,0⟩,
 ⟨⟨(some 10),.call fj [(t 9)],none⟩,0⟩,
 ⟨⟨(some 11),.call a9 [(t 5),(t 10)],none⟩,0⟩]
def zaai : List au := [⟨⟨(some 12),.mov (t 0),none⟩,0⟩,
 ⟨⟨(some 13),.lenL (t 12),none⟩,0⟩,
 ⟨⟨(some 14),.mov (ci 0),none⟩,0⟩]
def zaah : List au := [⟨⟨(some 15),.bin .lss (t 14) (t 13),none⟩,0⟩]
def zaag : List au := [⟨⟨(some 16),.indexSl 2 (t 12) (t 14),none⟩,0⟩,
 ⟨⟨(some 17),.loadN 2 (t 16),none⟩,0⟩,
 ⟨⟨(some 7),.box dq 2 (.const (.agg #[(.string ⟨#[]⟩),(.slice none 0 0)])),none⟩,0⟩,
 ⟨⟨none,.store 2 (t 7) (t 17),none⟩,0⟩]
def zaaf : List au := [⟨⟨(some 18),.mov (t 1),none⟩,0⟩,
 ⟨⟨(some 19),.loadN 2 (t 7),none⟩,0⟩,
 ⟨⟨(some 20),.callv (t 18) [(t 19)],none⟩,0⟩,
 ⟨⟨(some 21),.call a9 [(t 5),(t 20)],none⟩,0⟩]
def zaae : List au := [⟨⟨(some 22),.bin .add (t 14) (ci 1),none⟩,0⟩,
 ⟨⟨(some 14),.mov (t 22),none⟩,0⟩]
def mw : TC := (.seq (.ops zaah) (.clean [1,5,12,13,14,15] (.seq (.cond (t 15) .skip (.exit 0)) (.clean [1,5,12,13,14] (.seq (.block 1 [1,5,12,13,14] (.seq (.ops zaag) (.clean [1,5,7,12,13,14] (.ops zaaf)))) (.clean [1,5,12,13,14] (.ops zaae)))))))
def zaad : List au := [⟨⟨(some 23),.call bu [(t 5)],none⟩,0⟩,
 ⟨⟨(some 4),.mov (t 23),none⟩,0⟩]
def sc : TC := (.seq (.ops zaal) (.clean [0,1] (.seq (.ops zaak) (.clean [0,1,5] (.seq (.ops zaaj) (.clean [0,1,5] (.seq (.seq (.ops zaai) (.block 0 [5] (.clean [1,5,12,13,14] (.loop [1,5,12,13,14] mw)))) (.clean [5] (.seq (.ops zaad) (.ret [4]))))))))))
def se : TFn := ⟨24,sc,[.tmp 4],false⟩
theorem o8 : type_of% (ai @zaal.eq_1 (ai @zaak.eq_1 (ai @zaaj.eq_1 (ai @zaai.eq_1 (ai @zaah.eq_1 (ai @zaag.eq_1 (ai @zaaf.eq_1 (ai @zaae.eq_1 (ai @zaad.eq_1 (ai @sc.eq_1 @se.eq_1)))))))))) := ⟨rfl,rfl,rfl,rfl,rfl,rfl,rfl,rfl,rfl,rfl,rfl⟩
theorem zal8 : uo Try.prog [] jp = some (24,sc.erase,[.tmp 4]) := by kernel_rfl
def zacg : List au := [⟨⟨(some 4),.mov (.const (Go.Value.string ⟨#[]⟩)),none⟩,0⟩]
def zacf : List au := [⟨⟨(some 5),.box bq 2 (.const (.agg #[(.pointer none),(.slice none 0 0)])),none⟩,0⟩]
def zace : List au := [⟨⟨(some 8),.mov (t 0),none⟩,0⟩,
 ⟨⟨(some 9),.lenL (t 8),none⟩,0⟩,
 ⟨⟨(some 10),.call fj [(t 9)],none⟩,0⟩,
 ⟨⟨(some 11),.call a9 [(t 5),(t 10)],none⟩,0⟩]
def zacd : List au := [⟨⟨(some 12),.mov (t 0),none⟩,0⟩,
 ⟨⟨(some 13),.lenL (t 12),none⟩,0⟩,
 ⟨⟨(some 14),.mov (ci 0),none⟩,0⟩]
def zacc : List au := [⟨⟨(some 15),.bin .lss (t 14) (t 13),none⟩,0⟩]
def zacb : List au := [⟨⟨(some 16),.indexSl 5 (t 12) (t 14),none⟩,0⟩,
 ⟨⟨(some 17),.loadN 5 (t 16),none⟩,0⟩,
 ⟨⟨(some 7),.box mp 5 (.const (.agg #[(.int .i64 0),(.int .i64 0),(.int .i64 0),(.string ⟨#[]⟩),(.int .i64 0)])),none⟩,0⟩,
 ⟨⟨none,.store 5 (t 7) (t 17),none⟩,0⟩]
def zaca : List au := [⟨⟨(some 18),.mov (t 1),none⟩,0⟩,
 ⟨⟨(some 19),.loadN 5 (t 7),none⟩,0⟩,
 ⟨⟨(some 20),.callv (t 18) [(t 19)],none⟩,0⟩,
 ⟨⟨(some 21),.call a9 [(t 5),(t 20)],none⟩,0⟩]
def zab9 : List au := [⟨⟨(some 22),.bin .add (t 14) (ci 1),none⟩,0⟩,
 ⟨⟨(some 14),.mov (t 22),none⟩,0⟩]
def ox : TC := (.seq (.ops zacc) (.clean [1,5,12,13,14,15] (.seq (.cond (t 15) .skip (.exit 0)) (.clean [1,5,12,13,14] (.seq (.block 1 [1,5,12,13,14] (.seq (.ops zacb) (.clean [1,5,7,12,13,14] (.ops zaca)))) (.clean [1,5,12,13,14] (.ops zab9)))))))
def zab8 : List au := [⟨⟨(some 23),.call bu [(t 5)],none⟩,0⟩,
 ⟨⟨(some 4),.mov (t 23),none⟩,0⟩]
def uv : TC := (.seq (.ops zacg) (.clean [0,1] (.seq (.ops zacf) (.clean [0,1,5] (.seq (.ops zace) (.clean [0,1,5] (.seq (.seq (.ops zacd) (.block 0 [5] (.clean [1,5,12,13,14] (.loop [1,5,12,13,14] ox)))) (.clean [5] (.seq (.ops zab8) (.ret [4]))))))))))
def vi : TFn := ⟨24,uv,[.tmp 4],false⟩
theorem rm : type_of% (ai @zacg.eq_1 (ai @zacf.eq_1 (ai @zace.eq_1 (ai @zacd.eq_1 (ai @zacc.eq_1 (ai @zacb.eq_1 (ai @zaca.eq_1 (ai @zab9.eq_1 (ai @zab8.eq_1 (ai @uv.eq_1 @vi.eq_1)))))))))) := ⟨rfl,rfl,rfl,rfl,rfl,rfl,rfl,rfl,rfl,rfl,rfl⟩
theorem zap7 : uo Try.prog [] kw = some (24,uv.erase,[.tmp 4]) := by kernel_rfl
def zahp : List au := [⟨⟨(some 4),.mov (.const (Go.Value.string ⟨#[]⟩)),none⟩,0⟩]
def zaho : List au := [⟨⟨(some 5),.box bq 2 (.const (.agg #[(.pointer none),(.slice none 0 0)])),none⟩,0⟩]
def zahn : List au := [⟨⟨(some 8),.mov (t 0),none⟩,0⟩,
 ⟨⟨(some 9),.lenL (t 8),none⟩,0⟩,
 ⟨⟨(some 10),.call fj [(t 9)],none⟩,0⟩,
 ⟨⟨(some 11),.call a9 [(t 5),(t 10)],none⟩,0⟩]
def zahm : List au := [⟨⟨(some 12),.mov (t 0),none⟩,0⟩,
 ⟨⟨(some 13),.lenL (t 12),none⟩,0⟩,
 ⟨⟨(some 14),.mov (ci 0),none⟩,0⟩]
def zahl : List au := [⟨⟨(some 15),.bin .lss (t 14) (t 13),none⟩,0⟩]
def zahk : List au := [⟨⟨(some 16),.indexSl 1 (t 12) (t 14),none⟩,0⟩,
 ⟨⟨(some 17),.load1 (t 16),none⟩,0⟩,
 ⟨⟨(some 7),.mov (t 17),none⟩,0⟩]
def zahj : List au := [⟨⟨(some 18),.mov (t 1),none⟩,0⟩,
 ⟨⟨(some 19),.mov (t 7),none⟩,0⟩,
 ⟨⟨(some 20),.callv (t 18) [(t 19)],none⟩,0⟩,
 ⟨⟨(some 21),.call a9 [(t 5),(t 20)],none⟩,0⟩]
def zahi : List au := [⟨⟨(some 22),.bin .add (t 14) (ci 1),none⟩,0⟩,
 ⟨⟨(some 14),.mov (t 22),none⟩,0⟩]
def um : TC := (.seq (.ops zahl) (.clean [1,5,12,13,14,15] (.seq (.cond (t 15) .skip (.exit 0)) (.clean [1,5,12,13,14] (.seq (.block 1 [1,5,12,13,14] (.seq (.ops zahk) (.clean [1,5,7,12,13,14] (.ops zahj)))) (.clean [1,5,12,13,14] (.ops zahi)))))))
def zahh : List au := [⟨⟨(some 23),.call bu [(t 5)],none⟩,0⟩,
 ⟨⟨(some 4),.mov (t 23),none⟩,0⟩]
def zade : TC := (.seq (.ops zahp) (.clean [0,1] (.seq (.ops zaho) (.clean [0,1,5] (.seq (.ops zahn) (.clean [0,1,5] (.seq (.seq (.ops zahm) (.block 0 [5] (.clean [1,5,12,13,14] (.loop [1,5,12,13,14] um)))) (.clean [5] (.seq (.ops zahh) (.ret [4]))))))))))
def zadk : TFn := ⟨24,zade,[.tmp 4],false⟩
theorem zaar : type_of% (ai @zahp.eq_1 (ai @zaho.eq_1 (ai @zahn.eq_1 (ai @zahm.eq_1 (ai @zahl.eq_1 (ai @zahk.eq_1 (ai @zahj.eq_1 (ai @zahi.eq_1 (ai @zahh.eq_1 (ai @zade.eq_1 @zadk.eq_1)))))))))) := ⟨rfl,rfl,rfl,rfl,rfl,rfl,rfl,rfl,rfl,rfl,rfl⟩
theorem zazv : uo Try.prog [] qk = some (24,zade.erase,[.tmp 4]) := by kernel_rfl
def zaq7 : List au := [⟨⟨(some 2),.box dj 7 (t 0),none⟩,0⟩,
 ⟨⟨(some 3),.box dj 7 (t 1),none⟩,0⟩,
 ⟨⟨(some 4),.mov (.const (Go.Value.bool false)),none⟩,0⟩]
def zaq6 : List au := [⟨⟨(some 5),.mov (.func m5),none⟩,0⟩]
def zaq5 : List au := [⟨⟨(some 6),.fieldAddr 0 (t 2),none⟩,0⟩,
 ⟨⟨(some 7),.load1 (t 6),none⟩,0⟩,
 ⟨⟨(some 8),.fieldAddr 0 (t 3),none⟩,0⟩,
 ⟨⟨(some 9),.load1 (t 8),none⟩,0⟩,
 ⟨⟨(some 10),.bin .eql (t 7) (t 9),none⟩,0⟩,
 ⟨⟨(some 11),.mov (t 10),none⟩,0⟩,
 ⟨⟨(some 12),.fieldAddr 1 (t 2),(some (11,true))⟩,0⟩,
 ⟨⟨(some 13),.load1 (t 12),(some (11,true))⟩,0⟩,
 ⟨⟨(some 14),.fieldAddr 1 (t 3),(some (11,true))⟩,0⟩,
 ⟨⟨(some 15),.load1 (t 14),(some (11,true))⟩,0⟩,
 ⟨⟨(some 16),.mov (t 5),(some (11,true))⟩,0⟩,
 ⟨⟨(some 17),.call az [(t 13),(t 15),(t 16)],(some (11,true))⟩,0⟩,
 ⟨⟨(some 18),.pick (t 11) (t 17) (.const (Go.Value.bool false)),none⟩,0⟩,
 ⟨⟨(some 19),.mov (t 18),none⟩,0⟩,
 ⟨⟨(some 20),.fieldAddr 2 (t 2),(some (19,true))⟩,0⟩,
 ⟨⟨(some 21),.load1 (t 20),(some (19,true))⟩,0⟩,
 ⟨⟨(some 22),.fieldAddr 2 (t 3),(some (19,true))⟩,0⟩,
 ⟨⟨(some 23),.load1 (t 22),(some (19,true))⟩,0⟩,
 ⟨⟨(some 24),.call d4 [(t 21),(t 23)],(some (19,true))⟩,0⟩,
 ⟨⟨(some 25),.pick (t 19) (t 24) (.const (Go.Value.bool false)),none⟩,0⟩,
 ⟨⟨(some 26),.mov (t 25),none⟩,0⟩,
 ⟨⟨(some 27),.fieldAddr 3 (t 2),(some (26,true))⟩,0⟩,
 ⟨⟨(some 28),.load1 (t 27),(some (26,true))⟩,0⟩,
 ⟨⟨(some 29),.fieldAddr 3 (t 3),(some (26,true))⟩,0⟩,
 ⟨⟨(some 30),.load1 (t 29),(some (26,true))⟩,0⟩,
 ⟨⟨(some 31),.call ij [(t 28),(t 30)],(some (26,true))⟩,0⟩,
 ⟨⟨(some 32),.pick (t 26) (t 31) (.const (Go.Value.bool false)),none⟩,0⟩,
 ⟨⟨(some 33),.mov (t 32),none⟩,0⟩,
 ⟨⟨(some 34),.fieldAddr 4 (t 2),(some (33,true))⟩,0⟩,
 ⟨⟨(some 35),.load1 (t 34),(some (33,true))⟩,0⟩,
 ⟨⟨(some 36),.fieldAddr 4 (t 3),(some (33,true))⟩,0⟩,
 ⟨⟨(some 37),.load1 (t 36),(some (33,true))⟩,0⟩,
 ⟨⟨(some 38),.call du [(t 35),(t 37)],(some (33,true))⟩,0⟩,
 ⟨⟨(some 39),.pick (t 33) (t 38) (.const (Go.Value.bool false)),none⟩,0⟩,
 ⟨⟨(some 40),.mov (t 39),none⟩,0⟩,
 ⟨⟨(some 41),.fieldAddr 5 (t 2),(some (40,true))⟩,0⟩,
 ⟨⟨(some 42),.load1 (t 41),(some (40,true))⟩,0⟩,
 ⟨⟨(some 43),.fieldAddr 5 (t 3),(some (40,true))⟩,0⟩,
 ⟨⟨(some 44),.load1 (t 43),(some (40,true))⟩,0⟩,
 ⟨⟨(some 45),.bin .eql (t 42) (t 44),(some (40,true))⟩,0⟩,
 ⟨⟨(some 46),.pick (t 40) (t 45) (.const (Go.Value.bool false)),none⟩,0⟩,
 ⟨⟨(some 47),.mov (t 46),none⟩,0⟩,
 ⟨⟨(some 48),.fieldAddr 6 (t 2),(some (47,true))⟩,0⟩,
 ⟨⟨(some 49),.load1 (t 48),(some (47,true))⟩,0⟩,
 ⟨⟨(some 50),.fieldAddr 6 (t 3),(some (47,true))⟩,0⟩,
 ⟨⟨(some 51),.load1 (t 50),(some (47,true))⟩,0⟩,
 ⟨⟨(some 52),.bin .eql (t 49) (t 51),(some (47,true))⟩,0⟩,
 ⟨⟨(some 53),.pick (t 47) (t 52) (.const (Go.Value.bool false)),none⟩,0⟩,
 ⟨⟨(some 4),.mov (t 53),none⟩,0⟩]
def zakg : TC := (.seq (.ops zaq7) (.clean [2,3] (.seq (.ops zaq6) (.clean [2,3,5] (.seq (.ops zaq5) (.ret [4]))))))
def zalq : TFn := ⟨54,zakg,[.tmp 4],false⟩
theorem ye : type_of% (ai @zaq7.eq_1 (ai @zaq6.eq_1 (ai @zaq5.eq_1 (ai @zakg.eq_1 @zalq.eq_1)))) := ⟨rfl,rfl,rfl,rfl,rfl⟩
theorem zbb5 : uo Try.prog [] yj = some (54,zakg.erase,[.tmp 4]) := by kernel_rfl
def zak0 : List au := [⟨⟨(some 2),.box dq 2 (t 0),none⟩,0⟩,
 ⟨⟨(some 3),.box dq 2 (t 1),none⟩,0⟩,
 ⟨⟨(some 4),.mov (.const (Go.Value.bool false)),none⟩,0⟩]
def zakz : List au := [⟨⟨(some 5),.fieldAddr 0 (t 2),none⟩,0⟩,
 ⟨⟨(some 6),.load1 (t 5),none⟩,0⟩,
 ⟨⟨(some 7),.fieldAddr 0 (t 3),none⟩,0⟩,
 ⟨⟨(some 8),.load1 (t 7),none⟩,0⟩,
 ⟨⟨(some 9),.bin .eql (t 6) (t 8),none⟩,0⟩,
 ⟨⟨(some 10),.mov (t 9),none⟩,0⟩,
 ⟨⟨(some 11),.fieldAddr 1 (t 2),(some (10,true))⟩,0⟩,
 ⟨⟨(some 12),.load1 (t 11),(some (10,true))⟩,0⟩,
 ⟨⟨(some 13),.fieldAddr 1 (t 3),(some (10,true))⟩,0⟩,
 ⟨⟨(some 14),.load1 (t 13),(some (10,true))⟩,0⟩,
 ⟨⟨(some 15),.call du [(t 12),(t 14)],(some (10,true))⟩,0⟩,
 ⟨⟨(some 16),.pick (t 10) (t 15) (.const (Go.Value.bool false)),none⟩,0⟩,
 ⟨⟨(some 4),.mov (t 16),none⟩,0⟩]
def zagj : TC := (.seq (.ops zak0) (.clean [2,3] (.seq (.ops zakz) (.ret [4]))))
def zags : TFn := ⟨17,zagj,[.tmp 4],false⟩
theorem zaty : type_of% (ai @zak0.eq_1 (ai @zakz.eq_1 (ai @zagj.eq_1 @zags.eq_1))) := ⟨rfl,rfl,rfl,rfl⟩
theorem za4t : uo Try.prog [] m5 = some (17,zagj.erase,[.tmp 4]) := by kernel_rfl
def qz : List au := [⟨⟨(some 4),.mov (.const (Go.Value.bool false)),none⟩,0⟩]
def qy : List au := [⟨⟨(some 6),.mov (t 0),none⟩,0⟩,
 ⟨⟨(some 7),.lenL (t 6),none⟩,0⟩,
 ⟨⟨(some 8),.mov (t 1),none⟩,0⟩,
 ⟨⟨(some 9),.lenL (t 8),none⟩,0⟩,
 ⟨⟨(some 10),.bin .neq (t 7) (t 9),none⟩,0⟩]
def qx : List au := [⟨⟨(some 4),.mov (.const (Go.Value.bool false)),none⟩,0⟩]
def qw : List au := [⟨⟨(some 11),.mov (t 0),none⟩,0⟩,
 ⟨⟨(some 12),.lenL (t 11),none⟩,0⟩,
 ⟨⟨(some 13),.mov (ci 0),none⟩,0⟩]
def qv : List au := [⟨⟨(some 14),.bin .lss (t 13) (t 12),none⟩,0⟩]
def qu : List au := [⟨⟨(some 15),.mov (t 13),none⟩,0⟩,
 ⟨⟨(some 5),.mov (t 15),none⟩,0⟩]
def qt : List au := [⟨⟨(some 16),.mov (t 0),none⟩,0⟩,
 ⟨⟨(some 17),.mov (t 5),none⟩,0⟩,
 ⟨⟨(some 18),.indexSl 1 (t 16) (t 17),none⟩,0⟩,
 ⟨⟨(some 19),.load1 (t 18),none⟩,0⟩,
 ⟨⟨(some 20),.mov (t 1),none⟩,0⟩,
 ⟨⟨(some 21),.mov (t 5),none⟩,0⟩,
 ⟨⟨(some 22),.indexSl 1 (t 20) (t 21),none⟩,0⟩,
 ⟨⟨(some 23),.load1 (t 22),none⟩,0⟩,
 ⟨⟨(some 24),.bin .neq (t 19) (t 23),none⟩,0⟩]
def qr : List au := [⟨⟨(some 4),.mov (.const (Go.Value.bool false)),none⟩,0⟩]
def qp : List au := [⟨⟨(some 25),.bin .add (t 13) (ci 1),none⟩,0⟩,
 ⟨⟨(some 13),.mov (t 25),none⟩,0⟩]
def ft : TC := (.seq (.ops qv) (.clean [0,1,12,13,14] (.seq (.cond (t 14) .skip (.exit 0)) (.clean [0,1,12,13] (.seq (.block 1 [0,1,12,13] (.seq (.ops qu) (.clean [0,1,5,12,13] (.seq (.draw (pl qt)) (.clean [0,1,12,13,24] (.cond (t 24) (.seq (.ops qr) (.ret [4])) .skip)))))) (.clean [0,1,12,13] (.ops qp)))))))
def qo : List au := [⟨⟨(some 4),.mov (.const (Go.Value.bool true)),none⟩,0⟩]
def mh : TC := (.seq (.ops qz) (.clean [0,1] (.seq (.seq (.ops qy) (.clean [0,1,10] (.cond (t 10) (.seq (.ops qx) (.ret [4])) .skip))) (.clean [0,1] (.seq (.seq (.ops qw) (.block 0 [] (.clean [0,1,12,13] (.loop [0,1,12,13] ft)))) (.clean [] (.seq (.ops qo) (.ret [4]))))))))
def mi : TFn := ⟨26,mh,[.tmp 4],false⟩
theorem dp : type_of% (ai @qz.eq_1 (ai @qy.eq_1 (ai @qx.eq_1 (ai @qw.eq_1 (ai @qv.eq_1 (ai @qu.eq_1 (ai @qt.eq_1 (ai @qr.eq_1 (ai @qp.eq_1 (ai @qo.eq_1 (ai @mh.eq_1 @mi.eq_1))))))))))) := ⟨rfl,rfl,rfl,rfl,rfl,rfl,rfl,rfl,rfl,rfl,rfl,rfl⟩
theorem zaem : uo Try.prog [(6,⟨[0,1,2,3,4,5,6,7,8],[0,0,3,7,0,0,48,112,255],[],[]⟩)] du = some (26,mh.erase,[.tmp 4]) := by kernel_rfl
def fb : List au := [⟨⟨(some 6),.mov (.const (Go.Value.bool false)),none⟩,0⟩]
def fa : List au := [⟨⟨(some 10),.mov (t 0),none⟩,0⟩,
 ⟨⟨(some 11),.lenL (t 10),none⟩,0⟩,
 ⟨⟨(some 12),.mov (t 1),none⟩,0⟩,
 ⟨⟨(some 13),.lenL (t 12),none⟩,0⟩,
 ⟨⟨(some 14),.bin .neq (t 11) (t 13),none⟩,0⟩]
def ey : List au := [⟨⟨(some 6),.mov (.const (Go.Value.bool false)),none⟩,0⟩]
def ew : List au := [⟨⟨(some 15),.mov (t 0),none⟩,0⟩,
 ⟨⟨(some 16),.lenL (t 15),none⟩,0⟩,
 ⟨⟨(some 17),.mov (ci 0),none⟩,0⟩]
def ev : List au := [⟨⟨(some 18),.bin .lss (t 17) (t 16),none⟩,0⟩]
def eu : List au := [⟨⟨(some 19),.mov (t 17),none⟩,0⟩,
 ⟨⟨(some 20),.indexSl 2 (t 15) (t 17),none⟩,0⟩,
 ⟨⟨(some 21),.loadN 2 (t 20),none⟩,0⟩,
 ⟨⟨(some 8),.box dq 2 (.const (.agg #[(.string ⟨#[]⟩),(.slice none 0 0)])),none⟩,0⟩,
 ⟨⟨(some 7),.mov (t 19),none⟩,0⟩,
 ⟨⟨none,.store 2 (t 8) (t 21),none⟩,0⟩]
def er : List au := [⟨⟨(some 22),.mov (t 1),none⟩,0⟩,
 ⟨⟨(some 23),.mov (t 7),none⟩,0⟩,
 ⟨⟨(some 24),.indexSl 2 (t 22) (t 23),none⟩,0⟩,
 ⟨⟨(some 25),.loadN 2 (t 24),none⟩,0⟩,
 ⟨⟨(some 9),.box dq 2 (.const (.agg #[(.string ⟨#[]⟩),(.slice none 0 0)])),none⟩,0⟩,
 ⟨⟨none,.store 2 (t 9) (t 25),none⟩,0⟩]
def eq : List au := [⟨⟨(some 26),.mov (t 2),none⟩,0⟩,
 ⟨⟨(some 27),.loadN 2 (t 8),none⟩,0⟩,
 ⟨⟨(some 28),.loadN 2 (t 9),none⟩,0⟩,
 ⟨⟨(some 29),.callv (t 26) [(t 27),(t 28)],none⟩,0⟩,
 ⟨⟨(some 30),.un .not (t 29),none⟩,0⟩]
def ep : List au := [⟨⟨(some 6),.mov (.const (Go.Value.bool false)),none⟩,0⟩]
def eo : List au := [⟨⟨(some 31),.bin .add (t 17) (ci 1),none⟩,0⟩,
 ⟨⟨(some 17),.mov (t 31),none⟩,0⟩]
def bd : TC := (.seq (.ops ev) (.clean [1,2,15,16,17,18] (.seq (.cond (t 18) .skip (.exit 0)) (.clean [1,2,15,16,17] (.seq (.block 1 [1,2,15,16,17] (.seq (.ops eu) (.clean [1,2,7,8,15,16,17] (.seq (.ops er) (.clean [1,2,8,9,15,16,17] (.seq (.ops eq) (.clean [1,2,15,16,17,30] (.cond (t 30) (.seq (.ops ep) (.ret [6])) .skip)))))))) (.clean [1,2,15,16,17] (.ops eo)))))))
def ej : List au := [⟨⟨(some 6),.mov (.const (Go.Value.bool true)),none⟩,0⟩]
def cn : TC := (.seq (.ops fb) (.clean [0,1,2] (.seq (.seq (.ops fa) (.clean [0,1,2,14] (.cond (t 14) (.seq (.ops ey) (.ret [6])) .skip))) (.clean [0,1,2] (.seq (.seq (.ops ew) (.block 0 [] (.clean [1,2,15,16,17] (.loop [1,2,15,16,17] bd)))) (.clean [] (.seq (.ops ej) (.ret [6]))))))))
def cv : TFn := ⟨32,cn,[.tmp 6],false⟩
theorem av : type_of% (ai @fb.eq_1 (ai @fa.eq_1 (ai @ey.eq_1 (ai @ew.eq_1 (ai @ev.eq_1 (ai @eu.eq_1 (ai @er.eq_1 (ai @eq.eq_1 (ai @ep.eq_1 (ai @eo.eq_1 (ai @ej.eq_1 (ai @cn.eq_1 @cv.eq_1)))))))))))) := ⟨rfl,rfl,rfl,rfl,rfl,rfl,rfl,rfl,rfl,rfl,rfl,rfl,rfl⟩
theorem li : uo Try.prog [] az = some (32,cn.erase,[.tmp 6]) := by kernel_rfl
def pq : List au := [⟨⟨(some 4),.mov (.const (Go.Value.bool false)),none⟩,0⟩]
def pp : List au := [⟨⟨(some 6),.mov (t 0),none⟩,0⟩,
 ⟨⟨(some 7),.lenL (t 6),none⟩,0⟩,
 ⟨⟨(some 8),.mov (t 1),none⟩,0⟩,
 ⟨⟨(some 9),.lenL (t 8),none⟩,0⟩,
 ⟨⟨(some 10),.bin .neq (t 7) (t 9),none⟩,0⟩]
def po : List au := [⟨⟨(some 4),.mov (.const (Go.Value.bool false)),none⟩,0⟩]
def pn : List au := [⟨⟨(some 11),.mov (t 0),none⟩,0⟩,
 ⟨⟨(some 12),.lenL (t 11),none⟩,0⟩,
 ⟨⟨(some 13),.mov (ci 0),none⟩,0⟩]
def pm : List au := [⟨⟨(some 14),.bin .lss (t 13) (t 12),none⟩,0⟩]
def pk : List au := [⟨⟨(some 15),.mov (t 13),none⟩,0⟩,
 ⟨⟨(some 5),.mov (t 15),none⟩,0⟩]
def pj : List au := [⟨⟨(some 16),.mov (t 0),none⟩,0⟩,
 ⟨⟨(some 17),.mov (t 5),none⟩,0⟩,
 ⟨⟨(some 18),.indexSl 5 (t 16) (t 17),none⟩,0⟩,
 ⟨⟨(some 19),.loadN 5 (t 18),none⟩,0⟩,
 ⟨⟨(some 20),.mov (t 1),none⟩,0⟩,
 ⟨⟨(some 21),.mov (t 5),none⟩,0⟩,
 ⟨⟨(some 22),.indexSl 5 (t 20) (t 21),none⟩,0⟩,
 ⟨⟨(some 23),.loadN 5 (t 22),none⟩,0⟩,
 ⟨⟨(some 24),.eqF true [.i,.i,.i,.s,.i] (t 19) (t 23),none⟩,0⟩]
def pi : List au := [⟨⟨(some 4),.mov (.const (Go.Value.bool false)),none⟩,0⟩]
def ph : List au := [⟨⟨(some 25),.bin .add (t 13) (ci 1),none⟩,0⟩,
 ⟨⟨(some 13),.mov (t 25),none⟩,0⟩]
def ek : TC := (.seq (.ops pm) (.clean [0,1,12,13,14] (.seq (.cond (t 14) .skip (.exit 0)) (.clean [0,1,12,13] (.seq (.block 1 [0,1,12,13] (.seq (.ops pk) (.clean [0,1,5,12,13] (.seq (.draw (pl pj)) (.clean [0,1,12,13,24] (.cond (t 24) (.seq (.ops pi) (.ret [4])) .skip)))))) (.clean [0,1,12,13] (.ops ph)))))))
def pg : List au := [⟨⟨(some 4),.mov (.const (Go.Value.bool true)),none⟩,0⟩]
def kl : TC := (.seq (.ops pq) (.clean [0,1] (.seq (.seq (.ops pp) (.clean [0,1,10] (.cond (t 10) (.seq (.ops po) (.ret [4])) .skip))) (.clean [0,1] (.seq (.seq (.ops pn) (.block 0 [] (.clean [0,1,12,13] (.loop [0,1,12,13] ek)))) (.clean [] (.seq (.ops pg) (.ret [4]))))))))
def kn : TFn := ⟨26,kl,[.tmp 4],false⟩
theorem dc : type_of% (ai @pq.eq_1 (ai @pp.eq_1 (ai @po.eq_1 (ai @pn.eq_1 (ai @pm.eq_1 (ai @pk.eq_1 (ai @pj.eq_1 (ai @pi.eq_1 (ai @ph.eq_1 (ai @pg.eq_1 (ai @kl.eq_1 @kn.eq_1))))))))))) := ⟨rfl,rfl,rfl,rfl,rfl,rfl,rfl,rfl,rfl,rfl,rfl,rfl⟩
theorem zada : uo Try.prog [(6,⟨[0,1,2,3,4,5,6,7,8],[0,0,3,7,0,0,48,112,255],[],[]⟩)] d4 = some (26,kl.erase,[.tmp 4]) := by kernel_rfl
def zi : List au := [⟨⟨(some 4),.mov (.const (Go.Value.bool false)),none⟩,0⟩]
def zh : List au := [⟨⟨(some 6),.mov (t 0),none⟩,0⟩,
 ⟨⟨(some 7),.lenL (t 6),none⟩,0⟩,
 ⟨⟨(some 8),.mov (t 1),none⟩,0⟩,
 ⟨⟨(some 9),.lenL (t 8),none⟩,0⟩,
 ⟨⟨(some 10),.bin .neq (t 7) (t 9),none⟩,0⟩]
def zg : List au := [⟨⟨(some 4),.mov (.const (Go.Value.bool false)),none⟩,0⟩]
def zf : List au := [⟨⟨(some 11),.mov (t 0),none⟩,0⟩,
 ⟨⟨(some 12),.lenL (t 11),none⟩,0⟩,
 ⟨⟨(some 13),.mov (ci 0),none⟩,0⟩]
def ze : List au := [⟨⟨(some 14),.bin .lss (t 13) (t 12),none⟩,0⟩]
def zd : List au := [⟨⟨(some 15),.mov (t 13),none⟩,0⟩,
 ⟨⟨(some 5),.mov (t 15),none⟩,0⟩]
def zc : List au := [⟨⟨(some 16),.mov (t 0),none⟩,0⟩,
 ⟨⟨(some 17),.mov (t 5),none⟩,0⟩,
 ⟨⟨(some 18),.indexSl 1 (t 16) (t 17),none⟩,0⟩,
 ⟨⟨(some 19),.load1 (t 18),none⟩,0⟩,
 ⟨⟨(some 20),.mov (t 1),none⟩,0⟩,
 ⟨⟨(some 21),.mov (t 5),none⟩,0⟩,
 ⟨⟨(some 22),.indexSl 1 (t 20) (t 21),none⟩,0⟩,
 ⟨⟨(some 23),.load1 (t 22),none⟩,0⟩,
 ⟨⟨(some 24),.bin .neq (t 19) (t 23),none⟩,0⟩]
def zb : List au := [⟨⟨(some 4),.mov (.const (Go.Value.bool false)),none⟩,0⟩]
def za : List au := [⟨⟨(some 25),.bin .add (t 13) (ci 1),none⟩,0⟩,
 ⟨⟨(some 13),.mov (t 25),none⟩,0⟩]
def jh : TC := (.seq (.ops ze) (.clean [0,1,12,13,14] (.seq (.cond (t 14) .skip (.exit 0)) (.clean [0,1,12,13] (.seq (.block 1 [0,1,12,13] (.seq (.ops zd) (.clean [0,1,5,12,13] (.seq (.draw (pl zc)) (.clean [0,1,12,13,24] (.cond (t 24) (.seq (.ops zb) (.ret [4])) .skip)))))) (.clean [0,1,12,13] (.ops za)))))))
def y0 : List au := [⟨⟨(some 4),.mov (.const (Go.Value.bool true)),none⟩,0⟩]
def rh : TC := (.seq (.ops zi) (.clean [0,1] (.seq (.seq (.ops zh) (.clean [0,1,10] (.cond (t 10) (.seq (.ops zg) (.ret [4])) .skip))) (.clean [0,1] (.seq (.seq (.ops zf) (.block 0 [] (.clean [0,1,12,13] (.loop [0,1,12,13] jh)))) (.clean [] (.seq (.ops y0) (.ret [4]))))))))
def rj : TFn := ⟨26,rh,[.tmp 4],false⟩
theorem gn : type_of% (ai @zi.eq_1 (ai @zh.eq_1 (ai @zg.eq_1 (ai @zf.eq_1 (ai @ze.eq_1 (ai @zd.eq_1 (ai @zc.eq_1 (ai @zb.eq_1 (ai @za.eq_1 (ai @y0.eq_1 (ai @rh.eq_1 @rj.eq_1))))))))))) := ⟨rfl,rfl,rfl,rfl,rfl,rfl,rfl,rfl,rfl,rfl,rfl,rfl⟩
theorem zaj9 : uo Try.prog [(6,⟨[0,1,2,3,4,5,6,7,8],[0,0,3,7,0,0,48,112,255],[],[]⟩)] ij = some (26,rh.erase,[.tmp 4]) := by kernel_rfl
end Ic
end Go.Proofs.Ytdcfoaafkppojaa
