import Derived.Test.YtdcfoaafkppojaaProg
import Derived.Test.YtdcfoaafkppojaaTv9
import Derived.KernelRfl
set_option linter.unusedVariables false
/- The code of functions for the tree level, printed by a program out of the model's own print; the kernel checks each. -/
namespace Go.Proofs.Ytdcfoaafkppojaa
open Go Go.RowKit Sh
namespace Ic
abbrev t (n : Nat) : Operand := .tmp n
abbrev ci (n : Int) : Operand := .const (.int .i64 n)
abbrev qk : Nat := 15
abbrev uc : Nat := 27
abbrev zabu : Nat := 28
abbrev zabt : Nat := 44
abbrev ub : Nat := 45
abbrev o9 : Nat := 47
abbrev ra : Nat := 49
abbrev yh : Nat := 51
abbrev zaex : Nat := 54
abbrev uq : Nat := 55
abbrev zafw : Nat := 56
abbrev zabq : Nat := 70
abbrev dq : Nat := 71
abbrev kx : Nat := 72
abbrev ig : Nat := 73
abbrev m5 : Nat := 74
abbrev jc : Nat := 75
abbrev kb : Nat := 76
abbrev mz : Nat := 77
abbrev bp : Nat := 78
abbrev om : Nat := 79
abbrev mf : Nat := 80
abbrev ky : Nat := 81
abbrev ua : Nat := 87
abbrev nr : Nat := 88
abbrev t9 : Nat := 89
abbrev zaew : Nat := 90
abbrev iq : Nat := 91
abbrev g9 : Nat := 92
abbrev jo : Nat := 93
abbrev l6 : Nat := 94
abbrev ee : Nat := 95
abbrev lm : Nat := 100
abbrev jq : Nat := 101
abbrev j9 : Nat := 102
abbrev li : Nat := 103
abbrev fj : Nat := 104
abbrev jp : Nat := 105
abbrev kw : Nat := 106
abbrev qj : Nat := 107
abbrev my : Nat := 112
abbrev dt : Nat := 113
abbrev az : Nat := 114
abbrev d4 : Nat := 115
abbrev ij : Nat := 116
abbrev m7 : Nat := 119
abbrev zafv : Nat := 120
abbrev zq : Nat := 121
abbrev zp : Nat := 122
abbrev zaey : Nat := 123
abbrev d6 : Nat := 128
abbrev jd : Nat := 129
abbrev cw : Nat := 131
abbrev ip : Nat := 132
abbrev fw : Nat := 133
abbrev a9 : Nat := 134
abbrev bu : Nat := 135
abbrev zabs : Nat := 136
abbrev rr : Nat := 137
abbrev yi : Nat := 138
abbrev nf : Nat := 139
abbrev je : Nat := 140
abbrev dk : Nat := 141
abbrev dx : Nat := 142
abbrev zabr : Nat := 143
abbrev lc : Nat := 144
abbrev uo : Nat := 3
abbrev fi : Nat := 5
abbrev fq : Nat := 9
abbrev dj : Nat := 27
abbrev mn : Nat := 43
abbrev dp : Nat := 45
abbrev cy : Nat := 68
abbrev j8 : Nat := 70
abbrev qh : Nat := 87
abbrev ah : Nat := 115
abbrev bq : Nat := 124
abbrev fv : Nat := 130
abbrev kq : Nat := 136
def zahu : List au := [⟨⟨(some 6),.mov (.const (Go.Value.bool false)),none⟩,0⟩]
def zaht : List au := [⟨⟨(some 12),.mov (t 0),none⟩,0⟩,
 ⟨⟨(some 13),.call uc [(t 12),(ci 5)],none⟩,0⟩,
 ⟨⟨(some 14),.bin .add (ci 2) (t 13),none⟩,0⟩,
 ⟨⟨(some 7),.mov (t 14),none⟩,0⟩]
def zahs : List au := [⟨⟨(some 15),.mov (t 7),none⟩,0⟩,
 ⟨⟨(some 16),.mov (t 1),none⟩,0⟩,
 ⟨⟨(some 17),.call uc [(t 16),(ci 1099511627776)],none⟩,0⟩,
 ⟨⟨(some 18),.mov (t 2),none⟩,0⟩,
 ⟨⟨(some 19),.call uc [(t 18),(ci 1048576)],none⟩,0⟩,
 ⟨⟨(some 20),.bin .add (ci 1) (t 19),none⟩,0⟩,
 ⟨⟨(some 21),.call zabu [(t 15),(t 17),(t 20)],none⟩,0⟩,
 ⟨⟨(some 8),.box dj 7 (.const (.agg #[(.string ⟨#[]⟩),(.slice none 0 0),(.slice none 0 0),(.slice none 0 0),(.slice none 0 0),(.int .i64 0),(.int .i64 0)])),none⟩,0⟩,
 ⟨⟨none,.store 7 (t 8) (t 21),none⟩,0⟩]
def zahr : List au := [⟨⟨(some 22),.mov (t 7),none⟩,0⟩,
 ⟨⟨(some 23),.bin .mul (t 22) (ci 46),none⟩,0⟩,
 ⟨⟨(some 24),.bin .add (ci 20) (t 23),none⟩,0⟩,
 ⟨⟨(some 25),.bin .add (t 24) (ci 8),none⟩,0⟩,
 ⟨⟨(some 26),.mov (t 7),none⟩,0⟩,
 ⟨⟨(some 27),.bin .mul (t 26) (ci 44),none⟩,0⟩,
 ⟨⟨(some 28),.bin .add (t 25) (t 27),none⟩,0⟩,
 ⟨⟨(some 29),.bin .add (t 28) (ci 8),none⟩,0⟩,
 ⟨⟨(some 30),.bin .add (t 29) (ci 8),none⟩,0⟩,
 ⟨⟨(some 31),.bin .add (t 30) (ci 8),none⟩,0⟩,
 ⟨⟨(some 32),.bin .add (t 31) (ci 8),none⟩,0⟩,
 ⟨⟨(some 33),.bin .add (t 32) (ci 32),none⟩,0⟩,
 ⟨⟨(some 34),.bin .add (t 33) (ci 16),none⟩,0⟩,
 ⟨⟨(some 9),.mov (t 34),none⟩,0⟩]
def zahq : List au := [⟨⟨(some 36),.loadN 7 (t 8),none⟩,0⟩,
 ⟨⟨(some 37),.call ra [(t 36)],none⟩,0⟩,
 ⟨⟨(some 38),.call ub [(t 37)],none⟩,0⟩,
 ⟨⟨(some 35),.mov (t 38),none⟩,0⟩,
 ⟨⟨(some 39),.extract (t 35) 0,none⟩,0⟩,
 ⟨⟨(some 40),.extract (t 35) 1,none⟩,0⟩,
 ⟨⟨(some 10),.box dj 7 (.const (.agg #[(.string ⟨#[]⟩),(.slice none 0 0),(.slice none 0 0),(.slice none 0 0),(.slice none 0 0),(.int .i64 0),(.int .i64 0)])),none⟩,0⟩,
 ⟨⟨none,.store 7 (t 10) (t 39),none⟩,0⟩,
 ⟨⟨(some 11),.mov (t 40),none⟩,0⟩]
def zahp : List au := [⟨⟨(some 41),.loadN 7 (t 8),none⟩,0⟩,
 ⟨⟨(some 42),.call ra [(t 41)],none⟩,0⟩,
 ⟨⟨(some 43),.lenS (t 42),none⟩,0⟩,
 ⟨⟨(some 44),.mov (t 9),none⟩,0⟩,
 ⟨⟨(some 45),.bin .eql (t 43) (t 44),none⟩,0⟩,
 ⟨⟨(some 46),.mov (t 45),none⟩,0⟩,
 ⟨⟨(some 47),.mov (t 11),(some (46,true))⟩,0⟩,
 ⟨⟨(some 48),.bin .eql (t 47) (ci 0),(some (46,true))⟩,0⟩,
 ⟨⟨(some 49),.pick (t 46) (t 48) (.const (Go.Value.bool false)),none⟩,0⟩,
 ⟨⟨(some 50),.mov (t 49),none⟩,0⟩,
 ⟨⟨(some 51),.loadN 7 (t 8),(some (50,true))⟩,0⟩,
 ⟨⟨(some 52),.loadN 7 (t 10),(some (50,true))⟩,0⟩,
 ⟨⟨(some 53),.call yh [(t 51),(t 52)],(some (50,true))⟩,0⟩,
 ⟨⟨(some 54),.pick (t 50) (t 53) (.const (Go.Value.bool false)),none⟩,0⟩,
 ⟨⟨(some 55),.mov (t 54),none⟩,0⟩,
 ⟨⟨(some 56),.call zabt [],(some (55,true))⟩,0⟩,
 ⟨⟨(some 57),.pick (t 55) (t 56) (.const (Go.Value.bool false)),none⟩,0⟩,
 ⟨⟨(some 6),.mov (t 57),none⟩,0⟩]
def zadd : TC := (.seq (.ops zahu) (.clean [0,1,2] (.seq (.ops zaht) (.clean [1,2,7] (.seq (.ops zahs) (.clean [7,8] (.seq (.ops zahr) (.clean [8,9] (.seq (.ops zahq) (.clean [8,9,10,11] (.seq (.ops zahp) (.ret [6]))))))))))))
def zadj : TFn := ⟨58,zadd,[.tmp 6],false⟩
theorem zaar : type_of% (ai @zahu.eq_1 (ai @zaht.eq_1 (ai @zahs.eq_1 (ai @zahr.eq_1 (ai @zahq.eq_1 (ai @zahp.eq_1 (ai @zadd.eq_1 @zadj.eq_1))))))) := ⟨rfl,rfl,rfl,rfl,rfl,rfl,rfl,rfl⟩
theorem zazs : ul Try.prog [] qk = some (58,zadd.erase,[.tmp 6]) := by kernel_rfl
def zas4 : List au := [⟨⟨(some 4),.mov (ci 0),none⟩,0⟩]
def zas3 : List au := [⟨⟨(some 6),.mov (t 0),none⟩,0⟩,
 ⟨⟨(some 7),.mov (t 1),none⟩,0⟩,
 ⟨⟨(some 8),.bin .rem (t 6) (t 7),none⟩,0⟩,
 ⟨⟨(some 5),.mov (t 8),none⟩,0⟩]
def zas2 : List au := [⟨⟨(some 9),.mov (t 5),none⟩,0⟩,
 ⟨⟨(some 10),.bin .lss (t 9) (ci 0),none⟩,0⟩]
def zas1 : List au := [⟨⟨(some 11),.mov (t 5),none⟩,0⟩,
 ⟨⟨(some 12),.mov (t 1),none⟩,0⟩,
 ⟨⟨(some 13),.bin .add (t 11) (t 12),none⟩,0⟩,
 ⟨⟨(some 5),.mov (t 13),none⟩,0⟩]
def zas0 : List au := [⟨⟨(some 14),.mov (t 5),none⟩,0⟩,
 ⟨⟨(some 4),.mov (t 14),none⟩,0⟩]
def zakn : TC := (.seq (.ops zas4) (.clean [0,1] (.seq (.ops zas3) (.clean [1,5] (.seq (.seq (.ops zas2) (.clean [1,5,10] (.cond (t 10) (.ops zas1) .skip))) (.clean [5] (.seq (.ops zas0) (.ret [4]))))))))
def zalx : TFn := ⟨15,zakn,[.tmp 4],false⟩
theorem zaz0 : type_of% (ai @zas4.eq_1 (ai @zas3.eq_1 (ai @zas2.eq_1 (ai @zas1.eq_1 (ai @zas0.eq_1 (ai @zakn.eq_1 @zalx.eq_1)))))) := ⟨rfl,rfl,rfl,rfl,rfl,rfl,rfl⟩
theorem zbca : ul Try.prog [] uc = some (15,zakn.erase,[.tmp 4]) := by kernel_rfl
def zav1 : List au := [⟨⟨(some 6),.box dj 7 (.const (.agg #[(.string ⟨#[]⟩),(.slice none 0 0),(.slice none 0 0),(.slice none 0 0),(.slice none 0 0),(.int .i64 0),(.int .i64 0)])),none⟩,0⟩]
def zav0 : List au := [⟨⟨(some 9),.mov (t 0),none⟩,0⟩,
 ⟨⟨(some 10),.call zaex [(t 9),(ci 0),(ci 2)],none⟩,0⟩,
 ⟨⟨(some 11),.buildSl uo 1 1 [(.int .i64 0)] [(0,1,(ci 0))],none⟩,0⟩,
 ⟨⟨(some 12),.mov (t 1),none⟩,0⟩,
 ⟨⟨(some 13),.mov (t 2),none⟩,0⟩,
 ⟨⟨(some 14),.build [(.string ⟨#[]⟩),(.slice none 0 0),(.slice none 0 0),(.slice none 0 0),(.slice none 0 0),(.int .i64 0),(.int .i64 0)] [(0,1,(.const (Go.Value.string ⟨#[114,105,110,103]⟩))),(2,1,(t 10)),(3,1,(t 11)),(5,1,(t 12)),(6,1,(t 13))],none⟩,0⟩,
 ⟨⟨(some 7),.box dj 7 (.const (.agg #[(.string ⟨#[]⟩),(.slice none 0 0),(.slice none 0 0),(.slice none 0 0),(.slice none 0 0),(.int .i64 0),(.int .i64 0)])),none⟩,0⟩,
 ⟨⟨none,.store 7 (t 7) (t 14),none⟩,0⟩]
def zavz : List au := [⟨⟨(some 8),.mov (ci 0),none⟩,0⟩]
def zavy : List au := [⟨⟨(some 15),.mov (t 8),none⟩,0⟩,
 ⟨⟨(some 16),.mov (t 0),none⟩,0⟩,
 ⟨⟨(some 17),.bin .lss (t 15) (t 16),none⟩,0⟩]
def zavw : List au := [⟨⟨(some 20),.fieldAddr 1 (t 7),none⟩,0⟩,
 ⟨⟨(some 21),.load1 (t 20),none⟩,0⟩,
 ⟨⟨(some 22),.mov (t 8),none⟩,0⟩,
 ⟨⟨(some 23),.call uq [(t 22)],none⟩,0⟩,
 ⟨⟨(some 24),.build [(.string ⟨#[]⟩),(.slice none 0 0)] [(0,1,(t 23))],none⟩,0⟩,
 ⟨⟨(some 25),.buildSl dp 2 1 [(.string ⟨#[]⟩),(.slice none 0 0)] [(0,2,(t 24))],none⟩,0⟩,
 ⟨⟨(some 26),.append dp 2 40 (t 21) (t 25),none⟩,1⟩,
 ⟨⟨(some 27),.fieldAddr 1 (t 7),none⟩,9⟩,
 ⟨⟨none,.store 1 (t 27) (t 26),none⟩,0⟩]
def zavx : List au := [⟨⟨(some 18),.mov (t 8),none⟩,0⟩,
 ⟨⟨(some 19),.bin .add (t 18) (ci 1),none⟩,0⟩,
 ⟨⟨(some 8),.mov (t 19),none⟩,0⟩]
def zac2 : TC := (.seq (.seq (.ops zavy) (.clean [0,6,7,8,17] (.cond (t 17) .skip (.exit 0)))) (.clean [0,6,7,8] (.seq (.block 1 [0,6,7,8] (.draw (pl zavw))) (.clean [0,6,7,8] (.ops zavx)))))
def zavv : List au := [⟨⟨(some 28),.loadN 7 (t 7),none⟩,0⟩,
 ⟨⟨(some 29),.call zafw [(t 28)],none⟩,0⟩,
 ⟨⟨none,.store 7 (t 6) (t 29),none⟩,9⟩]
def zapf : TC := (.seq (.ops zav1) (.clean [0,1,2,6] (.seq (.ops zav0) (.clean [0,6,7] (.seq (.seq (.ops zavz) (.block 0 [6,7] (.clean [0,6,7,8] (.loop [0,6,7,8] zac2)))) (.clean [6,7] (.seq (.ops zavv) (.ret [6]))))))))
def zapz : TFn := ⟨30,zapf,[.cellN 6 7],true⟩
theorem zamn : type_of% (ai @zav1.eq_1 (ai @zav0.eq_1 (ai @zavz.eq_1 (ai @zavy.eq_1 (ai @zavw.eq_1 (ai @zavx.eq_1 (ai @zavv.eq_1 (ai @zapf.eq_1 @zapz.eq_1)))))))) := ⟨rfl,rfl,rfl,rfl,rfl,rfl,rfl,rfl,rfl⟩
theorem c_L00_Ring : ul Try.prog [(5,⟨[0,1,2,3,4,5,6,7,8],[0,1,0,4,12,28,63,127,255],[],[]⟩)] zabu = some (30,zapf.erase,[.cellN 6 7]) := by kernel_rfl
def zavs : List au := [⟨⟨(some 6),.mov (.const (Go.Value.slice none 0 0)),none⟩,0⟩]
def zavr : List au := [⟨⟨(some 7),.mov (.const (Go.Value.slice none 0 0)),none⟩,0⟩]
def zavq : List au := [⟨⟨(some 8),.mov (ci 0),none⟩,0⟩]
def zavp : List au := [⟨⟨(some 12),.mov (t 8),none⟩,0⟩,
 ⟨⟨(some 13),.mov (t 0),none⟩,0⟩,
 ⟨⟨(some 14),.bin .lss (t 12) (t 13),none⟩,0⟩]
def zavn : List au := [⟨⟨(some 17),.mov (t 7),none⟩,0⟩,
 ⟨⟨(some 18),.mov (t 8),none⟩,0⟩,
 ⟨⟨(some 19),.mov (t 8),none⟩,0⟩,
 ⟨⟨(some 20),.bin .add (t 19) (ci 1),none⟩,0⟩,
 ⟨⟨(some 21),.mov (t 0),none⟩,0⟩,
 ⟨⟨(some 22),.bin .rem (t 20) (t 21),none⟩,0⟩,
 ⟨⟨(some 23),.build [(.int .i64 0),(.int .i64 0),(.int .i64 0),(.string ⟨#[]⟩),(.int .i64 0)] [(0,1,(t 18)),(1,1,(t 22))],none⟩,0⟩,
 ⟨⟨(some 24),.buildSl mn 5 1 [(.int .i64 0),(.int .i64 0),(.int .i64 0),(.string ⟨#[]⟩),(.int .i64 0)] [(0,5,(t 23))],none⟩,0⟩,
 ⟨⟨(some 25),.append mn 5 48 (t 17) (t 24),none⟩,1⟩,
 ⟨⟨(some 7),.mov (t 25),none⟩,0⟩]
def zavo : List au := [⟨⟨(some 15),.mov (t 8),none⟩,0⟩,
 ⟨⟨(some 16),.bin .add (t 15) (ci 1),none⟩,0⟩,
 ⟨⟨(some 8),.mov (t 16),none⟩,0⟩]
def zi : TC := (.seq (.seq (.ops zavp) (.clean [0,1,2,7,8,14] (.cond (t 14) .skip (.exit 0)))) (.clean [0,1,2,7,8] (.seq (.block 1 [0,1,2,7,8] (.ops zavn)) (.clean [0,1,2,7,8] (.ops zavo)))))
def zavm : List au := [⟨⟨(some 9),.mov (ci 0),none⟩,0⟩]
def zavl : List au := [⟨⟨(some 26),.mov (t 9),none⟩,0⟩,
 ⟨⟨(some 27),.mov (t 0),none⟩,0⟩,
 ⟨⟨(some 28),.bin .lss (t 26) (t 27),none⟩,0⟩]
def zavj : List au := [⟨⟨(some 10),.mov (ci 0),none⟩,0⟩]
def zasz : List au := [⟨⟨(some 31),.mov (t 10),none⟩,0⟩,
 ⟨⟨(some 32),.mov (t 0),none⟩,0⟩,
 ⟨⟨(some 33),.bin .lss (t 31) (t 32),none⟩,0⟩]
def zasx : List au := [⟨⟨(some 36),.mov (t 9),none⟩,0⟩,
 ⟨⟨(some 37),.mov (t 10),none⟩,0⟩,
 ⟨⟨(some 38),.bin .eql (t 36) (t 37),none⟩,0⟩,
 ⟨⟨(some 39),.mov (t 38),none⟩,0⟩,
 ⟨⟨(some 40),.mov (t 10),(some (39,false))⟩,0⟩,
 ⟨⟨(some 41),.mov (t 9),(some (39,false))⟩,0⟩,
 ⟨⟨(some 42),.bin .add (t 41) (ci 1),(some (39,false))⟩,0⟩,
 ⟨⟨(some 43),.mov (t 0),(some (39,false))⟩,0⟩,
 ⟨⟨(some 44),.bin .rem (t 42) (t 43),(some (39,false))⟩,0⟩,
 ⟨⟨(some 45),.bin .eql (t 40) (t 44),(some (39,false))⟩,0⟩,
 ⟨⟨(some 46),.pick (t 39) (.const (Go.Value.bool true)) (t 45),none⟩,0⟩]
def zasw : List au := [⟨⟨(some 47),.mov (t 1),none⟩,0⟩,
 ⟨⟨(some 48),.bin .rem (t 47) (ci 2),none⟩,0⟩,
 ⟨⟨(some 49),.bin .eql (t 48) (ci 1),none⟩,0⟩,
 ⟨⟨(some 50),.mov (t 49),none⟩,0⟩,
 ⟨⟨(some 51),.mov (t 7),(some (50,true))⟩,0⟩,
 ⟨⟨(some 52),.lenL (t 51),(some (50,true))⟩,0⟩,
 ⟨⟨(some 53),.bin .lss (t 52) (ci 8),(some (50,true))⟩,0⟩,
 ⟨⟨(some 54),.pick (t 50) (t 53) (.const (Go.Value.bool false)),none⟩,0⟩]
def zasv : List au := [⟨⟨(some 55),.mov (t 7),none⟩,0⟩,
 ⟨⟨(some 56),.mov (t 9),none⟩,0⟩,
 ⟨⟨(some 57),.mov (t 10),none⟩,0⟩,
 ⟨⟨(some 58),.build [(.int .i64 0),(.int .i64 0),(.int .i64 0),(.string ⟨#[]⟩),(.int .i64 0)] [(0,1,(t 56)),(1,1,(t 57))],none⟩,0⟩,
 ⟨⟨(some 59),.buildSl mn 5 1 [(.int .i64 0),(.int .i64 0),(.int .i64 0),(.string ⟨#[]⟩),(.int .i64 0)] [(0,5,(t 58))],none⟩,0⟩,
 ⟨⟨(some 60),.append mn 5 48 (t 55) (t 59),none⟩,1⟩,
 ⟨⟨(some 7),.mov (t 60),none⟩,0⟩]
def zasu : List au := [⟨⟨(some 61),.mov (t 1),none⟩,0⟩,
 ⟨⟨(some 62),.bin .quo (t 61) (ci 2),none⟩,0⟩,
 ⟨⟨(some 1),.mov (t 62),none⟩,0⟩]
def zasy : List au := [⟨⟨(some 34),.mov (t 10),none⟩,0⟩,
 ⟨⟨(some 35),.bin .add (t 34) (ci 1),none⟩,0⟩,
 ⟨⟨(some 10),.mov (t 35),none⟩,0⟩]
def ji : TC := (.seq (.seq (.ops zasz) (.clean [0,1,2,7,9,10,33] (.cond (t 33) .skip (.exit 4)))) (.clean [0,1,2,7,9,10] (.seq (.block 5 [0,1,2,7,9,10] (.seq (.seq (.ops zasx) (.clean [0,1,2,7,9,10,46] (.cond (t 46) (.exit 5) .skip))) (.clean [0,1,2,7,9,10] (.seq (.seq (.ops zasw) (.clean [0,1,2,7,9,10,54] (.cond (t 54) (.ops zasv) .skip))) (.clean [0,1,2,7,9,10] (.ops zasu)))))) (.clean [0,1,2,7,9,10] (.ops zasy)))))
def zavk : List au := [⟨⟨(some 29),.mov (t 9),none⟩,0⟩,
 ⟨⟨(some 30),.bin .add (t 29) (ci 1),none⟩,0⟩,
 ⟨⟨(some 9),.mov (t 30),none⟩,0⟩]
def zh : TC := (.seq (.seq (.ops zavl) (.clean [0,1,2,7,9,28] (.cond (t 28) .skip (.exit 2)))) (.clean [0,1,2,7,9] (.seq (.block 3 [0,1,2,7,9] (.seq (.ops zavj) (.block 4 [0,1,2,7,9] (.clean [0,1,2,7,9,10] (.loop [0,1,2,7,9,10] ji))))) (.clean [0,1,2,7,9] (.ops zavk)))))
def zast : List au := [⟨⟨(some 11),.mov (ci 0),none⟩,0⟩]
def zass : List au := [⟨⟨(some 63),.mov (t 11),none⟩,0⟩,
 ⟨⟨(some 64),.mov (t 7),none⟩,0⟩,
 ⟨⟨(some 65),.lenL (t 64),none⟩,0⟩,
 ⟨⟨(some 66),.bin .lss (t 63) (t 65),none⟩,0⟩]
def zasq : List au := [⟨⟨(some 69),.mov (t 7),none⟩,0⟩,
 ⟨⟨(some 70),.mov (t 11),none⟩,0⟩,
 ⟨⟨(some 71),.mov (t 11),none⟩,0⟩,
 ⟨⟨(some 72),.mov (t 2),none⟩,0⟩,
 ⟨⟨(some 73),.bin .add (t 71) (t 72),none⟩,0⟩,
 ⟨⟨(some 74),.mov (t 2),none⟩,0⟩,
 ⟨⟨(some 75),.bin .rem (t 74) (ci 3),none⟩,0⟩,
 ⟨⟨(some 76),.bin .add (ci 1) (t 75),none⟩,0⟩,
 ⟨⟨(some 77),.bin .rem (t 73) (t 76),none⟩,0⟩,
 ⟨⟨(some 78),.indexSl 5 (t 69) (t 70),none⟩,0⟩,
 ⟨⟨(some 79),.fieldAddr 2 (t 78),none⟩,0⟩,
 ⟨⟨none,.store 1 (t 79) (t 77),none⟩,0⟩]
def zasp : List au := [⟨⟨(some 80),.mov (t 7),none⟩,0⟩,
 ⟨⟨(some 81),.mov (t 11),none⟩,0⟩,
 ⟨⟨(some 82),.build [(.string ⟨#[]⟩),(.string ⟨#[]⟩)] [(0,1,(.const (Go.Value.string ⟨#[103,111,108,100]⟩))),(1,1,(.const (Go.Value.string ⟨#[115,97,108,116]⟩)))],none⟩,0⟩,
 ⟨⟨(some 83),.mov (t 11),none⟩,0⟩,
 ⟨⟨(some 84),.mov (t 1),none⟩,0⟩,
 ⟨⟨(some 85),.bin .add (t 83) (t 84),none⟩,0⟩,
 ⟨⟨(some 86),.bin .rem (t 85) (ci 2),none⟩,0⟩,
 ⟨⟨(some 87),.indexAgg 2 (t 82) (t 86),none⟩,0⟩,
 ⟨⟨(some 88),.indexSl 5 (t 80) (t 81),none⟩,0⟩,
 ⟨⟨(some 89),.fieldAddr 3 (t 88),none⟩,0⟩,
 ⟨⟨none,.store 1 (t 89) (t 87),none⟩,0⟩]
def zaso : List au := [⟨⟨(some 90),.mov (t 7),none⟩,0⟩,
 ⟨⟨(some 91),.mov (t 11),none⟩,0⟩,
 ⟨⟨(some 92),.mov (t 11),none⟩,0⟩,
 ⟨⟨(some 93),.bin .mul (ci 7) (t 92),none⟩,0⟩,
 ⟨⟨(some 94),.mov (t 2),none⟩,0⟩,
 ⟨⟨(some 95),.bin .add (t 93) (t 94),none⟩,0⟩,
 ⟨⟨(some 96),.bin .rem (t 95) (ci 20),none⟩,0⟩,
 ⟨⟨(some 97),.bin .add (ci 1) (t 96),none⟩,0⟩,
 ⟨⟨(some 98),.indexSl 5 (t 90) (t 91),none⟩,0⟩,
 ⟨⟨(some 99),.fieldAddr 4 (t 98),none⟩,0⟩,
 ⟨⟨none,.store 1 (t 99) (t 97),none⟩,0⟩]
def zasr : List au := [⟨⟨(some 67),.mov (t 11),none⟩,0⟩,
 ⟨⟨(some 68),.bin .add (t 67) (ci 1),none⟩,0⟩,
 ⟨⟨(some 11),.mov (t 68),none⟩,0⟩]
def zac1 : TC := (.seq (.seq (.ops zass) (.clean [1,2,7,11,66] (.cond (t 66) .skip (.exit 6)))) (.clean [1,2,7,11] (.seq (.block 7 [1,2,7,11] (.seq (.ops zasq) (.clean [1,2,7,11] (.seq (.ops zasp) (.clean [1,2,7,11] (.ops zaso)))))) (.clean [1,2,7,11] (.ops zasr)))))
def zasn : List au := [⟨⟨(some 100),.mov (t 7),none⟩,0⟩,
 ⟨⟨(some 6),.mov (t 100),none⟩,0⟩]
def zapd : TC := (.seq (.ops zavs) (.clean [0,1,2] (.seq (.ops zavr) (.clean [0,1,2,7] (.seq (.seq (.ops zavq) (.block 0 [0,1,2,7] (.clean [0,1,2,7,8] (.loop [0,1,2,7,8] zi)))) (.clean [0,1,2,7] (.seq (.seq (.ops zavm) (.block 2 [1,2,7] (.clean [0,1,2,7,9] (.loop [0,1,2,7,9] zh)))) (.clean [1,2,7] (.seq (.seq (.ops zast) (.block 6 [7] (.clean [1,2,7,11] (.loop [1,2,7,11] zac1)))) (.clean [7] (.seq (.ops zasn) (.ret [6]))))))))))))
def zapx : TFn := ⟨101,zapd,[.tmp 6],true⟩
theorem fh : type_of% (ai @zavs.eq_1 (ai @zavr.eq_1 (ai @zavq.eq_1 (ai @zavp.eq_1 (ai @zavn.eq_1 (ai @zavo.eq_1 (ai @zavm.eq_1 (ai @zavl.eq_1 (ai @zavj.eq_1 (ai @zasz.eq_1 (ai @zasx.eq_1 (ai @zasw.eq_1 (ai @zasv.eq_1 (ai @zasu.eq_1 (ai @zasy.eq_1 (ai @zavk.eq_1 (ai @zast.eq_1 (ai @zass.eq_1 (ai @zasq.eq_1 (ai @zasp.eq_1 (ai @zaso.eq_1 (ai @zasr.eq_1 (ai @zasn.eq_1 (ai @zapd.eq_1 @zapx.eq_1)))))))))))))))))))))))) := ⟨rfl,rfl,rfl,rfl,rfl,rfl,rfl,rfl,rfl,rfl,rfl,rfl,rfl,rfl,rfl,rfl,rfl,rfl,rfl,rfl,rfl,rfl,rfl,rfl,rfl⟩
theorem c_L00_arcs : ul Try.prog [] zaex = some (101,zapd.erase,[.tmp 6]) := by kernel_rfl
def zalh : List au := [⟨⟨(some 2),.mov (.const (Go.Value.string ⟨#[]⟩)),none⟩,0⟩]
def zalg : List au := [⟨⟨(some 3),.mov (t 0),none⟩,0⟩,
 ⟨⟨(some 4),.call m7 [(t 3)],none⟩,0⟩,
 ⟨⟨(some 5),.bin .add (.const (Go.Value.string ⟨#[112,97,114,116,121]⟩)) (t 4),none⟩,0⟩,
 ⟨⟨(some 2),.mov (t 5),none⟩,0⟩]
def zagl : TC := (.seq (.ops zalh) (.clean [0] (.seq (.ops zalg) (.ret [2]))))
def zagu : TFn := ⟨6,zagl,[.tmp 2],false⟩
theorem za4z : type_of% (ai @zalh.eq_1 (ai @zalg.eq_1 (ai @zagl.eq_1 @zagu.eq_1))) := ⟨rfl,rfl,rfl,rfl⟩
theorem za4t : ul Try.prog [] uq = some (6,zagl.erase,[.tmp 2]) := by kernel_rfl
def zao1 : List au := [⟨⟨(some 2),.mov (.const (Go.Value.string ⟨#[]⟩)),none⟩,0⟩]
def zao0 : List au := [⟨⟨(some 5),.mov (t 0),none⟩,0⟩,
 ⟨⟨(some 6),.bin .leq (t 5) (ci (-10)),none⟩,0⟩,
 ⟨⟨(some 4),.mov (t 6),none⟩,0⟩]
def zaoz : List au := [⟨⟨(some 7),.mov (t 0),none⟩,0⟩,
 ⟨⟨(some 8),.bin .rem (t 7) (ci 10),none⟩,0⟩,
 ⟨⟨(some 9),.un .neg (t 8),none⟩,0⟩,
 ⟨⟨(some 3),.mov (t 9),none⟩,0⟩]
def zaoy : List au := [⟨⟨(some 10),.mov (t 0),none⟩,0⟩,
 ⟨⟨(some 11),.bin .quo (t 10) (ci 10),none⟩,0⟩,
 ⟨⟨(some 13),.mov (t 3),none⟩,0⟩,
 ⟨⟨(some 14),.mov (t 3),none⟩,0⟩,
 ⟨⟨(some 15),.bin .add (t 14) (ci 1),none⟩,0⟩,
 ⟨⟨(some 16),.sliceStr (.const (Go.Value.string ⟨#[48,49,50,51,52,53,54,55,56,57]⟩)) (some (t 13)) (some (t 15)),none⟩,0⟩,
 ⟨⟨(some 12),.call m7 [(t 11)],none⟩,0⟩,
 ⟨⟨(some 17),.bin .add (t 12) (t 16),none⟩,0⟩,
 ⟨⟨(some 2),.mov (t 17),none⟩,0⟩]
def zaox : List au := [⟨⟨(some 19),.mov (t 0),none⟩,0⟩,
 ⟨⟨(some 20),.bin .lss (t 19) (ci 0),none⟩,0⟩,
 ⟨⟨(some 18),.mov (t 20),none⟩,0⟩]
def zaow : List au := [⟨⟨(some 21),.mov (t 0),none⟩,0⟩,
 ⟨⟨(some 22),.un .neg (t 21),none⟩,0⟩,
 ⟨⟨(some 23),.mov (t 0),none⟩,0⟩,
 ⟨⟨(some 24),.un .neg (t 23),none⟩,0⟩,
 ⟨⟨(some 25),.bin .add (t 24) (ci 1),none⟩,0⟩,
 ⟨⟨(some 26),.sliceStr (.const (Go.Value.string ⟨#[48,49,50,51,52,53,54,55,56,57]⟩)) (some (t 22)) (some (t 25)),none⟩,0⟩,
 ⟨⟨(some 27),.bin .add (.const (Go.Value.string ⟨#[45]⟩)) (t 26),none⟩,0⟩,
 ⟨⟨(some 2),.mov (t 27),none⟩,0⟩]
def zaov : List au := [⟨⟨(some 29),.mov (t 0),none⟩,0⟩,
 ⟨⟨(some 30),.bin .lss (t 29) (ci 10),none⟩,0⟩,
 ⟨⟨(some 28),.mov (t 30),none⟩,0⟩]
def zaou : List au := [⟨⟨(some 31),.mov (t 0),none⟩,0⟩,
 ⟨⟨(some 32),.mov (t 0),none⟩,0⟩,
 ⟨⟨(some 33),.bin .add (t 32) (ci 1),none⟩,0⟩,
 ⟨⟨(some 34),.sliceStr (.const (Go.Value.string ⟨#[48,49,50,51,52,53,54,55,56,57]⟩)) (some (t 31)) (some (t 33)),none⟩,0⟩,
 ⟨⟨(some 2),.mov (t 34),none⟩,0⟩]
def zaot : List au := [⟨⟨(some 35),.mov (t 0),none⟩,0⟩,
 ⟨⟨(some 36),.bin .quo (t 35) (ci 10),none⟩,0⟩,
 ⟨⟨(some 38),.mov (t 0),none⟩,0⟩,
 ⟨⟨(some 39),.bin .rem (t 38) (ci 10),none⟩,0⟩,
 ⟨⟨(some 40),.mov (t 0),none⟩,0⟩,
 ⟨⟨(some 41),.bin .rem (t 40) (ci 10),none⟩,0⟩,
 ⟨⟨(some 42),.bin .add (t 41) (ci 1),none⟩,0⟩,
 ⟨⟨(some 43),.sliceStr (.const (Go.Value.string ⟨#[48,49,50,51,52,53,54,55,56,57]⟩)) (some (t 39)) (some (t 42)),none⟩,0⟩,
 ⟨⟨(some 37),.call m7 [(t 36)],none⟩,0⟩,
 ⟨⟨(some 44),.bin .add (t 37) (t 43),none⟩,0⟩,
 ⟨⟨(some 2),.mov (t 44),none⟩,0⟩]
def zail : TC := (.seq (.ops zao1) (.clean [0] (.seq (.block 0 [0] (.seq (.ops zao0) (.clean [0,4] (.cond (t 4) (.seq (.ops zaoz) (.clean [0,3] (.seq (.draw (pl zaoy)) (.ret [2])))) (.seq (.ops zaox) (.clean [0,18] (.cond (t 18) (.seq (.ops zaow) (.ret [2])) (.seq (.ops zaov) (.clean [0,28] (.cond (t 28) (.seq (.ops zaou) (.ret [2])) .skip)))))))))) (.clean [0] (.seq (.draw (pl zaot)) (.ret [2]))))))
def zai6 : TFn := ⟨45,zail,[.tmp 2],false⟩
theorem za93 : type_of% (ai @zao1.eq_1 (ai @zao0.eq_1 (ai @zaoz.eq_1 (ai @zaoy.eq_1 (ai @zaox.eq_1 (ai @zaow.eq_1 (ai @zaov.eq_1 (ai @zaou.eq_1 (ai @zaot.eq_1 (ai @zail.eq_1 @zai6.eq_1)))))))))) := ⟨rfl,rfl,rfl,rfl,rfl,rfl,rfl,rfl,rfl,rfl,rfl⟩
theorem za9p : ul Try.prog [(3,⟨[0,1,3,4,5,6,2,7,8],[0,1,3,0,0,16,56,127,255],[],[]⟩),(8,⟨[0,1,3,4,5,6,7,8,2,9,10],[0,1,3,0,8,0,32,96,248,511,1023],[],[]⟩)] m7 = some (45,zail.erase,[.tmp 2]) := by kernel_rfl
def zasm : List au := [⟨⟨(some 1),.box dj 7 (t 0),none⟩,0⟩,
 ⟨⟨(some 2),.box dj 7 (.const (.agg #[(.string ⟨#[]⟩),(.slice none 0 0),(.slice none 0 0),(.slice none 0 0),(.slice none 0 0),(.int .i64 0),(.int .i64 0)])),none⟩,0⟩]
def zasl : List au := [⟨⟨(some 6),.fieldAddr 4 (t 1),none⟩,0⟩,
 ⟨⟨none,.store 1 (t 6) (.const (Go.Value.slice none 0 0)),none⟩,0⟩]
def zask : List au := [⟨⟨(some 3),.mov (ci 0),none⟩,0⟩]
def zasj : List au := [⟨⟨(some 7),.mov (t 3),none⟩,0⟩,
 ⟨⟨(some 8),.fieldAddr 3 (t 1),none⟩,0⟩,
 ⟨⟨(some 9),.load1 (t 8),none⟩,0⟩,
 ⟨⟨(some 10),.lenL (t 9),none⟩,0⟩,
 ⟨⟨(some 11),.bin .lss (t 7) (t 10),none⟩,0⟩]
def zash : List au := [⟨⟨(some 14),.fieldAddr 4 (t 1),none⟩,0⟩,
 ⟨⟨(some 15),.load1 (t 14),none⟩,2⟩,
 ⟨⟨(some 16),.mov (t 3),none⟩,0⟩,
 ⟨⟨(some 17),.call zq [(t 16)],none⟩,0⟩,
 ⟨⟨(some 18),.call zafv [(t 17)],none⟩,0⟩,
 ⟨⟨(some 19),.buildSl fq 1 1 [(.string ⟨#[]⟩)] [(0,1,(t 18))],none⟩,0⟩,
 ⟨⟨(some 20),.append fq 1 16 (t 15) (t 19),none⟩,0⟩,
 ⟨⟨(some 21),.fieldAddr 4 (t 1),none⟩,0⟩,
 ⟨⟨none,.store 1 (t 21) (t 20),none⟩,2⟩]
def zasi : List au := [⟨⟨(some 12),.mov (t 3),none⟩,0⟩,
 ⟨⟨(some 13),.bin .add (t 12) (ci 1),none⟩,0⟩,
 ⟨⟨(some 3),.mov (t 13),none⟩,0⟩]
def zaam : TC := (.seq (.seq (.ops zasj) (.clean [1,2,3,11] (.cond (t 11) .skip (.exit 0)))) (.clean [1,2,3] (.seq (.block 1 [1,2,3] (.draw (pl zash))) (.clean [1,2,3] (.ops zasi)))))
def zasg : List au := [⟨⟨(some 4),.mov (ci 0),none⟩,0⟩]
def zasf : List au := [⟨⟨(some 22),.mov (t 4),none⟩,0⟩,
 ⟨⟨(some 23),.fieldAddr 1 (t 1),none⟩,0⟩,
 ⟨⟨(some 24),.load1 (t 23),none⟩,0⟩,
 ⟨⟨(some 25),.lenL (t 24),none⟩,0⟩,
 ⟨⟨(some 26),.bin .lss (t 22) (t 25),none⟩,0⟩]
def zasd : List au := [⟨⟨(some 29),.fieldAddr 1 (t 1),none⟩,0⟩,
 ⟨⟨(some 30),.load1 (t 29),none⟩,0⟩,
 ⟨⟨(some 31),.mov (t 4),none⟩,0⟩,
 ⟨⟨(some 32),.indexSl 2 (t 30) (t 31),none⟩,0⟩,
 ⟨⟨(some 33),.fieldAddr 1 (t 32),none⟩,0⟩,
 ⟨⟨none,.store 1 (t 33) (.const (Go.Value.slice none 0 0)),none⟩,0⟩]
def zaoq : List au := [⟨⟨(some 5),.mov (ci 0),none⟩,0⟩]
def zaop : List au := [⟨⟨(some 34),.mov (t 5),none⟩,0⟩,
 ⟨⟨(some 35),.fieldAddr 3 (t 1),none⟩,0⟩,
 ⟨⟨(some 36),.load1 (t 35),none⟩,0⟩,
 ⟨⟨(some 37),.lenL (t 36),none⟩,0⟩,
 ⟨⟨(some 38),.bin .lss (t 34) (t 37),none⟩,0⟩]
def zaon : List (au × List Nat) := [(⟨⟨(some 41),.fieldAddr 1 (t 1),none⟩,0⟩,[]),
 (⟨⟨(some 42),.load1 (t 41),none⟩,0⟩,[]),
 (⟨⟨(some 43),.mov (t 4),none⟩,0⟩,[]),
 (⟨⟨(some 44),.fieldAddr 1 (t 1),none⟩,0⟩,[]),
 (⟨⟨(some 45),.load1 (t 44),none⟩,0⟩,[]),
 (⟨⟨(some 46),.mov (t 4),none⟩,0⟩,[]),
 (⟨⟨(some 47),.indexSl 2 (t 45) (t 46),none⟩,0⟩,[]),
 (⟨⟨(some 48),.fieldAddr 1 (t 47),none⟩,0⟩,[]),
 (⟨⟨(some 49),.load1 (t 48),none⟩,2⟩,[]),
 (⟨⟨(some 50),.mov (t 4),none⟩,0⟩,[]),
 (⟨⟨(some 52),.mov (t 5),none⟩,0⟩,[]),
 (⟨⟨(some 51),.call zaey [(t 50)],none⟩,0⟩,[]),
 (⟨⟨(some 53),.call zp [(t 51),(t 52)],none⟩,0⟩,[]),
 (⟨⟨(some 54),.buildSl fq 1 1 [(.string ⟨#[]⟩)] [(0,1,(t 53))],none⟩,0⟩,[]),
 (⟨⟨(some 55),.append fq 1 16 (t 49) (t 54),none⟩,0⟩,[1]),
 (⟨⟨(some 56),.indexSl 2 (t 42) (t 43),none⟩,0⟩,[]),
 (⟨⟨(some 57),.fieldAddr 1 (t 56),none⟩,0⟩,[]),
 (⟨⟨none,.store 1 (t 57) (t 55),none⟩,2⟩,[])]
def zaoo : List au := [⟨⟨(some 39),.mov (t 5),none⟩,0⟩,
 ⟨⟨(some 40),.bin .add (t 39) (ci 1),none⟩,0⟩,
 ⟨⟨(some 5),.mov (t 40),none⟩,0⟩]
def zaal : TC := (.seq (.seq (.ops zaop) (.clean [1,2,4,5,38] (.cond (t 38) .skip (.exit 4)))) (.clean [1,2,4,5] (.seq (.block 5 [1,2,4,5] (.draw zaon)) (.clean [1,2,4,5] (.ops zaoo)))))
def zase : List au := [⟨⟨(some 27),.mov (t 4),none⟩,0⟩,
 ⟨⟨(some 28),.bin .add (t 27) (ci 1),none⟩,0⟩,
 ⟨⟨(some 4),.mov (t 28),none⟩,0⟩]
def zaei : TC := (.seq (.seq (.ops zasf) (.clean [1,2,4,26] (.cond (t 26) .skip (.exit 2)))) (.clean [1,2,4] (.seq (.block 3 [1,2,4] (.seq (.ops zasd) (.clean [1,2,4] (.seq (.ops zaoq) (.block 4 [1,2,4] (.clean [1,2,4,5] (.loop [1,2,4,5] zaal))))))) (.clean [1,2,4] (.ops zase)))))
def zaom : List au := [⟨⟨(some 58),.loadN 7 (t 1),none⟩,0⟩,
 ⟨⟨none,.store 7 (t 2) (t 58),none⟩,0⟩]
def zakm : TC := (.seq (.ops zasm) (.clean [1,2] (.seq (.ops zasl) (.clean [1,2] (.seq (.seq (.ops zask) (.block 0 [1,2] (.clean [1,2,3] (.loop [1,2,3] zaam)))) (.clean [1,2] (.seq (.seq (.ops zasg) (.block 2 [1,2] (.clean [1,2,4] (.loop [1,2,4] zaei)))) (.clean [1,2] (.seq (.ops zaom) (.ret [2]))))))))))
def zalw : TFn := ⟨59,zakm,[.cellN 2 7],false⟩
theorem rp : type_of% (ai @zasm.eq_1 (ai @zasl.eq_1 (ai @zask.eq_1 (ai @zasj.eq_1 (ai @zash.eq_1 (ai @zasi.eq_1 (ai @zasg.eq_1 (ai @zasf.eq_1 (ai @zasd.eq_1 (ai @zaoq.eq_1 (ai @zaop.eq_1 (ai @zaon.eq_1 (ai @zaoo.eq_1 (ai @zase.eq_1 (ai @zaom.eq_1 (ai @zakm.eq_1 @zalw.eq_1)))))))))))))))) := ⟨rfl,rfl,rfl,rfl,rfl,rfl,rfl,rfl,rfl,rfl,rfl,rfl,rfl,rfl,rfl,rfl,rfl⟩
theorem zbb9 : ul Try.prog [(5,⟨[0,1,2,3,4,5,6,7,8],[0,1,0,4,12,28,63,127,255],[],[]⟩),(13,⟨[0,1,2,3,4,5,6,7,8,9,11,10,12,13,14,15,16,17],[0,1,0,0,8,0,56,120,248,0,512,0,3584,7680,16376,32767,65535,131071],[],[(14,[1])]⟩)] zafw = some (59,zakm.erase,[.cellN 2 7]) := by kernel_rfl
def zayw : List au := [⟨⟨(some 2),.mov (.const (Go.Value.string ⟨#[]⟩)),none⟩,0⟩]
def zayv : List au := [⟨⟨(some 11),.mov (t 0),none⟩,0⟩,
 ⟨⟨(some 12),.toBytes fi (t 11),none⟩,2⟩,
 ⟨⟨(some 13),.buildSl fi 1 1 [(.int .u8 0)] [(0,1,(.const (Go.Value.int Go.IntKind.u8 128)))],none⟩,0⟩,
 ⟨⟨(some 14),.append fi 1 1 (t 12) (t 13),none⟩,0⟩,
 ⟨⟨(some 3),.mov (t 14),none⟩,0⟩]
def zayu : List au := [⟨⟨(some 15),.mov (t 3),none⟩,0⟩,
 ⟨⟨(some 16),.lenL (t 15),none⟩,0⟩,
 ⟨⟨(some 17),.bin .rem (t 16) (ci 64),none⟩,0⟩,
 ⟨⟨(some 18),.bin .neq (t 17) (ci 56),none⟩,0⟩]
def zayt : List au := [⟨⟨(some 19),.mov (t 3),none⟩,0⟩,
 ⟨⟨(some 20),.buildSl fi 1 1 [(.int .u8 0)] [(0,1,(.const (Go.Value.int Go.IntKind.u8 0)))],none⟩,0⟩,
 ⟨⟨(some 21),.append fi 1 1 (t 19) (t 20),none⟩,0⟩,
 ⟨⟨(some 3),.mov (t 21),none⟩,0⟩]
def zaiy : TC := (.seq (.seq (.ops zayu) (.clean [0,3,18] (.cond (t 18) .skip (.exit 0)))) (.block 1 [0,3] (.ops zayt)))
def zays : List au := [⟨⟨(some 22),.mov (t 0),none⟩,0⟩,
 ⟨⟨(some 23),.lenS (t 22),none⟩,0⟩,
 ⟨⟨(some 24),.conv .u64 (t 23),none⟩,0⟩,
 ⟨⟨(some 25),.bin .mul (t 24) (.const (Go.Value.int Go.IntKind.u64 8)),none⟩,0⟩,
 ⟨⟨(some 4),.mov (t 25),none⟩,0⟩]
def zayr : List au := [⟨⟨(some 5),.mov (ci 0),none⟩,0⟩]
def zayq : List au := [⟨⟨(some 26),.mov (t 5),none⟩,0⟩,
 ⟨⟨(some 27),.bin .lss (t 26) (ci 8),none⟩,0⟩]
def zayo : List au := [⟨⟨(some 30),.mov (t 3),none⟩,0⟩,
 ⟨⟨(some 31),.mov (t 4),none⟩,0⟩,
 ⟨⟨(some 32),.mov (t 5),none⟩,0⟩,
 ⟨⟨(some 33),.bin .mul (ci 8) (t 32),none⟩,0⟩,
 ⟨⟨(some 34),.bin .sub (ci 56) (t 33),none⟩,0⟩,
 ⟨⟨(some 35),.conv .u64 (t 34),none⟩,0⟩,
 ⟨⟨(some 36),.bin .shr (t 31) (t 35),none⟩,0⟩,
 ⟨⟨(some 37),.conv .u8 (t 36),none⟩,0⟩,
 ⟨⟨(some 38),.buildSl fi 1 1 [(.int .u8 0)] [(0,1,(t 37))],none⟩,0⟩,
 ⟨⟨(some 39),.append fi 1 1 (t 30) (t 38),none⟩,0⟩,
 ⟨⟨(some 3),.mov (t 39),none⟩,0⟩]
def zayp : List au := [⟨⟨(some 28),.mov (t 5),none⟩,0⟩,
 ⟨⟨(some 29),.bin .add (t 28) (ci 1),none⟩,0⟩,
 ⟨⟨(some 5),.mov (t 29),none⟩,0⟩]
def zaix : TC := (.seq (.seq (.ops zayq) (.clean [3,4,5,27] (.cond (t 27) .skip (.exit 2)))) (.clean [3,4,5] (.seq (.block 3 [3,4,5] (.ops zayo)) (.clean [3,4,5] (.ops zayp)))))
def zayn : List au := [⟨⟨(some 40),.mov (t 3),none⟩,0⟩,
 ⟨⟨(some 41),.toStr (t 40),none⟩,0⟩,
 ⟨⟨(some 6),.mov (t 41),none⟩,0⟩]
def zavi : List au := [⟨⟨(some 42),.build [(.int .u32 0),(.int .u32 0),(.int .u32 0),(.int .u32 0),(.int .u32 0),(.int .u32 0),(.int .u32 0),(.int .u32 0)] [(0,1,(.const (Go.Value.int Go.IntKind.u32 1779033703))),(1,1,(.const (Go.Value.int Go.IntKind.u32 3144134277))),(2,1,(.const (Go.Value.int Go.IntKind.u32 1013904242))),(3,1,(.const (Go.Value.int Go.IntKind.u32 2773480762))),(4,1,(.const (Go.Value.int Go.IntKind.u32 1359893119))),(5,1,(.const (Go.Value.int Go.IntKind.u32 2600822924))),(6,1,(.const (Go.Value.int Go.IntKind.u32 528734635))),(7,1,(.const (Go.Value.int Go.IntKind.u32 1541459225)))],none⟩,0⟩,
 ⟨⟨(some 7),.box fv 8 (.const (.agg #[(.int .u32 0),(.int .u32 0),(.int .u32 0),(.int .u32 0),(.int .u32 0),(.int .u32 0),(.int .u32 0),(.int .u32 0)])),none⟩,0⟩,
 ⟨⟨none,.store 8 (t 7) (t 42),none⟩,0⟩]
def zavh : List au := [⟨⟨(some 8),.mov (ci 0),none⟩,0⟩]
def zavg : List au := [⟨⟨(some 43),.mov (t 8),none⟩,0⟩,
 ⟨⟨(some 44),.mov (t 6),none⟩,0⟩,
 ⟨⟨(some 45),.lenS (t 44),none⟩,0⟩,
 ⟨⟨(some 46),.bin .lss (t 43) (t 45),none⟩,0⟩]
def zave : List au := [⟨⟨(some 49),.loadN 8 (t 7),none⟩,0⟩,
 ⟨⟨(some 50),.mov (t 6),none⟩,0⟩,
 ⟨⟨(some 51),.mov (t 8),none⟩,0⟩,
 ⟨⟨(some 52),.mov (t 8),none⟩,0⟩,
 ⟨⟨(some 53),.bin .add (t 52) (ci 64),none⟩,0⟩,
 ⟨⟨(some 54),.sliceStr (t 50) (some (t 51)) (some (t 53)),none⟩,0⟩,
 ⟨⟨(some 55),.call zabs [(t 49),(t 54)],none⟩,0⟩,
 ⟨⟨none,.store 8 (t 7) (t 55),none⟩,0⟩]
def zavf : List au := [⟨⟨(some 47),.mov (t 8),none⟩,0⟩,
 ⟨⟨(some 48),.bin .add (t 47) (ci 64),none⟩,0⟩,
 ⟨⟨(some 8),.mov (t 48),none⟩,0⟩]
def zaiw : TC := (.seq (.seq (.ops zavg) (.clean [6,7,8,46] (.cond (t 46) .skip (.exit 4)))) (.clean [6,7,8] (.seq (.block 5 [6,7,8] (.draw (pl zave))) (.clean [6,7,8] (.ops zavf)))))
def zavd : List au := [⟨⟨(some 9),.mov (.const (Go.Value.slice none 0 0)),none⟩,1⟩]
def zavc : List au := [⟨⟨(some 10),.mov (ci 0),none⟩,0⟩]
def zavb : List au := [⟨⟨(some 56),.mov (t 10),none⟩,0⟩,
 ⟨⟨(some 57),.bin .lss (t 56) (ci 8),none⟩,0⟩]
def zau9 : List au := [⟨⟨(some 60),.mov (t 9),none⟩,0⟩,
 ⟨⟨(some 61),.mov (t 10),none⟩,0⟩,
 ⟨⟨(some 62),.indexPtr 8 1 (t 7) (t 61),none⟩,0⟩,
 ⟨⟨(some 63),.load1 (t 62),none⟩,0⟩,
 ⟨⟨(some 64),.bin .shr (t 63) (.const (Go.Value.int Go.IntKind.u64 24)),none⟩,0⟩,
 ⟨⟨(some 65),.conv .u8 (t 64),none⟩,0⟩,
 ⟨⟨(some 66),.mov (t 10),none⟩,0⟩,
 ⟨⟨(some 67),.indexPtr 8 1 (t 7) (t 66),none⟩,0⟩,
 ⟨⟨(some 68),.load1 (t 67),none⟩,0⟩,
 ⟨⟨(some 69),.bin .shr (t 68) (.const (Go.Value.int Go.IntKind.u64 16)),none⟩,0⟩,
 ⟨⟨(some 70),.conv .u8 (t 69),none⟩,0⟩,
 ⟨⟨(some 71),.mov (t 10),none⟩,0⟩,
 ⟨⟨(some 72),.indexPtr 8 1 (t 7) (t 71),none⟩,0⟩,
 ⟨⟨(some 73),.load1 (t 72),none⟩,0⟩,
 ⟨⟨(some 74),.bin .shr (t 73) (.const (Go.Value.int Go.IntKind.u64 8)),none⟩,0⟩,
 ⟨⟨(some 75),.conv .u8 (t 74),none⟩,0⟩,
 ⟨⟨(some 76),.mov (t 10),none⟩,0⟩,
 ⟨⟨(some 77),.indexPtr 8 1 (t 7) (t 76),none⟩,0⟩,
 ⟨⟨(some 78),.load1 (t 77),none⟩,0⟩,
 ⟨⟨(some 79),.conv .u8 (t 78),none⟩,0⟩,
 ⟨⟨(some 80),.buildSl fi 1 4 [(.int .u8 0),(.int .u8 0),(.int .u8 0),(.int .u8 0)] [(0,1,(t 65)),(1,1,(t 70)),(2,1,(t 75)),(3,1,(t 79))],none⟩,0⟩,
 ⟨⟨(some 81),.append fi 1 1 (t 60) (t 80),none⟩,0⟩,
 ⟨⟨(some 9),.mov (t 81),none⟩,0⟩]
def zava : List au := [⟨⟨(some 58),.mov (t 10),none⟩,0⟩,
 ⟨⟨(some 59),.bin .add (t 58) (ci 1),none⟩,0⟩,
 ⟨⟨(some 10),.mov (t 59),none⟩,0⟩]
def zaiv : TC := (.seq (.seq (.ops zavb) (.clean [7,9,10,57] (.cond (t 57) .skip (.exit 6)))) (.clean [7,9,10] (.seq (.block 7 [7,9,10] (.draw (pl zau9))) (.clean [7,9,10] (.ops zava)))))
def zau8 : List au := [⟨⟨(some 82),.mov (t 9),none⟩,0⟩,
 ⟨⟨(some 83),.toStr (t 82),none⟩,0⟩,
 ⟨⟨(some 2),.mov (t 83),none⟩,0⟩]
def zat9 : TC := (.seq (.ops zayw) (.clean [0] (.seq (.ops zayv) (.clean [0,3] (.seq (.block 0 [0,3] (.clean [0,3] (.loop [0,3] zaiy))) (.clean [0,3] (.seq (.ops zays) (.clean [3,4] (.seq (.seq (.ops zayr) (.block 2 [3] (.clean [3,4,5] (.loop [3,4,5] zaix)))) (.clean [3] (.seq (.ops zayn) (.clean [6] (.seq (.ops zavi) (.clean [6,7] (.seq (.seq (.ops zavh) (.block 4 [7] (.clean [6,7,8] (.loop [6,7,8] zaiw)))) (.clean [7] (.seq (.ops zavd) (.clean [7,9] (.seq (.seq (.ops zavc) (.block 6 [9] (.clean [7,9,10] (.loop [7,9,10] zaiv)))) (.clean [9] (.seq (.ops zau8) (.ret [2]))))))))))))))))))))))
def zaut : TFn := ⟨84,zat9,[.tmp 2],false⟩
theorem ki : type_of% (ai @zayw.eq_1 (ai @zayv.eq_1 (ai @zayu.eq_1 (ai @zayt.eq_1 (ai @zays.eq_1 (ai @zayr.eq_1 (ai @zayq.eq_1 (ai @zayo.eq_1 (ai @zayp.eq_1 (ai @zayn.eq_1 (ai @zavi.eq_1 (ai @zavh.eq_1 (ai @zavg.eq_1 (ai @zave.eq_1 (ai @zavf.eq_1 (ai @zavd.eq_1 (ai @zavc.eq_1 (ai @zavb.eq_1 (ai @zau9.eq_1 (ai @zava.eq_1 (ai @zau8.eq_1 (ai @zat9.eq_1 @zaut.eq_1)))))))))))))))))))))) := ⟨rfl,rfl,rfl,rfl,rfl,rfl,rfl,rfl,rfl,rfl,rfl,rfl,rfl,rfl,rfl,rfl,rfl,rfl,rfl,rfl,rfl,rfl,rfl⟩
theorem c_R01_Sum : ul Try.prog [(14,⟨[0,1,2,3,4,5,6,7],[0,0,0,0,8,30,63,127],[],[]⟩),(19,⟨[0,1,2,3,4,5,6,7,8,9,10,11,12,13,14,15,16,17,18,19,20,21,22],[0,0,2,6,14,30,0,64,192,448,960,0,2048,6144,14336,30720,0,65536,196608,458752,1048574,2097151,4194303],[],[]⟩)] zafv = some (84,zat9.erase,[.tmp 2]) := by kernel_rfl
def zar5 : List au := [⟨⟨(some 2),.box fv 8 (t 0),none⟩,0⟩,
 ⟨⟨(some 4),.box fv 8 (.const (.agg #[(.int .u32 0),(.int .u32 0),(.int .u32 0),(.int .u32 0),(.int .u32 0),(.int .u32 0),(.int .u32 0),(.int .u32 0)])),none⟩,0⟩]
def zar4 : List au := [⟨⟨(some 5),.box kq 64 (.const (.agg #[(.int .u32 0),(.int .u32 0),(.int .u32 0),(.int .u32 0),(.int .u32 0),(.int .u32 0),(.int .u32 0),(.int .u32 0),(.int .u32 0),(.int .u32 0),(.int .u32 0),(.int .u32 0),(.int .u32 0),(.int .u32 0),(.int .u32 0),(.int .u32 0),(.int .u32 0),(.int .u32 0),(.int .u32 0),(.int .u32 0),(.int .u32 0),(.int .u32 0),(.int .u32 0),(.int .u32 0),(.int .u32 0),(.int .u32 0),(.int .u32 0),(.int .u32 0),(.int .u32 0),(.int .u32 0),(.int .u32 0),(.int .u32 0),(.int .u32 0),(.int .u32 0),(.int .u32 0),(.int .u32 0),(.int .u32 0),(.int .u32 0),(.int .u32 0),(.int .u32 0),(.int .u32 0),(.int .u32 0),(.int .u32 0),(.int .u32 0),(.int .u32 0),(.int .u32 0),(.int .u32 0),(.int .u32 0),(.int .u32 0),(.int .u32 0),(.int .u32 0),(.int .u32 0),(.int .u32 0),(.int .u32 0),(.int .u32 0),(.int .u32 0),(.int .u32 0),(.int .u32 0),(.int .u32 0),(.int .u32 0),(.int .u32 0),(.int .u32 0),(.int .u32 0),(.int .u32 0)])),none⟩,0⟩]
def zar3 : List au := [⟨⟨(some 18),.call zabr [],none⟩,0⟩,
 ⟨⟨(some 6),.box kq 64 (.const (.agg #[(.int .u32 0),(.int .u32 0),(.int .u32 0),(.int .u32 0),(.int .u32 0),(.int .u32 0),(.int .u32 0),(.int .u32 0),(.int .u32 0),(.int .u32 0),(.int .u32 0),(.int .u32 0),(.int .u32 0),(.int .u32 0),(.int .u32 0),(.int .u32 0),(.int .u32 0),(.int .u32 0),(.int .u32 0),(.int .u32 0),(.int .u32 0),(.int .u32 0),(.int .u32 0),(.int .u32 0),(.int .u32 0),(.int .u32 0),(.int .u32 0),(.int .u32 0),(.int .u32 0),(.int .u32 0),(.int .u32 0),(.int .u32 0),(.int .u32 0),(.int .u32 0),(.int .u32 0),(.int .u32 0),(.int .u32 0),(.int .u32 0),(.int .u32 0),(.int .u32 0),(.int .u32 0),(.int .u32 0),(.int .u32 0),(.int .u32 0),(.int .u32 0),(.int .u32 0),(.int .u32 0),(.int .u32 0),(.int .u32 0),(.int .u32 0),(.int .u32 0),(.int .u32 0),(.int .u32 0),(.int .u32 0),(.int .u32 0),(.int .u32 0),(.int .u32 0),(.int .u32 0),(.int .u32 0),(.int .u32 0),(.int .u32 0),(.int .u32 0),(.int .u32 0),(.int .u32 0)])),none⟩,0⟩,
 ⟨⟨none,.store 64 (t 6) (t 18),none⟩,0⟩]
def zar2 : List au := [⟨⟨(some 7),.mov (ci 0),none⟩,0⟩]
def zar1 : List au := [⟨⟨(some 19),.mov (t 7),none⟩,0⟩,
 ⟨⟨(some 20),.bin .lss (t 19) (ci 16),none⟩,0⟩]
def zarz : List au := [⟨⟨(some 23),.mov (t 7),none⟩,0⟩,
 ⟨⟨(some 24),.mov (t 1),none⟩,0⟩,
 ⟨⟨(some 25),.mov (t 7),none⟩,0⟩,
 ⟨⟨(some 26),.bin .mul (ci 4) (t 25),none⟩,0⟩,
 ⟨⟨(some 27),.indexStr (t 24) (t 26),none⟩,0⟩,
 ⟨⟨(some 28),.conv .u32 (t 27),none⟩,0⟩,
 ⟨⟨(some 29),.bin .shl (t 28) (.const (Go.Value.int Go.IntKind.u64 24)),none⟩,0⟩,
 ⟨⟨(some 30),.mov (t 1),none⟩,0⟩,
 ⟨⟨(some 31),.mov (t 7),none⟩,0⟩,
 ⟨⟨(some 32),.bin .mul (ci 4) (t 31),none⟩,0⟩,
 ⟨⟨(some 33),.bin .add (t 32) (ci 1),none⟩,0⟩,
 ⟨⟨(some 34),.indexStr (t 30) (t 33),none⟩,0⟩,
 ⟨⟨(some 35),.conv .u32 (t 34),none⟩,0⟩,
 ⟨⟨(some 36),.bin .shl (t 35) (.const (Go.Value.int Go.IntKind.u64 16)),none⟩,0⟩,
 ⟨⟨(some 37),.bin .or (t 29) (t 36),none⟩,0⟩,
 ⟨⟨(some 38),.mov (t 1),none⟩,0⟩,
 ⟨⟨(some 39),.mov (t 7),none⟩,0⟩,
 ⟨⟨(some 40),.bin .mul (ci 4) (t 39),none⟩,0⟩,
 ⟨⟨(some 41),.bin .add (t 40) (ci 2),none⟩,0⟩,
 ⟨⟨(some 42),.indexStr (t 38) (t 41),none⟩,0⟩,
 ⟨⟨(some 43),.conv .u32 (t 42),none⟩,0⟩,
 ⟨⟨(some 44),.bin .shl (t 43) (.const (Go.Value.int Go.IntKind.u64 8)),none⟩,0⟩,
 ⟨⟨(some 45),.bin .or (t 37) (t 44),none⟩,0⟩,
 ⟨⟨(some 46),.mov (t 1),none⟩,0⟩,
 ⟨⟨(some 47),.mov (t 7),none⟩,0⟩,
 ⟨⟨(some 48),.bin .mul (ci 4) (t 47),none⟩,0⟩,
 ⟨⟨(some 49),.bin .add (t 48) (ci 3),none⟩,0⟩,
 ⟨⟨(some 50),.indexStr (t 46) (t 49),none⟩,0⟩,
 ⟨⟨(some 51),.conv .u32 (t 50),none⟩,0⟩,
 ⟨⟨(some 52),.bin .or (t 45) (t 51),none⟩,0⟩,
 ⟨⟨(some 53),.indexPtr 64 1 (t 5) (t 23),none⟩,0⟩,
 ⟨⟨none,.store 1 (t 53) (t 52),none⟩,0⟩]
def zar0 : List au := [⟨⟨(some 21),.mov (t 7),none⟩,0⟩,
 ⟨⟨(some 22),.bin .add (t 21) (ci 1),none⟩,0⟩,
 ⟨⟨(some 7),.mov (t 22),none⟩,0⟩]
def zaeh : TC := (.seq (.seq (.ops zar1) (.clean [1,2,4,5,6,7,20] (.cond (t 20) .skip (.exit 0)))) (.clean [1,2,4,5,6,7] (.seq (.block 1 [1,2,4,5,6,7] (.draw (pl zarz))) (.clean [1,2,4,5,6,7] (.ops zar0)))))
def zary : List au := [⟨⟨(some 8),.mov (ci 16),none⟩,0⟩]
def zarx : List au := [⟨⟨(some 54),.mov (t 8),none⟩,0⟩,
 ⟨⟨(some 55),.bin .lss (t 54) (ci 64),none⟩,0⟩]
def zaol : List au := [⟨⟨(some 58),.mov (t 8),none⟩,0⟩,
 ⟨⟨(some 59),.bin .sub (t 58) (ci 15),none⟩,0⟩,
 ⟨⟨(some 60),.indexPtr 64 1 (t 5) (t 59),none⟩,0⟩,
 ⟨⟨(some 61),.load1 (t 60),none⟩,0⟩,
 ⟨⟨(some 63),.mov (t 8),none⟩,0⟩,
 ⟨⟨(some 64),.bin .sub (t 63) (ci 15),none⟩,0⟩,
 ⟨⟨(some 65),.indexPtr 64 1 (t 5) (t 64),none⟩,0⟩,
 ⟨⟨(some 66),.load1 (t 65),none⟩,0⟩,
 ⟨⟨(some 69),.mov (t 8),none⟩,0⟩,
 ⟨⟨(some 70),.bin .sub (t 69) (ci 15),none⟩,0⟩,
 ⟨⟨(some 71),.indexPtr 64 1 (t 5) (t 70),none⟩,0⟩,
 ⟨⟨(some 72),.load1 (t 71),none⟩,0⟩,
 ⟨⟨(some 73),.bin .shr (t 72) (.const (Go.Value.int Go.IntKind.u64 3)),none⟩,0⟩,
 ⟨⟨(some 62),.call lc [(t 61),(.const (Go.Value.int Go.IntKind.u64 7))],none⟩,0⟩,
 ⟨⟨(some 67),.call lc [(t 66),(.const (Go.Value.int Go.IntKind.u64 18))],none⟩,0⟩,
 ⟨⟨(some 68),.bin .xor (t 62) (t 67),none⟩,0⟩,
 ⟨⟨(some 74),.bin .xor (t 68) (t 73),none⟩,0⟩,
 ⟨⟨(some 9),.mov (t 74),none⟩,0⟩]
def zaok : List au := [⟨⟨(some 75),.mov (t 8),none⟩,0⟩,
 ⟨⟨(some 76),.bin .sub (t 75) (ci 2),none⟩,0⟩,
 ⟨⟨(some 77),.indexPtr 64 1 (t 5) (t 76),none⟩,0⟩,
 ⟨⟨(some 78),.load1 (t 77),none⟩,0⟩,
 ⟨⟨(some 80),.mov (t 8),none⟩,0⟩,
 ⟨⟨(some 81),.bin .sub (t 80) (ci 2),none⟩,0⟩,
 ⟨⟨(some 82),.indexPtr 64 1 (t 5) (t 81),none⟩,0⟩,
 ⟨⟨(some 83),.load1 (t 82),none⟩,0⟩,
 ⟨⟨(some 86),.mov (t 8),none⟩,0⟩,
 ⟨⟨(some 87),.bin .sub (t 86) (ci 2),none⟩,0⟩,
 ⟨⟨(some 88),.indexPtr 64 1 (t 5) (t 87),none⟩,0⟩,
 ⟨⟨(some 89),.load1 (t 88),none⟩,0⟩,
 ⟨⟨(some 90),.bin .shr (t 89) (.const (Go.Value.int Go.IntKind.u64 10)),none⟩,0⟩,
 ⟨⟨(some 79),.call lc [(t 78),(.const (Go.Value.int Go.IntKind.u64 17))],none⟩,0⟩,
 ⟨⟨(some 84),.call lc [(t 83),(.const (Go.Value.int Go.IntKind.u64 19))],none⟩,0⟩,
 ⟨⟨(some 85),.bin .xor (t 79) (t 84),none⟩,0⟩,
 ⟨⟨(some 91),.bin .xor (t 85) (t 90),none⟩,0⟩,
 ⟨⟨(some 10),.mov (t 91),none⟩,0⟩]
def zaoj : List au := [⟨⟨(some 92),.mov (t 8),none⟩,0⟩,
 ⟨⟨(some 93),.mov (t 8),none⟩,0⟩,
 ⟨⟨(some 94),.bin .sub (t 93) (ci 16),none⟩,0⟩,
 ⟨⟨(some 95),.indexPtr 64 1 (t 5) (t 94),none⟩,0⟩,
 ⟨⟨(some 96),.load1 (t 95),none⟩,0⟩,
 ⟨⟨(some 97),.mov (t 9),none⟩,0⟩,
 ⟨⟨(some 98),.bin .add (t 96) (t 97),none⟩,0⟩,
 ⟨⟨(some 99),.mov (t 8),none⟩,0⟩,
 ⟨⟨(some 100),.bin .sub (t 99) (ci 7),none⟩,0⟩,
 ⟨⟨(some 101),.indexPtr 64 1 (t 5) (t 100),none⟩,0⟩,
 ⟨⟨(some 102),.load1 (t 101),none⟩,0⟩,
 ⟨⟨(some 103),.bin .add (t 98) (t 102),none⟩,0⟩,
 ⟨⟨(some 104),.mov (t 10),none⟩,0⟩,
 ⟨⟨(some 105),.bin .add (t 103) (t 104),none⟩,0⟩,
 ⟨⟨(some 106),.indexPtr 64 1 (t 5) (t 92),none⟩,0⟩,
 ⟨⟨none,.store 1 (t 106) (t 105),none⟩,0⟩]
def zarw : List au := [⟨⟨(some 56),.mov (t 8),none⟩,0⟩,
 ⟨⟨(some 57),.bin .add (t 56) (ci 1),none⟩,0⟩,
 ⟨⟨(some 8),.mov (t 57),none⟩,0⟩]
def zaeg : TC := (.seq (.seq (.ops zarx) (.clean [2,4,5,6,8,55] (.cond (t 55) .skip (.exit 2)))) (.clean [2,4,5,6,8] (.seq (.block 3 [2,4,5,6,8] (.seq (.draw (pl zaol)) (.clean [2,4,5,6,8,9] (.seq (.draw (pl zaok)) (.clean [2,4,5,6,8,9,10] (.draw (pl zaoj))))))) (.clean [2,4,5,6,8] (.ops zarw)))))
def zaoi : List au := [⟨⟨(some 107),.loadN 8 (t 2),none⟩,0⟩,
 ⟨⟨(some 11),.box fv 8 (.const (.agg #[(.int .u32 0),(.int .u32 0),(.int .u32 0),(.int .u32 0),(.int .u32 0),(.int .u32 0),(.int .u32 0),(.int .u32 0)])),none⟩,0⟩,
 ⟨⟨none,.store 8 (t 11) (t 107),none⟩,0⟩]
def zaoh : List au := [⟨⟨(some 12),.mov (ci 0),none⟩,0⟩]
def zaog : List au := [⟨⟨(some 108),.mov (t 12),none⟩,0⟩,
 ⟨⟨(some 109),.bin .lss (t 108) (ci 64),none⟩,0⟩]
def zaoe : List au := [⟨⟨(some 112),.indexPtr 8 1 (t 11) (ci 4),none⟩,0⟩,
 ⟨⟨(some 113),.load1 (t 112),none⟩,0⟩,
 ⟨⟨(some 115),.indexPtr 8 1 (t 11) (ci 4),none⟩,0⟩,
 ⟨⟨(some 116),.load1 (t 115),none⟩,0⟩,
 ⟨⟨(some 119),.indexPtr 8 1 (t 11) (ci 4),none⟩,0⟩,
 ⟨⟨(some 120),.load1 (t 119),none⟩,0⟩,
 ⟨⟨(some 114),.call lc [(t 113),(.const (Go.Value.int Go.IntKind.u64 6))],none⟩,0⟩,
 ⟨⟨(some 117),.call lc [(t 116),(.const (Go.Value.int Go.IntKind.u64 11))],none⟩,0⟩,
 ⟨⟨(some 118),.bin .xor (t 114) (t 117),none⟩,0⟩,
 ⟨⟨(some 121),.call lc [(t 120),(.const (Go.Value.int Go.IntKind.u64 25))],none⟩,0⟩,
 ⟨⟨(some 122),.bin .xor (t 118) (t 121),none⟩,0⟩,
 ⟨⟨(some 13),.mov (t 122),none⟩,0⟩]
def zaod : List au := [⟨⟨(some 123),.indexPtr 8 1 (t 11) (ci 7),none⟩,0⟩,
 ⟨⟨(some 124),.load1 (t 123),none⟩,0⟩,
 ⟨⟨(some 125),.mov (t 13),none⟩,0⟩,
 ⟨⟨(some 126),.bin .add (t 124) (t 125),none⟩,0⟩,
 ⟨⟨(some 127),.indexPtr 8 1 (t 11) (ci 4),none⟩,0⟩,
 ⟨⟨(some 128),.load1 (t 127),none⟩,0⟩,
 ⟨⟨(some 129),.indexPtr 8 1 (t 11) (ci 5),none⟩,0⟩,
 ⟨⟨(some 130),.load1 (t 129),none⟩,0⟩,
 ⟨⟨(some 131),.bin .and (t 128) (t 130),none⟩,0⟩,
 ⟨⟨(some 132),.indexPtr 8 1 (t 11) (ci 4),none⟩,0⟩,
 ⟨⟨(some 133),.load1 (t 132),none⟩,0⟩,
 ⟨⟨(some 134),.un .xor (t 133),none⟩,0⟩,
 ⟨⟨(some 135),.indexPtr 8 1 (t 11) (ci 6),none⟩,0⟩,
 ⟨⟨(some 136),.load1 (t 135),none⟩,0⟩,
 ⟨⟨(some 137),.bin .and (t 134) (t 136),none⟩,0⟩,
 ⟨⟨(some 138),.bin .xor (t 131) (t 137),none⟩,0⟩,
 ⟨⟨(some 139),.bin .add (t 126) (t 138),none⟩,0⟩,
 ⟨⟨(some 140),.mov (t 12),none⟩,0⟩,
 ⟨⟨(some 141),.indexPtr 64 1 (t 6) (t 140),none⟩,0⟩,
 ⟨⟨(some 142),.load1 (t 141),none⟩,0⟩,
 ⟨⟨(some 143),.bin .add (t 139) (t 142),none⟩,0⟩,
 ⟨⟨(some 144),.mov (t 12),none⟩,0⟩,
 ⟨⟨(some 145),.indexPtr 64 1 (t 5) (t 144),none⟩,0⟩,
 ⟨⟨(some 146),.load1 (t 145),none⟩,0⟩,
 ⟨⟨(some 147),.bin .add (t 143) (t 146),none⟩,0⟩,
 ⟨⟨(some 14),.mov (t 147),none⟩,0⟩]
def zaoc : List au := [⟨⟨(some 148),.indexPtr 8 1 (t 11) (ci 0),none⟩,0⟩,
 ⟨⟨(some 149),.load1 (t 148),none⟩,0⟩,
 ⟨⟨(some 151),.indexPtr 8 1 (t 11) (ci 0),none⟩,0⟩,
 ⟨⟨(some 152),.load1 (t 151),none⟩,0⟩,
 ⟨⟨(some 155),.indexPtr 8 1 (t 11) (ci 0),none⟩,0⟩,
 ⟨⟨(some 156),.load1 (t 155),none⟩,0⟩,
 ⟨⟨(some 150),.call lc [(t 149),(.const (Go.Value.int Go.IntKind.u64 2))],none⟩,0⟩,
 ⟨⟨(some 153),.call lc [(t 152),(.const (Go.Value.int Go.IntKind.u64 13))],none⟩,0⟩,
 ⟨⟨(some 154),.bin .xor (t 150) (t 153),none⟩,0⟩,
 ⟨⟨(some 157),.call lc [(t 156),(.const (Go.Value.int Go.IntKind.u64 22))],none⟩,0⟩,
 ⟨⟨(some 158),.bin .xor (t 154) (t 157),none⟩,0⟩,
 ⟨⟨(some 15),.mov (t 158),none⟩,0⟩]
def zaob : List au := [⟨⟨(some 159),.mov (t 15),none⟩,0⟩,
 ⟨⟨(some 160),.indexPtr 8 1 (t 11) (ci 0),none⟩,0⟩,
 ⟨⟨(some 161),.load1 (t 160),none⟩,0⟩,
 ⟨⟨(some 162),.indexPtr 8 1 (t 11) (ci 1),none⟩,0⟩,
 ⟨⟨(some 163),.load1 (t 162),none⟩,0⟩,
 ⟨⟨(some 164),.bin .and (t 161) (t 163),none⟩,0⟩,
 ⟨⟨(some 165),.indexPtr 8 1 (t 11) (ci 0),none⟩,0⟩,
 ⟨⟨(some 166),.load1 (t 165),none⟩,0⟩,
 ⟨⟨(some 167),.indexPtr 8 1 (t 11) (ci 2),none⟩,0⟩,
 ⟨⟨(some 168),.load1 (t 167),none⟩,0⟩,
 ⟨⟨(some 169),.bin .and (t 166) (t 168),none⟩,0⟩,
 ⟨⟨(some 170),.bin .xor (t 164) (t 169),none⟩,0⟩,
 ⟨⟨(some 171),.indexPtr 8 1 (t 11) (ci 1),none⟩,0⟩,
 ⟨⟨(some 172),.load1 (t 171),none⟩,0⟩,
 ⟨⟨(some 173),.indexPtr 8 1 (t 11) (ci 2),none⟩,0⟩,
 ⟨⟨(some 174),.load1 (t 173),none⟩,0⟩,
 ⟨⟨(some 175),.bin .and (t 172) (t 174),none⟩,0⟩,
 ⟨⟨(some 176),.bin .xor (t 170) (t 175),none⟩,0⟩,
 ⟨⟨(some 177),.bin .add (t 159) (t 176),none⟩,0⟩,
 ⟨⟨(some 16),.mov (t 177),none⟩,0⟩]
def zaoa : List au := [⟨⟨(some 178),.mov (t 14),none⟩,0⟩,
 ⟨⟨(some 179),.mov (t 16),none⟩,0⟩,
 ⟨⟨(some 180),.bin .add (t 178) (t 179),none⟩,0⟩,
 ⟨⟨(some 181),.indexPtr 8 1 (t 11) (ci 0),none⟩,0⟩,
 ⟨⟨(some 182),.load1 (t 181),none⟩,0⟩,
 ⟨⟨(some 183),.indexPtr 8 1 (t 11) (ci 1),none⟩,0⟩,
 ⟨⟨(some 184),.load1 (t 183),none⟩,0⟩,
 ⟨⟨(some 185),.indexPtr 8 1 (t 11) (ci 2),none⟩,0⟩,
 ⟨⟨(some 186),.load1 (t 185),none⟩,0⟩,
 ⟨⟨(some 187),.indexPtr 8 1 (t 11) (ci 3),none⟩,0⟩,
 ⟨⟨(some 188),.load1 (t 187),none⟩,0⟩,
 ⟨⟨(some 189),.mov (t 14),none⟩,0⟩,
 ⟨⟨(some 190),.bin .add (t 188) (t 189),none⟩,0⟩,
 ⟨⟨(some 191),.indexPtr 8 1 (t 11) (ci 4),none⟩,0⟩,
 ⟨⟨(some 192),.load1 (t 191),none⟩,0⟩,
 ⟨⟨(some 193),.indexPtr 8 1 (t 11) (ci 5),none⟩,0⟩,
 ⟨⟨(some 194),.load1 (t 193),none⟩,0⟩,
 ⟨⟨(some 195),.indexPtr 8 1 (t 11) (ci 6),none⟩,0⟩,
 ⟨⟨(some 196),.load1 (t 195),none⟩,0⟩,
 ⟨⟨(some 197),.build [(.int .u32 0),(.int .u32 0),(.int .u32 0),(.int .u32 0),(.int .u32 0),(.int .u32 0),(.int .u32 0),(.int .u32 0)] [(0,1,(t 180)),(1,1,(t 182)),(2,1,(t 184)),(3,1,(t 186)),(4,1,(t 190)),(5,1,(t 192)),(6,1,(t 194)),(7,1,(t 196))],none⟩,0⟩,
 ⟨⟨none,.store 8 (t 11) (t 197),none⟩,0⟩]
def zaof : List au := [⟨⟨(some 110),.mov (t 12),none⟩,0⟩,
 ⟨⟨(some 111),.bin .add (t 110) (ci 1),none⟩,0⟩,
 ⟨⟨(some 12),.mov (t 111),none⟩,0⟩]
def zaef : TC := (.seq (.seq (.ops zaog) (.clean [2,4,5,6,11,12,109] (.cond (t 109) .skip (.exit 4)))) (.clean [2,4,5,6,11,12] (.seq (.block 5 [2,4,5,6,11,12] (.seq (.draw (pl zaoe)) (.clean [2,4,5,6,11,12,13] (.seq (.draw (pl zaod)) (.clean [2,4,5,6,11,12,14] (.seq (.draw (pl zaoc)) (.clean [2,4,5,6,11,12,14,15] (.seq (.ops zaob) (.clean [2,4,5,6,11,12,14,16] (.ops zaoa)))))))))) (.clean [2,4,5,6,11,12] (.ops zaof)))))
def zan9 : List au := [⟨⟨(some 17),.mov (ci 0),none⟩,0⟩]
def zan8 : List au := [⟨⟨(some 198),.mov (t 17),none⟩,0⟩,
 ⟨⟨(some 199),.bin .lss (t 198) (ci 8),none⟩,0⟩]
def zan6 : List au := [⟨⟨(some 202),.mov (t 17),none⟩,0⟩,
 ⟨⟨(some 203),.mov (t 17),none⟩,0⟩,
 ⟨⟨(some 204),.indexPtr 8 1 (t 2) (t 203),none⟩,0⟩,
 ⟨⟨(some 205),.load1 (t 204),none⟩,0⟩,
 ⟨⟨(some 206),.mov (t 17),none⟩,0⟩,
 ⟨⟨(some 207),.indexPtr 8 1 (t 11) (t 206),none⟩,0⟩,
 ⟨⟨(some 208),.load1 (t 207),none⟩,0⟩,
 ⟨⟨(some 209),.bin .add (t 205) (t 208),none⟩,0⟩,
 ⟨⟨(some 210),.indexPtr 8 1 (t 2) (t 202),none⟩,0⟩,
 ⟨⟨none,.store 1 (t 210) (t 209),none⟩,0⟩]
def zan7 : List au := [⟨⟨(some 200),.mov (t 17),none⟩,0⟩,
 ⟨⟨(some 201),.bin .add (t 200) (ci 1),none⟩,0⟩,
 ⟨⟨(some 17),.mov (t 201),none⟩,0⟩]
def zaee : TC := (.seq (.seq (.ops zan8) (.clean [2,4,11,17,199] (.cond (t 199) .skip (.exit 6)))) (.clean [2,4,11,17] (.seq (.block 7 [2,4,11,17] (.draw (pl zan6))) (.clean [2,4,11,17] (.ops zan7)))))
def zan5 : List au := [⟨⟨(some 211),.loadN 8 (t 2),none⟩,0⟩,
 ⟨⟨none,.store 8 (t 4) (t 211),none⟩,0⟩]
def zakj : TC := (.seq (.ops zar5) (.clean [1,2,4] (.seq (.ops zar4) (.clean [1,2,4,5] (.seq (.ops zar3) (.clean [1,2,4,5,6] (.seq (.seq (.ops zar2) (.block 0 [2,4,5,6] (.clean [1,2,4,5,6,7] (.loop [1,2,4,5,6,7] zaeh)))) (.clean [2,4,5,6] (.seq (.seq (.ops zary) (.block 2 [2,4,5,6] (.clean [2,4,5,6,8] (.loop [2,4,5,6,8] zaeg)))) (.clean [2,4,5,6] (.seq (.ops zaoi) (.clean [2,4,5,6,11] (.seq (.seq (.ops zaoh) (.block 4 [2,4,11] (.clean [2,4,5,6,11,12] (.loop [2,4,5,6,11,12] zaef)))) (.clean [2,4,11] (.seq (.seq (.ops zan9) (.block 6 [2,4] (.clean [2,4,11,17] (.loop [2,4,11,17] zaee)))) (.clean [2,4] (.seq (.ops zan5) (.ret [4]))))))))))))))))))
def zalt : TFn := ⟨212,zakj,[.cellN 4 8],false⟩
theorem kp : type_of% (ai @zar5.eq_1 (ai @zar4.eq_1 (ai @zar3.eq_1 (ai @zar2.eq_1 (ai @zar1.eq_1 (ai @zarz.eq_1 (ai @zar0.eq_1 (ai @zary.eq_1 (ai @zarx.eq_1 (ai @zaol.eq_1 (ai @zaok.eq_1 (ai @zaoj.eq_1 (ai @zarw.eq_1 (ai @zaoi.eq_1 (ai @zaoh.eq_1 (ai @zaog.eq_1 (ai @zaoe.eq_1 (ai @zaod.eq_1 (ai @zaoc.eq_1 (ai @zaob.eq_1 (ai @zaoa.eq_1 (ai @zaof.eq_1 (ai @zan9.eq_1 (ai @zan8.eq_1 (ai @zan6.eq_1 (ai @zan7.eq_1 (ai @zan5.eq_1 (ai @zakj.eq_1 @zalt.eq_1)))))))))))))))))))))))))))) := ⟨rfl,rfl,rfl,rfl,rfl,rfl,rfl,rfl,rfl,rfl,rfl,rfl,rfl,rfl,rfl,rfl,rfl,rfl,rfl,rfl,rfl,rfl,rfl,rfl,rfl,rfl,rfl,rfl,rfl⟩
theorem zbb6 : ul Try.prog [(6,⟨[0,1,2,3,4,5,6,7,8,9,10,11,12,13,14,15,16,17,18,19,20,21,22,23,24,25,26,27,28,29,30,31],[0,0,0,4,14,30,62,0,0,256,768,1920,3968,8064,16382,0,0,65536,196608,491520,1015808,2064384,4194302,0,0,16777216,50331648,125829120,260046848,536870910,1073741823,2147483647],[],[]⟩),(10,⟨[0,1,2,3,5,6,7,8,11,12,13,14,15,4,9,10,16,17],[0,1,3,7,15,0,32,96,224,511,1023,0,2048,6144,14336,30720,65535,131071],[],[]⟩),(11,⟨[0,1,2,3,5,6,7,8,11,12,13,14,15,4,9,10,16,17],[0,1,3,7,15,0,32,96,224,511,1023,0,2048,6144,14336,30720,65535,131071],[],[]⟩),(12,⟨[0,1,2,3,4,5,6,7,8,9,10,11,12,13,14,15],[0,0,2,6,14,0,62,0,128,384,896,2046,0,8190,16383,32767],[],[]⟩),(17,⟨[0,1,3,4,7,8,2,5,6,9,10,11],[0,1,3,0,8,31,63,0,128,447,1023,2047],[],[]⟩),(18,⟨[0,1,2,3,4,5,6,7,8,9,10,11,12,13,14,15,16,17,18,19,20,21,22,23,24,25],[0,1,0,7,0,16,0,64,240,0,512,1536,0,4096,15872,32752,65535,0,131072,393216,1048575,0,2097152,6291456,16777215,33554431],[],[]⟩),(19,⟨[0,1,3,4,7,8,2,5,6,9,10,11],[0,1,3,0,8,31,63,0,128,447,1023,2047],[],[]⟩),(25,⟨[0,1,2,3,4,5,6,7,8,9],[0,0,2,6,0,16,48,126,255,511],[],[]⟩)] zabs = some (212,zakj.erase,[.cellN 4 8]) := by kernel_rfl
def zarv : List au := [⟨⟨(some 0),.box kq 64 (.const (.agg #[(.int .u32 0),(.int .u32 0),(.int .u32 0),(.int .u32 0),(.int .u32 0),(.int .u32 0),(.int .u32 0),(.int .u32 0),(.int .u32 0),(.int .u32 0),(.int .u32 0),(.int .u32 0),(.int .u32 0),(.int .u32 0),(.int .u32 0),(.int .u32 0),(.int .u32 0),(.int .u32 0),(.int .u32 0),(.int .u32 0),(.int .u32 0),(.int .u32 0),(.int .u32 0),(.int .u32 0),(.int .u32 0),(.int .u32 0),(.int .u32 0),(.int .u32 0),(.int .u32 0),(.int .u32 0),(.int .u32 0),(.int .u32 0),(.int .u32 0),(.int .u32 0),(.int .u32 0),(.int .u32 0),(.int .u32 0),(.int .u32 0),(.int .u32 0),(.int .u32 0),(.int .u32 0),(.int .u32 0),(.int .u32 0),(.int .u32 0),(.int .u32 0),(.int .u32 0),(.int .u32 0),(.int .u32 0),(.int .u32 0),(.int .u32 0),(.int .u32 0),(.int .u32 0),(.int .u32 0),(.int .u32 0),(.int .u32 0),(.int .u32 0),(.int .u32 0),(.int .u32 0),(.int .u32 0),(.int .u32 0),(.int .u32 0),(.int .u32 0),(.int .u32 0),(.int .u32 0)])),none⟩,0⟩]
def zaru : List au := [⟨⟨(some 1),.build [(.int .u32 0),(.int .u32 0),(.int .u32 0),(.int .u32 0),(.int .u32 0),(.int .u32 0),(.int .u32 0),(.int .u32 0),(.int .u32 0),(.int .u32 0),(.int .u32 0),(.int .u32 0),(.int .u32 0),(.int .u32 0),(.int .u32 0),(.int .u32 0),(.int .u32 0),(.int .u32 0),(.int .u32 0),(.int .u32 0),(.int .u32 0),(.int .u32 0),(.int .u32 0),(.int .u32 0),(.int .u32 0),(.int .u32 0),(.int .u32 0),(.int .u32 0),(.int .u32 0),(.int .u32 0),(.int .u32 0),(.int .u32 0),(.int .u32 0),(.int .u32 0),(.int .u32 0),(.int .u32 0),(.int .u32 0),(.int .u32 0),(.int .u32 0),(.int .u32 0),(.int .u32 0),(.int .u32 0),(.int .u32 0),(.int .u32 0),(.int .u32 0),(.int .u32 0),(.int .u32 0),(.int .u32 0),(.int .u32 0),(.int .u32 0),(.int .u32 0),(.int .u32 0),(.int .u32 0),(.int .u32 0),(.int .u32 0),(.int .u32 0),(.int .u32 0),(.int .u32 0),(.int .u32 0),(.int .u32 0),(.int .u32 0),(.int .u32 0),(.int .u32 0),(.int .u32 0)] [(0,1,(.const (Go.Value.int Go.IntKind.u32 1116352408))),(1,1,(.const (Go.Value.int Go.IntKind.u32 1899447441))),(2,1,(.const (Go.Value.int Go.IntKind.u32 3049323471))),(3,1,(.const (Go.Value.int Go.IntKind.u32 3921009573))),(4,1,(.const (Go.Value.int Go.IntKind.u32 961987163))),(5,1,(.const (Go.Value.int Go.IntKind.u32 1508970993))),(6,1,(.const (Go.Value.int Go.IntKind.u32 2453635748))),(7,1,(.const (Go.Value.int Go.IntKind.u32 2870763221))),(8,1,(.const (Go.Value.int Go.IntKind.u32 3624381080))),(9,1,(.const (Go.Value.int Go.IntKind.u32 310598401))),(10,1,(.const (Go.Value.int Go.IntKind.u32 607225278))),(11,1,(.const (Go.Value.int Go.IntKind.u32 1426881987))),(12,1,(.const (Go.Value.int Go.IntKind.u32 1925078388))),(13,1,(.const (Go.Value.int Go.IntKind.u32 2162078206))),(14,1,(.const (Go.Value.int Go.IntKind.u32 2614888103))),(15,1,(.const (Go.Value.int Go.IntKind.u32 3248222580))),(16,1,(.const (Go.Value.int Go.IntKind.u32 3835390401))),(17,1,(.const (Go.Value.int Go.IntKind.u32 4022224774))),(18,1,(.const (Go.Value.int Go.IntKind.u32 264347078))),(19,1,(.const (Go.Value.int Go.IntKind.u32 604807628))),(20,1,(.const (Go.Value.int Go.IntKind.u32 770255983))),(21,1,(.const (Go.Value.int Go.IntKind.u32 1249150122))),(22,1,(.const (Go.Value.int Go.IntKind.u32 1555081692))),(23,1,(.const (Go.Value.int Go.IntKind.u32 1996064986))),(24,1,(.const (Go.Value.int Go.IntKind.u32 2554220882))),(25,1,(.const (Go.Value.int Go.IntKind.u32 2821834349))),(26,1,(.const (Go.Value.int Go.IntKind.u32 2952996808))),(27,1,(.const (Go.Value.int Go.IntKind.u32 3210313671))),(28,1,(.const (Go.Value.int Go.IntKind.u32 3336571891))),(29,1,(.const (Go.Value.int Go.IntKind.u32 3584528711))),(30,1,(.const (Go.Value.int Go.IntKind.u32 113926993))),(31,1,(.const (Go.Value.int Go.IntKind.u32 338241895))),(32,1,(.const (Go.Value.int Go.IntKind.u32 666307205))),(33,1,(.const (Go.Value.int Go.IntKind.u32 773529912))),(34,1,(.const (Go.Value.int Go.IntKind.u32 1294757372))),(35,1,(.const (Go.Value.int Go.IntKind.u32 1396182291))),(36,1,(.const (Go.Value.int Go.IntKind.u32 1695183700))),(37,1,(.const (Go.Value.int Go.IntKind.u32 1986661051))),(38,1,(.const (Go.Value.int Go.IntKind.u32 2177026350))),(39,1,(.const (Go.Value.int Go.IntKind.u32 2456956037))),(40,1,(.const (Go.Value.int Go.IntKind.u32 2730485921))),(41,1,(.const (Go.Value.int Go.IntKind.u32 2820302411))),(42,1,(.const (Go.Value.int Go.IntKind.u32 3259730800))),(43,1,(.const (Go.Value.int Go.IntKind.u32 3345764771))),(44,1,(.const (Go.Value.int Go.IntKind.u32 3516065817))),(45,1,(.const (Go.Value.int Go.IntKind.u32 3600352804))),(46,1,(.const (Go.Value.int Go.IntKind.u32 4094571909))),(47,1,(.const (Go.Value.int Go.IntKind.u32 275423344))),(48,1,(.const (Go.Value.int Go.IntKind.u32 430227734))),(49,1,(.const (Go.Value.int Go.IntKind.u32 506948616))),(50,1,(.const (Go.Value.int Go.IntKind.u32 659060556))),(51,1,(.const (Go.Value.int Go.IntKind.u32 883997877))),(52,1,(.const (Go.Value.int Go.IntKind.u32 958139571))),(53,1,(.const (Go.Value.int Go.IntKind.u32 1322822218))),(54,1,(.const (Go.Value.int Go.IntKind.u32 1537002063))),(55,1,(.const (Go.Value.int Go.IntKind.u32 1747873779))),(56,1,(.const (Go.Value.int Go.IntKind.u32 1955562222))),(57,1,(.const (Go.Value.int Go.IntKind.u32 2024104815))),(58,1,(.const (Go.Value.int Go.IntKind.u32 2227730452))),(59,1,(.const (Go.Value.int Go.IntKind.u32 2361852424))),(60,1,(.const (Go.Value.int Go.IntKind.u32 2428436474))),(61,1,(.const (Go.Value.int Go.IntKind.u32 2756734187))),(62,1,(.const (Go.Value.int Go.IntKind.u32 3204031479))),(63,1,(.const (Go.Value.int Go.IntKind.u32 3329325298)))],none⟩,0⟩,
 ⟨⟨none,.store 64 (t 0) (t 1),none⟩,0⟩]
def zaki : TC := (.seq (.ops zarv) (.clean [0] (.seq (.ops zaru) (.ret [0]))))
def zals : TFn := ⟨2,zaki,[.cellN 0 64],false⟩
theorem zbcg : type_of% (ai @zarv.eq_1 (ai @zaru.eq_1 (ai @zaki.eq_1 @zals.eq_1))) := ⟨rfl,rfl,rfl,rfl⟩
theorem zbb5 : ul Try.prog [] zabr = some (2,zaki.erase,[.cellN 0 64]) := by kernel_rfl
def zau7 : List au := [⟨⟨(some 4),.mov (.const (Go.Value.int Go.IntKind.u32 0)),none⟩,0⟩]
def zau6 : List au := [⟨⟨(some 5),.mov (t 0),none⟩,0⟩,
 ⟨⟨(some 6),.mov (t 1),none⟩,0⟩,
 ⟨⟨(some 7),.bin .shr (t 5) (t 6),none⟩,0⟩,
 ⟨⟨(some 8),.mov (t 0),none⟩,0⟩,
 ⟨⟨(some 9),.mov (t 1),none⟩,0⟩,
 ⟨⟨(some 10),.bin .sub (.const (Go.Value.int Go.IntKind.u64 32)) (t 9),none⟩,0⟩,
 ⟨⟨(some 11),.bin .shl (t 8) (t 10),none⟩,0⟩,
 ⟨⟨(some 12),.bin .or (t 7) (t 11),none⟩,0⟩,
 ⟨⟨(some 4),.mov (t 12),none⟩,0⟩]
def zapc : TC := (.seq (.ops zau7) (.clean [0,1] (.seq (.ops zau6) (.ret [4]))))
def zapw : TFn := ⟨13,zapc,[.tmp 4],false⟩
theorem U_R01_turn : type_of% (ai @zau7.eq_1 (ai @zau6.eq_1 (ai @zapc.eq_1 @zapw.eq_1))) := ⟨rfl,rfl,rfl,rfl⟩
theorem c_R01_turn : ul Try.prog [] lc = some (13,zapc.erase,[.tmp 4]) := by kernel_rfl
def zaos : List au := [⟨⟨(some 2),.mov (.const (Go.Value.string ⟨#[]⟩)),none⟩,0⟩]
def zaor : List au := [⟨⟨(some 3),.mov (t 0),none⟩,0⟩,
 ⟨⟨(some 4),.call m7 [(t 3)],none⟩,0⟩,
 ⟨⟨(some 5),.bin .add (.const (Go.Value.string ⟨#[115,101,99,114,101,116]⟩)) (t 4),none⟩,0⟩,
 ⟨⟨(some 2),.mov (t 5),none⟩,0⟩]
def zaik : TC := (.seq (.ops zaos) (.clean [0] (.seq (.ops zaor) (.ret [2]))))
def zai5 : TFn := ⟨6,zaik,[.tmp 2],false⟩
theorem za92 : type_of% (ai @zaos.eq_1 (ai @zaor.eq_1 (ai @zaik.eq_1 @zai5.eq_1))) := ⟨rfl,rfl,rfl,rfl⟩
theorem za9o : ul Try.prog [] zq = some (6,zaik.erase,[.tmp 2]) := by kernel_rfl
def zan4 : List au := [⟨⟨(some 4),.mov (.const (Go.Value.string ⟨#[]⟩)),none⟩,0⟩]
def zan3 : List au := [⟨⟨(some 7),.mov (t 1),none⟩,0⟩,
 ⟨⟨(some 8),.bin .lss (t 7) (ci 0),none⟩,0⟩,
 ⟨⟨(some 9),.mov (t 8),none⟩,0⟩,
 ⟨⟨(some 10),.mov (t 1),(some (9,false))⟩,0⟩,
 ⟨⟨(some 11),.bin .gtr (t 10) (ci 255),(some (9,false))⟩,0⟩,
 ⟨⟨(some 12),.pick (t 9) (.const (Go.Value.bool true)) (t 11),none⟩,0⟩]
def zan2 : List au := [⟨⟨(some 4),.mov (.const (Go.Value.string ⟨#[]⟩)),none⟩,0⟩]
def zan1 : List au := [⟨⟨(some 5),.mov (.const (Go.Value.string ⟨#[]⟩)),none⟩,0⟩]
def zan0 : List au := [⟨⟨(some 6),.mov (ci 0),none⟩,0⟩]
def zanz : List au := [⟨⟨(some 13),.mov (t 6),none⟩,0⟩,
 ⟨⟨(some 14),.bin .lss (t 13) (ci 16),none⟩,0⟩]
def zanx : List au := [⟨⟨(some 17),.mov (t 5),none⟩,0⟩,
 ⟨⟨(some 18),.mov (t 0),none⟩,0⟩,
 ⟨⟨(some 19),.mov (t 1),none⟩,0⟩,
 ⟨⟨(some 20),.mov (t 6),none⟩,0⟩,
 ⟨⟨(some 21),.call yi [(t 18),(t 19),(t 20),(ci 0)],none⟩,0⟩,
 ⟨⟨(some 22),.call rr [(t 21)],none⟩,0⟩,
 ⟨⟨(some 23),.bin .add (t 17) (t 22),none⟩,0⟩,
 ⟨⟨(some 24),.mov (t 0),none⟩,0⟩,
 ⟨⟨(some 25),.mov (t 1),none⟩,0⟩,
 ⟨⟨(some 26),.mov (t 6),none⟩,0⟩,
 ⟨⟨(some 27),.call yi [(t 24),(t 25),(t 26),(ci 1)],none⟩,0⟩,
 ⟨⟨(some 28),.call rr [(t 27)],none⟩,0⟩,
 ⟨⟨(some 29),.bin .add (t 23) (t 28),none⟩,0⟩,
 ⟨⟨(some 5),.mov (t 29),none⟩,0⟩]
def zany : List au := [⟨⟨(some 15),.mov (t 6),none⟩,0⟩,
 ⟨⟨(some 16),.bin .add (t 15) (ci 1),none⟩,0⟩,
 ⟨⟨(some 6),.mov (t 16),none⟩,0⟩]
def zabx : TC := (.seq (.seq (.ops zanz) (.clean [0,1,5,6,14] (.cond (t 14) .skip (.exit 0)))) (.clean [0,1,5,6] (.seq (.block 1 [0,1,5,6] (.ops zanx)) (.clean [0,1,5,6] (.ops zany)))))
def zanw : List au := [⟨⟨(some 30),.mov (t 5),none⟩,0⟩,
 ⟨⟨(some 31),.call rr [(t 30)],none⟩,0⟩,
 ⟨⟨(some 4),.mov (t 31),none⟩,0⟩]
def zaij : TC := (.seq (.ops zan4) (.clean [0,1] (.seq (.seq (.ops zan3) (.clean [0,1,12] (.cond (t 12) (.seq (.ops zan2) (.ret [4])) .skip))) (.clean [0,1] (.seq (.ops zan1) (.clean [0,1,5] (.seq (.seq (.ops zan0) (.block 0 [5] (.clean [0,1,5,6] (.loop [0,1,5,6] zabx)))) (.clean [5] (.seq (.ops zanw) (.ret [4]))))))))))
def zai4 : TFn := ⟨32,zaij,[.tmp 4],false⟩
theorem zl : type_of% (ai @zan4.eq_1 (ai @zan3.eq_1 (ai @zan2.eq_1 (ai @zan1.eq_1 (ai @zan0.eq_1 (ai @zanz.eq_1 (ai @zanx.eq_1 (ai @zany.eq_1 (ai @zanw.eq_1 (ai @zaij.eq_1 @zai4.eq_1)))))))))) := ⟨rfl,rfl,rfl,rfl,rfl,rfl,rfl,rfl,rfl,rfl,rfl⟩
theorem za9n : ul Try.prog [] zp = some (32,zaij.erase,[.tmp 4]) := by kernel_rfl
def zar7 : List au := [⟨⟨(some 2),.mov (.const (Go.Value.string ⟨#[]⟩)),none⟩,0⟩]
def zar6 : List au := [⟨⟨(some 3),.mov (t 0),none⟩,0⟩,
 ⟨⟨(some 4),.call zafv [(t 3)],none⟩,0⟩,
 ⟨⟨(some 5),.sliceStr (t 4) none (some (ci 16)),none⟩,0⟩,
 ⟨⟨(some 2),.mov (t 5),none⟩,0⟩]
def zakk : TC := (.seq (.ops zar7) (.clean [0] (.seq (.ops zar6) (.ret [2]))))
def zalu : TFn := ⟨6,zakk,[.tmp 2],false⟩
theorem zbch : type_of% (ai @zar7.eq_1 (ai @zar6.eq_1 (ai @zakk.eq_1 @zalu.eq_1))) := ⟨rfl,rfl,rfl,rfl⟩
theorem zbb7 : ul Try.prog [] rr = some (6,zakk.erase,[.tmp 2]) := by kernel_rfl
def zart : List au := [⟨⟨(some 8),.mov (.const (Go.Value.string ⟨#[]⟩)),none⟩,0⟩]
def zars : List au := [⟨⟨(some 9),.mov (t 1),none⟩,0⟩,
 ⟨⟨(some 10),.bin .lss (t 9) (ci 0),none⟩,0⟩,
 ⟨⟨(some 11),.mov (t 10),none⟩,0⟩,
 ⟨⟨(some 12),.mov (t 1),(some (11,false))⟩,0⟩,
 ⟨⟨(some 13),.bin .gtr (t 12) (ci 255),(some (11,false))⟩,0⟩,
 ⟨⟨(some 14),.pick (t 11) (.const (Go.Value.bool true)) (t 13),none⟩,0⟩,
 ⟨⟨(some 15),.mov (t 14),none⟩,0⟩,
 ⟨⟨(some 16),.mov (t 2),(some (15,false))⟩,0⟩,
 ⟨⟨(some 17),.bin .lss (t 16) (ci 0),(some (15,false))⟩,0⟩,
 ⟨⟨(some 18),.pick (t 15) (.const (Go.Value.bool true)) (t 17),none⟩,0⟩,
 ⟨⟨(some 19),.mov (t 18),none⟩,0⟩,
 ⟨⟨(some 20),.mov (t 2),(some (19,false))⟩,0⟩,
 ⟨⟨(some 21),.bin .geq (t 20) (ci 16),(some (19,false))⟩,0⟩,
 ⟨⟨(some 22),.pick (t 19) (.const (Go.Value.bool true)) (t 21),none⟩,0⟩,
 ⟨⟨(some 23),.mov (t 22),none⟩,0⟩,
 ⟨⟨(some 24),.mov (t 3),(some (23,false))⟩,0⟩,
 ⟨⟨(some 25),.bin .lss (t 24) (ci 0),(some (23,false))⟩,0⟩,
 ⟨⟨(some 26),.pick (t 23) (.const (Go.Value.bool true)) (t 25),none⟩,0⟩,
 ⟨⟨(some 27),.mov (t 26),none⟩,0⟩,
 ⟨⟨(some 28),.mov (t 3),(some (27,false))⟩,0⟩,
 ⟨⟨(some 29),.bin .gtr (t 28) (ci 1),(some (27,false))⟩,0⟩,
 ⟨⟨(some 30),.pick (t 27) (.const (Go.Value.bool true)) (t 29),none⟩,0⟩]
def zarr : List au := [⟨⟨(some 8),.mov (.const (Go.Value.string ⟨#[]⟩)),none⟩,0⟩]
def zarq : List au := [⟨⟨(some 31),.mov (t 0),none⟩,0⟩,
 ⟨⟨(some 32),.mov (t 1),none⟩,0⟩,
 ⟨⟨(some 33),.conv .u8 (t 32),none⟩,0⟩,
 ⟨⟨(some 34),.mov (t 2),none⟩,0⟩,
 ⟨⟨(some 35),.conv .u8 (t 34),none⟩,0⟩,
 ⟨⟨(some 36),.mov (t 3),none⟩,0⟩,
 ⟨⟨(some 37),.conv .u8 (t 36),none⟩,0⟩,
 ⟨⟨(some 38),.buildSl fi 1 3 [(.int .u8 0),(.int .u8 0),(.int .u8 0)] [(0,1,(t 33)),(1,1,(t 35)),(2,1,(t 37))],none⟩,0⟩,
 ⟨⟨(some 39),.toStr (t 38),none⟩,0⟩,
 ⟨⟨(some 40),.bin .add (t 31) (t 39),none⟩,0⟩,
 ⟨⟨(some 41),.call rr [(t 40)],none⟩,0⟩,
 ⟨⟨(some 8),.mov (t 41),none⟩,0⟩]
def zakh : TC := (.seq (.ops zart) (.clean [0,1,2,3] (.seq (.seq (.ops zars) (.clean [0,1,2,3,30] (.cond (t 30) (.seq (.ops zarr) (.ret [8])) .skip))) (.clean [0,1,2,3] (.seq (.ops zarq) (.ret [8]))))))
def zalr : TFn := ⟨42,zakh,[.tmp 8],false⟩
theorem ye : type_of% (ai @zart.eq_1 (ai @zars.eq_1 (ai @zarr.eq_1 (ai @zarq.eq_1 (ai @zakh.eq_1 @zalr.eq_1))))) := ⟨rfl,rfl,rfl,rfl,rfl,rfl⟩
theorem zbb4 : ul Try.prog [] yi = some (42,zakh.erase,[.tmp 8]) := by kernel_rfl
def zavu : List au := [⟨⟨(some 2),.mov (.const (Go.Value.string ⟨#[]⟩)),none⟩,0⟩]
def zavt : List au := [⟨⟨(some 3),.mov (t 0),none⟩,0⟩,
 ⟨⟨(some 4),.call m7 [(t 3)],none⟩,0⟩,
 ⟨⟨(some 5),.bin .add (.const (Go.Value.string ⟨#[115,101,101,100]⟩)) (t 4),none⟩,0⟩,
 ⟨⟨(some 2),.mov (t 5),none⟩,0⟩]
def zape : TC := (.seq (.ops zavu) (.clean [0] (.seq (.ops zavt) (.ret [2]))))
def zapy : TFn := ⟨6,zape,[.tmp 2],false⟩
theorem U_L00_Seed : type_of% (ai @zavu.eq_1 (ai @zavt.eq_1 (ai @zape.eq_1 @zapy.eq_1))) := ⟨rfl,rfl,rfl,rfl⟩
theorem c_L00_Seed : ul Try.prog [] zaey = some (6,zape.erase,[.tmp 2]) := by kernel_rfl
def zasc : List au := [⟨⟨(some 0),.mov (.const (Go.Value.bool false)),none⟩,0⟩]
def zasb : List au := [⟨⟨(some 6),.call zabu [(ci 2),(ci 5),(ci 6)],none⟩,0⟩,
 ⟨⟨(some 1),.box dj 7 (.const (.agg #[(.string ⟨#[]⟩),(.slice none 0 0),(.slice none 0 0),(.slice none 0 0),(.slice none 0 0),(.int .i64 0),(.int .i64 0)])),none⟩,0⟩,
 ⟨⟨none,.store 7 (t 1) (t 6),none⟩,0⟩]
def zasa : List au := [⟨⟨(some 8),.loadN 7 (t 1),none⟩,0⟩,
 ⟨⟨(some 9),.call ra [(t 8)],none⟩,0⟩,
 ⟨⟨(some 10),.call ub [(t 9)],none⟩,0⟩,
 ⟨⟨(some 7),.mov (t 10),none⟩,0⟩,
 ⟨⟨(some 11),.extract (t 7) 0,none⟩,0⟩,
 ⟨⟨(some 12),.extract (t 7) 1,none⟩,0⟩,
 ⟨⟨(some 2),.box dj 7 (.const (.agg #[(.string ⟨#[]⟩),(.slice none 0 0),(.slice none 0 0),(.slice none 0 0),(.slice none 0 0),(.int .i64 0),(.int .i64 0)])),none⟩,0⟩,
 ⟨⟨none,.store 7 (t 2) (t 11),none⟩,0⟩,
 ⟨⟨(some 3),.mov (t 12),none⟩,0⟩]
def zar9 : List au := [⟨⟨(some 14),.call ub [(.const (Go.Value.string ⟨#[]⟩))],none⟩,0⟩,
 ⟨⟨(some 13),.mov (t 14),none⟩,0⟩,
 ⟨⟨(some 15),.extract (t 13) 0,none⟩,0⟩,
 ⟨⟨(some 16),.extract (t 13) 1,none⟩,0⟩,
 ⟨⟨(some 4),.box dj 7 (.const (.agg #[(.string ⟨#[]⟩),(.slice none 0 0),(.slice none 0 0),(.slice none 0 0),(.slice none 0 0),(.int .i64 0),(.int .i64 0)])),none⟩,0⟩,
 ⟨⟨none,.store 7 (t 4) (t 15),none⟩,0⟩,
 ⟨⟨(some 5),.mov (t 16),none⟩,0⟩]
def zar8 : List au := [⟨⟨(some 17),.loadN 7 (t 1),none⟩,0⟩,
 ⟨⟨(some 18),.call o9 [(t 17)],none⟩,0⟩,
 ⟨⟨(some 19),.mov (t 18),none⟩,0⟩,
 ⟨⟨(some 20),.mov (t 3),(some (19,true))⟩,0⟩,
 ⟨⟨(some 21),.bin .eql (t 20) (ci 0),(some (19,true))⟩,0⟩,
 ⟨⟨(some 22),.pick (t 19) (t 21) (.const (Go.Value.bool false)),none⟩,0⟩,
 ⟨⟨(some 23),.mov (t 22),none⟩,0⟩,
 ⟨⟨(some 24),.loadN 7 (t 1),(some (23,true))⟩,0⟩,
 ⟨⟨(some 25),.loadN 7 (t 2),(some (23,true))⟩,0⟩,
 ⟨⟨(some 26),.call yh [(t 24),(t 25)],(some (23,true))⟩,0⟩,
 ⟨⟨(some 27),.pick (t 23) (t 26) (.const (Go.Value.bool false)),none⟩,0⟩,
 ⟨⟨(some 28),.mov (t 27),none⟩,0⟩,
 ⟨⟨(some 29),.mov (t 5),(some (28,true))⟩,0⟩,
 ⟨⟨(some 30),.bin .eql (t 29) (ci 2),(some (28,true))⟩,0⟩,
 ⟨⟨(some 31),.pick (t 28) (t 30) (.const (Go.Value.bool false)),none⟩,0⟩,
 ⟨⟨(some 32),.mov (t 31),none⟩,0⟩,
 ⟨⟨(some 33),.build [(.string ⟨#[]⟩),(.slice none 0 0),(.slice none 0 0),(.slice none 0 0),(.slice none 0 0),(.int .i64 0),(.int .i64 0)] [],(some (32,true))⟩,0⟩,
 ⟨⟨(some 34),.call o9 [(t 33)],(some (32,true))⟩,0⟩,
 ⟨⟨(some 35),.un .not (t 34),(some (32,true))⟩,0⟩,
 ⟨⟨(some 36),.pick (t 32) (t 35) (.const (Go.Value.bool false)),none⟩,0⟩,
 ⟨⟨(some 0),.mov (t 36),none⟩,0⟩]
def zakl : TC := (.seq (.ops zasc) (.clean [] (.seq (.ops zasb) (.clean [1] (.seq (.ops zasa) (.clean [1,2,3] (.seq (.ops zar9) (.clean [1,2,3,5] (.seq (.ops zar8) (.ret [0]))))))))))
def zalv : TFn := ⟨37,zakl,[.tmp 0],false⟩
theorem zafr : type_of% (ai @zasc.eq_1 (ai @zasb.eq_1 (ai @zasa.eq_1 (ai @zar9.eq_1 (ai @zar8.eq_1 (ai @zakl.eq_1 @zalv.eq_1)))))) := ⟨rfl,rfl,rfl,rfl,rfl,rfl,rfl⟩
theorem zbb8 : ul Try.prog [] zabt = some (37,zakl.erase,[.tmp 0]) := by kernel_rfl
def zarf : List au := [⟨⟨(some 2),.box dj 7 (.const (.agg #[(.string ⟨#[]⟩),(.slice none 0 0),(.slice none 0 0),(.slice none 0 0),(.slice none 0 0),(.int .i64 0),(.int .i64 0)])),none⟩,0⟩,
 ⟨⟨(some 3),.mov (ci 0),none⟩,0⟩]
def zare : List au := [⟨⟨(some 7),.mov (t 0),none⟩,0⟩,
 ⟨⟨(some 8),.call zabq [(t 7)],none⟩,0⟩,
 ⟨⟨(some 4),.box cy 1 (.const (.pointer none)),none⟩,0⟩,
 ⟨⟨none,.store 1 (t 4) (t 8),none⟩,0⟩]
def zard : List au := [⟨⟨(some 9),.mkFunc (.func dq) [] [(t 4)],none⟩,0⟩,
 ⟨⟨(some 5),.box j8 1 (.const .nilFunc),none⟩,0⟩,
 ⟨⟨none,.store 1 (t 5) (t 9),none⟩,0⟩]
def zarc : List au := [⟨⟨(some 10),.load1 (t 5),none⟩,0⟩,
 ⟨⟨(some 11),.callv (t 10) [],none⟩,0⟩,
 ⟨⟨(some 12),.build [(.string ⟨#[]⟩),(.slice none 0 0),(.slice none 0 0),(.slice none 0 0),(.slice none 0 0),(.int .i64 0),(.int .i64 0)] [(0,1,(t 11))],none⟩,0⟩,
 ⟨⟨(some 6),.box dj 7 (.const (.agg #[(.string ⟨#[]⟩),(.slice none 0 0),(.slice none 0 0),(.slice none 0 0),(.slice none 0 0),(.int .i64 0),(.int .i64 0)])),none⟩,0⟩,
 ⟨⟨none,.store 7 (t 6) (t 12),none⟩,0⟩]
def zarb : List au := [⟨⟨(some 13),.load1 (t 4),none⟩,0⟩,
 ⟨⟨(some 14),.mkFunc (.func m5) [] [(t 5),(t 4)],none⟩,0⟩,
 ⟨⟨(some 15),.call ig [(t 13),(ci 6),(t 14)],none⟩,0⟩,
 ⟨⟨(some 16),.fieldAddr 1 (t 6),none⟩,0⟩,
 ⟨⟨none,.store 1 (t 16) (t 15),none⟩,0⟩]
def zara : List au := [⟨⟨(some 17),.load1 (t 4),none⟩,0⟩,
 ⟨⟨(some 18),.mkFunc (.func mz) [] [(t 4),(t 5)],none⟩,0⟩,
 ⟨⟨(some 19),.call kb [(t 17),(ci 12),(t 18)],none⟩,0⟩,
 ⟨⟨(some 20),.fieldAddr 2 (t 6),none⟩,0⟩,
 ⟨⟨none,.store 1 (t 20) (t 19),none⟩,0⟩]
def zaq9 : List au := [⟨⟨(some 21),.load1 (t 4),none⟩,0⟩,
 ⟨⟨(some 22),.load1 (t 4),none⟩,0⟩,
 ⟨⟨(some 23),.mkFunc (.func bp) [(t 22)] [],none⟩,0⟩,
 ⟨⟨(some 24),.call om [(t 21),(ci 3),(t 23)],none⟩,0⟩,
 ⟨⟨(some 25),.fieldAddr 3 (t 6),none⟩,0⟩,
 ⟨⟨none,.store 1 (t 25) (t 24),none⟩,0⟩]
def zaq8 : List au := [⟨⟨(some 26),.load1 (t 4),none⟩,0⟩,
 ⟨⟨(some 27),.load1 (t 5),none⟩,0⟩,
 ⟨⟨(some 28),.call jc [(t 26),(ci 3),(t 27)],none⟩,0⟩,
 ⟨⟨(some 29),.fieldAddr 4 (t 6),none⟩,0⟩,
 ⟨⟨none,.store 1 (t 29) (t 28),none⟩,0⟩]
def zaq7 : List (au × List Nat) := [(⟨⟨(some 30),.load1 (t 4),none⟩,0⟩,[]),
 (⟨⟨(some 32),.load1 (t 4),none⟩,0⟩,[]),
 (⟨⟨(some 31),.callW bp [(t 30)],none⟩,7⟩,[1]),
 (⟨⟨(some 34),.fieldAddr 5 (t 6),none⟩,0⟩,[]),
 (⟨⟨(some 33),.callW bp [(t 32)],none⟩,0⟩,[]),
 (⟨⟨none,.store 1 (t 34) (t 31),none⟩,0⟩,[]),
 (⟨⟨(some 35),.fieldAddr 6 (t 6),none⟩,0⟩,[]),
 (⟨⟨none,.store 1 (t 35) (t 33),none⟩,0⟩,[])]
def zaq6 : List au := [⟨⟨(some 36),.load1 (t 4),none⟩,0⟩,
 ⟨⟨(some 37),.call mf [(t 36)],none⟩,0⟩,
 ⟨⟨(some 38),.mov (t 37),none⟩,0⟩,
 ⟨⟨(some 39),.load1 (t 4),(some (38,false))⟩,0⟩,
 ⟨⟨(some 40),.call ky [(t 39)],(some (38,false))⟩,0⟩,
 ⟨⟨(some 41),.bin .gtr (t 40) (ci 0),(some (38,false))⟩,0⟩,
 ⟨⟨(some 42),.pick (t 38) (.const (Go.Value.bool true)) (t 41),none⟩,0⟩,
 ⟨⟨(some 43),.mov (t 42),none⟩,0⟩,
 ⟨⟨(some 44),.loadN 7 (t 6),(some (43,false))⟩,0⟩,
 ⟨⟨(some 45),.call o9 [(t 44)],(some (43,false))⟩,0⟩,
 ⟨⟨(some 46),.un .not (t 45),(some (43,false))⟩,0⟩,
 ⟨⟨(some 47),.pick (t 43) (.const (Go.Value.bool true)) (t 46),none⟩,0⟩]
def zand : List au := [⟨⟨(some 48),.build [(.string ⟨#[]⟩),(.slice none 0 0),(.slice none 0 0),(.slice none 0 0),(.slice none 0 0),(.int .i64 0),(.int .i64 0)] [],none⟩,0⟩,
 ⟨⟨none,.store 7 (t 2) (t 48),none⟩,0⟩,
 ⟨⟨(some 3),.mov (ci 2),none⟩,0⟩]
def zanc : List au := [⟨⟨(some 49),.loadN 7 (t 6),none⟩,0⟩,
 ⟨⟨none,.store 7 (t 2) (t 49),none⟩,0⟩,
 ⟨⟨(some 3),.mov (ci 0),none⟩,0⟩]
def zake : TC := (.seq (.ops zarf) (.clean [0,2] (.seq (.ops zare) (.clean [2,4] (.seq (.ops zard) (.clean [2,4,5] (.seq (.ops zarc) (.clean [2,4,5,6] (.seq (.ops zarb) (.clean [2,4,5,6] (.seq (.ops zara) (.clean [2,4,5,6] (.seq (.ops zaq9) (.clean [2,4,5,6] (.seq (.ops zaq8) (.clean [2,4,6] (.seq (.draw zaq7) (.clean [2,4,6] (.seq (.seq (.ops zaq6) (.clean [2,6,47] (.cond (t 47) (.seq (.ops zand) (.ret [2,3])) .skip))) (.clean [2,6] (.seq (.ops zanc) (.ret [2,3]))))))))))))))))))))))
def zalo : TFn := ⟨50,zake,[.cellN 2 7,.tmp 3],false⟩
theorem zajf : type_of% (ai @zarf.eq_1 (ai @zare.eq_1 (ai @zard.eq_1 (ai @zarc.eq_1 (ai @zarb.eq_1 (ai @zara.eq_1 (ai @zaq9.eq_1 (ai @zaq8.eq_1 (ai @zaq7.eq_1 (ai @zaq6.eq_1 (ai @zand.eq_1 (ai @zanc.eq_1 (ai @zake.eq_1 @zalo.eq_1))))))))))))) := ⟨rfl,rfl,rfl,rfl,rfl,rfl,rfl,rfl,rfl,rfl,rfl,rfl,rfl,rfl⟩
theorem zbb1 : ul Try.prog [(8,⟨[0,2,1,4,3,5,6,7],[0,1,0,7,3,31,63,127],[1,3],[(1,[2])]⟩)] ub = some (50,zake.erase,[.cellN 2 7,.tmp 3]) := by kernel_rfl
def zann : List au := [⟨⟨(some 1),.box dj 7 (t 0),none⟩,0⟩,
 ⟨⟨(some 2),.mov (.const (Go.Value.bool false)),none⟩,0⟩]
def zanm : List (au × List Nat) := [(⟨⟨(some 12),.fieldAddr 1 (t 1),none⟩,0⟩,[]),
 (⟨⟨(some 13),.load1 (t 12),none⟩,0⟩,[]),
 (⟨⟨(some 14),.lenL (t 13),none⟩,0⟩,[]),
 (⟨⟨(some 15),.fieldAddr 3 (t 1),none⟩,0⟩,[]),
 (⟨⟨(some 16),.load1 (t 15),none⟩,0⟩,[]),
 (⟨⟨(some 17),.lenL (t 16),none⟩,0⟩,[]),
 (⟨⟨(some 3),.box uo 1 (.const (.int .i64 0)),none⟩,0⟩,[]),
 (⟨⟨none,.store 1 (t 3) (t 14),none⟩,0⟩,[4]),
 (⟨⟨(some 4),.mov (t 17),none⟩,0⟩,[])]
def zanl : List au := [⟨⟨(some 18),.fieldAddr 0 (t 1),none⟩,0⟩,
 ⟨⟨(some 19),.load1 (t 18),none⟩,0⟩,
 ⟨⟨(some 20),.call ua [(t 19)],none⟩,0⟩,
 ⟨⟨(some 21),.un .not (t 20),none⟩,0⟩,
 ⟨⟨(some 22),.mov (t 21),none⟩,0⟩,
 ⟨⟨(some 23),.load1 (t 3),(some (22,false))⟩,0⟩,
 ⟨⟨(some 24),.call nr [(t 23),(ci 2),(ci 6)],(some (22,false))⟩,0⟩,
 ⟨⟨(some 25),.un .not (t 24),(some (22,false))⟩,0⟩,
 ⟨⟨(some 26),.pick (t 22) (.const (Go.Value.bool true)) (t 25),none⟩,0⟩,
 ⟨⟨(some 27),.mov (t 26),none⟩,0⟩,
 ⟨⟨(some 28),.mov (t 4),(some (27,false))⟩,0⟩,
 ⟨⟨(some 29),.call nr [(t 28),(ci 1),(ci 3)],(some (27,false))⟩,0⟩,
 ⟨⟨(some 30),.un .not (t 29),(some (27,false))⟩,0⟩,
 ⟨⟨(some 31),.pick (t 27) (.const (Go.Value.bool true)) (t 30),none⟩,0⟩,
 ⟨⟨(some 32),.mov (t 31),none⟩,0⟩,
 ⟨⟨(some 33),.fieldAddr 2 (t 1),(some (32,false))⟩,0⟩,
 ⟨⟨(some 34),.load1 (t 33),(some (32,false))⟩,0⟩,
 ⟨⟨(some 35),.lenL (t 34),(some (32,false))⟩,0⟩,
 ⟨⟨(some 36),.call nr [(t 35),(ci 1),(ci 12)],(some (32,false))⟩,0⟩,
 ⟨⟨(some 37),.un .not (t 36),(some (32,false))⟩,0⟩,
 ⟨⟨(some 38),.pick (t 32) (.const (Go.Value.bool true)) (t 37),none⟩,0⟩,
 ⟨⟨(some 39),.mov (t 38),none⟩,0⟩,
 ⟨⟨(some 40),.fieldAddr 4 (t 1),(some (39,false))⟩,0⟩,
 ⟨⟨(some 41),.load1 (t 40),(some (39,false))⟩,0⟩,
 ⟨⟨(some 42),.mov (t 4),(some (39,false))⟩,0⟩,
 ⟨⟨(some 43),.call t9 [(t 41),(t 42),(ci 32)],(some (39,false))⟩,0⟩,
 ⟨⟨(some 44),.un .not (t 43),(some (39,false))⟩,0⟩,
 ⟨⟨(some 45),.pick (t 39) (.const (Go.Value.bool true)) (t 44),none⟩,0⟩,
 ⟨⟨(some 46),.mov (t 45),none⟩,0⟩,
 ⟨⟨(some 47),.fieldAddr 5 (t 1),(some (46,false))⟩,0⟩,
 ⟨⟨(some 48),.load1 (t 47),(some (46,false))⟩,0⟩,
 ⟨⟨(some 49),.call nr [(t 48),(ci 0),(ci 1099511627776)],(some (46,false))⟩,0⟩,
 ⟨⟨(some 50),.un .not (t 49),(some (46,false))⟩,0⟩,
 ⟨⟨(some 51),.pick (t 46) (.const (Go.Value.bool true)) (t 50),none⟩,0⟩,
 ⟨⟨(some 52),.mov (t 51),none⟩,0⟩,
 ⟨⟨(some 53),.fieldAddr 6 (t 1),(some (52,false))⟩,0⟩,
 ⟨⟨(some 54),.load1 (t 53),(some (52,false))⟩,0⟩,
 ⟨⟨(some 55),.call nr [(t 54),(ci 1),(ci 1048576)],(some (52,false))⟩,0⟩,
 ⟨⟨(some 56),.un .not (t 55),(some (52,false))⟩,0⟩,
 ⟨⟨(some 57),.pick (t 52) (.const (Go.Value.bool true)) (t 56),none⟩,0⟩]
def zank : List au := [⟨⟨(some 2),.mov (.const (Go.Value.bool false)),none⟩,0⟩]
def zanj : List au := [⟨⟨(some 5),.mov (.const (Go.Value.slice none 0 0)),none⟩,1⟩]
def zani : List au := [⟨⟨(some 58),.fieldAddr 1 (t 1),none⟩,0⟩,
 ⟨⟨(some 59),.load1 (t 58),none⟩,0⟩,
 ⟨⟨(some 60),.lenL (t 59),none⟩,0⟩,
 ⟨⟨(some 61),.mov (ci 0),none⟩,0⟩]
def zanh : List au := [⟨⟨(some 62),.bin .lss (t 61) (t 60),none⟩,0⟩]
def zang : List au := [⟨⟨(some 63),.indexSl 2 (t 59) (t 61),none⟩,0⟩,
 ⟨⟨(some 64),.loadN 2 (t 63),none⟩,0⟩,
 ⟨⟨(some 7),.box dp 2 (.const (.agg #[(.string ⟨#[]⟩),(.slice none 0 0)])),none⟩,0⟩,
 ⟨⟨none,.store 2 (t 7) (t 64),none⟩,0⟩]
def zanf : List au := [⟨⟨(some 65),.fieldAddr 0 (t 7),none⟩,0⟩,
 ⟨⟨(some 66),.load1 (t 65),none⟩,0⟩,
 ⟨⟨(some 67),.call ua [(t 66)],none⟩,0⟩,
 ⟨⟨(some 68),.un .not (t 67),none⟩,0⟩,
 ⟨⟨(some 69),.mov (t 68),none⟩,0⟩,
 ⟨⟨(some 70),.fieldAddr 1 (t 7),(some (69,false))⟩,0⟩,
 ⟨⟨(some 71),.load1 (t 70),(some (69,false))⟩,0⟩,
 ⟨⟨(some 72),.mov (t 4),(some (69,false))⟩,0⟩,
 ⟨⟨(some 73),.call t9 [(t 71),(t 72),(ci 16)],(some (69,false))⟩,0⟩,
 ⟨⟨(some 74),.un .not (t 73),(some (69,false))⟩,0⟩,
 ⟨⟨(some 75),.pick (t 69) (.const (Go.Value.bool true)) (t 74),none⟩,0⟩]
def zane : List au := [⟨⟨(some 2),.mov (.const (Go.Value.bool false)),none⟩,0⟩]
def zalf : List au := [⟨⟨(some 76),.mov (t 5),none⟩,0⟩,
 ⟨⟨(some 77),.fieldAddr 0 (t 7),none⟩,0⟩,
 ⟨⟨(some 78),.load1 (t 77),none⟩,0⟩,
 ⟨⟨(some 79),.buildSl fq 1 1 [(.string ⟨#[]⟩)] [(0,1,(t 78))],none⟩,0⟩,
 ⟨⟨(some 80),.append fq 1 16 (t 76) (t 79),none⟩,0⟩,
 ⟨⟨(some 5),.mov (t 80),none⟩,0⟩]
def zale : List au := [⟨⟨(some 81),.bin .add (t 61) (ci 1),none⟩,0⟩,
 ⟨⟨(some 61),.mov (t 81),none⟩,0⟩]
def r9 : TC := (.seq (.ops zanh) (.clean [1,3,4,5,59,60,61,62] (.seq (.cond (t 62) .skip (.exit 0)) (.clean [1,3,4,5,59,60,61] (.seq (.block 1 [1,3,4,5,59,60,61] (.seq (.ops zang) (.clean [1,3,4,5,7,59,60,61] (.seq (.seq (.ops zanf) (.clean [1,3,4,5,7,59,60,61,75] (.cond (t 75) (.seq (.ops zane) (.ret [2])) .skip))) (.clean [1,3,4,5,7,59,60,61] (.ops zalf)))))) (.clean [1,3,4,5,59,60,61] (.ops zale)))))))
def zald : List au := [⟨⟨(some 8),.mov (.const (Go.Value.slice none 0 0)),none⟩,1⟩]
def zalc : List au := [⟨⟨(some 82),.fieldAddr 2 (t 1),none⟩,0⟩,
 ⟨⟨(some 83),.load1 (t 82),none⟩,0⟩,
 ⟨⟨(some 84),.lenL (t 83),none⟩,0⟩,
 ⟨⟨(some 85),.mov (ci 0),none⟩,0⟩]
def zalb : List au := [⟨⟨(some 86),.bin .lss (t 85) (t 84),none⟩,0⟩]
def zala : List au := [⟨⟨(some 87),.indexSl 5 (t 83) (t 85),none⟩,0⟩,
 ⟨⟨(some 88),.loadN 5 (t 87),none⟩,0⟩,
 ⟨⟨(some 10),.box mn 5 (.const (.agg #[(.int .i64 0),(.int .i64 0),(.int .i64 0),(.string ⟨#[]⟩),(.int .i64 0)])),none⟩,0⟩,
 ⟨⟨none,.store 5 (t 10) (t 88),none⟩,0⟩]
def zak9 : List au := [⟨⟨(some 89),.loadN 5 (t 10),none⟩,0⟩,
 ⟨⟨(some 90),.load1 (t 3),none⟩,0⟩,
 ⟨⟨(some 91),.call zaew [(t 89),(t 90)],none⟩,0⟩,
 ⟨⟨(some 92),.un .not (t 91),none⟩,0⟩]
def zak8 : List au := [⟨⟨(some 2),.mov (.const (Go.Value.bool false)),none⟩,0⟩]
def zak7 : List au := [⟨⟨(some 93),.mov (t 8),none⟩,0⟩,
 ⟨⟨(some 94),.fieldAddr 0 (t 10),none⟩,0⟩,
 ⟨⟨(some 95),.load1 (t 94),none⟩,0⟩,
 ⟨⟨(some 96),.fieldAddr 1 (t 10),none⟩,0⟩,
 ⟨⟨(some 97),.load1 (t 96),none⟩,0⟩,
 ⟨⟨(some 98),.build [(.int .i64 0),(.int .i64 0)] [(0,1,(t 95)),(1,1,(t 97))],none⟩,0⟩,
 ⟨⟨(some 99),.buildSl qh 2 1 [(.int .i64 0),(.int .i64 0)] [(0,2,(t 98))],none⟩,0⟩,
 ⟨⟨(some 100),.append qh 2 16 (t 93) (t 99),none⟩,0⟩,
 ⟨⟨(some 8),.mov (t 100),none⟩,0⟩]
def zak6 : List au := [⟨⟨(some 101),.bin .add (t 85) (ci 1),none⟩,0⟩,
 ⟨⟨(some 85),.mov (t 101),none⟩,0⟩]
def vv : TC := (.seq (.ops zalb) (.clean [1,3,5,8,83,84,85,86] (.seq (.cond (t 86) .skip (.exit 2)) (.clean [1,3,5,8,83,84,85] (.seq (.block 3 [1,3,5,8,83,84,85] (.seq (.ops zala) (.clean [1,3,5,8,10,83,84,85] (.seq (.seq (.ops zak9) (.clean [1,3,5,8,10,83,84,85,92] (.cond (t 92) (.seq (.ops zak8) (.ret [2])) .skip))) (.clean [1,3,5,8,10,83,84,85] (.ops zak7)))))) (.clean [1,3,5,8,83,84,85] (.ops zak6)))))))
def zak5 : List au := [⟨⟨(some 102),.mkFunc (.func iq) [] [(t 3)],none⟩,0⟩,
 ⟨⟨(some 11),.mov (t 102),none⟩,0⟩]
def zak4 : List au := [⟨⟨(some 103),.mov (t 5),none⟩,0⟩,
 ⟨⟨(some 104),.call g9 [(t 103)],none⟩,0⟩,
 ⟨⟨(some 105),.mov (t 104),none⟩,0⟩,
 ⟨⟨(some 106),.mov (t 8),(some (105,true))⟩,0⟩,
 ⟨⟨(some 107),.call jo [(t 106)],(some (105,true))⟩,0⟩,
 ⟨⟨(some 108),.pick (t 105) (t 107) (.const (Go.Value.bool false)),none⟩,0⟩,
 ⟨⟨(some 109),.mov (t 108),none⟩,0⟩,
 ⟨⟨(some 110),.fieldAddr 3 (t 1),(some (109,true))⟩,0⟩,
 ⟨⟨(some 111),.load1 (t 110),(some (109,true))⟩,0⟩,
 ⟨⟨(some 112),.call l6 [(t 111)],(some (109,true))⟩,0⟩,
 ⟨⟨(some 113),.pick (t 109) (t 112) (.const (Go.Value.bool false)),none⟩,0⟩,
 ⟨⟨(some 114),.mov (t 113),none⟩,0⟩,
 ⟨⟨(some 115),.fieldAddr 3 (t 1),(some (114,true))⟩,0⟩,
 ⟨⟨(some 116),.load1 (t 115),(some (114,true))⟩,0⟩,
 ⟨⟨(some 117),.mov (t 11),(some (114,true))⟩,0⟩,
 ⟨⟨(some 118),.call ee [(t 116),(t 117)],(some (114,true))⟩,0⟩,
 ⟨⟨(some 119),.un .not (t 118),(some (114,true))⟩,0⟩,
 ⟨⟨(some 120),.pick (t 114) (t 119) (.const (Go.Value.bool false)),none⟩,0⟩,
 ⟨⟨(some 2),.mov (t 120),none⟩,0⟩]
def zaig : TC := (.seq (.ops zann) (.clean [1] (.seq (.draw zanm) (.clean [1,3,4] (.seq (.seq (.ops zanl) (.clean [1,3,4,57] (.cond (t 57) (.seq (.ops zank) (.ret [2])) .skip))) (.clean [1,3,4] (.seq (.ops zanj) (.clean [1,3,4,5] (.seq (.seq (.ops zani) (.block 0 [1,3,5] (.clean [1,3,4,5,59,60,61] (.loop [1,3,4,5,59,60,61] r9)))) (.clean [1,3,5] (.seq (.ops zald) (.clean [1,3,5,8] (.seq (.seq (.ops zalc) (.block 2 [1,3,5,8] (.clean [1,3,5,8,83,84,85] (.loop [1,3,5,8,83,84,85] vv)))) (.clean [1,3,5,8] (.seq (.ops zak5) (.clean [1,5,8,11] (.seq (.ops zak4) (.ret [2]))))))))))))))))))
def zai1 : TFn := ⟨121,zaig,[.tmp 2],false⟩
theorem dh : type_of% (ai @zann.eq_1 (ai @zanm.eq_1 (ai @zanl.eq_1 (ai @zank.eq_1 (ai @zanj.eq_1 (ai @zani.eq_1 (ai @zanh.eq_1 (ai @zang.eq_1 (ai @zanf.eq_1 (ai @zane.eq_1 (ai @zalf.eq_1 (ai @zale.eq_1 (ai @zald.eq_1 (ai @zalc.eq_1 (ai @zalb.eq_1 (ai @zala.eq_1 (ai @zak9.eq_1 (ai @zak8.eq_1 (ai @zak7.eq_1 (ai @zak6.eq_1 (ai @zak5.eq_1 (ai @zak4.eq_1 (ai @zaig.eq_1 @zai1.eq_1))))))))))))))))))))))) := ⟨rfl,rfl,rfl,rfl,rfl,rfl,rfl,rfl,rfl,rfl,rfl,rfl,rfl,rfl,rfl,rfl,rfl,rfl,rfl,rfl,rfl,rfl,rfl,rfl⟩
theorem za9k : ul Try.prog [(1,⟨[0,1,2,3,4,5,6,7,8],[0,1,3,0,8,24,0,71,255],[],[(7,[4])]⟩)] o9 = some (121,zaig.erase,[.tmp 2]) := by kernel_rfl
def zaq2 : List au := [⟨⟨(some 2),.mov (.const (Go.Value.bool false)),none⟩,0⟩]
def zaq1 : List au := [⟨⟨(some 3),.mov (t 0),none⟩,0⟩,
 ⟨⟨(some 4),.lenS (t 3),none⟩,0⟩,
 ⟨⟨(some 5),.bin .geq (t 4) (ci 1),none⟩,0⟩,
 ⟨⟨(some 6),.mov (t 5),none⟩,0⟩,
 ⟨⟨(some 7),.mov (t 0),(some (6,true))⟩,0⟩,
 ⟨⟨(some 8),.lenS (t 7),(some (6,true))⟩,0⟩,
 ⟨⟨(some 9),.bin .leq (t 8) (ci 16),(some (6,true))⟩,0⟩,
 ⟨⟨(some 10),.pick (t 6) (t 9) (.const (Go.Value.bool false)),none⟩,0⟩,
 ⟨⟨(some 2),.mov (t 10),none⟩,0⟩]
def zakc : TC := (.seq (.ops zaq2) (.clean [0] (.seq (.ops zaq1) (.ret [2]))))
def zalm : TFn := ⟨11,zakc,[.tmp 2],false⟩
theorem zazz : type_of% (ai @zaq2.eq_1 (ai @zaq1.eq_1 (ai @zakc.eq_1 @zalm.eq_1))) := ⟨rfl,rfl,rfl,rfl⟩
theorem zbbz : ul Try.prog [] ua = some (11,zakc.erase,[.tmp 2]) := by kernel_rfl
def zaym : List au := [⟨⟨(some 6),.mov (.const (Go.Value.bool false)),none⟩,0⟩]
def zayl : List au := [⟨⟨(some 7),.mov (t 0),none⟩,0⟩,
 ⟨⟨(some 8),.mov (t 1),none⟩,0⟩,
 ⟨⟨(some 9),.bin .geq (t 7) (t 8),none⟩,0⟩,
 ⟨⟨(some 10),.mov (t 9),none⟩,0⟩,
 ⟨⟨(some 11),.mov (t 0),(some (10,true))⟩,0⟩,
 ⟨⟨(some 12),.mov (t 2),(some (10,true))⟩,0⟩,
 ⟨⟨(some 13),.bin .leq (t 11) (t 12),(some (10,true))⟩,0⟩,
 ⟨⟨(some 14),.pick (t 10) (t 13) (.const (Go.Value.bool false)),none⟩,0⟩,
 ⟨⟨(some 6),.mov (t 14),none⟩,0⟩]
def zat8 : TC := (.seq (.ops zaym) (.clean [0,1,2] (.seq (.ops zayl) (.ret [6]))))
def zaus : TFn := ⟨15,zat8,[.tmp 6],false⟩
theorem za90 : type_of% (ai @zaym.eq_1 (ai @zayl.eq_1 (ai @zat8.eq_1 @zaus.eq_1))) := ⟨rfl,rfl,rfl,rfl⟩
theorem c_spec_in : ul Try.prog [] nr = some (15,zat8.erase,[.tmp 6]) := by kernel_rfl
def zanb : List au := [⟨⟨(some 5),.box uo 1 (t 2),none⟩,0⟩,
 ⟨⟨(some 6),.mov (.const (Go.Value.bool false)),none⟩,0⟩]
def zana : List au := [⟨⟨(some 7),.mov (t 0),none⟩,0⟩,
 ⟨⟨(some 8),.lenL (t 7),none⟩,0⟩,
 ⟨⟨(some 9),.mov (t 1),none⟩,0⟩,
 ⟨⟨(some 10),.bin .eql (t 8) (t 9),none⟩,0⟩,
 ⟨⟨(some 11),.mov (t 10),none⟩,0⟩,
 ⟨⟨(some 12),.mov (t 0),(some (11,true))⟩,0⟩,
 ⟨⟨(some 13),.mkFunc (.func ip) [] [(t 5)],(some (11,true))⟩,0⟩,
 ⟨⟨(some 14),.call cw [(t 12),(t 13)],(some (11,true))⟩,0⟩,
 ⟨⟨(some 15),.un .not (t 14),(some (11,true))⟩,0⟩,
 ⟨⟨(some 16),.pick (t 11) (t 15) (.const (Go.Value.bool false)),none⟩,0⟩,
 ⟨⟨(some 6),.mov (t 16),none⟩,0⟩]
def zaif : TC := (.seq (.ops zanb) (.clean [0,1,5] (.seq (.ops zana) (.ret [6]))))
def zai0 : TFn := ⟨17,zaif,[.tmp 6],false⟩
theorem zav7 : type_of% (ai @zanb.eq_1 (ai @zana.eq_1 (ai @zaif.eq_1 @zai0.eq_1))) := ⟨rfl,rfl,rfl,rfl⟩
theorem za9j : ul Try.prog [] t9 = some (17,zaif.erase,[.tmp 6]) := by kernel_rfl
def mm : List au := [⟨⟨(some 4),.mov (.const (Go.Value.bool false)),none⟩,0⟩]
def ml : List au := [⟨⟨(some 5),.mov (t 0),none⟩,0⟩,
 ⟨⟨(some 6),.mov (t 1),none⟩,0⟩,
 ⟨⟨(some 7),.call dk [(t 5),(t 6)],none⟩,0⟩,
 ⟨⟨(some 8),.bin .geq (t 7) (ci 0),none⟩,0⟩,
 ⟨⟨(some 4),.mov (t 8),none⟩,0⟩]
def ik : TC := (.seq (.ops mm) (.clean [0,1] (.seq (.ops ml) (.ret [4]))))
def io : TFn := ⟨9,ik,[.tmp 4],false⟩
theorem yd : type_of% (ai @mm.eq_1 (ai @ml.eq_1 (ai @ik.eq_1 @io.eq_1))) := ⟨rfl,rfl,rfl,rfl⟩
theorem yb : ul Try.prog [] cw = some (9,ik.erase,[.tmp 4]) := by kernel_rfl
def oi : List au := [⟨⟨(some 4),.mov (ci 0),none⟩,0⟩]
def oh : List au := [⟨⟨(some 6),.mov (t 0),none⟩,0⟩,
 ⟨⟨(some 7),.lenL (t 6),none⟩,0⟩,
 ⟨⟨(some 8),.mov (ci 0),none⟩,0⟩]
def og : List au := [⟨⟨(some 9),.bin .lss (t 8) (t 7),none⟩,0⟩]
def od : List au := [⟨⟨(some 10),.mov (t 8),none⟩,0⟩,
 ⟨⟨(some 5),.mov (t 10),none⟩,0⟩]
def oa : List au := [⟨⟨(some 11),.mov (t 1),none⟩,0⟩,
 ⟨⟨(some 12),.mov (t 0),none⟩,0⟩,
 ⟨⟨(some 13),.mov (t 5),none⟩,0⟩,
 ⟨⟨(some 14),.indexSl 1 (t 12) (t 13),none⟩,0⟩,
 ⟨⟨(some 15),.load1 (t 14),none⟩,0⟩,
 ⟨⟨(some 16),.callv (t 11) [(t 15)],none⟩,0⟩]
def n9 : List au := [⟨⟨(some 17),.mov (t 5),none⟩,0⟩,
 ⟨⟨(some 4),.mov (t 17),none⟩,0⟩]
def n8 : List au := [⟨⟨(some 18),.bin .add (t 8) (ci 1),none⟩,0⟩,
 ⟨⟨(some 8),.mov (t 18),none⟩,0⟩]
def d7 : TC := (.seq (.ops og) (.clean [0,1,7,8,9] (.seq (.cond (t 9) .skip (.exit 0)) (.clean [0,1,7,8] (.seq (.block 1 [0,1,7,8] (.seq (.ops od) (.clean [0,1,5,7,8] (.seq (.ops oa) (.clean [0,1,5,7,8,16] (.cond (t 16) (.seq (.ops n9) (.ret [4])) .skip)))))) (.clean [0,1,7,8] (.ops n8)))))))
def n7 : List au := [⟨⟨(some 4),.mov (ci (-1)),none⟩,0⟩]
def jv : TC := (.seq (.ops oi) (.clean [0,1] (.seq (.seq (.ops oh) (.block 0 [] (.clean [0,1,7,8] (.loop [0,1,7,8] d7)))) (.clean [] (.seq (.ops n7) (.ret [4]))))))
def j0 : TFn := ⟨19,jv,[.tmp 4],false⟩
theorem di : type_of% (ai @oi.eq_1 (ai @oh.eq_1 (ai @og.eq_1 (ai @od.eq_1 (ai @oa.eq_1 (ai @n9.eq_1 (ai @n8.eq_1 (ai @n7.eq_1 (ai @jv.eq_1 @j0.eq_1))))))))) := ⟨rfl,rfl,rfl,rfl,rfl,rfl,rfl,rfl,rfl,rfl⟩
theorem zaav : ul Try.prog [] dk = some (19,jv.erase,[.tmp 4]) := by kernel_rfl
def zajn : List au := [⟨⟨(some 3),.mov (.const (Go.Value.bool false)),none⟩,0⟩]
def zajm : List au := [⟨⟨(some 4),.mov (t 0),none⟩,0⟩,
 ⟨⟨(some 5),.lenS (t 4),none⟩,0⟩,
 ⟨⟨(some 6),.load1 (t 1),none⟩,0⟩,
 ⟨⟨(some 7),.bin .neq (t 5) (t 6),none⟩,0⟩,
 ⟨⟨(some 3),.mov (t 7),none⟩,0⟩]
def zae2 : TC := (.seq (.ops zajn) (.clean [0,1] (.seq (.ops zajm) (.ret [3]))))
def zafl : TFn := ⟨8,zae2,[.tmp 3],false⟩
theorem za0t : type_of% (ai @zajn.eq_1 (ai @zajm.eq_1 (ai @zae2.eq_1 @zafl.eq_1))) := ⟨rfl,rfl,rfl,rfl⟩
theorem za0n : ul Try.prog [] ip = some (8,zae2.erase,[.tmp 3]) := by kernel_rfl
def zau5 : List au := [⟨⟨(some 2),.box mn 5 (t 0),none⟩,0⟩,
 ⟨⟨(some 4),.mov (.const (Go.Value.bool false)),none⟩,0⟩]
def zau4 : List au := [⟨⟨(some 5),.fieldAddr 0 (t 2),none⟩,0⟩,
 ⟨⟨(some 6),.load1 (t 5),none⟩,0⟩,
 ⟨⟨(some 7),.mov (t 1),none⟩,0⟩,
 ⟨⟨(some 8),.bin .sub (t 7) (ci 1),none⟩,0⟩,
 ⟨⟨(some 9),.call nr [(t 6),(ci 0),(t 8)],none⟩,0⟩,
 ⟨⟨(some 10),.mov (t 9),none⟩,0⟩,
 ⟨⟨(some 11),.fieldAddr 1 (t 2),(some (10,true))⟩,0⟩,
 ⟨⟨(some 12),.load1 (t 11),(some (10,true))⟩,0⟩,
 ⟨⟨(some 13),.mov (t 1),(some (10,true))⟩,0⟩,
 ⟨⟨(some 14),.bin .sub (t 13) (ci 1),(some (10,true))⟩,0⟩,
 ⟨⟨(some 15),.call nr [(t 12),(ci 0),(t 14)],(some (10,true))⟩,0⟩,
 ⟨⟨(some 16),.pick (t 10) (t 15) (.const (Go.Value.bool false)),none⟩,0⟩,
 ⟨⟨(some 17),.mov (t 16),none⟩,0⟩,
 ⟨⟨(some 18),.fieldAddr 0 (t 2),(some (17,true))⟩,0⟩,
 ⟨⟨(some 19),.load1 (t 18),(some (17,true))⟩,0⟩,
 ⟨⟨(some 20),.fieldAddr 1 (t 2),(some (17,true))⟩,0⟩,
 ⟨⟨(some 21),.load1 (t 20),(some (17,true))⟩,0⟩,
 ⟨⟨(some 22),.bin .neq (t 19) (t 21),(some (17,true))⟩,0⟩,
 ⟨⟨(some 23),.pick (t 17) (t 22) (.const (Go.Value.bool false)),none⟩,0⟩,
 ⟨⟨(some 24),.mov (t 23),none⟩,0⟩,
 ⟨⟨(some 25),.fieldAddr 2 (t 2),(some (24,true))⟩,0⟩,
 ⟨⟨(some 26),.load1 (t 25),(some (24,true))⟩,0⟩,
 ⟨⟨(some 27),.call nr [(t 26),(ci 0),(ci 3)],(some (24,true))⟩,0⟩,
 ⟨⟨(some 28),.pick (t 24) (t 27) (.const (Go.Value.bool false)),none⟩,0⟩,
 ⟨⟨(some 29),.mov (t 28),none⟩,0⟩,
 ⟨⟨(some 30),.fieldAddr 3 (t 2),(some (29,true))⟩,0⟩,
 ⟨⟨(some 31),.load1 (t 30),(some (29,true))⟩,0⟩,
 ⟨⟨(some 32),.call ua [(t 31)],(some (29,true))⟩,0⟩,
 ⟨⟨(some 33),.pick (t 29) (t 32) (.const (Go.Value.bool false)),none⟩,0⟩,
 ⟨⟨(some 34),.mov (t 33),none⟩,0⟩,
 ⟨⟨(some 35),.fieldAddr 4 (t 2),(some (34,true))⟩,0⟩,
 ⟨⟨(some 36),.load1 (t 35),(some (34,true))⟩,0⟩,
 ⟨⟨(some 37),.call nr [(t 36),(ci 1),(ci 1125899906842624)],(some (34,true))⟩,0⟩,
 ⟨⟨(some 38),.pick (t 34) (t 37) (.const (Go.Value.bool false)),none⟩,0⟩,
 ⟨⟨(some 4),.mov (t 38),none⟩,0⟩]
def zapb : TC := (.seq (.ops zau5) (.clean [1,2] (.seq (.ops zau4) (.ret [4]))))
def zapv : TFn := ⟨39,zapb,[.tmp 4],false⟩
theorem zaeu : type_of% (ai @zau5.eq_1 (ai @zau4.eq_1 (ai @zapb.eq_1 @zapv.eq_1))) := ⟨rfl,rfl,rfl,rfl⟩
theorem c_spec_arc : ul Try.prog [] zaew = some (39,zapb.erase,[.tmp 4]) := by kernel_rfl
def zajp : List au := [⟨⟨(some 3),.mov (.const (Go.Value.bool false)),none⟩,0⟩]
def zajo : List au := [⟨⟨(some 4),.mov (t 0),none⟩,0⟩,
 ⟨⟨(some 5),.load1 (t 1),none⟩,0⟩,
 ⟨⟨(some 6),.bin .sub (t 5) (ci 1),none⟩,0⟩,
 ⟨⟨(some 7),.call nr [(t 4),(ci 0),(t 6)],none⟩,0⟩,
 ⟨⟨(some 8),.un .not (t 7),none⟩,0⟩,
 ⟨⟨(some 3),.mov (t 8),none⟩,0⟩]
def zae3 : TC := (.seq (.ops zajp) (.clean [0,1] (.seq (.ops zajo) (.ret [3]))))
def zafm : TFn := ⟨9,zae3,[.tmp 3],false⟩
theorem za0u : type_of% (ai @zajp.eq_1 (ai @zajo.eq_1 (ai @zae3.eq_1 @zafm.eq_1))) := ⟨rfl,rfl,rfl,rfl⟩
theorem za0o : ul Try.prog [] iq = some (9,zae3.erase,[.tmp 3]) := by kernel_rfl
def vf : List au := [⟨⟨(some 2),.mov (.const (Go.Value.bool false)),none⟩,0⟩]
def ve : List au := [⟨⟨(some 6),.mkMap,none⟩,0⟩,
 ⟨⟨(some 3),.mov (t 6),none⟩,0⟩]
def vd : List au := [⟨⟨(some 7),.mov (t 0),none⟩,0⟩,
 ⟨⟨(some 8),.lenL (t 7),none⟩,0⟩,
 ⟨⟨(some 9),.mov (ci 0),none⟩,0⟩]
def vc : List au := [⟨⟨(some 10),.bin .lss (t 9) (t 8),none⟩,0⟩]
def vb : List au := [⟨⟨(some 11),.indexSl 1 (t 7) (t 9),none⟩,0⟩,
 ⟨⟨(some 12),.load1 (t 11),none⟩,0⟩,
 ⟨⟨(some 5),.mov (t 12),none⟩,0⟩]
def va : List au := [⟨⟨(some 13),.mov (t 3),none⟩,0⟩,
 ⟨⟨(some 14),.mov (t 5),none⟩,0⟩,
 ⟨⟨(some 15),.mapGet fq (t 13) (t 14),none⟩,0⟩]
def u9 : List au := [⟨⟨(some 2),.mov (.const (Go.Value.bool false)),none⟩,0⟩]
def u7 : List au := [⟨⟨(some 16),.mov (t 3),none⟩,0⟩,
 ⟨⟨(some 17),.mov (t 5),none⟩,0⟩,
 ⟨⟨none,.mapSet fq (t 16) (t 17) (.const (Go.Value.bool true)),none⟩,0⟩]
def u6 : List au := [⟨⟨(some 18),.bin .add (t 9) (ci 1),none⟩,0⟩,
 ⟨⟨(some 9),.mov (t 18),none⟩,0⟩]
def zad9 : TC := (.seq (.ops vc) (.clean [3,7,8,9,10] (.seq (.cond (t 10) .skip (.exit 0)) (.clean [3,7,8,9] (.seq (.block 1 [3,7,8,9] (.seq (.ops vb) (.clean [3,5,7,8,9] (.seq (.seq (.ops va) (.clean [3,5,7,8,9,15] (.cond (t 15) (.seq (.ops u9) (.ret [2])) .skip))) (.clean [3,5,7,8,9] (.ops u7)))))) (.clean [3,7,8,9] (.ops u6)))))))
def u5 : List au := [⟨⟨(some 2),.mov (.const (Go.Value.bool true)),none⟩,0⟩]
def re : TC := (.seq (.ops vf) (.clean [0] (.seq (.ops ve) (.clean [0,3] (.seq (.seq (.ops vd) (.block 0 [] (.clean [3,7,8,9] (.loop [3,7,8,9] zad9)))) (.clean [] (.seq (.ops u5) (.ret [2]))))))))
theorem zato : ul Try.prog [] g9 = some (19,re.erase,[.tmp 2]) := by kernel_rfl
def xv : List au := [⟨⟨(some 2),.mov (.const (Go.Value.bool false)),none⟩,0⟩]
def xu : List au := [⟨⟨(some 6),.mkMap,none⟩,0⟩,
 ⟨⟨(some 3),.mov (t 6),none⟩,0⟩]
def xt : List au := [⟨⟨(some 7),.mov (t 0),none⟩,0⟩,
 ⟨⟨(some 8),.lenL (t 7),none⟩,0⟩,
 ⟨⟨(some 9),.mov (ci 0),none⟩,0⟩]
def xq : List au := [⟨⟨(some 10),.bin .lss (t 9) (t 8),none⟩,0⟩]
def xp : List au := [⟨⟨(some 11),.indexSl 2 (t 7) (t 9),none⟩,0⟩,
 ⟨⟨(some 12),.loadN 2 (t 11),none⟩,0⟩,
 ⟨⟨(some 5),.box qh 2 (.const (.agg #[(.int .i64 0),(.int .i64 0)])),none⟩,0⟩,
 ⟨⟨none,.store 2 (t 5) (t 12),none⟩,0⟩]
def xo : List au := [⟨⟨(some 13),.mov (t 3),none⟩,0⟩,
 ⟨⟨(some 14),.loadN 2 (t 5),none⟩,0⟩,
 ⟨⟨(some 15),.mapGet qh (t 13) (t 14),none⟩,0⟩]
def xn : List au := [⟨⟨(some 2),.mov (.const (Go.Value.bool false)),none⟩,0⟩]
def xm : List au := [⟨⟨(some 16),.mov (t 3),none⟩,0⟩,
 ⟨⟨(some 17),.loadN 2 (t 5),none⟩,0⟩,
 ⟨⟨none,.mapSet qh (t 16) (t 17) (.const (Go.Value.bool true)),none⟩,0⟩]
def xl : List au := [⟨⟨(some 18),.bin .add (t 9) (ci 1),none⟩,0⟩,
 ⟨⟨(some 9),.mov (t 18),none⟩,0⟩]
def zafh : TC := (.seq (.ops xq) (.clean [3,7,8,9,10] (.seq (.cond (t 10) .skip (.exit 0)) (.clean [3,7,8,9] (.seq (.block 1 [3,7,8,9] (.seq (.ops xp) (.clean [3,5,7,8,9] (.seq (.seq (.ops xo) (.clean [3,5,7,8,9,15] (.cond (t 15) (.seq (.ops xn) (.ret [2])) .skip))) (.clean [3,5,7,8,9] (.ops xm)))))) (.clean [3,7,8,9] (.ops xl)))))))
def xk : List au := [⟨⟨(some 2),.mov (.const (Go.Value.bool true)),none⟩,0⟩]
def sg : TC := (.seq (.ops xv) (.clean [0] (.seq (.ops xu) (.clean [0,3] (.seq (.seq (.ops xt) (.block 0 [] (.clean [3,7,8,9] (.loop [3,7,8,9] zafh)))) (.clean [] (.seq (.ops xk) (.ret [2]))))))))
theorem zauu : ul Try.prog [] jo = some (19,sg.erase,[.tmp 2]) := by kernel_rfl
def zabj : List au := [⟨⟨(some 2),.mov (.const (Go.Value.bool false)),none⟩,0⟩]
def zabi : List au := [⟨⟨(some 6),.mkMap,none⟩,0⟩,
 ⟨⟨(some 3),.mov (t 6),none⟩,0⟩]
def zabh : List au := [⟨⟨(some 7),.mov (t 0),none⟩,0⟩,
 ⟨⟨(some 8),.lenL (t 7),none⟩,0⟩,
 ⟨⟨(some 9),.mov (ci 0),none⟩,0⟩]
def zabg : List au := [⟨⟨(some 10),.bin .lss (t 9) (t 8),none⟩,0⟩]
def zabf : List au := [⟨⟨(some 11),.indexSl 1 (t 7) (t 9),none⟩,0⟩,
 ⟨⟨(some 12),.load1 (t 11),none⟩,0⟩,
 ⟨⟨(some 5),.mov (t 12),none⟩,0⟩]
def zabe : List au := [⟨⟨(some 13),.mov (t 3),none⟩,0⟩,
 ⟨⟨(some 14),.mov (t 5),none⟩,0⟩,
 ⟨⟨(some 15),.mapGet uo (t 13) (t 14),none⟩,0⟩]
def zabd : List au := [⟨⟨(some 2),.mov (.const (Go.Value.bool false)),none⟩,0⟩]
def zabc : List au := [⟨⟨(some 16),.mov (t 3),none⟩,0⟩,
 ⟨⟨(some 17),.mov (t 5),none⟩,0⟩,
 ⟨⟨none,.mapSet uo (t 16) (t 17) (.const (Go.Value.bool true)),none⟩,0⟩]
def zabb : List au := [⟨⟨(some 18),.bin .add (t 9) (ci 1),none⟩,0⟩,
 ⟨⟨(some 9),.mov (t 18),none⟩,0⟩]
def zahw : TC := (.seq (.ops zabg) (.clean [3,7,8,9,10] (.seq (.cond (t 10) .skip (.exit 0)) (.clean [3,7,8,9] (.seq (.block 1 [3,7,8,9] (.seq (.ops zabf) (.clean [3,5,7,8,9] (.seq (.seq (.ops zabe) (.clean [3,5,7,8,9,15] (.cond (t 15) (.seq (.ops zabd) (.ret [2])) .skip))) (.clean [3,5,7,8,9] (.ops zabc)))))) (.clean [3,7,8,9] (.ops zabb)))))))
def zaba : List au := [⟨⟨(some 2),.mov (.const (Go.Value.bool true)),none⟩,0⟩]
def wu : TC := (.seq (.ops zabj) (.clean [0] (.seq (.ops zabi) (.clean [0,3] (.seq (.seq (.ops zabh) (.block 0 [] (.clean [3,7,8,9] (.loop [3,7,8,9] zahw)))) (.clean [] (.seq (.ops zaba) (.ret [2]))))))))
theorem zazq : ul Try.prog [] l6 = some (19,wu.erase,[.tmp 2]) := by kernel_rfl
def qf : List au := [⟨⟨(some 4),.mov (.const (Go.Value.bool false)),none⟩,0⟩]
def qe : List au := [⟨⟨(some 5),.mov (t 0),none⟩,0⟩,
 ⟨⟨(some 6),.mov (t 1),none⟩,0⟩,
 ⟨⟨(some 7),.call fw [(t 5),(t 6)],none⟩,0⟩,
 ⟨⟨(some 8),.bin .geq (t 7) (ci 0),none⟩,0⟩,
 ⟨⟨(some 4),.mov (t 8),none⟩,0⟩]
def lu : TC := (.seq (.ops qf) (.clean [0,1] (.seq (.ops qe) (.ret [4]))))
def l0 : TFn := ⟨9,lu,[.tmp 4],false⟩
theorem zadn : type_of% (ai @qf.eq_1 (ai @qe.eq_1 (ai @lu.eq_1 @l0.eq_1))) := ⟨rfl,rfl,rfl,rfl⟩
theorem zadm : ul Try.prog [] ee = some (9,lu.erase,[.tmp 4]) := by kernel_rfl
def sw : List au := [⟨⟨(some 4),.mov (ci 0),none⟩,0⟩]
def su : List au := [⟨⟨(some 6),.mov (t 0),none⟩,0⟩,
 ⟨⟨(some 7),.lenL (t 6),none⟩,0⟩,
 ⟨⟨(some 8),.mov (ci 0),none⟩,0⟩]
def ss : List au := [⟨⟨(some 9),.bin .lss (t 8) (t 7),none⟩,0⟩]
def sr : List au := [⟨⟨(some 10),.mov (t 8),none⟩,0⟩,
 ⟨⟨(some 5),.mov (t 10),none⟩,0⟩]
def sq : List au := [⟨⟨(some 11),.mov (t 1),none⟩,0⟩,
 ⟨⟨(some 12),.mov (t 0),none⟩,0⟩,
 ⟨⟨(some 13),.mov (t 5),none⟩,0⟩,
 ⟨⟨(some 14),.indexSl 1 (t 12) (t 13),none⟩,0⟩,
 ⟨⟨(some 15),.load1 (t 14),none⟩,0⟩,
 ⟨⟨(some 16),.callv (t 11) [(t 15)],none⟩,0⟩]
def sp : List au := [⟨⟨(some 17),.mov (t 5),none⟩,0⟩,
 ⟨⟨(some 4),.mov (t 17),none⟩,0⟩]
def sn : List au := [⟨⟨(some 18),.bin .add (t 8) (ci 1),none⟩,0⟩,
 ⟨⟨(some 8),.mov (t 18),none⟩,0⟩]
def gp : TC := (.seq (.ops ss) (.clean [0,1,7,8,9] (.seq (.cond (t 9) .skip (.exit 0)) (.clean [0,1,7,8] (.seq (.block 1 [0,1,7,8] (.seq (.ops sr) (.clean [0,1,5,7,8] (.seq (.ops sq) (.clean [0,1,5,7,8,16] (.cond (t 16) (.seq (.ops sp) (.ret [4])) .skip)))))) (.clean [0,1,7,8] (.ops sn)))))))
def sm : List au := [⟨⟨(some 4),.mov (ci (-1)),none⟩,0⟩]
def ng : TC := (.seq (.ops sw) (.clean [0,1] (.seq (.seq (.ops su) (.block 0 [] (.clean [0,1,7,8] (.loop [0,1,7,8] gp)))) (.clean [] (.seq (.ops sm) (.ret [4]))))))
def nm : TFn := ⟨19,ng,[.tmp 4],false⟩
theorem fu : type_of% (ai @sw.eq_1 (ai @su.eq_1 (ai @ss.eq_1 (ai @sr.eq_1 (ai @sq.eq_1 (ai @sp.eq_1 (ai @sn.eq_1 (ai @sm.eq_1 (ai @ng.eq_1 @nm.eq_1))))))))) := ⟨rfl,rfl,rfl,rfl,rfl,rfl,rfl,rfl,rfl,rfl⟩
theorem zaf0 : ul Try.prog [] fw = some (19,ng.erase,[.tmp 4]) := by kernel_rfl
def zarp : List au := [⟨⟨(some 2),.mov (.const (Go.Value.pointer none)),none⟩,0⟩]
def zaro : List au := [⟨⟨(some 3),.mov (t 0),none⟩,0⟩,
 ⟨⟨(some 4),.build [(.string ⟨#[]⟩),(.bool false)] [(0,1,(t 3))],none⟩,0⟩,
 ⟨⟨(some 5),.box ah 2 (t 4),none⟩,0⟩,
 ⟨⟨(some 2),.mov (t 5),none⟩,0⟩]
def zakg : TC := (.seq (.ops zarp) (.clean [0] (.seq (.ops zaro) (.ret [2]))))
def zalq : TFn := ⟨6,zakg,[.tmp 2],false⟩
theorem zbcf : type_of% (ai @zarp.eq_1 (ai @zaro.eq_1 (ai @zakg.eq_1 @zalq.eq_1))) := ⟨rfl,rfl,rfl,rfl⟩
theorem zbb3 : ul Try.prog [] zabq = some (6,zakg.erase,[.tmp 2]) := by kernel_rfl
def zak3 : List au := [⟨⟨(some 1),.mov (.const (Go.Value.string ⟨#[]⟩)),none⟩,0⟩]
def zak2 : List au := [⟨⟨(some 2),.load1 (t 0),none⟩,0⟩,
 ⟨⟨(some 3),.call kx [(t 2),(ci 1048576)],none⟩,0⟩,
 ⟨⟨(some 1),.mov (t 3),none⟩,0⟩]
def zagk : TC := (.seq (.ops zak3) (.clean [0] (.seq (.ops zak2) (.ret [1]))))
def zagt : TFn := ⟨4,zagk,[.tmp 1],false⟩
theorem za4y : type_of% (ai @zak3.eq_1 (ai @zak2.eq_1 (ai @zagk.eq_1 @zagt.eq_1))) := ⟨rfl,rfl,rfl,rfl⟩
theorem za4s : ul Try.prog [] dq = some (4,zagk.erase,[.tmp 1]) := by kernel_rfl
def zacx : List au := [⟨⟨(some 4),.mov (.const (Go.Value.string ⟨#[]⟩)),none⟩,0⟩]
def zacw : List au := [⟨⟨(some 6),.mov (t 0),none⟩,0⟩,
 ⟨⟨(some 7),.mov (t 1),none⟩,0⟩,
 ⟨⟨(some 8),.call d6 [(t 6),(t 7)],none⟩,0⟩,
 ⟨⟨(some 5),.mov (t 8),none⟩,0⟩]
def zacv : List au := [⟨⟨(some 9),.mov (t 0),none⟩,0⟩,
 ⟨⟨(some 10),.mov (t 5),none⟩,0⟩,
 ⟨⟨(some 11),.call jd [(t 9),(t 10)],none⟩,0⟩,
 ⟨⟨(some 4),.mov (t 11),none⟩,0⟩]
def ux : TC := (.seq (.ops zacx) (.clean [0,1] (.seq (.ops zacw) (.clean [0,5] (.seq (.ops zacv) (.ret [4]))))))
def vk : TFn := ⟨12,ux,[.tmp 4],false⟩
theorem zaqf : type_of% (ai @zacx.eq_1 (ai @zacw.eq_1 (ai @zacv.eq_1 (ai @ux.eq_1 @vk.eq_1)))) := ⟨rfl,rfl,rfl,rfl,rfl⟩
theorem zap8 : ul Try.prog [] kx = some (12,ux.erase,[.tmp 4]) := by kernel_rfl
def zaa5 : List au := [⟨⟨(some 4),.mov (ci 0),none⟩,0⟩]
def zaa4 : List au := [⟨⟨(some 5),.mov (t 0),none⟩,0⟩,
 ⟨⟨(some 6),.mov (t 0),none⟩,0⟩,
 ⟨⟨(some 7),.mkFunc (.func bp) [(t 6)] [],none⟩,0⟩,
 ⟨⟨(some 8),.mov (t 1),none⟩,0⟩,
 ⟨⟨(some 9),.call nf [(t 5),(t 7),(t 8)],none⟩,0⟩,
 ⟨⟨(some 4),.mov (t 9),none⟩,0⟩]
def th : TC := (.seq (.ops zaa5) (.clean [0,1] (.seq (.ops zaa4) (.ret [4]))))
def tu : TFn := ⟨10,th,[.tmp 4],false⟩
theorem zamy : type_of% (ai @zaa5.eq_1 (ai @zaa4.eq_1 (ai @th.eq_1 @tu.eq_1))) := ⟨rfl,rfl,rfl,rfl⟩
theorem zamx : ul Try.prog [] d6 = some (10,th.erase,[.tmp 4]) := by kernel_rfl
def zad6 : List au := [⟨⟨(some 2),.mov (ci 0),none⟩,0⟩]
def zad5 : List au := [⟨⟨(some 3),.mov (ci 0),none⟩,0⟩]
def zad4 : List au := [⟨⟨(some 6),.mov (t 0),none⟩,0⟩,
 ⟨⟨(some 7),.call jd [(t 6),(ci 8)],none⟩,0⟩,
 ⟨⟨(some 8),.toBytes fi (t 7),none⟩,0⟩,
 ⟨⟨(some 9),.lenL (t 8),none⟩,0⟩,
 ⟨⟨(some 10),.mov (ci 0),none⟩,0⟩]
def zad3 : List au := [⟨⟨(some 11),.bin .lss (t 10) (t 9),none⟩,0⟩]
def zad2 : List au := [⟨⟨(some 12),.indexSl 1 (t 8) (t 10),none⟩,0⟩,
 ⟨⟨(some 13),.load1 (t 12),none⟩,0⟩,
 ⟨⟨(some 5),.mov (t 13),none⟩,0⟩]
def zad1 : List au := [⟨⟨(some 14),.mov (t 3),none⟩,0⟩,
 ⟨⟨(some 15),.bin .shl (t 14) (.const (Go.Value.int Go.IntKind.u64 8)),none⟩,0⟩,
 ⟨⟨(some 16),.mov (t 5),none⟩,0⟩,
 ⟨⟨(some 17),.conv .i64 (t 16),none⟩,0⟩,
 ⟨⟨(some 18),.bin .or (t 15) (t 17),none⟩,0⟩,
 ⟨⟨(some 3),.mov (t 18),none⟩,0⟩]
def zad0 : List au := [⟨⟨(some 19),.bin .add (t 10) (ci 1),none⟩,0⟩,
 ⟨⟨(some 10),.mov (t 19),none⟩,0⟩]
def pu : TC := (.seq (.ops zad3) (.clean [3,8,9,10,11] (.seq (.cond (t 11) .skip (.exit 0)) (.clean [3,8,9,10] (.seq (.block 1 [3,8,9,10] (.seq (.ops zad2) (.clean [3,5,8,9,10] (.ops zad1)))) (.clean [3,8,9,10] (.ops zad0)))))))
def zadz : List au := [⟨⟨(some 20),.mov (t 3),none⟩,0⟩,
 ⟨⟨(some 2),.mov (t 20),none⟩,0⟩]
def xe : TC := (.seq (.ops zad6) (.clean [0] (.seq (.ops zad5) (.clean [0,3] (.seq (.seq (.ops zad4) (.block 0 [3] (.clean [3,8,9,10] (.loop [3,8,9,10] pu)))) (.clean [3] (.seq (.ops zadz) (.ret [2]))))))))
def x8 : TFn := ⟨21,xe,[.tmp 2],false⟩
theorem te : type_of% (ai @zad6.eq_1 (ai @zad5.eq_1 (ai @zad4.eq_1 (ai @zad3.eq_1 (ai @zad2.eq_1 (ai @zad1.eq_1 (ai @zad0.eq_1 (ai @zadz.eq_1 (ai @xe.eq_1 @x8.eq_1))))))))) := ⟨rfl,rfl,rfl,rfl,rfl,rfl,rfl,rfl,rfl,rfl⟩
theorem zatq : ul Try.prog [] bp = some (21,xe.erase,[.tmp 2]) := by kernel_rfl
def zact : List au := [⟨⟨(some 4),.mov (.const (Go.Value.string ⟨#[]⟩)),none⟩,0⟩]
def zacs : List au := [⟨⟨(some 6),.mov (t 0),none⟩,0⟩,
 ⟨⟨(some 7),.nilchk (t 6),none⟩,0⟩,
 ⟨⟨(some 8),.fieldAddr 1 (t 7),none⟩,0⟩,
 ⟨⟨(some 9),.load1 (t 8),none⟩,0⟩,
 ⟨⟨(some 10),.mov (t 9),none⟩,0⟩,
 ⟨⟨(some 11),.mov (t 1),(some (10,false))⟩,0⟩,
 ⟨⟨(some 12),.bin .lss (t 11) (ci 0),(some (10,false))⟩,0⟩,
 ⟨⟨(some 13),.pick (t 10) (.const (Go.Value.bool true)) (t 12),none⟩,0⟩,
 ⟨⟨(some 14),.mov (t 13),none⟩,0⟩,
 ⟨⟨(some 15),.mov (t 1),(some (14,false))⟩,0⟩,
 ⟨⟨(some 16),.mov (t 0),(some (14,false))⟩,0⟩,
 ⟨⟨(some 17),.nilchk (t 16),(some (14,false))⟩,0⟩,
 ⟨⟨(some 18),.fieldAddr 0 (t 17),(some (14,false))⟩,0⟩,
 ⟨⟨(some 19),.load1 (t 18),(some (14,false))⟩,0⟩,
 ⟨⟨(some 20),.lenS (t 19),(some (14,false))⟩,0⟩,
 ⟨⟨(some 21),.bin .gtr (t 15) (t 20),(some (14,false))⟩,0⟩,
 ⟨⟨(some 22),.pick (t 14) (.const (Go.Value.bool true)) (t 21),none⟩,0⟩]
def zacr : List au := [⟨⟨(some 23),.mov (t 0),none⟩,0⟩,
 ⟨⟨(some 24),.call je [(t 23)],none⟩,0⟩]
def zacq : List au := [⟨⟨(some 4),.mov (.const (Go.Value.string ⟨#[]⟩)),none⟩,0⟩]
def zacp : List au := [⟨⟨(some 25),.mov (t 0),none⟩,0⟩,
 ⟨⟨(some 26),.nilchk (t 25),none⟩,0⟩,
 ⟨⟨(some 27),.fieldAddr 0 (t 26),none⟩,0⟩,
 ⟨⟨(some 28),.load1 (t 27),none⟩,0⟩,
 ⟨⟨(some 29),.mov (t 1),none⟩,0⟩,
 ⟨⟨(some 30),.sliceStr (t 28) none (some (t 29)),none⟩,0⟩,
 ⟨⟨(some 5),.mov (t 30),none⟩,0⟩]
def zaco : List au := [⟨⟨(some 31),.mov (t 0),none⟩,0⟩,
 ⟨⟨(some 32),.mov (t 0),none⟩,0⟩,
 ⟨⟨(some 33),.nilchk (t 32),none⟩,0⟩,
 ⟨⟨(some 34),.fieldAddr 0 (t 33),none⟩,0⟩,
 ⟨⟨(some 35),.load1 (t 34),none⟩,0⟩,
 ⟨⟨(some 36),.mov (t 1),none⟩,0⟩,
 ⟨⟨(some 37),.sliceStr (t 35) (some (t 36)) none,none⟩,0⟩,
 ⟨⟨(some 38),.nilchk (t 31),none⟩,0⟩,
 ⟨⟨(some 39),.fieldAddr 0 (t 38),none⟩,0⟩,
 ⟨⟨none,.store 1 (t 39) (t 37),none⟩,0⟩]
def zacn : List au := [⟨⟨(some 40),.mov (t 5),none⟩,0⟩,
 ⟨⟨(some 4),.mov (t 40),none⟩,0⟩]
def uv : TC := (.seq (.ops zact) (.clean [0,1] (.seq (.seq (.ops zacs) (.clean [0,1,22] (.cond (t 22) (.seq (.ops zacr) (.clean [] (.seq (.ops zacq) (.ret [4])))) .skip))) (.clean [0,1] (.seq (.ops zacp) (.clean [0,1,5] (.seq (.ops zaco) (.clean [5] (.seq (.ops zacn) (.ret [4]))))))))))
def vi : TFn := ⟨41,uv,[.tmp 4],false⟩
theorem rn : type_of% (ai @zact.eq_1 (ai @zacs.eq_1 (ai @zacr.eq_1 (ai @zacq.eq_1 (ai @zacp.eq_1 (ai @zaco.eq_1 (ai @zacn.eq_1 (ai @uv.eq_1 @vi.eq_1)))))))) := ⟨rfl,rfl,rfl,rfl,rfl,rfl,rfl,rfl,rfl⟩
theorem zap6 : ul Try.prog [] jd = some (41,uv.erase,[.tmp 4]) := by kernel_rfl
def zacu : List au := [⟨⟨(some 2),.mov (t 0),none⟩,0⟩,
 ⟨⟨(some 3),.mov (t 0),none⟩,0⟩,
 ⟨⟨(some 4),.nilchk (t 2),none⟩,0⟩,
 ⟨⟨(some 5),.fieldAddr 0 (t 4),none⟩,0⟩,
 ⟨⟨none,.store 1 (t 5) (.const (Go.Value.string ⟨#[]⟩)),none⟩,0⟩,
 ⟨⟨(some 6),.nilchk (t 3),none⟩,0⟩,
 ⟨⟨(some 7),.fieldAddr 1 (t 6),none⟩,0⟩,
 ⟨⟨none,.store 1 (t 7) (.const (Go.Value.bool true)),none⟩,0⟩]
def uw : TC := (.ops zacu)
def vj : TFn := ⟨8,uw,[],false⟩
theorem zaqe : type_of% (ai @zacu.eq_1 (ai @uw.eq_1 @vj.eq_1)) := ⟨rfl,rfl,rfl⟩
theorem zap7 : ul Try.prog [] je = some (8,uw.erase,[]) := by kernel_rfl
def zafg : List au := [⟨⟨(some 6),.mov (ci 0),none⟩,0⟩]
def zaff : List au := [⟨⟨(some 8),.mov (t 1),none⟩,0⟩,
 ⟨⟨(some 9),.callv (t 8) [],none⟩,0⟩,
 ⟨⟨(some 7),.mov (t 9),none⟩,0⟩]
def zafe : List au := [⟨⟨(some 10),.mov (t 7),none⟩,0⟩,
 ⟨⟨(some 11),.bin .lss (t 10) (ci 0),none⟩,0⟩,
 ⟨⟨(some 12),.mov (t 11),none⟩,0⟩,
 ⟨⟨(some 13),.mov (t 7),(some (12,false))⟩,0⟩,
 ⟨⟨(some 14),.mov (t 2),(some (12,false))⟩,0⟩,
 ⟨⟨(some 15),.bin .gtr (t 13) (t 14),(some (12,false))⟩,0⟩,
 ⟨⟨(some 16),.pick (t 12) (.const (Go.Value.bool true)) (t 15),none⟩,0⟩]
def zafd : List au := [⟨⟨(some 17),.mov (t 0),none⟩,0⟩,
 ⟨⟨(some 18),.call je [(t 17)],none⟩,0⟩]
def zafc : List au := [⟨⟨(some 6),.mov (ci 0),none⟩,0⟩]
def zafb : List au := [⟨⟨(some 19),.mov (t 7),none⟩,0⟩,
 ⟨⟨(some 6),.mov (t 19),none⟩,0⟩]
def zx : TC := (.seq (.ops zafg) (.clean [0,1,2] (.seq (.ops zaff) (.clean [0,2,7] (.seq (.seq (.ops zafe) (.clean [0,7,16] (.cond (t 16) (.seq (.ops zafd) (.clean [] (.seq (.ops zafc) (.ret [6])))) .skip))) (.clean [7] (.seq (.ops zafb) (.ret [6]))))))))
def zaan : TFn := ⟨20,zx,[.tmp 6],false⟩
theorem zabm : type_of% (ai @zafg.eq_1 (ai @zaff.eq_1 (ai @zafe.eq_1 (ai @zafd.eq_1 (ai @zafc.eq_1 (ai @zafb.eq_1 (ai @zx.eq_1 @zaan.eq_1))))))) := ⟨rfl,rfl,rfl,rfl,rfl,rfl,rfl,rfl⟩
theorem zauv : ul Try.prog [] nf = some (20,zx.erase,[.tmp 6]) := by kernel_rfl
def yw : List au := [⟨⟨(some 6),.mov (.const (Go.Value.slice none 0 0)),none⟩,0⟩]
def yv : List au := [⟨⟨(some 7),.mov (.const (Go.Value.slice none 0 0)),none⟩,1⟩]
def yu : List au := [⟨⟨(some 8),.mov (t 0),none⟩,0⟩,
 ⟨⟨(some 9),.mov (t 1),none⟩,0⟩,
 ⟨⟨(some 10),.call d6 [(t 8),(t 9)],none⟩,0⟩,
 ⟨⟨(some 11),.mov (ci 0),none⟩,0⟩]
def yr : List au := [⟨⟨(some 12),.bin .lss (t 11) (t 10),none⟩,0⟩]
def yq : List au := [⟨⟨(some 13),.mov (t 7),none⟩,0⟩,
 ⟨⟨(some 14),.mov (t 2),none⟩,0⟩,
 ⟨⟨(some 15),.callv (t 14) [],none⟩,0⟩,
 ⟨⟨(some 16),.buildSl dp 2 1 [(.string ⟨#[]⟩),(.slice none 0 0)] [(0,2,(t 15))],none⟩,0⟩,
 ⟨⟨(some 17),.append dp 2 40 (t 13) (t 16),none⟩,0⟩,
 ⟨⟨(some 7),.mov (t 17),none⟩,0⟩]
def yp : List au := [⟨⟨(some 18),.bin .add (t 11) (ci 1),none⟩,0⟩,
 ⟨⟨(some 11),.mov (t 18),none⟩,0⟩]
def me : TC := (.seq (.ops yr) (.clean [2,7,10,11,12] (.seq (.cond (t 12) .skip (.exit 0)) (.clean [2,7,10,11] (.seq (.block 1 [2,7,10,11] (.ops yq)) (.clean [2,7,10,11] (.ops yp)))))))
def yo : List au := [⟨⟨(some 19),.mov (t 7),none⟩,0⟩,
 ⟨⟨(some 6),.mov (t 19),none⟩,0⟩]
def rf : TC := (.seq (.ops yw) (.clean [0,1,2] (.seq (.ops yv) (.clean [0,1,2,7] (.seq (.seq (.ops yu) (.block 0 [7] (.clean [2,7,10,11] (.loop [2,7,10,11] me)))) (.clean [7] (.seq (.ops yo) (.ret [6]))))))))
def rh : TFn := ⟨20,rf,[.tmp 6],false⟩
theorem nw : type_of% (ai @yw.eq_1 (ai @yv.eq_1 (ai @yu.eq_1 (ai @yr.eq_1 (ai @yq.eq_1 (ai @yp.eq_1 (ai @yo.eq_1 (ai @rf.eq_1 @rh.eq_1)))))))) := ⟨rfl,rfl,rfl,rfl,rfl,rfl,rfl,rfl,rfl⟩
theorem zaj6 : ul Try.prog [] ig = some (20,rf.erase,[.tmp 6]) := by kernel_rfl
def zak1 : List au := [⟨⟨(some 2),.box dp 2 (.const (.agg #[(.string ⟨#[]⟩),(.slice none 0 0)])),none⟩,0⟩]
def zak0 : List (au × List Nat) := [(⟨⟨(some 3),.load1 (t 0),none⟩,0⟩,[]),
 (⟨⟨(some 5),.load1 (t 1),none⟩,0⟩,[]),
 (⟨⟨(some 6),.load1 (t 0),none⟩,0⟩,[]),
 (⟨⟨(some 4),.callvW (t 3) [],none⟩,7⟩,[1,2]),
 (⟨⟨(some 7),.callW jc [(t 5),(ci 3),(t 6)],none⟩,0⟩,[]),
 (⟨⟨(some 8),.build [(.string ⟨#[]⟩),(.slice none 0 0)] [(0,1,(t 4)),(1,1,(t 7))],none⟩,0⟩,[]),
 (⟨⟨none,.store 2 (t 2) (t 8),none⟩,0⟩,[])]
def zagj : TC := (.seq (.ops zak1) (.clean [0,1,2] (.seq (.draw zak0) (.ret [2]))))
def zags : TFn := ⟨9,zagj,[.cellN 2 2],false⟩
theorem za4x : type_of% (ai @zak1.eq_1 (ai @zak0.eq_1 (ai @zagj.eq_1 @zags.eq_1))) := ⟨rfl,rfl,rfl,rfl⟩
theorem za4r : ul Try.prog [(1,⟨[0,2,3,1,4,5,6],[0,1,0,0,15,31,63],[1,4],[(1,[2,3])]⟩)] m5 = some (9,zagj.erase,[.cellN 2 2]) := by kernel_rfl
def zacm : List au := [⟨⟨(some 6),.mov (.const (Go.Value.slice none 0 0)),none⟩,0⟩]
def zacl : List au := [⟨⟨(some 7),.mov (.const (Go.Value.slice none 0 0)),none⟩,1⟩]
def zack : List au := [⟨⟨(some 8),.mov (t 0),none⟩,0⟩,
 ⟨⟨(some 9),.mov (t 1),none⟩,0⟩,
 ⟨⟨(some 10),.call d6 [(t 8),(t 9)],none⟩,0⟩,
 ⟨⟨(some 11),.mov (ci 0),none⟩,0⟩]
def zacj : List au := [⟨⟨(some 12),.bin .lss (t 11) (t 10),none⟩,0⟩]
def zaci : List au := [⟨⟨(some 13),.mov (t 7),none⟩,0⟩,
 ⟨⟨(some 14),.mov (t 2),none⟩,0⟩,
 ⟨⟨(some 15),.callv (t 14) [],none⟩,0⟩,
 ⟨⟨(some 16),.buildSl fq 1 1 [(.string ⟨#[]⟩)] [(0,1,(t 15))],none⟩,0⟩,
 ⟨⟨(some 17),.append fq 1 16 (t 13) (t 16),none⟩,0⟩,
 ⟨⟨(some 7),.mov (t 17),none⟩,0⟩]
def zach : List au := [⟨⟨(some 18),.bin .add (t 11) (ci 1),none⟩,0⟩,
 ⟨⟨(some 11),.mov (t 18),none⟩,0⟩]
def ox : TC := (.seq (.ops zacj) (.clean [2,7,10,11,12] (.seq (.cond (t 12) .skip (.exit 0)) (.clean [2,7,10,11] (.seq (.block 1 [2,7,10,11] (.ops zaci)) (.clean [2,7,10,11] (.ops zach)))))))
def zacg : List au := [⟨⟨(some 19),.mov (t 7),none⟩,0⟩,
 ⟨⟨(some 6),.mov (t 19),none⟩,0⟩]
def uu : TC := (.seq (.ops zacm) (.clean [0,1,2] (.seq (.ops zacl) (.clean [0,1,2,7] (.seq (.seq (.ops zack) (.block 0 [7] (.clean [2,7,10,11] (.loop [2,7,10,11] ox)))) (.clean [7] (.seq (.ops zacg) (.ret [6]))))))))
def vh : TFn := ⟨20,uu,[.tmp 6],false⟩
theorem rm : type_of% (ai @zacm.eq_1 (ai @zacl.eq_1 (ai @zack.eq_1 (ai @zacj.eq_1 (ai @zaci.eq_1 (ai @zach.eq_1 (ai @zacg.eq_1 (ai @uu.eq_1 @vh.eq_1)))))))) := ⟨rfl,rfl,rfl,rfl,rfl,rfl,rfl,rfl,rfl⟩
theorem zap5 : ul Try.prog [] jc = some (20,uu.erase,[.tmp 6]) := by kernel_rfl
def zaa3 : List au := [⟨⟨(some 6),.mov (.const (Go.Value.slice none 0 0)),none⟩,0⟩]
def zaa2 : List au := [⟨⟨(some 7),.mov (.const (Go.Value.slice none 0 0)),none⟩,1⟩]
def zaa1 : List au := [⟨⟨(some 8),.mov (t 0),none⟩,0⟩,
 ⟨⟨(some 9),.mov (t 1),none⟩,0⟩,
 ⟨⟨(some 10),.call d6 [(t 8),(t 9)],none⟩,0⟩,
 ⟨⟨(some 11),.mov (ci 0),none⟩,0⟩]
def zaa0 : List au := [⟨⟨(some 12),.bin .lss (t 11) (t 10),none⟩,0⟩]
def zaaz : List au := [⟨⟨(some 13),.mov (t 7),none⟩,0⟩,
 ⟨⟨(some 14),.mov (t 2),none⟩,0⟩,
 ⟨⟨(some 15),.callv (t 14) [],none⟩,0⟩,
 ⟨⟨(some 16),.buildSl mn 5 1 [(.int .i64 0),(.int .i64 0),(.int .i64 0),(.string ⟨#[]⟩),(.int .i64 0)] [(0,5,(t 15))],none⟩,0⟩,
 ⟨⟨(some 17),.append mn 5 48 (t 13) (t 16),none⟩,0⟩,
 ⟨⟨(some 7),.mov (t 17),none⟩,0⟩]
def zaay : List au := [⟨⟨(some 18),.bin .add (t 11) (ci 1),none⟩,0⟩,
 ⟨⟨(some 11),.mov (t 18),none⟩,0⟩]
def nu : TC := (.seq (.ops zaa0) (.clean [2,7,10,11,12] (.seq (.cond (t 12) .skip (.exit 0)) (.clean [2,7,10,11] (.seq (.block 1 [2,7,10,11] (.ops zaaz)) (.clean [2,7,10,11] (.ops zaay)))))))
def zaax : List au := [⟨⟨(some 19),.mov (t 7),none⟩,0⟩,
 ⟨⟨(some 6),.mov (t 19),none⟩,0⟩]
def tf : TC := (.seq (.ops zaa3) (.clean [0,1,2] (.seq (.ops zaa2) (.clean [0,1,2,7] (.seq (.seq (.ops zaa1) (.block 0 [7] (.clean [2,7,10,11] (.loop [2,7,10,11] nu)))) (.clean [7] (.seq (.ops zaax) (.ret [6]))))))))
def tq : TFn := ⟨20,tf,[.tmp 6],false⟩
theorem pw : type_of% (ai @zaa3.eq_1 (ai @zaa2.eq_1 (ai @zaa1.eq_1 (ai @zaa0.eq_1 (ai @zaaz.eq_1 (ai @zaay.eq_1 (ai @zaax.eq_1 (ai @tf.eq_1 @tq.eq_1)))))))) := ⟨rfl,rfl,rfl,rfl,rfl,rfl,rfl,rfl,rfl⟩
theorem zamw : ul Try.prog [] kb = some (20,tf.erase,[.tmp 6]) := by kernel_rfl
def zakz : List au := [⟨⟨(some 2),.box mn 5 (.const (.agg #[(.int .i64 0),(.int .i64 0),(.int .i64 0),(.string ⟨#[]⟩),(.int .i64 0)])),none⟩,0⟩]
def zaky : List (au × List Nat) := [(⟨⟨(some 3),.load1 (t 0),none⟩,0⟩,[]),
 (⟨⟨(some 5),.load1 (t 0),none⟩,0⟩,[]),
 (⟨⟨(some 7),.load1 (t 0),none⟩,0⟩,[]),
 (⟨⟨(some 9),.load1 (t 1),none⟩,0⟩,[]),
 (⟨⟨(some 11),.load1 (t 0),none⟩,0⟩,[]),
 (⟨⟨(some 4),.callW bp [(t 3)],none⟩,7⟩,[1,2,3,4]),
 (⟨⟨(some 6),.callW bp [(t 5)],none⟩,7⟩,[2,3,4]),
 (⟨⟨(some 8),.callW bp [(t 7)],none⟩,7⟩,[3,4]),
 (⟨⟨(some 10),.callvW (t 9) [],none⟩,7⟩,[4]),
 (⟨⟨(some 12),.callW bp [(t 11)],none⟩,0⟩,[]),
 (⟨⟨(some 13),.build [(.int .i64 0),(.int .i64 0),(.int .i64 0),(.string ⟨#[]⟩),(.int .i64 0)] [(0,1,(t 4)),(1,1,(t 6)),(2,1,(t 8)),(3,1,(t 10)),(4,1,(t 12))],none⟩,0⟩,[]),
 (⟨⟨none,.store 5 (t 2) (t 13),none⟩,0⟩,[])]
def zagi : TC := (.seq (.ops zakz) (.clean [0,1,2] (.seq (.draw zaky) (.ret [2]))))
def zagr : TFn := ⟨14,zagi,[.cellN 2 5],false⟩
theorem za4w : type_of% (ai @zakz.eq_1 (ai @zaky.eq_1 (ai @zagi.eq_1 @zagr.eq_1))) := ⟨rfl,rfl,rfl,rfl⟩
theorem za4q : ul Try.prog [(1,⟨[0,2,4,6,8,1,3,5,7,9,10,11],[0,1,0,7,0,31,0,127,0,511,1023,2047],[1,3,5,7,9],[(1,[2,4,6,8]),(3,[4,6,8]),(5,[6,8]),(7,[8])]⟩)] mz = some (14,zagi.erase,[.cellN 2 5]) := by kernel_rfl
def zagc : List au := [⟨⟨(some 6),.mov (.const (Go.Value.slice none 0 0)),none⟩,0⟩]
def zagb : List au := [⟨⟨(some 7),.mov (.const (Go.Value.slice none 0 0)),none⟩,1⟩]
def zaga : List au := [⟨⟨(some 8),.mov (t 0),none⟩,0⟩,
 ⟨⟨(some 9),.mov (t 1),none⟩,0⟩,
 ⟨⟨(some 10),.call d6 [(t 8),(t 9)],none⟩,0⟩,
 ⟨⟨(some 11),.mov (ci 0),none⟩,0⟩]
def zaf9 : List au := [⟨⟨(some 12),.bin .lss (t 11) (t 10),none⟩,0⟩]
def zaf8 : List au := [⟨⟨(some 13),.mov (t 7),none⟩,0⟩,
 ⟨⟨(some 14),.mov (t 2),none⟩,0⟩,
 ⟨⟨(some 15),.callv (t 14) [],none⟩,0⟩,
 ⟨⟨(some 16),.buildSl uo 1 1 [(.int .i64 0)] [(0,1,(t 15))],none⟩,0⟩,
 ⟨⟨(some 17),.append uo 1 8 (t 13) (t 16),none⟩,0⟩,
 ⟨⟨(some 7),.mov (t 17),none⟩,0⟩]
def zaf7 : List au := [⟨⟨(some 18),.bin .add (t 11) (ci 1),none⟩,0⟩,
 ⟨⟨(some 11),.mov (t 18),none⟩,0⟩]
def sy : TC := (.seq (.ops zaf9) (.clean [2,7,10,11,12] (.seq (.cond (t 12) .skip (.exit 0)) (.clean [2,7,10,11] (.seq (.block 1 [2,7,10,11] (.ops zaf8)) (.clean [2,7,10,11] (.ops zaf7)))))))
def zaf6 : List au := [⟨⟨(some 19),.mov (t 7),none⟩,0⟩,
 ⟨⟨(some 6),.mov (t 19),none⟩,0⟩]
def zaa7 : TC := (.seq (.ops zagc) (.clean [0,1,2] (.seq (.ops zagb) (.clean [0,1,2,7] (.seq (.seq (.ops zaga) (.block 0 [7] (.clean [2,7,10,11] (.loop [2,7,10,11] sy)))) (.clean [7] (.seq (.ops zaf6) (.ret [6]))))))))
def zabk : TFn := ⟨20,zaa7,[.tmp 6],false⟩
theorem wx : type_of% (ai @zagc.eq_1 (ai @zagb.eq_1 (ai @zaga.eq_1 (ai @zaf9.eq_1 (ai @zaf8.eq_1 (ai @zaf7.eq_1 (ai @zaf6.eq_1 (ai @zaa7.eq_1 @zabk.eq_1)))))))) := ⟨rfl,rfl,rfl,rfl,rfl,rfl,rfl,rfl,rfl⟩
theorem zawt : ul Try.prog [] om = some (20,zaa7.erase,[.tmp 6]) := by kernel_rfl
def zad8 : List au := [⟨⟨(some 2),.mov (.const (Go.Value.bool false)),none⟩,0⟩]
def zad7 : List au := [⟨⟨(some 3),.mov (t 0),none⟩,0⟩,
 ⟨⟨(some 4),.nilchk (t 3),none⟩,0⟩,
 ⟨⟨(some 5),.fieldAddr 1 (t 4),none⟩,0⟩,
 ⟨⟨(some 6),.load1 (t 5),none⟩,0⟩,
 ⟨⟨(some 2),.mov (t 6),none⟩,0⟩]
def xf : TC := (.seq (.ops zad8) (.clean [0] (.seq (.ops zad7) (.ret [2]))))
def ya : TFn := ⟨7,xf,[.tmp 2],false⟩
theorem zatw : type_of% (ai @zad8.eq_1 (ai @zad7.eq_1 (ai @xf.eq_1 @ya.eq_1))) := ⟨rfl,rfl,rfl,rfl⟩
theorem zatr : ul Try.prog [] mf = some (7,xf.erase,[.tmp 2]) := by kernel_rfl
def zacz : List au := [⟨⟨(some 2),.mov (ci 0),none⟩,0⟩]
def zacy : List au := [⟨⟨(some 3),.mov (t 0),none⟩,0⟩,
 ⟨⟨(some 4),.nilchk (t 3),none⟩,0⟩,
 ⟨⟨(some 5),.fieldAddr 0 (t 4),none⟩,0⟩,
 ⟨⟨(some 6),.load1 (t 5),none⟩,0⟩,
 ⟨⟨(some 7),.lenS (t 6),none⟩,0⟩,
 ⟨⟨(some 2),.mov (t 7),none⟩,0⟩]
def uy : TC := (.seq (.ops zacz) (.clean [0] (.seq (.ops zacy) (.ret [2]))))
def vl : TFn := ⟨8,uy,[.tmp 2],false⟩
theorem zaqg : type_of% (ai @zacz.eq_1 (ai @zacy.eq_1 (ai @uy.eq_1 @vl.eq_1))) := ⟨rfl,rfl,rfl,rfl⟩
theorem zap9 : ul Try.prog [] ky = some (8,uy.erase,[.tmp 2]) := by kernel_rfl
def zant : List au := [⟨⟨(some 1),.box dj 7 (t 0),none⟩,0⟩,
 ⟨⟨(some 2),.mov (.const (Go.Value.string ⟨#[]⟩)),none⟩,0⟩]
def zans : List au := [⟨⟨(some 5),.loadN 7 (t 1),none⟩,0⟩,
 ⟨⟨(some 6),.call o9 [(t 5)],none⟩,0⟩,
 ⟨⟨(some 7),.un .not (t 6),none⟩,0⟩]
def zanr : List au := [⟨⟨(some 2),.mov (.const (Go.Value.string ⟨#[]⟩)),none⟩,0⟩]
def zanq : List au := [⟨⟨(some 3),.mov (.func lm),none⟩,0⟩]
def zanp : List au := [⟨⟨(some 4),.mov (.func li),none⟩,0⟩]
def zano : List au := [⟨⟨(some 8),.fieldAddr 0 (t 1),none⟩,0⟩,
 ⟨⟨(some 9),.load1 (t 8),none⟩,0⟩,
 ⟨⟨(some 11),.fieldAddr 1 (t 1),none⟩,0⟩,
 ⟨⟨(some 12),.load1 (t 11),none⟩,0⟩,
 ⟨⟨(some 13),.mov (t 3),none⟩,0⟩,
 ⟨⟨(some 16),.fieldAddr 2 (t 1),none⟩,0⟩,
 ⟨⟨(some 17),.load1 (t 16),none⟩,0⟩,
 ⟨⟨(some 18),.mov (t 4),none⟩,0⟩,
 ⟨⟨(some 21),.fieldAddr 3 (t 1),none⟩,0⟩,
 ⟨⟨(some 22),.load1 (t 21),none⟩,0⟩,
 ⟨⟨(some 25),.fieldAddr 4 (t 1),none⟩,0⟩,
 ⟨⟨(some 26),.load1 (t 25),none⟩,0⟩,
 ⟨⟨(some 29),.fieldAddr 5 (t 1),none⟩,0⟩,
 ⟨⟨(some 30),.load1 (t 29),none⟩,0⟩,
 ⟨⟨(some 33),.fieldAddr 6 (t 1),none⟩,0⟩,
 ⟨⟨(some 34),.load1 (t 33),none⟩,0⟩,
 ⟨⟨(some 10),.call jq [(t 9)],none⟩,0⟩,
 ⟨⟨(some 14),.call jp [(t 12),(t 13)],none⟩,0⟩,
 ⟨⟨(some 15),.bin .add (t 10) (t 14),none⟩,0⟩,
 ⟨⟨(some 19),.call kw [(t 17),(t 18)],none⟩,0⟩,
 ⟨⟨(some 20),.bin .add (t 15) (t 19),none⟩,0⟩,
 ⟨⟨(some 23),.call qj [(t 22),(.func fj)],none⟩,0⟩,
 ⟨⟨(some 24),.bin .add (t 20) (t 23),none⟩,0⟩,
 ⟨⟨(some 27),.call j9 [(t 26),(.func jq)],none⟩,0⟩,
 ⟨⟨(some 28),.bin .add (t 24) (t 27),none⟩,0⟩,
 ⟨⟨(some 31),.call fj [(t 30)],none⟩,0⟩,
 ⟨⟨(some 32),.bin .add (t 28) (t 31),none⟩,0⟩,
 ⟨⟨(some 35),.call fj [(t 34)],none⟩,0⟩,
 ⟨⟨(some 36),.bin .add (t 32) (t 35),none⟩,0⟩,
 ⟨⟨(some 2),.mov (t 36),none⟩,0⟩]
def zaih : TC := (.seq (.ops zant) (.clean [1] (.seq (.seq (.ops zans) (.clean [1,7] (.cond (t 7) (.seq (.ops zanr) (.ret [2])) .skip))) (.clean [1] (.seq (.ops zanq) (.clean [1,3] (.seq (.ops zanp) (.clean [1,3,4] (.seq (.draw (pl zano)) (.ret [2]))))))))))
def zai2 : TFn := ⟨37,zaih,[.tmp 2],false⟩
theorem zav8 : type_of% (ai @zant.eq_1 (ai @zans.eq_1 (ai @zanr.eq_1 (ai @zanq.eq_1 (ai @zanp.eq_1 (ai @zano.eq_1 (ai @zaih.eq_1 @zai2.eq_1))))))) := ⟨rfl,rfl,rfl,rfl,rfl,rfl,rfl,rfl⟩
theorem za9l : ul Try.prog [(5,⟨[0,1,3,4,5,8,9,10,13,14,17,18,21,22,25,26,2,6,7,11,12,15,16,19,20,23,24,27,28,29],[0,1,3,0,8,0,63,127,0,256,0,1919,4095,0,8192,28543,65535,0,131072,454527,1048575,0,2097152,7270271,16777215,0,33554432,116322175,268435455,536870911],[],[]⟩)] ra = some (37,zaih.erase,[.tmp 2]) := by kernel_rfl
def zajt : List au := [⟨⟨(some 1),.box dp 2 (t 0),none⟩,0⟩,
 ⟨⟨(some 2),.mov (.const (Go.Value.string ⟨#[]⟩)),none⟩,0⟩]
def zajs : List au := [⟨⟨(some 3),.fieldAddr 0 (t 1),none⟩,0⟩,
 ⟨⟨(some 4),.load1 (t 3),none⟩,0⟩,
 ⟨⟨(some 6),.fieldAddr 1 (t 1),none⟩,0⟩,
 ⟨⟨(some 7),.load1 (t 6),none⟩,0⟩,
 ⟨⟨(some 5),.call jq [(t 4)],none⟩,0⟩,
 ⟨⟨(some 8),.call j9 [(t 7),(.func jq)],none⟩,0⟩,
 ⟨⟨(some 9),.bin .add (t 5) (t 8),none⟩,0⟩,
 ⟨⟨(some 2),.mov (t 9),none⟩,0⟩]
def zae5 : TC := (.seq (.ops zajt) (.clean [1] (.seq (.draw (pl zajs)) (.ret [2]))))
def zafo : TFn := ⟨10,zae5,[.tmp 2],false⟩
theorem za0w : type_of% (ai @zajt.eq_1 (ai @zajs.eq_1 (ai @zae5.eq_1 @zafo.eq_1))) := ⟨rfl,rfl,rfl,rfl⟩
theorem za0q : ul Try.prog [(1,⟨[0,1,3,4,2,5,6,7],[0,1,3,0,8,31,63,127],[],[]⟩)] lm = some (10,zae5.erase,[.tmp 2]) := by kernel_rfl
def zanv : List au := [⟨⟨(some 2),.mov (.const (Go.Value.string ⟨#[]⟩)),none⟩,0⟩]
def zanu : List au := [⟨⟨(some 3),.mov (t 0),none⟩,0⟩,
 ⟨⟨(some 4),.lenS (t 3),none⟩,0⟩,
 ⟨⟨(some 5),.call fj [(t 4)],none⟩,0⟩,
 ⟨⟨(some 6),.mov (t 0),none⟩,0⟩,
 ⟨⟨(some 7),.bin .add (t 5) (t 6),none⟩,0⟩,
 ⟨⟨(some 2),.mov (t 7),none⟩,0⟩]
def zaii : TC := (.seq (.ops zanv) (.clean [0] (.seq (.ops zanu) (.ret [2]))))
def zai3 : TFn := ⟨8,zaii,[.tmp 2],false⟩
theorem za91 : type_of% (ai @zanv.eq_1 (ai @zanu.eq_1 (ai @zaii.eq_1 @zai3.eq_1))) := ⟨rfl,rfl,rfl,rfl⟩
theorem za9m : ul Try.prog [] jq = some (8,zaii.erase,[.tmp 2]) := by kernel_rfl
def zarn : List au := [⟨⟨(some 2),.mov (.const (Go.Value.string ⟨#[]⟩)),none⟩,0⟩]
def zarm : List au := [⟨⟨(some 5),.makeSl fi 1 [(.int .u8 0)] (ci 8) (ci 8),none⟩,1⟩,
 ⟨⟨(some 3),.mov (t 5),none⟩,0⟩]
def zarl : List au := [⟨⟨(some 6),.mov (t 3),none⟩,0⟩,
 ⟨⟨(some 7),.lenL (t 6),none⟩,0⟩,
 ⟨⟨(some 8),.mov (ci 0),none⟩,0⟩]
def zark : List au := [⟨⟨(some 9),.bin .lss (t 8) (t 7),none⟩,0⟩]
def zarj : List au := [⟨⟨(some 10),.mov (t 8),none⟩,0⟩,
 ⟨⟨(some 4),.mov (t 10),none⟩,0⟩]
def zari : List au := [⟨⟨(some 11),.mov (t 3),none⟩,0⟩,
 ⟨⟨(some 12),.mov (t 4),none⟩,0⟩,
 ⟨⟨(some 13),.mov (t 0),none⟩,0⟩,
 ⟨⟨(some 14),.mov (t 4),none⟩,0⟩,
 ⟨⟨(some 15),.bin .sub (ci 7) (t 14),none⟩,0⟩,
 ⟨⟨(some 16),.bin .mul (ci 8) (t 15),none⟩,0⟩,
 ⟨⟨(some 17),.bin .shr (t 13) (t 16),none⟩,0⟩,
 ⟨⟨(some 18),.conv .u8 (t 17),none⟩,0⟩,
 ⟨⟨(some 19),.indexSl 1 (t 11) (t 12),none⟩,0⟩,
 ⟨⟨none,.store 1 (t 19) (t 18),none⟩,0⟩]
def zarh : List au := [⟨⟨(some 20),.bin .add (t 8) (ci 1),none⟩,0⟩,
 ⟨⟨(some 8),.mov (t 20),none⟩,0⟩]
def zaed : TC := (.seq (.ops zark) (.clean [0,3,7,8,9] (.seq (.cond (t 9) .skip (.exit 0)) (.clean [0,3,7,8] (.seq (.block 1 [0,3,7,8] (.seq (.ops zarj) (.clean [0,3,4,7,8] (.ops zari)))) (.clean [0,3,7,8] (.ops zarh)))))))
def zarg : List au := [⟨⟨(some 21),.mov (t 3),none⟩,0⟩,
 ⟨⟨(some 22),.toStr (t 21),none⟩,0⟩,
 ⟨⟨(some 2),.mov (t 22),none⟩,0⟩]
def zakf : TC := (.seq (.ops zarn) (.clean [0] (.seq (.ops zarm) (.clean [0,3] (.seq (.seq (.ops zarl) (.block 0 [3] (.clean [0,3,7,8] (.loop [0,3,7,8] zaed)))) (.clean [3] (.seq (.ops zarg) (.ret [2]))))))))
def zalp : TFn := ⟨23,zakf,[.tmp 2],false⟩
theorem zajg : type_of% (ai @zarn.eq_1 (ai @zarm.eq_1 (ai @zarl.eq_1 (ai @zark.eq_1 (ai @zarj.eq_1 (ai @zari.eq_1 (ai @zarh.eq_1 (ai @zarg.eq_1 (ai @zakf.eq_1 @zalp.eq_1))))))))) := ⟨rfl,rfl,rfl,rfl,rfl,rfl,rfl,rfl,rfl,rfl⟩
theorem zbb2 : ul Try.prog [] fj = some (23,zakf.erase,[.tmp 2]) := by kernel_rfl
def zady : List au := [⟨⟨(some 4),.mov (.const (Go.Value.string ⟨#[]⟩)),none⟩,0⟩]
def zadx : List au := [⟨⟨(some 5),.box bq 2 (.const (.agg #[(.pointer none),(.slice none 0 0)])),none⟩,0⟩]
def zadw : List au := [⟨⟨(some 8),.mov (t 0),none⟩,0⟩,
 ⟨⟨(some 9),.lenL (t 8),none⟩,0⟩,
 ⟨⟨(some 10),.call fj [(t 9)],none⟩,0⟩,
 ⟨⟨(some 11),.call a9 [(t 5),(t 10)],none⟩,0⟩]
def zadv : List au := [⟨⟨(some 12),.mov (t 0),none⟩,0⟩,
 ⟨⟨(some 13),.lenL (t 12),none⟩,0⟩,
 ⟨⟨(some 14),.mov (ci 0),none⟩,0⟩]
def zadu : List au := [⟨⟨(some 15),.bin .lss (t 14) (t 13),none⟩,0⟩]
def zadt : List au := [⟨⟨(some 16),.indexSl 1 (t 12) (t 14),none⟩,0⟩,
 ⟨⟨(some 17),.load1 (t 16),none⟩,0⟩,
 ⟨⟨(some 7),.mov (t 17),none⟩,0⟩]
def zads : List au := [⟨⟨(some 18),.mov (t 1),none⟩,0⟩,
 ⟨⟨(some 19),.mov (t 7),none⟩,0⟩,
 ⟨⟨(some 20),.callv (t 18) [(t 19)],none⟩,0⟩,
 ⟨⟨(some 21),.call a9 [(t 5),(t 20)],none⟩,0⟩]
def zadr : List au := [⟨⟨(some 22),.bin .add (t 14) (ci 1),none⟩,0⟩,
 ⟨⟨(some 14),.mov (t 22),none⟩,0⟩]
def pt : TC := (.seq (.ops zadu) (.clean [1,5,12,13,14,15] (.seq (.cond (t 15) .skip (.exit 0)) (.clean [1,5,12,13,14] (.seq (.block 1 [1,5,12,13,14] (.seq (.ops zadt) (.clean [1,5,7,12,13,14] (.ops zads)))) (.clean [1,5,12,13,14] (.ops zadr)))))))
def zadq : List au := [⟨⟨(some 23),.call bu [(t 5)],none⟩,0⟩,
 ⟨⟨(some 4),.mov (t 23),none⟩,0⟩]
def xd : TC := (.seq (.ops zady) (.clean [0,1] (.seq (.ops zadx) (.clean [0,1,5] (.seq (.ops zadw) (.clean [0,1,5] (.seq (.seq (.ops zadv) (.block 0 [5] (.clean [1,5,12,13,14] (.loop [1,5,12,13,14] pt)))) (.clean [5] (.seq (.ops zadq) (.ret [4]))))))))))
def xz : TFn := ⟨24,xd,[.tmp 4],false⟩
theorem td : type_of% (ai @zady.eq_1 (ai @zadx.eq_1 (ai @zadw.eq_1 (ai @zadv.eq_1 (ai @zadu.eq_1 (ai @zadt.eq_1 (ai @zads.eq_1 (ai @zadr.eq_1 (ai @zadq.eq_1 (ai @xd.eq_1 @xz.eq_1)))))))))) := ⟨rfl,rfl,rfl,rfl,rfl,rfl,rfl,rfl,rfl,rfl,rfl⟩
theorem zatp : ul Try.prog [] j9 = some (24,xd.erase,[.tmp 4]) := by kernel_rfl
def qd : List au := [⟨⟨(some 4),.mov (ci 0),none⟩,0⟩,
 ⟨⟨(some 5),.mov (.const Go.Value.nilIface),none⟩,0⟩]
def qc : List au := [⟨⟨(some 6),.mov (t 0),none⟩,0⟩,
 ⟨⟨(some 7),.call dx [(t 6)],none⟩,0⟩]
def qb : List au := [⟨⟨(some 8),.mov (t 0),none⟩,0⟩,
 ⟨⟨(some 9),.mov (t 0),none⟩,0⟩,
 ⟨⟨(some 10),.nilchk (t 9),none⟩,0⟩,
 ⟨⟨(some 11),.fieldAddr 1 (t 10),none⟩,0⟩,
 ⟨⟨(some 12),.load1 (t 11),none⟩,2⟩,
 ⟨⟨(some 13),.mov (t 1),none⟩,0⟩,
 ⟨⟨(some 14),.appendS fi (t 12) (t 13),none⟩,0⟩,
 ⟨⟨(some 15),.nilchk (t 8),none⟩,0⟩,
 ⟨⟨(some 16),.fieldAddr 1 (t 15),none⟩,0⟩,
 ⟨⟨none,.store 1 (t 16) (t 14),none⟩,2⟩]
def qa : List au := [⟨⟨(some 17),.mov (t 1),none⟩,0⟩,
 ⟨⟨(some 18),.lenS (t 17),none⟩,0⟩,
 ⟨⟨(some 4),.mov (t 18),none⟩,0⟩,
 ⟨⟨(some 5),.mov (.const Go.Value.nilIface),none⟩,0⟩]
def lq : TC := (.seq (.ops qd) (.clean [0,1] (.seq (.ops qc) (.clean [0,1] (.seq (.ops qb) (.clean [1] (.seq (.ops qa) (.ret [4,5]))))))))
def lz : TFn := ⟨19,lq,[.tmp 4,.tmp 5],false⟩
theorem ry : type_of% (ai @qd.eq_1 (ai @qc.eq_1 (ai @qb.eq_1 (ai @qa.eq_1 (ai @lq.eq_1 @lz.eq_1))))) := ⟨rfl,rfl,rfl,rfl,rfl,rfl⟩
theorem zadl : ul Try.prog [] a9 = some (19,lq.erase,[.tmp 4,.tmp 5]) := by kernel_rfl
def zajr : List au := [⟨⟨(some 1),.box mn 5 (t 0),none⟩,0⟩,
 ⟨⟨(some 2),.mov (.const (Go.Value.string ⟨#[]⟩)),none⟩,0⟩]
def zajq : List au := [⟨⟨(some 3),.fieldAddr 0 (t 1),none⟩,0⟩,
 ⟨⟨(some 4),.load1 (t 3),none⟩,0⟩,
 ⟨⟨(some 6),.fieldAddr 1 (t 1),none⟩,0⟩,
 ⟨⟨(some 7),.load1 (t 6),none⟩,0⟩,
 ⟨⟨(some 10),.fieldAddr 2 (t 1),none⟩,0⟩,
 ⟨⟨(some 11),.load1 (t 10),none⟩,0⟩,
 ⟨⟨(some 14),.fieldAddr 3 (t 1),none⟩,0⟩,
 ⟨⟨(some 15),.load1 (t 14),none⟩,0⟩,
 ⟨⟨(some 18),.fieldAddr 4 (t 1),none⟩,0⟩,
 ⟨⟨(some 19),.load1 (t 18),none⟩,0⟩,
 ⟨⟨(some 5),.call fj [(t 4)],none⟩,0⟩,
 ⟨⟨(some 8),.call fj [(t 7)],none⟩,0⟩,
 ⟨⟨(some 9),.bin .add (t 5) (t 8),none⟩,0⟩,
 ⟨⟨(some 12),.call fj [(t 11)],none⟩,0⟩,
 ⟨⟨(some 13),.bin .add (t 9) (t 12),none⟩,0⟩,
 ⟨⟨(some 16),.call jq [(t 15)],none⟩,0⟩,
 ⟨⟨(some 17),.bin .add (t 13) (t 16),none⟩,0⟩,
 ⟨⟨(some 20),.call fj [(t 19)],none⟩,0⟩,
 ⟨⟨(some 21),.bin .add (t 17) (t 20),none⟩,0⟩,
 ⟨⟨(some 2),.mov (t 21),none⟩,0⟩]
def zae4 : TC := (.seq (.ops zajr) (.clean [1] (.seq (.draw (pl zajq)) (.ret [2]))))
def zafn : TFn := ⟨22,zae4,[.tmp 2],false⟩
theorem za0v : type_of% (ai @zajr.eq_1 (ai @zajq.eq_1 (ai @zae4.eq_1 @zafn.eq_1))) := ⟨rfl,rfl,rfl,rfl⟩
theorem za0p : ul Try.prog [(1,⟨[0,1,3,4,7,8,11,12,15,16,2,5,6,9,10,13,14,17,18,19],[0,1,3,0,8,31,63,0,128,447,1023,0,2048,7103,16383,0,32768,113599,262143,524287],[],[]⟩)] li = some (22,zae4.erase,[.tmp 2]) := by kernel_rfl
def zaak : List au := [⟨⟨(some 4),.mov (.const (Go.Value.string ⟨#[]⟩)),none⟩,0⟩]
def zaaj : List au := [⟨⟨(some 5),.box bq 2 (.const (.agg #[(.pointer none),(.slice none 0 0)])),none⟩,0⟩]
def zaai : List au := [⟨⟨(some 8),.mov (t 0),none⟩,0⟩,
 ⟨⟨(some 9),.lenL (t 8),none⟩,0⟩,
 ⟨⟨(some 10),.call fj [(t 9)],none⟩,0⟩,
 ⟨⟨(some 11),.call a9 [(t 5),(t 10)],none⟩,0⟩]
def zaah : List au := [⟨⟨(some 12),.mov (t 0),none⟩,0⟩,
 ⟨⟨(some 13),.lenL (t 12),none⟩,0⟩,
 ⟨⟨(some 14),.mov (ci 0),none⟩,0⟩]
def zaag : List au := [⟨⟨(some 15),.bin .lss (t 14) (t 13),none⟩,0⟩]
def zaaf : List au := [⟨⟨(some 16),.indexSl 2 (t 12) (t 14),none⟩,0⟩,
 ⟨⟨(some 17),.loadN 2 (t 16),none⟩,0⟩,
 ⟨⟨(some 7),.box dp 2 (.const (.agg #[(.string ⟨#[]⟩),(.slice none 0 0)])),none⟩,0⟩,
 ⟨⟨none,.store 2 (t 7) (t 17),none⟩,0⟩]
def zaae : List au := [⟨⟨(some 18),.mov (t 1),none⟩,0⟩,
 ⟨⟨(some 19),.loadN 2 (t 7),none⟩,0⟩,
 ⟨⟨(some 20),.callv (t 18) [(t 19)],none⟩,0⟩,
 ⟨⟨(some 21),.call a9 [(t 5),(t 20)],none⟩,0⟩]
def zaad : List au := [⟨⟨(some 22),.bin .add (t 14) (ci 1),none⟩,0⟩,
 ⟨⟨(some 14),.mov (t 22),none⟩,0⟩]
def mv : TC := (.seq (.ops zaag) (.clean [1,5,12,13,14,15] (.seq (.cond (t 15) .skip (.exit 0)) (.clean [1,5,12,13,14] (.seq (.block 1 [1,5,12,13,14] (.seq (.ops zaaf) (.clean [1,5,7,12,13,14] (.ops zaae)))) (.clean [1,5,12,13,14] (.ops zaad)))))))
def zaac : List au := [⟨⟨(some 23),.call bu [(t 5)],none⟩,0⟩,
 ⟨⟨(some 4),.mov (t 23),none⟩,0⟩]
def sa : TC := (.seq (.ops zaak) (.clean [0,1] (.seq (.ops zaaj) (.clean [0,1,5] (.seq (.ops zaai) (.clean [0,1,5] (.seq (.seq (.ops zaah) (.block 0 [5] (.clean [1,5,12,13,14] (.loop [1,5,12,13,14] mv)))) (.clean [5] (.seq (.ops zaac) (.ret [4]))))))))))
def sd : TFn := ⟨24,sa,[.tmp 4],false⟩
theorem o7 : type_of% (ai @zaak.eq_1 (ai @zaaj.eq_1 (ai @zaai.eq_1 (ai @zaah.eq_1 (ai @zaag.eq_1 (ai @zaaf.eq_1 (ai @zaae.eq_1 (ai @zaad.eq_1 (ai @zaac.eq_1 (ai @sa.eq_1 @sd.eq_1)))))))))) := ⟨rfl,rfl,rfl,rfl,rfl,rfl,rfl,rfl,rfl,rfl,rfl⟩
theorem zal5 : ul Try.prog [] jp = some (24,sa.erase,[.tmp 4]) := by kernel_rfl
def zacf : List au := [⟨⟨(some 4),.mov (.const (Go.Value.string ⟨#[]⟩)),none⟩,0⟩]
def zace : List au := [⟨⟨(some 5),.box bq 2 (.const (.agg #[(.pointer none),(.slice none 0 0)])),none⟩,0⟩]
def zacd : List au := [⟨⟨(some 8),.mov (t 0),none⟩,0⟩,
 ⟨⟨(some 9),.lenL (t 8),none⟩,0⟩,
 ⟨⟨(some 10),.call fj [(t 9)],none⟩,0⟩,
 ⟨⟨(some 11),.call a9 [(t 5),(t 10)],none⟩,0⟩]
def zacc : List au := [⟨⟨(some 12),.mov (t 0),none⟩,0⟩,
 ⟨⟨(some 13),.lenL (t 12),none⟩,0⟩,
 ⟨⟨(some 14),.mov (ci 0),none⟩,0⟩]
def zacb : List au := [⟨⟨(some 15),.bin .lss (t 14) (t 13),none⟩,0⟩]
def zaca : List au := [⟨⟨(some 16),.indexSl 5 (t 12) (t 14),none⟩,0⟩,
 ⟨⟨(some 17),.loadN 5 (t 16),none⟩,0⟩,
 ⟨⟨(some 7),.box mn 5 (.const (.agg #[(.int .i64 0),(.int .i64 0),(.int .i64 0),(.string ⟨#[]⟩),(.int .i64 0)])),none⟩,0⟩,
 ⟨⟨none,.store 5 (t 7) (t 17),none⟩,0⟩]
def zab9 : List au := [⟨⟨(some 18),.mov (t 1),none⟩,0⟩,
 ⟨⟨(some 19),.loadN 5 (t 7),none⟩,0⟩,
 ⟨⟨(some 20),.callv (t 18) [(t 19)],none⟩,0⟩,
 ⟨⟨(some 21),.call a9 [(t 5),(t 20)],none⟩,0⟩]
def zab8 : List au := [⟨⟨(some 22),.bin .add (t 14) (ci 1),none⟩,0⟩,
 ⟨⟨(some 14),.mov (t 22),none⟩,0⟩]
def ov : TC := (.seq (.ops zacb) (.clean [1,5,12,13,14,15] (.seq (.cond (t 15) .skip (.exit 0)) (.clean [1,5,12,13,14] (.seq (.block 1 [1,5,12,13,14] (.seq (.ops zaca) (.clean [1,5,7,12,13,14] (.ops zab9)))) (.clean [1,5,12,13,14] (.ops zab8)))))))
def zab7 : List au := [⟨⟨(some 23),.call bu [(t 5)],none⟩,0⟩,
 ⟨⟨(some 4),.mov (t 23),none⟩,0⟩]
def ut : TC := (.seq (.ops zacf) (.clean [0,1] (.seq (.ops zace) (.clean [0,1,5] (.seq (.ops zacd) (.clean [0,1,5] (.seq (.seq (.ops zacc) (.block 0 [5] (.clean [1,5,12,13,14] (.loop [1,5,12,13,14] ov)))) (.clean [5] (.seq (.ops zab7) (.ret [4]))))))))))
def vg : TFn := ⟨24,ut,[.tmp 4],false⟩
theorem rk : type_of% (ai @zacf.eq_1 (ai @zace.eq_1 (ai @zacd.eq_1 (ai @zacc.eq_1 (ai @zacb.eq_1 (ai @zaca.eq_1 (ai @zab9.eq_1 (ai @zab8.eq_1 (ai @zab7.eq_1 (ai @ut.eq_1 @vg.eq_1)))))))))) := ⟨rfl,rfl,rfl,rfl,rfl,rfl,rfl,rfl,rfl,rfl,rfl⟩
theorem zap4 : ul Try.prog [] kw = some (24,ut.erase,[.tmp 4]) := by kernel_rfl
def zaho : List au := [⟨⟨(some 4),.mov (.const (Go.Value.string ⟨#[]⟩)),none⟩,0⟩]
def zahn : List au := [⟨⟨(some 5),.box bq 2 (.const (.agg #[(.pointer none),(.slice none 0 0)])),none⟩,0⟩]
def zahm : List au := [⟨⟨(some 8),.mov (t 0),none⟩,0⟩,
 ⟨⟨(some 9),.lenL (t 8),none⟩,0⟩,
 ⟨⟨(some 10),.call fj [(t 9)],none⟩,0⟩,
 ⟨⟨(some 11),.call a9 [(t 5),(t 10)],none⟩,0⟩]
def zahl : List au := [⟨⟨(some 12),.mov (t 0),none⟩,0⟩,
 ⟨⟨(some 13),.lenL (t 12),none⟩,0⟩,
 ⟨⟨(some 14),.mov (ci 0),none⟩,0⟩]
def zahk : List au := [⟨⟨(some 15),.bin .lss (t 14) (t 13),none⟩,0⟩]
def zahj : List au := [⟨⟨(some 16),.indexSl 1 (t 12) (t 14),none⟩,0⟩,
 ⟨⟨(some 17),.load1 (t 16),none⟩,0⟩,
 ⟨⟨(some 7),.mov (t 17),none⟩,0⟩]
def zahi : List au := [⟨⟨(some 18),.mov (t 1),none⟩,0⟩,
 ⟨⟨(some 19),.mov (t 7),none⟩,0⟩,
 ⟨⟨(some 20),.callv (t 18) [(t 19)],none⟩,0⟩,
 ⟨⟨(some 21),.call a9 [(t 5),(t 20)],none⟩,0⟩]
def zahh : List au := [⟨⟨(some 22),.bin .add (t 14) (ci 1),none⟩,0⟩,
 ⟨⟨(some 14),.mov (t 22),none⟩,0⟩]
def uk : TC := (.seq (.ops zahk) (.clean [1,5,12,13,14,15] (.seq (.cond (t 15) .skip (.exit 0)) (.clean [1,5,12,13,14] (.seq (.block 1 [1,5,12,13,14] (.seq (.ops zahj) (.clean [1,5,7,12,13,14] (.ops zahi)))) (.clean [1,5,12,13,14] (.ops zahh)))))))
def zahg : List au := [⟨⟨(some 23),.call bu [(t 5)],none⟩,0⟩,
 ⟨⟨(some 4),.mov (t 23),none⟩,0⟩]
def zadc : TC := (.seq (.ops zaho) (.clean [0,1] (.seq (.ops zahn) (.clean [0,1,5] (.seq (.ops zahm) (.clean [0,1,5] (.seq (.seq (.ops zahl) (.block 0 [5] (.clean [1,5,12,13,14] (.loop [1,5,12,13,14] uk)))) (.clean [5] (.seq (.ops zahg) (.ret [4]))))))))))
def zadi : TFn := ⟨24,zadc,[.tmp 4],false⟩
theorem zaaq : type_of% (ai @zaho.eq_1 (ai @zahn.eq_1 (ai @zahm.eq_1 (ai @zahl.eq_1 (ai @zahk.eq_1 (ai @zahj.eq_1 (ai @zahi.eq_1 (ai @zahh.eq_1 (ai @zahg.eq_1 (ai @zadc.eq_1 @zadi.eq_1)))))))))) := ⟨rfl,rfl,rfl,rfl,rfl,rfl,rfl,rfl,rfl,rfl,rfl⟩
theorem zazr : ul Try.prog [] qj = some (24,zadc.erase,[.tmp 4]) := by kernel_rfl
def zaq5 : List au := [⟨⟨(some 2),.box dj 7 (t 0),none⟩,0⟩,
 ⟨⟨(some 3),.box dj 7 (t 1),none⟩,0⟩,
 ⟨⟨(some 4),.mov (.const (Go.Value.bool false)),none⟩,0⟩]
def zaq4 : List au := [⟨⟨(some 5),.mov (.func my),none⟩,0⟩]
def zaq3 : List au := [⟨⟨(some 6),.fieldAddr 0 (t 2),none⟩,0⟩,
 ⟨⟨(some 7),.load1 (t 6),none⟩,0⟩,
 ⟨⟨(some 8),.fieldAddr 0 (t 3),none⟩,0⟩,
 ⟨⟨(some 9),.load1 (t 8),none⟩,0⟩,
 ⟨⟨(some 10),.bin .eql (t 7) (t 9),none⟩,0⟩,
 ⟨⟨(some 11),.mov (t 10),none⟩,0⟩,
 ⟨⟨(some 12),.fieldAddr 1 (t 2),(some (11,true))⟩,0⟩,
 ⟨⟨(some 13),.load1 (t 12),(some (11,true))⟩,0⟩,
 ⟨⟨(some 14),.fieldAddr 1 (t 3),(some (11,true))⟩,0⟩,
 ⟨⟨(some 15),.load1 (t 14),(some (11,true))⟩,0⟩,
 ⟨⟨(some 16),.mov (t 5),(some (11,true))⟩,0⟩,
 ⟨⟨(some 17),.call az [(t 13),(t 15),(t 16)],(some (11,true))⟩,0⟩,
 ⟨⟨(some 18),.pick (t 11) (t 17) (.const (Go.Value.bool false)),none⟩,0⟩,
 ⟨⟨(some 19),.mov (t 18),none⟩,0⟩,
 ⟨⟨(some 20),.fieldAddr 2 (t 2),(some (19,true))⟩,0⟩,
 ⟨⟨(some 21),.load1 (t 20),(some (19,true))⟩,0⟩,
 ⟨⟨(some 22),.fieldAddr 2 (t 3),(some (19,true))⟩,0⟩,
 ⟨⟨(some 23),.load1 (t 22),(some (19,true))⟩,0⟩,
 ⟨⟨(some 24),.call d4 [(t 21),(t 23)],(some (19,true))⟩,0⟩,
 ⟨⟨(some 25),.pick (t 19) (t 24) (.const (Go.Value.bool false)),none⟩,0⟩,
 ⟨⟨(some 26),.mov (t 25),none⟩,0⟩,
 ⟨⟨(some 27),.fieldAddr 3 (t 2),(some (26,true))⟩,0⟩,
 ⟨⟨(some 28),.load1 (t 27),(some (26,true))⟩,0⟩,
 ⟨⟨(some 29),.fieldAddr 3 (t 3),(some (26,true))⟩,0⟩,
 ⟨⟨(some 30),.load1 (t 29),(some (26,true))⟩,0⟩,
 ⟨⟨(some 31),.call ij [(t 28),(t 30)],(some (26,true))⟩,0⟩,
 ⟨⟨(some 32),.pick (t 26) (t 31) (.const (Go.Value.bool false)),none⟩,0⟩,
 ⟨⟨(some 33),.mov (t 32),none⟩,0⟩,
 ⟨⟨(some 34),.fieldAddr 4 (t 2),(some (33,true))⟩,0⟩,
 ⟨⟨(some 35),.load1 (t 34),(some (33,true))⟩,0⟩,
 ⟨⟨(some 36),.fieldAddr 4 (t 3),(some (33,true))⟩,0⟩,
 ⟨⟨(some 37),.load1 (t 36),(some (33,true))⟩,0⟩,
 ⟨⟨(some 38),.call dt [(t 35),(t 37)],(some (33,true))⟩,0⟩,
 ⟨⟨(some 39),.pick (t 33) (t 38) (.const (Go.Value.bool false)),none⟩,0⟩,
 ⟨⟨(some 40),.mov (t 39),none⟩,0⟩,
 ⟨⟨(some 41),.fieldAddr 5 (t 2),(some (40,true))⟩,0⟩,
 ⟨⟨(some 42),.load1 (t 41),(some (40,true))⟩,0⟩,
 ⟨⟨(some 43),.fieldAddr 5 (t 3),(some (40,true))⟩,0⟩,
 ⟨⟨(some 44),.load1 (t 43),(some (40,true))⟩,0⟩,
 ⟨⟨(some 45),.bin .eql (t 42) (t 44),(some (40,true))⟩,0⟩,
 ⟨⟨(some 46),.pick (t 40) (t 45) (.const (Go.Value.bool false)),none⟩,0⟩,
 ⟨⟨(some 47),.mov (t 46),none⟩,0⟩,
 ⟨⟨(some 48),.fieldAddr 6 (t 2),(some (47,true))⟩,0⟩,
 ⟨⟨(some 49),.load1 (t 48),(some (47,true))⟩,0⟩,
 ⟨⟨(some 50),.fieldAddr 6 (t 3),(some (47,true))⟩,0⟩,
 ⟨⟨(some 51),.load1 (t 50),(some (47,true))⟩,0⟩,
 ⟨⟨(some 52),.bin .eql (t 49) (t 51),(some (47,true))⟩,0⟩,
 ⟨⟨(some 53),.pick (t 47) (t 52) (.const (Go.Value.bool false)),none⟩,0⟩,
 ⟨⟨(some 4),.mov (t 53),none⟩,0⟩]
def zakd : TC := (.seq (.ops zaq5) (.clean [2,3] (.seq (.ops zaq4) (.clean [2,3,5] (.seq (.ops zaq3) (.ret [4]))))))
def zaln : TFn := ⟨54,zakd,[.tmp 4],false⟩
theorem yc : type_of% (ai @zaq5.eq_1 (ai @zaq4.eq_1 (ai @zaq3.eq_1 (ai @zakd.eq_1 @zaln.eq_1)))) := ⟨rfl,rfl,rfl,rfl,rfl⟩
theorem zbb0 : ul Try.prog [] yh = some (54,zakd.erase,[.tmp 4]) := by kernel_rfl
def zakx : List au := [⟨⟨(some 2),.box dp 2 (t 0),none⟩,0⟩,
 ⟨⟨(some 3),.box dp 2 (t 1),none⟩,0⟩,
 ⟨⟨(some 4),.mov (.const (Go.Value.bool false)),none⟩,0⟩]
def zakw : List au := [⟨⟨(some 5),.fieldAddr 0 (t 2),none⟩,0⟩,
 ⟨⟨(some 6),.load1 (t 5),none⟩,0⟩,
 ⟨⟨(some 7),.fieldAddr 0 (t 3),none⟩,0⟩,
 ⟨⟨(some 8),.load1 (t 7),none⟩,0⟩,
 ⟨⟨(some 9),.bin .eql (t 6) (t 8),none⟩,0⟩,
 ⟨⟨(some 10),.mov (t 9),none⟩,0⟩,
 ⟨⟨(some 11),.fieldAddr 1 (t 2),(some (10,true))⟩,0⟩,
 ⟨⟨(some 12),.load1 (t 11),(some (10,true))⟩,0⟩,
 ⟨⟨(some 13),.fieldAddr 1 (t 3),(some (10,true))⟩,0⟩,
 ⟨⟨(some 14),.load1 (t 13),(some (10,true))⟩,0⟩,
 ⟨⟨(some 15),.call dt [(t 12),(t 14)],(some (10,true))⟩,0⟩,
 ⟨⟨(some 16),.pick (t 10) (t 15) (.const (Go.Value.bool false)),none⟩,0⟩,
 ⟨⟨(some 4),.mov (t 16),none⟩,0⟩]
def zagh : TC := (.seq (.ops zakx) (.clean [2,3] (.seq (.ops zakw) (.ret [4]))))
def zagq : TFn := ⟨17,zagh,[.tmp 4],false⟩
theorem zatv : type_of% (ai @zakx.eq_1 (ai @zakw.eq_1 (ai @zagh.eq_1 @zagq.eq_1))) := ⟨rfl,rfl,rfl,rfl⟩
theorem za4p : ul Try.prog [] my = some (17,zagh.erase,[.tmp 4]) := by kernel_rfl
def qy : List au := [⟨⟨(some 4),.mov (.const (Go.Value.bool false)),none⟩,0⟩]
def qx : List au := [⟨⟨(some 6),.mov (t 0),none⟩,0⟩,
 ⟨⟨(some 7),.lenL (t 6),none⟩,0⟩,
 ⟨⟨(some 8),.mov (t 1),none⟩,0⟩,
 ⟨⟨(some 9),.lenL (t 8),none⟩,0⟩,
 ⟨⟨(some 10),.bin .neq (t 7) (t 9),none⟩,0⟩]
def qw : List au := [⟨⟨(some 4),.mov (.const (Go.Value.bool false)),none⟩,0⟩]
def qv : List au := [⟨⟨(some 11),.mov (t 0),none⟩,0⟩,
 ⟨⟨(some 12),.lenL (t 11),none⟩,0⟩,
 ⟨⟨(some 13),.mov (ci 0),none⟩,0⟩]
def qu : List au := [⟨⟨(some 14),.bin .lss (t 13) (t 12),none⟩,0⟩]
def qt : List au := [⟨⟨(some 15),.mov (t 13),none⟩,0⟩,
 ⟨⟨(some 5),.mov (t 15),none⟩,0⟩]
def qr : List au := [⟨⟨(some 16),.mov (t 0),none⟩,0⟩,
 ⟨⟨(some 17),.mov (t 5),none⟩,0⟩,
 ⟨⟨(some 18),.indexSl 1 (t 16) (t 17),none⟩,0⟩,
 ⟨⟨(some 19),.load1 (t 18),none⟩,0⟩,
 ⟨⟨(some 20),.mov (t 1),none⟩,0⟩,
 ⟨⟨(some 21),.mov (t 5),none⟩,0⟩,
 ⟨⟨(some 22),.indexSl 1 (t 20) (t 21),none⟩,0⟩,
 ⟨⟨(some 23),.load1 (t 22),none⟩,0⟩,
 ⟨⟨(some 24),.bin .neq (t 19) (t 23),none⟩,0⟩]
def qp : List au := [⟨⟨(some 4),.mov (.const (Go.Value.bool false)),none⟩,0⟩]
def qo : List au := [⟨⟨(some 25),.bin .add (t 13) (ci 1),none⟩,0⟩,
 ⟨⟨(some 13),.mov (t 25),none⟩,0⟩]
def ft : TC := (.seq (.ops qu) (.clean [0,1,12,13,14] (.seq (.cond (t 14) .skip (.exit 0)) (.clean [0,1,12,13] (.seq (.block 1 [0,1,12,13] (.seq (.ops qt) (.clean [0,1,5,12,13] (.seq (.draw (pl qr)) (.clean [0,1,12,13,24] (.cond (t 24) (.seq (.ops qp) (.ret [4])) .skip)))))) (.clean [0,1,12,13] (.ops qo)))))))
def qn : List au := [⟨⟨(some 4),.mov (.const (Go.Value.bool true)),none⟩,0⟩]
def mg : TC := (.seq (.ops qy) (.clean [0,1] (.seq (.seq (.ops qx) (.clean [0,1,10] (.cond (t 10) (.seq (.ops qw) (.ret [4])) .skip))) (.clean [0,1] (.seq (.seq (.ops qv) (.block 0 [] (.clean [0,1,12,13] (.loop [0,1,12,13] ft)))) (.clean [] (.seq (.ops qn) (.ret [4]))))))))
def mh : TFn := ⟨26,mg,[.tmp 4],false⟩
theorem dm : type_of% (ai @qy.eq_1 (ai @qx.eq_1 (ai @qw.eq_1 (ai @qv.eq_1 (ai @qu.eq_1 (ai @qt.eq_1 (ai @qr.eq_1 (ai @qp.eq_1 (ai @qo.eq_1 (ai @qn.eq_1 (ai @mg.eq_1 @mh.eq_1))))))))))) := ⟨rfl,rfl,rfl,rfl,rfl,rfl,rfl,rfl,rfl,rfl,rfl,rfl⟩
theorem zaek : ul Try.prog [(6,⟨[0,1,2,3,4,5,6,7,8],[0,0,3,7,0,0,48,112,255],[],[]⟩)] dt = some (26,mg.erase,[.tmp 4]) := by kernel_rfl
def fb : List au := [⟨⟨(some 6),.mov (.const (Go.Value.bool false)),none⟩,0⟩]
def fa : List au := [⟨⟨(some 10),.mov (t 0),none⟩,0⟩,
 ⟨⟨(some 11),.lenL (t 10),none⟩,0⟩,
 ⟨⟨(some 12),.mov (t 1),none⟩,0⟩,
 ⟨⟨(some 13),.lenL (t 12),none⟩,0⟩,
 ⟨⟨(some 14),.bin .neq (t 11) (t 13),none⟩,0⟩]
def ey : List au := [⟨⟨(some 6),.mov (.const (Go.Value.bool false)),none⟩,0⟩]
def ew : List au := [⟨⟨(some 15),.mov (t 0),none⟩,0⟩,
 ⟨⟨(some 16),.lenL (t 15),none⟩,0⟩,
 ⟨⟨(some 17),.mov (ci 0),none⟩,0⟩]
def ev : List au := [⟨⟨(some 18),.bin .lss (t 17) (t 16),none⟩,0⟩]
def eu : List au := [⟨⟨(some 19),.mov (t 17),none⟩,0⟩,
 ⟨⟨(some 20),.indexSl 2 (t 15) (t 17),none⟩,0⟩,
 ⟨⟨(some 21),.loadN 2 (t 20),none⟩,0⟩,
 ⟨⟨(some 8),.box dp 2 (.const (.agg #[(.string ⟨#[]⟩),(.slice none 0 0)])),none⟩,0⟩,
 ⟨⟨(some 7),.mov (t 19),none⟩,0⟩,
 ⟨⟨none,.store 2 (t 8) (t 21),none⟩,0⟩]
def er : List au := [⟨⟨(some 22),.mov (t 1),none⟩,0⟩,
 ⟨⟨(some 23),.mov (t 7),none⟩,0⟩,
 ⟨⟨(some 24),.indexSl 2 (t 22) (t 23),none⟩,0⟩,
 ⟨⟨(some 25),.loadN 2 (t 24),none⟩,0⟩,
 ⟨⟨(some 9),.box dp 2 (.const (.agg #[(.string ⟨#[]⟩),(.slice none 0 0)])),none⟩,0⟩,
 ⟨⟨none,.store 2 (t 9) (t 25),none⟩,0⟩]
def eq : List au := [⟨⟨(some 26),.mov (t 2),none⟩,0⟩,
 ⟨⟨(some 27),.loadN 2 (t 8),none⟩,0⟩,
 ⟨⟨(some 28),.loadN 2 (t 9),none⟩,0⟩,
 ⟨⟨(some 29),.callv (t 26) [(t 27),(t 28)],none⟩,0⟩,
 ⟨⟨(some 30),.un .not (t 29),none⟩,0⟩]
def ep : List au := [⟨⟨(some 6),.mov (.const (Go.Value.bool false)),none⟩,0⟩]
def eo : List au := [⟨⟨(some 31),.bin .add (t 17) (ci 1),none⟩,0⟩,
 ⟨⟨(some 17),.mov (t 31),none⟩,0⟩]
def bd : TC := (.seq (.ops ev) (.clean [1,2,15,16,17,18] (.seq (.cond (t 18) .skip (.exit 0)) (.clean [1,2,15,16,17] (.seq (.block 1 [1,2,15,16,17] (.seq (.ops eu) (.clean [1,2,7,8,15,16,17] (.seq (.ops er) (.clean [1,2,8,9,15,16,17] (.seq (.ops eq) (.clean [1,2,15,16,17,30] (.cond (t 30) (.seq (.ops ep) (.ret [6])) .skip)))))))) (.clean [1,2,15,16,17] (.ops eo)))))))
def ej : List au := [⟨⟨(some 6),.mov (.const (Go.Value.bool true)),none⟩,0⟩]
def cn : TC := (.seq (.ops fb) (.clean [0,1,2] (.seq (.seq (.ops fa) (.clean [0,1,2,14] (.cond (t 14) (.seq (.ops ey) (.ret [6])) .skip))) (.clean [0,1,2] (.seq (.seq (.ops ew) (.block 0 [] (.clean [1,2,15,16,17] (.loop [1,2,15,16,17] bd)))) (.clean [] (.seq (.ops ej) (.ret [6]))))))))
def cv : TFn := ⟨32,cn,[.tmp 6],false⟩
theorem av : type_of% (ai @fb.eq_1 (ai @fa.eq_1 (ai @ey.eq_1 (ai @ew.eq_1 (ai @ev.eq_1 (ai @eu.eq_1 (ai @er.eq_1 (ai @eq.eq_1 (ai @ep.eq_1 (ai @eo.eq_1 (ai @ej.eq_1 (ai @cn.eq_1 @cv.eq_1)))))))))))) := ⟨rfl,rfl,rfl,rfl,rfl,rfl,rfl,rfl,rfl,rfl,rfl,rfl,rfl⟩
theorem lg : ul Try.prog [] az = some (32,cn.erase,[.tmp 6]) := by kernel_rfl
def pp : List au := [⟨⟨(some 4),.mov (.const (Go.Value.bool false)),none⟩,0⟩]
def po : List au := [⟨⟨(some 6),.mov (t 0),none⟩,0⟩,
 ⟨⟨(some 7),.lenL (t 6),none⟩,0⟩,
 ⟨⟨(some 8),.mov (t 1),none⟩,0⟩,
 ⟨⟨(some 9),.lenL (t 8),none⟩,0⟩,
 ⟨⟨(some 10),.bin .neq (t 7) (t 9),none⟩,0⟩]
def pn : List au := [⟨⟨(some 4),.mov (.const (Go.Value.bool false)),none⟩,0⟩]
def pm : List au := [⟨⟨(some 11),.mov (t 0),none⟩,0⟩,
 ⟨⟨(some 12),.lenL (t 11),none⟩,0⟩,
 ⟨⟨(some 13),.mov (ci 0),none⟩,0⟩]
def pk : List au := [⟨⟨(some 14),.bin .lss (t 13) (t 12),none⟩,0⟩]
def pj : List au := [⟨⟨(some 15),.mov (t 13),none⟩,0⟩,
 ⟨⟨(some 5),.mov (t 15),none⟩,0⟩]
def pi : List au := [⟨⟨(some 16),.mov (t 0),none⟩,0⟩,
 ⟨⟨(some 17),.mov (t 5),none⟩,0⟩,
 ⟨⟨(some 18),.indexSl 5 (t 16) (t 17),none⟩,0⟩,
 ⟨⟨(some 19),.loadN 5 (t 18),none⟩,0⟩,
 ⟨⟨(some 20),.mov (t 1),none⟩,0⟩,
 ⟨⟨(some 21),.mov (t 5),none⟩,0⟩,
 ⟨⟨(some 22),.indexSl 5 (t 20) (t 21),none⟩,0⟩,
 ⟨⟨(some 23),.loadN 5 (t 22),none⟩,0⟩,
 ⟨⟨(some 24),.eqF true [.i,.i,.i,.s,.i] (t 19) (t 23),none⟩,0⟩]
def ph : List au := [⟨⟨(some 4),.mov (.const (Go.Value.bool false)),none⟩,0⟩]
def pg : List au := [⟨⟨(some 25),.bin .add (t 13) (ci 1),none⟩,0⟩,
 ⟨⟨(some 13),.mov (t 25),none⟩,0⟩]
def ek : TC := (.seq (.ops pk) (.clean [0,1,12,13,14] (.seq (.cond (t 14) .skip (.exit 0)) (.clean [0,1,12,13] (.seq (.block 1 [0,1,12,13] (.seq (.ops pj) (.clean [0,1,5,12,13] (.seq (.draw (pl pi)) (.clean [0,1,12,13,24] (.cond (t 24) (.seq (.ops ph) (.ret [4])) .skip)))))) (.clean [0,1,12,13] (.ops pg)))))))
def pf : List au := [⟨⟨(some 4),.mov (.const (Go.Value.bool true)),none⟩,0⟩]
def kj : TC := (.seq (.ops pp) (.clean [0,1] (.seq (.seq (.ops po) (.clean [0,1,10] (.cond (t 10) (.seq (.ops pn) (.ret [4])) .skip))) (.clean [0,1] (.seq (.seq (.ops pm) (.block 0 [] (.clean [0,1,12,13] (.loop [0,1,12,13] ek)))) (.clean [] (.seq (.ops pf) (.ret [4]))))))))
def kn : TFn := ⟨26,kj,[.tmp 4],false⟩
theorem dc : type_of% (ai @pp.eq_1 (ai @po.eq_1 (ai @pn.eq_1 (ai @pm.eq_1 (ai @pk.eq_1 (ai @pj.eq_1 (ai @pi.eq_1 (ai @ph.eq_1 (ai @pg.eq_1 (ai @pf.eq_1 (ai @kj.eq_1 @kn.eq_1))))))))))) := ⟨rfl,rfl,rfl,rfl,rfl,rfl,rfl,rfl,rfl,rfl,rfl,rfl⟩
theorem zac9 : ul Try.prog [(6,⟨[0,1,2,3,4,5,6,7,8],[0,0,3,7,0,0,48,112,255],[],[]⟩)] d4 = some (26,kj.erase,[.tmp 4]) := by kernel_rfl
def zg : List au := [⟨⟨(some 4),.mov (.const (Go.Value.bool false)),none⟩,0⟩]
def zf : List au := [⟨⟨(some 6),.mov (t 0),none⟩,0⟩,
 ⟨⟨(some 7),.lenL (t 6),none⟩,0⟩,
 ⟨⟨(some 8),.mov (t 1),none⟩,0⟩,
 ⟨⟨(some 9),.lenL (t 8),none⟩,0⟩,
 ⟨⟨(some 10),.bin .neq (t 7) (t 9),none⟩,0⟩]
def ze : List au := [⟨⟨(some 4),.mov (.const (Go.Value.bool false)),none⟩,0⟩]
def zd : List au := [⟨⟨(some 11),.mov (t 0),none⟩,0⟩,
 ⟨⟨(some 12),.lenL (t 11),none⟩,0⟩,
 ⟨⟨(some 13),.mov (ci 0),none⟩,0⟩]
def zc : List au := [⟨⟨(some 14),.bin .lss (t 13) (t 12),none⟩,0⟩]
def zb : List au := [⟨⟨(some 15),.mov (t 13),none⟩,0⟩,
 ⟨⟨(some 5),.mov (t 15),none⟩,0⟩]
def za : List au := [⟨⟨(some 16),.mov (t 0),none⟩,0⟩,
 ⟨⟨(some 17),.mov (t 5),none⟩,0⟩,
 ⟨⟨(some 18),.indexSl 1 (t 16) (t 17),none⟩,0⟩,
 ⟨⟨(some 19),.load1 (t 18),none⟩,0⟩,
 ⟨⟨(some 20),.mov (t 1),none⟩,0⟩,
 ⟨⟨(some 21),.mov (t 5),none⟩,0⟩,
 ⟨⟨(some 22),.indexSl 1 (t 20) (t 21),none⟩,0⟩,
 ⟨⟨(some 23),.load1 (t 22),none⟩,0⟩,
 ⟨⟨(some 24),.bin .neq (t 19) (t 23),none⟩,0⟩]
def y0 : List au := [⟨⟨(some 4),.mov (.const (Go.Value.bool false)),none⟩,0⟩]
def yz : List au := [⟨⟨(some 25),.bin .add (t 13) (ci 1),none⟩,0⟩,
 ⟨⟨(some 13),.mov (t 25),none⟩,0⟩]
def jh : TC := (.seq (.ops zc) (.clean [0,1,12,13,14] (.seq (.cond (t 14) .skip (.exit 0)) (.clean [0,1,12,13] (.seq (.block 1 [0,1,12,13] (.seq (.ops zb) (.clean [0,1,5,12,13] (.seq (.draw (pl za)) (.clean [0,1,12,13,24] (.cond (t 24) (.seq (.ops y0) (.ret [4])) .skip)))))) (.clean [0,1,12,13] (.ops yz)))))))
def yx : List au := [⟨⟨(some 4),.mov (.const (Go.Value.bool true)),none⟩,0⟩]
def rg : TC := (.seq (.ops zg) (.clean [0,1] (.seq (.seq (.ops zf) (.clean [0,1,10] (.cond (t 10) (.seq (.ops ze) (.ret [4])) .skip))) (.clean [0,1] (.seq (.seq (.ops zd) (.block 0 [] (.clean [0,1,12,13] (.loop [0,1,12,13] jh)))) (.clean [] (.seq (.ops yx) (.ret [4]))))))))
def ri : TFn := ⟨26,rg,[.tmp 4],false⟩
theorem gm : type_of% (ai @zg.eq_1 (ai @zf.eq_1 (ai @ze.eq_1 (ai @zd.eq_1 (ai @zc.eq_1 (ai @zb.eq_1 (ai @za.eq_1 (ai @y0.eq_1 (ai @yz.eq_1 (ai @yx.eq_1 (ai @rg.eq_1 @ri.eq_1))))))))))) := ⟨rfl,rfl,rfl,rfl,rfl,rfl,rfl,rfl,rfl,rfl,rfl,rfl⟩
theorem zaj7 : ul Try.prog [(6,⟨[0,1,2,3,4,5,6,7,8],[0,0,3,7,0,0,48,112,255],[],[]⟩)] ij = some (26,rg.erase,[.tmp 4]) := by kernel_rfl
end Ic
end Go.Proofs.Ytdcfoaafkppojaa
