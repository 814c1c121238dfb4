import Derived.Test.YtdcfoaafkppojaaProg
import Derived.Test.YtdcfoaafkppojaaTv9
import Derived.KernelRfl
set_option linter.unusedVariables false
/- The code of functions for the tree level, printed by a program out of the model's own print; the kernel checks each. -/
namespace Go.Proofs.Ytdcfoaafkppojaa
open Go Go.RowKit Sh
namespace Ic
abbrev t (n : Nat) : Operand := .tmp n
abbrev ci (n : Int) : Operand := .const (.int .i64 n)
abbrev qx : Nat := 15
abbrev up : Nat := 27
abbrev zb0k : Nat := 28
abbrev zb3i : Nat := 44
abbrev uo : Nat := 45
abbrev pi : Nat := 47
abbrev rq : Nat := 49
abbrev yw : Nat := 51
abbrev zb26 : Nat := 54
abbrev va : Nat := 55
abbrev zb4u : Nat := 56
abbrev zb3l : Nat := 70
abbrev dt : Nat := 71
abbrev li : Nat := 72
abbrev ik : Nat := 73
abbrev nh : Nat := 74
abbrev je : Nat := 75
abbrev ke : Nat := 76
abbrev ng : Nat := 77
abbrev bp : Nat := 78
abbrev o7 : Nat := 79
abbrev ml : Nat := 80
abbrev lm : Nat := 81
abbrev um : Nat := 87
abbrev n5 : Nat := 88
abbrev ul : Nat := 89
abbrev zb27 : Nat := 90
abbrev iu : Nat := 91
abbrev ib : Nat := 92
abbrev jq : Nat := 93
abbrev mc : Nat := 94
abbrev ee : Nat := 95
abbrev ly : Nat := 100
abbrev jt : Nat := 101
abbrev kc : Nat := 102
abbrev lx : Nat := 103
abbrev fk : Nat := 104
abbrev jr : Nat := 105
abbrev lg : Nat := 106
abbrev qw : Nat := 107
abbrev nf : Nat := 112
abbrev du : Nat := 113
abbrev az : Nat := 114
abbrev d4 : Nat := 115
abbrev il : Nat := 116
abbrev nk : Nat := 119
abbrev zb0i : Nat := 120
abbrev zb3m : Nat := 121
abbrev zb3n : Nat := 122
abbrev zb25 : Nat := 123
abbrev d6 : Nat := 128
abbrev jf : Nat := 129
abbrev cw : Nat := 131
abbrev ir : Nat := 132
abbrev fx : Nat := 133
abbrev a9 : Nat := 134
abbrev bu : Nat := 135
abbrev zb3j : Nat := 136
abbrev sc : Nat := 137
abbrev yx : Nat := 138
abbrev nu : Nat := 139
abbrev jg : Nat := 140
abbrev dl : Nat := 141
abbrev dx : Nat := 142
abbrev zb3k : Nat := 143
abbrev lp : Nat := 144
abbrev u7 : Nat := 3
abbrev fj : Nat := 5
abbrev ft : Nat := 9
abbrev dk : Nat := 27
abbrev mw : Nat := 43
abbrev dq : Nat := 45
abbrev cz : Nat := 68
abbrev kb : Nat := 70
abbrev qu : Nat := 87
abbrev ah : Nat := 115
abbrev bq : Nat := 124
abbrev fw : Nat := 130
abbrev lc : Nat := 136
abbrev Qo (d : Nat) (x : I) : au := ⟨⟨some d,x,none⟩,0⟩
abbrev Qt (j d : Nat) (x : I) : au := ⟨⟨some d,x,some (j,true)⟩,0⟩
abbrev Qf (j d : Nat) (x : I) : au := ⟨⟨some d,x,some (j,false)⟩,0⟩
abbrev Qm (m d : Nat) (x : I) : au := ⟨⟨some d,x,none⟩,m⟩
abbrev QF : Operand := .const (Go.Value.bool false)
abbrev QT : Operand := .const (Go.Value.bool true)
def zcuf : List au := [Qo 6 (.mov QF)]
def zcug : List au := [Qo 12 (.mov (t 0)),
 Qo 13 (.call up [(t 12),(ci 5)]),
 Qo 14 (.bin .add (ci 2) (t 13)),
 Qo 7 (.mov (t 14))]
def zcuh : List au := [Qo 15 (.mov (t 7)),
 Qo 16 (.mov (t 1)),
 Qo 17 (.call up [(t 16),(ci 1099511627776)]),
 Qo 18 (.mov (t 2)),
 Qo 19 (.call up [(t 18),(ci 1048576)]),
 Qo 20 (.bin .add (ci 1) (t 19)),
 Qo 21 (.call zb0k [(t 15),(t 17),(t 20)]),
 Qo 8 (.box dk 7 (.const (.agg #[(.string ⟨#[]⟩),(.slice none 0 0),(.slice none 0 0),(.slice none 0 0),(.slice none 0 0),(.int .i64 0),(.int .i64 0)]))),
 ⟨⟨none,.store 7 (t 8) (t 21),none⟩,0⟩]
def zcui : List au := [Qo 22 (.mov (t 7)),
 Qo 23 (.bin .mul (t 22) (ci 46)),
 Qo 24 (.bin .add (ci 20) (t 23)),
 Qo 25 (.bin .add (t 24) (ci 8)),
 Qo 26 (.mov (t 7)),
 Qo 27 (.bin .mul (t 26) (ci 44)),
 Qo 28 (.bin .add (t 25) (t 27)),
 Qo 29 (.bin .add (t 28) (ci 8)),
 Qo 30 (.bin .add (t 29) (ci 8)),
 Qo 31 (.bin .add (t 30) (ci 8)),
 Qo 32 (.bin .add (t 31) (ci 8)),
 Qo 33 (.bin .add (t 32) (ci 32)),
 Qo 34 (.bin .add (t 33) (ci 16)),
 Qo 9 (.mov (t 34))]
def zcuj : List au := [Qo 36 (.loadN 7 (t 8)),
 Qo 37 (.call rq [(t 36)]),
 Qo 38 (.call uo [(t 37)]),
 Qo 35 (.mov (t 38)),
 Qo 39 (.extract (t 35) 0),
 Qo 40 (.extract (t 35) 1),
 Qo 10 (.box dk 7 (.const (.agg #[(.string ⟨#[]⟩),(.slice none 0 0),(.slice none 0 0),(.slice none 0 0),(.slice none 0 0),(.int .i64 0),(.int .i64 0)]))),
 ⟨⟨none,.store 7 (t 10) (t 39),none⟩,0⟩,
 Qo 11 (.mov (t 40))]
def zcuk : List au := [Qo 41 (.loadN 7 (t 8)),
 Qo 42 (.call rq [(t 41)]),
 Qo 43 (.lenS (t 42)),
 Qo 44 (.mov (t 9)),
 Qo 45 (.bin .eql (t 43) (t 44)),
 Qo 46 (.mov (t 45)),
 Qt 46 47 (.mov (t 11)),
 Qt 46 48 (.bin .eql (t 47) (ci 0)),
 Qo 49 (.pick (t 46) (t 48) QF),
 Qo 50 (.mov (t 49)),
 Qt 50 51 (.loadN 7 (t 8)),
 Qt 50 52 (.loadN 7 (t 10)),
 Qt 50 53 (.call yw [(t 51),(t 52)]),
 Qo 54 (.pick (t 50) (t 53) QF),
 Qo 55 (.mov (t 54)),
 Qt 55 56 (.call zb3i []),
 Qo 57 (.pick (t 55) (t 56) QF),
 Qo 6 (.mov (t 57))]
def zcd6 : TC := (.seq (.ops zcuf) (.clean [0,1,2] (.seq (.ops zcug) (.clean [1,2,7] (.seq (.ops zcuh) (.clean [7,8] (.seq (.ops zcui) (.clean [8,9] (.seq (.ops zcuj) (.clean [8,9,10,11] (.seq (.ops zcuk) (.ret [6]))))))))))))
def zcd4 : TFn := ⟨58,zcd6,[.tmp 6],false⟩
theorem zb9u : type_of% (ai @zcuf.eq_1 (ai @zcug.eq_1 (ai @zcuh.eq_1 (ai @zcui.eq_1 (ai @zcuj.eq_1 (ai @zcuk.eq_1 (ai @zcd6.eq_1 @zcd4.eq_1))))))) := ⟨rfl,rfl,rfl,rfl,rfl,rfl,rfl,rfl⟩
theorem zdbr : u4 Try.prog [] qx = some (58,zcd6.erase,[.tmp 6]) := by kernel_rfl
def zcoe : List au := [Qo 4 (.mov (ci 0))]
def zcof : List au := [Qo 6 (.mov (t 0)),
 Qo 7 (.mov (t 1)),
 Qo 8 (.bin .rem (t 6) (t 7)),
 Qo 5 (.mov (t 8))]
def zcog : List au := [Qo 9 (.mov (t 5)),
 Qo 10 (.bin .lss (t 9) (ci 0))]
def zcoh : List au := [Qo 11 (.mov (t 5)),
 Qo 12 (.mov (t 1)),
 Qo 13 (.bin .add (t 11) (t 12)),
 Qo 5 (.mov (t 13))]
def zcoi : List au := [Qo 14 (.mov (t 5)),
 Qo 4 (.mov (t 14))]
def zccu : TC := (.seq (.ops zcoe) (.clean [0,1] (.seq (.ops zcof) (.clean [1,5] (.seq (.seq (.ops zcog) (.clean [1,5,10] (.cond (t 10) (.ops zcoh) .skip))) (.clean [5] (.seq (.ops zcoi) (.ret [4]))))))))
def zccb : TFn := ⟨15,zccu,[.tmp 4],false⟩
theorem zc2r : type_of% (ai @zcoe.eq_1 (ai @zcof.eq_1 (ai @zcog.eq_1 (ai @zcoh.eq_1 (ai @zcoi.eq_1 (ai @zccu.eq_1 @zccb.eq_1)))))) := ⟨rfl,rfl,rfl,rfl,rfl,rfl,rfl⟩
theorem zc4a : u4 Try.prog [] up = some (15,zccu.erase,[.tmp 4]) := by kernel_rfl
def zcm1 : List au := [Qo 6 (.box dk 7 (.const (.agg #[(.string ⟨#[]⟩),(.slice none 0 0),(.slice none 0 0),(.slice none 0 0),(.slice none 0 0),(.int .i64 0),(.int .i64 0)])))]
def zcm2 : List au := [Qo 9 (.mov (t 0)),
 Qo 10 (.call zb26 [(t 9),(ci 0),(ci 2)]),
 Qo 11 (.buildSl u7 1 1 [(.int .i64 0)] [(0,1,(ci 0))]),
 Qo 12 (.mov (t 1)),
 Qo 13 (.mov (t 2)),
 Qo 14 (.build [(.string ⟨#[]⟩),(.slice none 0 0),(.slice none 0 0),(.slice none 0 0),(.slice none 0 0),(.int .i64 0),(.int .i64 0)] [(0,1,(.const (Go.Value.string ⟨#[114,105,110,103]⟩))),(2,1,(t 10)),(3,1,(t 11)),(5,1,(t 12)),(6,1,(t 13))]),
 Qo 7 (.box dk 7 (.const (.agg #[(.string ⟨#[]⟩),(.slice none 0 0),(.slice none 0 0),(.slice none 0 0),(.slice none 0 0),(.int .i64 0),(.int .i64 0)]))),
 ⟨⟨none,.store 7 (t 7) (t 14),none⟩,0⟩]
def zcm3 : List au := [Qo 8 (.mov (ci 0))]
def zcm4 : List au := [Qo 15 (.mov (t 8)),
 Qo 16 (.mov (t 0)),
 Qo 17 (.bin .lss (t 15) (t 16))]
def zcm6 : List au := [Qo 20 (.fieldAddr 1 (t 7)),
 Qo 21 (.load1 (t 20)),
 Qo 22 (.mov (t 8)),
 Qo 23 (.call va [(t 22)]),
 Qo 24 (.build [(.string ⟨#[]⟩),(.slice none 0 0)] [(0,1,(t 23))]),
 Qo 25 (.buildSl dq 2 1 [(.string ⟨#[]⟩),(.slice none 0 0)] [(0,2,(t 24))]),
 Qm 1 26 (.append dq 2 40 (t 21) (t 25)),
 Qm 9 27 (.fieldAddr 1 (t 7)),
 ⟨⟨none,.store 1 (t 27) (t 26),none⟩,0⟩]
def zcm5 : List au := [Qo 18 (.mov (t 8)),
 Qo 19 (.bin .add (t 18) (ci 1)),
 Qo 8 (.mov (t 19))]
def zb4z : TC := (.seq (.seq (.ops zcm4) (.clean [0,6,7,8,17] (.cond (t 17) .skip (.exit 0)))) (.clean [0,6,7,8] (.seq (.block 1 [0,6,7,8] (.draw (pl zcm6))) (.clean [0,6,7,8] (.ops zcm5)))))
def zcm7 : List au := [Qo 28 (.loadN 7 (t 7)),
 Qo 29 (.call zb4u [(t 28)]),
 ⟨⟨none,.store 7 (t 6) (t 29),none⟩,9⟩]
def zcca : TC := (.seq (.ops zcm1) (.clean [0,1,2,6] (.seq (.ops zcm2) (.clean [0,6,7] (.seq (.seq (.ops zcm3) (.block 0 [6,7] (.clean [0,6,7,8] (.loop [0,6,7,8] zb4z)))) (.clean [6,7] (.seq (.ops zcm7) (.ret [6]))))))))
def zcbx : TFn := ⟨30,zcca,[.cellN 6 7],true⟩
theorem zb8w : type_of% (ai @zcm1.eq_1 (ai @zcm2.eq_1 (ai @zcm3.eq_1 (ai @zcm4.eq_1 (ai @zcm6.eq_1 (ai @zcm5.eq_1 (ai @zcm7.eq_1 (ai @zcca.eq_1 @zcbx.eq_1)))))))) := ⟨rfl,rfl,rfl,rfl,rfl,rfl,rfl,rfl,rfl⟩
theorem zblm : u4 Try.prog [(5,⟨[0,1,2,3,4,5,6,7,8],[0,1,0,4,12,28,63,127,255],[],[],.nil⟩)] zb0k = some (30,zcca.erase,[.cellN 6 7]) := by kernel_rfl
def zcna : List au := [Qo 6 (.mov (.const (Go.Value.slice none 0 0)))]
def zcnb : List au := [Qo 7 (.mov (.const (Go.Value.slice none 0 0)))]
def zcnc : List au := [Qo 8 (.mov (ci 0))]
def zcnd : List au := [Qo 12 (.mov (t 8)),
 Qo 13 (.mov (t 0)),
 Qo 14 (.bin .lss (t 12) (t 13))]
def zcnf : List au := [Qo 17 (.mov (t 7)),
 Qo 18 (.mov (t 8)),
 Qo 19 (.mov (t 8)),
 Qo 20 (.bin .add (t 19) (ci 1)),
 Qo 21 (.mov (t 0)),
 Qo 22 (.bin .rem (t 20) (t 21)),
 Qo 23 (.build [(.int .i64 0),(.int .i64 0),(.int .i64 0),(.string ⟨#[]⟩),(.int .i64 0)] [(0,1,(t 18)),(1,1,(t 22))]),
 Qo 24 (.buildSl mw 5 1 [(.int .i64 0),(.int .i64 0),(.int .i64 0),(.string ⟨#[]⟩),(.int .i64 0)] [(0,5,(t 23))]),
 Qm 1 25 (.append mw 5 48 (t 17) (t 24)),
 Qo 7 (.mov (t 25))]
def zcne : List au := [Qo 15 (.mov (t 8)),
 Qo 16 (.bin .add (t 15) (ci 1)),
 Qo 8 (.mov (t 16))]
def zy : TC := (.seq (.seq (.ops zcnd) (.clean [0,1,2,7,8,14] (.cond (t 14) .skip (.exit 0)))) (.clean [0,1,2,7,8] (.seq (.block 1 [0,1,2,7,8] (.ops zcnf)) (.clean [0,1,2,7,8] (.ops zcne)))))
def zcng : List au := [Qo 9 (.mov (ci 0))]
def zcnh : List au := [Qo 26 (.mov (t 9)),
 Qo 27 (.mov (t 0)),
 Qo 28 (.bin .lss (t 26) (t 27))]
def zcnj : List au := [Qo 10 (.mov (ci 0))]
def zcoj : List au := [Qo 31 (.mov (t 10)),
 Qo 32 (.mov (t 0)),
 Qo 33 (.bin .lss (t 31) (t 32))]
def zcol : List au := [Qo 36 (.mov (t 9)),
 Qo 37 (.mov (t 10)),
 Qo 38 (.bin .eql (t 36) (t 37)),
 Qo 39 (.mov (t 38)),
 Qf 39 40 (.mov (t 10)),
 Qf 39 41 (.mov (t 9)),
 Qf 39 42 (.bin .add (t 41) (ci 1)),
 Qf 39 43 (.mov (t 0)),
 Qf 39 44 (.bin .rem (t 42) (t 43)),
 Qf 39 45 (.bin .eql (t 40) (t 44)),
 Qo 46 (.pick (t 39) QT (t 45))]
def zcom : List au := [Qo 47 (.mov (t 1)),
 Qo 48 (.bin .rem (t 47) (ci 2)),
 Qo 49 (.bin .eql (t 48) (ci 1)),
 Qo 50 (.mov (t 49)),
 Qt 50 51 (.mov (t 7)),
 Qt 50 52 (.lenL (t 51)),
 Qt 50 53 (.bin .lss (t 52) (ci 8)),
 Qo 54 (.pick (t 50) (t 53) QF)]
def zcon : List au := [Qo 55 (.mov (t 7)),
 Qo 56 (.mov (t 9)),
 Qo 57 (.mov (t 10)),
 Qo 58 (.build [(.int .i64 0),(.int .i64 0),(.int .i64 0),(.string ⟨#[]⟩),(.int .i64 0)] [(0,1,(t 56)),(1,1,(t 57))]),
 Qo 59 (.buildSl mw 5 1 [(.int .i64 0),(.int .i64 0),(.int .i64 0),(.string ⟨#[]⟩),(.int .i64 0)] [(0,5,(t 58))]),
 Qm 1 60 (.append mw 5 48 (t 55) (t 59)),
 Qo 7 (.mov (t 60))]
def zcoo : List au := [Qo 61 (.mov (t 1)),
 Qo 62 (.bin .quo (t 61) (ci 2)),
 Qo 1 (.mov (t 62))]
def zcok : List au := [Qo 34 (.mov (t 10)),
 Qo 35 (.bin .add (t 34) (ci 1)),
 Qo 10 (.mov (t 35))]
def jk : TC := (.seq (.seq (.ops zcoj) (.clean [0,1,2,7,9,10,33] (.cond (t 33) .skip (.exit 4)))) (.clean [0,1,2,7,9,10] (.seq (.block 5 [0,1,2,7,9,10] (.seq (.seq (.ops zcol) (.clean [0,1,2,7,9,10,46] (.cond (t 46) (.exit 5) .skip))) (.clean [0,1,2,7,9,10] (.seq (.seq (.ops zcom) (.clean [0,1,2,7,9,10,54] (.cond (t 54) (.ops zcon) .skip))) (.clean [0,1,2,7,9,10] (.ops zcoo)))))) (.clean [0,1,2,7,9,10] (.ops zcok)))))
def zcni : List au := [Qo 29 (.mov (t 9)),
 Qo 30 (.bin .add (t 29) (ci 1)),
 Qo 9 (.mov (t 30))]
def zx : TC := (.seq (.seq (.ops zcnh) (.clean [0,1,2,7,9,28] (.cond (t 28) .skip (.exit 2)))) (.clean [0,1,2,7,9] (.seq (.block 3 [0,1,2,7,9] (.seq (.ops zcnj) (.block 4 [0,1,2,7,9] (.clean [0,1,2,7,9,10] (.loop [0,1,2,7,9,10] jk))))) (.clean [0,1,2,7,9] (.ops zcni)))))
def zcop : List au := [Qo 11 (.mov (ci 0))]
def zcoq : List au := [Qo 63 (.mov (t 11)),
 Qo 64 (.mov (t 7)),
 Qo 65 (.lenL (t 64)),
 Qo 66 (.bin .lss (t 63) (t 65))]
def zcpk : List au := [Qo 69 (.mov (t 7)),
 Qo 70 (.mov (t 11)),
 Qo 71 (.mov (t 11)),
 Qo 72 (.mov (t 2)),
 Qo 73 (.bin .add (t 71) (t 72)),
 Qo 74 (.mov (t 2)),
 Qo 75 (.bin .rem (t 74) (ci 3)),
 Qo 76 (.bin .add (ci 1) (t 75)),
 Qo 77 (.bin .rem (t 73) (t 76)),
 Qo 78 (.indexSl 5 (t 69) (t 70)),
 Qo 79 (.fieldAddr 2 (t 78)),
 ⟨⟨none,.store 1 (t 79) (t 77),none⟩,0⟩]
def zcpl : List au := [Qo 80 (.mov (t 7)),
 Qo 81 (.mov (t 11)),
 Qo 82 (.build [(.string ⟨#[]⟩),(.string ⟨#[]⟩)] [(0,1,(.const (Go.Value.string ⟨#[103,111,108,100]⟩))),(1,1,(.const (Go.Value.string ⟨#[115,97,108,116]⟩)))]),
 Qo 83 (.mov (t 11)),
 Qo 84 (.mov (t 1)),
 Qo 85 (.bin .add (t 83) (t 84)),
 Qo 86 (.bin .rem (t 85) (ci 2)),
 Qo 87 (.indexAgg 2 (t 82) (t 86)),
 Qo 88 (.indexSl 5 (t 80) (t 81)),
 Qo 89 (.fieldAddr 3 (t 88)),
 ⟨⟨none,.store 1 (t 89) (t 87),none⟩,0⟩]
def zcpm : List au := [Qo 90 (.mov (t 7)),
 Qo 91 (.mov (t 11)),
 Qo 92 (.mov (t 11)),
 Qo 93 (.bin .mul (ci 7) (t 92)),
 Qo 94 (.mov (t 2)),
 Qo 95 (.bin .add (t 93) (t 94)),
 Qo 96 (.bin .rem (t 95) (ci 20)),
 Qo 97 (.bin .add (ci 1) (t 96)),
 Qo 98 (.indexSl 5 (t 90) (t 91)),
 Qo 99 (.fieldAddr 4 (t 98)),
 ⟨⟨none,.store 1 (t 99) (t 97),none⟩,0⟩]
def zcpj : List au := [Qo 67 (.mov (t 11)),
 Qo 68 (.bin .add (t 67) (ci 1)),
 Qo 11 (.mov (t 68))]
def zb40 : TC := (.seq (.seq (.ops zcoq) (.clean [1,2,7,11,66] (.cond (t 66) .skip (.exit 6)))) (.clean [1,2,7,11] (.seq (.block 7 [1,2,7,11] (.seq (.ops zcpk) (.clean [1,2,7,11] (.seq (.ops zcpl) (.clean [1,2,7,11] (.ops zcpm)))))) (.clean [1,2,7,11] (.ops zcpj)))))
def zcpn : List au := [Qo 100 (.mov (t 7)),
 Qo 6 (.mov (t 100))]
def zcb4 : TC := (.seq (.ops zcna) (.clean [0,1,2] (.seq (.ops zcnb) (.clean [0,1,2,7] (.seq (.seq (.ops zcnc) (.block 0 [0,1,2,7] (.clean [0,1,2,7,8] (.loop [0,1,2,7,8] zy)))) (.clean [0,1,2,7] (.seq (.seq (.ops zcng) (.block 2 [1,2,7] (.clean [0,1,2,7,9] (.loop [0,1,2,7,9] zx)))) (.clean [1,2,7] (.seq (.seq (.ops zcop) (.block 6 [7] (.clean [1,2,7,11] (.loop [1,2,7,11] zb40)))) (.clean [7] (.seq (.ops zcpn) (.ret [6]))))))))))))
def zcbz : TFn := ⟨101,zcb4,[.tmp 6],true⟩
theorem fi : type_of% (ai @zcna.eq_1 (ai @zcnb.eq_1 (ai @zcnc.eq_1 (ai @zcnd.eq_1 (ai @zcnf.eq_1 (ai @zcne.eq_1 (ai @zcng.eq_1 (ai @zcnh.eq_1 (ai @zcnj.eq_1 (ai @zcoj.eq_1 (ai @zcol.eq_1 (ai @zcom.eq_1 (ai @zcon.eq_1 (ai @zcoo.eq_1 (ai @zcok.eq_1 (ai @zcni.eq_1 (ai @zcop.eq_1 (ai @zcoq.eq_1 (ai @zcpk.eq_1 (ai @zcpl.eq_1 (ai @zcpm.eq_1 (ai @zcpj.eq_1 (ai @zcpn.eq_1 (ai @zcb4.eq_1 @zcbz.eq_1)))))))))))))))))))))))) := ⟨rfl,rfl,rfl,rfl,rfl,rfl,rfl,rfl,rfl,rfl,rfl,rfl,rfl,rfl,rfl,rfl,rfl,rfl,rfl,rfl,rfl,rfl,rfl,rfl,rfl⟩
theorem zblk : u4 Try.prog [] zb26 = some (101,zcb4.erase,[.tmp 6]) := by kernel_rfl
def zctn : List au := [Qo 2 (.mov (.const (Go.Value.string ⟨#[]⟩)))]
def zcto : List au := [Qo 3 (.mov (t 0)),
 Qo 4 (.call nk [(t 3)]),
 Qo 5 (.bin .add (.const (Go.Value.string ⟨#[112,97,114,116,121]⟩)) (t 4)),
 Qo 2 (.mov (t 5))]
def zcdl : TC := (.seq (.ops zctn) (.clean [0] (.seq (.ops zcto) (.ret [2]))))
def zcdq : TFn := ⟨6,zcdl,[.tmp 2],false⟩
theorem zdab : type_of% (ai @zctn.eq_1 (ai @zcto.eq_1 (ai @zcdl.eq_1 @zcdq.eq_1))) := ⟨rfl,rfl,rfl,rfl⟩
theorem zdaf : u4 Try.prog [] va = some (6,zcdl.erase,[.tmp 2]) := by kernel_rfl
def zcqy : List au := [Qo 2 (.mov (.const (Go.Value.string ⟨#[]⟩)))]
def zcqz : List au := [Qo 5 (.mov (t 0)),
 Qo 6 (.bin .leq (t 5) (ci (-10))),
 Qo 4 (.mov (t 6))]
def zcq0 : List au := [Qo 7 (.mov (t 0)),
 Qo 8 (.bin .rem (t 7) (ci 10)),
 Qo 9 (.un .neg (t 8)),
 Qo 3 (.mov (t 9))]
def zcq1 : List au := [Qo 10 (.mov (t 0)),
 Qo 11 (.bin .quo (t 10) (ci 10)),
 Qo 13 (.mov (t 3)),
 Qo 14 (.mov (t 3)),
 Qo 15 (.bin .add (t 14) (ci 1)),
 Qo 16 (.sliceStr (.const (Go.Value.string ⟨#[48,49,50,51,52,53,54,55,56,57]⟩)) (some (t 13)) (some (t 15))),
 Qo 12 (.call nk [(t 11)]),
 Qo 17 (.bin .add (t 12) (t 16)),
 Qo 2 (.mov (t 17))]
def zcq2 : List au := [Qo 19 (.mov (t 0)),
 Qo 20 (.bin .lss (t 19) (ci 0)),
 Qo 18 (.mov (t 20))]
def zcq3 : List au := [Qo 21 (.mov (t 0)),
 Qo 22 (.un .neg (t 21)),
 Qo 23 (.mov (t 0)),
 Qo 24 (.un .neg (t 23)),
 Qo 25 (.bin .add (t 24) (ci 1)),
 Qo 26 (.sliceStr (.const (Go.Value.string ⟨#[48,49,50,51,52,53,54,55,56,57]⟩)) (some (t 22)) (some (t 25))),
 Qo 27 (.bin .add (.const (Go.Value.string ⟨#[45]⟩)) (t 26)),
 Qo 2 (.mov (t 27))]
def zcq4 : List au := [Qo 29 (.mov (t 0)),
 Qo 30 (.bin .lss (t 29) (ci 10)),
 Qo 28 (.mov (t 30))]
def zcq5 : List au := [Qo 31 (.mov (t 0)),
 Qo 32 (.mov (t 0)),
 Qo 33 (.bin .add (t 32) (ci 1)),
 Qo 34 (.sliceStr (.const (Go.Value.string ⟨#[48,49,50,51,52,53,54,55,56,57]⟩)) (some (t 31)) (some (t 33))),
 Qo 2 (.mov (t 34))]
def zcq6 : List au := [Qo 35 (.mov (t 0)),
 Qo 36 (.bin .quo (t 35) (ci 10)),
 Qo 38 (.mov (t 0)),
 Qo 39 (.bin .rem (t 38) (ci 10)),
 Qo 40 (.mov (t 0)),
 Qo 41 (.bin .rem (t 40) (ci 10)),
 Qo 42 (.bin .add (t 41) (ci 1)),
 Qo 43 (.sliceStr (.const (Go.Value.string ⟨#[48,49,50,51,52,53,54,55,56,57]⟩)) (some (t 39)) (some (t 42))),
 Qo 37 (.call nk [(t 36)]),
 Qo 44 (.bin .add (t 37) (t 43)),
 Qo 2 (.mov (t 44))]
def zcc9 : TC := (.seq (.ops zcqy) (.clean [0] (.seq (.block 0 [0] (.seq (.ops zcqz) (.clean [0,4] (.cond (t 4) (.seq (.ops zcq0) (.clean [0,3] (.seq (.draw (pl zcq1)) (.ret [2])))) (.seq (.ops zcq2) (.clean [0,18] (.cond (t 18) (.seq (.ops zcq3) (.ret [2])) (.seq (.ops zcq4) (.clean [0,28] (.cond (t 28) (.seq (.ops zcq5) (.ret [2])) .skip)))))))))) (.clean [0] (.seq (.draw (pl zcq6)) (.ret [2]))))))
def zcc2 : TFn := ⟨45,zcc9,[.tmp 2],false⟩
theorem zc5k : type_of% (ai @zcqy.eq_1 (ai @zcqz.eq_1 (ai @zcq0.eq_1 (ai @zcq1.eq_1 (ai @zcq2.eq_1 (ai @zcq3.eq_1 (ai @zcq4.eq_1 (ai @zcq5.eq_1 (ai @zcq6.eq_1 (ai @zcc9.eq_1 @zcc2.eq_1)))))))))) := ⟨rfl,rfl,rfl,rfl,rfl,rfl,rfl,rfl,rfl,rfl,rfl⟩
theorem zc5b : u4 Try.prog [(3,⟨[0,1,3,4,5,6,2,7,8],[0,1,3,0,0,16,56,127,255],[],[],.nil⟩),(8,⟨[0,1,3,4,5,6,7,8,2,9,10],[0,1,3,0,8,0,32,96,248,511,1023],[],[],.nil⟩)] nk = some (45,zcc9.erase,[.tmp 2]) := by kernel_rfl
def zcpo : List au := [Qo 1 (.box dk 7 (t 0)),
 Qo 2 (.box dk 7 (.const (.agg #[(.string ⟨#[]⟩),(.slice none 0 0),(.slice none 0 0),(.slice none 0 0),(.slice none 0 0),(.int .i64 0),(.int .i64 0)])))]
def zcpp : List au := [Qo 6 (.fieldAddr 4 (t 1)),
 ⟨⟨none,.store 1 (t 6) (.const (Go.Value.slice none 0 0)),none⟩,0⟩]
def zcpq : List au := [Qo 3 (.mov (ci 0))]
def zcpr : List au := [Qo 7 (.mov (t 3)),
 Qo 8 (.fieldAddr 3 (t 1)),
 Qo 9 (.load1 (t 8)),
 Qo 10 (.lenL (t 9)),
 Qo 11 (.bin .lss (t 7) (t 10))]
def zcot : List au := [Qo 14 (.fieldAddr 4 (t 1)),
 Qm 2 15 (.load1 (t 14)),
 Qo 16 (.mov (t 3)),
 Qo 17 (.call zb3m [(t 16)]),
 Qo 18 (.call zb0i [(t 17)]),
 Qo 19 (.buildSl ft 1 1 [(.string ⟨#[]⟩)] [(0,1,(t 18))]),
 Qo 20 (.append ft 1 16 (t 15) (t 19)),
 Qo 21 (.fieldAddr 4 (t 1)),
 ⟨⟨none,.store 1 (t 21) (t 20),none⟩,2⟩]
def zcps : List au := [Qo 12 (.mov (t 3)),
 Qo 13 (.bin .add (t 12) (ci 1)),
 Qo 3 (.mov (t 13))]
def zb41 : TC := (.seq (.seq (.ops zcpr) (.clean [1,2,3,11] (.cond (t 11) .skip (.exit 0)))) (.clean [1,2,3] (.seq (.block 1 [1,2,3] (.draw (pl zcot))) (.clean [1,2,3] (.ops zcps)))))
def zcou : List au := [Qo 4 (.mov (ci 0))]
def zcov : List au := [Qo 22 (.mov (t 4)),
 Qo 23 (.fieldAddr 1 (t 1)),
 Qo 24 (.load1 (t 23)),
 Qo 25 (.lenL (t 24)),
 Qo 26 (.bin .lss (t 22) (t 25))]
def zcox : List au := [Qo 29 (.fieldAddr 1 (t 1)),
 Qo 30 (.load1 (t 29)),
 Qo 31 (.mov (t 4)),
 Qo 32 (.indexSl 2 (t 30) (t 31)),
 Qo 33 (.fieldAddr 1 (t 32)),
 ⟨⟨none,.store 1 (t 33) (.const (Go.Value.slice none 0 0)),none⟩,0⟩]
def zcq9 : List au := [Qo 5 (.mov (ci 0))]
def zcr0 : List au := [Qo 34 (.mov (t 5)),
 Qo 35 (.fieldAddr 3 (t 1)),
 Qo 36 (.load1 (t 35)),
 Qo 37 (.lenL (t 36)),
 Qo 38 (.bin .lss (t 34) (t 37))]
def zcr2 : List (au × List Nat) := [(Qo 41 (.fieldAddr 1 (t 1)),[]),
 (Qo 42 (.load1 (t 41)),[]),
 (Qo 43 (.mov (t 4)),[]),
 (Qo 44 (.fieldAddr 1 (t 1)),[]),
 (Qo 45 (.load1 (t 44)),[]),
 (Qo 46 (.mov (t 4)),[]),
 (Qo 47 (.indexSl 2 (t 45) (t 46)),[]),
 (Qo 48 (.fieldAddr 1 (t 47)),[]),
 (Qm 2 49 (.load1 (t 48)),[]),
 (Qo 50 (.mov (t 4)),[]),
 (Qo 52 (.mov (t 5)),[]),
 (Qo 51 (.call zb25 [(t 50)]),[]),
 (Qo 53 (.call zb3n [(t 51),(t 52)]),[]),
 (Qo 54 (.buildSl ft 1 1 [(.string ⟨#[]⟩)] [(0,1,(t 53))]),[]),
 (Qo 55 (.append ft 1 16 (t 49) (t 54)),[1]),
 (Qo 56 (.indexSl 2 (t 42) (t 43)),[]),
 (Qo 57 (.fieldAddr 1 (t 56)),[]),
 (⟨⟨none,.store 1 (t 57) (t 55),none⟩,2⟩,[])]
def zcr1 : List au := [Qo 39 (.mov (t 5)),
 Qo 40 (.bin .add (t 39) (ci 1)),
 Qo 5 (.mov (t 40))]
def zb42 : TC := (.seq (.seq (.ops zcr0) (.clean [1,2,4,5,38] (.cond (t 38) .skip (.exit 4)))) (.clean [1,2,4,5] (.seq (.block 5 [1,2,4,5] (.draw zcr2)) (.clean [1,2,4,5] (.ops zcr1)))))
def zcow : List au := [Qo 27 (.mov (t 4)),
 Qo 28 (.bin .add (t 27) (ci 1)),
 Qo 4 (.mov (t 28))]
def zb9f : TC := (.seq (.seq (.ops zcov) (.clean [1,2,4,26] (.cond (t 26) .skip (.exit 2)))) (.clean [1,2,4] (.seq (.block 3 [1,2,4] (.seq (.ops zcox) (.clean [1,2,4] (.seq (.ops zcq9) (.block 4 [1,2,4] (.clean [1,2,4,5] (.loop [1,2,4,5] zb42))))))) (.clean [1,2,4] (.ops zcow)))))
def zcr3 : List au := [Qo 58 (.loadN 7 (t 1)),
 ⟨⟨none,.store 7 (t 2) (t 58),none⟩,0⟩]
def zccv : TC := (.seq (.ops zcpo) (.clean [1,2] (.seq (.ops zcpp) (.clean [1,2] (.seq (.seq (.ops zcpq) (.block 0 [1,2] (.clean [1,2,3] (.loop [1,2,3] zb41)))) (.clean [1,2] (.seq (.seq (.ops zcou) (.block 2 [1,2] (.clean [1,2,4] (.loop [1,2,4] zb9f)))) (.clean [1,2] (.seq (.ops zcr3) (.ret [2]))))))))))
def zccc : TFn := ⟨59,zccv,[.cellN 2 7],false⟩
theorem sa : type_of% (ai @zcpo.eq_1 (ai @zcpp.eq_1 (ai @zcpq.eq_1 (ai @zcpr.eq_1 (ai @zcot.eq_1 (ai @zcps.eq_1 (ai @zcou.eq_1 (ai @zcov.eq_1 (ai @zcox.eq_1 (ai @zcq9.eq_1 (ai @zcr0.eq_1 (ai @zcr2.eq_1 (ai @zcr1.eq_1 (ai @zcow.eq_1 (ai @zcr3.eq_1 (ai @zccv.eq_1 @zccc.eq_1)))))))))))))))) := ⟨rfl,rfl,rfl,rfl,rfl,rfl,rfl,rfl,rfl,rfl,rfl,rfl,rfl,rfl,rfl,rfl,rfl⟩
theorem zc4b : u4 Try.prog [(5,⟨[0,1,2,3,4,5,6,7,8],[0,1,0,4,12,28,63,127,255],[],[],.nil⟩),(13,⟨[0,1,2,3,4,5,6,7,8,9,11,10,12,13,14,15,16,17],[0,1,0,0,8,0,56,120,248,0,512,0,3584,7680,16376,32767,65535,131071],[],[(14,[1])],.nil⟩)] zb4u = some (59,zccv.erase,[.cellN 2 7]) := by kernel_rfl
def zclw : List au := [Qo 2 (.mov (.const (Go.Value.string ⟨#[]⟩)))]
def zclx : List au := [Qo 11 (.mov (t 0)),
 Qm 2 12 (.toBytes fj (t 11)),
 Qo 13 (.buildSl fj 1 1 [(.int .u8 0)] [(0,1,(.const (Go.Value.int Go.IntKind.u8 128)))]),
 Qo 14 (.append fj 1 1 (t 12) (t 13)),
 Qo 3 (.mov (t 14))]
def zcly : List au := [Qo 15 (.mov (t 3)),
 Qo 16 (.lenL (t 15)),
 Qo 17 (.bin .rem (t 16) (ci 64)),
 Qo 18 (.bin .neq (t 17) (ci 56))]
def zclz : List au := [Qo 19 (.mov (t 3)),
 Qo 20 (.buildSl fj 1 1 [(.int .u8 0)] [(0,1,(.const (Go.Value.int Go.IntKind.u8 0)))]),
 Qo 21 (.append fj 1 1 (t 19) (t 20)),
 Qo 3 (.mov (t 21))]
def zb87 : TC := (.seq (.seq (.ops zcly) (.clean [0,3,18] (.cond (t 18) .skip (.exit 0)))) (.block 1 [0,3] (.ops zclz)))
def zcl0 : List au := [Qo 22 (.mov (t 0)),
 Qo 23 (.lenS (t 22)),
 Qo 24 (.conv .u64 (t 23)),
 Qo 25 (.bin .mul (t 24) (.const (Go.Value.int Go.IntKind.u64 8))),
 Qo 4 (.mov (t 25))]
def zcl1 : List au := [Qo 5 (.mov (ci 0))]
def zcl2 : List au := [Qo 26 (.mov (t 5)),
 Qo 27 (.bin .lss (t 26) (ci 8))]
def zcl4 : List au := [Qo 30 (.mov (t 3)),
 Qo 31 (.mov (t 4)),
 Qo 32 (.mov (t 5)),
 Qo 33 (.bin .mul (ci 8) (t 32)),
 Qo 34 (.bin .sub (ci 56) (t 33)),
 Qo 35 (.conv .u64 (t 34)),
 Qo 36 (.bin .shr (t 31) (t 35)),
 Qo 37 (.conv .u8 (t 36)),
 Qo 38 (.buildSl fj 1 1 [(.int .u8 0)] [(0,1,(t 37))]),
 Qo 39 (.append fj 1 1 (t 30) (t 38)),
 Qo 3 (.mov (t 39))]
def zcl3 : List au := [Qo 28 (.mov (t 5)),
 Qo 29 (.bin .add (t 28) (ci 1)),
 Qo 5 (.mov (t 29))]
def zb88 : TC := (.seq (.seq (.ops zcl2) (.clean [3,4,5,27] (.cond (t 27) .skip (.exit 2)))) (.clean [3,4,5] (.seq (.block 3 [3,4,5] (.ops zcl4)) (.clean [3,4,5] (.ops zcl3)))))
def zcl5 : List au := [Qo 40 (.mov (t 3)),
 Qo 41 (.toStr (t 40)),
 Qo 6 (.mov (t 41))]
def zcnv : List au := [Qo 42 (.build [(.int .u32 0),(.int .u32 0),(.int .u32 0),(.int .u32 0),(.int .u32 0),(.int .u32 0),(.int .u32 0),(.int .u32 0)] [(0,1,(.const (Go.Value.int Go.IntKind.u32 1779033703))),(1,1,(.const (Go.Value.int Go.IntKind.u32 3144134277))),(2,1,(.const (Go.Value.int Go.IntKind.u32 1013904242))),(3,1,(.const (Go.Value.int Go.IntKind.u32 2773480762))),(4,1,(.const (Go.Value.int Go.IntKind.u32 1359893119))),(5,1,(.const (Go.Value.int Go.IntKind.u32 2600822924))),(6,1,(.const (Go.Value.int Go.IntKind.u32 528734635))),(7,1,(.const (Go.Value.int Go.IntKind.u32 1541459225)))]),
 Qo 7 (.box fw 8 (.const (.agg #[(.int .u32 0),(.int .u32 0),(.int .u32 0),(.int .u32 0),(.int .u32 0),(.int .u32 0),(.int .u32 0),(.int .u32 0)]))),
 ⟨⟨none,.store 8 (t 7) (t 42),none⟩,0⟩]
def zcnw : List au := [Qo 8 (.mov (ci 0))]
def zcnx : List au := [Qo 43 (.mov (t 8)),
 Qo 44 (.mov (t 6)),
 Qo 45 (.lenS (t 44)),
 Qo 46 (.bin .lss (t 43) (t 45))]
def zcnz : List au := [Qo 49 (.loadN 8 (t 7)),
 Qo 50 (.mov (t 6)),
 Qo 51 (.mov (t 8)),
 Qo 52 (.mov (t 8)),
 Qo 53 (.bin .add (t 52) (ci 64)),
 Qo 54 (.sliceStr (t 50) (some (t 51)) (some (t 53))),
 Qo 55 (.call zb3j [(t 49),(t 54)]),
 ⟨⟨none,.store 8 (t 7) (t 55),none⟩,0⟩]
def zcny : List au := [Qo 47 (.mov (t 8)),
 Qo 48 (.bin .add (t 47) (ci 64)),
 Qo 8 (.mov (t 48))]
def zb89 : TC := (.seq (.seq (.ops zcnx) (.clean [6,7,8,46] (.cond (t 46) .skip (.exit 4)))) (.clean [6,7,8] (.seq (.block 5 [6,7,8] (.draw (pl zcnz))) (.clean [6,7,8] (.ops zcny)))))
def zcn0 : List au := [Qm 1 9 (.mov (.const (Go.Value.slice none 0 0)))]
def zcn1 : List au := [Qo 10 (.mov (ci 0))]
def zcn2 : List au := [Qo 56 (.mov (t 10)),
 Qo 57 (.bin .lss (t 56) (ci 8))]
def zcn4 : List au := [Qo 60 (.mov (t 9)),
 Qo 61 (.mov (t 10)),
 Qo 62 (.indexPtr 8 1 (t 7) (t 61)),
 Qo 63 (.load1 (t 62)),
 Qo 64 (.bin .shr (t 63) (.const (Go.Value.int Go.IntKind.u64 24))),
 Qo 65 (.conv .u8 (t 64)),
 Qo 66 (.mov (t 10)),
 Qo 67 (.indexPtr 8 1 (t 7) (t 66)),
 Qo 68 (.load1 (t 67)),
 Qo 69 (.bin .shr (t 68) (.const (Go.Value.int Go.IntKind.u64 16))),
 Qo 70 (.conv .u8 (t 69)),
 Qo 71 (.mov (t 10)),
 Qo 72 (.indexPtr 8 1 (t 7) (t 71)),
 Qo 73 (.load1 (t 72)),
 Qo 74 (.bin .shr (t 73) (.const (Go.Value.int Go.IntKind.u64 8))),
 Qo 75 (.conv .u8 (t 74)),
 Qo 76 (.mov (t 10)),
 Qo 77 (.indexPtr 8 1 (t 7) (t 76)),
 Qo 78 (.load1 (t 77)),
 Qo 79 (.conv .u8 (t 78)),
 Qo 80 (.buildSl fj 1 4 [(.int .u8 0),(.int .u8 0),(.int .u8 0),(.int .u8 0)] [(0,1,(t 65)),(1,1,(t 70)),(2,1,(t 75)),(3,1,(t 79))]),
 Qo 81 (.append fj 1 1 (t 60) (t 80)),
 Qo 9 (.mov (t 81))]
def zcn3 : List au := [Qo 58 (.mov (t 10)),
 Qo 59 (.bin .add (t 58) (ci 1)),
 Qo 10 (.mov (t 59))]
def zb9a : TC := (.seq (.seq (.ops zcn2) (.clean [7,9,10,57] (.cond (t 57) .skip (.exit 6)))) (.clean [7,9,10] (.seq (.block 7 [7,9,10] (.draw (pl zcn4))) (.clean [7,9,10] (.ops zcn3)))))
def zcnn : List au := [Qo 82 (.mov (t 9)),
 Qo 83 (.toStr (t 82)),
 Qo 2 (.mov (t 83))]
def zcbl : TC := (.seq (.ops zclw) (.clean [0] (.seq (.ops zclx) (.clean [0,3] (.seq (.block 0 [0,3] (.clean [0,3] (.loop [0,3] zb87))) (.clean [0,3] (.seq (.ops zcl0) (.clean [3,4] (.seq (.seq (.ops zcl1) (.block 2 [3] (.clean [3,4,5] (.loop [3,4,5] zb88)))) (.clean [3] (.seq (.ops zcl5) (.clean [6] (.seq (.ops zcnv) (.clean [6,7] (.seq (.seq (.ops zcnw) (.block 4 [7] (.clean [6,7,8] (.loop [6,7,8] zb89)))) (.clean [7] (.seq (.ops zcn0) (.clean [7,9] (.seq (.seq (.ops zcn1) (.block 6 [9] (.clean [7,9,10] (.loop [7,9,10] zb9a)))) (.clean [9] (.seq (.ops zcnn) (.ret [2]))))))))))))))))))))))
def zcbf : TFn := ⟨84,zcbl,[.tmp 2],false⟩
theorem kp : type_of% (ai @zclw.eq_1 (ai @zclx.eq_1 (ai @zcly.eq_1 (ai @zclz.eq_1 (ai @zcl0.eq_1 (ai @zcl1.eq_1 (ai @zcl2.eq_1 (ai @zcl4.eq_1 (ai @zcl3.eq_1 (ai @zcl5.eq_1 (ai @zcnv.eq_1 (ai @zcnw.eq_1 (ai @zcnx.eq_1 (ai @zcnz.eq_1 (ai @zcny.eq_1 (ai @zcn0.eq_1 (ai @zcn1.eq_1 (ai @zcn2.eq_1 (ai @zcn4.eq_1 (ai @zcn3.eq_1 (ai @zcnn.eq_1 (ai @zcbl.eq_1 @zcbf.eq_1)))))))))))))))))))))) := ⟨rfl,rfl,rfl,rfl,rfl,rfl,rfl,rfl,rfl,rfl,rfl,rfl,rfl,rfl,rfl,rfl,rfl,rfl,rfl,rfl,rfl,rfl,rfl⟩
theorem zbsc : u4 Try.prog [(14,⟨[0,1,2,3,4,5,6,7],[0,0,0,0,8,30,63,127],[],[],.nil⟩),(19,⟨[0,1,2,3,4,5,6,7,8,9,10,11,12,13,14,15,16,17,18,19,20,21,22],[0,0,2,6,14,30,0,64,192,448,960,0,2048,6144,14336,30720,0,65536,196608,458752,1048574,2097151,4194303],[],[],.nil⟩)] zb0i = some (84,zcbl.erase,[.tmp 2]) := by kernel_rfl
def zco5 : List au := [Qo 2 (.box fw 8 (t 0)),
 Qo 4 (.box fw 8 (.const (.agg #[(.int .u32 0),(.int .u32 0),(.int .u32 0),(.int .u32 0),(.int .u32 0),(.int .u32 0),(.int .u32 0),(.int .u32 0)])))]
def zco6 : List au := [Qo 5 (.box lc 64 (.const (.agg #[(.int .u32 0),(.int .u32 0),(.int .u32 0),(.int .u32 0),(.int .u32 0),(.int .u32 0),(.int .u32 0),(.int .u32 0),(.int .u32 0),(.int .u32 0),(.int .u32 0),(.int .u32 0),(.int .u32 0),(.int .u32 0),(.int .u32 0),(.int .u32 0),(.int .u32 0),(.int .u32 0),(.int .u32 0),(.int .u32 0),(.int .u32 0),(.int .u32 0),(.int .u32 0),(.int .u32 0),(.int .u32 0),(.int .u32 0),(.int .u32 0),(.int .u32 0),(.int .u32 0),(.int .u32 0),(.int .u32 0),(.int .u32 0),(.int .u32 0),(.int .u32 0),(.int .u32 0),(.int .u32 0),(.int .u32 0),(.int .u32 0),(.int .u32 0),(.int .u32 0),(.int .u32 0),(.int .u32 0),(.int .u32 0),(.int .u32 0),(.int .u32 0),(.int .u32 0),(.int .u32 0),(.int .u32 0),(.int .u32 0),(.int .u32 0),(.int .u32 0),(.int .u32 0),(.int .u32 0),(.int .u32 0),(.int .u32 0),(.int .u32 0),(.int .u32 0),(.int .u32 0),(.int .u32 0),(.int .u32 0),(.int .u32 0),(.int .u32 0),(.int .u32 0),(.int .u32 0)])))]
def zco7 : List au := [Qo 18 (.call zb3k []),
 Qo 6 (.box lc 64 (.const (.agg #[(.int .u32 0),(.int .u32 0),(.int .u32 0),(.int .u32 0),(.int .u32 0),(.int .u32 0),(.int .u32 0),(.int .u32 0),(.int .u32 0),(.int .u32 0),(.int .u32 0),(.int .u32 0),(.int .u32 0),(.int .u32 0),(.int .u32 0),(.int .u32 0),(.int .u32 0),(.int .u32 0),(.int .u32 0),(.int .u32 0),(.int .u32 0),(.int .u32 0),(.int .u32 0),(.int .u32 0),(.int .u32 0),(.int .u32 0),(.int .u32 0),(.int .u32 0),(.int .u32 0),(.int .u32 0),(.int .u32 0),(.int .u32 0),(.int .u32 0),(.int .u32 0),(.int .u32 0),(.int .u32 0),(.int .u32 0),(.int .u32 0),(.int .u32 0),(.int .u32 0),(.int .u32 0),(.int .u32 0),(.int .u32 0),(.int .u32 0),(.int .u32 0),(.int .u32 0),(.int .u32 0),(.int .u32 0),(.int .u32 0),(.int .u32 0),(.int .u32 0),(.int .u32 0),(.int .u32 0),(.int .u32 0),(.int .u32 0),(.int .u32 0),(.int .u32 0),(.int .u32 0),(.int .u32 0),(.int .u32 0),(.int .u32 0),(.int .u32 0),(.int .u32 0),(.int .u32 0)]))),
 ⟨⟨none,.store 64 (t 6) (t 18),none⟩,0⟩]
def zco8 : List au := [Qo 7 (.mov (ci 0))]
def zco9 : List au := [Qo 19 (.mov (t 7)),
 Qo 20 (.bin .lss (t 19) (ci 16))]
def zcpb : List au := [Qo 23 (.mov (t 7)),
 Qo 24 (.mov (t 1)),
 Qo 25 (.mov (t 7)),
 Qo 26 (.bin .mul (ci 4) (t 25)),
 Qo 27 (.indexStr (t 24) (t 26)),
 Qo 28 (.conv .u32 (t 27)),
 Qo 29 (.bin .shl (t 28) (.const (Go.Value.int Go.IntKind.u64 24))),
 Qo 30 (.mov (t 1)),
 Qo 31 (.mov (t 7)),
 Qo 32 (.bin .mul (ci 4) (t 31)),
 Qo 33 (.bin .add (t 32) (ci 1)),
 Qo 34 (.indexStr (t 30) (t 33)),
 Qo 35 (.conv .u32 (t 34)),
 Qo 36 (.bin .shl (t 35) (.const (Go.Value.int Go.IntKind.u64 16))),
 Qo 37 (.bin .or (t 29) (t 36)),
 Qo 38 (.mov (t 1)),
 Qo 39 (.mov (t 7)),
 Qo 40 (.bin .mul (ci 4) (t 39)),
 Qo 41 (.bin .add (t 40) (ci 2)),
 Qo 42 (.indexStr (t 38) (t 41)),
 Qo 43 (.conv .u32 (t 42)),
 Qo 44 (.bin .shl (t 43) (.const (Go.Value.int Go.IntKind.u64 8))),
 Qo 45 (.bin .or (t 37) (t 44)),
 Qo 46 (.mov (t 1)),
 Qo 47 (.mov (t 7)),
 Qo 48 (.bin .mul (ci 4) (t 47)),
 Qo 49 (.bin .add (t 48) (ci 3)),
 Qo 50 (.indexStr (t 46) (t 49)),
 Qo 51 (.conv .u32 (t 50)),
 Qo 52 (.bin .or (t 45) (t 51)),
 Qo 53 (.indexPtr 64 1 (t 5) (t 23)),
 ⟨⟨none,.store 1 (t 53) (t 52),none⟩,0⟩]
def zcpa : List au := [Qo 21 (.mov (t 7)),
 Qo 22 (.bin .add (t 21) (ci 1)),
 Qo 7 (.mov (t 22))]
def zb9g : TC := (.seq (.seq (.ops zco9) (.clean [1,2,4,5,6,7,20] (.cond (t 20) .skip (.exit 0)))) (.clean [1,2,4,5,6,7] (.seq (.block 1 [1,2,4,5,6,7] (.draw (pl zcpb))) (.clean [1,2,4,5,6,7] (.ops zcpa)))))
def zcpc : List au := [Qo 8 (.mov (ci 16))]
def zcpd : List au := [Qo 54 (.mov (t 8)),
 Qo 55 (.bin .lss (t 54) (ci 64))]
def zcr4 : List au := [Qo 58 (.mov (t 8)),
 Qo 59 (.bin .sub (t 58) (ci 15)),
 Qo 60 (.indexPtr 64 1 (t 5) (t 59)),
 Qo 61 (.load1 (t 60)),
 Qo 63 (.mov (t 8)),
 Qo 64 (.bin .sub (t 63) (ci 15)),
 Qo 65 (.indexPtr 64 1 (t 5) (t 64)),
 Qo 66 (.load1 (t 65)),
 Qo 69 (.mov (t 8)),
 Qo 70 (.bin .sub (t 69) (ci 15)),
 Qo 71 (.indexPtr 64 1 (t 5) (t 70)),
 Qo 72 (.load1 (t 71)),
 Qo 73 (.bin .shr (t 72) (.const (Go.Value.int Go.IntKind.u64 3))),
 Qo 62 (.call lp [(t 61),(.const (Go.Value.int Go.IntKind.u64 7))]),
 Qo 67 (.call lp [(t 66),(.const (Go.Value.int Go.IntKind.u64 18))]),
 Qo 68 (.bin .xor (t 62) (t 67)),
 Qo 74 (.bin .xor (t 68) (t 73)),
 Qo 9 (.mov (t 74))]
def zcr5 : List au := [Qo 75 (.mov (t 8)),
 Qo 76 (.bin .sub (t 75) (ci 2)),
 Qo 77 (.indexPtr 64 1 (t 5) (t 76)),
 Qo 78 (.load1 (t 77)),
 Qo 80 (.mov (t 8)),
 Qo 81 (.bin .sub (t 80) (ci 2)),
 Qo 82 (.indexPtr 64 1 (t 5) (t 81)),
 Qo 83 (.load1 (t 82)),
 Qo 86 (.mov (t 8)),
 Qo 87 (.bin .sub (t 86) (ci 2)),
 Qo 88 (.indexPtr 64 1 (t 5) (t 87)),
 Qo 89 (.load1 (t 88)),
 Qo 90 (.bin .shr (t 89) (.const (Go.Value.int Go.IntKind.u64 10))),
 Qo 79 (.call lp [(t 78),(.const (Go.Value.int Go.IntKind.u64 17))]),
 Qo 84 (.call lp [(t 83),(.const (Go.Value.int Go.IntKind.u64 19))]),
 Qo 85 (.bin .xor (t 79) (t 84)),
 Qo 91 (.bin .xor (t 85) (t 90)),
 Qo 10 (.mov (t 91))]
def zcr6 : List au := [Qo 92 (.mov (t 8)),
 Qo 93 (.mov (t 8)),
 Qo 94 (.bin .sub (t 93) (ci 16)),
 Qo 95 (.indexPtr 64 1 (t 5) (t 94)),
 Qo 96 (.load1 (t 95)),
 Qo 97 (.mov (t 9)),
 Qo 98 (.bin .add (t 96) (t 97)),
 Qo 99 (.mov (t 8)),
 Qo 100 (.bin .sub (t 99) (ci 7)),
 Qo 101 (.indexPtr 64 1 (t 5) (t 100)),
 Qo 102 (.load1 (t 101)),
 Qo 103 (.bin .add (t 98) (t 102)),
 Qo 104 (.mov (t 10)),
 Qo 105 (.bin .add (t 103) (t 104)),
 Qo 106 (.indexPtr 64 1 (t 5) (t 92)),
 ⟨⟨none,.store 1 (t 106) (t 105),none⟩,0⟩]
def zcpe : List au := [Qo 56 (.mov (t 8)),
 Qo 57 (.bin .add (t 56) (ci 1)),
 Qo 8 (.mov (t 57))]
def zb9h : TC := (.seq (.seq (.ops zcpd) (.clean [2,4,5,6,8,55] (.cond (t 55) .skip (.exit 2)))) (.clean [2,4,5,6,8] (.seq (.block 3 [2,4,5,6,8] (.seq (.draw (pl zcr4)) (.clean [2,4,5,6,8,9] (.seq (.draw (pl zcr5)) (.clean [2,4,5,6,8,9,10] (.draw (pl zcr6))))))) (.clean [2,4,5,6,8] (.ops zcpe)))))
def zcr7 : List au := [Qo 107 (.loadN 8 (t 2)),
 Qo 11 (.box fw 8 (.const (.agg #[(.int .u32 0),(.int .u32 0),(.int .u32 0),(.int .u32 0),(.int .u32 0),(.int .u32 0),(.int .u32 0),(.int .u32 0)]))),
 ⟨⟨none,.store 8 (t 11) (t 107),none⟩,0⟩]
def zcr8 : List au := [Qo 12 (.mov (ci 0))]
def zcr9 : List au := [Qo 108 (.mov (t 12)),
 Qo 109 (.bin .lss (t 108) (ci 64))]
def zcrb : List au := [Qo 112 (.indexPtr 8 1 (t 11) (ci 4)),
 Qo 113 (.load1 (t 112)),
 Qo 115 (.indexPtr 8 1 (t 11) (ci 4)),
 Qo 116 (.load1 (t 115)),
 Qo 119 (.indexPtr 8 1 (t 11) (ci 4)),
 Qo 120 (.load1 (t 119)),
 Qo 114 (.call lp [(t 113),(.const (Go.Value.int Go.IntKind.u64 6))]),
 Qo 117 (.call lp [(t 116),(.const (Go.Value.int Go.IntKind.u64 11))]),
 Qo 118 (.bin .xor (t 114) (t 117)),
 Qo 121 (.call lp [(t 120),(.const (Go.Value.int Go.IntKind.u64 25))]),
 Qo 122 (.bin .xor (t 118) (t 121)),
 Qo 13 (.mov (t 122))]
def zcrc : List au := [Qo 123 (.indexPtr 8 1 (t 11) (ci 7)),
 Qo 124 (.load1 (t 123)),
 Qo 125 (.mov (t 13)),
 Qo 126 (.bin .add (t 124) (t 125)),
 Qo 127 (.indexPtr 8 1 (t 11) (ci 4)),
 Qo 128 (.load1 (t 127)),
 Qo 129 (.indexPtr 8 1 (t 11) (ci 5)),
 Qo 130 (.load1 (t 129)),
 Qo 131 (.bin .and (t 128) (t 130)),
 Qo 132 (.indexPtr 8 1 (t 11) (ci 4)),
 Qo 133 (.load1 (t 132)),
 Qo 134 (.un .xor (t 133)),
 Qo 135 (.indexPtr 8 1 (t 11) (ci 6)),
 Qo 136 (.load1 (t 135)),
 Qo 137 (.bin .and (t 134) (t 136)),
 Qo 138 (.bin .xor (t 131) (t 137)),
 Qo 139 (.bin .add (t 126) (t 138)),
 Qo 140 (.mov (t 12)),
 Qo 141 (.indexPtr 64 1 (t 6) (t 140)),
 Qo 142 (.load1 (t 141)),
 Qo 143 (.bin .add (t 139) (t 142)),
 Qo 144 (.mov (t 12)),
 Qo 145 (.indexPtr 64 1 (t 5) (t 144)),
 Qo 146 (.load1 (t 145)),
 Qo 147 (.bin .add (t 143) (t 146)),
 Qo 14 (.mov (t 147))]
def zcrd : List au := [Qo 148 (.indexPtr 8 1 (t 11) (ci 0)),
 Qo 149 (.load1 (t 148)),
 Qo 151 (.indexPtr 8 1 (t 11) (ci 0)),
 Qo 152 (.load1 (t 151)),
 Qo 155 (.indexPtr 8 1 (t 11) (ci 0)),
 Qo 156 (.load1 (t 155)),
 Qo 150 (.call lp [(t 149),(.const (Go.Value.int Go.IntKind.u64 2))]),
 Qo 153 (.call lp [(t 152),(.const (Go.Value.int Go.IntKind.u64 13))]),
 Qo 154 (.bin .xor (t 150) (t 153)),
 Qo 157 (.call lp [(t 156),(.const (Go.Value.int Go.IntKind.u64 22))]),
 Qo 158 (.bin .xor (t 154) (t 157)),
 Qo 15 (.mov (t 158))]
def zcre : List au := [Qo 159 (.mov (t 15)),
 Qo 160 (.indexPtr 8 1 (t 11) (ci 0)),
 Qo 161 (.load1 (t 160)),
 Qo 162 (.indexPtr 8 1 (t 11) (ci 1)),
 Qo 163 (.load1 (t 162)),
 Qo 164 (.bin .and (t 161) (t 163)),
 Qo 165 (.indexPtr 8 1 (t 11) (ci 0)),
 Qo 166 (.load1 (t 165)),
 Qo 167 (.indexPtr 8 1 (t 11) (ci 2)),
 Qo 168 (.load1 (t 167)),
 Qo 169 (.bin .and (t 166) (t 168)),
 Qo 170 (.bin .xor (t 164) (t 169)),
 Qo 171 (.indexPtr 8 1 (t 11) (ci 1)),
 Qo 172 (.load1 (t 171)),
 Qo 173 (.indexPtr 8 1 (t 11) (ci 2)),
 Qo 174 (.load1 (t 173)),
 Qo 175 (.bin .and (t 172) (t 174)),
 Qo 176 (.bin .xor (t 170) (t 175)),
 Qo 177 (.bin .add (t 159) (t 176)),
 Qo 16 (.mov (t 177))]
def zcrf : List au := [Qo 178 (.mov (t 14)),
 Qo 179 (.mov (t 16)),
 Qo 180 (.bin .add (t 178) (t 179)),
 Qo 181 (.indexPtr 8 1 (t 11) (ci 0)),
 Qo 182 (.load1 (t 181)),
 Qo 183 (.indexPtr 8 1 (t 11) (ci 1)),
 Qo 184 (.load1 (t 183)),
 Qo 185 (.indexPtr 8 1 (t 11) (ci 2)),
 Qo 186 (.load1 (t 185)),
 Qo 187 (.indexPtr 8 1 (t 11) (ci 3)),
 Qo 188 (.load1 (t 187)),
 Qo 189 (.mov (t 14)),
 Qo 190 (.bin .add (t 188) (t 189)),
 Qo 191 (.indexPtr 8 1 (t 11) (ci 4)),
 Qo 192 (.load1 (t 191)),
 Qo 193 (.indexPtr 8 1 (t 11) (ci 5)),
 Qo 194 (.load1 (t 193)),
 Qo 195 (.indexPtr 8 1 (t 11) (ci 6)),
 Qo 196 (.load1 (t 195)),
 Qo 197 (.build [(.int .u32 0),(.int .u32 0),(.int .u32 0),(.int .u32 0),(.int .u32 0),(.int .u32 0),(.int .u32 0),(.int .u32 0)] [(0,1,(t 180)),(1,1,(t 182)),(2,1,(t 184)),(3,1,(t 186)),(4,1,(t 190)),(5,1,(t 192)),(6,1,(t 194)),(7,1,(t 196))]),
 ⟨⟨none,.store 8 (t 11) (t 197),none⟩,0⟩]
def zcra : List au := [Qo 110 (.mov (t 12)),
 Qo 111 (.bin .add (t 110) (ci 1)),
 Qo 12 (.mov (t 111))]
def zb9i : TC := (.seq (.seq (.ops zcr9) (.clean [2,4,5,6,11,12,109] (.cond (t 109) .skip (.exit 4)))) (.clean [2,4,5,6,11,12] (.seq (.block 5 [2,4,5,6,11,12] (.seq (.draw (pl zcrb)) (.clean [2,4,5,6,11,12,13] (.seq (.draw (pl zcrc)) (.clean [2,4,5,6,11,12,14] (.seq (.draw (pl zcrd)) (.clean [2,4,5,6,11,12,14,15] (.seq (.ops zcre) (.clean [2,4,5,6,11,12,14,16] (.ops zcrf)))))))))) (.clean [2,4,5,6,11,12] (.ops zcra)))))
def zcrg : List au := [Qo 17 (.mov (ci 0))]
def zcrh : List au := [Qo 198 (.mov (t 17)),
 Qo 199 (.bin .lss (t 198) (ci 8))]
def zcrj : List au := [Qo 202 (.mov (t 17)),
 Qo 203 (.mov (t 17)),
 Qo 204 (.indexPtr 8 1 (t 2) (t 203)),
 Qo 205 (.load1 (t 204)),
 Qo 206 (.mov (t 17)),
 Qo 207 (.indexPtr 8 1 (t 11) (t 206)),
 Qo 208 (.load1 (t 207)),
 Qo 209 (.bin .add (t 205) (t 208)),
 Qo 210 (.indexPtr 8 1 (t 2) (t 202)),
 ⟨⟨none,.store 1 (t 210) (t 209),none⟩,0⟩]
def zcri : List au := [Qo 200 (.mov (t 17)),
 Qo 201 (.bin .add (t 200) (ci 1)),
 Qo 17 (.mov (t 201))]
def zb9j : TC := (.seq (.seq (.ops zcrh) (.clean [2,4,11,17,199] (.cond (t 199) .skip (.exit 6)))) (.clean [2,4,11,17] (.seq (.block 7 [2,4,11,17] (.draw (pl zcrj))) (.clean [2,4,11,17] (.ops zcri)))))
def zcrk : List au := [Qo 211 (.loadN 8 (t 2)),
 ⟨⟨none,.store 8 (t 4) (t 211),none⟩,0⟩]
def zccy : TC := (.seq (.ops zco5) (.clean [1,2,4] (.seq (.ops zco6) (.clean [1,2,4,5] (.seq (.ops zco7) (.clean [1,2,4,5,6] (.seq (.seq (.ops zco8) (.block 0 [2,4,5,6] (.clean [1,2,4,5,6,7] (.loop [1,2,4,5,6,7] zb9g)))) (.clean [2,4,5,6] (.seq (.seq (.ops zcpc) (.block 2 [2,4,5,6] (.clean [2,4,5,6,8] (.loop [2,4,5,6,8] zb9h)))) (.clean [2,4,5,6] (.seq (.ops zcr7) (.clean [2,4,5,6,11] (.seq (.seq (.ops zcr8) (.block 4 [2,4,11] (.clean [2,4,5,6,11,12] (.loop [2,4,5,6,11,12] zb9i)))) (.clean [2,4,11] (.seq (.seq (.ops zcrg) (.block 6 [2,4] (.clean [2,4,11,17] (.loop [2,4,11,17] zb9j)))) (.clean [2,4] (.seq (.ops zcrk) (.ret [4]))))))))))))))))))
def zccf : TFn := ⟨212,zccy,[.cellN 4 8],false⟩
theorem ky : type_of% (ai @zco5.eq_1 (ai @zco6.eq_1 (ai @zco7.eq_1 (ai @zco8.eq_1 (ai @zco9.eq_1 (ai @zcpb.eq_1 (ai @zcpa.eq_1 (ai @zcpc.eq_1 (ai @zcpd.eq_1 (ai @zcr4.eq_1 (ai @zcr5.eq_1 (ai @zcr6.eq_1 (ai @zcpe.eq_1 (ai @zcr7.eq_1 (ai @zcr8.eq_1 (ai @zcr9.eq_1 (ai @zcrb.eq_1 (ai @zcrc.eq_1 (ai @zcrd.eq_1 (ai @zcre.eq_1 (ai @zcrf.eq_1 (ai @zcra.eq_1 (ai @zcrg.eq_1 (ai @zcrh.eq_1 (ai @zcrj.eq_1 (ai @zcri.eq_1 (ai @zcrk.eq_1 (ai @zccy.eq_1 @zccf.eq_1)))))))))))))))))))))))))))) := ⟨rfl,rfl,rfl,rfl,rfl,rfl,rfl,rfl,rfl,rfl,rfl,rfl,rfl,rfl,rfl,rfl,rfl,rfl,rfl,rfl,rfl,rfl,rfl,rfl,rfl,rfl,rfl,rfl,rfl⟩
theorem zc4e : u4 Try.prog [(6,⟨[0,1,2,3,4,5,6,7,8,9,10,11,12,13,14,15,16,17,18,19,20,21,22,23,24,25,26,27,28,29,30,31],[0,0,0,4,14,30,62,0,0,256,768,1920,3968,8064,16382,0,0,65536,196608,491520,1015808,2064384,4194302,0,0,16777216,50331648,125829120,260046848,536870910,1073741823,2147483647],[],[],.nil⟩),(10,⟨[0,1,2,3,5,6,7,8,11,12,13,14,15,4,9,10,16,17],[0,1,3,7,15,0,32,96,224,511,1023,0,2048,6144,14336,30720,65535,131071],[],[],.nil⟩),(11,⟨[0,1,2,3,5,6,7,8,11,12,13,14,15,4,9,10,16,17],[0,1,3,7,15,0,32,96,224,511,1023,0,2048,6144,14336,30720,65535,131071],[],[],.nil⟩),(12,⟨[0,1,2,3,4,5,6,7,8,9,10,11,12,13,14,15],[0,0,2,6,14,0,62,0,128,384,896,2046,0,8190,16383,32767],[],[],.nil⟩),(17,⟨[0,1,3,4,7,8,2,5,6,9,10,11],[0,1,3,0,8,31,63,0,128,447,1023,2047],[],[],.nil⟩),(18,⟨[0,1,2,3,4,5,6,7,8,9,10,11,12,13,14,15,16,17,18,19,20,21,22,23,24,25],[0,1,0,7,0,16,0,64,240,0,512,1536,0,4096,15872,32752,65535,0,131072,393216,1048575,0,2097152,6291456,16777215,33554431],[],[],.nil⟩),(19,⟨[0,1,3,4,7,8,2,5,6,9,10,11],[0,1,3,0,8,31,63,0,128,447,1023,2047],[],[],.nil⟩),(25,⟨[0,1,2,3,4,5,6,7,8,9],[0,0,2,6,0,16,48,126,255,511],[],[],.nil⟩)] zb3j = some (212,zccy.erase,[.cellN 4 8]) := by kernel_rfl
def zcpf : List au := [Qo 0 (.box lc 64 (.const (.agg #[(.int .u32 0),(.int .u32 0),(.int .u32 0),(.int .u32 0),(.int .u32 0),(.int .u32 0),(.int .u32 0),(.int .u32 0),(.int .u32 0),(.int .u32 0),(.int .u32 0),(.int .u32 0),(.int .u32 0),(.int .u32 0),(.int .u32 0),(.int .u32 0),(.int .u32 0),(.int .u32 0),(.int .u32 0),(.int .u32 0),(.int .u32 0),(.int .u32 0),(.int .u32 0),(.int .u32 0),(.int .u32 0),(.int .u32 0),(.int .u32 0),(.int .u32 0),(.int .u32 0),(.int .u32 0),(.int .u32 0),(.int .u32 0),(.int .u32 0),(.int .u32 0),(.int .u32 0),(.int .u32 0),(.int .u32 0),(.int .u32 0),(.int .u32 0),(.int .u32 0),(.int .u32 0),(.int .u32 0),(.int .u32 0),(.int .u32 0),(.int .u32 0),(.int .u32 0),(.int .u32 0),(.int .u32 0),(.int .u32 0),(.int .u32 0),(.int .u32 0),(.int .u32 0),(.int .u32 0),(.int .u32 0),(.int .u32 0),(.int .u32 0),(.int .u32 0),(.int .u32 0),(.int .u32 0),(.int .u32 0),(.int .u32 0),(.int .u32 0),(.int .u32 0),(.int .u32 0)])))]
def zcpg : List au := [Qo 1 (.build [(.int .u32 0),(.int .u32 0),(.int .u32 0),(.int .u32 0),(.int .u32 0),(.int .u32 0),(.int .u32 0),(.int .u32 0),(.int .u32 0),(.int .u32 0),(.int .u32 0),(.int .u32 0),(.int .u32 0),(.int .u32 0),(.int .u32 0),(.int .u32 0),(.int .u32 0),(.int .u32 0),(.int .u32 0),(.int .u32 0),(.int .u32 0),(.int .u32 0),(.int .u32 0),(.int .u32 0),(.int .u32 0),(.int .u32 0),(.int .u32 0),(.int .u32 0),(.int .u32 0),(.int .u32 0),(.int .u32 0),(.int .u32 0),(.int .u32 0),(.int .u32 0),(.int .u32 0),(.int .u32 0),(.int .u32 0),(.int .u32 0),(.int .u32 0),(.int .u32 0),(.int .u32 0),(.int .u32 0),(.int .u32 0),(.int .u32 0),(.int .u32 0),(.int .u32 0),(.int .u32 0),(.int .u32 0),(.int .u32 0),(.int .u32 0),(.int .u32 0),(.int .u32 0),(.int .u32 0),(.int .u32 0),(.int .u32 0),(.int .u32 0),(.int .u32 0),(.int .u32 0),(.int .u32 0),(.int .u32 0),(.int .u32 0),(.int .u32 0),(.int .u32 0),(.int .u32 0)] [(0,1,(.const (Go.Value.int Go.IntKind.u32 1116352408))),(1,1,(.const (Go.Value.int Go.IntKind.u32 1899447441))),(2,1,(.const (Go.Value.int Go.IntKind.u32 3049323471))),(3,1,(.const (Go.Value.int Go.IntKind.u32 3921009573))),(4,1,(.const (Go.Value.int Go.IntKind.u32 961987163))),(5,1,(.const (Go.Value.int Go.IntKind.u32 1508970993))),(6,1,(.const (Go.Value.int Go.IntKind.u32 2453635748))),(7,1,(.const (Go.Value.int Go.IntKind.u32 2870763221))),(8,1,(.const (Go.Value.int Go.IntKind.u32 3624381080))),(9,1,(.const (Go.Value.int Go.IntKind.u32 310598401))),(10,1,(.const (Go.Value.int Go.IntKind.u32 607225278))),(11,1,(.const (Go.Value.int Go.IntKind.u32 1426881987))),(12,1,(.const (Go.Value.int Go.IntKind.u32 1925078388))),(13,1,(.const (Go.Value.int Go.IntKind.u32 2162078206))),(14,1,(.const (Go.Value.int Go.IntKind.u32 2614888103))),(15,1,(.const (Go.Value.int Go.IntKind.u32 3248222580))),(16,1,(.const (Go.Value.int Go.IntKind.u32 3835390401))),(17,1,(.const (Go.Value.int Go.IntKind.u32 4022224774))),(18,1,(.const (Go.Value.int Go.IntKind.u32 264347078))),(19,1,(.const (Go.Value.int Go.IntKind.u32 604807628))),(20,1,(.const (Go.Value.int Go.IntKind.u32 770255983))),(21,1,(.const (Go.Value.int Go.IntKind.u32 1249150122))),(22,1,(.const (Go.Value.int Go.IntKind.u32 1555081692))),(23,1,(.const (Go.Value.int Go.IntKind.u32 1996064986))),(24,1,(.const (Go.Value.int Go.IntKind.u32 2554220882))),(25,1,(.const (Go.Value.int Go.IntKind.u32 2821834349))),(26,1,(.const (Go.Value.int Go.IntKind.u32 2952996808))),(27,1,(.const (Go.Value.int Go.IntKind.u32 3210313671))),(28,1,(.const (Go.Value.int Go.IntKind.u32 3336571891))),(29,1,(.const (Go.Value.int Go.IntKind.u32 3584528711))),(30,1,(.const (Go.Value.int Go.IntKind.u32 113926993))),(31,1,(.const (Go.Value.int Go.IntKind.u32 338241895))),(32,1,(.const (Go.Value.int Go.IntKind.u32 666307205))),(33,1,(.const (Go.Value.int Go.IntKind.u32 773529912))),(34,1,(.const (Go.Value.int Go.IntKind.u32 1294757372))),(35,1,(.const (Go.Value.int Go.IntKind.u32 1396182291))),(36,1,(.const (Go.Value.int Go.IntKind.u32 1695183700))),(37,1,(.const (Go.Value.int Go.IntKind.u32 1986661051))),(38,1,(.const (Go.Value.int Go.IntKind.u32 2177026350))),(39,1,(.const (Go.Value.int Go.IntKind.u32 2456956037))),(40,1,(.const (Go.Value.int Go.IntKind.u32 2730485921))),(41,1,(.const (Go.Value.int Go.IntKind.u32 2820302411))),(42,1,(.const (Go.Value.int Go.IntKind.u32 3259730800))),(43,1,(.const (Go.Value.int Go.IntKind.u32 3345764771))),(44,1,(.const (Go.Value.int Go.IntKind.u32 3516065817))),(45,1,(.const (Go.Value.int Go.IntKind.u32 3600352804))),(46,1,(.const (Go.Value.int Go.IntKind.u32 4094571909))),(47,1,(.const (Go.Value.int Go.IntKind.u32 275423344))),(48,1,(.const (Go.Value.int Go.IntKind.u32 430227734))),(49,1,(.const (Go.Value.int Go.IntKind.u32 506948616))),(50,1,(.const (Go.Value.int Go.IntKind.u32 659060556))),(51,1,(.const (Go.Value.int Go.IntKind.u32 883997877))),(52,1,(.const (Go.Value.int Go.IntKind.u32 958139571))),(53,1,(.const (Go.Value.int Go.IntKind.u32 1322822218))),(54,1,(.const (Go.Value.int Go.IntKind.u32 1537002063))),(55,1,(.const (Go.Value.int Go.IntKind.u32 1747873779))),(56,1,(.const (Go.Value.int Go.IntKind.u32 1955562222))),(57,1,(.const (Go.Value.int Go.IntKind.u32 2024104815))),(58,1,(.const (Go.Value.int Go.IntKind.u32 2227730452))),(59,1,(.const (Go.Value.int Go.IntKind.u32 2361852424))),(60,1,(.const (Go.Value.int Go.IntKind.u32 2428436474))),(61,1,(.const (Go.Value.int Go.IntKind.u32 2756734187))),(62,1,(.const (Go.Value.int Go.IntKind.u32 3204031479))),(63,1,(.const (Go.Value.int Go.IntKind.u32 3329325298)))]),
 ⟨⟨none,.store 64 (t 0) (t 1),none⟩,0⟩]
def zccz : TC := (.seq (.ops zcpf) (.clean [0] (.seq (.ops zcpg) (.ret [0]))))
def zccg : TFn := ⟨2,zccz,[.cellN 0 64],false⟩
theorem zc36 : type_of% (ai @zcpf.eq_1 (ai @zcpg.eq_1 (ai @zccz.eq_1 @zccg.eq_1))) := ⟨rfl,rfl,rfl,rfl⟩
theorem zc4f : u4 Try.prog [] zb3k = some (2,zccz.erase,[.cellN 0 64]) := by kernel_rfl
def zcno : List au := [Qo 4 (.mov (.const (Go.Value.int Go.IntKind.u32 0)))]
def zcnp : List au := [Qo 5 (.mov (t 0)),
 Qo 6 (.mov (t 1)),
 Qo 7 (.bin .shr (t 5) (t 6)),
 Qo 8 (.mov (t 0)),
 Qo 9 (.mov (t 1)),
 Qo 10 (.bin .sub (.const (Go.Value.int Go.IntKind.u64 32)) (t 9)),
 Qo 11 (.bin .shl (t 8) (t 10)),
 Qo 12 (.bin .or (t 7) (t 11)),
 Qo 4 (.mov (t 12))]
def zcb5 : TC := (.seq (.ops zcno) (.clean [0,1] (.seq (.ops zcnp) (.ret [4]))))
def zcb0 : TFn := ⟨13,zcb5,[.tmp 4],false⟩
theorem zblq : type_of% (ai @zcno.eq_1 (ai @zcnp.eq_1 (ai @zcb5.eq_1 @zcb0.eq_1))) := ⟨rfl,rfl,rfl,rfl⟩
theorem zblj : u4 Try.prog [] lp = some (13,zcb5.erase,[.tmp 4]) := by kernel_rfl
def zcq7 : List au := [Qo 2 (.mov (.const (Go.Value.string ⟨#[]⟩)))]
def zcq8 : List au := [Qo 3 (.mov (t 0)),
 Qo 4 (.call nk [(t 3)]),
 Qo 5 (.bin .add (.const (Go.Value.string ⟨#[115,101,99,114,101,116]⟩)) (t 4)),
 Qo 2 (.mov (t 5))]
def zcda : TC := (.seq (.ops zcq7) (.clean [0] (.seq (.ops zcq8) (.ret [2]))))
def zcc3 : TFn := ⟨6,zcda,[.tmp 2],false⟩
theorem zc5l : type_of% (ai @zcq7.eq_1 (ai @zcq8.eq_1 (ai @zcda.eq_1 @zcc3.eq_1))) := ⟨rfl,rfl,rfl,rfl⟩
theorem zc5c : u4 Try.prog [] zb3m = some (6,zcda.erase,[.tmp 2]) := by kernel_rfl
def zcrl : List au := [Qo 4 (.mov (.const (Go.Value.string ⟨#[]⟩)))]
def zcrm : List au := [Qo 7 (.mov (t 1)),
 Qo 8 (.bin .lss (t 7) (ci 0)),
 Qo 9 (.mov (t 8)),
 Qf 9 10 (.mov (t 1)),
 Qf 9 11 (.bin .gtr (t 10) (ci 255)),
 Qo 12 (.pick (t 9) QT (t 11))]
def zcrn : List au := [Qo 4 (.mov (.const (Go.Value.string ⟨#[]⟩)))]
def zcro : List au := [Qo 5 (.mov (.const (Go.Value.string ⟨#[]⟩)))]
def zcrp : List au := [Qo 6 (.mov (ci 0))]
def zcrq : List au := [Qo 13 (.mov (t 6)),
 Qo 14 (.bin .lss (t 13) (ci 16))]
def zcrs : List au := [Qo 17 (.mov (t 5)),
 Qo 18 (.mov (t 0)),
 Qo 19 (.mov (t 1)),
 Qo 20 (.mov (t 6)),
 Qo 21 (.call yx [(t 18),(t 19),(t 20),(ci 0)]),
 Qo 22 (.call sc [(t 21)]),
 Qo 23 (.bin .add (t 17) (t 22)),
 Qo 24 (.mov (t 0)),
 Qo 25 (.mov (t 1)),
 Qo 26 (.mov (t 6)),
 Qo 27 (.call yx [(t 24),(t 25),(t 26),(ci 1)]),
 Qo 28 (.call sc [(t 27)]),
 Qo 29 (.bin .add (t 23) (t 28)),
 Qo 5 (.mov (t 29))]
def zcrr : List au := [Qo 15 (.mov (t 6)),
 Qo 16 (.bin .add (t 15) (ci 1)),
 Qo 6 (.mov (t 16))]
def zb9o : TC := (.seq (.seq (.ops zcrq) (.clean [0,1,5,6,14] (.cond (t 14) .skip (.exit 0)))) (.clean [0,1,5,6] (.seq (.block 1 [0,1,5,6] (.ops zcrs)) (.clean [0,1,5,6] (.ops zcrr)))))
def zcrt : List au := [Qo 30 (.mov (t 5)),
 Qo 31 (.call sc [(t 30)]),
 Qo 4 (.mov (t 31))]
def zcdb : TC := (.seq (.ops zcrl) (.clean [0,1] (.seq (.seq (.ops zcrm) (.clean [0,1,12] (.cond (t 12) (.seq (.ops zcrn) (.ret [4])) .skip))) (.clean [0,1] (.seq (.ops zcro) (.clean [0,1,5] (.seq (.seq (.ops zcrp) (.block 0 [5] (.clean [0,1,5,6] (.loop [0,1,5,6] zb9o)))) (.clean [5] (.seq (.ops zcrt) (.ret [4]))))))))))
def zcc4 : TFn := ⟨32,zcdb,[.tmp 4],false⟩
theorem z7 : type_of% (ai @zcrl.eq_1 (ai @zcrm.eq_1 (ai @zcrn.eq_1 (ai @zcro.eq_1 (ai @zcrp.eq_1 (ai @zcrq.eq_1 (ai @zcrs.eq_1 (ai @zcrr.eq_1 (ai @zcrt.eq_1 (ai @zcdb.eq_1 @zcc4.eq_1)))))))))) := ⟨rfl,rfl,rfl,rfl,rfl,rfl,rfl,rfl,rfl,rfl,rfl⟩
theorem zc5d : u4 Try.prog [] zb3n = some (32,zcdb.erase,[.tmp 4]) := by kernel_rfl
def zco3 : List au := [Qo 2 (.mov (.const (Go.Value.string ⟨#[]⟩)))]
def zco4 : List au := [Qo 3 (.mov (t 0)),
 Qo 4 (.call zb0i [(t 3)]),
 Qo 5 (.sliceStr (t 4) none (some (ci 16))),
 Qo 2 (.mov (t 5))]
def zccx : TC := (.seq (.ops zco3) (.clean [0] (.seq (.ops zco4) (.ret [2]))))
def zcce : TFn := ⟨6,zccx,[.tmp 2],false⟩
theorem zc35 : type_of% (ai @zco3.eq_1 (ai @zco4.eq_1 (ai @zccx.eq_1 @zcce.eq_1))) := ⟨rfl,rfl,rfl,rfl⟩
theorem zc4d : u4 Try.prog [] sc = some (6,zccx.erase,[.tmp 2]) := by kernel_rfl
def zcph : List au := [Qo 8 (.mov (.const (Go.Value.string ⟨#[]⟩)))]
def zcpi : List au := [Qo 9 (.mov (t 1)),
 Qo 10 (.bin .lss (t 9) (ci 0)),
 Qo 11 (.mov (t 10)),
 Qf 11 12 (.mov (t 1)),
 Qf 11 13 (.bin .gtr (t 12) (ci 255)),
 Qo 14 (.pick (t 11) QT (t 13)),
 Qo 15 (.mov (t 14)),
 Qf 15 16 (.mov (t 2)),
 Qf 15 17 (.bin .lss (t 16) (ci 0)),
 Qo 18 (.pick (t 15) QT (t 17)),
 Qo 19 (.mov (t 18)),
 Qf 19 20 (.mov (t 2)),
 Qf 19 21 (.bin .geq (t 20) (ci 16)),
 Qo 22 (.pick (t 19) QT (t 21)),
 Qo 23 (.mov (t 22)),
 Qf 23 24 (.mov (t 3)),
 Qf 23 25 (.bin .lss (t 24) (ci 0)),
 Qo 26 (.pick (t 23) QT (t 25)),
 Qo 27 (.mov (t 26)),
 Qf 27 28 (.mov (t 3)),
 Qf 27 29 (.bin .gtr (t 28) (ci 1)),
 Qo 30 (.pick (t 27) QT (t 29))]
def zcqe : List au := [Qo 8 (.mov (.const (Go.Value.string ⟨#[]⟩)))]
def zcqf : List au := [Qo 31 (.mov (t 0)),
 Qo 32 (.mov (t 1)),
 Qo 33 (.conv .u8 (t 32)),
 Qo 34 (.mov (t 2)),
 Qo 35 (.conv .u8 (t 34)),
 Qo 36 (.mov (t 3)),
 Qo 37 (.conv .u8 (t 36)),
 Qo 38 (.buildSl fj 1 3 [(.int .u8 0),(.int .u8 0),(.int .u8 0)] [(0,1,(t 33)),(1,1,(t 35)),(2,1,(t 37))]),
 Qo 39 (.toStr (t 38)),
 Qo 40 (.bin .add (t 31) (t 39)),
 Qo 41 (.call sc [(t 40)]),
 Qo 8 (.mov (t 41))]
def zcco : TC := (.seq (.ops zcph) (.clean [0,1,2,3] (.seq (.seq (.ops zcpi) (.clean [0,1,2,3,30] (.cond (t 30) (.seq (.ops zcqe) (.ret [8])) .skip))) (.clean [0,1,2,3] (.seq (.ops zcqf) (.ret [8]))))))
def zcch : TFn := ⟨42,zcco,[.tmp 8],false⟩
theorem yr : type_of% (ai @zcph.eq_1 (ai @zcpi.eq_1 (ai @zcqe.eq_1 (ai @zcqf.eq_1 (ai @zcco.eq_1 @zcch.eq_1))))) := ⟨rfl,rfl,rfl,rfl,rfl,rfl⟩
theorem zc4g : u4 Try.prog [] yx = some (42,zcco.erase,[.tmp 8]) := by kernel_rfl
def zcm8 : List au := [Qo 2 (.mov (.const (Go.Value.string ⟨#[]⟩)))]
def zcm9 : List au := [Qo 3 (.mov (t 0)),
 Qo 4 (.call nk [(t 3)]),
 Qo 5 (.bin .add (.const (Go.Value.string ⟨#[115,101,101,100]⟩)) (t 4)),
 Qo 2 (.mov (t 5))]
def zcb3 : TC := (.seq (.ops zcm8) (.clean [0] (.seq (.ops zcm9) (.ret [2]))))
def zcby : TFn := ⟨6,zcb3,[.tmp 2],false⟩
theorem zblr : type_of% (ai @zcm8.eq_1 (ai @zcm9.eq_1 (ai @zcb3.eq_1 @zcby.eq_1))) := ⟨rfl,rfl,rfl,rfl⟩
theorem zbll : u4 Try.prog [] zb25 = some (6,zcb3.erase,[.tmp 2]) := by kernel_rfl
def zcoy : List au := [Qo 0 (.mov QF)]
def zcoz : List au := [Qo 6 (.call zb0k [(ci 2),(ci 5),(ci 6)]),
 Qo 1 (.box dk 7 (.const (.agg #[(.string ⟨#[]⟩),(.slice none 0 0),(.slice none 0 0),(.slice none 0 0),(.slice none 0 0),(.int .i64 0),(.int .i64 0)]))),
 ⟨⟨none,.store 7 (t 1) (t 6),none⟩,0⟩]
def zco0 : List au := [Qo 8 (.loadN 7 (t 1)),
 Qo 9 (.call rq [(t 8)]),
 Qo 10 (.call uo [(t 9)]),
 Qo 7 (.mov (t 10)),
 Qo 11 (.extract (t 7) 0),
 Qo 12 (.extract (t 7) 1),
 Qo 2 (.box dk 7 (.const (.agg #[(.string ⟨#[]⟩),(.slice none 0 0),(.slice none 0 0),(.slice none 0 0),(.slice none 0 0),(.int .i64 0),(.int .i64 0)]))),
 ⟨⟨none,.store 7 (t 2) (t 11),none⟩,0⟩,
 Qo 3 (.mov (t 12))]
def zco1 : List au := [Qo 14 (.call uo [(.const (Go.Value.string ⟨#[]⟩))]),
 Qo 13 (.mov (t 14)),
 Qo 15 (.extract (t 13) 0),
 Qo 16 (.extract (t 13) 1),
 Qo 4 (.box dk 7 (.const (.agg #[(.string ⟨#[]⟩),(.slice none 0 0),(.slice none 0 0),(.slice none 0 0),(.slice none 0 0),(.int .i64 0),(.int .i64 0)]))),
 ⟨⟨none,.store 7 (t 4) (t 15),none⟩,0⟩,
 Qo 5 (.mov (t 16))]
def zco2 : List au := [Qo 17 (.loadN 7 (t 1)),
 Qo 18 (.call pi [(t 17)]),
 Qo 19 (.mov (t 18)),
 Qt 19 20 (.mov (t 3)),
 Qt 19 21 (.bin .eql (t 20) (ci 0)),
 Qo 22 (.pick (t 19) (t 21) QF),
 Qo 23 (.mov (t 22)),
 Qt 23 24 (.loadN 7 (t 1)),
 Qt 23 25 (.loadN 7 (t 2)),
 Qt 23 26 (.call yw [(t 24),(t 25)]),
 Qo 27 (.pick (t 23) (t 26) QF),
 Qo 28 (.mov (t 27)),
 Qt 28 29 (.mov (t 5)),
 Qt 28 30 (.bin .eql (t 29) (ci 2)),
 Qo 31 (.pick (t 28) (t 30) QF),
 Qo 32 (.mov (t 31)),
 Qt 32 33 (.build [(.string ⟨#[]⟩),(.slice none 0 0),(.slice none 0 0),(.slice none 0 0),(.slice none 0 0),(.int .i64 0),(.int .i64 0)] []),
 Qt 32 34 (.call pi [(t 33)]),
 Qt 32 35 (.un .not (t 34)),
 Qo 36 (.pick (t 32) (t 35) QF),
 Qo 0 (.mov (t 36))]
def zccw : TC := (.seq (.ops zcoy) (.clean [] (.seq (.ops zcoz) (.clean [1] (.seq (.ops zco0) (.clean [1,2,3] (.seq (.ops zco1) (.clean [1,2,3,5] (.seq (.ops zco2) (.ret [0]))))))))))
def zccd : TFn := ⟨37,zccw,[.tmp 0],false⟩
theorem zb4w : type_of% (ai @zcoy.eq_1 (ai @zcoz.eq_1 (ai @zco0.eq_1 (ai @zco1.eq_1 (ai @zco2.eq_1 (ai @zccw.eq_1 @zccd.eq_1)))))) := ⟨rfl,rfl,rfl,rfl,rfl,rfl,rfl⟩
theorem zc4c : u4 Try.prog [] zb3i = some (37,zccw.erase,[.tmp 0]) := by kernel_rfl
def zcpv : List au := [Qo 2 (.box dk 7 (.const (.agg #[(.string ⟨#[]⟩),(.slice none 0 0),(.slice none 0 0),(.slice none 0 0),(.slice none 0 0),(.int .i64 0),(.int .i64 0)]))),
 Qo 3 (.mov (ci 0))]
def zcpw : List au := [Qo 7 (.mov (t 0)),
 Qo 8 (.call zb3l [(t 7)]),
 Qo 4 (.box cz 1 (.const (.pointer none))),
 ⟨⟨none,.store 1 (t 4) (t 8),none⟩,0⟩]
def zcpx : List au := [Qo 9 (.mkFunc (.func dt) [] [(t 4)]),
 Qo 5 (.box kb 1 (.const .nilFunc)),
 ⟨⟨none,.store 1 (t 5) (t 9),none⟩,0⟩]
def zcpy : List au := [Qo 10 (.load1 (t 5)),
 Qo 11 (.callv (t 10) []),
 Qo 12 (.build [(.string ⟨#[]⟩),(.slice none 0 0),(.slice none 0 0),(.slice none 0 0),(.slice none 0 0),(.int .i64 0),(.int .i64 0)] [(0,1,(t 11))]),
 Qo 6 (.box dk 7 (.const (.agg #[(.string ⟨#[]⟩),(.slice none 0 0),(.slice none 0 0),(.slice none 0 0),(.slice none 0 0),(.int .i64 0),(.int .i64 0)]))),
 ⟨⟨none,.store 7 (t 6) (t 12),none⟩,0⟩]
def zcpz : List au := [Qo 13 (.load1 (t 4)),
 Qo 14 (.mkFunc (.func nh) [] [(t 5),(t 4)]),
 Qo 15 (.call ik [(t 13),(ci 6),(t 14)]),
 Qo 16 (.fieldAddr 1 (t 6)),
 ⟨⟨none,.store 1 (t 16) (t 15),none⟩,0⟩]
def zcp0 : List au := [Qo 17 (.load1 (t 4)),
 Qo 18 (.mkFunc (.func ng) [] [(t 4),(t 5)]),
 Qo 19 (.call ke [(t 17),(ci 12),(t 18)]),
 Qo 20 (.fieldAddr 2 (t 6)),
 ⟨⟨none,.store 1 (t 20) (t 19),none⟩,0⟩]
def zcp1 : List au := [Qo 21 (.load1 (t 4)),
 Qo 22 (.load1 (t 4)),
 Qo 23 (.mkFunc (.func bp) [(t 22)] []),
 Qo 24 (.call o7 [(t 21),(ci 3),(t 23)]),
 Qo 25 (.fieldAddr 3 (t 6)),
 ⟨⟨none,.store 1 (t 25) (t 24),none⟩,0⟩]
def zcp2 : List au := [Qo 26 (.load1 (t 4)),
 Qo 27 (.load1 (t 5)),
 Qo 28 (.call je [(t 26),(ci 3),(t 27)]),
 Qo 29 (.fieldAddr 4 (t 6)),
 ⟨⟨none,.store 1 (t 29) (t 28),none⟩,0⟩]
def zcp3 : List (au × List Nat) := [(Qo 30 (.load1 (t 4)),[]),
 (Qo 32 (.load1 (t 4)),[]),
 (Qm 7 31 (.callW bp [(t 30)]),[1]),
 (Qo 34 (.fieldAddr 5 (t 6)),[]),
 (Qo 33 (.callW bp [(t 32)]),[]),
 (⟨⟨none,.store 1 (t 34) (t 31),none⟩,0⟩,[]),
 (Qo 35 (.fieldAddr 6 (t 6)),[]),
 (⟨⟨none,.store 1 (t 35) (t 33),none⟩,0⟩,[])]
def zcp4 : List au := [Qo 36 (.load1 (t 4)),
 Qo 37 (.call ml [(t 36)]),
 Qo 38 (.mov (t 37)),
 Qf 38 39 (.load1 (t 4)),
 Qf 38 40 (.call lm [(t 39)]),
 Qf 38 41 (.bin .gtr (t 40) (ci 0)),
 Qo 42 (.pick (t 38) QT (t 41)),
 Qo 43 (.mov (t 42)),
 Qf 43 44 (.loadN 7 (t 6)),
 Qf 43 45 (.call pi [(t 44)]),
 Qf 43 46 (.un .not (t 45)),
 Qo 47 (.pick (t 43) QT (t 46))]
def zcsc : List au := [Qo 48 (.build [(.string ⟨#[]⟩),(.slice none 0 0),(.slice none 0 0),(.slice none 0 0),(.slice none 0 0),(.int .i64 0),(.int .i64 0)] []),
 ⟨⟨none,.store 7 (t 2) (t 48),none⟩,0⟩,
 Qo 3 (.mov (ci 2))]
def zcsd : List au := [Qo 49 (.loadN 7 (t 6)),
 ⟨⟨none,.store 7 (t 2) (t 49),none⟩,0⟩,
 Qo 3 (.mov (ci 0))]
def zccr : TC := (.seq (.ops zcpv) (.clean [0,2] (.seq (.ops zcpw) (.clean [2,4] (.seq (.ops zcpx) (.clean [2,4,5] (.seq (.ops zcpy) (.clean [2,4,5,6] (.seq (.ops zcpz) (.clean [2,4,5,6] (.seq (.ops zcp0) (.clean [2,4,5,6] (.seq (.ops zcp1) (.clean [2,4,5,6] (.seq (.ops zcp2) (.clean [2,4,6] (.seq (.draw zcp3) (.clean [2,4,6] (.seq (.seq (.ops zcp4) (.clean [2,6,47] (.cond (t 47) (.seq (.ops zcsc) (.ret [2,3])) .skip))) (.clean [2,6] (.seq (.ops zcsd) (.ret [2,3]))))))))))))))))))))))
def zcck : TFn := ⟨50,zccr,[.cellN 2 7,.tmp 3],false⟩
theorem zb82 : type_of% (ai @zcpv.eq_1 (ai @zcpw.eq_1 (ai @zcpx.eq_1 (ai @zcpy.eq_1 (ai @zcpz.eq_1 (ai @zcp0.eq_1 (ai @zcp1.eq_1 (ai @zcp2.eq_1 (ai @zcp3.eq_1 (ai @zcp4.eq_1 (ai @zcsc.eq_1 (ai @zcsd.eq_1 (ai @zccr.eq_1 @zcck.eq_1))))))))))))) := ⟨rfl,rfl,rfl,rfl,rfl,rfl,rfl,rfl,rfl,rfl,rfl,rfl,rfl,rfl⟩
theorem zc45 : u4 Try.prog [(8,⟨[0,2,1,4,3,5,6,7],[0,1,0,7,3,31,63,127],[1,3],[(1,[2])],.nil⟩)] uo = some (50,zccr.erase,[.cellN 2 7,.tmp 3]) := by kernel_rfl
def zcsp : List au := [Qo 1 (.box dk 7 (t 0)),
 Qo 2 (.mov QF)]
def zcsq : List (au × List Nat) := [(Qo 12 (.fieldAddr 1 (t 1)),[]),
 (Qo 13 (.load1 (t 12)),[]),
 (Qo 14 (.lenL (t 13)),[]),
 (Qo 15 (.fieldAddr 3 (t 1)),[]),
 (Qo 16 (.load1 (t 15)),[]),
 (Qo 17 (.lenL (t 16)),[]),
 (Qo 3 (.box u7 1 (.const (.int .i64 0))),[]),
 (⟨⟨none,.store 1 (t 3) (t 14),none⟩,0⟩,[4]),
 (Qo 4 (.mov (t 17)),[])]
def zcsr : List au := [Qo 18 (.fieldAddr 0 (t 1)),
 Qo 19 (.load1 (t 18)),
 Qo 20 (.call um [(t 19)]),
 Qo 21 (.un .not (t 20)),
 Qo 22 (.mov (t 21)),
 Qf 22 23 (.load1 (t 3)),
 Qf 22 24 (.call n5 [(t 23),(ci 2),(ci 6)]),
 Qf 22 25 (.un .not (t 24)),
 Qo 26 (.pick (t 22) QT (t 25)),
 Qo 27 (.mov (t 26)),
 Qf 27 28 (.mov (t 4)),
 Qf 27 29 (.call n5 [(t 28),(ci 1),(ci 3)]),
 Qf 27 30 (.un .not (t 29)),
 Qo 31 (.pick (t 27) QT (t 30)),
 Qo 32 (.mov (t 31)),
 Qf 32 33 (.fieldAddr 2 (t 1)),
 Qf 32 34 (.load1 (t 33)),
 Qf 32 35 (.lenL (t 34)),
 Qf 32 36 (.call n5 [(t 35),(ci 1),(ci 12)]),
 Qf 32 37 (.un .not (t 36)),
 Qo 38 (.pick (t 32) QT (t 37)),
 Qo 39 (.mov (t 38)),
 Qf 39 40 (.fieldAddr 4 (t 1)),
 Qf 39 41 (.load1 (t 40)),
 Qf 39 42 (.mov (t 4)),
 Qf 39 43 (.call ul [(t 41),(t 42),(ci 32)]),
 Qf 39 44 (.un .not (t 43)),
 Qo 45 (.pick (t 39) QT (t 44)),
 Qo 46 (.mov (t 45)),
 Qf 46 47 (.fieldAddr 5 (t 1)),
 Qf 46 48 (.load1 (t 47)),
 Qf 46 49 (.call n5 [(t 48),(ci 0),(ci 1099511627776)]),
 Qf 46 50 (.un .not (t 49)),
 Qo 51 (.pick (t 46) QT (t 50)),
 Qo 52 (.mov (t 51)),
 Qf 52 53 (.fieldAddr 6 (t 1)),
 Qf 52 54 (.load1 (t 53)),
 Qf 52 55 (.call n5 [(t 54),(ci 1),(ci 1048576)]),
 Qf 52 56 (.un .not (t 55)),
 Qo 57 (.pick (t 52) QT (t 56))]
def zcss : List au := [Qo 2 (.mov QF)]
def zcst : List au := [Qm 1 5 (.mov (.const (Go.Value.slice none 0 0)))]
def zcsu : List au := [Qo 58 (.fieldAddr 1 (t 1)),
 Qo 59 (.load1 (t 58)),
 Qo 60 (.lenL (t 59)),
 Qo 61 (.mov (ci 0))]
def zcsv : List au := [Qo 62 (.bin .lss (t 61) (t 60))]
def zcsw : List au := [Qo 63 (.indexSl 2 (t 59) (t 61)),
 Qo 64 (.loadN 2 (t 63)),
 Qo 7 (.box dq 2 (.const (.agg #[(.string ⟨#[]⟩),(.slice none 0 0)]))),
 ⟨⟨none,.store 2 (t 7) (t 64),none⟩,0⟩]
def zcsa : List au := [Qo 65 (.fieldAddr 0 (t 7)),
 Qo 66 (.load1 (t 65)),
 Qo 67 (.call um [(t 66)]),
 Qo 68 (.un .not (t 67)),
 Qo 69 (.mov (t 68)),
 Qf 69 70 (.fieldAddr 1 (t 7)),
 Qf 69 71 (.load1 (t 70)),
 Qf 69 72 (.mov (t 4)),
 Qf 69 73 (.call ul [(t 71),(t 72),(ci 16)]),
 Qf 69 74 (.un .not (t 73)),
 Qo 75 (.pick (t 69) QT (t 74))]
def zcsb : List au := [Qo 2 (.mov QF)]
def zcs2 : List au := [Qo 76 (.mov (t 5)),
 Qo 77 (.fieldAddr 0 (t 7)),
 Qo 78 (.load1 (t 77)),
 Qo 79 (.buildSl ft 1 1 [(.string ⟨#[]⟩)] [(0,1,(t 78))]),
 Qo 80 (.append ft 1 16 (t 76) (t 79)),
 Qo 5 (.mov (t 80))]
def zcs3 : List au := [Qo 81 (.bin .add (t 61) (ci 1)),
 Qo 61 (.mov (t 81))]
def sn : TC := (.seq (.ops zcsv) (.clean [1,3,4,5,59,60,61,62] (.seq (.cond (t 62) .skip (.exit 0)) (.clean [1,3,4,5,59,60,61] (.seq (.block 1 [1,3,4,5,59,60,61] (.seq (.ops zcsw) (.clean [1,3,4,5,7,59,60,61] (.seq (.seq (.ops zcsa) (.clean [1,3,4,5,7,59,60,61,75] (.cond (t 75) (.seq (.ops zcsb) (.ret [2])) .skip))) (.clean [1,3,4,5,7,59,60,61] (.ops zcs2)))))) (.clean [1,3,4,5,59,60,61] (.ops zcs3)))))))
def zcs4 : List au := [Qm 1 8 (.mov (.const (Go.Value.slice none 0 0)))]
def zcs5 : List au := [Qo 82 (.fieldAddr 2 (t 1)),
 Qo 83 (.load1 (t 82)),
 Qo 84 (.lenL (t 83)),
 Qo 85 (.mov (ci 0))]
def zcs6 : List au := [Qo 86 (.bin .lss (t 85) (t 84))]
def zcs7 : List au := [Qo 87 (.indexSl 5 (t 83) (t 85)),
 Qo 88 (.loadN 5 (t 87)),
 Qo 10 (.box mw 5 (.const (.agg #[(.int .i64 0),(.int .i64 0),(.int .i64 0),(.string ⟨#[]⟩),(.int .i64 0)]))),
 ⟨⟨none,.store 5 (t 10) (t 88),none⟩,0⟩]
def zcs8 : List au := [Qo 89 (.loadN 5 (t 10)),
 Qo 90 (.load1 (t 3)),
 Qo 91 (.call zb27 [(t 89),(t 90)]),
 Qo 92 (.un .not (t 91))]
def zcs9 : List au := [Qo 2 (.mov QF)]
def zcta : List au := [Qo 93 (.mov (t 8)),
 Qo 94 (.fieldAddr 0 (t 10)),
 Qo 95 (.load1 (t 94)),
 Qo 96 (.fieldAddr 1 (t 10)),
 Qo 97 (.load1 (t 96)),
 Qo 98 (.build [(.int .i64 0),(.int .i64 0)] [(0,1,(t 95)),(1,1,(t 97))]),
 Qo 99 (.buildSl qu 2 1 [(.int .i64 0),(.int .i64 0)] [(0,2,(t 98))]),
 Qo 100 (.append qu 2 16 (t 93) (t 99)),
 Qo 8 (.mov (t 100))]
def zctb : List au := [Qo 101 (.bin .add (t 85) (ci 1)),
 Qo 85 (.mov (t 101))]
def ww : TC := (.seq (.ops zcs6) (.clean [1,3,5,8,83,84,85,86] (.seq (.cond (t 86) .skip (.exit 2)) (.clean [1,3,5,8,83,84,85] (.seq (.block 3 [1,3,5,8,83,84,85] (.seq (.ops zcs7) (.clean [1,3,5,8,10,83,84,85] (.seq (.seq (.ops zcs8) (.clean [1,3,5,8,10,83,84,85,92] (.cond (t 92) (.seq (.ops zcs9) (.ret [2])) .skip))) (.clean [1,3,5,8,10,83,84,85] (.ops zcta)))))) (.clean [1,3,5,8,83,84,85] (.ops zctb)))))))
def zctc : List au := [Qo 102 (.mkFunc (.func iu) [] [(t 3)]),
 Qo 11 (.mov (t 102))]
def zctd : List au := [Qo 103 (.mov (t 5)),
 Qo 104 (.call ib [(t 103)]),
 Qo 105 (.mov (t 104)),
 Qt 105 106 (.mov (t 8)),
 Qt 105 107 (.call jq [(t 106)]),
 Qo 108 (.pick (t 105) (t 107) QF),
 Qo 109 (.mov (t 108)),
 Qt 109 110 (.fieldAddr 3 (t 1)),
 Qt 109 111 (.load1 (t 110)),
 Qt 109 112 (.call mc [(t 111)]),
 Qo 113 (.pick (t 109) (t 112) QF),
 Qo 114 (.mov (t 113)),
 Qt 114 115 (.fieldAddr 3 (t 1)),
 Qt 114 116 (.load1 (t 115)),
 Qt 114 117 (.mov (t 11)),
 Qt 114 118 (.call ee [(t 116),(t 117)]),
 Qt 114 119 (.un .not (t 118)),
 Qo 120 (.pick (t 114) (t 119) QF),
 Qo 2 (.mov (t 120))]
def zcde : TC := (.seq (.ops zcsp) (.clean [1] (.seq (.draw zcsq) (.clean [1,3,4] (.seq (.seq (.ops zcsr) (.clean [1,3,4,57] (.cond (t 57) (.seq (.ops zcss) (.ret [2])) .skip))) (.clean [1,3,4] (.seq (.ops zcst) (.clean [1,3,4,5] (.seq (.seq (.ops zcsu) (.block 0 [1,3,5] (.clean [1,3,4,5,59,60,61] (.loop [1,3,4,5,59,60,61] sn)))) (.clean [1,3,5] (.seq (.ops zcs4) (.clean [1,3,5,8] (.seq (.seq (.ops zcs5) (.block 2 [1,3,5,8] (.clean [1,3,5,8,83,84,85] (.loop [1,3,5,8,83,84,85] ww)))) (.clean [1,3,5,8] (.seq (.ops zctc) (.clean [1,5,8,11] (.seq (.ops zctd) (.ret [2]))))))))))))))))))
def zcc7 : TFn := ⟨121,zcde,[.tmp 2],false⟩
theorem di : type_of% (ai @zcsp.eq_1 (ai @zcsq.eq_1 (ai @zcsr.eq_1 (ai @zcss.eq_1 (ai @zcst.eq_1 (ai @zcsu.eq_1 (ai @zcsv.eq_1 (ai @zcsw.eq_1 (ai @zcsa.eq_1 (ai @zcsb.eq_1 (ai @zcs2.eq_1 (ai @zcs3.eq_1 (ai @zcs4.eq_1 (ai @zcs5.eq_1 (ai @zcs6.eq_1 (ai @zcs7.eq_1 (ai @zcs8.eq_1 (ai @zcs9.eq_1 (ai @zcta.eq_1 (ai @zctb.eq_1 (ai @zctc.eq_1 (ai @zctd.eq_1 (ai @zcde.eq_1 @zcc7.eq_1))))))))))))))))))))))) := ⟨rfl,rfl,rfl,rfl,rfl,rfl,rfl,rfl,rfl,rfl,rfl,rfl,rfl,rfl,rfl,rfl,rfl,rfl,rfl,rfl,rfl,rfl,rfl,rfl⟩
theorem zc5g : u4 Try.prog [(1,⟨[0,1,2,3,4,5,6,7,8],[0,1,3,0,8,24,0,71,255],[],[(7,[4])],.nil⟩)] pi = some (121,zcde.erase,[.tmp 2]) := by kernel_rfl
def zcp8 : List au := [Qo 2 (.mov QF)]
def zcp9 : List au := [Qo 3 (.mov (t 0)),
 Qo 4 (.lenS (t 3)),
 Qo 5 (.bin .geq (t 4) (ci 1)),
 Qo 6 (.mov (t 5)),
 Qt 6 7 (.mov (t 0)),
 Qt 6 8 (.lenS (t 7)),
 Qt 6 9 (.bin .leq (t 8) (ci 16)),
 Qo 10 (.pick (t 6) (t 9) QF),
 Qo 2 (.mov (t 10))]
def zcct : TC := (.seq (.ops zcp8) (.clean [0] (.seq (.ops zcp9) (.ret [2]))))
def zccm : TFn := ⟨11,zcct,[.tmp 2],false⟩
theorem zc2s : type_of% (ai @zcp8.eq_1 (ai @zcp9.eq_1 (ai @zcct.eq_1 @zccm.eq_1))) := ⟨rfl,rfl,rfl,rfl⟩
theorem zc47 : u4 Try.prog [] um = some (11,zcct.erase,[.tmp 2]) := by kernel_rfl
def zcl6 : List au := [Qo 6 (.mov QF)]
def zcl7 : List au := [Qo 7 (.mov (t 0)),
 Qo 8 (.mov (t 1)),
 Qo 9 (.bin .geq (t 7) (t 8)),
 Qo 10 (.mov (t 9)),
 Qt 10 11 (.mov (t 0)),
 Qt 10 12 (.mov (t 2)),
 Qt 10 13 (.bin .leq (t 11) (t 12)),
 Qo 14 (.pick (t 10) (t 13) QF),
 Qo 6 (.mov (t 14))]
def zcbm : TC := (.seq (.ops zcl6) (.clean [0,1,2] (.seq (.ops zcl7) (.ret [6]))))
def zcbg : TFn := ⟨15,zcbm,[.tmp 6],false⟩
theorem zclq : type_of% (ai @zcl6.eq_1 (ai @zcl7.eq_1 (ai @zcbm.eq_1 @zcbg.eq_1))) := ⟨rfl,rfl,rfl,rfl⟩
theorem zbsb : u4 Try.prog [] n5 = some (15,zcbm.erase,[.tmp 6]) := by kernel_rfl
def zcse : List au := [Qo 5 (.box u7 1 (t 2)),
 Qo 6 (.mov QF)]
def zcsf : List au := [Qo 7 (.mov (t 0)),
 Qo 8 (.lenL (t 7)),
 Qo 9 (.mov (t 1)),
 Qo 10 (.bin .eql (t 8) (t 9)),
 Qo 11 (.mov (t 10)),
 Qt 11 12 (.mov (t 0)),
 Qt 11 13 (.mkFunc (.func ir) [] [(t 5)]),
 Qt 11 14 (.call cw [(t 12),(t 13)]),
 Qt 11 15 (.un .not (t 14)),
 Qo 16 (.pick (t 11) (t 15) QF),
 Qo 6 (.mov (t 16))]
def zcdf : TC := (.seq (.ops zcse) (.clean [0,1,5] (.seq (.ops zcsf) (.ret [6]))))
def zcc8 : TFn := ⟨17,zcdf,[.tmp 6],false⟩
theorem zcmv : type_of% (ai @zcse.eq_1 (ai @zcsf.eq_1 (ai @zcdf.eq_1 @zcc8.eq_1))) := ⟨rfl,rfl,rfl,rfl⟩
theorem zc5h : u4 Try.prog [] ul = some (17,zcdf.erase,[.tmp 6]) := by kernel_rfl
def mv : List au := [Qo 4 (.mov QF)]
def ms : List au := [Qo 5 (.mov (t 0)),
 Qo 6 (.mov (t 1)),
 Qo 7 (.call dl [(t 5),(t 6)]),
 Qo 8 (.bin .geq (t 7) (ci 0)),
 Qo 4 (.mov (t 8))]
def im : TC := (.seq (.ops mv) (.clean [0,1] (.seq (.ops ms) (.ret [4]))))
def iq : TFn := ⟨9,im,[.tmp 4],false⟩
theorem yq : type_of% (ai @mv.eq_1 (ai @ms.eq_1 (ai @im.eq_1 @iq.eq_1))) := ⟨rfl,rfl,rfl,rfl⟩
theorem yo : u4 Try.prog [] cw = some (9,im.erase,[.tmp 4]) := by kernel_rfl
def ox : List au := [Qo 4 (.mov (ci 0))]
def ov : List au := [Qo 6 (.mov (t 0)),
 Qo 7 (.lenL (t 6)),
 Qo 8 (.mov (ci 0))]
def ou : List au := [Qo 9 (.bin .lss (t 8) (t 7))]
def ot : List au := [Qo 10 (.mov (t 8)),
 Qo 5 (.mov (t 10))]
def oq : List au := [Qo 11 (.mov (t 1)),
 Qo 12 (.mov (t 0)),
 Qo 13 (.mov (t 5)),
 Qo 14 (.indexSl 1 (t 12) (t 13)),
 Qo 15 (.load1 (t 14)),
 Qo 16 (.callv (t 11) [(t 15)])]
def oo : List au := [Qo 17 (.mov (t 5)),
 Qo 4 (.mov (t 17))]
def om : List au := [Qo 18 (.bin .add (t 8) (ci 1)),
 Qo 8 (.mov (t 18))]
def d7 : TC := (.seq (.ops ou) (.clean [0,1,7,8,9] (.seq (.cond (t 9) .skip (.exit 0)) (.clean [0,1,7,8] (.seq (.block 1 [0,1,7,8] (.seq (.ops ot) (.clean [0,1,5,7,8] (.seq (.ops oq) (.clean [0,1,5,7,8,16] (.cond (t 16) (.seq (.ops oo) (.ret [4])) .skip)))))) (.clean [0,1,7,8] (.ops om)))))))
def ol : List au := [Qo 4 (.mov (ci (-1)))]
def jx : TC := (.seq (.ops ox) (.clean [0,1] (.seq (.seq (.ops ov) (.block 0 [] (.clean [0,1,7,8] (.loop [0,1,7,8] d7)))) (.clean [] (.seq (.ops ol) (.ret [4]))))))
def ka : TFn := ⟨19,jx,[.tmp 4],false⟩
theorem dj : type_of% (ai @ox.eq_1 (ai @ov.eq_1 (ai @ou.eq_1 (ai @ot.eq_1 (ai @oq.eq_1 (ai @oo.eq_1 (ai @om.eq_1 (ai @ol.eq_1 (ai @jx.eq_1 @ka.eq_1))))))))) := ⟨rfl,rfl,rfl,rfl,rfl,rfl,rfl,rfl,rfl,rfl⟩
theorem zc9h : u4 Try.prog [] dl = some (19,jx.erase,[.tmp 4]) := by kernel_rfl
def zctx : List au := [Qo 3 (.mov QF)]
def zcty : List au := [Qo 4 (.mov (t 0)),
 Qo 5 (.lenS (t 4)),
 Qo 6 (.load1 (t 1)),
 Qo 7 (.bin .neq (t 5) (t 6)),
 Qo 3 (.mov (t 7))]
def zcd2 : TC := (.seq (.ops zctx) (.clean [0,1] (.seq (.ops zcty) (.ret [3]))))
def zcdy : TFn := ⟨8,zcd2,[.tmp 3],false⟩
theorem zdbe : type_of% (ai @zctx.eq_1 (ai @zcty.eq_1 (ai @zcd2.eq_1 @zcdy.eq_1))) := ⟨rfl,rfl,rfl,rfl⟩
theorem zdbj : u4 Try.prog [] ir = some (8,zcd2.erase,[.tmp 3]) := by kernel_rfl
def zcnq : List au := [Qo 2 (.box mw 5 (t 0)),
 Qo 4 (.mov QF)]
def zcnr : List au := [Qo 5 (.fieldAddr 0 (t 2)),
 Qo 6 (.load1 (t 5)),
 Qo 7 (.mov (t 1)),
 Qo 8 (.bin .sub (t 7) (ci 1)),
 Qo 9 (.call n5 [(t 6),(ci 0),(t 8)]),
 Qo 10 (.mov (t 9)),
 Qt 10 11 (.fieldAddr 1 (t 2)),
 Qt 10 12 (.load1 (t 11)),
 Qt 10 13 (.mov (t 1)),
 Qt 10 14 (.bin .sub (t 13) (ci 1)),
 Qt 10 15 (.call n5 [(t 12),(ci 0),(t 14)]),
 Qo 16 (.pick (t 10) (t 15) QF),
 Qo 17 (.mov (t 16)),
 Qt 17 18 (.fieldAddr 0 (t 2)),
 Qt 17 19 (.load1 (t 18)),
 Qt 17 20 (.fieldAddr 1 (t 2)),
 Qt 17 21 (.load1 (t 20)),
 Qt 17 22 (.bin .neq (t 19) (t 21)),
 Qo 23 (.pick (t 17) (t 22) QF),
 Qo 24 (.mov (t 23)),
 Qt 24 25 (.fieldAddr 2 (t 2)),
 Qt 24 26 (.load1 (t 25)),
 Qt 24 27 (.call n5 [(t 26),(ci 0),(ci 3)]),
 Qo 28 (.pick (t 24) (t 27) QF),
 Qo 29 (.mov (t 28)),
 Qt 29 30 (.fieldAddr 3 (t 2)),
 Qt 29 31 (.load1 (t 30)),
 Qt 29 32 (.call um [(t 31)]),
 Qo 33 (.pick (t 29) (t 32) QF),
 Qo 34 (.mov (t 33)),
 Qt 34 35 (.fieldAddr 4 (t 2)),
 Qt 34 36 (.load1 (t 35)),
 Qt 34 37 (.call n5 [(t 36),(ci 1),(ci 1125899906842624)]),
 Qo 38 (.pick (t 34) (t 37) QF),
 Qo 4 (.mov (t 38))]
def zcb6 : TC := (.seq (.ops zcnq) (.clean [1,2] (.seq (.ops zcnr) (.ret [4]))))
def zcb1 : TFn := ⟨39,zcb6,[.tmp 4],false⟩
theorem zb29 : type_of% (ai @zcnq.eq_1 (ai @zcnr.eq_1 (ai @zcb6.eq_1 @zcb1.eq_1))) := ⟨rfl,rfl,rfl,rfl⟩
theorem zbli : u4 Try.prog [] zb27 = some (39,zcb6.erase,[.tmp 4]) := by kernel_rfl
def zctv : List au := [Qo 3 (.mov QF)]
def zctw : List au := [Qo 4 (.mov (t 0)),
 Qo 5 (.load1 (t 1)),
 Qo 6 (.bin .sub (t 5) (ci 1)),
 Qo 7 (.call n5 [(t 4),(ci 0),(t 6)]),
 Qo 8 (.un .not (t 7)),
 Qo 3 (.mov (t 8))]
def zcd1 : TC := (.seq (.ops zctv) (.clean [0,1] (.seq (.ops zctw) (.ret [3]))))
def zcdx : TFn := ⟨9,zcd1,[.tmp 3],false⟩
theorem zdbd : type_of% (ai @zctv.eq_1 (ai @zctw.eq_1 (ai @zcd1.eq_1 @zcdx.eq_1))) := ⟨rfl,rfl,rfl,rfl⟩
theorem zdbi : u4 Try.prog [] iu = some (9,zcd1.erase,[.tmp 3]) := by kernel_rfl
def vu : List au := [Qo 2 (.mov QF)]
def vt : List au := [Qo 6 .mkMap,
 Qo 3 (.mov (t 6))]
def vr : List au := [Qo 7 (.mov (t 0)),
 Qo 8 (.lenL (t 7)),
 Qo 9 (.mov (ci 0))]
def vq : List au := [Qo 10 (.bin .lss (t 9) (t 8))]
def vp : List au := [Qo 11 (.indexSl 1 (t 7) (t 9)),
 Qo 12 (.load1 (t 11)),
 Qo 5 (.mov (t 12))]
def vo : List au := [Qo 13 (.mov (t 3)),
 Qo 14 (.mov (t 5)),
 Qo 15 (.mapGet ft (t 13) (t 14))]
def vn : List au := [Qo 2 (.mov QF)]
def vm : List au := [Qo 16 (.mov (t 3)),
 Qo 17 (.mov (t 5)),
 ⟨⟨none,.mapSet ft (t 16) (t 17) QT,none⟩,0⟩]
def vl : List au := [Qo 18 (.bin .add (t 9) (ci 1)),
 Qo 9 (.mov (t 18))]
def zcu7 : TC := (.seq (.ops vq) (.clean [3,7,8,9,10] (.seq (.cond (t 10) .skip (.exit 0)) (.clean [3,7,8,9] (.seq (.block 1 [3,7,8,9] (.seq (.ops vp) (.clean [3,5,7,8,9] (.seq (.seq (.ops vo) (.clean [3,5,7,8,9,15] (.cond (t 15) (.seq (.ops vn) (.ret [2])) .skip))) (.clean [3,5,7,8,9] (.ops vm)))))) (.clean [3,7,8,9] (.ops vl)))))))
def vk : List au := [Qo 2 (.mov QT)]
def rr : TC := (.seq (.ops vu) (.clean [0] (.seq (.ops vt) (.clean [0,3] (.seq (.seq (.ops vr) (.block 0 [] (.clean [3,7,8,9] (.loop [3,7,8,9] zcu7)))) (.clean [] (.seq (.ops vk) (.ret [2]))))))))
theorem zc66 : u4 Try.prog [] ib = some (19,rr.erase,[.tmp 2]) := by kernel_rfl
def yi : List au := [Qo 2 (.mov QF)]
def yh : List au := [Qo 6 .mkMap,
 Qo 3 (.mov (t 6))]
def yg : List au := [Qo 7 (.mov (t 0)),
 Qo 8 (.lenL (t 7)),
 Qo 9 (.mov (ci 0))]
def yf : List au := [Qo 10 (.bin .lss (t 9) (t 8))]
def ye : List au := [Qo 11 (.indexSl 2 (t 7) (t 9)),
 Qo 12 (.loadN 2 (t 11)),
 Qo 5 (.box qu 2 (.const (.agg #[(.int .i64 0),(.int .i64 0)]))),
 ⟨⟨none,.store 2 (t 5) (t 12),none⟩,0⟩]
def yd : List au := [Qo 13 (.mov (t 3)),
 Qo 14 (.loadN 2 (t 5)),
 Qo 15 (.mapGet qu (t 13) (t 14))]
def yc : List au := [Qo 2 (.mov QF)]
def yb : List au := [Qo 16 (.mov (t 3)),
 Qo 17 (.loadN 2 (t 5)),
 ⟨⟨none,.mapSet qu (t 16) (t 17) QT,none⟩,0⟩]
def ya : List au := [Qo 18 (.bin .add (t 9) (ci 1)),
 Qo 9 (.mov (t 18))]
def zcuy : TC := (.seq (.ops yf) (.clean [3,7,8,9,10] (.seq (.cond (t 10) .skip (.exit 0)) (.clean [3,7,8,9] (.seq (.block 1 [3,7,8,9] (.seq (.ops ye) (.clean [3,5,7,8,9] (.seq (.seq (.ops yd) (.clean [3,5,7,8,9,15] (.cond (t 15) (.seq (.ops yc) (.ret [2])) .skip))) (.clean [3,5,7,8,9] (.ops yb)))))) (.clean [3,7,8,9] (.ops ya)))))))
def x8 : List au := [Qo 2 (.mov QT)]
def sw : TC := (.seq (.ops yi) (.clean [0] (.seq (.ops yh) (.clean [0,3] (.seq (.seq (.ops yg) (.block 0 [] (.clean [3,7,8,9] (.loop [3,7,8,9] zcuy)))) (.clean [] (.seq (.ops x8) (.ret [2]))))))))
theorem zc6m : u4 Try.prog [] jq = some (19,sw.erase,[.tmp 2]) := by kernel_rfl
def zcwr : List au := [Qo 2 (.mov QF)]
def zcws : List au := [Qo 6 .mkMap,
 Qo 3 (.mov (t 6))]
def zcwt : List au := [Qo 7 (.mov (t 0)),
 Qo 8 (.lenL (t 7)),
 Qo 9 (.mov (ci 0))]
def zcwu : List au := [Qo 10 (.bin .lss (t 9) (t 8))]
def zcwv : List au := [Qo 11 (.indexSl 1 (t 7) (t 9)),
 Qo 12 (.load1 (t 11)),
 Qo 5 (.mov (t 12))]
def zcww : List au := [Qo 13 (.mov (t 3)),
 Qo 14 (.mov (t 5)),
 Qo 15 (.mapGet u7 (t 13) (t 14))]
def zcwx : List au := [Qo 2 (.mov QF)]
def zcwy : List au := [Qo 16 (.mov (t 3)),
 Qo 17 (.mov (t 5)),
 ⟨⟨none,.mapSet u7 (t 16) (t 17) QT,none⟩,0⟩]
def zcwz : List au := [Qo 18 (.bin .add (t 9) (ci 1)),
 Qo 9 (.mov (t 18))]
def zct7 : TC := (.seq (.ops zcwu) (.clean [3,7,8,9,10] (.seq (.cond (t 10) .skip (.exit 0)) (.clean [3,7,8,9] (.seq (.block 1 [3,7,8,9] (.seq (.ops zcwv) (.clean [3,5,7,8,9] (.seq (.seq (.ops zcww) (.clean [3,5,7,8,9,15] (.cond (t 15) (.seq (.ops zcwx) (.ret [2])) .skip))) (.clean [3,5,7,8,9] (.ops zcwy)))))) (.clean [3,7,8,9] (.ops zcwz)))))))
def zcw0 : List au := [Qo 2 (.mov QT)]
def xi : TC := (.seq (.ops zcwr) (.clean [0] (.seq (.ops zcws) (.clean [0,3] (.seq (.seq (.ops zcwt) (.block 0 [] (.clean [3,7,8,9] (.loop [3,7,8,9] zct7)))) (.clean [] (.seq (.ops zcw0) (.ret [2]))))))))
theorem zdbt : u4 Try.prog [] mc = some (19,xi.erase,[.tmp 2]) := by kernel_rfl
def qr : List au := [Qo 4 (.mov QF)]
def qp : List au := [Qo 5 (.mov (t 0)),
 Qo 6 (.mov (t 1)),
 Qo 7 (.call fx [(t 5),(t 6)]),
 Qo 8 (.bin .geq (t 7) (ci 0)),
 Qo 4 (.mov (t 8))]
def l0 : TC := (.seq (.ops qr) (.clean [0,1] (.seq (.ops qp) (.ret [4]))))
def l9 : TFn := ⟨9,l0,[.tmp 4],false⟩
theorem zc9b : type_of% (ai @qr.eq_1 (ai @qp.eq_1 (ai @l0.eq_1 @l9.eq_1))) := ⟨rfl,rfl,rfl,rfl⟩
theorem zc85 : u4 Try.prog [] ee = some (9,l0.erase,[.tmp 4]) := by kernel_rfl
def tn : List au := [Qo 4 (.mov (ci 0))]
def tm : List au := [Qo 6 (.mov (t 0)),
 Qo 7 (.lenL (t 6)),
 Qo 8 (.mov (ci 0))]
def tj : List au := [Qo 9 (.bin .lss (t 8) (t 7))]
def ti : List au := [Qo 10 (.mov (t 8)),
 Qo 5 (.mov (t 10))]
def th : List au := [Qo 11 (.mov (t 1)),
 Qo 12 (.mov (t 0)),
 Qo 13 (.mov (t 5)),
 Qo 14 (.indexSl 1 (t 12) (t 13)),
 Qo 15 (.load1 (t 14)),
 Qo 16 (.callv (t 11) [(t 15)])]
def tf : List au := [Qo 17 (.mov (t 5)),
 Qo 4 (.mov (t 17))]
def te : List au := [Qo 18 (.bin .add (t 8) (ci 1)),
 Qo 8 (.mov (t 18))]
def gt : TC := (.seq (.ops tj) (.clean [0,1,7,8,9] (.seq (.cond (t 9) .skip (.exit 0)) (.clean [0,1,7,8] (.seq (.block 1 [0,1,7,8] (.seq (.ops ti) (.clean [0,1,5,7,8] (.seq (.ops th) (.clean [0,1,5,7,8,16] (.cond (t 16) (.seq (.ops tf) (.ret [4])) .skip)))))) (.clean [0,1,7,8] (.ops te)))))))
def td : List au := [Qo 4 (.mov (ci (-1)))]
def nv : TC := (.seq (.ops tn) (.clean [0,1] (.seq (.seq (.ops tm) (.block 0 [] (.clean [0,1,7,8] (.loop [0,1,7,8] gt)))) (.clean [] (.seq (.ops td) (.ret [4]))))))
def n4 : TFn := ⟨19,nv,[.tmp 4],false⟩
theorem fv : type_of% (ai @tn.eq_1 (ai @tm.eq_1 (ai @tj.eq_1 (ai @ti.eq_1 (ai @th.eq_1 (ai @tf.eq_1 (ai @te.eq_1 (ai @td.eq_1 (ai @nv.eq_1 @n4.eq_1))))))))) := ⟨rfl,rfl,rfl,rfl,rfl,rfl,rfl,rfl,rfl,rfl⟩
theorem zc8v : u4 Try.prog [] fx = some (19,nv.erase,[.tmp 4]) := by kernel_rfl
def zcqg : List au := [Qo 2 (.mov (.const (Go.Value.pointer none)))]
def zcqh : List au := [Qo 3 (.mov (t 0)),
 Qo 4 (.build [(.string ⟨#[]⟩),(.bool false)] [(0,1,(t 3))]),
 Qo 5 (.box ah 2 (t 4)),
 Qo 2 (.mov (t 5))]
def zccp : TC := (.seq (.ops zcqg) (.clean [0] (.seq (.ops zcqh) (.ret [2]))))
def zcci : TFn := ⟨6,zccp,[.tmp 2],false⟩
theorem zc37 : type_of% (ai @zcqg.eq_1 (ai @zcqh.eq_1 (ai @zccp.eq_1 @zcci.eq_1))) := ⟨rfl,rfl,rfl,rfl⟩
theorem zc43 : u4 Try.prog [] zb3l = some (6,zccp.erase,[.tmp 2]) := by kernel_rfl
def zcte : List au := [Qo 1 (.mov (.const (Go.Value.string ⟨#[]⟩)))]
def zctf : List au := [Qo 2 (.load1 (t 0)),
 Qo 3 (.call li [(t 2),(ci 1048576)]),
 Qo 1 (.mov (t 3))]
def zcdm : TC := (.seq (.ops zcte) (.clean [0] (.seq (.ops zctf) (.ret [1]))))
def zcdr : TFn := ⟨4,zcdm,[.tmp 1],false⟩
theorem zdac : type_of% (ai @zcte.eq_1 (ai @zctf.eq_1 (ai @zcdm.eq_1 @zcdr.eq_1))) := ⟨rfl,rfl,rfl,rfl⟩
theorem zdag : u4 Try.prog [] dt = some (4,zcdm.erase,[.tmp 1]) := by kernel_rfl
def zcwi : List au := [Qo 4 (.mov (.const (Go.Value.string ⟨#[]⟩)))]
def zcwj : List au := [Qo 6 (.mov (t 0)),
 Qo 7 (.mov (t 1)),
 Qo 8 (.call d6 [(t 6),(t 7)]),
 Qo 5 (.mov (t 8))]
def zcwk : List au := [Qo 9 (.mov (t 0)),
 Qo 10 (.mov (t 5)),
 Qo 11 (.call jf [(t 9),(t 10)]),
 Qo 4 (.mov (t 11))]
def vg : TC := (.seq (.ops zcwi) (.clean [0,1] (.seq (.ops zcwj) (.clean [0,5] (.seq (.ops zcwk) (.ret [4]))))))
def wa : TFn := ⟨12,vg,[.tmp 4],false⟩
theorem zc68 : type_of% (ai @zcwi.eq_1 (ai @zcwj.eq_1 (ai @zcwk.eq_1 (ai @vg.eq_1 @wa.eq_1)))) := ⟨rfl,rfl,rfl,rfl,rfl⟩
theorem zc7b : u4 Try.prog [] li = some (12,vg.erase,[.tmp 4]) := by kernel_rfl
def zcw1 : List au := [Qo 4 (.mov (ci 0))]
def zcw2 : List au := [Qo 5 (.mov (t 0)),
 Qo 6 (.mov (t 0)),
 Qo 7 (.mkFunc (.func bp) [(t 6)] []),
 Qo 8 (.mov (t 1)),
 Qo 9 (.call nu [(t 5),(t 7),(t 8)]),
 Qo 4 (.mov (t 9))]
def t4 : TC := (.seq (.ops zcw1) (.clean [0,1] (.seq (.ops zcw2) (.ret [4]))))
def uc : TFn := ⟨10,t4,[.tmp 4],false⟩
theorem zc7r : type_of% (ai @zcw1.eq_1 (ai @zcw2.eq_1 (ai @t4.eq_1 @uc.eq_1))) := ⟨rfl,rfl,rfl,rfl⟩
theorem zc7s : u4 Try.prog [] d6 = some (10,t4.erase,[.tmp 4]) := by kernel_rfl
def zcva : List au := [Qo 2 (.mov (ci 0))]
def zcvb : List au := [Qo 3 (.mov (ci 0))]
def zcvc : List au := [Qo 6 (.mov (t 0)),
 Qo 7 (.call jf [(t 6),(ci 8)]),
 Qo 8 (.toBytes fj (t 7)),
 Qo 9 (.lenL (t 8)),
 Qo 10 (.mov (ci 0))]
def zcvd : List au := [Qo 11 (.bin .lss (t 10) (t 9))]
def zcve : List au := [Qo 12 (.indexSl 1 (t 8) (t 10)),
 Qo 13 (.load1 (t 12)),
 Qo 5 (.mov (t 13))]
def zcvf : List au := [Qo 14 (.mov (t 3)),
 Qo 15 (.bin .shl (t 14) (.const (Go.Value.int Go.IntKind.u64 8))),
 Qo 16 (.mov (t 5)),
 Qo 17 (.conv .i64 (t 16)),
 Qo 18 (.bin .or (t 15) (t 17)),
 Qo 3 (.mov (t 18))]
def zcvg : List au := [Qo 19 (.bin .add (t 10) (ci 1)),
 Qo 10 (.mov (t 19))]
def qf : TC := (.seq (.ops zcvd) (.clean [3,8,9,10,11] (.seq (.cond (t 11) .skip (.exit 0)) (.clean [3,8,9,10] (.seq (.block 1 [3,8,9,10] (.seq (.ops zcve) (.clean [3,5,8,9,10] (.ops zcvf)))) (.clean [3,8,9,10] (.ops zcvg)))))))
def zcvh : List au := [Qo 20 (.mov (t 3)),
 Qo 2 (.mov (t 20))]
def xt : TC := (.seq (.ops zcva) (.clean [0] (.seq (.ops zcvb) (.clean [0,3] (.seq (.seq (.ops zcvc) (.block 0 [3] (.clean [3,8,9,10] (.loop [3,8,9,10] qf)))) (.clean [3] (.seq (.ops zcvh) (.ret [2]))))))))
def ym : TFn := ⟨21,xt,[.tmp 2],false⟩
theorem tx : type_of% (ai @zcva.eq_1 (ai @zcvb.eq_1 (ai @zcvc.eq_1 (ai @zcvd.eq_1 (ai @zcve.eq_1 (ai @zcvf.eq_1 (ai @zcvg.eq_1 (ai @zcvh.eq_1 (ai @xt.eq_1 @ym.eq_1))))))))) := ⟨rfl,rfl,rfl,rfl,rfl,rfl,rfl,rfl,rfl,rfl⟩
theorem zc6v : u4 Try.prog [] bp = some (21,xt.erase,[.tmp 2]) := by kernel_rfl
def zcwm : List au := [Qo 4 (.mov (.const (Go.Value.string ⟨#[]⟩)))]
def zcwn : List au := [Qo 6 (.mov (t 0)),
 Qo 7 (.nilchk (t 6)),
 Qo 8 (.fieldAddr 1 (t 7)),
 Qo 9 (.load1 (t 8)),
 Qo 10 (.mov (t 9)),
 Qf 10 11 (.mov (t 1)),
 Qf 10 12 (.bin .lss (t 11) (ci 0)),
 Qo 13 (.pick (t 10) QT (t 12)),
 Qo 14 (.mov (t 13)),
 Qf 14 15 (.mov (t 1)),
 Qf 14 16 (.mov (t 0)),
 Qf 14 17 (.nilchk (t 16)),
 Qf 14 18 (.fieldAddr 0 (t 17)),
 Qf 14 19 (.load1 (t 18)),
 Qf 14 20 (.lenS (t 19)),
 Qf 14 21 (.bin .gtr (t 15) (t 20)),
 Qo 22 (.pick (t 14) QT (t 21))]
def zcwo : List au := [Qo 23 (.mov (t 0)),
 Qo 24 (.call jg [(t 23)])]
def zcwp : List au := [Qo 4 (.mov (.const (Go.Value.string ⟨#[]⟩)))]
def zcwq : List au := [Qo 25 (.mov (t 0)),
 Qo 26 (.nilchk (t 25)),
 Qo 27 (.fieldAddr 0 (t 26)),
 Qo 28 (.load1 (t 27)),
 Qo 29 (.mov (t 1)),
 Qo 30 (.sliceStr (t 28) none (some (t 29))),
 Qo 5 (.mov (t 30))]
def zcvw : List au := [Qo 31 (.mov (t 0)),
 Qo 32 (.mov (t 0)),
 Qo 33 (.nilchk (t 32)),
 Qo 34 (.fieldAddr 0 (t 33)),
 Qo 35 (.load1 (t 34)),
 Qo 36 (.mov (t 1)),
 Qo 37 (.sliceStr (t 35) (some (t 36)) none),
 Qo 38 (.nilchk (t 31)),
 Qo 39 (.fieldAddr 0 (t 38)),
 ⟨⟨none,.store 1 (t 39) (t 37),none⟩,0⟩]
def zcvx : List au := [Qo 40 (.mov (t 5)),
 Qo 4 (.mov (t 40))]
def ve : TC := (.seq (.ops zcwm) (.clean [0,1] (.seq (.seq (.ops zcwn) (.clean [0,1,22] (.cond (t 22) (.seq (.ops zcwo) (.clean [] (.seq (.ops zcwp) (.ret [4])))) .skip))) (.clean [0,1] (.seq (.ops zcwq) (.clean [0,1,5] (.seq (.ops zcvw) (.clean [5] (.seq (.ops zcvx) (.ret [4]))))))))))
def vy : TFn := ⟨41,ve,[.tmp 4],false⟩
theorem r9 : type_of% (ai @zcwm.eq_1 (ai @zcwn.eq_1 (ai @zcwo.eq_1 (ai @zcwp.eq_1 (ai @zcwq.eq_1 (ai @zcvw.eq_1 (ai @zcvx.eq_1 (ai @ve.eq_1 @vy.eq_1)))))))) := ⟨rfl,rfl,rfl,rfl,rfl,rfl,rfl,rfl,rfl⟩
theorem zc7d : u4 Try.prog [] jf = some (41,ve.erase,[.tmp 4]) := by kernel_rfl
def zcwl : List au := [Qo 2 (.mov (t 0)),
 Qo 3 (.mov (t 0)),
 Qo 4 (.nilchk (t 2)),
 Qo 5 (.fieldAddr 0 (t 4)),
 ⟨⟨none,.store 1 (t 5) (.const (Go.Value.string ⟨#[]⟩)),none⟩,0⟩,
 Qo 6 (.nilchk (t 3)),
 Qo 7 (.fieldAddr 1 (t 6)),
 ⟨⟨none,.store 1 (t 7) QT,none⟩,0⟩]
def vf : TC := (.ops zcwl)
def vz : TFn := ⟨8,vf,[],false⟩
theorem zc69 : type_of% (ai @zcwl.eq_1 (ai @vf.eq_1 @vz.eq_1)) := ⟨rfl,rfl,rfl⟩
theorem zc7c : u4 Try.prog [] jg = some (8,vf.erase,[]) := by kernel_rfl
def zcuz : List au := [Qo 6 (.mov (ci 0))]
def zcu0 : List au := [Qo 8 (.mov (t 1)),
 Qo 9 (.callv (t 8) []),
 Qo 7 (.mov (t 9))]
def zcu1 : List au := [Qo 10 (.mov (t 7)),
 Qo 11 (.bin .lss (t 10) (ci 0)),
 Qo 12 (.mov (t 11)),
 Qf 12 13 (.mov (t 7)),
 Qf 12 14 (.mov (t 2)),
 Qf 12 15 (.bin .gtr (t 13) (t 14)),
 Qo 16 (.pick (t 12) QT (t 15))]
def zcu2 : List au := [Qo 17 (.mov (t 0)),
 Qo 18 (.call jg [(t 17)])]
def zcu3 : List au := [Qo 6 (.mov (ci 0))]
def zcu4 : List au := [Qo 19 (.mov (t 7)),
 Qo 6 (.mov (t 19))]
def zcec : TC := (.seq (.ops zcuz) (.clean [0,1,2] (.seq (.ops zcu0) (.clean [0,2,7] (.seq (.seq (.ops zcu1) (.clean [0,7,16] (.cond (t 16) (.seq (.ops zcu2) (.clean [] (.seq (.ops zcu3) (.ret [6])))) .skip))) (.clean [7] (.seq (.ops zcu4) (.ret [6]))))))))
def zced : TFn := ⟨20,zcec,[.tmp 6],false⟩
theorem zcd8 : type_of% (ai @zcuz.eq_1 (ai @zcu0.eq_1 (ai @zcu1.eq_1 (ai @zcu2.eq_1 (ai @zcu3.eq_1 (ai @zcu4.eq_1 (ai @zcec.eq_1 @zced.eq_1))))))) := ⟨rfl,rfl,rfl,rfl,rfl,rfl,rfl,rfl⟩
theorem zc6l : u4 Try.prog [] nu = some (20,zcec.erase,[.tmp 6]) := by kernel_rfl
def zk : List au := [Qo 6 (.mov (.const (Go.Value.slice none 0 0)))]
def zj : List au := [Qm 1 7 (.mov (.const (Go.Value.slice none 0 0)))]
def zi : List au := [Qo 8 (.mov (t 0)),
 Qo 9 (.mov (t 1)),
 Qo 10 (.call d6 [(t 8),(t 9)]),
 Qo 11 (.mov (ci 0))]
def zh : List au := [Qo 12 (.bin .lss (t 11) (t 10))]
def zg : List au := [Qo 13 (.mov (t 7)),
 Qo 14 (.mov (t 2)),
 Qo 15 (.callv (t 14) []),
 Qo 16 (.buildSl dq 2 1 [(.string ⟨#[]⟩),(.slice none 0 0)] [(0,2,(t 15))]),
 Qo 17 (.append dq 2 40 (t 13) (t 16)),
 Qo 7 (.mov (t 17))]
def zf : List au := [Qo 18 (.bin .add (t 11) (ci 1)),
 Qo 11 (.mov (t 18))]
def mj : TC := (.seq (.ops zh) (.clean [2,7,10,11,12] (.seq (.cond (t 12) .skip (.exit 0)) (.clean [2,7,10,11] (.seq (.block 1 [2,7,10,11] (.ops zg)) (.clean [2,7,10,11] (.ops zf)))))))
def ze : List au := [Qo 19 (.mov (t 7)),
 Qo 6 (.mov (t 19))]
def ru : TC := (.seq (.ops zk) (.clean [0,1,2] (.seq (.ops zj) (.clean [0,1,2,7] (.seq (.seq (.ops zi) (.block 0 [7] (.clean [2,7,10,11] (.loop [2,7,10,11] mj)))) (.clean [7] (.seq (.ops ze) (.ret [6]))))))))
def rx : TFn := ⟨20,ru,[.tmp 6],false⟩
theorem n8 : type_of% (ai @zk.eq_1 (ai @zj.eq_1 (ai @zi.eq_1 (ai @zh.eq_1 (ai @zg.eq_1 (ai @zf.eq_1 (ai @ze.eq_1 (ai @ru.eq_1 @rx.eq_1)))))))) := ⟨rfl,rfl,rfl,rfl,rfl,rfl,rfl,rfl,rfl⟩
theorem zc8a : u4 Try.prog [] ik = some (20,ru.erase,[.tmp 6]) := by kernel_rfl
def zctg : List au := [Qo 2 (.box dq 2 (.const (.agg #[(.string ⟨#[]⟩),(.slice none 0 0)])))]
def zcth : List (au × List Nat) := [(Qo 3 (.load1 (t 0)),[]),
 (Qo 5 (.load1 (t 1)),[]),
 (Qo 6 (.load1 (t 0)),[]),
 (Qm 7 4 (.callvW (t 3) []),[1,2]),
 (Qo 7 (.callW je [(t 5),(ci 3),(t 6)]),[]),
 (Qo 8 (.build [(.string ⟨#[]⟩),(.slice none 0 0)] [(0,1,(t 4)),(1,1,(t 7))]),[]),
 (⟨⟨none,.store 2 (t 2) (t 8),none⟩,0⟩,[])]
def zcdn : TC := (.seq (.ops zctg) (.clean [0,1,2] (.seq (.draw zcth) (.ret [2]))))
def zcds : TFn := ⟨9,zcdn,[.cellN 2 2],false⟩
theorem zdad : type_of% (ai @zctg.eq_1 (ai @zcth.eq_1 (ai @zcdn.eq_1 @zcds.eq_1))) := ⟨rfl,rfl,rfl,rfl⟩
theorem zdah : u4 Try.prog [(1,⟨[0,2,3,1,4,5,6],[0,1,0,0,15,31,63],[1,4],[(1,[2,3])],.nil⟩)] nh = some (9,zcdn.erase,[.cellN 2 2]) := by kernel_rfl
def zcvy : List au := [Qo 6 (.mov (.const (Go.Value.slice none 0 0)))]
def zcvz : List au := [Qm 1 7 (.mov (.const (Go.Value.slice none 0 0)))]
def zcv0 : List au := [Qo 8 (.mov (t 0)),
 Qo 9 (.mov (t 1)),
 Qo 10 (.call d6 [(t 8),(t 9)]),
 Qo 11 (.mov (ci 0))]
def zcv1 : List au := [Qo 12 (.bin .lss (t 11) (t 10))]
def zcv2 : List au := [Qo 13 (.mov (t 7)),
 Qo 14 (.mov (t 2)),
 Qo 15 (.callv (t 14) []),
 Qo 16 (.buildSl ft 1 1 [(.string ⟨#[]⟩)] [(0,1,(t 15))]),
 Qo 17 (.append ft 1 16 (t 13) (t 16)),
 Qo 7 (.mov (t 17))]
def zcv3 : List au := [Qo 18 (.bin .add (t 11) (ci 1)),
 Qo 11 (.mov (t 18))]
def pd : TC := (.seq (.ops zcv1) (.clean [2,7,10,11,12] (.seq (.cond (t 12) .skip (.exit 0)) (.clean [2,7,10,11] (.seq (.block 1 [2,7,10,11] (.ops zcv2)) (.clean [2,7,10,11] (.ops zcv3)))))))
def zcv4 : List au := [Qo 19 (.mov (t 7)),
 Qo 6 (.mov (t 19))]
def vd : TC := (.seq (.ops zcvy) (.clean [0,1,2] (.seq (.ops zcvz) (.clean [0,1,2,7] (.seq (.seq (.ops zcv0) (.block 0 [7] (.clean [2,7,10,11] (.loop [2,7,10,11] pd)))) (.clean [7] (.seq (.ops zcv4) (.ret [6]))))))))
def vx : TFn := ⟨20,vd,[.tmp 6],false⟩
theorem r8 : type_of% (ai @zcvy.eq_1 (ai @zcvz.eq_1 (ai @zcv0.eq_1 (ai @zcv1.eq_1 (ai @zcv2.eq_1 (ai @zcv3.eq_1 (ai @zcv4.eq_1 (ai @vd.eq_1 @vx.eq_1)))))))) := ⟨rfl,rfl,rfl,rfl,rfl,rfl,rfl,rfl,rfl⟩
theorem zc7e : u4 Try.prog [] je = some (20,vd.erase,[.tmp 6]) := by kernel_rfl
def zcw3 : List au := [Qo 6 (.mov (.const (Go.Value.slice none 0 0)))]
def zcw4 : List au := [Qm 1 7 (.mov (.const (Go.Value.slice none 0 0)))]
def zcw5 : List au := [Qo 8 (.mov (t 0)),
 Qo 9 (.mov (t 1)),
 Qo 10 (.call d6 [(t 8),(t 9)]),
 Qo 11 (.mov (ci 0))]
def zcw6 : List au := [Qo 12 (.bin .lss (t 11) (t 10))]
def zcw7 : List au := [Qo 13 (.mov (t 7)),
 Qo 14 (.mov (t 2)),
 Qo 15 (.callv (t 14) []),
 Qo 16 (.buildSl mw 5 1 [(.int .i64 0),(.int .i64 0),(.int .i64 0),(.string ⟨#[]⟩),(.int .i64 0)] [(0,5,(t 15))]),
 Qo 17 (.append mw 5 48 (t 13) (t 16)),
 Qo 7 (.mov (t 17))]
def zcw8 : List au := [Qo 18 (.bin .add (t 11) (ci 1)),
 Qo 11 (.mov (t 18))]
def n6 : TC := (.seq (.ops zcw6) (.clean [2,7,10,11,12] (.seq (.cond (t 12) .skip (.exit 0)) (.clean [2,7,10,11] (.seq (.block 1 [2,7,10,11] (.ops zcw7)) (.clean [2,7,10,11] (.ops zcw8)))))))
def zcw9 : List au := [Qo 19 (.mov (t 7)),
 Qo 6 (.mov (t 19))]
def tz : TC := (.seq (.ops zcw3) (.clean [0,1,2] (.seq (.ops zcw4) (.clean [0,1,2,7] (.seq (.seq (.ops zcw5) (.block 0 [7] (.clean [2,7,10,11] (.loop [2,7,10,11] n6)))) (.clean [7] (.seq (.ops zcw9) (.ret [6]))))))))
def ub : TFn := ⟨20,tz,[.tmp 6],false⟩
theorem qh : type_of% (ai @zcw3.eq_1 (ai @zcw4.eq_1 (ai @zcw5.eq_1 (ai @zcw6.eq_1 (ai @zcw7.eq_1 (ai @zcw8.eq_1 (ai @zcw9.eq_1 (ai @tz.eq_1 @ub.eq_1)))))))) := ⟨rfl,rfl,rfl,rfl,rfl,rfl,rfl,rfl,rfl⟩
theorem zc7t : u4 Try.prog [] ke = some (20,tz.erase,[.tmp 6]) := by kernel_rfl
def zcti : List au := [Qo 2 (.box mw 5 (.const (.agg #[(.int .i64 0),(.int .i64 0),(.int .i64 0),(.string ⟨#[]⟩),(.int .i64 0)])))]
def zctj : List (au × List Nat) := [(Qo 3 (.load1 (t 0)),[]),
 (Qo 5 (.load1 (t 0)),[]),
 (Qo 7 (.load1 (t 0)),[]),
 (Qo 9 (.load1 (t 1)),[]),
 (Qo 11 (.load1 (t 0)),[]),
 (Qm 7 4 (.callW bp [(t 3)]),[1,2,3,4]),
 (Qm 7 6 (.callW bp [(t 5)]),[2,3,4]),
 (Qm 7 8 (.callW bp [(t 7)]),[3,4]),
 (Qm 7 10 (.callvW (t 9) []),[4]),
 (Qo 12 (.callW bp [(t 11)]),[]),
 (Qo 13 (.build [(.int .i64 0),(.int .i64 0),(.int .i64 0),(.string ⟨#[]⟩),(.int .i64 0)] [(0,1,(t 4)),(1,1,(t 6)),(2,1,(t 8)),(3,1,(t 10)),(4,1,(t 12))]),[]),
 (⟨⟨none,.store 5 (t 2) (t 13),none⟩,0⟩,[])]
def zcdo : TC := (.seq (.ops zcti) (.clean [0,1,2] (.seq (.draw zctj) (.ret [2]))))
def zcdt : TFn := ⟨14,zcdo,[.cellN 2 5],false⟩
theorem zdae : type_of% (ai @zcti.eq_1 (ai @zctj.eq_1 (ai @zcdo.eq_1 @zcdt.eq_1))) := ⟨rfl,rfl,rfl,rfl⟩
theorem zdai : u4 Try.prog [(1,⟨[0,2,4,6,8,1,3,5,7,9,10,11],[0,1,0,7,0,31,0,127,0,511,1023,2047],[1,3,5,7,9],[(1,[2,4,6,8]),(3,[4,6,8]),(5,[6,8]),(7,[8])],.nil⟩)] ng = some (14,zcdo.erase,[.cellN 2 5]) := by kernel_rfl
def zcup : List au := [Qo 6 (.mov (.const (Go.Value.slice none 0 0)))]
def zcuq : List au := [Qm 1 7 (.mov (.const (Go.Value.slice none 0 0)))]
def zcur : List au := [Qo 8 (.mov (t 0)),
 Qo 9 (.mov (t 1)),
 Qo 10 (.call d6 [(t 8),(t 9)]),
 Qo 11 (.mov (ci 0))]
def zcus : List au := [Qo 12 (.bin .lss (t 11) (t 10))]
def zcut : List au := [Qo 13 (.mov (t 7)),
 Qo 14 (.mov (t 2)),
 Qo 15 (.callv (t 14) []),
 Qo 16 (.buildSl u7 1 1 [(.int .i64 0)] [(0,1,(t 15))]),
 Qo 17 (.append u7 1 8 (t 13) (t 16)),
 Qo 7 (.mov (t 17))]
def zcuu : List au := [Qo 18 (.bin .add (t 11) (ci 1)),
 Qo 11 (.mov (t 18))]
def tp : TC := (.seq (.ops zcus) (.clean [2,7,10,11,12] (.seq (.cond (t 12) .skip (.exit 0)) (.clean [2,7,10,11] (.seq (.block 1 [2,7,10,11] (.ops zcut)) (.clean [2,7,10,11] (.ops zcuu)))))))
def zcuv : List au := [Qo 19 (.mov (t 7)),
 Qo 6 (.mov (t 19))]
def zcea : TC := (.seq (.ops zcup) (.clean [0,1,2] (.seq (.ops zcuq) (.clean [0,1,2,7] (.seq (.seq (.ops zcur) (.block 0 [7] (.clean [2,7,10,11] (.loop [2,7,10,11] tp)))) (.clean [7] (.seq (.ops zcuv) (.ret [6]))))))))
def zcd9 : TFn := ⟨20,zcea,[.tmp 6],false⟩
theorem xk : type_of% (ai @zcup.eq_1 (ai @zcuq.eq_1 (ai @zcur.eq_1 (ai @zcus.eq_1 (ai @zcut.eq_1 (ai @zcuu.eq_1 (ai @zcuv.eq_1 (ai @zcea.eq_1 @zcd9.eq_1)))))))) := ⟨rfl,rfl,rfl,rfl,rfl,rfl,rfl,rfl,rfl⟩
theorem zc57 : u4 Try.prog [] o7 = some (20,zcea.erase,[.tmp 6]) := by kernel_rfl
def zcu8 : List au := [Qo 2 (.mov QF)]
def zcu9 : List au := [Qo 3 (.mov (t 0)),
 Qo 4 (.nilchk (t 3)),
 Qo 5 (.fieldAddr 1 (t 4)),
 Qo 6 (.load1 (t 5)),
 Qo 2 (.mov (t 6))]
def xu : TC := (.seq (.ops zcu8) (.clean [0] (.seq (.ops zcu9) (.ret [2]))))
def yn : TFn := ⟨7,xu,[.tmp 2],false⟩
theorem zc6t : type_of% (ai @zcu8.eq_1 (ai @zcu9.eq_1 (ai @xu.eq_1 @yn.eq_1))) := ⟨rfl,rfl,rfl,rfl⟩
theorem zc6u : u4 Try.prog [] ml = some (7,xu.erase,[.tmp 2]) := by kernel_rfl
def zcvm : List au := [Qo 2 (.mov (ci 0))]
def zcwh : List au := [Qo 3 (.mov (t 0)),
 Qo 4 (.nilchk (t 3)),
 Qo 5 (.fieldAddr 0 (t 4)),
 Qo 6 (.load1 (t 5)),
 Qo 7 (.lenS (t 6)),
 Qo 2 (.mov (t 7))]
def vh : TC := (.seq (.ops zcvm) (.clean [0] (.seq (.ops zcwh) (.ret [2]))))
def wb : TFn := ⟨8,vh,[.tmp 2],false⟩
theorem zc7n : type_of% (ai @zcvm.eq_1 (ai @zcwh.eq_1 (ai @vh.eq_1 @wb.eq_1))) := ⟨rfl,rfl,rfl,rfl⟩
theorem zc7a : u4 Try.prog [] lm = some (8,vh.erase,[.tmp 2]) := by kernel_rfl
def zcrw : List au := [Qo 1 (.box dk 7 (t 0)),
 Qo 2 (.mov (.const (Go.Value.string ⟨#[]⟩)))]
def zcrx : List au := [Qo 5 (.loadN 7 (t 1)),
 Qo 6 (.call pi [(t 5)]),
 Qo 7 (.un .not (t 6))]
def zcry : List au := [Qo 2 (.mov (.const (Go.Value.string ⟨#[]⟩)))]
def zcrz : List au := [Qo 3 (.mov (.func ly))]
def zcsn : List au := [Qo 4 (.mov (.func lx))]
def zcso : List au := [Qo 8 (.fieldAddr 0 (t 1)),
 Qo 9 (.load1 (t 8)),
 Qo 11 (.fieldAddr 1 (t 1)),
 Qo 12 (.load1 (t 11)),
 Qo 13 (.mov (t 3)),
 Qo 16 (.fieldAddr 2 (t 1)),
 Qo 17 (.load1 (t 16)),
 Qo 18 (.mov (t 4)),
 Qo 21 (.fieldAddr 3 (t 1)),
 Qo 22 (.load1 (t 21)),
 Qo 25 (.fieldAddr 4 (t 1)),
 Qo 26 (.load1 (t 25)),
 Qo 29 (.fieldAddr 5 (t 1)),
 Qo 30 (.load1 (t 29)),
 Qo 33 (.fieldAddr 6 (t 1)),
 Qo 34 (.load1 (t 33)),
 Qo 10 (.call jt [(t 9)]),
 Qo 14 (.call jr [(t 12),(t 13)]),
 Qo 15 (.bin .add (t 10) (t 14)),
 Qo 19 (.call lg [(t 17),(t 18)]),
 Qo 20 (.bin .add (t 15) (t 19)),
 Qo 23 (.call qw [(t 22),(.func fk)]),
 Qo 24 (.bin .add (t 20) (t 23)),
 Qo 27 (.call kc [(t 26),(.func jt)]),
 Qo 28 (.bin .add (t 24) (t 27)),
 Qo 31 (.call fk [(t 30)]),
 Qo 32 (.bin .add (t 28) (t 31)),
 Qo 35 (.call fk [(t 34)]),
 Qo 36 (.bin .add (t 32) (t 35)),
 Qo 2 (.mov (t 36))]
def zcdd : TC := (.seq (.ops zcrw) (.clean [1] (.seq (.seq (.ops zcrx) (.clean [1,7] (.cond (t 7) (.seq (.ops zcry) (.ret [2])) .skip))) (.clean [1] (.seq (.ops zcrz) (.clean [1,3] (.seq (.ops zcsn) (.clean [1,3,4] (.seq (.draw (pl zcso)) (.ret [2]))))))))))
def zcc6 : TFn := ⟨37,zcdd,[.tmp 2],false⟩
theorem zcmu : type_of% (ai @zcrw.eq_1 (ai @zcrx.eq_1 (ai @zcry.eq_1 (ai @zcrz.eq_1 (ai @zcsn.eq_1 (ai @zcso.eq_1 (ai @zcdd.eq_1 @zcc6.eq_1))))))) := ⟨rfl,rfl,rfl,rfl,rfl,rfl,rfl,rfl⟩
theorem zc5f : u4 Try.prog [(5,⟨[0,1,3,4,5,8,9,10,13,14,17,18,21,22,25,26,2,6,7,11,12,15,16,19,20,23,24,27,28,29],[0,1,3,0,8,0,63,127,0,256,0,1919,4095,0,8192,28543,65535,0,131072,454527,1048575,0,2097152,7270271,16777215,0,33554432,116322175,268435455,536870911],[],[],.nil⟩)] rq = some (37,zcdd.erase,[.tmp 2]) := by kernel_rfl
def zctr : List au := [Qo 1 (.box dq 2 (t 0)),
 Qo 2 (.mov (.const (Go.Value.string ⟨#[]⟩)))]
def zcts : List au := [Qo 3 (.fieldAddr 0 (t 1)),
 Qo 4 (.load1 (t 3)),
 Qo 6 (.fieldAddr 1 (t 1)),
 Qo 7 (.load1 (t 6)),
 Qo 5 (.call jt [(t 4)]),
 Qo 8 (.call kc [(t 7),(.func jt)]),
 Qo 9 (.bin .add (t 5) (t 8)),
 Qo 2 (.mov (t 9))]
def zcdz : TC := (.seq (.ops zctr) (.clean [1] (.seq (.draw (pl zcts)) (.ret [2]))))
def zcd3 : TFn := ⟨10,zcdz,[.tmp 2],false⟩
theorem zdbb : type_of% (ai @zctr.eq_1 (ai @zcts.eq_1 (ai @zcdz.eq_1 @zcd3.eq_1))) := ⟨rfl,rfl,rfl,rfl⟩
theorem zdbg : u4 Try.prog [(1,⟨[0,1,3,4,2,5,6,7],[0,1,3,0,8,31,63,127],[],[],.nil⟩)] ly = some (10,zcdz.erase,[.tmp 2]) := by kernel_rfl
def zcru : List au := [Qo 2 (.mov (.const (Go.Value.string ⟨#[]⟩)))]
def zcrv : List au := [Qo 3 (.mov (t 0)),
 Qo 4 (.lenS (t 3)),
 Qo 5 (.call fk [(t 4)]),
 Qo 6 (.mov (t 0)),
 Qo 7 (.bin .add (t 5) (t 6)),
 Qo 2 (.mov (t 7))]
def zcdc : TC := (.seq (.ops zcru) (.clean [0] (.seq (.ops zcrv) (.ret [2]))))
def zcc5 : TFn := ⟨8,zcdc,[.tmp 2],false⟩
theorem zc5m : type_of% (ai @zcru.eq_1 (ai @zcrv.eq_1 (ai @zcdc.eq_1 @zcc5.eq_1))) := ⟨rfl,rfl,rfl,rfl⟩
theorem zc5e : u4 Try.prog [] jt = some (8,zcdc.erase,[.tmp 2]) := by kernel_rfl
def zcqi : List au := [Qo 2 (.mov (.const (Go.Value.string ⟨#[]⟩)))]
def zcqj : List au := [Qm 1 5 (.makeSl fj 1 [(.int .u8 0)] (ci 8) (ci 8)),
 Qo 3 (.mov (t 5))]
def zcqk : List au := [Qo 6 (.mov (t 3)),
 Qo 7 (.lenL (t 6)),
 Qo 8 (.mov (ci 0))]
def zcql : List au := [Qo 9 (.bin .lss (t 8) (t 7))]
def zcqm : List au := [Qo 10 (.mov (t 8)),
 Qo 4 (.mov (t 10))]
def zcqn : List au := [Qo 11 (.mov (t 3)),
 Qo 12 (.mov (t 4)),
 Qo 13 (.mov (t 0)),
 Qo 14 (.mov (t 4)),
 Qo 15 (.bin .sub (ci 7) (t 14)),
 Qo 16 (.bin .mul (ci 8) (t 15)),
 Qo 17 (.bin .shr (t 13) (t 16)),
 Qo 18 (.conv .u8 (t 17)),
 Qo 19 (.indexSl 1 (t 11) (t 12)),
 ⟨⟨none,.store 1 (t 19) (t 18),none⟩,0⟩]
def zcpt : List au := [Qo 20 (.bin .add (t 8) (ci 1)),
 Qo 8 (.mov (t 20))]
def zb9k : TC := (.seq (.ops zcql) (.clean [0,3,7,8,9] (.seq (.cond (t 9) .skip (.exit 0)) (.clean [0,3,7,8] (.seq (.block 1 [0,3,7,8] (.seq (.ops zcqm) (.clean [0,3,4,7,8] (.ops zcqn)))) (.clean [0,3,7,8] (.ops zcpt)))))))
def zcpu : List au := [Qo 21 (.mov (t 3)),
 Qo 22 (.toStr (t 21)),
 Qo 2 (.mov (t 22))]
def zccq : TC := (.seq (.ops zcqi) (.clean [0] (.seq (.ops zcqj) (.clean [0,3] (.seq (.seq (.ops zcqk) (.block 0 [3] (.clean [0,3,7,8] (.loop [0,3,7,8] zb9k)))) (.clean [3] (.seq (.ops zcpu) (.ret [2]))))))))
def zccj : TFn := ⟨23,zccq,[.tmp 2],false⟩
theorem zb81 : type_of% (ai @zcqi.eq_1 (ai @zcqj.eq_1 (ai @zcqk.eq_1 (ai @zcql.eq_1 (ai @zcqm.eq_1 (ai @zcqn.eq_1 (ai @zcpt.eq_1 (ai @zcpu.eq_1 (ai @zccq.eq_1 @zccj.eq_1))))))))) := ⟨rfl,rfl,rfl,rfl,rfl,rfl,rfl,rfl,rfl,rfl⟩
theorem zc44 : u4 Try.prog [] fk = some (23,zccq.erase,[.tmp 2]) := by kernel_rfl
def zcvi : List au := [Qo 4 (.mov (.const (Go.Value.string ⟨#[]⟩)))]
def zcvj : List au := [Qo 5 (.box bq 2 (.const (.agg #[(.pointer none),(.slice none 0 0)])))]
def zcvn : List au := [Qo 8 (.mov (t 0)),
 Qo 9 (.lenL (t 8)),
 Qo 10 (.call fk [(t 9)]),
 Qo 11 (.call a9 [(t 5),(t 10)])]
def zcvo : List au := [Qo 12 (.mov (t 0)),
 Qo 13 (.lenL (t 12)),
 Qo 14 (.mov (ci 0))]
def zcvp : List au := [Qo 15 (.bin .lss (t 14) (t 13))]
def zcvq : List au := [Qo 16 (.indexSl 1 (t 12) (t 14)),
 Qo 17 (.load1 (t 16)),
 Qo 7 (.mov (t 17))]
def zcvr : List au := [Qo 18 (.mov (t 1)),
 Qo 19 (.mov (t 7)),
 Qo 20 (.callv (t 18) [(t 19)]),
 Qo 21 (.call a9 [(t 5),(t 20)])]
def zcvs : List au := [Qo 22 (.bin .add (t 14) (ci 1)),
 Qo 14 (.mov (t 22))]
def qe : TC := (.seq (.ops zcvp) (.clean [1,5,12,13,14,15] (.seq (.cond (t 15) .skip (.exit 0)) (.clean [1,5,12,13,14] (.seq (.block 1 [1,5,12,13,14] (.seq (.ops zcvq) (.clean [1,5,7,12,13,14] (.ops zcvr)))) (.clean [1,5,12,13,14] (.ops zcvs)))))))
def zcvt : List au := [Qo 23 (.call bu [(t 5)]),
 Qo 4 (.mov (t 23))]
def xq : TC := (.seq (.ops zcvi) (.clean [0,1] (.seq (.ops zcvj) (.clean [0,1,5] (.seq (.ops zcvn) (.clean [0,1,5] (.seq (.seq (.ops zcvo) (.block 0 [5] (.clean [1,5,12,13,14] (.loop [1,5,12,13,14] qe)))) (.clean [5] (.seq (.ops zcvt) (.ret [4]))))))))))
def yl : TFn := ⟨24,xq,[.tmp 4],false⟩
theorem tw : type_of% (ai @zcvi.eq_1 (ai @zcvj.eq_1 (ai @zcvn.eq_1 (ai @zcvo.eq_1 (ai @zcvp.eq_1 (ai @zcvq.eq_1 (ai @zcvr.eq_1 (ai @zcvs.eq_1 (ai @zcvt.eq_1 (ai @xq.eq_1 @yl.eq_1)))))))))) := ⟨rfl,rfl,rfl,rfl,rfl,rfl,rfl,rfl,rfl,rfl,rfl⟩
theorem zc6w : u4 Try.prog [] kc = some (24,xq.erase,[.tmp 4]) := by kernel_rfl
def qo : List au := [Qo 4 (.mov (ci 0)),
 Qo 5 (.mov (.const Go.Value.nilIface))]
def qn : List au := [Qo 6 (.mov (t 0)),
 Qo 7 (.call dx [(t 6)])]
def qm : List au := [Qo 8 (.mov (t 0)),
 Qo 9 (.mov (t 0)),
 Qo 10 (.nilchk (t 9)),
 Qo 11 (.fieldAddr 1 (t 10)),
 Qm 2 12 (.load1 (t 11)),
 Qo 13 (.mov (t 1)),
 Qo 14 (.appendS fj (t 12) (t 13)),
 Qo 15 (.nilchk (t 8)),
 Qo 16 (.fieldAddr 1 (t 15)),
 ⟨⟨none,.store 1 (t 16) (t 14),none⟩,2⟩]
def ql : List au := [Qo 17 (.mov (t 1)),
 Qo 18 (.lenS (t 17)),
 Qo 4 (.mov (t 18)),
 Qo 5 (.mov (.const Go.Value.nilIface))]
def lz : TC := (.seq (.ops qo) (.clean [0,1] (.seq (.ops qn) (.clean [0,1] (.seq (.ops qm) (.clean [1] (.seq (.ops ql) (.ret [4,5]))))))))
def l7 : TFn := ⟨19,lz,[.tmp 4,.tmp 5],false⟩
theorem sg : type_of% (ai @qo.eq_1 (ai @qn.eq_1 (ai @qm.eq_1 (ai @ql.eq_1 (ai @lz.eq_1 @l7.eq_1))))) := ⟨rfl,rfl,rfl,rfl,rfl,rfl⟩
theorem zc86 : u4 Try.prog [] a9 = some (19,lz.erase,[.tmp 4,.tmp 5]) := by kernel_rfl
def zctt : List au := [Qo 1 (.box mw 5 (t 0)),
 Qo 2 (.mov (.const (Go.Value.string ⟨#[]⟩)))]
def zctu : List au := [Qo 3 (.fieldAddr 0 (t 1)),
 Qo 4 (.load1 (t 3)),
 Qo 6 (.fieldAddr 1 (t 1)),
 Qo 7 (.load1 (t 6)),
 Qo 10 (.fieldAddr 2 (t 1)),
 Qo 11 (.load1 (t 10)),
 Qo 14 (.fieldAddr 3 (t 1)),
 Qo 15 (.load1 (t 14)),
 Qo 18 (.fieldAddr 4 (t 1)),
 Qo 19 (.load1 (t 18)),
 Qo 5 (.call fk [(t 4)]),
 Qo 8 (.call fk [(t 7)]),
 Qo 9 (.bin .add (t 5) (t 8)),
 Qo 12 (.call fk [(t 11)]),
 Qo 13 (.bin .add (t 9) (t 12)),
 Qo 16 (.call jt [(t 15)]),
 Qo 17 (.bin .add (t 13) (t 16)),
 Qo 20 (.call fk [(t 19)]),
 Qo 21 (.bin .add (t 17) (t 20)),
 Qo 2 (.mov (t 21))]
def zcd0 : TC := (.seq (.ops zctt) (.clean [1] (.seq (.draw (pl zctu)) (.ret [2]))))
def zcdw : TFn := ⟨22,zcd0,[.tmp 2],false⟩
theorem zdbc : type_of% (ai @zctt.eq_1 (ai @zctu.eq_1 (ai @zcd0.eq_1 @zcdw.eq_1))) := ⟨rfl,rfl,rfl,rfl⟩
theorem zdbh : u4 Try.prog [(1,⟨[0,1,3,4,7,8,11,12,15,16,2,5,6,9,10,13,14,17,18,19],[0,1,3,0,8,31,63,0,128,447,1023,0,2048,7103,16383,0,32768,113599,262143,524287],[],[],.nil⟩)] lx = some (22,zcd0.erase,[.tmp 2]) := by kernel_rfl
def zcxa : List au := [Qo 4 (.mov (.const (Go.Value.string ⟨#[]⟩)))]
def zcxb : List au := [Qo 5 (.box bq 2 (.const (.agg #[(.pointer none),(.slice none 0 0)])))]
def zcxc : List au := [Qo 8 (.mov (t 0)),
 Qo 9 (.lenL (t 8)),
 Qo 10 (.call fk [(t 9)]),
 Qo 11 (.call a9 [(t 5),(t 10)])]
def zcxd : List au := [Qo 12 (.mov (t 0)),
 Qo 13 (.lenL (t 12)),
 Qo 14 (.mov (ci 0))]
def zcxe : List au := [Qo 15 (.bin .lss (t 14) (t 13))]
def zcxf : List au := [Qo 16 (.indexSl 2 (t 12) (t 14)),
 Qo 17 (.loadN 2 (t 16)),
 Qo 7 (.box dq 2 (.const (.agg #[(.string ⟨#[]⟩),(.slice none 0 0)]))),
 ⟨⟨none,.store 2 (t 7) (t 17),none⟩,0⟩]
def zcxg : List au := [Qo 18 (.mov (t 1)),
 Qo 19 (.loadN 2 (t 7)),
 Qo 20 (.callv (t 18) [(t 19)]),
 Qo 21 (.call a9 [(t 5),(t 20)])]
def zcxh : List au := [Qo 22 (.bin .add (t 14) (ci 1)),
 Qo 14 (.mov (t 22))]
def m7 : TC := (.seq (.ops zcxe) (.clean [1,5,12,13,14,15] (.seq (.cond (t 15) .skip (.exit 0)) (.clean [1,5,12,13,14] (.seq (.block 1 [1,5,12,13,14] (.seq (.ops zcxf) (.clean [1,5,7,12,13,14] (.ops zcxg)))) (.clean [1,5,12,13,14] (.ops zcxh)))))))
def zcxi : List au := [Qo 23 (.call bu [(t 5)]),
 Qo 4 (.mov (t 23))]
def sp : TC := (.seq (.ops zcxa) (.clean [0,1] (.seq (.ops zcxb) (.clean [0,1,5] (.seq (.ops zcxc) (.clean [0,1,5] (.seq (.seq (.ops zcxd) (.block 0 [5] (.clean [1,5,12,13,14] (.loop [1,5,12,13,14] m7)))) (.clean [5] (.seq (.ops zcxi) (.ret [4]))))))))))
def sr : TFn := ⟨24,sp,[.tmp 4],false⟩
theorem pg : type_of% (ai @zcxa.eq_1 (ai @zcxb.eq_1 (ai @zcxc.eq_1 (ai @zcxd.eq_1 (ai @zcxe.eq_1 (ai @zcxf.eq_1 (ai @zcxg.eq_1 (ai @zcxh.eq_1 (ai @zcxi.eq_1 (ai @sp.eq_1 @sr.eq_1)))))))))) := ⟨rfl,rfl,rfl,rfl,rfl,rfl,rfl,rfl,rfl,rfl,rfl⟩
theorem zc7y : u4 Try.prog [] jr = some (24,sp.erase,[.tmp 4]) := by kernel_rfl
def zcv5 : List au := [Qo 4 (.mov (.const (Go.Value.string ⟨#[]⟩)))]
def zcv6 : List au := [Qo 5 (.box bq 2 (.const (.agg #[(.pointer none),(.slice none 0 0)])))]
def zcv7 : List au := [Qo 8 (.mov (t 0)),
 Qo 9 (.lenL (t 8)),
 Qo 10 (.call fk [(t 9)]),
 Qo 11 (.call a9 [(t 5),(t 10)])]
def zcv8 : List au := [Qo 12 (.mov (t 0)),
 Qo 13 (.lenL (t 12)),
 Qo 14 (.mov (ci 0))]
def zcv9 : List au := [Qo 15 (.bin .lss (t 14) (t 13))]
def zcwa : List au := [Qo 16 (.indexSl 5 (t 12) (t 14)),
 Qo 17 (.loadN 5 (t 16)),
 Qo 7 (.box mw 5 (.const (.agg #[(.int .i64 0),(.int .i64 0),(.int .i64 0),(.string ⟨#[]⟩),(.int .i64 0)]))),
 ⟨⟨none,.store 5 (t 7) (t 17),none⟩,0⟩]
def zcwb : List au := [Qo 18 (.mov (t 1)),
 Qo 19 (.loadN 5 (t 7)),
 Qo 20 (.callv (t 18) [(t 19)]),
 Qo 21 (.call a9 [(t 5),(t 20)])]
def zcwc : List au := [Qo 22 (.bin .add (t 14) (ci 1)),
 Qo 14 (.mov (t 22))]
def pc : TC := (.seq (.ops zcv9) (.clean [1,5,12,13,14,15] (.seq (.cond (t 15) .skip (.exit 0)) (.clean [1,5,12,13,14] (.seq (.block 1 [1,5,12,13,14] (.seq (.ops zcwa) (.clean [1,5,7,12,13,14] (.ops zcwb)))) (.clean [1,5,12,13,14] (.ops zcwc)))))))
def zcwd : List au := [Qo 23 (.call bu [(t 5)]),
 Qo 4 (.mov (t 23))]
def vc : TC := (.seq (.ops zcv5) (.clean [0,1] (.seq (.ops zcv6) (.clean [0,1,5] (.seq (.ops zcv7) (.clean [0,1,5] (.seq (.seq (.ops zcv8) (.block 0 [5] (.clean [1,5,12,13,14] (.loop [1,5,12,13,14] pc)))) (.clean [5] (.seq (.ops zcwd) (.ret [4]))))))))))
def vv : TFn := ⟨24,vc,[.tmp 4],false⟩
theorem r7 : type_of% (ai @zcv5.eq_1 (ai @zcv6.eq_1 (ai @zcv7.eq_1 (ai @zcv8.eq_1 (ai @zcv9.eq_1 (ai @zcwa.eq_1 (ai @zcwb.eq_1 (ai @zcwc.eq_1 (ai @zcwd.eq_1 (ai @vc.eq_1 @vv.eq_1)))))))))) := ⟨rfl,rfl,rfl,rfl,rfl,rfl,rfl,rfl,rfl,rfl,rfl⟩
theorem zc7f : u4 Try.prog [] lg = some (24,vc.erase,[.tmp 4]) := by kernel_rfl
def zcul : List au := [Qo 4 (.mov (.const (Go.Value.string ⟨#[]⟩)))]
def zcum : List au := [Qo 5 (.box bq 2 (.const (.agg #[(.pointer none),(.slice none 0 0)])))]
def zcun : List au := [Qo 8 (.mov (t 0)),
 Qo 9 (.lenL (t 8)),
 Qo 10 (.call fk [(t 9)]),
 Qo 11 (.call a9 [(t 5),(t 10)])]
def zct8 : List au := [Qo 12 (.mov (t 0)),
 Qo 13 (.lenL (t 12)),
 Qo 14 (.mov (ci 0))]
def zct9 : List au := [Qo 15 (.bin .lss (t 14) (t 13))]
def zcua : List au := [Qo 16 (.indexSl 1 (t 12) (t 14)),
 Qo 17 (.load1 (t 16)),
 Qo 7 (.mov (t 17))]
def zcub : List au := [Qo 18 (.mov (t 1)),
 Qo 19 (.mov (t 7)),
 Qo 20 (.callv (t 18) [(t 19)]),
 Qo 21 (.call a9 [(t 5),(t 20)])]
def zcuc : List au := [Qo 22 (.bin .add (t 14) (ci 1)),
 Qo 14 (.mov (t 22))]
def uz : TC := (.seq (.ops zct9) (.clean [1,5,12,13,14,15] (.seq (.cond (t 15) .skip (.exit 0)) (.clean [1,5,12,13,14] (.seq (.block 1 [1,5,12,13,14] (.seq (.ops zcua) (.clean [1,5,7,12,13,14] (.ops zcub)))) (.clean [1,5,12,13,14] (.ops zcuc)))))))
def zcud : List au := [Qo 23 (.call bu [(t 5)]),
 Qo 4 (.mov (t 23))]
def zcd7 : TC := (.seq (.ops zcul) (.clean [0,1] (.seq (.ops zcum) (.clean [0,1,5] (.seq (.ops zcun) (.clean [0,1,5] (.seq (.seq (.ops zct8) (.block 0 [5] (.clean [1,5,12,13,14] (.loop [1,5,12,13,14] uz)))) (.clean [5] (.seq (.ops zcud) (.ret [4]))))))))))
def zcd5 : TFn := ⟨24,zcd7,[.tmp 4],false⟩
theorem zb9v : type_of% (ai @zcul.eq_1 (ai @zcum.eq_1 (ai @zcun.eq_1 (ai @zct8.eq_1 (ai @zct9.eq_1 (ai @zcua.eq_1 (ai @zcub.eq_1 (ai @zcuc.eq_1 (ai @zcud.eq_1 (ai @zcd7.eq_1 @zcd5.eq_1)))))))))) := ⟨rfl,rfl,rfl,rfl,rfl,rfl,rfl,rfl,rfl,rfl,rfl⟩
theorem zdbs : u4 Try.prog [] qw = some (24,zcd7.erase,[.tmp 4]) := by kernel_rfl
def zcp5 : List au := [Qo 2 (.box dk 7 (t 0)),
 Qo 3 (.box dk 7 (t 1)),
 Qo 4 (.mov QF)]
def zcp6 : List au := [Qo 5 (.mov (.func nf))]
def zcp7 : List au := [Qo 6 (.fieldAddr 0 (t 2)),
 Qo 7 (.load1 (t 6)),
 Qo 8 (.fieldAddr 0 (t 3)),
 Qo 9 (.load1 (t 8)),
 Qo 10 (.bin .eql (t 7) (t 9)),
 Qo 11 (.mov (t 10)),
 Qt 11 12 (.fieldAddr 1 (t 2)),
 Qt 11 13 (.load1 (t 12)),
 Qt 11 14 (.fieldAddr 1 (t 3)),
 Qt 11 15 (.load1 (t 14)),
 Qt 11 16 (.mov (t 5)),
 Qt 11 17 (.call az [(t 13),(t 15),(t 16)]),
 Qo 18 (.pick (t 11) (t 17) QF),
 Qo 19 (.mov (t 18)),
 Qt 19 20 (.fieldAddr 2 (t 2)),
 Qt 19 21 (.load1 (t 20)),
 Qt 19 22 (.fieldAddr 2 (t 3)),
 Qt 19 23 (.load1 (t 22)),
 Qt 19 24 (.call d4 [(t 21),(t 23)]),
 Qo 25 (.pick (t 19) (t 24) QF),
 Qo 26 (.mov (t 25)),
 Qt 26 27 (.fieldAddr 3 (t 2)),
 Qt 26 28 (.load1 (t 27)),
 Qt 26 29 (.fieldAddr 3 (t 3)),
 Qt 26 30 (.load1 (t 29)),
 Qt 26 31 (.call il [(t 28),(t 30)]),
 Qo 32 (.pick (t 26) (t 31) QF),
 Qo 33 (.mov (t 32)),
 Qt 33 34 (.fieldAddr 4 (t 2)),
 Qt 33 35 (.load1 (t 34)),
 Qt 33 36 (.fieldAddr 4 (t 3)),
 Qt 33 37 (.load1 (t 36)),
 Qt 33 38 (.call du [(t 35),(t 37)]),
 Qo 39 (.pick (t 33) (t 38) QF),
 Qo 40 (.mov (t 39)),
 Qt 40 41 (.fieldAddr 5 (t 2)),
 Qt 40 42 (.load1 (t 41)),
 Qt 40 43 (.fieldAddr 5 (t 3)),
 Qt 40 44 (.load1 (t 43)),
 Qt 40 45 (.bin .eql (t 42) (t 44)),
 Qo 46 (.pick (t 40) (t 45) QF),
 Qo 47 (.mov (t 46)),
 Qt 47 48 (.fieldAddr 6 (t 2)),
 Qt 47 49 (.load1 (t 48)),
 Qt 47 50 (.fieldAddr 6 (t 3)),
 Qt 47 51 (.load1 (t 50)),
 Qt 47 52 (.bin .eql (t 49) (t 51)),
 Qo 53 (.pick (t 47) (t 52) QF),
 Qo 4 (.mov (t 53))]
def zccs : TC := (.seq (.ops zcp5) (.clean [2,3] (.seq (.ops zcp6) (.clean [2,3,5] (.seq (.ops zcp7) (.ret [4]))))))
def zccl : TFn := ⟨54,zccs,[.tmp 4],false⟩
theorem yp : type_of% (ai @zcp5.eq_1 (ai @zcp6.eq_1 (ai @zcp7.eq_1 (ai @zccs.eq_1 @zccl.eq_1)))) := ⟨rfl,rfl,rfl,rfl,rfl⟩
theorem zc46 : u4 Try.prog [] yw = some (54,zccs.erase,[.tmp 4]) := by kernel_rfl
def zctk : List au := [Qo 2 (.box dq 2 (t 0)),
 Qo 3 (.box dq 2 (t 1)),
 Qo 4 (.mov QF)]
def zctl : List au := [Qo 5 (.fieldAddr 0 (t 2)),
 Qo 6 (.load1 (t 5)),
 Qo 7 (.fieldAddr 0 (t 3)),
 Qo 8 (.load1 (t 7)),
 Qo 9 (.bin .eql (t 6) (t 8)),
 Qo 10 (.mov (t 9)),
 Qt 10 11 (.fieldAddr 1 (t 2)),
 Qt 10 12 (.load1 (t 11)),
 Qt 10 13 (.fieldAddr 1 (t 3)),
 Qt 10 14 (.load1 (t 13)),
 Qt 10 15 (.call du [(t 12),(t 14)]),
 Qo 16 (.pick (t 10) (t 15) QF),
 Qo 4 (.mov (t 16))]
def zcdp : TC := (.seq (.ops zctk) (.clean [2,3] (.seq (.ops zctl) (.ret [4]))))
def zcdu : TFn := ⟨17,zcdp,[.tmp 4],false⟩
theorem zcoc : type_of% (ai @zctk.eq_1 (ai @zctl.eq_1 (ai @zcdp.eq_1 @zcdu.eq_1))) := ⟨rfl,rfl,rfl,rfl⟩
theorem zdaj : u4 Try.prog [] nf = some (17,zcdp.erase,[.tmp 4]) := by kernel_rfl
def rm : List au := [Qo 4 (.mov QF)]
def rk : List au := [Qo 6 (.mov (t 0)),
 Qo 7 (.lenL (t 6)),
 Qo 8 (.mov (t 1)),
 Qo 9 (.lenL (t 8)),
 Qo 10 (.bin .neq (t 7) (t 9))]
def rj : List au := [Qo 4 (.mov QF)]
def ri : List au := [Qo 11 (.mov (t 0)),
 Qo 12 (.lenL (t 11)),
 Qo 13 (.mov (ci 0))]
def rh : List au := [Qo 14 (.bin .lss (t 13) (t 12))]
def rg : List au := [Qo 15 (.mov (t 13)),
 Qo 5 (.mov (t 15))]
def rf : List au := [Qo 16 (.mov (t 0)),
 Qo 17 (.mov (t 5)),
 Qo 18 (.indexSl 1 (t 16) (t 17)),
 Qo 19 (.load1 (t 18)),
 Qo 20 (.mov (t 1)),
 Qo 21 (.mov (t 5)),
 Qo 22 (.indexSl 1 (t 20) (t 21)),
 Qo 23 (.load1 (t 22)),
 Qo 24 (.bin .neq (t 19) (t 23))]
def re : List au := [Qo 4 (.mov QF)]
def rc : List au := [Qo 25 (.bin .add (t 13) (ci 1)),
 Qo 13 (.mov (t 25))]
def fu : TC := (.seq (.ops rh) (.clean [0,1,12,13,14] (.seq (.cond (t 14) .skip (.exit 0)) (.clean [0,1,12,13] (.seq (.block 1 [0,1,12,13] (.seq (.ops rg) (.clean [0,1,5,12,13] (.seq (.draw (pl rf)) (.clean [0,1,12,13,24] (.cond (t 24) (.seq (.ops re) (.ret [4])) .skip)))))) (.clean [0,1,12,13] (.ops rc)))))))
def ra : List au := [Qo 4 (.mov QT)]
def mm : TC := (.seq (.ops rm) (.clean [0,1] (.seq (.seq (.ops rk) (.clean [0,1,10] (.cond (t 10) (.seq (.ops rj) (.ret [4])) .skip))) (.clean [0,1] (.seq (.seq (.ops ri) (.block 0 [] (.clean [0,1,12,13] (.loop [0,1,12,13] fu)))) (.clean [] (.seq (.ops ra) (.ret [4]))))))))
def mn : TFn := ⟨26,mm,[.tmp 4],false⟩
theorem dp : type_of% (ai @rm.eq_1 (ai @rk.eq_1 (ai @rj.eq_1 (ai @ri.eq_1 (ai @rh.eq_1 (ai @rg.eq_1 (ai @rf.eq_1 (ai @re.eq_1 (ai @rc.eq_1 (ai @ra.eq_1 (ai @mm.eq_1 @mn.eq_1))))))))))) := ⟨rfl,rfl,rfl,rfl,rfl,rfl,rfl,rfl,rfl,rfl,rfl,rfl⟩
theorem zc82 : u4 Try.prog [(6,⟨[0,1,2,3,4,5,6,7,8],[0,0,3,7,0,0,48,112,255],[],[],.nil⟩)] du = some (26,mm.erase,[.tmp 4]) := by kernel_rfl
def fe : List au := [Qo 6 (.mov QF)]
def fb : List au := [Qo 10 (.mov (t 0)),
 Qo 11 (.lenL (t 10)),
 Qo 12 (.mov (t 1)),
 Qo 13 (.lenL (t 12)),
 Qo 14 (.bin .neq (t 11) (t 13))]
def fa : List au := [Qo 6 (.mov QF)]
def ey : List au := [Qo 15 (.mov (t 0)),
 Qo 16 (.lenL (t 15)),
 Qo 17 (.mov (ci 0))]
def ew : List au := [Qo 18 (.bin .lss (t 17) (t 16))]
def eu : List au := [Qo 19 (.mov (t 17)),
 Qo 20 (.indexSl 2 (t 15) (t 17)),
 Qo 21 (.loadN 2 (t 20)),
 Qo 8 (.box dq 2 (.const (.agg #[(.string ⟨#[]⟩),(.slice none 0 0)]))),
 Qo 7 (.mov (t 19)),
 ⟨⟨none,.store 2 (t 8) (t 21),none⟩,0⟩]
def er : List au := [Qo 22 (.mov (t 1)),
 Qo 23 (.mov (t 7)),
 Qo 24 (.indexSl 2 (t 22) (t 23)),
 Qo 25 (.loadN 2 (t 24)),
 Qo 9 (.box dq 2 (.const (.agg #[(.string ⟨#[]⟩),(.slice none 0 0)]))),
 ⟨⟨none,.store 2 (t 9) (t 25),none⟩,0⟩]
def eq : List au := [Qo 26 (.mov (t 2)),
 Qo 27 (.loadN 2 (t 8)),
 Qo 28 (.loadN 2 (t 9)),
 Qo 29 (.callv (t 26) [(t 27),(t 28)]),
 Qo 30 (.un .not (t 29))]
def ep : List au := [Qo 6 (.mov QF)]
def eo : List au := [Qo 31 (.bin .add (t 17) (ci 1)),
 Qo 17 (.mov (t 31))]
def bd : TC := (.seq (.ops ew) (.clean [1,2,15,16,17,18] (.seq (.cond (t 18) .skip (.exit 0)) (.clean [1,2,15,16,17] (.seq (.block 1 [1,2,15,16,17] (.seq (.ops eu) (.clean [1,2,7,8,15,16,17] (.seq (.ops er) (.clean [1,2,8,9,15,16,17] (.seq (.ops eq) (.clean [1,2,15,16,17,30] (.cond (t 30) (.seq (.ops ep) (.ret [6])) .skip)))))))) (.clean [1,2,15,16,17] (.ops eo)))))))
def ej : List au := [Qo 6 (.mov QT)]
def cn : TC := (.seq (.ops fe) (.clean [0,1,2] (.seq (.seq (.ops fb) (.clean [0,1,2,14] (.cond (t 14) (.seq (.ops fa) (.ret [6])) .skip))) (.clean [0,1,2] (.seq (.seq (.ops ey) (.block 0 [] (.clean [1,2,15,16,17] (.loop [1,2,15,16,17] bd)))) (.clean [] (.seq (.ops ej) (.ret [6]))))))))
def cv : TFn := ⟨32,cn,[.tmp 6],false⟩
theorem aw : type_of% (ai @fe.eq_1 (ai @fb.eq_1 (ai @fa.eq_1 (ai @ey.eq_1 (ai @ew.eq_1 (ai @eu.eq_1 (ai @er.eq_1 (ai @eq.eq_1 (ai @ep.eq_1 (ai @eo.eq_1 (ai @ej.eq_1 (ai @cn.eq_1 @cv.eq_1)))))))))))) := ⟨rfl,rfl,rfl,rfl,rfl,rfl,rfl,rfl,rfl,rfl,rfl,rfl,rfl⟩
theorem lw : u4 Try.prog [] az = some (32,cn.erase,[.tmp 6]) := by kernel_rfl
def qb : List au := [Qo 4 (.mov QF)]
def qa : List au := [Qo 6 (.mov (t 0)),
 Qo 7 (.lenL (t 6)),
 Qo 8 (.mov (t 1)),
 Qo 9 (.lenL (t 8)),
 Qo 10 (.bin .neq (t 7) (t 9))]
def p9 : List au := [Qo 4 (.mov QF)]
def pz : List au := [Qo 11 (.mov (t 0)),
 Qo 12 (.lenL (t 11)),
 Qo 13 (.mov (ci 0))]
def py : List au := [Qo 14 (.bin .lss (t 13) (t 12))]
def pw : List au := [Qo 15 (.mov (t 13)),
 Qo 5 (.mov (t 15))]
def pv : List au := [Qo 16 (.mov (t 0)),
 Qo 17 (.mov (t 5)),
 Qo 18 (.indexSl 5 (t 16) (t 17)),
 Qo 19 (.loadN 5 (t 18)),
 Qo 20 (.mov (t 1)),
 Qo 21 (.mov (t 5)),
 Qo 22 (.indexSl 5 (t 20) (t 21)),
 Qo 23 (.loadN 5 (t 22)),
 Qo 24 (.eqF true [.i,.i,.i,.s,.i] (t 19) (t 23))]
def pu : List au := [Qo 4 (.mov QF)]
def pt : List au := [Qo 25 (.bin .add (t 13) (ci 1)),
 Qo 13 (.mov (t 25))]
def ek : TC := (.seq (.ops py) (.clean [0,1,12,13,14] (.seq (.cond (t 14) .skip (.exit 0)) (.clean [0,1,12,13] (.seq (.block 1 [0,1,12,13] (.seq (.ops pw) (.clean [0,1,5,12,13] (.seq (.draw (pl pv)) (.clean [0,1,12,13,24] (.cond (t 24) (.seq (.ops pu) (.ret [4])) .skip)))))) (.clean [0,1,12,13] (.ops pt)))))))
def pq : List au := [Qo 4 (.mov QT)]
def kq : TC := (.seq (.ops qb) (.clean [0,1] (.seq (.seq (.ops qa) (.clean [0,1,10] (.cond (t 10) (.seq (.ops p9) (.ret [4])) .skip))) (.clean [0,1] (.seq (.seq (.ops pz) (.block 0 [] (.clean [0,1,12,13] (.loop [0,1,12,13] ek)))) (.clean [] (.seq (.ops pq) (.ret [4]))))))))
def kw : TFn := ⟨26,kq,[.tmp 4],false⟩
theorem dd : type_of% (ai @qb.eq_1 (ai @qa.eq_1 (ai @p9.eq_1 (ai @pz.eq_1 (ai @py.eq_1 (ai @pw.eq_1 (ai @pv.eq_1 (ai @pu.eq_1 (ai @pt.eq_1 (ai @pq.eq_1 (ai @kq.eq_1 @kw.eq_1))))))))))) := ⟨rfl,rfl,rfl,rfl,rfl,rfl,rfl,rfl,rfl,rfl,rfl,rfl⟩
theorem zc89 : u4 Try.prog [(6,⟨[0,1,2,3,4,5,6,7,8],[0,0,3,7,0,0,48,112,255],[],[],.nil⟩)] d4 = some (26,kq.erase,[.tmp 4]) := by kernel_rfl
def zw : List au := [Qo 4 (.mov QF)]
def zv : List au := [Qo 6 (.mov (t 0)),
 Qo 7 (.lenL (t 6)),
 Qo 8 (.mov (t 1)),
 Qo 9 (.lenL (t 8)),
 Qo 10 (.bin .neq (t 7) (t 9))]
def zu : List au := [Qo 4 (.mov QF)]
def zt : List au := [Qo 11 (.mov (t 0)),
 Qo 12 (.lenL (t 11)),
 Qo 13 (.mov (ci 0))]
def zq : List au := [Qo 14 (.bin .lss (t 13) (t 12))]
def zp : List au := [Qo 15 (.mov (t 13)),
 Qo 5 (.mov (t 15))]
def zo : List au := [Qo 16 (.mov (t 0)),
 Qo 17 (.mov (t 5)),
 Qo 18 (.indexSl 1 (t 16) (t 17)),
 Qo 19 (.load1 (t 18)),
 Qo 20 (.mov (t 1)),
 Qo 21 (.mov (t 5)),
 Qo 22 (.indexSl 1 (t 20) (t 21)),
 Qo 23 (.load1 (t 22)),
 Qo 24 (.bin .neq (t 19) (t 23))]
def zn : List au := [Qo 4 (.mov QF)]
def zm : List au := [Qo 25 (.bin .add (t 13) (ci 1)),
 Qo 13 (.mov (t 25))]
def jj : TC := (.seq (.ops zq) (.clean [0,1,12,13,14] (.seq (.cond (t 14) .skip (.exit 0)) (.clean [0,1,12,13] (.seq (.block 1 [0,1,12,13] (.seq (.ops zp) (.clean [0,1,5,12,13] (.seq (.draw (pl zo)) (.clean [0,1,12,13,24] (.cond (t 24) (.seq (.ops zn) (.ret [4])) .skip)))))) (.clean [0,1,12,13] (.ops zm)))))))
def zl : List au := [Qo 4 (.mov QT)]
def rv : TC := (.seq (.ops zw) (.clean [0,1] (.seq (.seq (.ops zv) (.clean [0,1,10] (.cond (t 10) (.seq (.ops zu) (.ret [4])) .skip))) (.clean [0,1] (.seq (.seq (.ops zt) (.block 0 [] (.clean [0,1,12,13] (.loop [0,1,12,13] jj)))) (.clean [] (.seq (.ops zl) (.ret [4]))))))))
def ry : TFn := ⟨26,rv,[.tmp 4],false⟩
theorem gq : type_of% (ai @zw.eq_1 (ai @zv.eq_1 (ai @zu.eq_1 (ai @zt.eq_1 (ai @zq.eq_1 (ai @zp.eq_1 (ai @zo.eq_1 (ai @zn.eq_1 (ai @zm.eq_1 (ai @zl.eq_1 (ai @rv.eq_1 @ry.eq_1))))))))))) := ⟨rfl,rfl,rfl,rfl,rfl,rfl,rfl,rfl,rfl,rfl,rfl,rfl⟩
theorem zc79 : u4 Try.prog [(6,⟨[0,1,2,3,4,5,6,7,8],[0,0,3,7,0,0,48,112,255],[],[],.nil⟩)] il = some (26,rv.erase,[.tmp 4]) := by kernel_rfl
end Ic
end Go.Proofs.Ytdcfoaafkppojaa
