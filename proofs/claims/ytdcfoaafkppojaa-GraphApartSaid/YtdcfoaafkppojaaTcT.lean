import Derived.Test.YtdcfoaafkppojaaProg
import Derived.Test.YtdcfoaafkppojaaTv9
import Derived.KernelRfl
set_option linter.unusedVariables false
/- The code of functions for the tree level, printed by a program out of the model's own print; the kernel checks each. -/
namespace Go.Proofs.Ytdcfoaafkppojaa
open Go Go.RowKit Sh
namespace Ic
abbrev t (n : Nat) : Operand := .tmp n
abbrev ci (n : Int) : Operand := .const (.int .i64 n)
abbrev l9 : Nat := 10
abbrev xp : Nat := 27
abbrev xo : Nat := 28
abbrev xn : Nat := 29
abbrev mv : Nat := 30
abbrev jw : Nat := 32
abbrev mj : Nat := 34
abbrev qp : Nat := 36
abbrev rc : Nat := 38
abbrev rb : Nat := 40
abbrev jq : Nat := 43
abbrev mi : Nat := 47
abbrev zx : Nat := 54
abbrev re : Nat := 55
abbrev zbva : Nat := 56
abbrev cp : Nat := 57
abbrev il : Nat := 58
abbrev g9 : Nat := 59
abbrev dp : Nat := 61
abbrev dd : Nat := 62
abbrev bg : Nat := 63
abbrev gf : Nat := 64
abbrev kd : Nat := 66
abbrev io : Nat := 67
abbrev im : Nat := 68
abbrev qo : Nat := 87
abbrev lm : Nat := 88
abbrev qn : Nat := 89
abbrev zw : Nat := 90
abbrev gc : Nat := 91
abbrev fo : Nat := 92
abbrev g8 : Nat := 93
abbrev jn : Nat := 94
abbrev da : Nat := 95
abbrev kq : Nat := 119
abbrev zbq9 : Nat := 120
abbrev ve : Nat := 121
abbrev vd : Nat := 122
abbrev zy : Nat := 123
abbrev ei : Nat := 124
abbrev fq : Nat := 125
abbrev bu : Nat := 126
abbrev bp : Nat := 131
abbrev fy : Nat := 132
abbrev dx : Nat := 133
abbrev xm : Nat := 136
abbrev n5 : Nat := 137
abbrev ul : Nat := 138
abbrev ca : Nat := 141
abbrev xl : Nat := 143
abbrev ja : Nat := 144
abbrev dq : Nat := 3
abbrev zbx1 : Nat := 4
abbrev mr : Nat := 5
abbrev ey : Nat := 9
abbrev zl : Nat := 24
abbrev aw : Nat := 27
abbrev du : Nat := 43
abbrev ju : Nat := 45
abbrev nh : Nat := 87
abbrev dw : Nat := 130
abbrev i8 : Nat := 136
abbrev Qo (d : Nat) (x : I) : am := ⟨⟨some d,x,none⟩,0⟩
abbrev Qt (j d : Nat) (x : I) : am := ⟨⟨some d,x,some (j,true)⟩,0⟩
abbrev Qf (j d : Nat) (x : I) : am := ⟨⟨some d,x,some (j,false)⟩,0⟩
abbrev Qm (m d : Nat) (x : I) : am := ⟨⟨some d,x,none⟩,m⟩
abbrev QF : Operand := .const (Go.Value.bool false)
abbrev QT : Operand := .const (Go.Value.bool true)
def zcii : List am := [Qo 2 (.mov QF)]
def zcij : List am := [Qo 6 (.call xo [(ci 4),(ci 5),(ci 6)]),
 Qo 3 (.box aw 7 (.const (.agg #[(.string ⟨#[]⟩),(.slice none 0 0),(.slice none 0 0),(.slice none 0 0),(.slice none 0 0),(.int .i64 0),(.int .i64 0)]))),
 ⟨⟨none,.store 7 (t 3) (t 6),none⟩,0⟩]
def zcik : List am := [Qo 7 (.mkFunc (.func jq) [] [(t 3)]),
 Qo 4 (.mov (t 7))]
def zcil : List am := [Qo 8 (.mov (t 0)),
 Qo 9 (.call xp [(t 8),(ci 4)]),
 Qo 5 (.mov (t 9))]
def zcim : List am := [Qo 10 (.mov (t 5))]
def zcio : List am := [Qo 15 (.bin .eql (t 10) (ci 0)),
 Qo 14 (.mov (t 15))]
def zcip : List am := [Qo 16 (.mov (t 4)),
 Qo 17 (.buildSl dq 1 8 [(.int .i64 0),(.int .i64 0),(.int .i64 0),(.int .i64 0),(.int .i64 0),(.int .i64 0),(.int .i64 0),(.int .i64 0)] [(0,1,(ci 0)),(1,1,(ci 1)),(2,1,(ci 1)),(3,1,(ci 0)),(4,1,(ci 2)),(5,1,(ci 3)),(6,1,(ci 3)),(7,1,(ci 2))]),
 Qo 18 (.callv (t 16) [(t 17)])]
def zciq : List am := [Qo 20 (.bin .eql (t 10) (ci 1)),
 Qo 19 (.mov (t 20))]
def zcir : List am := [Qo 21 (.mov (t 4)),
 Qo 22 (.buildSl dq 1 6 [(.int .i64 0),(.int .i64 0),(.int .i64 0),(.int .i64 0),(.int .i64 0),(.int .i64 0)] [(0,1,(ci 0)),(1,1,(ci 1)),(2,1,(ci 1)),(3,1,(ci 2)),(4,1,(ci 2)),(5,1,(ci 0))]),
 Qo 23 (.callv (t 21) [(t 22)])]
def zci0 : List am := [Qo 25 (.bin .eql (t 10) (ci 2)),
 Qo 24 (.mov (t 25))]
def zci1 : List am := [Qo 26 (.mov (t 4)),
 Qo 27 (.buildSl dq 1 8 [(.int .i64 0),(.int .i64 0),(.int .i64 0),(.int .i64 0),(.int .i64 0),(.int .i64 0),(.int .i64 0),(.int .i64 0)] [(0,1,(ci 0)),(1,1,(ci 1)),(2,1,(ci 1)),(3,1,(ci 2)),(4,1,(ci 2)),(5,1,(ci 3)),(6,1,(ci 3)),(7,1,(ci 1))]),
 Qo 28 (.callv (t 26) [(t 27)])]
def zcin : List am := [Qo 11 (.mov (t 4)),
 Qo 12 (.buildSl dq 1 10 [(.int .i64 0),(.int .i64 0),(.int .i64 0),(.int .i64 0),(.int .i64 0),(.int .i64 0),(.int .i64 0),(.int .i64 0),(.int .i64 0),(.int .i64 0)] [(0,1,(ci 0)),(1,1,(ci 1)),(2,1,(ci 1)),(3,1,(ci 2)),(4,1,(ci 2)),(5,1,(ci 3)),(6,1,(ci 3)),(7,1,(ci 0)),(8,1,(ci 2)),(9,1,(ci 0))]),
 Qo 13 (.callv (t 11) [(t 12)])]
def zci2 : List am := [Qo 29 (.loadN 7 (t 3)),
 Qo 30 (.call mv [(t 29)]),
 Qo 31 (.mov (t 5)),
 Qo 32 (.bin .eql (t 31) (ci 3)),
 Qo 33 (.eqB false (t 30) (t 32)),
 Qo 34 (.mov (t 33)),
 Qt 34 35 (.loadN 7 (t 3)),
 Qt 34 36 (.call mj [(t 35)]),
 Qt 34 37 (.mov (t 5)),
 Qt 34 38 (.bin .eql (t 37) (ci 3)),
 Qt 34 39 (.eqB false (t 36) (t 38)),
 Qo 40 (.pick (t 34) (t 39) QF),
 Qo 41 (.mov (t 40)),
 Qt 41 42 (.loadN 7 (t 3)),
 Qt 41 43 (.call jw [(t 42)]),
 Qt 41 44 (.mov (t 5)),
 Qt 41 45 (.bin .eql (t 44) (ci 1)),
 Qt 41 46 (.mov (t 45)),
 Qf 46 47 (.mov (t 5)),
 Qf 46 48 (.bin .eql (t 47) (ci 3)),
 Qt 41 49 (.pick (t 46) QT (t 48)),
 Qt 41 50 (.eqB false (t 43) (t 49)),
 Qo 51 (.pick (t 41) (t 50) QF),
 Qo 52 (.mov (t 51)),
 Qt 52 53 (.call xn []),
 Qo 54 (.pick (t 52) (t 53) QF),
 Qo 2 (.mov (t 54))]
def we : TC := (.seq (.ops zcii) (.clean [0] (.seq (.ops zcij) (.clean [0,3] (.seq (.ops zcik) (.clean [0,3,4] (.seq (.ops zcil) (.clean [3,4,5] (.seq (.seq (.ops zcim) (.block 0 [3,5] (.seq (.ops zcio) (.clean [3,4,5,10,14] (.cond (t 14) (.ops zcip) (.seq (.ops zciq) (.clean [3,4,5,10,19] (.cond (t 19) (.ops zcir) (.seq (.ops zci0) (.clean [3,4,5,24] (.cond (t 24) (.ops zci1) (.ops zcin)))))))))))) (.clean [3,5] (.seq (.ops zci2) (.ret [2]))))))))))))
def xf : TFn := ⟨55,we,[.tmp 2],false⟩
theorem ba : type_of% (ai @zcii.eq_1 (ai @zcij.eq_1 (ai @zcik.eq_1 (ai @zcil.eq_1 (ai @zcim.eq_1 (ai @zcio.eq_1 (ai @zcip.eq_1 (ai @zciq.eq_1 (ai @zcir.eq_1 (ai @zci0.eq_1 (ai @zci1.eq_1 (ai @zcin.eq_1 (ai @zci2.eq_1 (ai @we.eq_1 @xf.eq_1)))))))))))))) := ⟨rfl,rfl,rfl,rfl,rfl,rfl,rfl,rfl,rfl,rfl,rfl,rfl,rfl,rfl,rfl⟩
theorem zctd : wb Try.prog [] l9 = some (55,we.erase,[.tmp 2]) := by kernel_rfl
def zccw : List am := [Qo 4 (.mov (ci 0))]
def zcb4 : List am := [Qo 6 (.mov (t 0)),
 Qo 7 (.mov (t 1)),
 Qo 8 (.bin .rem (t 6) (t 7)),
 Qo 5 (.mov (t 8))]
def zcb5 : List am := [Qo 9 (.mov (t 5)),
 Qo 10 (.bin .lss (t 9) (ci 0))]
def zcb6 : List am := [Qo 11 (.mov (t 5)),
 Qo 12 (.mov (t 1)),
 Qo 13 (.bin .add (t 11) (t 12)),
 Qo 5 (.mov (t 13))]
def zcb7 : List am := [Qo 14 (.mov (t 5)),
 Qo 4 (.mov (t 14))]
def zb15 : TC := (.seq (.ops zccw) (.clean [0,1] (.seq (.ops zcb4) (.clean [1,5] (.seq (.seq (.ops zcb5) (.clean [1,5,10] (.cond (t 10) (.ops zcb6) .skip))) (.clean [5] (.seq (.ops zcb7) (.ret [4]))))))))
def zb1w : TFn := ⟨15,zb15,[.tmp 4],false⟩
theorem zb9i : type_of% (ai @zccw.eq_1 (ai @zcb4.eq_1 (ai @zcb5.eq_1 (ai @zcb6.eq_1 (ai @zcb7.eq_1 (ai @zb15.eq_1 @zb1w.eq_1)))))) := ⟨rfl,rfl,rfl,rfl,rfl,rfl,rfl⟩
theorem zcuu : wb Try.prog [] xp = some (15,zb15.erase,[.tmp 4]) := by kernel_rfl
def zcbj : List am := [Qo 6 (.box aw 7 (.const (.agg #[(.string ⟨#[]⟩),(.slice none 0 0),(.slice none 0 0),(.slice none 0 0),(.slice none 0 0),(.int .i64 0),(.int .i64 0)])))]
def zcbk : List am := [Qo 9 (.mov (t 0)),
 Qo 10 (.call zx [(t 9),(ci 0),(ci 2)]),
 Qo 11 (.buildSl dq 1 1 [(.int .i64 0)] [(0,1,(ci 0))]),
 Qo 12 (.mov (t 1)),
 Qo 13 (.mov (t 2)),
 Qo 14 (.build [(.string ⟨#[]⟩),(.slice none 0 0),(.slice none 0 0),(.slice none 0 0),(.slice none 0 0),(.int .i64 0),(.int .i64 0)] [(0,1,(.const (Go.Value.string ⟨#[114,105,110,103]⟩))),(2,1,(t 10)),(3,1,(t 11)),(5,1,(t 12)),(6,1,(t 13))]),
 Qo 7 (.box aw 7 (.const (.agg #[(.string ⟨#[]⟩),(.slice none 0 0),(.slice none 0 0),(.slice none 0 0),(.slice none 0 0),(.int .i64 0),(.int .i64 0)]))),
 ⟨⟨none,.store 7 (t 7) (t 14),none⟩,0⟩]
def zcbl : List am := [Qo 8 (.mov (ci 0))]
def zcbm : List am := [Qo 15 (.mov (t 8)),
 Qo 16 (.mov (t 0)),
 Qo 17 (.bin .lss (t 15) (t 16))]
def zcbo : List am := [Qo 20 (.fieldAddr 1 (t 7)),
 Qo 21 (.load1 (t 20)),
 Qo 22 (.mov (t 8)),
 Qo 23 (.call re [(t 22)]),
 Qo 24 (.build [(.string ⟨#[]⟩),(.slice none 0 0)] [(0,1,(t 23))]),
 Qo 25 (.buildSl ju 2 1 [(.string ⟨#[]⟩),(.slice none 0 0)] [(0,2,(t 24))]),
 Qm 1 26 (.append ju 2 40 (t 21) (t 25)),
 Qm 9 27 (.fieldAddr 1 (t 7)),
 ⟨⟨none,.store 1 (t 27) (t 26),none⟩,0⟩]
def zcbn : List am := [Qo 18 (.mov (t 8)),
 Qo 19 (.bin .add (t 18) (ci 1)),
 Qo 8 (.mov (t 19))]
def x7 : TC := (.seq (.seq (.ops zcbm) (.clean [0,6,7,8,17] (.cond (t 17) .skip (.exit 0)))) (.clean [0,6,7,8] (.seq (.block 1 [0,6,7,8] (.draw (pl zcbo))) (.clean [0,6,7,8] (.ops zcbn)))))
def zcbp : List am := [Qo 28 (.loadN 7 (t 7)),
 Qo 29 (.call zbva [(t 28)]),
 ⟨⟨none,.store 7 (t 6) (t 29),none⟩,9⟩]
def zb1j : TC := (.seq (.ops zcbj) (.clean [0,1,2,6] (.seq (.ops zcbk) (.clean [0,6,7] (.seq (.seq (.ops zcbl) (.block 0 [6,7] (.clean [0,6,7,8] (.loop [0,6,7,8] x7)))) (.clean [6,7] (.seq (.ops zcbp) (.ret [6]))))))))
def zb1r : TFn := ⟨30,zb1j,[.cellN 6 7],true⟩
theorem zby5 : type_of% (ai @zcbj.eq_1 (ai @zcbk.eq_1 (ai @zcbl.eq_1 (ai @zcbm.eq_1 (ai @zcbo.eq_1 (ai @zcbn.eq_1 (ai @zcbp.eq_1 (ai @zb1j.eq_1 @zb1r.eq_1)))))))) := ⟨rfl,rfl,rfl,rfl,rfl,rfl,rfl,rfl,rfl⟩
theorem zbdl : wb Try.prog [(5,⟨[0,1,2,3,4,5,6,7,8],[0,1,0,4,12,28,63,127,255],[],[],.nil⟩)] xo = some (30,zb1j.erase,[.cellN 6 7]) := by kernel_rfl
def zcbs : List am := [Qo 6 (.mov (.const (Go.Value.slice none 0 0)))]
def zcau : List am := [Qo 7 (.mov (.const (Go.Value.slice none 0 0)))]
def zcav : List am := [Qo 8 (.mov (ci 0))]
def zcaw : List am := [Qo 12 (.mov (t 8)),
 Qo 13 (.mov (t 0)),
 Qo 14 (.bin .lss (t 12) (t 13))]
def zcay : List am := [Qo 17 (.mov (t 7)),
 Qo 18 (.mov (t 8)),
 Qo 19 (.mov (t 8)),
 Qo 20 (.bin .add (t 19) (ci 1)),
 Qo 21 (.mov (t 0)),
 Qo 22 (.bin .rem (t 20) (t 21)),
 Qo 23 (.build [(.int .i64 0),(.int .i64 0),(.int .i64 0),(.string ⟨#[]⟩),(.int .i64 0)] [(0,1,(t 18)),(1,1,(t 22))]),
 Qo 24 (.buildSl du 5 1 [(.int .i64 0),(.int .i64 0),(.int .i64 0),(.string ⟨#[]⟩),(.int .i64 0)] [(0,5,(t 23))]),
 Qm 1 25 (.append du 5 48 (t 17) (t 24)),
 Qo 7 (.mov (t 25))]
def zcax : List am := [Qo 15 (.mov (t 8)),
 Qo 16 (.bin .add (t 15) (ci 1)),
 Qo 8 (.mov (t 16))]
def u5 : TC := (.seq (.seq (.ops zcaw) (.clean [0,1,2,7,8,14] (.cond (t 14) .skip (.exit 0)))) (.clean [0,1,2,7,8] (.seq (.block 1 [0,1,2,7,8] (.ops zcay)) (.clean [0,1,2,7,8] (.ops zcax)))))
def zcaz : List am := [Qo 9 (.mov (ci 0))]
def zca0 : List am := [Qo 26 (.mov (t 9)),
 Qo 27 (.mov (t 0)),
 Qo 28 (.bin .lss (t 26) (t 27))]
def zca2 : List am := [Qo 10 (.mov (ci 0))]
def zcb8 : List am := [Qo 31 (.mov (t 10)),
 Qo 32 (.mov (t 0)),
 Qo 33 (.bin .lss (t 31) (t 32))]
def zcca : List am := [Qo 36 (.mov (t 9)),
 Qo 37 (.mov (t 10)),
 Qo 38 (.bin .eql (t 36) (t 37)),
 Qo 39 (.mov (t 38)),
 Qf 39 40 (.mov (t 10)),
 Qf 39 41 (.mov (t 9)),
 Qf 39 42 (.bin .add (t 41) (ci 1)),
 Qf 39 43 (.mov (t 0)),
 Qf 39 44 (.bin .rem (t 42) (t 43)),
 Qf 39 45 (.bin .eql (t 40) (t 44)),
 Qo 46 (.pick (t 39) QT (t 45))]
def zccb : List am := [Qo 47 (.mov (t 1)),
 Qo 48 (.bin .rem (t 47) (ci 2)),
 Qo 49 (.bin .eql (t 48) (ci 1)),
 Qo 50 (.mov (t 49)),
 Qt 50 51 (.mov (t 7)),
 Qt 50 52 (.lenL (t 51)),
 Qt 50 53 (.bin .lss (t 52) (ci 8)),
 Qo 54 (.pick (t 50) (t 53) QF)]
def zccc : List am := [Qo 55 (.mov (t 7)),
 Qo 56 (.mov (t 9)),
 Qo 57 (.mov (t 10)),
 Qo 58 (.build [(.int .i64 0),(.int .i64 0),(.int .i64 0),(.string ⟨#[]⟩),(.int .i64 0)] [(0,1,(t 56)),(1,1,(t 57))]),
 Qo 59 (.buildSl du 5 1 [(.int .i64 0),(.int .i64 0),(.int .i64 0),(.string ⟨#[]⟩),(.int .i64 0)] [(0,5,(t 58))]),
 Qm 1 60 (.append du 5 48 (t 55) (t 59)),
 Qo 7 (.mov (t 60))]
def zccd : List am := [Qo 61 (.mov (t 1)),
 Qo 62 (.bin .quo (t 61) (ci 2)),
 Qo 1 (.mov (t 62))]
def zcb9 : List am := [Qo 34 (.mov (t 10)),
 Qo 35 (.bin .add (t 34) (ci 1)),
 Qo 10 (.mov (t 35))]
def gv : TC := (.seq (.seq (.ops zcb8) (.clean [0,1,2,7,9,10,33] (.cond (t 33) .skip (.exit 4)))) (.clean [0,1,2,7,9,10] (.seq (.block 5 [0,1,2,7,9,10] (.seq (.seq (.ops zcca) (.clean [0,1,2,7,9,10,46] (.cond (t 46) (.exit 5) .skip))) (.clean [0,1,2,7,9,10] (.seq (.seq (.ops zccb) (.clean [0,1,2,7,9,10,54] (.cond (t 54) (.ops zccc) .skip))) (.clean [0,1,2,7,9,10] (.ops zccd)))))) (.clean [0,1,2,7,9,10] (.ops zcb9)))))
def zca1 : List am := [Qo 29 (.mov (t 9)),
 Qo 30 (.bin .add (t 29) (ci 1)),
 Qo 9 (.mov (t 30))]
def u4 : TC := (.seq (.seq (.ops zca0) (.clean [0,1,2,7,9,28] (.cond (t 28) .skip (.exit 2)))) (.clean [0,1,2,7,9] (.seq (.block 3 [0,1,2,7,9] (.seq (.ops zca2) (.block 4 [0,1,2,7,9] (.clean [0,1,2,7,9,10] (.loop [0,1,2,7,9,10] gv))))) (.clean [0,1,2,7,9] (.ops zca1)))))
def zcce : List am := [Qo 11 (.mov (ci 0))]
def zccf : List am := [Qo 63 (.mov (t 11)),
 Qo 64 (.mov (t 7)),
 Qo 65 (.lenL (t 64)),
 Qo 66 (.bin .lss (t 63) (t 65))]
def zcch : List am := [Qo 69 (.mov (t 7)),
 Qo 70 (.mov (t 11)),
 Qo 71 (.mov (t 11)),
 Qo 72 (.mov (t 2)),
 Qo 73 (.bin .add (t 71) (t 72)),
 Qo 74 (.mov (t 2)),
 Qo 75 (.bin .rem (t 74) (ci 3)),
 Qo 76 (.bin .add (ci 1) (t 75)),
 Qo 77 (.bin .rem (t 73) (t 76)),
 Qo 78 (.indexSl 5 (t 69) (t 70)),
 Qo 79 (.fieldAddr 2 (t 78)),
 ⟨⟨none,.store 1 (t 79) (t 77),none⟩,0⟩]
def zcci : List am := [Qo 80 (.mov (t 7)),
 Qo 81 (.mov (t 11)),
 Qo 82 (.build [(.string ⟨#[]⟩),(.string ⟨#[]⟩)] [(0,1,(.const (Go.Value.string ⟨#[103,111,108,100]⟩))),(1,1,(.const (Go.Value.string ⟨#[115,97,108,116]⟩)))]),
 Qo 83 (.mov (t 11)),
 Qo 84 (.mov (t 1)),
 Qo 85 (.bin .add (t 83) (t 84)),
 Qo 86 (.bin .rem (t 85) (ci 2)),
 Qo 87 (.indexAgg 2 (t 82) (t 86)),
 Qo 88 (.indexSl 5 (t 80) (t 81)),
 Qo 89 (.fieldAddr 3 (t 88)),
 ⟨⟨none,.store 1 (t 89) (t 87),none⟩,0⟩]
def zccj : List am := [Qo 90 (.mov (t 7)),
 Qo 91 (.mov (t 11)),
 Qo 92 (.mov (t 11)),
 Qo 93 (.bin .mul (ci 7) (t 92)),
 Qo 94 (.mov (t 2)),
 Qo 95 (.bin .add (t 93) (t 94)),
 Qo 96 (.bin .rem (t 95) (ci 20)),
 Qo 97 (.bin .add (ci 1) (t 96)),
 Qo 98 (.indexSl 5 (t 90) (t 91)),
 Qo 99 (.fieldAddr 4 (t 98)),
 ⟨⟨none,.store 1 (t 99) (t 97),none⟩,0⟩]
def zccg : List am := [Qo 67 (.mov (t 11)),
 Qo 68 (.bin .add (t 67) (ci 1)),
 Qo 11 (.mov (t 68))]
def x6 : TC := (.seq (.seq (.ops zccf) (.clean [1,2,7,11,66] (.cond (t 66) .skip (.exit 6)))) (.clean [1,2,7,11] (.seq (.block 7 [1,2,7,11] (.seq (.ops zcch) (.clean [1,2,7,11] (.seq (.ops zcci) (.clean [1,2,7,11] (.ops zccj)))))) (.clean [1,2,7,11] (.ops zccg)))))
def zcck : List am := [Qo 100 (.mov (t 7)),
 Qo 6 (.mov (t 100))]
def zb1l : TC := (.seq (.ops zcbs) (.clean [0,1,2] (.seq (.ops zcau) (.clean [0,1,2,7] (.seq (.seq (.ops zcav) (.block 0 [0,1,2,7] (.clean [0,1,2,7,8] (.loop [0,1,2,7,8] u5)))) (.clean [0,1,2,7] (.seq (.seq (.ops zcaz) (.block 2 [1,2,7] (.clean [0,1,2,7,9] (.loop [0,1,2,7,9] u4)))) (.clean [1,2,7] (.seq (.seq (.ops zcce) (.block 6 [7] (.clean [1,2,7,11] (.loop [1,2,7,11] x6)))) (.clean [7] (.seq (.ops zcck) (.ret [6]))))))))))))
def zb1t : TFn := ⟨101,zb1l,[.tmp 6],true⟩
theorem dj : type_of% (ai @zcbs.eq_1 (ai @zcau.eq_1 (ai @zcav.eq_1 (ai @zcaw.eq_1 (ai @zcay.eq_1 (ai @zcax.eq_1 (ai @zcaz.eq_1 (ai @zca0.eq_1 (ai @zca2.eq_1 (ai @zcb8.eq_1 (ai @zcca.eq_1 (ai @zccb.eq_1 (ai @zccc.eq_1 (ai @zccd.eq_1 (ai @zcb9.eq_1 (ai @zca1.eq_1 (ai @zcce.eq_1 (ai @zccf.eq_1 (ai @zcch.eq_1 (ai @zcci.eq_1 (ai @zccj.eq_1 (ai @zccg.eq_1 (ai @zcck.eq_1 (ai @zb1l.eq_1 @zb1t.eq_1)))))))))))))))))))))))) := ⟨rfl,rfl,rfl,rfl,rfl,rfl,rfl,rfl,rfl,rfl,rfl,rfl,rfl,rfl,rfl,rfl,rfl,rfl,rfl,rfl,rfl,rfl,rfl,rfl,rfl⟩
theorem zbdj : wb Try.prog [] zx = some (101,zb1l.erase,[.tmp 6]) := by kernel_rfl
def zcgw : List am := [Qo 2 (.mov (.const (Go.Value.string ⟨#[]⟩)))]
def zcgx : List am := [Qo 3 (.mov (t 0)),
 Qo 4 (.call kq [(t 3)]),
 Qo 5 (.bin .add (.const (Go.Value.string ⟨#[112,97,114,116,121]⟩)) (t 4)),
 Qo 2 (.mov (t 5))]
def zb2y : TC := (.seq (.ops zcgw) (.clean [0] (.seq (.ops zcgx) (.ret [2]))))
def zb2u : TFn := ⟨6,zb2y,[.tmp 2],false⟩
theorem zcrf : type_of% (ai @zcgw.eq_1 (ai @zcgx.eq_1 (ai @zb2y.eq_1 @zb2u.eq_1))) := ⟨rfl,rfl,rfl,rfl⟩
theorem zcqx : wb Try.prog [] re = some (6,zb2y.erase,[.tmp 2]) := by kernel_rfl
def zceo : List am := [Qo 2 (.mov (.const (Go.Value.string ⟨#[]⟩)))]
def zcep : List am := [Qo 5 (.mov (t 0)),
 Qo 6 (.bin .leq (t 5) (ci (-10))),
 Qo 4 (.mov (t 6))]
def zceq : List am := [Qo 7 (.mov (t 0)),
 Qo 8 (.bin .rem (t 7) (ci 10)),
 Qo 9 (.un .neg (t 8)),
 Qo 3 (.mov (t 9))]
def zcer : List am := [Qo 10 (.mov (t 0)),
 Qo 11 (.bin .quo (t 10) (ci 10)),
 Qo 13 (.mov (t 3)),
 Qo 14 (.mov (t 3)),
 Qo 15 (.bin .add (t 14) (ci 1)),
 Qo 16 (.sliceStr (.const (Go.Value.string ⟨#[48,49,50,51,52,53,54,55,56,57]⟩)) (some (t 13)) (some (t 15))),
 Qo 12 (.call kq [(t 11)]),
 Qo 17 (.bin .add (t 12) (t 16)),
 Qo 2 (.mov (t 17))]
def zces : List am := [Qo 19 (.mov (t 0)),
 Qo 20 (.bin .lss (t 19) (ci 0)),
 Qo 18 (.mov (t 20))]
def zcet : List am := [Qo 21 (.mov (t 0)),
 Qo 22 (.un .neg (t 21)),
 Qo 23 (.mov (t 0)),
 Qo 24 (.un .neg (t 23)),
 Qo 25 (.bin .add (t 24) (ci 1)),
 Qo 26 (.sliceStr (.const (Go.Value.string ⟨#[48,49,50,51,52,53,54,55,56,57]⟩)) (some (t 22)) (some (t 25))),
 Qo 27 (.bin .add (.const (Go.Value.string ⟨#[45]⟩)) (t 26)),
 Qo 2 (.mov (t 27))]
def zceu : List am := [Qo 29 (.mov (t 0)),
 Qo 30 (.bin .lss (t 29) (ci 10)),
 Qo 28 (.mov (t 30))]
def zcev : List am := [Qo 31 (.mov (t 0)),
 Qo 32 (.mov (t 0)),
 Qo 33 (.bin .add (t 32) (ci 1)),
 Qo 34 (.sliceStr (.const (Go.Value.string ⟨#[48,49,50,51,52,53,54,55,56,57]⟩)) (some (t 31)) (some (t 33))),
 Qo 2 (.mov (t 34))]
def zcdw : List am := [Qo 35 (.mov (t 0)),
 Qo 36 (.bin .quo (t 35) (ci 10)),
 Qo 38 (.mov (t 0)),
 Qo 39 (.bin .rem (t 38) (ci 10)),
 Qo 40 (.mov (t 0)),
 Qo 41 (.bin .rem (t 40) (ci 10)),
 Qo 42 (.bin .add (t 41) (ci 1)),
 Qo 43 (.sliceStr (.const (Go.Value.string ⟨#[48,49,50,51,52,53,54,55,56,57]⟩)) (some (t 39)) (some (t 42))),
 Qo 37 (.call kq [(t 36)]),
 Qo 44 (.bin .add (t 37) (t 43)),
 Qo 2 (.mov (t 44))]
def zb2g : TC := (.seq (.ops zceo) (.clean [0] (.seq (.block 0 [0] (.seq (.ops zcep) (.clean [0,4] (.cond (t 4) (.seq (.ops zceq) (.clean [0,3] (.seq (.draw (pl zcer)) (.ret [2])))) (.seq (.ops zces) (.clean [0,18] (.cond (t 18) (.seq (.ops zcet) (.ret [2])) (.seq (.ops zceu) (.clean [0,28] (.cond (t 28) (.seq (.ops zcev) (.ret [2])) .skip)))))))))) (.clean [0] (.seq (.draw (pl zcdw)) (.ret [2]))))))
def zb2m : TFn := ⟨45,zb2g,[.tmp 2],false⟩
theorem zcvn : type_of% (ai @zceo.eq_1 (ai @zcep.eq_1 (ai @zceq.eq_1 (ai @zcer.eq_1 (ai @zces.eq_1 (ai @zcet.eq_1 (ai @zceu.eq_1 (ai @zcev.eq_1 (ai @zcdw.eq_1 (ai @zb2g.eq_1 @zb2m.eq_1)))))))))) := ⟨rfl,rfl,rfl,rfl,rfl,rfl,rfl,rfl,rfl,rfl,rfl⟩
theorem zcvp : wb Try.prog [(3,⟨[0,1,3,4,5,6,2,7,8],[0,1,3,0,0,16,56,127,255],[],[],.nil⟩),(8,⟨[0,1,3,4,5,6,7,8,2,9,10],[0,1,3,0,8,0,32,96,248,511,1023],[],[],.nil⟩)] kq = some (45,zb2g.erase,[.tmp 2]) := by kernel_rfl
def zccl : List am := [Qo 1 (.box aw 7 (t 0)),
 Qo 2 (.box aw 7 (.const (.agg #[(.string ⟨#[]⟩),(.slice none 0 0),(.slice none 0 0),(.slice none 0 0),(.slice none 0 0),(.int .i64 0),(.int .i64 0)])))]
def zccm : List am := [Qo 6 (.fieldAddr 4 (t 1)),
 ⟨⟨none,.store 1 (t 6) (.const (Go.Value.slice none 0 0)),none⟩,0⟩]
def zccn : List am := [Qo 3 (.mov (ci 0))]
def zcco : List am := [Qo 7 (.mov (t 3)),
 Qo 8 (.fieldAddr 3 (t 1)),
 Qo 9 (.load1 (t 8)),
 Qo 10 (.lenL (t 9)),
 Qo 11 (.bin .lss (t 7) (t 10))]
def zccq : List am := [Qo 14 (.fieldAddr 4 (t 1)),
 Qm 2 15 (.load1 (t 14)),
 Qo 16 (.mov (t 3)),
 Qo 17 (.call ve [(t 16)]),
 Qo 18 (.call zbq9 [(t 17)]),
 Qo 19 (.buildSl ey 1 1 [(.string ⟨#[]⟩)] [(0,1,(t 18))]),
 Qo 20 (.append ey 1 16 (t 15) (t 19)),
 Qo 21 (.fieldAddr 4 (t 1)),
 ⟨⟨none,.store 1 (t 21) (t 20),none⟩,2⟩]
def zccp : List am := [Qo 12 (.mov (t 3)),
 Qo 13 (.bin .add (t 12) (ci 1)),
 Qo 3 (.mov (t 13))]
def vp : TC := (.seq (.seq (.ops zcco) (.clean [1,2,3,11] (.cond (t 11) .skip (.exit 0)))) (.clean [1,2,3] (.seq (.block 1 [1,2,3] (.draw (pl zccq))) (.clean [1,2,3] (.ops zccp)))))
def zccr : List am := [Qo 4 (.mov (ci 0))]
def zccs : List am := [Qo 22 (.mov (t 4)),
 Qo 23 (.fieldAddr 1 (t 1)),
 Qo 24 (.load1 (t 23)),
 Qo 25 (.lenL (t 24)),
 Qo 26 (.bin .lss (t 22) (t 25))]
def zcdf : List am := [Qo 29 (.fieldAddr 1 (t 1)),
 Qo 30 (.load1 (t 29)),
 Qo 31 (.mov (t 4)),
 Qo 32 (.indexSl 2 (t 30) (t 31)),
 Qo 33 (.fieldAddr 1 (t 32)),
 ⟨⟨none,.store 1 (t 33) (.const (Go.Value.slice none 0 0)),none⟩,0⟩]
def zcdz : List am := [Qo 5 (.mov (ci 0))]
def zcd0 : List am := [Qo 34 (.mov (t 5)),
 Qo 35 (.fieldAddr 3 (t 1)),
 Qo 36 (.load1 (t 35)),
 Qo 37 (.lenL (t 36)),
 Qo 38 (.bin .lss (t 34) (t 37))]
def zcd2 : List (am × List Nat) := [(Qo 41 (.fieldAddr 1 (t 1)),[]),
 (Qo 42 (.load1 (t 41)),[]),
 (Qo 43 (.mov (t 4)),[]),
 (Qo 44 (.fieldAddr 1 (t 1)),[]),
 (Qo 45 (.load1 (t 44)),[]),
 (Qo 46 (.mov (t 4)),[]),
 (Qo 47 (.indexSl 2 (t 45) (t 46)),[]),
 (Qo 48 (.fieldAddr 1 (t 47)),[]),
 (Qm 2 49 (.load1 (t 48)),[]),
 (Qo 50 (.mov (t 4)),[]),
 (Qo 52 (.mov (t 5)),[]),
 (Qo 51 (.call zy [(t 50)]),[]),
 (Qo 53 (.call vd [(t 51),(t 52)]),[]),
 (Qo 54 (.buildSl ey 1 1 [(.string ⟨#[]⟩)] [(0,1,(t 53))]),[]),
 (Qo 55 (.append ey 1 16 (t 49) (t 54)),[1]),
 (Qo 56 (.indexSl 2 (t 42) (t 43)),[]),
 (Qo 57 (.fieldAddr 1 (t 56)),[]),
 (⟨⟨none,.store 1 (t 57) (t 55),none⟩,2⟩,[])]
def zcd1 : List am := [Qo 39 (.mov (t 5)),
 Qo 40 (.bin .add (t 39) (ci 1)),
 Qo 5 (.mov (t 40))]
def vo : TC := (.seq (.seq (.ops zcd0) (.clean [1,2,4,5,38] (.cond (t 38) .skip (.exit 4)))) (.clean [1,2,4,5] (.seq (.block 5 [1,2,4,5] (.draw zcd2)) (.clean [1,2,4,5] (.ops zcd1)))))
def zcct : List am := [Qo 27 (.mov (t 4)),
 Qo 28 (.bin .add (t 27) (ci 1)),
 Qo 4 (.mov (t 28))]
def zh : TC := (.seq (.seq (.ops zccs) (.clean [1,2,4,26] (.cond (t 26) .skip (.exit 2)))) (.clean [1,2,4] (.seq (.block 3 [1,2,4] (.seq (.ops zcdf) (.clean [1,2,4] (.seq (.ops zcdz) (.block 4 [1,2,4] (.clean [1,2,4,5] (.loop [1,2,4,5] vo))))))) (.clean [1,2,4] (.ops zcct)))))
def zcd3 : List am := [Qo 58 (.loadN 7 (t 1)),
 ⟨⟨none,.store 7 (t 2) (t 58),none⟩,0⟩]
def zb16 : TC := (.seq (.ops zccl) (.clean [1,2] (.seq (.ops zccm) (.clean [1,2] (.seq (.seq (.ops zccn) (.block 0 [1,2] (.clean [1,2,3] (.loop [1,2,3] vp)))) (.clean [1,2] (.seq (.seq (.ops zccr) (.block 2 [1,2] (.clean [1,2,4] (.loop [1,2,4] zh)))) (.clean [1,2] (.seq (.ops zcd3) (.ret [2]))))))))))
def zb1x : TFn := ⟨59,zb16,[.cellN 2 7],false⟩
theorem nz : type_of% (ai @zccl.eq_1 (ai @zccm.eq_1 (ai @zccn.eq_1 (ai @zcco.eq_1 (ai @zccq.eq_1 (ai @zccp.eq_1 (ai @zccr.eq_1 (ai @zccs.eq_1 (ai @zcdf.eq_1 (ai @zcdz.eq_1 (ai @zcd0.eq_1 (ai @zcd2.eq_1 (ai @zcd1.eq_1 (ai @zcct.eq_1 (ai @zcd3.eq_1 (ai @zb16.eq_1 @zb1x.eq_1)))))))))))))))) := ⟨rfl,rfl,rfl,rfl,rfl,rfl,rfl,rfl,rfl,rfl,rfl,rfl,rfl,rfl,rfl,rfl,rfl⟩
theorem zcuv : wb Try.prog [(5,⟨[0,1,2,3,4,5,6,7,8],[0,1,0,4,12,28,63,127,255],[],[],.nil⟩),(13,⟨[0,1,2,3,4,5,6,7,8,9,11,10,12,13,14,15,16,17],[0,1,0,0,8,0,56,120,248,0,512,0,3584,7680,16376,32767,65535,131071],[],[(14,[1])],.nil⟩)] zbva = some (59,zb16.erase,[.cellN 2 7]) := by kernel_rfl
def zb95 : List am := [Qo 2 (.mov (.const (Go.Value.string ⟨#[]⟩)))]
def zb96 : List am := [Qo 11 (.mov (t 0)),
 Qm 2 12 (.toBytes mr (t 11)),
 Qo 13 (.buildSl mr 1 1 [(.int .u8 0)] [(0,1,(.const (Go.Value.int Go.IntKind.u8 128)))]),
 Qo 14 (.append mr 1 1 (t 12) (t 13)),
 Qo 3 (.mov (t 14))]
def zb9k : List am := [Qo 15 (.mov (t 3)),
 Qo 16 (.lenL (t 15)),
 Qo 17 (.bin .rem (t 16) (ci 64)),
 Qo 18 (.bin .neq (t 17) (ci 56))]
def zb9l : List am := [Qo 19 (.mov (t 3)),
 Qo 20 (.buildSl mr 1 1 [(.int .u8 0)] [(0,1,(.const (Go.Value.int Go.IntKind.u8 0)))]),
 Qo 21 (.append mr 1 1 (t 19) (t 20)),
 Qo 3 (.mov (t 21))]
def zbzf : TC := (.seq (.seq (.ops zb9k) (.clean [0,3,18] (.cond (t 18) .skip (.exit 0)))) (.block 1 [0,3] (.ops zb9l)))
def zb9m : List am := [Qo 22 (.mov (t 0)),
 Qo 23 (.lenS (t 22)),
 Qo 24 (.conv .u64 (t 23)),
 Qo 25 (.bin .mul (t 24) (.const (Go.Value.int Go.IntKind.u64 8))),
 Qo 4 (.mov (t 25))]
def zb9n : List am := [Qo 5 (.mov (ci 0))]
def zb9o : List am := [Qo 26 (.mov (t 5)),
 Qo 27 (.bin .lss (t 26) (ci 8))]
def zb9q : List am := [Qo 30 (.mov (t 3)),
 Qo 31 (.mov (t 4)),
 Qo 32 (.mov (t 5)),
 Qo 33 (.bin .mul (ci 8) (t 32)),
 Qo 34 (.bin .sub (ci 56) (t 33)),
 Qo 35 (.conv .u64 (t 34)),
 Qo 36 (.bin .shr (t 31) (t 35)),
 Qo 37 (.conv .u8 (t 36)),
 Qo 38 (.buildSl mr 1 1 [(.int .u8 0)] [(0,1,(t 37))]),
 Qo 39 (.append mr 1 1 (t 30) (t 38)),
 Qo 3 (.mov (t 39))]
def zb9p : List am := [Qo 28 (.mov (t 5)),
 Qo 29 (.bin .add (t 28) (ci 1)),
 Qo 5 (.mov (t 29))]
def zbzg : TC := (.seq (.seq (.ops zb9o) (.clean [3,4,5,27] (.cond (t 27) .skip (.exit 2)))) (.clean [3,4,5] (.seq (.block 3 [3,4,5] (.ops zb9q)) (.clean [3,4,5] (.ops zb9p)))))
def zb9r : List am := [Qo 40 (.mov (t 3)),
 Qo 41 (.toStr (t 40)),
 Qo 6 (.mov (t 41))]
def zca3 : List am := [Qo 42 (.build [(.int .u32 0),(.int .u32 0),(.int .u32 0),(.int .u32 0),(.int .u32 0),(.int .u32 0),(.int .u32 0),(.int .u32 0)] [(0,1,(.const (Go.Value.int Go.IntKind.u32 1779033703))),(1,1,(.const (Go.Value.int Go.IntKind.u32 3144134277))),(2,1,(.const (Go.Value.int Go.IntKind.u32 1013904242))),(3,1,(.const (Go.Value.int Go.IntKind.u32 2773480762))),(4,1,(.const (Go.Value.int Go.IntKind.u32 1359893119))),(5,1,(.const (Go.Value.int Go.IntKind.u32 2600822924))),(6,1,(.const (Go.Value.int Go.IntKind.u32 528734635))),(7,1,(.const (Go.Value.int Go.IntKind.u32 1541459225)))]),
 Qo 7 (.box dw 8 (.const (.agg #[(.int .u32 0),(.int .u32 0),(.int .u32 0),(.int .u32 0),(.int .u32 0),(.int .u32 0),(.int .u32 0),(.int .u32 0)]))),
 ⟨⟨none,.store 8 (t 7) (t 42),none⟩,0⟩]
def zca4 : List am := [Qo 8 (.mov (ci 0))]
def zca5 : List am := [Qo 43 (.mov (t 8)),
 Qo 44 (.mov (t 6)),
 Qo 45 (.lenS (t 44)),
 Qo 46 (.bin .lss (t 43) (t 45))]
def zca7 : List am := [Qo 49 (.loadN 8 (t 7)),
 Qo 50 (.mov (t 6)),
 Qo 51 (.mov (t 8)),
 Qo 52 (.mov (t 8)),
 Qo 53 (.bin .add (t 52) (ci 64)),
 Qo 54 (.sliceStr (t 50) (some (t 51)) (some (t 53))),
 Qo 55 (.call xm [(t 49),(t 54)]),
 ⟨⟨none,.store 8 (t 7) (t 55),none⟩,0⟩]
def zca6 : List am := [Qo 47 (.mov (t 8)),
 Qo 48 (.bin .add (t 47) (ci 64)),
 Qo 8 (.mov (t 48))]
def zbza : TC := (.seq (.seq (.ops zca5) (.clean [6,7,8,46] (.cond (t 46) .skip (.exit 4)))) (.clean [6,7,8] (.seq (.block 5 [6,7,8] (.draw (pl zca7))) (.clean [6,7,8] (.ops zca6)))))
def zca8 : List am := [Qm 1 9 (.mov (.const (Go.Value.slice none 0 0)))]
def zca9 : List am := [Qo 10 (.mov (ci 0))]
def zcba : List am := [Qo 56 (.mov (t 10)),
 Qo 57 (.bin .lss (t 56) (ci 8))]
def zcbc : List am := [Qo 60 (.mov (t 9)),
 Qo 61 (.mov (t 10)),
 Qo 62 (.indexPtr 8 1 (t 7) (t 61)),
 Qo 63 (.load1 (t 62)),
 Qo 64 (.bin .shr (t 63) (.const (Go.Value.int Go.IntKind.u64 24))),
 Qo 65 (.conv .u8 (t 64)),
 Qo 66 (.mov (t 10)),
 Qo 67 (.indexPtr 8 1 (t 7) (t 66)),
 Qo 68 (.load1 (t 67)),
 Qo 69 (.bin .shr (t 68) (.const (Go.Value.int Go.IntKind.u64 16))),
 Qo 70 (.conv .u8 (t 69)),
 Qo 71 (.mov (t 10)),
 Qo 72 (.indexPtr 8 1 (t 7) (t 71)),
 Qo 73 (.load1 (t 72)),
 Qo 74 (.bin .shr (t 73) (.const (Go.Value.int Go.IntKind.u64 8))),
 Qo 75 (.conv .u8 (t 74)),
 Qo 76 (.mov (t 10)),
 Qo 77 (.indexPtr 8 1 (t 7) (t 76)),
 Qo 78 (.load1 (t 77)),
 Qo 79 (.conv .u8 (t 78)),
 Qo 80 (.buildSl mr 1 4 [(.int .u8 0),(.int .u8 0),(.int .u8 0),(.int .u8 0)] [(0,1,(t 65)),(1,1,(t 70)),(2,1,(t 75)),(3,1,(t 79))]),
 Qo 81 (.append mr 1 1 (t 60) (t 80)),
 Qo 9 (.mov (t 81))]
def zcbb : List am := [Qo 58 (.mov (t 10)),
 Qo 59 (.bin .add (t 58) (ci 1)),
 Qo 10 (.mov (t 59))]
def zbzb : TC := (.seq (.seq (.ops zcba) (.clean [7,9,10,57] (.cond (t 57) .skip (.exit 6)))) (.clean [7,9,10] (.seq (.block 7 [7,9,10] (.draw (pl zcbc))) (.clean [7,9,10] (.ops zcbb)))))
def zcbd : List am := [Qo 82 (.mov (t 9)),
 Qo 83 (.toStr (t 82)),
 Qo 2 (.mov (t 83))]
def zb1b : TC := (.seq (.ops zb95) (.clean [0] (.seq (.ops zb96) (.clean [0,3] (.seq (.block 0 [0,3] (.clean [0,3] (.loop [0,3] zbzf))) (.clean [0,3] (.seq (.ops zb9m) (.clean [3,4] (.seq (.seq (.ops zb9n) (.block 2 [3] (.clean [3,4,5] (.loop [3,4,5] zbzg)))) (.clean [3] (.seq (.ops zb9r) (.clean [6] (.seq (.ops zca3) (.clean [6,7] (.seq (.seq (.ops zca4) (.block 4 [7] (.clean [6,7,8] (.loop [6,7,8] zbza)))) (.clean [7] (.seq (.ops zca8) (.clean [7,9] (.seq (.seq (.ops zca9) (.block 6 [9] (.clean [7,9,10] (.loop [7,9,10] zbzb)))) (.clean [9] (.seq (.ops zcbd) (.ret [2]))))))))))))))))))))))
def zb0z : TFn := ⟨84,zb1b,[.tmp 2],false⟩
theorem iy : type_of% (ai @zb95.eq_1 (ai @zb96.eq_1 (ai @zb9k.eq_1 (ai @zb9l.eq_1 (ai @zb9m.eq_1 (ai @zb9n.eq_1 (ai @zb9o.eq_1 (ai @zb9q.eq_1 (ai @zb9p.eq_1 (ai @zb9r.eq_1 (ai @zca3.eq_1 (ai @zca4.eq_1 (ai @zca5.eq_1 (ai @zca7.eq_1 (ai @zca6.eq_1 (ai @zca8.eq_1 (ai @zca9.eq_1 (ai @zcba.eq_1 (ai @zcbc.eq_1 (ai @zcbb.eq_1 (ai @zcbd.eq_1 (ai @zb1b.eq_1 @zb0z.eq_1)))))))))))))))))))))) := ⟨rfl,rfl,rfl,rfl,rfl,rfl,rfl,rfl,rfl,rfl,rfl,rfl,rfl,rfl,rfl,rfl,rfl,rfl,rfl,rfl,rfl,rfl,rfl⟩
theorem zbjz : wb Try.prog [(14,⟨[0,1,2,3,4,5,6,7],[0,0,0,0,8,30,63,127],[],[],.nil⟩),(19,⟨[0,1,2,3,4,5,6,7,8,9,10,11,12,13,14,15,16,17,18,19,20,21,22],[0,0,2,6,14,30,0,64,192,448,960,0,2048,6144,14336,30720,0,65536,196608,458752,1048574,2097151,4194303],[],[],.nil⟩)] zbq9 = some (84,zb1b.erase,[.tmp 2]) := by kernel_rfl
def zcdl : List am := [Qo 2 (.box dw 8 (t 0)),
 Qo 4 (.box dw 8 (.const (.agg #[(.int .u32 0),(.int .u32 0),(.int .u32 0),(.int .u32 0),(.int .u32 0),(.int .u32 0),(.int .u32 0),(.int .u32 0)])))]
def zcdm : List am := [Qo 5 (.box i8 64 (.const (.agg #[(.int .u32 0),(.int .u32 0),(.int .u32 0),(.int .u32 0),(.int .u32 0),(.int .u32 0),(.int .u32 0),(.int .u32 0),(.int .u32 0),(.int .u32 0),(.int .u32 0),(.int .u32 0),(.int .u32 0),(.int .u32 0),(.int .u32 0),(.int .u32 0),(.int .u32 0),(.int .u32 0),(.int .u32 0),(.int .u32 0),(.int .u32 0),(.int .u32 0),(.int .u32 0),(.int .u32 0),(.int .u32 0),(.int .u32 0),(.int .u32 0),(.int .u32 0),(.int .u32 0),(.int .u32 0),(.int .u32 0),(.int .u32 0),(.int .u32 0),(.int .u32 0),(.int .u32 0),(.int .u32 0),(.int .u32 0),(.int .u32 0),(.int .u32 0),(.int .u32 0),(.int .u32 0),(.int .u32 0),(.int .u32 0),(.int .u32 0),(.int .u32 0),(.int .u32 0),(.int .u32 0),(.int .u32 0),(.int .u32 0),(.int .u32 0),(.int .u32 0),(.int .u32 0),(.int .u32 0),(.int .u32 0),(.int .u32 0),(.int .u32 0),(.int .u32 0),(.int .u32 0),(.int .u32 0),(.int .u32 0),(.int .u32 0),(.int .u32 0),(.int .u32 0),(.int .u32 0)])))]
def zcdn : List am := [Qo 18 (.call xl []),
 Qo 6 (.box i8 64 (.const (.agg #[(.int .u32 0),(.int .u32 0),(.int .u32 0),(.int .u32 0),(.int .u32 0),(.int .u32 0),(.int .u32 0),(.int .u32 0),(.int .u32 0),(.int .u32 0),(.int .u32 0),(.int .u32 0),(.int .u32 0),(.int .u32 0),(.int .u32 0),(.int .u32 0),(.int .u32 0),(.int .u32 0),(.int .u32 0),(.int .u32 0),(.int .u32 0),(.int .u32 0),(.int .u32 0),(.int .u32 0),(.int .u32 0),(.int .u32 0),(.int .u32 0),(.int .u32 0),(.int .u32 0),(.int .u32 0),(.int .u32 0),(.int .u32 0),(.int .u32 0),(.int .u32 0),(.int .u32 0),(.int .u32 0),(.int .u32 0),(.int .u32 0),(.int .u32 0),(.int .u32 0),(.int .u32 0),(.int .u32 0),(.int .u32 0),(.int .u32 0),(.int .u32 0),(.int .u32 0),(.int .u32 0),(.int .u32 0),(.int .u32 0),(.int .u32 0),(.int .u32 0),(.int .u32 0),(.int .u32 0),(.int .u32 0),(.int .u32 0),(.int .u32 0),(.int .u32 0),(.int .u32 0),(.int .u32 0),(.int .u32 0),(.int .u32 0),(.int .u32 0),(.int .u32 0),(.int .u32 0)]))),
 ⟨⟨none,.store 64 (t 6) (t 18),none⟩,0⟩]
def zcdo : List am := [Qo 7 (.mov (ci 0))]
def zccx : List am := [Qo 19 (.mov (t 7)),
 Qo 20 (.bin .lss (t 19) (ci 16))]
def zccz : List am := [Qo 23 (.mov (t 7)),
 Qo 24 (.mov (t 1)),
 Qo 25 (.mov (t 7)),
 Qo 26 (.bin .mul (ci 4) (t 25)),
 Qo 27 (.indexStr (t 24) (t 26)),
 Qo 28 (.conv .u32 (t 27)),
 Qo 29 (.bin .shl (t 28) (.const (Go.Value.int Go.IntKind.u64 24))),
 Qo 30 (.mov (t 1)),
 Qo 31 (.mov (t 7)),
 Qo 32 (.bin .mul (ci 4) (t 31)),
 Qo 33 (.bin .add (t 32) (ci 1)),
 Qo 34 (.indexStr (t 30) (t 33)),
 Qo 35 (.conv .u32 (t 34)),
 Qo 36 (.bin .shl (t 35) (.const (Go.Value.int Go.IntKind.u64 16))),
 Qo 37 (.bin .or (t 29) (t 36)),
 Qo 38 (.mov (t 1)),
 Qo 39 (.mov (t 7)),
 Qo 40 (.bin .mul (ci 4) (t 39)),
 Qo 41 (.bin .add (t 40) (ci 2)),
 Qo 42 (.indexStr (t 38) (t 41)),
 Qo 43 (.conv .u32 (t 42)),
 Qo 44 (.bin .shl (t 43) (.const (Go.Value.int Go.IntKind.u64 8))),
 Qo 45 (.bin .or (t 37) (t 44)),
 Qo 46 (.mov (t 1)),
 Qo 47 (.mov (t 7)),
 Qo 48 (.bin .mul (ci 4) (t 47)),
 Qo 49 (.bin .add (t 48) (ci 3)),
 Qo 50 (.indexStr (t 46) (t 49)),
 Qo 51 (.conv .u32 (t 50)),
 Qo 52 (.bin .or (t 45) (t 51)),
 Qo 53 (.indexPtr 64 1 (t 5) (t 23)),
 ⟨⟨none,.store 1 (t 53) (t 52),none⟩,0⟩]
def zccy : List am := [Qo 21 (.mov (t 7)),
 Qo 22 (.bin .add (t 21) (ci 1)),
 Qo 7 (.mov (t 22))]
def zg : TC := (.seq (.seq (.ops zccx) (.clean [1,2,4,5,6,7,20] (.cond (t 20) .skip (.exit 0)))) (.clean [1,2,4,5,6,7] (.seq (.block 1 [1,2,4,5,6,7] (.draw (pl zccz))) (.clean [1,2,4,5,6,7] (.ops zccy)))))
def zcc0 : List am := [Qo 8 (.mov (ci 16))]
def zcc1 : List am := [Qo 54 (.mov (t 8)),
 Qo 55 (.bin .lss (t 54) (ci 64))]
def zcd4 : List am := [Qo 58 (.mov (t 8)),
 Qo 59 (.bin .sub (t 58) (ci 15)),
 Qo 60 (.indexPtr 64 1 (t 5) (t 59)),
 Qo 61 (.load1 (t 60)),
 Qo 63 (.mov (t 8)),
 Qo 64 (.bin .sub (t 63) (ci 15)),
 Qo 65 (.indexPtr 64 1 (t 5) (t 64)),
 Qo 66 (.load1 (t 65)),
 Qo 69 (.mov (t 8)),
 Qo 70 (.bin .sub (t 69) (ci 15)),
 Qo 71 (.indexPtr 64 1 (t 5) (t 70)),
 Qo 72 (.load1 (t 71)),
 Qo 73 (.bin .shr (t 72) (.const (Go.Value.int Go.IntKind.u64 3))),
 Qo 62 (.call ja [(t 61),(.const (Go.Value.int Go.IntKind.u64 7))]),
 Qo 67 (.call ja [(t 66),(.const (Go.Value.int Go.IntKind.u64 18))]),
 Qo 68 (.bin .xor (t 62) (t 67)),
 Qo 74 (.bin .xor (t 68) (t 73)),
 Qo 9 (.mov (t 74))]
def zcd5 : List am := [Qo 75 (.mov (t 8)),
 Qo 76 (.bin .sub (t 75) (ci 2)),
 Qo 77 (.indexPtr 64 1 (t 5) (t 76)),
 Qo 78 (.load1 (t 77)),
 Qo 80 (.mov (t 8)),
 Qo 81 (.bin .sub (t 80) (ci 2)),
 Qo 82 (.indexPtr 64 1 (t 5) (t 81)),
 Qo 83 (.load1 (t 82)),
 Qo 86 (.mov (t 8)),
 Qo 87 (.bin .sub (t 86) (ci 2)),
 Qo 88 (.indexPtr 64 1 (t 5) (t 87)),
 Qo 89 (.load1 (t 88)),
 Qo 90 (.bin .shr (t 89) (.const (Go.Value.int Go.IntKind.u64 10))),
 Qo 79 (.call ja [(t 78),(.const (Go.Value.int Go.IntKind.u64 17))]),
 Qo 84 (.call ja [(t 83),(.const (Go.Value.int Go.IntKind.u64 19))]),
 Qo 85 (.bin .xor (t 79) (t 84)),
 Qo 91 (.bin .xor (t 85) (t 90)),
 Qo 10 (.mov (t 91))]
def zcd6 : List am := [Qo 92 (.mov (t 8)),
 Qo 93 (.mov (t 8)),
 Qo 94 (.bin .sub (t 93) (ci 16)),
 Qo 95 (.indexPtr 64 1 (t 5) (t 94)),
 Qo 96 (.load1 (t 95)),
 Qo 97 (.mov (t 9)),
 Qo 98 (.bin .add (t 96) (t 97)),
 Qo 99 (.mov (t 8)),
 Qo 100 (.bin .sub (t 99) (ci 7)),
 Qo 101 (.indexPtr 64 1 (t 5) (t 100)),
 Qo 102 (.load1 (t 101)),
 Qo 103 (.bin .add (t 98) (t 102)),
 Qo 104 (.mov (t 10)),
 Qo 105 (.bin .add (t 103) (t 104)),
 Qo 106 (.indexPtr 64 1 (t 5) (t 92)),
 ⟨⟨none,.store 1 (t 106) (t 105),none⟩,0⟩]
def zcc2 : List am := [Qo 56 (.mov (t 8)),
 Qo 57 (.bin .add (t 56) (ci 1)),
 Qo 8 (.mov (t 57))]
def zf : TC := (.seq (.seq (.ops zcc1) (.clean [2,4,5,6,8,55] (.cond (t 55) .skip (.exit 2)))) (.clean [2,4,5,6,8] (.seq (.block 3 [2,4,5,6,8] (.seq (.draw (pl zcd4)) (.clean [2,4,5,6,8,9] (.seq (.draw (pl zcd5)) (.clean [2,4,5,6,8,9,10] (.draw (pl zcd6))))))) (.clean [2,4,5,6,8] (.ops zcc2)))))
def zcd7 : List am := [Qo 107 (.loadN 8 (t 2)),
 Qo 11 (.box dw 8 (.const (.agg #[(.int .u32 0),(.int .u32 0),(.int .u32 0),(.int .u32 0),(.int .u32 0),(.int .u32 0),(.int .u32 0),(.int .u32 0)]))),
 ⟨⟨none,.store 8 (t 11) (t 107),none⟩,0⟩]
def zcd8 : List am := [Qo 12 (.mov (ci 0))]
def zcd9 : List am := [Qo 108 (.mov (t 12)),
 Qo 109 (.bin .lss (t 108) (ci 64))]
def zceb : List am := [Qo 112 (.indexPtr 8 1 (t 11) (ci 4)),
 Qo 113 (.load1 (t 112)),
 Qo 115 (.indexPtr 8 1 (t 11) (ci 4)),
 Qo 116 (.load1 (t 115)),
 Qo 119 (.indexPtr 8 1 (t 11) (ci 4)),
 Qo 120 (.load1 (t 119)),
 Qo 114 (.call ja [(t 113),(.const (Go.Value.int Go.IntKind.u64 6))]),
 Qo 117 (.call ja [(t 116),(.const (Go.Value.int Go.IntKind.u64 11))]),
 Qo 118 (.bin .xor (t 114) (t 117)),
 Qo 121 (.call ja [(t 120),(.const (Go.Value.int Go.IntKind.u64 25))]),
 Qo 122 (.bin .xor (t 118) (t 121)),
 Qo 13 (.mov (t 122))]
def zcec : List am := [Qo 123 (.indexPtr 8 1 (t 11) (ci 7)),
 Qo 124 (.load1 (t 123)),
 Qo 125 (.mov (t 13)),
 Qo 126 (.bin .add (t 124) (t 125)),
 Qo 127 (.indexPtr 8 1 (t 11) (ci 4)),
 Qo 128 (.load1 (t 127)),
 Qo 129 (.indexPtr 8 1 (t 11) (ci 5)),
 Qo 130 (.load1 (t 129)),
 Qo 131 (.bin .and (t 128) (t 130)),
 Qo 132 (.indexPtr 8 1 (t 11) (ci 4)),
 Qo 133 (.load1 (t 132)),
 Qo 134 (.un .xor (t 133)),
 Qo 135 (.indexPtr 8 1 (t 11) (ci 6)),
 Qo 136 (.load1 (t 135)),
 Qo 137 (.bin .and (t 134) (t 136)),
 Qo 138 (.bin .xor (t 131) (t 137)),
 Qo 139 (.bin .add (t 126) (t 138)),
 Qo 140 (.mov (t 12)),
 Qo 141 (.indexPtr 64 1 (t 6) (t 140)),
 Qo 142 (.load1 (t 141)),
 Qo 143 (.bin .add (t 139) (t 142)),
 Qo 144 (.mov (t 12)),
 Qo 145 (.indexPtr 64 1 (t 5) (t 144)),
 Qo 146 (.load1 (t 145)),
 Qo 147 (.bin .add (t 143) (t 146)),
 Qo 14 (.mov (t 147))]
def zced : List am := [Qo 148 (.indexPtr 8 1 (t 11) (ci 0)),
 Qo 149 (.load1 (t 148)),
 Qo 151 (.indexPtr 8 1 (t 11) (ci 0)),
 Qo 152 (.load1 (t 151)),
 Qo 155 (.indexPtr 8 1 (t 11) (ci 0)),
 Qo 156 (.load1 (t 155)),
 Qo 150 (.call ja [(t 149),(.const (Go.Value.int Go.IntKind.u64 2))]),
 Qo 153 (.call ja [(t 152),(.const (Go.Value.int Go.IntKind.u64 13))]),
 Qo 154 (.bin .xor (t 150) (t 153)),
 Qo 157 (.call ja [(t 156),(.const (Go.Value.int Go.IntKind.u64 22))]),
 Qo 158 (.bin .xor (t 154) (t 157)),
 Qo 15 (.mov (t 158))]
def zcee : List am := [Qo 159 (.mov (t 15)),
 Qo 160 (.indexPtr 8 1 (t 11) (ci 0)),
 Qo 161 (.load1 (t 160)),
 Qo 162 (.indexPtr 8 1 (t 11) (ci 1)),
 Qo 163 (.load1 (t 162)),
 Qo 164 (.bin .and (t 161) (t 163)),
 Qo 165 (.indexPtr 8 1 (t 11) (ci 0)),
 Qo 166 (.load1 (t 165)),
 Qo 167 (.indexPtr 8 1 (t 11) (ci 2)),
 Qo 168 (.load1 (t 167)),
 Qo 169 (.bin .and (t 166) (t 168)),
 Qo 170 (.bin .xor (t 164) (t 169)),
 Qo 171 (.indexPtr 8 1 (t 11) (ci 1)),
 Qo 172 (.load1 (t 171)),
 Qo 173 (.indexPtr 8 1 (t 11) (ci 2)),
 Qo 174 (.load1 (t 173)),
 Qo 175 (.bin .and (t 172) (t 174)),
 Qo 176 (.bin .xor (t 170) (t 175)),
 Qo 177 (.bin .add (t 159) (t 176)),
 Qo 16 (.mov (t 177))]
def zcef : List am := [Qo 178 (.mov (t 14)),
 Qo 179 (.mov (t 16)),
 Qo 180 (.bin .add (t 178) (t 179)),
 Qo 181 (.indexPtr 8 1 (t 11) (ci 0)),
 Qo 182 (.load1 (t 181)),
 Qo 183 (.indexPtr 8 1 (t 11) (ci 1)),
 Qo 184 (.load1 (t 183)),
 Qo 185 (.indexPtr 8 1 (t 11) (ci 2)),
 Qo 186 (.load1 (t 185)),
 Qo 187 (.indexPtr 8 1 (t 11) (ci 3)),
 Qo 188 (.load1 (t 187)),
 Qo 189 (.mov (t 14)),
 Qo 190 (.bin .add (t 188) (t 189)),
 Qo 191 (.indexPtr 8 1 (t 11) (ci 4)),
 Qo 192 (.load1 (t 191)),
 Qo 193 (.indexPtr 8 1 (t 11) (ci 5)),
 Qo 194 (.load1 (t 193)),
 Qo 195 (.indexPtr 8 1 (t 11) (ci 6)),
 Qo 196 (.load1 (t 195)),
 Qo 197 (.build [(.int .u32 0),(.int .u32 0),(.int .u32 0),(.int .u32 0),(.int .u32 0),(.int .u32 0),(.int .u32 0),(.int .u32 0)] [(0,1,(t 180)),(1,1,(t 182)),(2,1,(t 184)),(3,1,(t 186)),(4,1,(t 190)),(5,1,(t 192)),(6,1,(t 194)),(7,1,(t 196))]),
 ⟨⟨none,.store 8 (t 11) (t 197),none⟩,0⟩]
def zcea : List am := [Qo 110 (.mov (t 12)),
 Qo 111 (.bin .add (t 110) (ci 1)),
 Qo 12 (.mov (t 111))]
def ze : TC := (.seq (.seq (.ops zcd9) (.clean [2,4,5,6,11,12,109] (.cond (t 109) .skip (.exit 4)))) (.clean [2,4,5,6,11,12] (.seq (.block 5 [2,4,5,6,11,12] (.seq (.draw (pl zceb)) (.clean [2,4,5,6,11,12,13] (.seq (.draw (pl zcec)) (.clean [2,4,5,6,11,12,14] (.seq (.draw (pl zced)) (.clean [2,4,5,6,11,12,14,15] (.seq (.ops zcee) (.clean [2,4,5,6,11,12,14,16] (.ops zcef)))))))))) (.clean [2,4,5,6,11,12] (.ops zcea)))))
def zceg : List am := [Qo 17 (.mov (ci 0))]
def zceh : List am := [Qo 198 (.mov (t 17)),
 Qo 199 (.bin .lss (t 198) (ci 8))]
def zcej : List am := [Qo 202 (.mov (t 17)),
 Qo 203 (.mov (t 17)),
 Qo 204 (.indexPtr 8 1 (t 2) (t 203)),
 Qo 205 (.load1 (t 204)),
 Qo 206 (.mov (t 17)),
 Qo 207 (.indexPtr 8 1 (t 11) (t 206)),
 Qo 208 (.load1 (t 207)),
 Qo 209 (.bin .add (t 205) (t 208)),
 Qo 210 (.indexPtr 8 1 (t 2) (t 202)),
 ⟨⟨none,.store 1 (t 210) (t 209),none⟩,0⟩]
def zcei : List am := [Qo 200 (.mov (t 17)),
 Qo 201 (.bin .add (t 200) (ci 1)),
 Qo 17 (.mov (t 201))]
def zd : TC := (.seq (.seq (.ops zceh) (.clean [2,4,11,17,199] (.cond (t 199) .skip (.exit 6)))) (.clean [2,4,11,17] (.seq (.block 7 [2,4,11,17] (.draw (pl zcej))) (.clean [2,4,11,17] (.ops zcei)))))
def zcek : List am := [Qo 211 (.loadN 8 (t 2)),
 ⟨⟨none,.store 8 (t 4) (t 211),none⟩,0⟩]
def zb19 : TC := (.seq (.ops zcdl) (.clean [1,2,4] (.seq (.ops zcdm) (.clean [1,2,4,5] (.seq (.ops zcdn) (.clean [1,2,4,5,6] (.seq (.seq (.ops zcdo) (.block 0 [2,4,5,6] (.clean [1,2,4,5,6,7] (.loop [1,2,4,5,6,7] zg)))) (.clean [2,4,5,6] (.seq (.seq (.ops zcc0) (.block 2 [2,4,5,6] (.clean [2,4,5,6,8] (.loop [2,4,5,6,8] zf)))) (.clean [2,4,5,6] (.seq (.ops zcd7) (.clean [2,4,5,6,11] (.seq (.seq (.ops zcd8) (.block 4 [2,4,11] (.clean [2,4,5,6,11,12] (.loop [2,4,5,6,11,12] ze)))) (.clean [2,4,11] (.seq (.seq (.ops zceg) (.block 6 [2,4] (.clean [2,4,11,17] (.loop [2,4,11,17] zd)))) (.clean [2,4] (.seq (.ops zcek) (.ret [4]))))))))))))))))))
def zb10 : TFn := ⟨212,zb19,[.cellN 4 8],false⟩
theorem iz : type_of% (ai @zcdl.eq_1 (ai @zcdm.eq_1 (ai @zcdn.eq_1 (ai @zcdo.eq_1 (ai @zccx.eq_1 (ai @zccz.eq_1 (ai @zccy.eq_1 (ai @zcc0.eq_1 (ai @zcc1.eq_1 (ai @zcd4.eq_1 (ai @zcd5.eq_1 (ai @zcd6.eq_1 (ai @zcc2.eq_1 (ai @zcd7.eq_1 (ai @zcd8.eq_1 (ai @zcd9.eq_1 (ai @zceb.eq_1 (ai @zcec.eq_1 (ai @zced.eq_1 (ai @zcee.eq_1 (ai @zcef.eq_1 (ai @zcea.eq_1 (ai @zceg.eq_1 (ai @zceh.eq_1 (ai @zcej.eq_1 (ai @zcei.eq_1 (ai @zcek.eq_1 (ai @zb19.eq_1 @zb10.eq_1)))))))))))))))))))))))))))) := ⟨rfl,rfl,rfl,rfl,rfl,rfl,rfl,rfl,rfl,rfl,rfl,rfl,rfl,rfl,rfl,rfl,rfl,rfl,rfl,rfl,rfl,rfl,rfl,rfl,rfl,rfl,rfl,rfl,rfl⟩
theorem zcuy : wb Try.prog [(6,⟨[0,1,2,3,4,5,6,7,8,9,10,11,12,13,14,15,16,17,18,19,20,21,22,23,24,25,26,27,28,29,30,31],[0,0,0,4,14,30,62,0,0,256,768,1920,3968,8064,16382,0,0,65536,196608,491520,1015808,2064384,4194302,0,0,16777216,50331648,125829120,260046848,536870910,1073741823,2147483647],[],[],.nil⟩),(10,⟨[0,1,2,3,5,6,7,8,11,12,13,14,15,4,9,10,16,17],[0,1,3,7,15,0,32,96,224,511,1023,0,2048,6144,14336,30720,65535,131071],[],[],.nil⟩),(11,⟨[0,1,2,3,5,6,7,8,11,12,13,14,15,4,9,10,16,17],[0,1,3,7,15,0,32,96,224,511,1023,0,2048,6144,14336,30720,65535,131071],[],[],.nil⟩),(12,⟨[0,1,2,3,4,5,6,7,8,9,10,11,12,13,14,15],[0,0,2,6,14,0,62,0,128,384,896,2046,0,8190,16383,32767],[],[],.nil⟩),(17,⟨[0,1,3,4,7,8,2,5,6,9,10,11],[0,1,3,0,8,31,63,0,128,447,1023,2047],[],[],.nil⟩),(18,⟨[0,1,2,3,4,5,6,7,8,9,10,11,12,13,14,15,16,17,18,19,20,21,22,23,24,25],[0,1,0,7,0,16,0,64,240,0,512,1536,0,4096,15872,32752,65535,0,131072,393216,1048575,0,2097152,6291456,16777215,33554431],[],[],.nil⟩),(19,⟨[0,1,3,4,7,8,2,5,6,9,10,11],[0,1,3,0,8,31,63,0,128,447,1023,2047],[],[],.nil⟩),(25,⟨[0,1,2,3,4,5,6,7,8,9],[0,0,2,6,0,16,48,126,255,511],[],[],.nil⟩)] xm = some (212,zb19.erase,[.cellN 4 8]) := by kernel_rfl
def zcc3 : List am := [Qo 0 (.box i8 64 (.const (.agg #[(.int .u32 0),(.int .u32 0),(.int .u32 0),(.int .u32 0),(.int .u32 0),(.int .u32 0),(.int .u32 0),(.int .u32 0),(.int .u32 0),(.int .u32 0),(.int .u32 0),(.int .u32 0),(.int .u32 0),(.int .u32 0),(.int .u32 0),(.int .u32 0),(.int .u32 0),(.int .u32 0),(.int .u32 0),(.int .u32 0),(.int .u32 0),(.int .u32 0),(.int .u32 0),(.int .u32 0),(.int .u32 0),(.int .u32 0),(.int .u32 0),(.int .u32 0),(.int .u32 0),(.int .u32 0),(.int .u32 0),(.int .u32 0),(.int .u32 0),(.int .u32 0),(.int .u32 0),(.int .u32 0),(.int .u32 0),(.int .u32 0),(.int .u32 0),(.int .u32 0),(.int .u32 0),(.int .u32 0),(.int .u32 0),(.int .u32 0),(.int .u32 0),(.int .u32 0),(.int .u32 0),(.int .u32 0),(.int .u32 0),(.int .u32 0),(.int .u32 0),(.int .u32 0),(.int .u32 0),(.int .u32 0),(.int .u32 0),(.int .u32 0),(.int .u32 0),(.int .u32 0),(.int .u32 0),(.int .u32 0),(.int .u32 0),(.int .u32 0),(.int .u32 0),(.int .u32 0)])))]
def zcc4 : List am := [Qo 1 (.build [(.int .u32 0),(.int .u32 0),(.int .u32 0),(.int .u32 0),(.int .u32 0),(.int .u32 0),(.int .u32 0),(.int .u32 0),(.int .u32 0),(.int .u32 0),(.int .u32 0),(.int .u32 0),(.int .u32 0),(.int .u32 0),(.int .u32 0),(.int .u32 0),(.int .u32 0),(.int .u32 0),(.int .u32 0),(.int .u32 0),(.int .u32 0),(.int .u32 0),(.int .u32 0),(.int .u32 0),(.int .u32 0),(.int .u32 0),(.int .u32 0),(.int .u32 0),(.int .u32 0),(.int .u32 0),(.int .u32 0),(.int .u32 0),(.int .u32 0),(.int .u32 0),(.int .u32 0),(.int .u32 0),(.int .u32 0),(.int .u32 0),(.int .u32 0),(.int .u32 0),(.int .u32 0),(.int .u32 0),(.int .u32 0),(.int .u32 0),(.int .u32 0),(.int .u32 0),(.int .u32 0),(.int .u32 0),(.int .u32 0),(.int .u32 0),(.int .u32 0),(.int .u32 0),(.int .u32 0),(.int .u32 0),(.int .u32 0),(.int .u32 0),(.int .u32 0),(.int .u32 0),(.int .u32 0),(.int .u32 0),(.int .u32 0),(.int .u32 0),(.int .u32 0),(.int .u32 0)] [(0,1,(.const (Go.Value.int Go.IntKind.u32 1116352408))),(1,1,(.const (Go.Value.int Go.IntKind.u32 1899447441))),(2,1,(.const (Go.Value.int Go.IntKind.u32 3049323471))),(3,1,(.const (Go.Value.int Go.IntKind.u32 3921009573))),(4,1,(.const (Go.Value.int Go.IntKind.u32 961987163))),(5,1,(.const (Go.Value.int Go.IntKind.u32 1508970993))),(6,1,(.const (Go.Value.int Go.IntKind.u32 2453635748))),(7,1,(.const (Go.Value.int Go.IntKind.u32 2870763221))),(8,1,(.const (Go.Value.int Go.IntKind.u32 3624381080))),(9,1,(.const (Go.Value.int Go.IntKind.u32 310598401))),(10,1,(.const (Go.Value.int Go.IntKind.u32 607225278))),(11,1,(.const (Go.Value.int Go.IntKind.u32 1426881987))),(12,1,(.const (Go.Value.int Go.IntKind.u32 1925078388))),(13,1,(.const (Go.Value.int Go.IntKind.u32 2162078206))),(14,1,(.const (Go.Value.int Go.IntKind.u32 2614888103))),(15,1,(.const (Go.Value.int Go.IntKind.u32 3248222580))),(16,1,(.const (Go.Value.int Go.IntKind.u32 3835390401))),(17,1,(.const (Go.Value.int Go.IntKind.u32 4022224774))),(18,1,(.const (Go.Value.int Go.IntKind.u32 264347078))),(19,1,(.const (Go.Value.int Go.IntKind.u32 604807628))),(20,1,(.const (Go.Value.int Go.IntKind.u32 770255983))),(21,1,(.const (Go.Value.int Go.IntKind.u32 1249150122))),(22,1,(.const (Go.Value.int Go.IntKind.u32 1555081692))),(23,1,(.const (Go.Value.int Go.IntKind.u32 1996064986))),(24,1,(.const (Go.Value.int Go.IntKind.u32 2554220882))),(25,1,(.const (Go.Value.int Go.IntKind.u32 2821834349))),(26,1,(.const (Go.Value.int Go.IntKind.u32 2952996808))),(27,1,(.const (Go.Value.int Go.IntKind.u32 3210313671))),(28,1,(.const (Go.Value.int Go.IntKind.u32 3336571891))),(29,1,(.const (Go.Value.int Go.IntKind.u32 3584528711))),(30,1,(.const (Go.Value.int Go.IntKind.u32 113926993))),(31,1,(.const (Go.Value.int Go.IntKind.u32 338241895))),(32,1,(.const (Go.Value.int Go.IntKind.u32 666307205))),(33,1,(.const (Go.Value.int Go.IntKind.u32 773529912))),(34,1,(.const (Go.Value.int Go.IntKind.u32 1294757372))),(35,1,(.const (Go.Value.int Go.IntKind.u32 1396182291))),(36,1,(.const (Go.Value.int Go.IntKind.u32 1695183700))),(37,1,(.const (Go.Value.int Go.IntKind.u32 1986661051))),(38,1,(.const (Go.Value.int Go.IntKind.u32 2177026350))),(39,1,(.const (Go.Value.int Go.IntKind.u32 2456956037))),(40,1,(.const (Go.Value.int Go.IntKind.u32 2730485921))),(41,1,(.const (Go.Value.int Go.IntKind.u32 2820302411))),(42,1,(.const (Go.Value.int Go.IntKind.u32 3259730800))),(43,1,(.const (Go.Value.int Go.IntKind.u32 3345764771))),(44,1,(.const (Go.Value.int Go.IntKind.u32 3516065817))),(45,1,(.const (Go.Value.int Go.IntKind.u32 3600352804))),(46,1,(.const (Go.Value.int Go.IntKind.u32 4094571909))),(47,1,(.const (Go.Value.int Go.IntKind.u32 275423344))),(48,1,(.const (Go.Value.int Go.IntKind.u32 430227734))),(49,1,(.const (Go.Value.int Go.IntKind.u32 506948616))),(50,1,(.const (Go.Value.int Go.IntKind.u32 659060556))),(51,1,(.const (Go.Value.int Go.IntKind.u32 883997877))),(52,1,(.const (Go.Value.int Go.IntKind.u32 958139571))),(53,1,(.const (Go.Value.int Go.IntKind.u32 1322822218))),(54,1,(.const (Go.Value.int Go.IntKind.u32 1537002063))),(55,1,(.const (Go.Value.int Go.IntKind.u32 1747873779))),(56,1,(.const (Go.Value.int Go.IntKind.u32 1955562222))),(57,1,(.const (Go.Value.int Go.IntKind.u32 2024104815))),(58,1,(.const (Go.Value.int Go.IntKind.u32 2227730452))),(59,1,(.const (Go.Value.int Go.IntKind.u32 2361852424))),(60,1,(.const (Go.Value.int Go.IntKind.u32 2428436474))),(61,1,(.const (Go.Value.int Go.IntKind.u32 2756734187))),(62,1,(.const (Go.Value.int Go.IntKind.u32 3204031479))),(63,1,(.const (Go.Value.int Go.IntKind.u32 3329325298)))]),
 ⟨⟨none,.store 64 (t 0) (t 1),none⟩,0⟩]
def zb2a : TC := (.seq (.ops zcc3) (.clean [0] (.seq (.ops zcc4) (.ret [0]))))
def zb11 : TFn := ⟨2,zb2a,[.cellN 0 64],false⟩
theorem zcus : type_of% (ai @zcc3.eq_1 (ai @zcc4.eq_1 (ai @zb2a.eq_1 @zb11.eq_1))) := ⟨rfl,rfl,rfl,rfl⟩
theorem zcuz : wb Try.prog [] xl = some (2,zb2a.erase,[.cellN 0 64]) := by kernel_rfl
def zcbe : List am := [Qo 4 (.mov (.const (Go.Value.int Go.IntKind.u32 0)))]
def zcbf : List am := [Qo 5 (.mov (t 0)),
 Qo 6 (.mov (t 1)),
 Qo 7 (.bin .shr (t 5) (t 6)),
 Qo 8 (.mov (t 0)),
 Qo 9 (.mov (t 1)),
 Qo 10 (.bin .sub (.const (Go.Value.int Go.IntKind.u64 32)) (t 9)),
 Qo 11 (.bin .shl (t 8) (t 10)),
 Qo 12 (.bin .or (t 7) (t 11)),
 Qo 4 (.mov (t 12))]
def zb1m : TC := (.seq (.ops zcbe) (.clean [0,1] (.seq (.ops zcbf) (.ret [4]))))
def zb1u : TFn := ⟨13,zb1m,[.tmp 4],false⟩
theorem zbdp : type_of% (ai @zcbe.eq_1 (ai @zcbf.eq_1 (ai @zb1m.eq_1 @zb1u.eq_1))) := ⟨rfl,rfl,rfl,rfl⟩
theorem zbdi : wb Try.prog [] ja = some (13,zb1m.erase,[.tmp 4]) := by kernel_rfl
def zcdx : List am := [Qo 2 (.mov (.const (Go.Value.string ⟨#[]⟩)))]
def zcdy : List am := [Qo 3 (.mov (t 0)),
 Qo 4 (.call kq [(t 3)]),
 Qo 5 (.bin .add (.const (Go.Value.string ⟨#[115,101,99,114,101,116]⟩)) (t 4)),
 Qo 2 (.mov (t 5))]
def zb2h : TC := (.seq (.ops zcdx) (.clean [0] (.seq (.ops zcdy) (.ret [2]))))
def zb2n : TFn := ⟨6,zb2h,[.tmp 2],false⟩
theorem zcvo : type_of% (ai @zcdx.eq_1 (ai @zcdy.eq_1 (ai @zb2h.eq_1 @zb2n.eq_1))) := ⟨rfl,rfl,rfl,rfl⟩
theorem zcvq : wb Try.prog [] ve = some (6,zb2h.erase,[.tmp 2]) := by kernel_rfl
def zcel : List am := [Qo 4 (.mov (.const (Go.Value.string ⟨#[]⟩)))]
def zcfl : List am := [Qo 7 (.mov (t 1)),
 Qo 8 (.bin .lss (t 7) (ci 0)),
 Qo 9 (.mov (t 8)),
 Qf 9 10 (.mov (t 1)),
 Qf 9 11 (.bin .gtr (t 10) (ci 255)),
 Qo 12 (.pick (t 9) QT (t 11))]
def zcfm : List am := [Qo 4 (.mov (.const (Go.Value.string ⟨#[]⟩)))]
def zcfn : List am := [Qo 5 (.mov (.const (Go.Value.string ⟨#[]⟩)))]
def zcfo : List am := [Qo 6 (.mov (ci 0))]
def zcfp : List am := [Qo 13 (.mov (t 6)),
 Qo 14 (.bin .lss (t 13) (ci 16))]
def zcfr : List am := [Qo 17 (.mov (t 5)),
 Qo 18 (.mov (t 0)),
 Qo 19 (.mov (t 1)),
 Qo 20 (.mov (t 6)),
 Qo 21 (.call ul [(t 18),(t 19),(t 20),(ci 0)]),
 Qo 22 (.call n5 [(t 21)]),
 Qo 23 (.bin .add (t 17) (t 22)),
 Qo 24 (.mov (t 0)),
 Qo 25 (.mov (t 1)),
 Qo 26 (.mov (t 6)),
 Qo 27 (.call ul [(t 24),(t 25),(t 26),(ci 1)]),
 Qo 28 (.call n5 [(t 27)]),
 Qo 29 (.bin .add (t 23) (t 28)),
 Qo 5 (.mov (t 29))]
def zcfq : List am := [Qo 15 (.mov (t 6)),
 Qo 16 (.bin .add (t 15) (ci 1)),
 Qo 6 (.mov (t 16))]
def xt : TC := (.seq (.seq (.ops zcfp) (.clean [0,1,5,6,14] (.cond (t 14) .skip (.exit 0)))) (.clean [0,1,5,6] (.seq (.block 1 [0,1,5,6] (.ops zcfr)) (.clean [0,1,5,6] (.ops zcfq)))))
def zcfs : List am := [Qo 30 (.mov (t 5)),
 Qo 31 (.call n5 [(t 30)]),
 Qo 4 (.mov (t 31))]
def zb2i : TC := (.seq (.ops zcel) (.clean [0,1] (.seq (.seq (.ops zcfl) (.clean [0,1,12] (.cond (t 12) (.seq (.ops zcfm) (.ret [4])) .skip))) (.clean [0,1] (.seq (.ops zcfn) (.clean [0,1,5] (.seq (.seq (.ops zcfo) (.block 0 [5] (.clean [0,1,5,6] (.loop [0,1,5,6] xt)))) (.clean [5] (.seq (.ops zcfs) (.ret [4]))))))))))
def zb2o : TFn := ⟨32,zb2i,[.tmp 4],false⟩
theorem u7 : type_of% (ai @zcel.eq_1 (ai @zcfl.eq_1 (ai @zcfm.eq_1 (ai @zcfn.eq_1 (ai @zcfo.eq_1 (ai @zcfp.eq_1 (ai @zcfr.eq_1 (ai @zcfq.eq_1 (ai @zcfs.eq_1 (ai @zb2i.eq_1 @zb2o.eq_1)))))))))) := ⟨rfl,rfl,rfl,rfl,rfl,rfl,rfl,rfl,rfl,rfl,rfl⟩
theorem zcvr : wb Try.prog [] vd = some (32,zb2i.erase,[.tmp 4]) := by kernel_rfl
def zcdj : List am := [Qo 2 (.mov (.const (Go.Value.string ⟨#[]⟩)))]
def zcdk : List am := [Qo 3 (.mov (t 0)),
 Qo 4 (.call zbq9 [(t 3)]),
 Qo 5 (.sliceStr (t 4) none (some (ci 16))),
 Qo 2 (.mov (t 5))]
def zb18 : TC := (.seq (.ops zcdj) (.clean [0] (.seq (.ops zcdk) (.ret [2]))))
def zb1z : TFn := ⟨6,zb18,[.tmp 2],false⟩
theorem zcur : type_of% (ai @zcdj.eq_1 (ai @zcdk.eq_1 (ai @zb18.eq_1 @zb1z.eq_1))) := ⟨rfl,rfl,rfl,rfl⟩
theorem zcux : wb Try.prog [] n5 = some (6,zb18.erase,[.tmp 2]) := by kernel_rfl
def zcc5 : List am := [Qo 8 (.mov (.const (Go.Value.string ⟨#[]⟩)))]
def zcc6 : List am := [Qo 9 (.mov (t 1)),
 Qo 10 (.bin .lss (t 9) (ci 0)),
 Qo 11 (.mov (t 10)),
 Qf 11 12 (.mov (t 1)),
 Qf 11 13 (.bin .gtr (t 12) (ci 255)),
 Qo 14 (.pick (t 11) QT (t 13)),
 Qo 15 (.mov (t 14)),
 Qf 15 16 (.mov (t 2)),
 Qf 15 17 (.bin .lss (t 16) (ci 0)),
 Qo 18 (.pick (t 15) QT (t 17)),
 Qo 19 (.mov (t 18)),
 Qf 19 20 (.mov (t 2)),
 Qf 19 21 (.bin .geq (t 20) (ci 16)),
 Qo 22 (.pick (t 19) QT (t 21)),
 Qo 23 (.mov (t 22)),
 Qf 23 24 (.mov (t 3)),
 Qf 23 25 (.bin .lss (t 24) (ci 0)),
 Qo 26 (.pick (t 23) QT (t 25)),
 Qo 27 (.mov (t 26)),
 Qf 27 28 (.mov (t 3)),
 Qf 27 29 (.bin .gtr (t 28) (ci 1)),
 Qo 30 (.pick (t 27) QT (t 29))]
def zcc7 : List am := [Qo 8 (.mov (.const (Go.Value.string ⟨#[]⟩)))]
def zcc8 : List am := [Qo 31 (.mov (t 0)),
 Qo 32 (.mov (t 1)),
 Qo 33 (.conv .u8 (t 32)),
 Qo 34 (.mov (t 2)),
 Qo 35 (.conv .u8 (t 34)),
 Qo 36 (.mov (t 3)),
 Qo 37 (.conv .u8 (t 36)),
 Qo 38 (.buildSl mr 1 3 [(.int .u8 0),(.int .u8 0),(.int .u8 0)] [(0,1,(t 33)),(1,1,(t 35)),(2,1,(t 37))]),
 Qo 39 (.toStr (t 38)),
 Qo 40 (.bin .add (t 31) (t 39)),
 Qo 41 (.call n5 [(t 40)]),
 Qo 8 (.mov (t 41))]
def zb2b : TC := (.seq (.ops zcc5) (.clean [0,1,2,3] (.seq (.seq (.ops zcc6) (.clean [0,1,2,3,30] (.cond (t 30) (.seq (.ops zcc7) (.ret [8])) .skip))) (.clean [0,1,2,3] (.seq (.ops zcc8) (.ret [8]))))))
def zb12 : TFn := ⟨42,zb2b,[.tmp 8],false⟩
theorem uj : type_of% (ai @zcc5.eq_1 (ai @zcc6.eq_1 (ai @zcc7.eq_1 (ai @zcc8.eq_1 (ai @zb2b.eq_1 @zb12.eq_1))))) := ⟨rfl,rfl,rfl,rfl,rfl,rfl⟩
theorem zcu0 : wb Try.prog [] ul = some (42,zb2b.erase,[.tmp 8]) := by kernel_rfl
def zcbq : List am := [Qo 2 (.mov (.const (Go.Value.string ⟨#[]⟩)))]
def zcbr : List am := [Qo 3 (.mov (t 0)),
 Qo 4 (.call kq [(t 3)]),
 Qo 5 (.bin .add (.const (Go.Value.string ⟨#[115,101,101,100]⟩)) (t 4)),
 Qo 2 (.mov (t 5))]
def zb1k : TC := (.seq (.ops zcbq) (.clean [0] (.seq (.ops zcbr) (.ret [2]))))
def zb1s : TFn := ⟨6,zb1k,[.tmp 2],false⟩
theorem zbdq : type_of% (ai @zcbq.eq_1 (ai @zcbr.eq_1 (ai @zb1k.eq_1 @zb1s.eq_1))) := ⟨rfl,rfl,rfl,rfl⟩
theorem zbdk : wb Try.prog [] zy = some (6,zb1k.erase,[.tmp 2]) := by kernel_rfl
def zcdg : List am := [Qo 0 (.mov QF)]
def zcdh : List am := [Qo 2 (.call xo [(ci 3),(ci 5),(ci 6)]),
 Qo 1 (.box aw 7 (.const (.agg #[(.string ⟨#[]⟩),(.slice none 0 0),(.slice none 0 0),(.slice none 0 0),(.slice none 0 0),(.int .i64 0),(.int .i64 0)]))),
 ⟨⟨none,.store 7 (t 1) (t 2),none⟩,0⟩]
def zcdi : List am := [Qo 3 (.loadN 7 (t 1)),
 Qo 4 (.call mj [(t 3)]),
 Qo 5 (.mov (t 4)),
 Qt 5 6 (.loadN 7 (t 1)),
 Qt 5 7 (.buildSl dq 1 3 [(.int .i64 0),(.int .i64 0),(.int .i64 0)] [(0,1,(ci 0)),(1,1,(ci 1)),(2,1,(ci 2))]),
 Qt 5 8 (.call qp [(t 6),(t 7)]),
 Qo 9 (.pick (t 5) (t 8) QF),
 Qo 10 (.mov (t 9)),
 Qt 10 11 (.loadN 7 (t 1)),
 Qt 10 12 (.buildSl dq 1 2 [(.int .i64 0),(.int .i64 0)] [(0,1,(ci 0)),(1,1,(ci 2))]),
 Qt 10 13 (.call qp [(t 11),(t 12)]),
 Qt 10 14 (.un .not (t 13)),
 Qo 15 (.pick (t 10) (t 14) QF),
 Qo 16 (.mov (t 15)),
 Qt 16 17 (.loadN 7 (t 1)),
 Qt 16 18 (.call rc [(t 17),(ci 0)]),
 Qt 16 19 (.lenL (t 18)),
 Qt 16 20 (.bin .eql (t 19) (ci 1)),
 Qo 21 (.pick (t 16) (t 20) QF),
 Qo 22 (.mov (t 21)),
 Qt 22 23 (.loadN 7 (t 1)),
 Qt 22 24 (.call rb [(t 23),(ci 0)]),
 Qt 22 25 (.lenL (t 24)),
 Qt 22 26 (.bin .eql (t 25) (ci 1)),
 Qo 27 (.pick (t 22) (t 26) QF),
 Qo 28 (.mov (t 27)),
 Qt 28 29 (.build [(.string ⟨#[]⟩),(.slice none 0 0),(.slice none 0 0),(.slice none 0 0),(.slice none 0 0),(.int .i64 0),(.int .i64 0)] []),
 Qt 28 30 (.call mj [(t 29)]),
 Qt 28 31 (.un .not (t 30)),
 Qo 32 (.pick (t 28) (t 31) QF),
 Qo 0 (.mov (t 32))]
def zb17 : TC := (.seq (.ops zcdg) (.clean [] (.seq (.ops zcdh) (.clean [1] (.seq (.ops zcdi) (.ret [0]))))))
def zb1y : TFn := ⟨33,zb17,[.tmp 0],false⟩
theorem xh : type_of% (ai @zcdg.eq_1 (ai @zcdh.eq_1 (ai @zcdi.eq_1 (ai @zb17.eq_1 @zb1y.eq_1)))) := ⟨rfl,rfl,rfl,rfl,rfl⟩
theorem zcuw : wb Try.prog [] xn = some (33,zb17.erase,[.tmp 0]) := by kernel_rfl
def zcf6 : List am := [Qo 1 (.box aw 7 (t 0)),
 Qo 2 (.mov QF)]
def zcf7 : List am := [Qo 3 (.loadN 7 (t 1)),
 Qo 4 (.call mv [(t 3)]),
 Qo 5 (.mov (t 4)),
 Qt 5 6 (.loadN 7 (t 1)),
 Qt 5 7 (.call jw [(t 6)]),
 Qo 8 (.pick (t 5) (t 7) QF),
 Qo 2 (.mov (t 8))]
def zb21 : TC := (.seq (.ops zcf6) (.clean [1] (.seq (.ops zcf7) (.ret [2]))))
def zb24 : TFn := ⟨9,zb21,[.tmp 2],false⟩
theorem zcbz : type_of% (ai @zcf6.eq_1 (ai @zcf7.eq_1 (ai @zb21.eq_1 @zb24.eq_1))) := ⟨rfl,rfl,rfl,rfl⟩
theorem zcq0 : wb Try.prog [] mj = some (9,zb21.erase,[.tmp 2]) := by kernel_rfl
def zchc : List am := [Qo 1 (.box aw 7 (t 0)),
 Qo 2 (.mov QF)]
def zchd : List am := [Qo 3 (.loadN 7 (t 1)),
 Qo 4 (.call mi [(t 3)]),
 Qo 5 (.un .not (t 4))]
def zche : List am := [Qo 2 (.mov QF)]
def zchf : List am := [Qo 6 (.loadN 7 (t 1)),
 Qo 7 (.call il [(t 6),(ci 0),QF,(.func g9)]),
 Qo 8 (.call cp [(t 7),QF]),
 Qo 9 (.un .not (t 8)),
 Qo 10 (.mov (t 9)),
 Qt 10 11 (.loadN 7 (t 1)),
 Qt 10 12 (.call il [(t 11),(ci 0),QT,(.func g9)]),
 Qt 10 13 (.call cp [(t 12),QF]),
 Qt 10 14 (.un .not (t 13)),
 Qo 15 (.pick (t 10) (t 14) QF),
 Qo 2 (.mov (t 15))]
def z5 : TC := (.seq (.ops zchc) (.clean [1] (.seq (.seq (.ops zchd) (.clean [1,5] (.cond (t 5) (.seq (.ops zche) (.ret [2])) .skip))) (.clean [1] (.seq (.ops zchf) (.ret [2]))))))
def zb29 : TFn := ⟨16,z5,[.tmp 2],false⟩
theorem zb2t : type_of% (ai @zchc.eq_1 (ai @zchd.eq_1 (ai @zche.eq_1 (ai @zchf.eq_1 (ai @z5.eq_1 @zb29.eq_1))))) := ⟨rfl,rfl,rfl,rfl,rfl,rfl⟩
theorem zcry : wb Try.prog [] mv = some (16,z5.erase,[.tmp 2]) := by kernel_rfl
def zce4 : List am := [Qo 1 (.box aw 7 (t 0)),
 Qo 2 (.mov QF)]
def zce5 : List (am × List Nat) := [(Qo 12 (.fieldAddr 1 (t 1)),[]),
 (Qo 13 (.load1 (t 12)),[]),
 (Qo 14 (.lenL (t 13)),[]),
 (Qo 15 (.fieldAddr 3 (t 1)),[]),
 (Qo 16 (.load1 (t 15)),[]),
 (Qo 17 (.lenL (t 16)),[]),
 (Qo 3 (.box dq 1 (.const (.int .i64 0))),[]),
 (⟨⟨none,.store 1 (t 3) (t 14),none⟩,0⟩,[4]),
 (Qo 4 (.mov (t 17)),[])]
def zce6 : List am := [Qo 18 (.fieldAddr 0 (t 1)),
 Qo 19 (.load1 (t 18)),
 Qo 20 (.call qo [(t 19)]),
 Qo 21 (.un .not (t 20)),
 Qo 22 (.mov (t 21)),
 Qf 22 23 (.load1 (t 3)),
 Qf 22 24 (.call lm [(t 23),(ci 2),(ci 6)]),
 Qf 22 25 (.un .not (t 24)),
 Qo 26 (.pick (t 22) QT (t 25)),
 Qo 27 (.mov (t 26)),
 Qf 27 28 (.mov (t 4)),
 Qf 27 29 (.call lm [(t 28),(ci 1),(ci 3)]),
 Qf 27 30 (.un .not (t 29)),
 Qo 31 (.pick (t 27) QT (t 30)),
 Qo 32 (.mov (t 31)),
 Qf 32 33 (.fieldAddr 2 (t 1)),
 Qf 32 34 (.load1 (t 33)),
 Qf 32 35 (.lenL (t 34)),
 Qf 32 36 (.call lm [(t 35),(ci 1),(ci 12)]),
 Qf 32 37 (.un .not (t 36)),
 Qo 38 (.pick (t 32) QT (t 37)),
 Qo 39 (.mov (t 38)),
 Qf 39 40 (.fieldAddr 4 (t 1)),
 Qf 39 41 (.load1 (t 40)),
 Qf 39 42 (.mov (t 4)),
 Qf 39 43 (.call qn [(t 41),(t 42),(ci 32)]),
 Qf 39 44 (.un .not (t 43)),
 Qo 45 (.pick (t 39) QT (t 44)),
 Qo 46 (.mov (t 45)),
 Qf 46 47 (.fieldAddr 5 (t 1)),
 Qf 46 48 (.load1 (t 47)),
 Qf 46 49 (.call lm [(t 48),(ci 0),(ci 1099511627776)]),
 Qf 46 50 (.un .not (t 49)),
 Qo 51 (.pick (t 46) QT (t 50)),
 Qo 52 (.mov (t 51)),
 Qf 52 53 (.fieldAddr 6 (t 1)),
 Qf 52 54 (.load1 (t 53)),
 Qf 52 55 (.call lm [(t 54),(ci 1),(ci 1048576)]),
 Qf 52 56 (.un .not (t 55)),
 Qo 57 (.pick (t 52) QT (t 56))]
def zce7 : List am := [Qo 2 (.mov QF)]
def zce8 : List am := [Qm 1 5 (.mov (.const (Go.Value.slice none 0 0)))]
def zce9 : List am := [Qo 58 (.fieldAddr 1 (t 1)),
 Qo 59 (.load1 (t 58)),
 Qo 60 (.lenL (t 59)),
 Qo 61 (.mov (ci 0))]
def zcfa : List am := [Qo 62 (.bin .lss (t 61) (t 60))]
def zcfb : List am := [Qo 63 (.indexSl 2 (t 59) (t 61)),
 Qo 64 (.loadN 2 (t 63)),
 Qo 7 (.box ju 2 (.const (.agg #[(.string ⟨#[]⟩),(.slice none 0 0)]))),
 ⟨⟨none,.store 2 (t 7) (t 64),none⟩,0⟩]
def zcfc : List am := [Qo 65 (.fieldAddr 0 (t 7)),
 Qo 66 (.load1 (t 65)),
 Qo 67 (.call qo [(t 66)]),
 Qo 68 (.un .not (t 67)),
 Qo 69 (.mov (t 68)),
 Qf 69 70 (.fieldAddr 1 (t 7)),
 Qf 69 71 (.load1 (t 70)),
 Qf 69 72 (.mov (t 4)),
 Qf 69 73 (.call qn [(t 71),(t 72),(ci 16)]),
 Qf 69 74 (.un .not (t 73)),
 Qo 75 (.pick (t 69) QT (t 74))]
def zcfd : List am := [Qo 2 (.mov QF)]
def zcg2 : List am := [Qo 76 (.mov (t 5)),
 Qo 77 (.fieldAddr 0 (t 7)),
 Qo 78 (.load1 (t 77)),
 Qo 79 (.buildSl ey 1 1 [(.string ⟨#[]⟩)] [(0,1,(t 78))]),
 Qo 80 (.append ey 1 16 (t 76) (t 79)),
 Qo 5 (.mov (t 80))]
def zcg3 : List am := [Qo 81 (.bin .add (t 61) (ci 1)),
 Qo 61 (.mov (t 81))]
def om : TC := (.seq (.ops zcfa) (.clean [1,3,4,5,59,60,61,62] (.seq (.cond (t 62) .skip (.exit 0)) (.clean [1,3,4,5,59,60,61] (.seq (.block 1 [1,3,4,5,59,60,61] (.seq (.ops zcfb) (.clean [1,3,4,5,7,59,60,61] (.seq (.seq (.ops zcfc) (.clean [1,3,4,5,7,59,60,61,75] (.cond (t 75) (.seq (.ops zcfd) (.ret [2])) .skip))) (.clean [1,3,4,5,7,59,60,61] (.ops zcg2)))))) (.clean [1,3,4,5,59,60,61] (.ops zcg3)))))))
def zcg4 : List am := [Qm 1 8 (.mov (.const (Go.Value.slice none 0 0)))]
def zcg5 : List am := [Qo 82 (.fieldAddr 2 (t 1)),
 Qo 83 (.load1 (t 82)),
 Qo 84 (.lenL (t 83)),
 Qo 85 (.mov (ci 0))]
def zcg6 : List am := [Qo 86 (.bin .lss (t 85) (t 84))]
def zcg7 : List am := [Qo 87 (.indexSl 5 (t 83) (t 85)),
 Qo 88 (.loadN 5 (t 87)),
 Qo 10 (.box du 5 (.const (.agg #[(.int .i64 0),(.int .i64 0),(.int .i64 0),(.string ⟨#[]⟩),(.int .i64 0)]))),
 ⟨⟨none,.store 5 (t 10) (t 88),none⟩,0⟩]
def zcg8 : List am := [Qo 89 (.loadN 5 (t 10)),
 Qo 90 (.load1 (t 3)),
 Qo 91 (.call zw [(t 89),(t 90)]),
 Qo 92 (.un .not (t 91))]
def zcg9 : List am := [Qo 2 (.mov QF)]
def zcha : List am := [Qo 93 (.mov (t 8)),
 Qo 94 (.fieldAddr 0 (t 10)),
 Qo 95 (.load1 (t 94)),
 Qo 96 (.fieldAddr 1 (t 10)),
 Qo 97 (.load1 (t 96)),
 Qo 98 (.build [(.int .i64 0),(.int .i64 0)] [(0,1,(t 95)),(1,1,(t 97))]),
 Qo 99 (.buildSl nh 2 1 [(.int .i64 0),(.int .i64 0)] [(0,2,(t 98))]),
 Qo 100 (.append nh 2 16 (t 93) (t 99)),
 Qo 8 (.mov (t 100))]
def zchb : List am := [Qo 101 (.bin .add (t 85) (ci 1)),
 Qo 85 (.mov (t 101))]
def sj : TC := (.seq (.ops zcg6) (.clean [1,3,5,8,83,84,85,86] (.seq (.cond (t 86) .skip (.exit 2)) (.clean [1,3,5,8,83,84,85] (.seq (.block 3 [1,3,5,8,83,84,85] (.seq (.ops zcg7) (.clean [1,3,5,8,10,83,84,85] (.seq (.seq (.ops zcg8) (.clean [1,3,5,8,10,83,84,85,92] (.cond (t 92) (.seq (.ops zcg9) (.ret [2])) .skip))) (.clean [1,3,5,8,10,83,84,85] (.ops zcha)))))) (.clean [1,3,5,8,83,84,85] (.ops zchb)))))))
def zcg0 : List am := [Qo 102 (.mkFunc (.func gc) [] [(t 3)]),
 Qo 11 (.mov (t 102))]
def zcg1 : List am := [Qo 103 (.mov (t 5)),
 Qo 104 (.call fo [(t 103)]),
 Qo 105 (.mov (t 104)),
 Qt 105 106 (.mov (t 8)),
 Qt 105 107 (.call g8 [(t 106)]),
 Qo 108 (.pick (t 105) (t 107) QF),
 Qo 109 (.mov (t 108)),
 Qt 109 110 (.fieldAddr 3 (t 1)),
 Qt 109 111 (.load1 (t 110)),
 Qt 109 112 (.call jn [(t 111)]),
 Qo 113 (.pick (t 109) (t 112) QF),
 Qo 114 (.mov (t 113)),
 Qt 114 115 (.fieldAddr 3 (t 1)),
 Qt 114 116 (.load1 (t 115)),
 Qt 114 117 (.mov (t 11)),
 Qt 114 118 (.call da [(t 116),(t 117)]),
 Qt 114 119 (.un .not (t 118)),
 Qo 120 (.pick (t 114) (t 119) QF),
 Qo 2 (.mov (t 120))]
def zb2k : TC := (.seq (.ops zce4) (.clean [1] (.seq (.draw zce5) (.clean [1,3,4] (.seq (.seq (.ops zce6) (.clean [1,3,4,57] (.cond (t 57) (.seq (.ops zce7) (.ret [2])) .skip))) (.clean [1,3,4] (.seq (.ops zce8) (.clean [1,3,4,5] (.seq (.seq (.ops zce9) (.block 0 [1,3,5] (.clean [1,3,4,5,59,60,61] (.loop [1,3,4,5,59,60,61] om)))) (.clean [1,3,5] (.seq (.ops zcg4) (.clean [1,3,5,8] (.seq (.seq (.ops zcg5) (.block 2 [1,3,5,8] (.clean [1,3,5,8,83,84,85] (.loop [1,3,5,8,83,84,85] sj)))) (.clean [1,3,5,8] (.seq (.ops zcg0) (.clean [1,5,8,11] (.seq (.ops zcg1) (.ret [2]))))))))))))))))))
def zb2q : TFn := ⟨121,zb2k,[.tmp 2],false⟩
theorem bz : type_of% (ai @zce4.eq_1 (ai @zce5.eq_1 (ai @zce6.eq_1 (ai @zce7.eq_1 (ai @zce8.eq_1 (ai @zce9.eq_1 (ai @zcfa.eq_1 (ai @zcfb.eq_1 (ai @zcfc.eq_1 (ai @zcfd.eq_1 (ai @zcg2.eq_1 (ai @zcg3.eq_1 (ai @zcg4.eq_1 (ai @zcg5.eq_1 (ai @zcg6.eq_1 (ai @zcg7.eq_1 (ai @zcg8.eq_1 (ai @zcg9.eq_1 (ai @zcha.eq_1 (ai @zchb.eq_1 (ai @zcg0.eq_1 (ai @zcg1.eq_1 (ai @zb2k.eq_1 @zb2q.eq_1))))))))))))))))))))))) := ⟨rfl,rfl,rfl,rfl,rfl,rfl,rfl,rfl,rfl,rfl,rfl,rfl,rfl,rfl,rfl,rfl,rfl,rfl,rfl,rfl,rfl,rfl,rfl,rfl⟩
theorem zcvt : wb Try.prog [(1,⟨[0,1,2,3,4,5,6,7,8],[0,1,3,0,8,24,0,71,255],[],[(7,[4])],.nil⟩)] mi = some (121,zb2k.erase,[.tmp 2]) := by kernel_rfl
def zcc9 : List am := [Qo 2 (.mov QF)]
def zcda : List am := [Qo 3 (.mov (t 0)),
 Qo 4 (.lenS (t 3)),
 Qo 5 (.bin .geq (t 4) (ci 1)),
 Qo 6 (.mov (t 5)),
 Qt 6 7 (.mov (t 0)),
 Qt 6 8 (.lenS (t 7)),
 Qt 6 9 (.bin .leq (t 8) (ci 16)),
 Qo 10 (.pick (t 6) (t 9) QF),
 Qo 2 (.mov (t 10))]
def zb2c : TC := (.seq (.ops zcc9) (.clean [0] (.seq (.ops zcda) (.ret [2]))))
def zb13 : TFn := ⟨11,zb2c,[.tmp 2],false⟩
theorem zb9j : type_of% (ai @zcc9.eq_1 (ai @zcda.eq_1 (ai @zb2c.eq_1 @zb13.eq_1))) := ⟨rfl,rfl,rfl,rfl⟩
theorem zcu1 : wb Try.prog [] qo = some (11,zb2c.erase,[.tmp 2]) := by kernel_rfl
def zb9s : List am := [Qo 6 (.mov QF)]
def zb9t : List am := [Qo 7 (.mov (t 0)),
 Qo 8 (.mov (t 1)),
 Qo 9 (.bin .geq (t 7) (t 8)),
 Qo 10 (.mov (t 9)),
 Qt 10 11 (.mov (t 0)),
 Qt 10 12 (.mov (t 2)),
 Qt 10 13 (.bin .leq (t 11) (t 12)),
 Qo 14 (.pick (t 10) (t 13) QF),
 Qo 6 (.mov (t 14))]
def zb1c : TC := (.seq (.ops zb9s) (.clean [0,1,2] (.seq (.ops zb9t) (.ret [6]))))
def zb00 : TFn := ⟨15,zb1c,[.tmp 6],false⟩
theorem zcm3 : type_of% (ai @zb9s.eq_1 (ai @zb9t.eq_1 (ai @zb1c.eq_1 @zb00.eq_1))) := ⟨rfl,rfl,rfl,rfl⟩
theorem zbjy : wb Try.prog [] lm = some (15,zb1c.erase,[.tmp 6]) := by kernel_rfl
def zcfe : List am := [Qo 5 (.box dq 1 (t 2)),
 Qo 6 (.mov QF)]
def zcff : List am := [Qo 7 (.mov (t 0)),
 Qo 8 (.lenL (t 7)),
 Qo 9 (.mov (t 1)),
 Qo 10 (.bin .eql (t 8) (t 9)),
 Qo 11 (.mov (t 10)),
 Qt 11 12 (.mov (t 0)),
 Qt 11 13 (.mkFunc (.func fy) [] [(t 5)]),
 Qt 11 14 (.call bp [(t 12),(t 13)]),
 Qt 11 15 (.un .not (t 14)),
 Qo 16 (.pick (t 11) (t 15) QF),
 Qo 6 (.mov (t 16))]
def zb2l : TC := (.seq (.ops zcfe) (.clean [0,1,5] (.seq (.ops zcff) (.ret [6]))))
def zb2r : TFn := ⟨17,zb2l,[.tmp 6],false⟩
theorem zcao : type_of% (ai @zcfe.eq_1 (ai @zcff.eq_1 (ai @zb2l.eq_1 @zb2r.eq_1))) := ⟨rfl,rfl,rfl,rfl⟩
theorem zcvu : wb Try.prog [] qn = some (17,zb2l.erase,[.tmp 6]) := by kernel_rfl
def jz : List am := [Qo 4 (.mov QF)]
def jy : List am := [Qo 5 (.mov (t 0)),
 Qo 6 (.mov (t 1)),
 Qo 7 (.call ca [(t 5),(t 6)]),
 Qo 8 (.bin .geq (t 7) (ci 0)),
 Qo 4 (.mov (t 8))]
def fu : TC := (.seq (.ops jz) (.clean [0,1] (.seq (.ops jy) (.ret [4]))))
def fx : TFn := ⟨9,fu,[.tmp 4],false⟩
theorem ui : type_of% (ai @jz.eq_1 (ai @jy.eq_1 (ai @fu.eq_1 @fx.eq_1))) := ⟨rfl,rfl,rfl,rfl⟩
theorem uh : wb Try.prog [] bp = some (9,fu.erase,[.tmp 4]) := by kernel_rfl
def l4 : List am := [Qo 4 (.mov (ci 0))]
def l0 : List am := [Qo 6 (.mov (t 0)),
 Qo 7 (.lenL (t 6)),
 Qo 8 (.mov (ci 0))]
def lz : List am := [Qo 9 (.bin .lss (t 8) (t 7))]
def ly : List am := [Qo 10 (.mov (t 8)),
 Qo 5 (.mov (t 10))]
def lx : List am := [Qo 11 (.mov (t 1)),
 Qo 12 (.mov (t 0)),
 Qo 13 (.mov (t 5)),
 Qo 14 (.indexSl 1 (t 12) (t 13)),
 Qo 15 (.load1 (t 14)),
 Qo 16 (.callv (t 11) [(t 15)])]
def lw : List am := [Qo 17 (.mov (t 5)),
 Qo 4 (.mov (t 17))]
def lu : List am := [Qo 18 (.bin .add (t 8) (ci 1)),
 Qo 8 (.mov (t 18))]
def cw : TC := (.seq (.ops lz) (.clean [0,1,7,8,9] (.seq (.cond (t 9) .skip (.exit 0)) (.clean [0,1,7,8] (.seq (.block 1 [0,1,7,8] (.seq (.ops ly) (.clean [0,1,5,7,8] (.seq (.ops lx) (.clean [0,1,5,7,8,16] (.cond (t 16) (.seq (.ops lw) (.ret [4])) .skip)))))) (.clean [0,1,7,8] (.ops lu)))))))
def lq : List am := [Qo 4 (.mov (ci (-1)))]
def ia : TC := (.seq (.ops l4) (.clean [0,1] (.seq (.seq (.ops l0) (.block 0 [] (.clean [0,1,7,8] (.loop [0,1,7,8] cw)))) (.clean [] (.seq (.ops lq) (.ret [4]))))))
def ik : TFn := ⟨19,ia,[.tmp 4],false⟩
theorem b9 : type_of% (ai @l4.eq_1 (ai @l0.eq_1 (ai @lz.eq_1 (ai @ly.eq_1 (ai @lx.eq_1 (ai @lw.eq_1 (ai @lu.eq_1 (ai @lq.eq_1 (ai @ia.eq_1 @ik.eq_1))))))))) := ⟨rfl,rfl,rfl,rfl,rfl,rfl,rfl,rfl,rfl,rfl⟩
theorem wa : wb Try.prog [] ca = some (19,ia.erase,[.tmp 4]) := by kernel_rfl
def zcht : List am := [Qo 3 (.mov QF)]
def zchu : List am := [Qo 4 (.mov (t 0)),
 Qo 5 (.lenS (t 4)),
 Qo 6 (.load1 (t 1)),
 Qo 7 (.bin .neq (t 5) (t 6)),
 Qo 3 (.mov (t 7))]
def z1 : TC := (.seq (.ops zcht) (.clean [0,1] (.seq (.ops zchu) (.ret [3]))))
def zb3c : TFn := ⟨8,z1,[.tmp 3],false⟩
theorem zcrw : type_of% (ai @zcht.eq_1 (ai @zchu.eq_1 (ai @z1.eq_1 @zb3c.eq_1))) := ⟨rfl,rfl,rfl,rfl⟩
theorem zcr1 : wb Try.prog [] fy = some (8,z1.erase,[.tmp 3]) := by kernel_rfl
def zcbg : List am := [Qo 2 (.box du 5 (t 0)),
 Qo 4 (.mov QF)]
def zcbh : List am := [Qo 5 (.fieldAddr 0 (t 2)),
 Qo 6 (.load1 (t 5)),
 Qo 7 (.mov (t 1)),
 Qo 8 (.bin .sub (t 7) (ci 1)),
 Qo 9 (.call lm [(t 6),(ci 0),(t 8)]),
 Qo 10 (.mov (t 9)),
 Qt 10 11 (.fieldAddr 1 (t 2)),
 Qt 10 12 (.load1 (t 11)),
 Qt 10 13 (.mov (t 1)),
 Qt 10 14 (.bin .sub (t 13) (ci 1)),
 Qt 10 15 (.call lm [(t 12),(ci 0),(t 14)]),
 Qo 16 (.pick (t 10) (t 15) QF),
 Qo 17 (.mov (t 16)),
 Qt 17 18 (.fieldAddr 0 (t 2)),
 Qt 17 19 (.load1 (t 18)),
 Qt 17 20 (.fieldAddr 1 (t 2)),
 Qt 17 21 (.load1 (t 20)),
 Qt 17 22 (.bin .neq (t 19) (t 21)),
 Qo 23 (.pick (t 17) (t 22) QF),
 Qo 24 (.mov (t 23)),
 Qt 24 25 (.fieldAddr 2 (t 2)),
 Qt 24 26 (.load1 (t 25)),
 Qt 24 27 (.call lm [(t 26),(ci 0),(ci 3)]),
 Qo 28 (.pick (t 24) (t 27) QF),
 Qo 29 (.mov (t 28)),
 Qt 29 30 (.fieldAddr 3 (t 2)),
 Qt 29 31 (.load1 (t 30)),
 Qt 29 32 (.call qo [(t 31)]),
 Qo 33 (.pick (t 29) (t 32) QF),
 Qo 34 (.mov (t 33)),
 Qt 34 35 (.fieldAddr 4 (t 2)),
 Qt 34 36 (.load1 (t 35)),
 Qt 34 37 (.call lm [(t 36),(ci 1),(ci 1125899906842624)]),
 Qo 38 (.pick (t 34) (t 37) QF),
 Qo 4 (.mov (t 38))]
def zb1n : TC := (.seq (.ops zcbg) (.clean [1,2] (.seq (.ops zcbh) (.ret [4]))))
def zb1v : TFn := ⟨39,zb1n,[.tmp 4],false⟩
theorem zu : type_of% (ai @zcbg.eq_1 (ai @zcbh.eq_1 (ai @zb1n.eq_1 @zb1v.eq_1))) := ⟨rfl,rfl,rfl,rfl⟩
theorem zbdh : wb Try.prog [] zw = some (39,zb1n.erase,[.tmp 4]) := by kernel_rfl
def zchr : List am := [Qo 3 (.mov QF)]
def zchs : List am := [Qo 4 (.mov (t 0)),
 Qo 5 (.load1 (t 1)),
 Qo 6 (.bin .sub (t 5) (ci 1)),
 Qo 7 (.call lm [(t 4),(ci 0),(t 6)]),
 Qo 8 (.un .not (t 7)),
 Qo 3 (.mov (t 8))]
def z3 : TC := (.seq (.ops zchr) (.clean [0,1] (.seq (.ops zchs) (.ret [3]))))
def zb3b : TFn := ⟨9,z3,[.tmp 3],false⟩
theorem zcrv : type_of% (ai @zchr.eq_1 (ai @zchs.eq_1 (ai @z3.eq_1 @zb3b.eq_1))) := ⟨rfl,rfl,rfl,rfl⟩
theorem zcr0 : wb Try.prog [] gc = some (9,z3.erase,[.tmp 3]) := by kernel_rfl
def sa : List am := [Qo 2 (.mov QF)]
def r9 : List am := [Qo 6 .mkMap,
 Qo 3 (.mov (t 6))]
def r8 : List am := [Qo 7 (.mov (t 0)),
 Qo 8 (.lenL (t 7)),
 Qo 9 (.mov (ci 0))]
def r7 : List am := [Qo 10 (.bin .lss (t 9) (t 8))]
def r6 : List am := [Qo 11 (.indexSl 1 (t 7) (t 9)),
 Qo 12 (.load1 (t 11)),
 Qo 5 (.mov (t 12))]
def rz : List am := [Qo 13 (.mov (t 3)),
 Qo 14 (.mov (t 5)),
 Qo 15 (.mapGet ey (t 13) (t 14))]
def ry : List am := [Qo 2 (.mov QF)]
def rx : List am := [Qo 16 (.mov (t 3)),
 Qo 17 (.mov (t 5)),
 ⟨⟨none,.mapSet ey (t 16) (t 17) QT,none⟩,0⟩]
def rv : List am := [Qo 18 (.bin .add (t 9) (ci 1)),
 Qo 9 (.mov (t 18))]
def yx : TC := (.seq (.ops r7) (.clean [3,7,8,9,10] (.seq (.cond (t 10) .skip (.exit 0)) (.clean [3,7,8,9] (.seq (.block 1 [3,7,8,9] (.seq (.ops r6) (.clean [3,5,7,8,9] (.seq (.seq (.ops rz) (.clean [3,5,7,8,9,15] (.cond (t 15) (.seq (.ops ry) (.ret [2])) .skip))) (.clean [3,5,7,8,9] (.ops rx)))))) (.clean [3,7,8,9] (.ops rv)))))))
def ru : List am := [Qo 2 (.mov QT)]
def nu : TC := (.seq (.ops sa) (.clean [0] (.seq (.ops r9) (.clean [0,3] (.seq (.seq (.ops r8) (.block 0 [] (.clean [3,7,8,9] (.loop [3,7,8,9] yx)))) (.clean [] (.seq (.ops ru) (.ret [2]))))))))
theorem zctv : wb Try.prog [] fo = some (19,nu.erase,[.tmp 2]) := by kernel_rfl
def ua : List am := [Qo 2 (.mov QF)]
def t9 : List am := [Qo 6 .mkMap,
 Qo 3 (.mov (t 6))]
def t8 : List am := [Qo 7 (.mov (t 0)),
 Qo 8 (.lenL (t 7)),
 Qo 9 (.mov (ci 0))]
def t7 : List am := [Qo 10 (.bin .lss (t 9) (t 8))]
def t6 : List am := [Qo 11 (.indexSl 2 (t 7) (t 9)),
 Qo 12 (.loadN 2 (t 11)),
 Qo 5 (.box nh 2 (.const (.agg #[(.int .i64 0),(.int .i64 0)]))),
 ⟨⟨none,.store 2 (t 5) (t 12),none⟩,0⟩]
def t5 : List am := [Qo 13 (.mov (t 3)),
 Qo 14 (.loadN 2 (t 5)),
 Qo 15 (.mapGet nh (t 13) (t 14))]
def t4 : List am := [Qo 2 (.mov QF)]
def tz : List am := [Qo 16 (.mov (t 3)),
 Qo 17 (.loadN 2 (t 5)),
 ⟨⟨none,.mapSet nh (t 16) (t 17) QT,none⟩,0⟩]
def tx : List am := [Qo 18 (.bin .add (t 9) (ci 1)),
 Qo 9 (.mov (t 18))]
def zciz : TC := (.seq (.ops t7) (.clean [3,7,8,9,10] (.seq (.cond (t 10) .skip (.exit 0)) (.clean [3,7,8,9] (.seq (.block 1 [3,7,8,9] (.seq (.ops t6) (.clean [3,5,7,8,9] (.seq (.seq (.ops t5) (.clean [3,5,7,8,9,15] (.cond (t 15) (.seq (.ops t4) (.ret [2])) .skip))) (.clean [3,5,7,8,9] (.ops tz)))))) (.clean [3,7,8,9] (.ops tx)))))))
def tw : List am := [Qo 2 (.mov QT)]
def ov : TC := (.seq (.ops ua) (.clean [0] (.seq (.ops t9) (.clean [0,3] (.seq (.seq (.ops t8) (.block 0 [] (.clean [3,7,8,9] (.loop [3,7,8,9] zciz)))) (.clean [] (.seq (.ops tw) (.ret [2]))))))))
theorem zctr : wb Try.prog [] g8 = some (19,ov.erase,[.tmp 2]) := by kernel_rfl
def xc : List am := [Qo 2 (.mov QF)]
def xb : List am := [Qo 6 .mkMap,
 Qo 3 (.mov (t 6))]
def xa : List am := [Qo 7 (.mov (t 0)),
 Qo 8 (.lenL (t 7)),
 Qo 9 (.mov (ci 0))]
def w9 : List am := [Qo 10 (.bin .lss (t 9) (t 8))]
def wz : List am := [Qo 11 (.indexSl 1 (t 7) (t 9)),
 Qo 12 (.load1 (t 11)),
 Qo 5 (.mov (t 12))]
def wy : List am := [Qo 13 (.mov (t 3)),
 Qo 14 (.mov (t 5)),
 Qo 15 (.mapGet dq (t 13) (t 14))]
def wx : List am := [Qo 2 (.mov QF)]
def ww : List am := [Qo 16 (.mov (t 3)),
 Qo 17 (.mov (t 5)),
 ⟨⟨none,.mapSet dq (t 16) (t 17) QT,none⟩,0⟩]
def wv : List am := [Qo 18 (.bin .add (t 9) (ci 1)),
 Qo 9 (.mov (t 18))]
def zch8 : TC := (.seq (.ops w9) (.clean [3,7,8,9,10] (.seq (.cond (t 10) .skip (.exit 0)) (.clean [3,7,8,9] (.seq (.block 1 [3,7,8,9] (.seq (.ops wz) (.clean [3,5,7,8,9] (.seq (.seq (.ops wy) (.clean [3,5,7,8,9,15] (.cond (t 15) (.seq (.ops wx) (.ret [2])) .skip))) (.clean [3,5,7,8,9] (.ops ww)))))) (.clean [3,7,8,9] (.ops wv)))))))
def wu : List am := [Qo 2 (.mov QT)]
def td : TC := (.seq (.ops xc) (.clean [0] (.seq (.ops xb) (.clean [0,3] (.seq (.seq (.ops xa) (.block 0 [] (.clean [3,7,8,9] (.loop [3,7,8,9] zch8)))) (.clean [] (.seq (.ops wu) (.ret [2]))))))))
theorem zcsg : wb Try.prog [] jn = some (19,td.erase,[.tmp 2]) := by kernel_rfl
def m9 : List am := [Qo 4 (.mov QF)]
def m7 : List am := [Qo 5 (.mov (t 0)),
 Qo 6 (.mov (t 1)),
 Qo 7 (.call dx [(t 5),(t 6)]),
 Qo 8 (.bin .geq (t 7) (ci 0)),
 Qo 4 (.mov (t 8))]
def jf : TC := (.seq (.ops m9) (.clean [0,1] (.seq (.ops m7) (.ret [4]))))
def jm : TFn := ⟨9,jf,[.tmp 4],false⟩
theorem ym : type_of% (ai @m9.eq_1 (ai @m7.eq_1 (ai @jf.eq_1 @jm.eq_1))) := ⟨rfl,rfl,rfl,rfl⟩
theorem yl : wb Try.prog [] da = some (9,jf.erase,[.tmp 4]) := by kernel_rfl
def pk : List am := [Qo 4 (.mov (ci 0))]
def pj : List am := [Qo 6 (.mov (t 0)),
 Qo 7 (.lenL (t 6)),
 Qo 8 (.mov (ci 0))]
def pi : List am := [Qo 9 (.bin .lss (t 8) (t 7))]
def ph : List am := [Qo 10 (.mov (t 8)),
 Qo 5 (.mov (t 10))]
def pg : List am := [Qo 11 (.mov (t 1)),
 Qo 12 (.mov (t 0)),
 Qo 13 (.mov (t 5)),
 Qo 14 (.indexSl 1 (t 12) (t 13)),
 Qo 15 (.load1 (t 14)),
 Qo 16 (.callv (t 11) [(t 15)])]
def pf : List am := [Qo 17 (.mov (t 5)),
 Qo 4 (.mov (t 17))]
def pe : List am := [Qo 18 (.bin .add (t 8) (ci 1)),
 Qo 8 (.mov (t 18))]
def d7 : TC := (.seq (.ops pi) (.clean [0,1,7,8,9] (.seq (.cond (t 9) .skip (.exit 0)) (.clean [0,1,7,8] (.seq (.block 1 [0,1,7,8] (.seq (.ops ph) (.clean [0,1,5,7,8] (.seq (.ops pg) (.clean [0,1,5,7,8,16] (.cond (t 16) (.seq (.ops pf) (.ret [4])) .skip)))))) (.clean [0,1,7,8] (.ops pe)))))))
def pd : List am := [Qo 4 (.mov (ci (-1)))]
def kx : TC := (.seq (.ops pk) (.clean [0,1] (.seq (.seq (.ops pj) (.block 0 [] (.clean [0,1,7,8] (.loop [0,1,7,8] d7)))) (.clean [] (.seq (.ops pd) (.ret [4]))))))
def li : TFn := ⟨19,kx,[.tmp 4],false⟩
theorem dv : type_of% (ai @pk.eq_1 (ai @pj.eq_1 (ai @pi.eq_1 (ai @ph.eq_1 (ai @pg.eq_1 (ai @pf.eq_1 (ai @pe.eq_1 (ai @pd.eq_1 (ai @kx.eq_1 @li.eq_1))))))))) := ⟨rfl,rfl,rfl,rfl,rfl,rfl,rfl,rfl,rfl,rfl⟩
theorem zcuo : wb Try.prog [] dx = some (19,kx.erase,[.tmp 4]) := by kernel_rfl
def oa : List am := [Qo 4 (.mov QF)]
def n9 : List am := [Qo 5 (.mov (t 0)),
 Qo 6 (.mov (t 1)),
 Qo 7 (.call ei [(t 5),(t 6)]),
 Qo 8 (.bin .geq (t 7) (ci 0)),
 Qo 4 (.mov (t 8))]
def j0 : TC := (.seq (.ops oa) (.clean [0,1] (.seq (.ops n9) (.ret [4]))))
def ka : TFn := ⟨9,j0,[.tmp 4],false⟩
theorem zcul : type_of% (ai @oa.eq_1 (ai @n9.eq_1 (ai @j0.eq_1 @ka.eq_1))) := ⟨rfl,rfl,rfl,rfl⟩
theorem zcum : wb Try.prog [] cp = some (9,j0.erase,[.tmp 4]) := by kernel_rfl
def rp : List am := [Qo 4 (.mov (ci 0))]
def rn : List am := [Qo 6 (.mov (t 0)),
 Qo 7 (.lenL (t 6)),
 Qo 8 (.mov (ci 0))]
def rm : List am := [Qo 9 (.bin .lss (t 8) (t 7))]
def rk : List am := [Qo 10 (.mov (t 8)),
 Qo 5 (.mov (t 10))]
def rj : List am := [Qo 11 (.mov (t 1)),
 Qo 12 (.mov (t 0)),
 Qo 13 (.mov (t 5)),
 Qo 14 (.indexSl 1 (t 12) (t 13)),
 Qo 15 (.load1 (t 14)),
 Qo 16 (.eqB false (t 11) (t 15))]
def ri : List am := [Qo 17 (.mov (t 5)),
 Qo 4 (.mov (t 17))]
def rh : List am := [Qo 18 (.bin .add (t 8) (ci 1)),
 Qo 8 (.mov (t 18))]
def fh : TC := (.seq (.ops rm) (.clean [0,1,7,8,9] (.seq (.cond (t 9) .skip (.exit 0)) (.clean [0,1,7,8] (.seq (.block 1 [0,1,7,8] (.seq (.ops rk) (.clean [0,1,5,7,8] (.seq (.ops rj) (.clean [0,1,5,7,8,16] (.cond (t 16) (.seq (.ops ri) (.ret [4])) .skip)))))) (.clean [0,1,7,8] (.ops rh)))))))
def rg : List am := [Qo 4 (.mov (ci (-1)))]
def ml : TC := (.seq (.ops rp) (.clean [0,1] (.seq (.seq (.ops rn) (.block 0 [] (.clean [0,1,7,8] (.loop [0,1,7,8] fh)))) (.clean [] (.seq (.ops rg) (.ret [4]))))))
def mq : TFn := ⟨19,ml,[.tmp 4],false⟩
theorem eh : type_of% (ai @rp.eq_1 (ai @rn.eq_1 (ai @rm.eq_1 (ai @rk.eq_1 (ai @rj.eq_1 (ai @ri.eq_1 (ai @rh.eq_1 (ai @rg.eq_1 (ai @ml.eq_1 @mq.eq_1))))))))) := ⟨rfl,rfl,rfl,rfl,rfl,rfl,rfl,rfl,rfl,rfl⟩
theorem zcug : wb Try.prog [] ei = some (19,ml.erase,[.tmp 4]) := by kernel_rfl
def zcf8 : List am := [Qo 4 (.box aw 7 (t 0)),
 Qo 8 (.mov (.const (Go.Value.slice none 0 0)))]
def zcf9 : List am := [Qo 17 (.fieldAddr 1 (t 4)),
 Qo 18 (.load1 (t 17)),
 Qo 19 (.lenL (t 18)),
 Qm 1 20 (.makeSl zbx1 1 [(.bool false)] (t 19) (t 19)),
 Qo 9 (.mov (t 20))]
def zcga : List am := [Qo 21 (.mov (t 1)),
 Qm 1 22 (.buildSl dq 1 1 [(.int .i64 0)] [(0,1,(t 21))]),
 Qo 10 (.mov (t 22))]
def zcgb : List am := [Qo 23 (.mov (t 10)),
 Qo 24 (.lenL (t 23)),
 Qo 11 (.mov (t 24))]
def zcgc : List am := [Qo 25 (.mov (t 11)),
 Qo 26 (.bin .eql (t 25) (ci 0))]
def zcgd : List am := [Qo 27 (.mov (t 10)),
 Qo 28 (.mov (t 11)),
 Qo 29 (.bin .sub (t 28) (ci 1)),
 Qo 30 (.indexSl 1 (t 27) (t 29)),
 Qo 31 (.load1 (t 30)),
 Qo 12 (.mov (t 31))]
def zcge : List am := [Qo 32 (.mov (t 10)),
 Qo 33 (.mov (t 11)),
 Qo 34 (.bin .sub (t 33) (ci 1)),
 Qo 35 (.sliceSl 1 (t 32) none (some (t 34))),
 Qo 10 (.mov (t 35))]
def zcgf : List am := [Qo 36 (.fieldAddr 2 (t 4)),
 Qo 37 (.load1 (t 36)),
 Qo 38 (.lenL (t 37)),
 Qo 39 (.mov (ci 0))]
def zcgg : List am := [Qo 40 (.bin .lss (t 39) (t 38))]
def zcgh : List am := [Qo 41 (.indexSl 5 (t 37) (t 39)),
 Qo 42 (.loadN 5 (t 41)),
 Qo 14 (.box du 5 (.const (.agg #[(.int .i64 0),(.int .i64 0),(.int .i64 0),(.string ⟨#[]⟩),(.int .i64 0)]))),
 ⟨⟨none,.store 5 (t 14) (t 42),none⟩,0⟩]
def zchi : List am := [Qo 43 (.fieldAddr 0 (t 14)),
 Qo 44 (.load1 (t 43)),
 Qo 45 (.fieldAddr 1 (t 14)),
 Qo 46 (.load1 (t 45)),
 Qo 15 (.mov (t 44)),
 Qo 16 (.mov (t 46))]
def zchj : List am := [Qo 47 (.mov (t 2))]
def zchk : List am := [Qo 48 (.mov (t 16)),
 Qo 49 (.mov (t 15)),
 Qo 15 (.mov (t 48)),
 Qo 16 (.mov (t 49))]
def zchl : List am := [Qo 50 (.mov (t 15)),
 Qo 51 (.mov (t 12)),
 Qo 52 (.bin .eql (t 50) (t 51)),
 Qo 53 (.mov (t 52)),
 Qt 53 54 (.mov (t 9)),
 Qt 53 55 (.mov (t 16)),
 Qt 53 56 (.indexSl 1 (t 54) (t 55)),
 Qt 53 57 (.load1 (t 56)),
 Qt 53 58 (.un .not (t 57)),
 Qo 59 (.pick (t 53) (t 58) QF),
 Qo 60 (.mov (t 59)),
 Qt 60 61 (.mov (t 3)),
 Qt 60 62 (.mov (t 16)),
 Qt 60 63 (.callv (t 61) [(t 62)]),
 Qo 64 (.pick (t 60) (t 63) QF)]
def zchm : List am := [Qo 65 (.mov (t 9)),
 Qo 66 (.mov (t 16)),
 Qo 67 (.indexSl 1 (t 65) (t 66)),
 ⟨⟨none,.store 1 (t 67) QT,none⟩,0⟩]
def zchn : List am := [Qo 68 (.mov (t 10)),
 Qo 69 (.mov (t 16)),
 Qo 70 (.buildSl dq 1 1 [(.int .i64 0)] [(0,1,(t 69))]),
 Qm 4 71 (.append dq 1 8 (t 68) (t 70)),
 Qo 10 (.mov (t 71))]
def zcho : List am := [Qo 72 (.bin .add (t 39) (ci 1)),
 Qo 39 (.mov (t 72))]
def ej : TC := (.seq (.ops zcgg) (.clean [2,3,4,9,10,12,37,38,39,40] (.seq (.cond (t 40) .skip (.exit 2)) (.clean [2,3,4,9,10,12,37,38,39] (.seq (.block 3 [2,3,4,9,10,12,37,38,39] (.seq (.ops zcgh) (.clean [2,3,4,9,10,12,14,37,38,39] (.seq (.draw (pl zchi)) (.clean [2,3,4,9,10,12,15,16,37,38,39] (.seq (.seq (.ops zchj) (.clean [2,3,4,9,10,12,15,16,37,38,39,47] (.cond (t 47) (.ops zchk) .skip))) (.clean [2,3,4,9,10,12,15,16,37,38,39] (.seq (.ops zchl) (.clean [2,3,4,9,10,12,16,37,38,39,64] (.cond (t 64) (.seq (.ops zchm) (.clean [2,3,4,9,10,12,16,37,38,39] (.ops zchn))) .skip)))))))))) (.clean [2,3,4,9,10,12,37,38,39] (.ops zcho)))))))
def nc : TC := (.block 1 [2,3,4,9,10] (.seq (.ops zcgb) (.clean [2,3,4,9,10,11] (.seq (.seq (.ops zcgc) (.clean [2,3,4,9,10,11,26] (.cond (t 26) (.exit 0) .skip))) (.clean [2,3,4,9,10,11] (.seq (.ops zcgd) (.clean [2,3,4,9,10,11,12] (.seq (.ops zcge) (.clean [2,3,4,9,10,12] (.seq (.ops zcgf) (.block 2 [2,3,4,9,10] (.clean [2,3,4,9,10,12,37,38,39] (.loop [2,3,4,9,10,12,37,38,39] ej)))))))))))))
def zchp : List am := [Qo 73 (.mov (t 9)),
 Qo 8 (.mov (t 73))]
def zb22 : TC := (.seq (.ops zcf8) (.clean [1,2,3,4] (.seq (.ops zcf9) (.clean [1,2,3,4,9] (.seq (.ops zcga) (.clean [2,3,4,9,10] (.seq .skip (.seq (.block 0 [9] (.clean [2,3,4,9,10] (.loop [2,3,4,9,10] nc))) (.clean [9] (.seq (.ops zchp) (.ret [8])))))))))))
def zb25 : TFn := ⟨74,zb22,[.tmp 8],true⟩
theorem ee : type_of% (ai @zcf8.eq_1 (ai @zcf9.eq_1 (ai @zcga.eq_1 (ai @zcgb.eq_1 (ai @zcgc.eq_1 (ai @zcgd.eq_1 (ai @zcge.eq_1 (ai @zcgf.eq_1 (ai @zcgg.eq_1 (ai @zcgh.eq_1 (ai @zchi.eq_1 (ai @zchj.eq_1 (ai @zchk.eq_1 (ai @zchl.eq_1 (ai @zchm.eq_1 (ai @zchn.eq_1 (ai @zcho.eq_1 (ai @zchp.eq_1 (ai @zb22.eq_1 @zb25.eq_1))))))))))))))))))) := ⟨rfl,rfl,rfl,rfl,rfl,rfl,rfl,rfl,rfl,rfl,rfl,rfl,rfl,rfl,rfl,rfl,rfl,rfl,rfl,rfl⟩
theorem zcq1 : wb Try.prog [(10,⟨[0,1,2,3,4,5],[0,1,0,4,3,31],[],[],.nil⟩)] il = some (74,zb22.erase,[.tmp 8]) := by kernel_rfl
def zchg : List am := [Qo 2 (.mov QF)]
def zchh : List am := [Qo 2 (.mov QT)]
def z4 : TC := (.seq (.ops zchg) (.clean [] (.seq (.ops zchh) (.ret [2]))))
def zb3a : TFn := ⟨3,z4,[.tmp 2],false⟩
theorem zcru : type_of% (ai @zchg.eq_1 (ai @zchh.eq_1 (ai @z4.eq_1 @zb3a.eq_1))) := ⟨rfl,rfl,rfl,rfl⟩
theorem zcrz : wb Try.prog [] g9 = some (3,z4.erase,[.tmp 2]) := by kernel_rfl
def zcis : List am := [Qo 1 (.box aw 7 (t 0)),
 Qo 2 (.mov QF)]
def zcit : List am := [Qo 5 (.loadN 7 (t 1)),
 Qo 6 (.call mi [(t 5)]),
 Qo 7 (.un .not (t 6))]
def zciu : List am := [Qo 2 (.mov QF)]
def zciv : List am := [Qo 8 (.mkFunc (.func dp) [] [(t 1)]),
 Qo 3 (.mov (t 8))]
def zciw : List am := [Qo 9 (.fieldAddr 1 (t 1)),
 Qo 10 (.load1 (t 9)),
 Qo 11 (.lenL (t 10)),
 Qo 12 (.mov (ci 0))]
def zcix : List am := [Qo 13 (.bin .lss (t 12) (t 11))]
def zci4 : List am := [Qo 14 (.mov (t 12)),
 Qo 4 (.mov (t 14))]
def zci5 : List am := [Qo 15 (.mov (t 3)),
 Qo 16 (.mov (t 4)),
 Qo 17 (.callv (t 15) [(t 16)]),
 Qo 18 (.mov (t 17)),
 Qt 18 19 (.loadN 7 (t 1)),
 Qt 18 20 (.mov (t 4)),
 Qt 18 21 (.mov (t 3)),
 Qt 18 22 (.call il [(t 19),(t 20),QF,(t 21)]),
 Qt 18 23 (.mov (t 4)),
 Qt 18 24 (.indexSl 1 (t 22) (t 23)),
 Qt 18 25 (.load1 (t 24)),
 Qo 26 (.pick (t 18) (t 25) QF)]
def zci6 : List am := [Qo 2 (.mov QF)]
def zci7 : List am := [Qo 27 (.bin .add (t 12) (ci 1)),
 Qo 12 (.mov (t 27))]
def jp : TC := (.seq (.ops zcix) (.clean [1,3,11,12,13] (.seq (.cond (t 13) .skip (.exit 0)) (.clean [1,3,11,12] (.seq (.block 1 [1,3,11,12] (.seq (.ops zci4) (.clean [1,3,4,11,12] (.seq (.ops zci5) (.clean [1,3,11,12,26] (.cond (t 26) (.seq (.ops zci6) (.ret [2])) .skip)))))) (.clean [1,3,11,12] (.ops zci7)))))))
def zci3 : List am := [Qo 2 (.mov QT)]
def wd : TC := (.seq (.ops zcis) (.clean [1] (.seq (.seq (.ops zcit) (.clean [1,7] (.cond (t 7) (.seq (.ops zciu) (.ret [2])) .skip))) (.clean [1] (.seq (.ops zciv) (.clean [1,3] (.seq (.seq (.ops zciw) (.block 0 [] (.clean [1,3,11,12] (.loop [1,3,11,12] jp)))) (.clean [] (.seq (.ops zci3) (.ret [2]))))))))))
def xd : TFn := ⟨28,wd,[.tmp 2],false⟩
theorem ir : type_of% (ai @zcis.eq_1 (ai @zcit.eq_1 (ai @zciu.eq_1 (ai @zciv.eq_1 (ai @zciw.eq_1 (ai @zcix.eq_1 (ai @zci4.eq_1 (ai @zci5.eq_1 (ai @zci6.eq_1 (ai @zci7.eq_1 (ai @zci3.eq_1 (ai @wd.eq_1 @xd.eq_1)))))))))))) := ⟨rfl,rfl,rfl,rfl,rfl,rfl,rfl,rfl,rfl,rfl,rfl,rfl,rfl⟩
theorem zcte : wb Try.prog [] jw = some (28,wd.erase,[.tmp 2]) := by kernel_rfl
def yp : List am := [Qo 3 (.mov QF)]
def yo : List am := [Qo 4 (.fieldAddr 3 (t 1)),
 Qo 5 (.load1 (t 4)),
 Qo 6 (.mov (t 0)),
 Qo 7 (.call dd [(t 5),(t 6)]),
 Qo 8 (.un .not (t 7)),
 Qo 3 (.mov (t 8))]
def tm : TC := (.seq (.ops yp) (.clean [0,1] (.seq (.ops yo) (.ret [3]))))
def ue : TFn := ⟨9,tm,[.tmp 3],false⟩
theorem zcts : type_of% (ai @yp.eq_1 (ai @yo.eq_1 (ai @tm.eq_1 @ue.eq_1))) := ⟨rfl,rfl,rfl,rfl⟩
theorem zctu : wb Try.prog [] dp = some (9,tm.erase,[.tmp 3]) := by kernel_rfl
def qb : List am := [Qo 4 (.mov QF)]
def qa : List am := [Qo 5 (.mov (t 0)),
 Qo 6 (.mov (t 1)),
 Qo 7 (.call fq [(t 5),(t 6)]),
 Qo 8 (.bin .geq (t 7) (ci 0)),
 Qo 4 (.mov (t 8))]
def l5 : TC := (.seq (.ops qb) (.clean [0,1] (.seq (.ops qa) (.ret [4]))))
def l7 : TFn := ⟨9,l5,[.tmp 4],false⟩
theorem zcue : type_of% (ai @qb.eq_1 (ai @qa.eq_1 (ai @l5.eq_1 @l7.eq_1))) := ⟨rfl,rfl,rfl,rfl⟩
theorem zcuf : wb Try.prog [] dd = some (9,l5.erase,[.tmp 4]) := by kernel_rfl
def uz : List am := [Qo 4 (.mov (ci 0))]
def uy : List am := [Qo 6 (.mov (t 0)),
 Qo 7 (.lenL (t 6)),
 Qo 8 (.mov (ci 0))]
def ux : List am := [Qo 9 (.bin .lss (t 8) (t 7))]
def uw : List am := [Qo 10 (.mov (t 8)),
 Qo 5 (.mov (t 10))]
def uv : List am := [Qo 11 (.mov (t 1)),
 Qo 12 (.mov (t 0)),
 Qo 13 (.mov (t 5)),
 Qo 14 (.indexSl 1 (t 12) (t 13)),
 Qo 15 (.load1 (t 14)),
 Qo 16 (.bin .eql (t 11) (t 15))]
def uu : List am := [Qo 17 (.mov (t 5)),
 Qo 4 (.mov (t 17))]
def ut : List am := [Qo 18 (.bin .add (t 8) (ci 1)),
 Qo 8 (.mov (t 18))]
def gu : TC := (.seq (.ops ux) (.clean [0,1,7,8,9] (.seq (.cond (t 9) .skip (.exit 0)) (.clean [0,1,7,8] (.seq (.block 1 [0,1,7,8] (.seq (.ops uw) (.clean [0,1,5,7,8] (.seq (.ops uv) (.clean [0,1,5,7,8,16] (.cond (t 16) (.seq (.ops uu) (.ret [4])) .skip)))))) (.clean [0,1,7,8] (.ops ut)))))))
def ur : List am := [Qo 4 (.mov (ci (-1)))]
def nv : TC := (.seq (.ops uz) (.clean [0,1] (.seq (.seq (.ops uy) (.block 0 [] (.clean [0,1,7,8] (.loop [0,1,7,8] gu)))) (.clean [] (.seq (.ops ur) (.ret [4]))))))
def nw : TFn := ⟨19,nv,[.tmp 4],false⟩
theorem fp : type_of% (ai @uz.eq_1 (ai @uy.eq_1 (ai @ux.eq_1 (ai @uw.eq_1 (ai @uv.eq_1 (ai @uu.eq_1 (ai @ut.eq_1 (ai @ur.eq_1 (ai @nv.eq_1 @nw.eq_1))))))))) := ⟨rfl,rfl,rfl,rfl,rfl,rfl,rfl,rfl,rfl,rfl⟩
theorem zct6 : wb Try.prog [] fq = some (19,nv.erase,[.tmp 4]) := by kernel_rfl
def zcft : List am := [Qo 2 (.box aw 7 (t 0)),
 Qo 3 (.box zl 1 (t 1)),
 Qo 4 (.mov QF)]
def zcfu : List am := [Qo 7 (.loadN 7 (t 2)),
 Qo 8 (.call mi [(t 7)]),
 Qo 9 (.un .not (t 8)),
 Qo 10 (.mov (t 9)),
 Qf 10 11 (.load1 (t 3)),
 Qf 10 12 (.lenL (t 11)),
 Qf 10 13 (.bin .eql (t 12) (ci 0)),
 Qo 14 (.pick (t 10) QT (t 13))]
def zcew : List am := [Qo 4 (.mov QF)]
def zcex : List am := [Qo 15 (.load1 (t 3)),
 Qo 16 (.lenL (t 15)),
 Qo 17 (.mov (ci 0))]
def zcey : List am := [Qo 18 (.bin .lss (t 17) (t 16))]
def zcez : List am := [Qo 19 (.mov (t 17)),
 Qo 20 (.indexSl 1 (t 15) (t 17)),
 Qo 21 (.load1 (t 20)),
 Qo 5 (.box dq 1 (.const (.int .i64 0))),
 Qo 6 (.box dq 1 (.const (.int .i64 0))),
 ⟨⟨none,.store 1 (t 5) (t 19),none⟩,0⟩,
 ⟨⟨none,.store 1 (t 6) (t 21),none⟩,0⟩]
def zce0 : List am := [Qo 22 (.load1 (t 6)),
 Qo 23 (.bin .lss (t 22) (ci 0)),
 Qo 24 (.mov (t 23)),
 Qf 24 25 (.load1 (t 6)),
 Qf 24 26 (.fieldAddr 1 (t 2)),
 Qf 24 27 (.load1 (t 26)),
 Qf 24 28 (.lenL (t 27)),
 Qf 24 29 (.bin .geq (t 25) (t 28)),
 Qo 30 (.pick (t 24) QT (t 29)),
 Qo 31 (.mov (t 30)),
 Qf 31 32 (.load1 (t 3)),
 Qf 31 33 (.load1 (t 5)),
 Qf 31 34 (.sliceSl 1 (t 32) none (some (t 33))),
 Qf 31 35 (.load1 (t 6)),
 Qf 31 36 (.call dd [(t 34),(t 35)]),
 Qo 37 (.pick (t 31) QT (t 36))]
def zce1 : List am := [Qo 4 (.mov QF)]
def zce2 : List am := [Qo 38 (.load1 (t 5)),
 Qo 39 (.bin .gtr (t 38) (ci 0)),
 Qo 40 (.mov (t 39)),
 Qt 40 41 (.fieldAddr 2 (t 2)),
 Qt 40 42 (.load1 (t 41)),
 Qt 40 43 (.mkFunc (.func gf) [] [(t 3),(t 5),(t 6)]),
 Qt 40 44 (.call bg [(t 42),(t 43)]),
 Qt 40 45 (.un .not (t 44)),
 Qo 46 (.pick (t 40) (t 45) QF)]
def zce3 : List am := [Qo 4 (.mov QF)]
def zcf4 : List am := [Qo 47 (.bin .add (t 17) (ci 1)),
 Qo 17 (.mov (t 47))]
def je : TC := (.seq (.ops zcey) (.clean [2,3,15,16,17,18] (.seq (.cond (t 18) .skip (.exit 0)) (.clean [2,3,15,16,17] (.seq (.block 1 [2,3,15,16,17] (.seq (.ops zcez) (.clean [2,3,5,6,15,16,17] (.seq (.seq (.draw (pl zce0)) (.clean [2,3,5,6,15,16,17,37] (.cond (t 37) (.seq (.ops zce1) (.ret [4])) .skip))) (.clean [2,3,5,6,15,16,17] (.seq (.ops zce2) (.clean [2,3,15,16,17,46] (.cond (t 46) (.seq (.ops zce3) (.ret [4])) .skip)))))))) (.clean [2,3,15,16,17] (.ops zcf4)))))))
def zcf5 : List am := [Qo 4 (.mov QT)]
def zb2j : TC := (.seq (.ops zcft) (.clean [2,3] (.seq (.seq (.ops zcfu) (.clean [2,3,14] (.cond (t 14) (.seq (.ops zcew) (.ret [4])) .skip))) (.clean [2,3] (.seq (.seq (.ops zcex) (.block 0 [] (.clean [2,3,15,16,17] (.loop [2,3,15,16,17] je)))) (.clean [] (.seq (.ops zcf5) (.ret [4]))))))))
def zb2p : TFn := ⟨48,zb2j,[.tmp 4],false⟩
theorem iq : type_of% (ai @zcft.eq_1 (ai @zcfu.eq_1 (ai @zcew.eq_1 (ai @zcex.eq_1 (ai @zcey.eq_1 (ai @zcez.eq_1 (ai @zce0.eq_1 (ai @zce1.eq_1 (ai @zce2.eq_1 (ai @zce3.eq_1 (ai @zcf4.eq_1 (ai @zcf5.eq_1 (ai @zb2j.eq_1 @zb2p.eq_1))))))))))))) := ⟨rfl,rfl,rfl,rfl,rfl,rfl,rfl,rfl,rfl,rfl,rfl,rfl,rfl,rfl⟩
theorem zcvs : wb Try.prog [(6,⟨[0,1,2,3,4,5,6,7,8,9,10,11,12,13,14,15],[0,1,3,7,7,23,55,127,255,511,1023,1023,4095,1023,16383,32767],[],[],.nil⟩)] qp = some (48,zb2j.erase,[.tmp 4]) := by kernel_rfl
def jk : List am := [Qo 4 (.mov QF)]
def jj : List am := [Qo 5 (.mov (t 0)),
 Qo 6 (.mov (t 1)),
 Qo 7 (.call bu [(t 5),(t 6)]),
 Qo 8 (.bin .geq (t 7) (ci 0)),
 Qo 4 (.mov (t 8))]
def ep : TC := (.seq (.ops jk) (.clean [0,1] (.seq (.ops jj) (.ret [4]))))
def er : TFn := ⟨9,ep,[.tmp 4],false⟩
theorem sd : type_of% (ai @jk.eq_1 (ai @jj.eq_1 (ai @ep.eq_1 @er.eq_1))) := ⟨rfl,rfl,rfl,rfl⟩
theorem sc : wb Try.prog [] bg = some (9,ep.erase,[.tmp 4]) := by kernel_rfl
def ko : List am := [Qo 4 (.mov (ci 0))]
def kn : List am := [Qo 6 (.mov (t 0)),
 Qo 7 (.lenL (t 6)),
 Qo 8 (.mov (ci 0))]
def km : List am := [Qo 9 (.bin .lss (t 8) (t 7))]
def kl : List am := [Qo 10 (.mov (t 8)),
 Qo 5 (.mov (t 10))]
def kj : List am := [Qo 11 (.mov (t 1)),
 Qo 12 (.mov (t 0)),
 Qo 13 (.mov (t 5)),
 Qo 14 (.indexSl 5 (t 12) (t 13)),
 Qo 15 (.loadN 5 (t 14)),
 Qo 16 (.callv (t 11) [(t 15)])]
def ki : List am := [Qo 17 (.mov (t 5)),
 Qo 4 (.mov (t 17))]
def kh : List am := [Qo 18 (.bin .add (t 8) (ci 1)),
 Qo 8 (.mov (t 18))]
def ce : TC := (.seq (.ops km) (.clean [0,1,7,8,9] (.seq (.cond (t 9) .skip (.exit 0)) (.clean [0,1,7,8] (.seq (.block 1 [0,1,7,8] (.seq (.ops kl) (.clean [0,1,5,7,8] (.seq (.ops kj) (.clean [0,1,5,7,8,16] (.cond (t 16) (.seq (.ops ki) (.ret [4])) .skip)))))) (.clean [0,1,7,8] (.ops kh)))))))
def kg : List am := [Qo 4 (.mov (ci (-1)))]
def gj : TC := (.seq (.ops ko) (.clean [0,1] (.seq (.seq (.ops kn) (.block 0 [] (.clean [0,1,7,8] (.loop [0,1,7,8] ce)))) (.clean [] (.seq (.ops kg) (.ret [4]))))))
def gm : TFn := ⟨19,gj,[.tmp 4],false⟩
theorem br : type_of% (ai @ko.eq_1 (ai @kn.eq_1 (ai @km.eq_1 (ai @kl.eq_1 (ai @kj.eq_1 (ai @ki.eq_1 (ai @kh.eq_1 (ai @kg.eq_1 (ai @gj.eq_1 @gm.eq_1))))))))) := ⟨rfl,rfl,rfl,rfl,rfl,rfl,rfl,rfl,rfl,rfl⟩
theorem vh : wb Try.prog [] bu = some (19,gj.erase,[.tmp 4]) := by kernel_rfl
def zch2 : List am := [Qo 4 (.box du 5 (t 0)),
 Qo 5 (.mov QF)]
def zch3 : List am := [Qo 6 (.fieldAddr 0 (t 4)),
 Qo 7 (.load1 (t 6)),
 Qo 8 (.load1 (t 1)),
 Qo 9 (.load1 (t 2)),
 Qo 10 (.bin .sub (t 9) (ci 1)),
 Qo 11 (.indexSl 1 (t 8) (t 10)),
 Qo 12 (.load1 (t 11)),
 Qo 13 (.bin .eql (t 7) (t 12)),
 Qo 14 (.mov (t 13)),
 Qt 14 15 (.fieldAddr 1 (t 4)),
 Qt 14 16 (.load1 (t 15)),
 Qt 14 17 (.load1 (t 3)),
 Qt 14 18 (.bin .eql (t 16) (t 17)),
 Qo 19 (.pick (t 14) (t 18) QF),
 Qo 5 (.mov (t 19))]
def z7 : TC := (.seq (.ops zch2) (.clean [1,2,3,4] (.seq (.draw (pl zch3)) (.ret [5]))))
def zb28 : TFn := ⟨20,z7,[.tmp 5],false⟩
theorem zcdv : type_of% (ai @zch2.eq_1 (ai @zch3.eq_1 (ai @z7.eq_1 @zb28.eq_1))) := ⟨rfl,rfl,rfl,rfl⟩
theorem zcrx : wb Try.prog [(1,⟨[0,1,2,3,4,5,6,7,8,9,10,11,12,13,14],[0,1,0,0,8,28,60,127,255,511,1023,511,4095,8191,16383],[],[],.nil⟩)] gf = some (20,z7.erase,[.tmp 5]) := by kernel_rfl
def zcgy : List am := [Qo 2 (.box aw 7 (t 0)),
 Qo 3 (.box dq 1 (t 1)),
 Qo 4 (.mov (.const (Go.Value.slice none 0 0)))]
def zcgz : List am := [Qo 5 (.loadN 7 (t 2)),
 Qo 6 (.mkFunc (.func io) [] [(t 3)]),
 Qo 7 (.call kd [(t 5),(t 6)]),
 Qo 4 (.mov (t 7))]
def zb2z : TC := (.seq (.ops zcgy) (.clean [2,3] (.seq (.ops zcgz) (.ret [4]))))
def zb2v : TFn := ⟨8,zb2z,[.tmp 4],false⟩
theorem zcrg : type_of% (ai @zcgy.eq_1 (ai @zcgz.eq_1 (ai @zb2z.eq_1 @zb2v.eq_1))) := ⟨rfl,rfl,rfl,rfl⟩
theorem zcqy : wb Try.prog [] rc = some (8,zb2z.erase,[.tmp 4]) := by kernel_rfl
def zcgi : List am := [Qo 2 (.box aw 7 (t 0)),
 Qo 4 (.mov (.const (Go.Value.slice none 0 0)))]
def zcgj : List am := [Qm 1 5 (.mov (.const (Go.Value.slice none 0 0)))]
def zcgk : List am := [Qo 8 (.loadN 7 (t 2)),
 Qo 9 (.call mi [(t 8)]),
 Qo 10 (.un .not (t 9))]
def zcgl : List am := [Qo 4 (.mov (.const (Go.Value.slice none 0 0)))]
def zcgm : List am := [Qo 11 (.fieldAddr 2 (t 2)),
 Qo 12 (.load1 (t 11)),
 Qo 13 (.lenL (t 12)),
 Qo 14 (.mov (ci 0))]
def zcgn : List am := [Qo 15 (.bin .lss (t 14) (t 13))]
def zcgo : List am := [Qo 16 (.mov (t 14)),
 Qo 17 (.indexSl 5 (t 12) (t 14)),
 Qo 18 (.loadN 5 (t 17)),
 Qo 7 (.box du 5 (.const (.agg #[(.int .i64 0),(.int .i64 0),(.int .i64 0),(.string ⟨#[]⟩),(.int .i64 0)]))),
 Qo 6 (.mov (t 16)),
 ⟨⟨none,.store 5 (t 7) (t 18),none⟩,0⟩]
def zcgp : List am := [Qo 19 (.mov (t 1)),
 Qo 20 (.loadN 5 (t 7)),
 Qo 21 (.callv (t 19) [(t 20)])]
def zcgq : List am := [Qo 22 (.mov (t 5)),
 Qo 23 (.mov (t 6)),
 Qo 24 (.buildSl dq 1 1 [(.int .i64 0)] [(0,1,(t 23))]),
 Qo 25 (.append dq 1 8 (t 22) (t 24)),
 Qo 5 (.mov (t 25))]
def zcgr : List am := [Qo 26 (.bin .add (t 14) (ci 1)),
 Qo 14 (.mov (t 26))]
def ie : TC := (.seq (.ops zcgn) (.clean [1,5,12,13,14,15] (.seq (.cond (t 15) .skip (.exit 0)) (.clean [1,5,12,13,14] (.seq (.block 1 [1,5,12,13,14] (.seq (.ops zcgo) (.clean [1,5,6,7,12,13,14] (.seq (.ops zcgp) (.clean [1,5,6,12,13,14,21] (.cond (t 21) (.ops zcgq) .skip)))))) (.clean [1,5,12,13,14] (.ops zcgr)))))))
def zchq : List am := [Qo 27 (.mov (t 5)),
 Qo 4 (.mov (t 27))]
def zb23 : TC := (.seq (.ops zcgi) (.clean [1,2] (.seq (.ops zcgj) (.clean [1,2,5] (.seq (.seq (.ops zcgk) (.clean [1,2,5,10] (.cond (t 10) (.seq (.ops zcgl) (.ret [4])) .skip))) (.clean [1,2,5] (.seq (.seq (.ops zcgm) (.block 0 [5] (.clean [1,5,12,13,14] (.loop [1,5,12,13,14] ie)))) (.clean [5] (.seq (.ops zchq) (.ret [4]))))))))))
def zb26 : TFn := ⟨28,zb23,[.tmp 4],false⟩
theorem gi : type_of% (ai @zcgi.eq_1 (ai @zcgj.eq_1 (ai @zcgk.eq_1 (ai @zcgl.eq_1 (ai @zcgm.eq_1 (ai @zcgn.eq_1 (ai @zcgo.eq_1 (ai @zcgp.eq_1 (ai @zcgq.eq_1 (ai @zcgr.eq_1 (ai @zchq.eq_1 (ai @zb23.eq_1 @zb26.eq_1)))))))))))) := ⟨rfl,rfl,rfl,rfl,rfl,rfl,rfl,rfl,rfl,rfl,rfl,rfl,rfl⟩
theorem zcq2 : wb Try.prog [] kd = some (28,zb23.erase,[.tmp 4]) := by kernel_rfl
def zch9 : List am := [Qo 2 (.box du 5 (t 0)),
 Qo 3 (.mov QF)]
def zcia : List am := [Qo 4 (.fieldAddr 1 (t 2)),
 Qo 5 (.load1 (t 4)),
 Qo 6 (.load1 (t 1)),
 Qo 7 (.bin .eql (t 5) (t 6)),
 Qo 3 (.mov (t 7))]
def ye : TC := (.seq (.ops zch9) (.clean [1,2] (.seq (.ops zcia) (.ret [3]))))
def yj : TFn := ⟨8,ye,[.tmp 3],false⟩
theorem zcsr : type_of% (ai @zch9.eq_1 (ai @zcia.eq_1 (ai @ye.eq_1 @yj.eq_1))) := ⟨rfl,rfl,rfl,rfl⟩
theorem zcse : wb Try.prog [] io = some (8,ye.erase,[.tmp 3]) := by kernel_rfl
def zcf2 : List am := [Qo 2 (.box aw 7 (t 0)),
 Qo 3 (.box dq 1 (t 1)),
 Qo 4 (.mov (.const (Go.Value.slice none 0 0)))]
def zcf3 : List am := [Qo 5 (.loadN 7 (t 2)),
 Qo 6 (.mkFunc (.func im) [] [(t 3)]),
 Qo 7 (.call kd [(t 5),(t 6)]),
 Qo 4 (.mov (t 7))]
def zb20 : TC := (.seq (.ops zcf2) (.clean [2,3] (.seq (.ops zcf3) (.ret [4]))))
def zb2w : TFn := ⟨8,zb20,[.tmp 4],false⟩
theorem zcrh : type_of% (ai @zcf2.eq_1 (ai @zcf3.eq_1 (ai @zb20.eq_1 @zb2w.eq_1))) := ⟨rfl,rfl,rfl,rfl⟩
theorem zcqz : wb Try.prog [] rb = some (8,zb20.erase,[.tmp 4]) := by kernel_rfl
def zcib : List am := [Qo 2 (.box du 5 (t 0)),
 Qo 3 (.mov QF)]
def zcic : List am := [Qo 4 (.fieldAddr 0 (t 2)),
 Qo 5 (.load1 (t 4)),
 Qo 6 (.load1 (t 1)),
 Qo 7 (.bin .eql (t 5) (t 6)),
 Qo 3 (.mov (t 7))]
def yd : TC := (.seq (.ops zcib) (.clean [1,2] (.seq (.ops zcic) (.ret [3]))))
def yi : TFn := ⟨8,yd,[.tmp 3],false⟩
theorem zcss : type_of% (ai @zcib.eq_1 (ai @zcic.eq_1 (ai @yd.eq_1 @yi.eq_1))) := ⟨rfl,rfl,rfl,rfl⟩
theorem zcsf : wb Try.prog [] im = some (8,yd.erase,[.tmp 3]) := by kernel_rfl
def yw : List am := [Qo 4 (.fieldAddr 2 (t 1)),
 ⟨⟨none,.store 1 (t 4) (.const (Go.Value.slice none 0 0)),none⟩,0⟩]
def yv : List am := [Qo 3 (.mov (ci 0))]
def yu : List am := [Qo 5 (.mov (t 3)),
 Qo 6 (.bin .add (t 5) (ci 1)),
 Qo 7 (.mov (t 0)),
 Qo 8 (.lenL (t 7)),
 Qo 9 (.bin .lss (t 6) (t 8))]
def yq : List am := [Qo 12 (.fieldAddr 2 (t 1)),
 Qm 2 13 (.load1 (t 12)),
 Qo 14 (.mov (t 0)),
 Qo 15 (.mov (t 3)),
 Qo 16 (.indexSl 1 (t 14) (t 15)),
 Qo 17 (.load1 (t 16)),
 Qo 18 (.mov (t 0)),
 Qo 19 (.mov (t 3)),
 Qo 20 (.bin .add (t 19) (ci 1)),
 Qo 21 (.indexSl 1 (t 18) (t 20)),
 Qo 22 (.load1 (t 21)),
 Qo 23 (.build [(.int .i64 0),(.int .i64 0),(.int .i64 0),(.string ⟨#[]⟩),(.int .i64 0)] [(0,1,(t 17)),(1,1,(t 22)),(3,1,(.const (Go.Value.string ⟨#[103,111,108,100]⟩))),(4,1,(ci 1))]),
 Qo 24 (.buildSl du 5 1 [(.int .i64 0),(.int .i64 0),(.int .i64 0),(.string ⟨#[]⟩),(.int .i64 0)] [(0,5,(t 23))]),
 Qo 25 (.append du 5 48 (t 13) (t 24)),
 Qo 26 (.fieldAddr 2 (t 1)),
 ⟨⟨none,.store 1 (t 26) (t 25),none⟩,2⟩]
def yr : List am := [Qo 10 (.mov (t 3)),
 Qo 11 (.bin .add (t 10) (ci 2)),
 Qo 3 (.mov (t 11))]
def my : TC := (.seq (.seq (.ops yu) (.clean [0,1,3,9] (.cond (t 9) .skip (.exit 0)))) (.clean [0,1,3] (.seq (.block 1 [0,1,3] (.draw (pl yq))) (.clean [0,1,3] (.ops yr)))))
def tn : TC := (.seq (.ops yw) (.clean [0,1] (.seq (.ops yv) (.block 0 [] (.clean [0,1,3] (.loop [0,1,3] my))))))
def uf : TFn := ⟨27,tn,[],false⟩
theorem po : type_of% (ai @yw.eq_1 (ai @yv.eq_1 (ai @yu.eq_1 (ai @yq.eq_1 (ai @yr.eq_1 (ai @tn.eq_1 @uf.eq_1)))))) := ⟨rfl,rfl,rfl,rfl,rfl,rfl,rfl⟩
theorem zctt : wb Try.prog [(4,⟨[0,1,2,3,4,5,6,7,8,9,10,11,12,13,14,15],[0,1,0,0,12,28,0,0,128,448,960,2044,4092,8191,16383,32767],[],[],.nil⟩)] jq = some (27,tn.erase,[]) := by kernel_rfl
end Ic
end Go.Proofs.Ytdcfoaafkppojaa
