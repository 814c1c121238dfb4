import Derived.Test.YtjgpklmkdkkooaaProg
import Derived.Test.YtjgpklmkdkkooaaTv9
import Derived.KernelRfl
set_option linter.unusedVariables false
/- The code of functions for the tree level, printed by a program out of the model's own print; the kernel checks each. -/
namespace Go.Proofs.Ytjgpklmkdkkooaa
open Go Go.RowKit Sh
namespace Ic
abbrev t (n:Nat):Operand:=.tmp n
abbrev ci (n:Int):Operand:=.const (.int .i64 n)
abbrev pv:Nat:=4
abbrev pw:Nat:=5
abbrev x7:Nat:=9
abbrev j8:Nat:=12
abbrev zb35:Nat:=14
abbrev zb0e:Nat:=15
abbrev m7:Nat:=16
abbrev sf:Nat:=17
abbrev vo:Nat:=18
abbrev rj:Nat:=19
abbrev qj:Nat:=20
abbrev zb9t:Nat:=29
abbrev yq:Nat:=33
abbrev pm:Nat:=34
abbrev zb0d:Nat:=35
abbrev zb8g:Nat:=36
abbrev ri:Nat:=37
abbrev zb3x:Nat:=39
abbrev zb7z:Nat:=41
abbrev yr:Nat:=42
abbrev zb33:Nat:=43
abbrev po:Nat:=44
abbrev yp:Nat:=45
abbrev bk:Nat:=46
abbrev uv:Nat:=47
abbrev x6:Nat:=48
abbrev cd:Nat:=49
abbrev zb8f:Nat:=59
abbrev vn:Nat:=66
abbrev rk:Nat:=67
abbrev sb:Nat:=68
abbrev lu:Nat:=69
abbrev er:Nat:=70
abbrev zb8c:Nat:=71
abbrev ug:Nat:=72
abbrev uf:Nat:=73
abbrev ft:Nat:=74
abbrev cz:Nat:=75
abbrev j9:Nat:=76
abbrev mc:Nat:=77
abbrev zb8h:Nat:=78
abbrev zb8a:Nat:=81
abbrev uw:Nat:=82
abbrev zb38:Nat:=84
abbrev zb34:Nat:=85
abbrev zbx1:Nat:=86
abbrev se:Nat:=87
abbrev zb37:Nat:=88
abbrev uu:Nat:=89
abbrev gi:Nat:=90
abbrev i8:Nat:=91
abbrev iz:Nat:=92
abbrev cb:Nat:=93
abbrev bf:Nat:=94
abbrev dt:Nat:=95
abbrev zb36:Nat:=111
abbrev eu:Nat:=112
abbrev me:Nat:=113
abbrev lx:Nat:=114
abbrev gn:Nat:=115
abbrev xz:Nat:=116
abbrev qi:Nat:=117
abbrev xx:Nat:=118
abbrev zb70:Nat:=119
abbrev j0:Nat:=120
abbrev jq:Nat:=121
abbrev lw:Nat:=122
abbrev ny:Nat:=123
abbrev zb8i:Nat:=124
abbrev ki:Nat:=125
abbrev jt:Nat:=126
abbrev dl:Nat:=127
abbrev m6:Nat:=128
abbrev zb8b:Nat:=130
abbrev mv:Nat:=131
abbrev fy:Nat:=132
abbrev dz:Nat:=133
abbrev ca:Nat:=134
abbrev ik:Nat:=143
abbrev jz:Nat:=144
abbrev il:Nat:=145
abbrev jy:Nat:=3
abbrev zcdp:Nat:=4
abbrev dv:Nat:=5
abbrev a9:Nat:=9
abbrev zbxz:Nat:=22
abbrev bh:Nat:=27
abbrev d8:Nat:=31
abbrev iy:Nat:=44
abbrev r7:Nat:=57
abbrev n9:Nat:=64
abbrev bz:Nat:=70
abbrev gr:Nat:=95
abbrev mb:Nat:=96
abbrev dq:Nat:=98
abbrev jc:Nat:=108
abbrev uc:Nat:=130
abbrev Qo (d:Nat) (x:I):am:=⟨⟨some d,x,none⟩,0⟩
abbrev Qt (j d:Nat) (x:I):am:=⟨⟨some d,x,some (j,true)⟩,0⟩
abbrev Qf (j d:Nat) (x:I):am:=⟨⟨some d,x,some (j,false)⟩,0⟩
abbrev Qm (m d:Nat) (x:I):am:=⟨⟨some d,x,none⟩,m⟩
abbrev QF:Operand:=.const (Go.Value.bool false)
abbrev QT:Operand:=.const (Go.Value.bool true)
abbrev Qa (d a:Nat):am:=⟨⟨some d,.mov (t a),none⟩,0⟩
abbrev Qb (d a:Nat):am:=⟨⟨some d,.load1 (t a),none⟩,0⟩
def zdhk:List am:=[Qo 2 (.mov QF)]
def zdhl:List am:=[Qa 10 0,
 Qo 11 (.call x7 [(t 10),(ci 5)]),
 Qo 12 (.bin .add (ci 2) (t 11)),
 Qa 3 12]
def zdhm:List am:=[Qa 13 3,
 Qo 14 (.call zb0e [(t 13),(ci 5),(ci 6)]),
 Qo 4 (.box bh 7 (.const (.agg #[(.string ⟨#[]⟩),(.slice none 0 0),(.slice none 0 0),(.slice none 0 0),(.slice none 0 0),(.int .i64 0),(.int .i64 0)]))),
 ⟨⟨none,.store 7 (t 4) (t 14),none⟩,0⟩]
def zdhn:List am:=[Qo 15 (.loadN 7 (t 4)),
 Qo 16 (.call sf [(ci 0)]),
 Qo 17 (.call vo [(ci 0)]),
 Qo 18 (.call m7 [(t 15),(ci 0),(t 16),(t 17)]),
 Qo 5 (.box d8 4 (.const (.agg #[(.int .i64 0),(.string ⟨#[]⟩),(.slice none 0 0),(.slice none 0 0)]))),
 ⟨⟨none,.store 4 (t 5) (t 18),none⟩,0⟩]
def zdho:List am:=[Qo 6 (.mov (ci 0))]
def zdhp:List am:=[Qa 19 6,
 Qa 20 3,
 Qo 21 (.bin .lss (t 19) (t 20))]
def zdhr:List am:=[Qa 24 3,
 Qa 25 6,
 Qo 26 (.bin .sub (t 24) (t 25)),
 Qa 27 3,
 Qo 28 (.bin .rem (t 26) (t 27)),
 Qa 7 28]
def zdhs:List am:=[Qo 29 (.fieldAddr 2 (t 5)),
 Qb 30 29,
 Qo 31 (.lenL (t 30)),
 Qa 32 6,
 Qo 33 (.bin .add (t 32) (ci 1)),
 Qo 34 (.bin .neq (t 31) (t 33)),
 Qa 35 34,
 Qf 35 36 (.fieldAddr 2 (t 5)),
 Qf 35 37 (.load1 (t 36)),
 Qf 35 38 (.indexSl 1 (t 37) (ci 0)),
 Qf 35 39 (.load1 (t 38)),
 Qf 35 40 (.mov (t 7)),
 Qf 35 41 (.bin .neq (t 39) (t 40)),
 Qo 42 (.pick (t 35) QT (t 41))]
def zdht:List am:=[Qo 2 (.mov QF)]
def zdh6:List am:=[Qo 8 (.mov (ci 0))]
def zdh7:List am:=[Qa 43 8,
 Qa 44 3,
 Qo 45 (.bin .lss (t 43) (t 44))]
def zdh9:List am:=[Qo 48 (.loadN 7 (t 4)),
 Qa 49 8,
 Qo 50 (.loadN 4 (t 5)),
 Qa 52 8,
 Qo 53 (.bin .add (t 52) (ci 1)),
 Qa 54 3,
 Qo 55 (.bin .rem (t 53) (t 54)),
 Qa 56 7,
 Qo 57 (.bin .eql (t 55) (t 56)),
 Qo 51 (.call j8 [(t 48),(t 49),(t 50)]),
 Qo 58 (.eqB true (t 51) (t 57))]
def zdhx:List am:=[Qo 2 (.mov QF)]
def zdh8:List am:=[Qa 46 8,
 Qo 47 (.bin .add (t 46) (ci 1)),
 Qa 8 47]
def qc:TC:=(.seq (.seq (.ops zdh7) (.clean [3,4,5,6,7,8,45] (.cond (t 45) .skip (.exit 2)))) (.clean [3,4,5,6,7,8] (.seq (.block 3 [3,4,5,6,7,8] (.seq (.draw (pl zdh9)) (.clean [3,4,5,6,7,8,58] (.cond (t 58) (.seq (.ops zdhx) (.ret [2])) .skip)))) (.clean [3,4,5,6,7,8] (.ops zdh8)))))
def zdhy:List am:=[Qa 59 7,
 Qa 60 3,
 Qo 61 (.bin .add (t 59) (t 60)),
 Qo 62 (.bin .sub (t 61) (ci 1)),
 Qa 63 3,
 Qo 64 (.bin .rem (t 62) (t 63)),
 Qa 9 64]
def zdhz:List am:=[Qo 65 (.loadN 7 (t 4)),
 Qo 66 (.loadN 4 (t 5)),
 Qa 67 9,
 Qa 68 9,
 Qo 69 (.call vo [(t 68)]),
 Qo 70 (.call rj [(t 65),(t 66),(t 67),(t 69)]),
 ⟨⟨none,.store 4 (t 5) (t 70),none⟩,0⟩]
def zdhq:List am:=[Qa 22 6,
 Qo 23 (.bin .add (t 22) (ci 1)),
 Qa 6 23]
def ir:TC:=(.seq (.seq (.ops zdhp) (.clean [3,4,5,6,21] (.cond (t 21) .skip (.exit 0)))) (.clean [3,4,5,6] (.seq (.block 1 [3,4,5,6] (.seq (.ops zdhr) (.clean [3,4,5,6,7] (.seq (.seq (.ops zdhs) (.clean [3,4,5,6,7,42] (.cond (t 42) (.seq (.ops zdht) (.ret [2])) .skip))) (.clean [3,4,5,6,7] (.seq (.seq (.ops zdh6) (.block 2 [3,4,5,6,7] (.clean [3,4,5,6,7,8] (.loop [3,4,5,6,7,8] qc)))) (.clean [3,4,5,6,7] (.seq (.ops zdhy) (.clean [3,4,5,6,9] (.draw (pl zdhz))))))))))) (.clean [3,4,5,6] (.ops zdhq)))))
def zdh0:List am:=[Qo 71 (.fieldAddr 2 (t 5)),
 Qb 72 71,
 Qo 73 (.lenL (t 72)),
 Qa 74 3,
 Qo 75 (.bin .add (t 74) (ci 1)),
 Qo 76 (.bin .eql (t 73) (t 75)),
 Qa 77 76,
 Qt 77 78 (.loadN 7 (t 4)),
 Qt 77 79 (.mov (t 3)),
 Qt 77 80 (.bin .sub (t 79) (ci 1)),
 Qt 77 81 (.loadN 4 (t 5)),
 Qt 77 82 (.call j8 [(t 78),(t 80),(t 81)]),
 Qt 77 83 (.un .not (t 82)),
 Qo 84 (.pick (t 77) (t 83) QF),
 Qa 85 84,
 Qt 85 86 (.call zb35 []),
 Qo 87 (.pick (t 85) (t 86) QF),
 Qa 2 87]
def zc6p:TC:=(.seq (.ops zdhk) (.clean [0] (.seq (.ops zdhl) (.clean [3] (.seq (.ops zdhm) (.clean [3,4] (.seq (.drawT (pl zdhn) [((.cons 0 .nil),[3,4,15]),((.alt 1 (.alt 2 (.alt 3 (.cons 4 .nil) 4 (.cons 3 .nil)) 4 (.cons 2 (.cons 3 .nil))) 4 (.cons 1 (.cons 2 (.cons 3 .nil)))),[3,4,5,18]),((.cons 5 .nil),[3,4,5])]) (.clean [3,4,5] (.seq (.seq (.ops zdho) (.block 0 [3,4,5] (.clean [3,4,5,6] (.loop [3,4,5,6] ir)))) (.clean [3,4,5] (.seq (.ops zdh0) (.ret [2]))))))))))))
def zdik:TFn:=⟨88,zc6p,[.tmp 2],false⟩
theorem zdkq:th Try.prog [(3,⟨[0,1,2,3,4,5],[0,0,2,7,0,31],[],[],(.cons 0 (.alt 1 (.alt 2 (.alt 3 (.cons 4 (.cons 5 .nil)) 4 (.cons 3 (.cons 5 .nil))) 4 (.cons 2 (.cons 3 (.cons 5 .nil)))) 4 (.cons 1 (.cons 2 (.cons 3 (.cons 5 .nil))))))⟩),(13,⟨[0,1,2,4,5,6,7,8,9,3,10],[0,0,0,7,0,16,0,112,0,496,1023],[],[],.nil⟩),(16,⟨[0,1,2,3,4,5,6],[0,0,0,0,8,31,63],[],[],.nil⟩)] pv = some (88,zc6p.erase,[.tmp 2]):=by kernel_rfl
def zcvq:List am:=[Qo 4 (.mov (ci 0))]
def zcvr:List am:=[Qa 6 0,
 Qa 7 1,
 Qo 8 (.bin .rem (t 6) (t 7)),
 Qa 5 8]
def zcvs:List am:=[Qa 9 5,
 Qo 10 (.bin .lss (t 9) (ci 0))]
def zcvt:List am:=[Qa 11 5,
 Qa 12 1,
 Qo 13 (.bin .add (t 11) (t 12)),
 Qa 5 13]
def zcvu:List am:=[Qa 14 5,
 Qa 4 14]
def zci6:TC:=(.seq (.ops zcvq) (.clean [0,1] (.seq (.ops zcvr) (.clean [1,5] (.seq (.seq (.ops zcvs) (.clean [1,5,10] (.cond (t 10) (.ops zcvt) .skip))) (.clean [5] (.seq (.ops zcvu) (.ret [4]))))))))
def zcir:TFn:=⟨15,zci6,[.tmp 4],false⟩
theorem zc7e:type_of% (ai @zcvq.eq_1 (ai @zcvr.eq_1 (ai @zcvs.eq_1 (ai @zcvt.eq_1 (ai @zcvu.eq_1 (ai @zci6.eq_1 @zcir.eq_1)))))):=⟨rfl,rfl,rfl,rfl,rfl,rfl,rfl⟩
theorem zdce:th Try.prog [] x7 = some (15,zci6.erase,[.tmp 4]):=by kernel_rfl
def zc3u:List am:=[Qo 3 (.box bh 7 (t 0)),
 Qo 5 (.box d8 4 (t 2)),
 Qo 6 (.mov QF)]
def zc3v:List am:=[Qo 8 (.loadN 7 (t 3)),
 Qo 9 (.call yq [(t 8)]),
 Qo 10 (.un .not (t 9)),
 Qa 11 10,
 Qf 11 12 (.mov (t 1)),
 Qf 11 13 (.bin .lss (t 12) (ci 0)),
 Qo 14 (.pick (t 11) QT (t 13)),
 Qa 15 14,
 Qf 15 16 (.mov (t 1)),
 Qf 15 17 (.fieldAddr 2 (t 3)),
 Qf 15 18 (.load1 (t 17)),
 Qf 15 19 (.lenL (t 18)),
 Qf 15 20 (.bin .geq (t 16) (t 19)),
 Qo 21 (.pick (t 15) QT (t 20)),
 Qa 22 21,
 Qf 22 23 (.loadN 7 (t 3)),
 Qf 22 24 (.fieldAddr 0 (t 5)),
 Qf 22 25 (.load1 (t 24)),
 Qf 22 26 (.call pm [(t 23),(t 25)]),
 Qf 22 27 (.un .not (t 26)),
 Qo 28 (.pick (t 22) QT (t 27)),
 Qa 29 28,
 Qf 29 30 (.fieldAddr 1 (t 5)),
 Qf 29 31 (.load1 (t 30)),
 Qf 29 32 (.lenS (t 31)),
 Qf 29 33 (.bin .gtr (t 32) (ci 64)),
 Qo 34 (.pick (t 29) QT (t 33)),
 Qa 35 34,
 Qf 35 36 (.fieldAddr 1 (t 5)),
 Qf 35 37 (.load1 (t 36)),
 Qf 35 39 (.fieldAddr 4 (t 3)),
 Qf 35 40 (.load1 (t 39)),
 Qf 35 41 (.fieldAddr 0 (t 5)),
 Qf 35 42 (.load1 (t 41)),
 Qf 35 43 (.indexSl 1 (t 40) (t 42)),
 Qf 35 44 (.load1 (t 43)),
 Qf 35 38 (.call zb0d [(t 37)]),
 Qf 35 45 (.bin .neq (t 38) (t 44)),
 Qo 46 (.pick (t 35) QT (t 45))]
def zc3w:List am:=[Qo 6 (.mov QF)]
def zc3x:List am:=[Qo 47 (.fieldAddr 2 (t 5)),
 Qb 48 47,
 Qo 49 (.lenL (t 48)),
 Qa 7 49]
def zc3y:List am:=[Qo 50 (.loadN 7 (t 3)),
 Qo 51 (.fieldAddr 2 (t 5)),
 Qb 52 51,
 Qo 53 (.call zb8g [(t 50),(t 52)]),
 Qa 54 53,
 Qt 54 55 (.fieldAddr 2 (t 5)),
 Qt 54 56 (.load1 (t 55)),
 Qt 54 57 (.indexSl 1 (t 56) (ci 0)),
 Qt 54 58 (.load1 (t 57)),
 Qt 54 59 (.fieldAddr 2 (t 3)),
 Qt 54 60 (.load1 (t 59)),
 Qt 54 61 (.mov (t 1)),
 Qt 54 62 (.indexSl 5 (t 60) (t 61)),
 Qt 54 63 (.fieldAddr 1 (t 62)),
 Qt 54 64 (.load1 (t 63)),
 Qt 54 65 (.bin .eql (t 58) (t 64)),
 Qo 66 (.pick (t 54) (t 65) QF),
 Qa 67 66,
 Qt 67 68 (.fieldAddr 2 (t 5)),
 Qt 67 69 (.load1 (t 68)),
 Qt 67 70 (.mov (t 7)),
 Qt 67 71 (.bin .sub (t 70) (ci 1)),
 Qt 67 72 (.indexSl 1 (t 69) (t 71)),
 Qt 67 73 (.load1 (t 72)),
 Qt 67 74 (.fieldAddr 3 (t 3)),
 Qt 67 75 (.load1 (t 74)),
 Qt 67 76 (.fieldAddr 0 (t 5)),
 Qt 67 77 (.load1 (t 76)),
 Qt 67 78 (.indexSl 1 (t 75) (t 77)),
 Qt 67 79 (.load1 (t 78)),
 Qt 67 80 (.bin .eql (t 73) (t 79)),
 Qo 81 (.pick (t 67) (t 80) QF),
 Qa 82 81,
 Qt 82 83 (.fieldAddr 3 (t 5)),
 Qt 82 84 (.load1 (t 83)),
 Qt 82 85 (.lenL (t 84)),
 Qt 82 86 (.mov (t 7)),
 Qt 82 87 (.bin .eql (t 85) (t 86)),
 Qo 88 (.pick (t 82) (t 87) QF),
 Qa 89 88,
 Qt 89 90 (.loadN 7 (t 3)),
 Qt 89 91 (.loadN 4 (t 5)),
 Qt 89 92 (.call ri [(t 90),(t 91)]),
 Qo 93 (.pick (t 89) (t 92) QF),
 Qa 6 93]
def zclc:TC:=(.seq (.ops zc3u) (.clean [1,3,5] (.seq (.seq (.draw (pl zc3v)) (.clean [1,3,5,46] (.cond (t 46) (.seq (.ops zc3w) (.ret [6])) .skip))) (.clean [1,3,5] (.seq (.ops zc3x) (.clean [1,3,5,7] (.seq (.draw (pl zc3y)) (.ret [6]))))))))
def zck4:TFn:=⟨94,zclc,[.tmp 6],false⟩
theorem ix:type_of% (ai @zc3u.eq_1 (ai @zc3v.eq_1 (ai @zc3w.eq_1 (ai @zc3x.eq_1 (ai @zc3y.eq_1 (ai @zclc.eq_1 @zck4.eq_1)))))):=⟨rfl,rfl,rfl,rfl,rfl,rfl,rfl⟩
theorem zdjq:th Try.prog [(1,⟨[0,1,2,3,4,5,6,7,8,9,10,11,12,13,14,15,16,17,18,19,20,21,22,23,24,25,26,27,28,29,31,32,33,34,35,36,30,37,38],[0,1,3,7,15,31,63,127,255,255,767,1791,4095,8191,16383,32767,32767,98303,262143,524287,1048575,2097151,4194303,8388607,16777215,33554431,67108863,134217727,268435455,536870911,1073741823,268435455,2415919103,268435455,8858370047,32480690175,66840428543,137438953471,274877906943],[],[],.nil⟩),(4,⟨[0,1,2,3,4,5,6,7,8,9,10,11,12,13,14,15,16,17,18,19,20,21,22,23,24,25,26,27,28,29,30,31,32,33,34,35,36,37,38,39,40,41,42,43,44],[0,0,2,7,15,31,63,127,255,31,543,31,3615,7711,15903,32767,65535,131071,262143,524287,262143,1310719,4194303,8388607,262143,17039359,262143,67371007,251920383,520355839,1073741823,2147483647,4294967295,8589934591,17179869183,34359738367,8589934591,137438953471,274877906943,549755813887,1099511627775,1099511627775,4398046511103,8796093022207,17592186044415],[],[],.nil⟩)] j8 = some (94,zclc.erase,[.tmp 6]):=by kernel_rfl
def zc0i:List am:=[Qo 1 (.box bh 7 (t 0)),
 Qo 2 (.mov QF)]
def zc0j:List am:=[Qo 3 (.loadN 7 (t 1)),
 Qo 4 (.call vn [(t 3)]),
 Qa 5 4,
 Qt 5 6 (.loadN 7 (t 1)),
 Qt 5 7 (.call rk [(t 6)]),
 Qo 8 (.pick (t 5) (t 7) QF),
 Qa 2 8]
def zckh:TC:=(.seq (.ops zc0i) (.clean [1] (.seq (.ops zc0j) (.ret [2]))))
def zckc:TFn:=⟨9,zckh,[.tmp 2],false⟩
theorem zda6:type_of% (ai @zc0i.eq_1 (ai @zc0j.eq_1 (ai @zckh.eq_1 @zckc.eq_1))):=⟨rfl,rfl,rfl,rfl⟩
theorem zdfl:th Try.prog [] yq = some (9,zckh.erase,[.tmp 2]):=by kernel_rfl
def zc1s:List am:=[Qo 1 (.box bh 7 (t 0)),
 Qo 2 (.mov QF)]
def zc1t:List am:=[Qo 3 (.loadN 7 (t 1)),
 Qo 4 (.call sb [(t 3)]),
 Qo 5 (.un .not (t 4))]
def zc1u:List am:=[Qo 2 (.mov QF)]
def zc1v:List am:=[Qo 6 (.loadN 7 (t 1)),
 Qo 7 (.call me [(t 6),(ci 0),QF,(.func lx)]),
 Qo 8 (.call eu [(t 7),QF]),
 Qo 9 (.un .not (t 8)),
 Qa 10 9,
 Qt 10 11 (.loadN 7 (t 1)),
 Qt 10 12 (.call me [(t 11),(ci 0),QT,(.func lx)]),
 Qt 10 13 (.call eu [(t 12),QF]),
 Qt 10 14 (.un .not (t 13)),
 Qo 15 (.pick (t 10) (t 14) QF),
 Qa 2 15]
def zckw:TC:=(.seq (.ops zc1s) (.clean [1] (.seq (.seq (.ops zc1t) (.clean [1,5] (.cond (t 5) (.seq (.ops zc1u) (.ret [2])) .skip))) (.clean [1] (.seq (.ops zc1v) (.ret [2]))))))
def zcko:TFn:=⟨16,zckw,[.tmp 2],false⟩
theorem zckl:type_of% (ai @zc1s.eq_1 (ai @zc1t.eq_1 (ai @zc1u.eq_1 (ai @zc1v.eq_1 (ai @zckw.eq_1 @zcko.eq_1))))):=⟨rfl,rfl,rfl,rfl,rfl,rfl⟩
theorem zdfy:th Try.prog [] vn = some (16,zckw.erase,[.tmp 2]):=by kernel_rfl
def zczb:List am:=[Qo 1 (.box bh 7 (t 0)),
 Qo 2 (.mov QF)]
def zczx:List (am × List Nat):=[(Qo 12 (.fieldAddr 1 (t 1)),[]),
 (Qb 13 12,[]),
 (Qo 14 (.lenL (t 13)),[]),
 (Qo 15 (.fieldAddr 3 (t 1)),[]),
 (Qb 16 15,[]),
 (Qo 17 (.lenL (t 16)),[]),
 (Qo 3 (.box jy 1 (.const (.int .i64 0))),[]),
 (⟨⟨none,.store 1 (t 3) (t 14),none⟩,0⟩,[4]),
 (Qa 4 17,[])]
def zczy:List am:=[Qo 18 (.fieldAddr 0 (t 1)),
 Qb 19 18,
 Qo 20 (.call xz [(t 19)]),
 Qo 21 (.un .not (t 20)),
 Qa 22 21,
 Qf 22 23 (.load1 (t 3)),
 Qf 22 24 (.call qi [(t 23),(ci 2),(ci 6)]),
 Qf 22 25 (.un .not (t 24)),
 Qo 26 (.pick (t 22) QT (t 25)),
 Qa 27 26,
 Qf 27 28 (.mov (t 4)),
 Qf 27 29 (.call qi [(t 28),(ci 1),(ci 3)]),
 Qf 27 30 (.un .not (t 29)),
 Qo 31 (.pick (t 27) QT (t 30)),
 Qa 32 31,
 Qf 32 33 (.fieldAddr 2 (t 1)),
 Qf 32 34 (.load1 (t 33)),
 Qf 32 35 (.lenL (t 34)),
 Qf 32 36 (.call qi [(t 35),(ci 1),(ci 12)]),
 Qf 32 37 (.un .not (t 36)),
 Qo 38 (.pick (t 32) QT (t 37)),
 Qa 39 38,
 Qf 39 40 (.fieldAddr 4 (t 1)),
 Qf 39 41 (.load1 (t 40)),
 Qf 39 42 (.mov (t 4)),
 Qf 39 43 (.call xx [(t 41),(t 42),(ci 32)]),
 Qf 39 44 (.un .not (t 43)),
 Qo 45 (.pick (t 39) QT (t 44)),
 Qa 46 45,
 Qf 46 47 (.fieldAddr 5 (t 1)),
 Qf 46 48 (.load1 (t 47)),
 Qf 46 49 (.call qi [(t 48),(ci 0),(ci 1099511627776)]),
 Qf 46 50 (.un .not (t 49)),
 Qo 51 (.pick (t 46) QT (t 50)),
 Qa 52 51,
 Qf 52 53 (.fieldAddr 6 (t 1)),
 Qf 52 54 (.load1 (t 53)),
 Qf 52 55 (.call qi [(t 54),(ci 1),(ci 1048576)]),
 Qf 52 56 (.un .not (t 55)),
 Qo 57 (.pick (t 52) QT (t 56))]
def zczz:List am:=[Qo 2 (.mov QF)]
def zcz0:List am:=[Qm 1 5 (.mov (.const (Go.Value.slice none 0 0)))]
def zcz1:List am:=[Qo 58 (.fieldAddr 1 (t 1)),
 Qb 59 58,
 Qo 60 (.lenL (t 59)),
 Qo 61 (.mov (ci 0))]
def zcz2:List am:=[Qo 62 (.bin .lss (t 61) (t 60))]
def zcz3:List am:=[Qo 63 (.indexSl 2 (t 59) (t 61)),
 Qo 64 (.loadN 2 (t 63)),
 Qo 7 (.box n9 2 (.const (.agg #[(.string ⟨#[]⟩),(.slice none 0 0)]))),
 ⟨⟨none,.store 2 (t 7) (t 64),none⟩,0⟩]
def zcz4:List am:=[Qo 65 (.fieldAddr 0 (t 7)),
 Qb 66 65,
 Qo 67 (.call xz [(t 66)]),
 Qo 68 (.un .not (t 67)),
 Qa 69 68,
 Qf 69 70 (.fieldAddr 1 (t 7)),
 Qf 69 71 (.load1 (t 70)),
 Qf 69 72 (.mov (t 4)),
 Qf 69 73 (.call xx [(t 71),(t 72),(ci 16)]),
 Qf 69 74 (.un .not (t 73)),
 Qo 75 (.pick (t 69) QT (t 74))]
def zcz5:List am:=[Qo 2 (.mov QF)]
def zc0z:List am:=[Qa 76 5,
 Qo 77 (.fieldAddr 0 (t 7)),
 Qb 78 77,
 Qo 79 (.buildSl a9 1 1 [(.string ⟨#[]⟩)] [(0,1,(t 78))]),
 Qo 80 (.append a9 1 16 (t 76) (t 79)),
 Qa 5 80]
def zc00:List am:=[Qo 81 (.bin .add (t 61) (ci 1)),
 Qa 61 81]
def vj:TC:=(.seq (.ops zcz2) (.clean [1,3,4,5,59,60,61,62] (.seq (.cond (t 62) .skip (.exit 0)) (.clean [1,3,4,5,59,60,61] (.seq (.block 1 [1,3,4,5,59,60,61] (.seq (.ops zcz3) (.clean [1,3,4,5,7,59,60,61] (.seq (.seq (.ops zcz4) (.clean [1,3,4,5,7,59,60,61,75] (.cond (t 75) (.seq (.ops zcz5) (.ret [2])) .skip))) (.clean [1,3,4,5,7,59,60,61] (.ops zc0z)))))) (.clean [1,3,4,5,59,60,61] (.ops zc00)))))))
def zc01:List am:=[Qm 1 8 (.mov (.const (Go.Value.slice none 0 0)))]
def zc02:List am:=[Qo 82 (.fieldAddr 2 (t 1)),
 Qb 83 82,
 Qo 84 (.lenL (t 83)),
 Qo 85 (.mov (ci 0))]
def zc03:List am:=[Qo 86 (.bin .lss (t 85) (t 84))]
def zc1c:List am:=[Qo 87 (.indexSl 5 (t 83) (t 85)),
 Qo 88 (.loadN 5 (t 87)),
 Qo 10 (.box r7 5 (.const (.agg #[(.int .i64 0),(.int .i64 0),(.int .i64 0),(.string ⟨#[]⟩),(.int .i64 0)]))),
 ⟨⟨none,.store 5 (t 10) (t 88),none⟩,0⟩]
def zc1d:List am:=[Qo 89 (.loadN 5 (t 10)),
 Qb 90 3,
 Qo 91 (.call zb70 [(t 89),(t 90)]),
 Qo 92 (.un .not (t 91))]
def zc1e:List am:=[Qo 2 (.mov QF)]
def zc1f:List am:=[Qa 93 8,
 Qo 94 (.fieldAddr 0 (t 10)),
 Qb 95 94,
 Qo 96 (.fieldAddr 1 (t 10)),
 Qb 97 96,
 Qo 98 (.build [(.int .i64 0),(.int .i64 0)] [(0,1,(t 95)),(1,1,(t 97))]),
 Qo 99 (.buildSl uc 2 1 [(.int .i64 0),(.int .i64 0)] [(0,2,(t 98))]),
 Qo 100 (.append uc 2 16 (t 93) (t 99)),
 Qa 8 100]
def zc1g:List am:=[Qo 101 (.bin .add (t 85) (ci 1)),
 Qa 85 101]
def z9:TC:=(.seq (.ops zc03) (.clean [1,3,5,8,83,84,85,86] (.seq (.cond (t 86) .skip (.exit 2)) (.clean [1,3,5,8,83,84,85] (.seq (.block 3 [1,3,5,8,83,84,85] (.seq (.ops zc1c) (.clean [1,3,5,8,10,83,84,85] (.seq (.seq (.ops zc1d) (.clean [1,3,5,8,10,83,84,85,92] (.cond (t 92) (.seq (.ops zc1e) (.ret [2])) .skip))) (.clean [1,3,5,8,10,83,84,85] (.ops zc1f)))))) (.clean [1,3,5,8,83,84,85] (.ops zc1g)))))))
def zc1h:List am:=[Qo 102 (.mkFunc (.func j0) [] [(t 3)]),
 Qa 11 102]
def zc1i:List am:=[Qa 103 5,
 Qo 104 (.call jq [(t 103)]),
 Qa 105 104,
 Qt 105 106 (.mov (t 8)),
 Qt 105 107 (.call lw [(t 106)]),
 Qo 108 (.pick (t 105) (t 107) QF),
 Qa 109 108,
 Qt 109 110 (.fieldAddr 3 (t 1)),
 Qt 109 111 (.load1 (t 110)),
 Qt 109 112 (.call ny [(t 111)]),
 Qo 113 (.pick (t 109) (t 112) QF),
 Qa 114 113,
 Qt 114 115 (.fieldAddr 3 (t 1)),
 Qt 114 116 (.load1 (t 115)),
 Qt 114 117 (.mov (t 11)),
 Qt 114 118 (.call cb [(t 116),(t 117)]),
 Qt 114 119 (.un .not (t 118)),
 Qo 120 (.pick (t 114) (t 119) QF),
 Qa 2 120]
def zcj4:TC:=(.seq (.ops zczb) (.clean [1] (.seq (.draw zczx) (.clean [1,3,4] (.seq (.seq (.ops zczy) (.clean [1,3,4,57] (.cond (t 57) (.seq (.ops zczz) (.ret [2])) .skip))) (.clean [1,3,4] (.seq (.ops zcz0) (.clean [1,3,4,5] (.seq (.seq (.ops zcz1) (.block 0 [1,3,5] (.clean [1,3,4,5,59,60,61] (.loop [1,3,4,5,59,60,61] vj)))) (.clean [1,3,5] (.seq (.ops zc01) (.clean [1,3,5,8] (.seq (.seq (.ops zc02) (.block 2 [1,3,5,8] (.clean [1,3,5,8,83,84,85] (.loop [1,3,5,8,83,84,85] z9)))) (.clean [1,3,5,8] (.seq (.ops zc1h) (.clean [1,5,8,11] (.seq (.ops zc1i) (.ret [2]))))))))))))))))))
def zcj8:TFn:=⟨121,zcj4,[.tmp 2],false⟩
theorem dy:type_of% (ai @zczb.eq_1 (ai @zczx.eq_1 (ai @zczy.eq_1 (ai @zczz.eq_1 (ai @zcz0.eq_1 (ai @zcz1.eq_1 (ai @zcz2.eq_1 (ai @zcz3.eq_1 (ai @zcz4.eq_1 (ai @zcz5.eq_1 (ai @zc0z.eq_1 (ai @zc00.eq_1 (ai @zc01.eq_1 (ai @zc02.eq_1 (ai @zc03.eq_1 (ai @zc1c.eq_1 (ai @zc1d.eq_1 (ai @zc1e.eq_1 (ai @zc1f.eq_1 (ai @zc1g.eq_1 (ai @zc1h.eq_1 (ai @zc1i.eq_1 (ai @zcj4.eq_1 @zcj8.eq_1))))))))))))))))))))))):=⟨rfl,rfl,rfl,rfl,rfl,rfl,rfl,rfl,rfl,rfl,rfl,rfl,rfl,rfl,rfl,rfl,rfl,rfl,rfl,rfl,rfl,rfl,rfl,rfl⟩
theorem zddz:th Try.prog [(1,⟨[0,1,2,3,4,5,6,7,8],[0,1,3,0,8,24,0,71,255],[],[(7,[4])],.nil⟩)] sb = some (121,zcj4.erase,[.tmp 2]):=by kernel_rfl
def t4:List am:=[Qo 4 (.mov QF)]
def tz:List am:=[Qa 5 0,
 Qa 6 1,
 Qo 7 (.call dz [(t 5),(t 6)]),
 Qo 8 (.bin .geq (t 7) (ci 0)),
 Qa 4 8]
def nf:TC:=(.seq (.ops t4) (.clean [0,1] (.seq (.ops tz) (.ret [4]))))
def nv:TFn:=⟨9,nf,[.tmp 4],false⟩
theorem vg:type_of% (ai @t4.eq_1 (ai @tz.eq_1 (ai @nf.eq_1 @nv.eq_1))):=⟨rfl,rfl,rfl,rfl⟩
theorem zdh1:th Try.prog [] cb = some (9,nf.erase,[.tmp 4]):=by kernel_rfl
def wq:List am:=[Qo 4 (.mov (ci 0))]
def wj:List am:=[Qa 6 0,
 Qo 7 (.lenL (t 6)),
 Qo 8 (.mov (ci 0))]
def wg:List am:=[Qo 9 (.bin .lss (t 8) (t 7))]
def we:List am:=[Qa 10 8,
 Qa 5 10]
def wd:List am:=[Qa 11 1,
 Qa 12 0,
 Qa 13 5,
 Qo 14 (.indexSl 1 (t 12) (t 13)),
 Qb 15 14,
 Qo 16 (.callv (t 11) [(t 15)])]
def wb:List am:=[Qa 17 5,
 Qa 4 17]
def wa:List am:=[Qo 18 (.bin .add (t 8) (ci 1)),
 Qa 8 18]
def ce:TC:=(.seq (.ops wg) (.clean [0,1,7,8,9] (.seq (.cond (t 9) .skip (.exit 0)) (.clean [0,1,7,8] (.seq (.block 1 [0,1,7,8] (.seq (.ops we) (.clean [0,1,5,7,8] (.seq (.ops wd) (.clean [0,1,5,7,8,16] (.cond (t 16) (.seq (.ops wb) (.ret [4])) .skip)))))) (.clean [0,1,7,8] (.ops wa)))))))
def vz:List am:=[Qo 4 (.mov (ci (-1)))]
def py:TC:=(.seq (.ops wq) (.clean [0,1] (.seq (.seq (.ops wj) (.block 0 [] (.clean [0,1,7,8] (.loop [0,1,7,8] ce)))) (.clean [] (.seq (.ops vz) (.ret [4]))))))
def qg:TFn:=⟨19,py,[.tmp 4],false⟩
theorem bn:type_of% (ai @wq.eq_1 (ai @wj.eq_1 (ai @wg.eq_1 (ai @we.eq_1 (ai @wd.eq_1 (ai @wb.eq_1 (ai @wa.eq_1 (ai @vz.eq_1 (ai @py.eq_1 @qg.eq_1))))))))):=⟨rfl,rfl,rfl,rfl,rfl,rfl,rfl,rfl,rfl,rfl⟩
theorem zdhc:th Try.prog [] dz = some (19,py.erase,[.tmp 4]):=by kernel_rfl
def zcw9:List am:=[Qo 2 (.mov QF)]
def zcxa:List am:=[Qa 3 0,
 Qo 4 (.lenS (t 3)),
 Qo 5 (.bin .geq (t 4) (ci 1)),
 Qa 6 5,
 Qt 6 7 (.mov (t 0)),
 Qt 6 8 (.lenS (t 7)),
 Qt 6 9 (.bin .leq (t 8) (ci 16)),
 Qo 10 (.pick (t 6) (t 9) QF),
 Qa 2 10]
def zcjj:TC:=(.seq (.ops zcw9) (.clean [0] (.seq (.ops zcxa) (.ret [2]))))
def zci4:TFn:=⟨11,zcjj,[.tmp 2],false⟩
theorem zc7k:type_of% (ai @zcw9.eq_1 (ai @zcxa.eq_1 (ai @zcjj.eq_1 @zci4.eq_1))):=⟨rfl,rfl,rfl,rfl⟩
theorem zdcr:th Try.prog [] xz = some (11,zcjj.erase,[.tmp 2]):=by kernel_rfl
def zc8p:List am:=[Qo 6 (.mov QF)]
def zc8q:List am:=[Qa 7 0,
 Qa 8 1,
 Qo 9 (.bin .geq (t 7) (t 8)),
 Qa 10 9,
 Qt 10 11 (.mov (t 0)),
 Qt 10 12 (.mov (t 2)),
 Qt 10 13 (.bin .leq (t 11) (t 12)),
 Qo 14 (.pick (t 10) (t 13) QF),
 Qa 6 14]
def zcml:TC:=(.seq (.ops zc8p) (.clean [0,1,2] (.seq (.ops zc8q) (.ret [6]))))
def zcma:TFn:=⟨15,zcml,[.tmp 6],false⟩
theorem zcr9:type_of% (ai @zc8p.eq_1 (ai @zc8q.eq_1 (ai @zcml.eq_1 @zcma.eq_1))):=⟨rfl,rfl,rfl,rfl⟩
theorem zbvv:th Try.prog [] qi = some (15,zcml.erase,[.tmp 6]):=by kernel_rfl
def zcz6:List am:=[Qo 5 (.box jy 1 (t 2)),
 Qo 6 (.mov QF)]
def zczm:List am:=[Qa 7 0,
 Qo 8 (.lenL (t 7)),
 Qa 9 1,
 Qo 10 (.bin .eql (t 8) (t 9)),
 Qa 11 10,
 Qt 11 12 (.mov (t 0)),
 Qt 11 13 (.mkFunc (.func jz) [] [(t 5)]),
 Qt 11 14 (.call bf [(t 12),(t 13)]),
 Qt 11 15 (.un .not (t 14)),
 Qo 16 (.pick (t 11) (t 15) QF),
 Qa 6 16]
def zcj5:TC:=(.seq (.ops zcz6) (.clean [0,1,5] (.seq (.ops zczm) (.ret [6]))))
def zcj9:TFn:=⟨17,zcj5,[.tmp 6],false⟩
theorem zc8z:type_of% (ai @zcz6.eq_1 (ai @zczm.eq_1 (ai @zcj5.eq_1 @zcj9.eq_1))):=⟨rfl,rfl,rfl,rfl⟩
theorem zdd0:th Try.prog [] xx = some (17,zcj5.erase,[.tmp 6]):=by kernel_rfl
def oi:List am:=[Qo 4 (.mov QF)]
def oh:List am:=[Qa 5 0,
 Qa 6 1,
 Qo 7 (.call ca [(t 5),(t 6)]),
 Qo 8 (.bin .geq (t 7) (ci 0)),
 Qa 4 8]
def jv:TC:=(.seq (.ops oi) (.clean [0,1] (.seq (.ops oh) (.ret [4]))))
def jx:TFn:=⟨9,jv,[.tmp 4],false⟩
theorem qh:type_of% (ai @oi.eq_1 (ai @oh.eq_1 (ai @jv.eq_1 @jx.eq_1))):=⟨rfl,rfl,rfl,rfl⟩
theorem zdim:th Try.prog [] bf = some (9,jv.erase,[.tmp 4]):=by kernel_rfl
def qy:List am:=[Qo 4 (.mov (ci 0))]
def qx:List am:=[Qa 6 0,
 Qo 7 (.lenL (t 6)),
 Qo 8 (.mov (ci 0))]
def qw:List am:=[Qo 9 (.bin .lss (t 8) (t 7))]
def qv:List am:=[Qa 10 8,
 Qa 5 10]
def qu:List am:=[Qa 11 1,
 Qa 12 0,
 Qa 13 5,
 Qo 14 (.indexSl 1 (t 12) (t 13)),
 Qb 15 14,
 Qo 16 (.callv (t 11) [(t 15)])]
def qt:List am:=[Qa 17 5,
 Qa 4 17]
def qr:List am:=[Qo 18 (.bin .add (t 8) (ci 1)),
 Qa 8 18]
def bm:TC:=(.seq (.ops qw) (.clean [0,1,7,8,9] (.seq (.cond (t 9) .skip (.exit 0)) (.clean [0,1,7,8] (.seq (.block 1 [0,1,7,8] (.seq (.ops qv) (.clean [0,1,5,7,8] (.seq (.ops qu) (.clean [0,1,5,7,8,16] (.cond (t 16) (.seq (.ops qt) (.ret [4])) .skip)))))) (.clean [0,1,7,8] (.ops qr)))))))
def qp:List am:=[Qo 4 (.mov (ci (-1)))]
def ly:TC:=(.seq (.ops qy) (.clean [0,1] (.seq (.seq (.ops qx) (.block 0 [] (.clean [0,1,7,8] (.loop [0,1,7,8] bm)))) (.clean [] (.seq (.ops qp) (.ret [4]))))))
def l9:TFn:=⟨19,ly,[.tmp 4],false⟩
theorem ay:type_of% (ai @qy.eq_1 (ai @qx.eq_1 (ai @qw.eq_1 (ai @qv.eq_1 (ai @qu.eq_1 (ai @qt.eq_1 (ai @qr.eq_1 (ai @qp.eq_1 (ai @ly.eq_1 @l9.eq_1))))))))):=⟨rfl,rfl,rfl,rfl,rfl,rfl,rfl,rfl,rfl,rfl⟩
theorem zdid:th Try.prog [] ca = some (19,ly.erase,[.tmp 4]):=by kernel_rfl
def zc2a:List am:=[Qo 3 (.mov QF)]
def zc2b:List am:=[Qa 4 0,
 Qo 5 (.lenS (t 4)),
 Qb 6 1,
 Qo 7 (.bin .neq (t 5) (t 6)),
 Qa 3 7]
def zck2:TC:=(.seq (.ops zc2a) (.clean [0,1] (.seq (.ops zc2b) (.ret [3]))))
def zcku:TFn:=⟨8,zck2,[.tmp 3],false⟩
theorem zdfv:type_of% (ai @zc2a.eq_1 (ai @zc2b.eq_1 (ai @zck2.eq_1 @zcku.eq_1))):=⟨rfl,rfl,rfl,rfl⟩
theorem zdf4:th Try.prog [] jz = some (8,zck2.erase,[.tmp 3]):=by kernel_rfl
def zdaw:List am:=[Qo 2 (.box r7 5 (t 0)),
 Qo 4 (.mov QF)]
def zdag:List am:=[Qo 5 (.fieldAddr 0 (t 2)),
 Qb 6 5,
 Qa 7 1,
 Qo 8 (.bin .sub (t 7) (ci 1)),
 Qo 9 (.call qi [(t 6),(ci 0),(t 8)]),
 Qa 10 9,
 Qt 10 11 (.fieldAddr 1 (t 2)),
 Qt 10 12 (.load1 (t 11)),
 Qt 10 13 (.mov (t 1)),
 Qt 10 14 (.bin .sub (t 13) (ci 1)),
 Qt 10 15 (.call qi [(t 12),(ci 0),(t 14)]),
 Qo 16 (.pick (t 10) (t 15) QF),
 Qa 17 16,
 Qt 17 18 (.fieldAddr 0 (t 2)),
 Qt 17 19 (.load1 (t 18)),
 Qt 17 20 (.fieldAddr 1 (t 2)),
 Qt 17 21 (.load1 (t 20)),
 Qt 17 22 (.bin .neq (t 19) (t 21)),
 Qo 23 (.pick (t 17) (t 22) QF),
 Qa 24 23,
 Qt 24 25 (.fieldAddr 2 (t 2)),
 Qt 24 26 (.load1 (t 25)),
 Qt 24 27 (.call qi [(t 26),(ci 0),(ci 3)]),
 Qo 28 (.pick (t 24) (t 27) QF),
 Qa 29 28,
 Qt 29 30 (.fieldAddr 3 (t 2)),
 Qt 29 31 (.load1 (t 30)),
 Qt 29 32 (.call xz [(t 31)]),
 Qo 33 (.pick (t 29) (t 32) QF),
 Qa 34 33,
 Qt 34 35 (.fieldAddr 4 (t 2)),
 Qt 34 36 (.load1 (t 35)),
 Qt 34 37 (.call qi [(t 36),(ci 1),(ci 1125899906842624)]),
 Qo 38 (.pick (t 34) (t 37) QF),
 Qa 4 38]
def zcii:TC:=(.seq (.ops zdaw) (.clean [1,2] (.seq (.ops zdag) (.ret [4]))))
def zciq:TFn:=⟨39,zcii,[.tmp 4],false⟩
theorem zb71:type_of% (ai @zdaw.eq_1 (ai @zdag.eq_1 (ai @zcii.eq_1 @zciq.eq_1))):=⟨rfl,rfl,rfl,rfl⟩
theorem zbp8:th Try.prog [] zb70 = some (39,zcii.erase,[.tmp 4]):=by kernel_rfl
def zc18:List am:=[Qo 3 (.mov QF)]
def zc19:List am:=[Qa 4 0,
 Qb 5 1,
 Qo 6 (.bin .sub (t 5) (ci 1)),
 Qo 7 (.call qi [(t 4),(ci 0),(t 6)]),
 Qo 8 (.un .not (t 7)),
 Qa 3 8]
def zck1:TC:=(.seq (.ops zc18) (.clean [0,1] (.seq (.ops zc19) (.ret [3]))))
def zckt:TFn:=⟨9,zck1,[.tmp 3],false⟩
theorem zdfu:type_of% (ai @zc18.eq_1 (ai @zc19.eq_1 (ai @zck1.eq_1 @zckt.eq_1))):=⟨rfl,rfl,rfl,rfl⟩
theorem zdf3:th Try.prog [] j0 = some (9,zck1.erase,[.tmp 3]):=by kernel_rfl
def zx:List am:=[Qo 2 (.mov QF)]
def zw:List am:=[Qo 6 .mkMap,
 Qa 3 6]
def zv:List am:=[Qa 7 0,
 Qo 8 (.lenL (t 7)),
 Qo 9 (.mov (ci 0))]
def zu:List am:=[Qo 10 (.bin .lss (t 9) (t 8))]
def zt:List am:=[Qo 11 (.indexSl 1 (t 7) (t 9)),
 Qb 12 11,
 Qa 5 12]
def zq:List am:=[Qa 13 3,
 Qa 14 5,
 Qo 15 (.mapGet a9 (t 13) (t 14))]
def zp:List am:=[Qo 2 (.mov QF)]
def zo:List am:=[Qa 16 3,
 Qa 17 5,
 ⟨⟨none,.mapSet a9 (t 16) (t 17) QT,none⟩,0⟩]
def zn:List am:=[Qo 18 (.bin .add (t 9) (ci 1)),
 Qa 9 18]
def zc5o:TC:=(.seq (.ops zu) (.clean [3,7,8,9,10] (.seq (.cond (t 10) .skip (.exit 0)) (.clean [3,7,8,9] (.seq (.block 1 [3,7,8,9] (.seq (.ops zt) (.clean [3,5,7,8,9] (.seq (.seq (.ops zq) (.clean [3,5,7,8,9,15] (.cond (t 15) (.seq (.ops zp) (.ret [2])) .skip))) (.clean [3,5,7,8,9] (.ops zo)))))) (.clean [3,7,8,9] (.ops zn)))))))
def zm:List am:=[Qo 2 (.mov QT)]
def uk:TC:=(.seq (.ops zx) (.clean [0] (.seq (.ops zw) (.clean [0,3] (.seq (.seq (.ops zv) (.block 0 [] (.clean [3,7,8,9] (.loop [3,7,8,9] zc5o)))) (.clean [] (.seq (.ops zm) (.ret [2]))))))))
theorem zdk9:th Try.prog [] jq = some (19,uk.erase,[.tmp 2]):=by kernel_rfl
def zc60:List am:=[Qo 2 (.mov QF)]
def zc61:List am:=[Qo 6 .mkMap,
 Qa 3 6]
def zc62:List am:=[Qa 7 0,
 Qo 8 (.lenL (t 7)),
 Qo 9 (.mov (ci 0))]
def zc63:List am:=[Qo 10 (.bin .lss (t 9) (t 8))]
def zc64:List am:=[Qo 11 (.indexSl 2 (t 7) (t 9)),
 Qo 12 (.loadN 2 (t 11)),
 Qo 5 (.box uc 2 (.const (.agg #[(.int .i64 0),(.int .i64 0)]))),
 ⟨⟨none,.store 2 (t 5) (t 12),none⟩,0⟩]
def zc65:List am:=[Qa 13 3,
 Qo 14 (.loadN 2 (t 5)),
 Qo 15 (.mapGet uc (t 13) (t 14))]
def zc66:List am:=[Qo 2 (.mov QF)]
def zc67:List am:=[Qa 16 3,
 Qo 17 (.loadN 2 (t 5)),
 ⟨⟨none,.mapSet uc (t 16) (t 17) QT,none⟩,0⟩]
def zc68:List am:=[Qo 18 (.bin .add (t 9) (ci 1)),
 Qa 9 18]
def zc5e:TC:=(.seq (.ops zc63) (.clean [3,7,8,9,10] (.seq (.cond (t 10) .skip (.exit 0)) (.clean [3,7,8,9] (.seq (.block 1 [3,7,8,9] (.seq (.ops zc64) (.clean [3,5,7,8,9] (.seq (.seq (.ops zc65) (.clean [3,5,7,8,9,15] (.cond (t 15) (.seq (.ops zc66) (.ret [2])) .skip))) (.clean [3,5,7,8,9] (.ops zc67)))))) (.clean [3,7,8,9] (.ops zc68)))))))
def zc69:List am:=[Qo 2 (.mov QT)]
def vu:TC:=(.seq (.ops zc60) (.clean [0] (.seq (.ops zc61) (.clean [0,3] (.seq (.seq (.ops zc62) (.block 0 [] (.clean [3,7,8,9] (.loop [3,7,8,9] zc5e)))) (.clean [] (.seq (.ops zc69) (.ret [2]))))))))
theorem zdkr:th Try.prog [] lw = some (19,vu.erase,[.tmp 2]):=by kernel_rfl
def zc6c:List am:=[Qo 2 (.mov QF)]
def zc6d:List am:=[Qo 6 .mkMap,
 Qa 3 6]
def zc6e:List am:=[Qa 7 0,
 Qo 8 (.lenL (t 7)),
 Qo 9 (.mov (ci 0))]
def zc6f:List am:=[Qo 10 (.bin .lss (t 9) (t 8))]
def zc6g:List am:=[Qo 11 (.indexSl 1 (t 7) (t 9)),
 Qb 12 11,
 Qa 5 12]
def zc6h:List am:=[Qa 13 3,
 Qa 14 5,
 Qo 15 (.mapGet jy (t 13) (t 14))]
def zc6i:List am:=[Qo 2 (.mov QF)]
def zc6j:List am:=[Qa 16 3,
 Qa 17 5,
 ⟨⟨none,.mapSet jy (t 16) (t 17) QT,none⟩,0⟩]
def zc6k:List am:=[Qo 18 (.bin .add (t 9) (ci 1)),
 Qa 9 18]
def zc20:TC:=(.seq (.ops zc6f) (.clean [3,7,8,9,10] (.seq (.cond (t 10) .skip (.exit 0)) (.clean [3,7,8,9] (.seq (.block 1 [3,7,8,9] (.seq (.ops zc6g) (.clean [3,5,7,8,9] (.seq (.seq (.ops zc6h) (.clean [3,5,7,8,9,15] (.cond (t 15) (.seq (.ops zc6i) (.ret [2])) .skip))) (.clean [3,5,7,8,9] (.ops zc6j)))))) (.clean [3,7,8,9] (.ops zc6k)))))))
def zc6l:List am:=[Qo 2 (.mov QT)]
def zc6z:TC:=(.seq (.ops zc6c) (.clean [0] (.seq (.ops zc6d) (.clean [0,3] (.seq (.seq (.ops zc6e) (.block 0 [] (.clean [3,7,8,9] (.loop [3,7,8,9] zc20)))) (.clean [] (.seq (.ops zc6l) (.ret [2]))))))))
theorem zdjd:th Try.prog [] ny = some (19,zc6z.erase,[.tmp 2]):=by kernel_rfl
def vb:List am:=[Qo 4 (.mov QF)]
def va:List am:=[Qa 5 0,
 Qa 6 1,
 Qo 7 (.call ik [(t 5),(t 6)]),
 Qo 8 (.bin .geq (t 7) (ci 0)),
 Qa 4 8]
def om:TC:=(.seq (.ops vb) (.clean [0,1] (.seq (.ops va) (.ret [4]))))
def ov:TFn:=⟨9,om,[.tmp 4],false⟩
theorem zdhf:type_of% (ai @vb.eq_1 (ai @va.eq_1 (ai @om.eq_1 @ov.eq_1))):=⟨rfl,rfl,rfl,rfl⟩
theorem zdhg:th Try.prog [] eu = some (9,om.erase,[.tmp 4]):=by kernel_rfl
def ze:List am:=[Qo 4 (.mov (ci 0))]
def zd:List am:=[Qa 6 0,
 Qo 7 (.lenL (t 6)),
 Qo 8 (.mov (ci 0))]
def zc:List am:=[Qo 9 (.bin .lss (t 8) (t 7))]
def za:List am:=[Qa 10 8,
 Qa 5 10]
def y0:List am:=[Qa 11 1,
 Qa 12 0,
 Qa 13 5,
 Qo 14 (.indexSl 1 (t 12) (t 13)),
 Qb 15 14,
 Qo 16 (.eqB false (t 11) (t 15))]
def yz:List am:=[Qa 17 5,
 Qa 4 17]
def yx:List am:=[Qo 18 (.bin .add (t 8) (ci 1)),
 Qa 8 18]
def jn:TC:=(.seq (.ops zc) (.clean [0,1,7,8,9] (.seq (.cond (t 9) .skip (.exit 0)) (.clean [0,1,7,8] (.seq (.block 1 [0,1,7,8] (.seq (.ops za) (.clean [0,1,5,7,8] (.seq (.ops y0) (.clean [0,1,5,7,8,16] (.cond (t 16) (.seq (.ops yz) (.ret [4])) .skip)))))) (.clean [0,1,7,8] (.ops yx)))))))
def yw:List am:=[Qo 4 (.mov (ci (-1)))]
def si:TC:=(.seq (.ops ze) (.clean [0,1] (.seq (.seq (.ops zd) (.block 0 [] (.clean [0,1,7,8] (.loop [0,1,7,8] jn)))) (.clean [] (.seq (.ops yw) (.ret [4]))))))
def sq:TFn:=⟨19,si,[.tmp 4],false⟩
theorem ij:type_of% (ai @ze.eq_1 (ai @zd.eq_1 (ai @zc.eq_1 (ai @za.eq_1 (ai @y0.eq_1 (ai @yz.eq_1 (ai @yx.eq_1 (ai @yw.eq_1 (ai @si.eq_1 @sq.eq_1))))))))):=⟨rfl,rfl,rfl,rfl,rfl,rfl,rfl,rfl,rfl,rfl⟩
theorem zdg0:th Try.prog [] ik = some (19,si.erase,[.tmp 4]):=by kernel_rfl
def zc0k:List am:=[Qo 4 (.box bh 7 (t 0)),
 Qo 8 (.mov (.const (Go.Value.slice none 0 0)))]
def zc0l:List am:=[Qo 17 (.fieldAddr 1 (t 4)),
 Qb 18 17,
 Qo 19 (.lenL (t 18)),
 Qm 1 20 (.makeSl zcdp 1 [(.bool false)] (t 19) (t 19)),
 Qa 9 20]
def zc0m:List am:=[Qa 21 1,
 Qm 1 22 (.buildSl jy 1 1 [(.int .i64 0)] [(0,1,(t 21))]),
 Qa 10 22]
def zc0n:List am:=[Qa 23 10,
 Qo 24 (.lenL (t 23)),
 Qa 11 24]
def zc0o:List am:=[Qa 25 11,
 Qo 26 (.bin .eql (t 25) (ci 0))]
def zc0p:List am:=[Qa 27 10,
 Qa 28 11,
 Qo 29 (.bin .sub (t 28) (ci 1)),
 Qo 30 (.indexSl 1 (t 27) (t 29)),
 Qb 31 30,
 Qa 12 31]
def zc0q:List am:=[Qa 32 10,
 Qa 33 11,
 Qo 34 (.bin .sub (t 33) (ci 1)),
 Qo 35 (.sliceSl 1 (t 32) none (some (t 34))),
 Qa 10 35]
def zc0r:List am:=[Qo 36 (.fieldAddr 2 (t 4)),
 Qb 37 36,
 Qo 38 (.lenL (t 37)),
 Qo 39 (.mov (ci 0))]
def zc0s:List am:=[Qo 40 (.bin .lss (t 39) (t 38))]
def zc0t:List am:=[Qo 41 (.indexSl 5 (t 37) (t 39)),
 Qo 42 (.loadN 5 (t 41)),
 Qo 14 (.box r7 5 (.const (.agg #[(.int .i64 0),(.int .i64 0),(.int .i64 0),(.string ⟨#[]⟩),(.int .i64 0)]))),
 ⟨⟨none,.store 5 (t 14) (t 42),none⟩,0⟩]
def zc1y:List am:=[Qo 43 (.fieldAddr 0 (t 14)),
 Qb 44 43,
 Qo 45 (.fieldAddr 1 (t 14)),
 Qb 46 45,
 Qa 15 44,
 Qa 16 46]
def zc1z:List am:=[Qa 47 2]
def zc10:List am:=[Qa 48 16,
 Qa 49 15,
 Qa 15 48,
 Qa 16 49]
def zc11:List am:=[Qa 50 15,
 Qa 51 12,
 Qo 52 (.bin .eql (t 50) (t 51)),
 Qa 53 52,
 Qt 53 54 (.mov (t 9)),
 Qt 53 55 (.mov (t 16)),
 Qt 53 56 (.indexSl 1 (t 54) (t 55)),
 Qt 53 57 (.load1 (t 56)),
 Qt 53 58 (.un .not (t 57)),
 Qo 59 (.pick (t 53) (t 58) QF),
 Qa 60 59,
 Qt 60 61 (.mov (t 3)),
 Qt 60 62 (.mov (t 16)),
 Qt 60 63 (.callv (t 61) [(t 62)]),
 Qo 64 (.pick (t 60) (t 63) QF)]
def zc12:List am:=[Qa 65 9,
 Qa 66 16,
 Qo 67 (.indexSl 1 (t 65) (t 66)),
 ⟨⟨none,.store 1 (t 67) QT,none⟩,0⟩]
def zc13:List am:=[Qa 68 10,
 Qa 69 16,
 Qo 70 (.buildSl jy 1 1 [(.int .i64 0)] [(0,1,(t 69))]),
 Qm 4 71 (.append jy 1 8 (t 68) (t 70)),
 Qa 10 71]
def zc14:List am:=[Qo 72 (.bin .add (t 39) (ci 1)),
 Qa 39 72]
def iq:TC:=(.seq (.ops zc0s) (.clean [2,3,4,9,10,12,37,38,39,40] (.seq (.cond (t 40) .skip (.exit 2)) (.clean [2,3,4,9,10,12,37,38,39] (.seq (.block 3 [2,3,4,9,10,12,37,38,39] (.seq (.ops zc0t) (.clean [2,3,4,9,10,12,14,37,38,39] (.seq (.draw (pl zc1y)) (.clean [2,3,4,9,10,12,15,16,37,38,39] (.seq (.seq (.ops zc1z) (.clean [2,3,4,9,10,12,15,16,37,38,39,47] (.cond (t 47) (.ops zc10) .skip))) (.clean [2,3,4,9,10,12,15,16,37,38,39] (.seq (.ops zc11) (.clean [2,3,4,9,10,12,16,37,38,39,64] (.cond (t 64) (.seq (.ops zc12) (.clean [2,3,4,9,10,12,16,37,38,39] (.ops zc13))) .skip)))))))))) (.clean [2,3,4,9,10,12,37,38,39] (.ops zc14)))))))
def t6:TC:=(.block 1 [2,3,4,9,10] (.seq (.ops zc0n) (.clean [2,3,4,9,10,11] (.seq (.seq (.ops zc0o) (.clean [2,3,4,9,10,11,26] (.cond (t 26) (.exit 0) .skip))) (.clean [2,3,4,9,10,11] (.seq (.ops zc0p) (.clean [2,3,4,9,10,11,12] (.seq (.ops zc0q) (.clean [2,3,4,9,10,12] (.seq (.ops zc0r) (.block 2 [2,3,4,9,10] (.clean [2,3,4,9,10,12,37,38,39] (.loop [2,3,4,9,10,12,37,38,39] iq)))))))))))))
def zc15:List am:=[Qa 73 9,
 Qa 8 73]
def zcki:TC:=(.seq (.ops zc0k) (.clean [1,2,3,4] (.seq (.ops zc0l) (.clean [1,2,3,4,9] (.seq (.ops zc0m) (.clean [2,3,4,9,10] (.seq .skip (.seq (.block 0 [9] (.clean [2,3,4,9,10] (.loop [2,3,4,9,10] t6))) (.clean [9] (.seq (.ops zc15) (.ret [8])))))))))))
def zckd:TFn:=⟨74,zcki,[.tmp 8],true⟩
theorem ie:type_of% (ai @zc0k.eq_1 (ai @zc0l.eq_1 (ai @zc0m.eq_1 (ai @zc0n.eq_1 (ai @zc0o.eq_1 (ai @zc0p.eq_1 (ai @zc0q.eq_1 (ai @zc0r.eq_1 (ai @zc0s.eq_1 (ai @zc0t.eq_1 (ai @zc1y.eq_1 (ai @zc1z.eq_1 (ai @zc10.eq_1 (ai @zc11.eq_1 (ai @zc12.eq_1 (ai @zc13.eq_1 (ai @zc14.eq_1 (ai @zc15.eq_1 (ai @zcki.eq_1 @zckd.eq_1))))))))))))))))))):=⟨rfl,rfl,rfl,rfl,rfl,rfl,rfl,rfl,rfl,rfl,rfl,rfl,rfl,rfl,rfl,rfl,rfl,rfl,rfl,rfl⟩
theorem zdfm:th Try.prog [(10,⟨[0,1,2,3,4,5],[0,1,0,4,3,31],[],[],.nil⟩)] me = some (74,zcki.erase,[.tmp 8]):=by kernel_rfl
def zc1w:List am:=[Qo 2 (.mov QF)]
def zc1x:List am:=[Qo 2 (.mov QT)]
def zckx:TC:=(.seq (.ops zc1w) (.clean [] (.seq (.ops zc1x) (.ret [2]))))
def zckp:TFn:=⟨3,zckx,[.tmp 2],false⟩
theorem zdft:type_of% (ai @zc1w.eq_1 (ai @zc1x.eq_1 (ai @zckx.eq_1 @zckp.eq_1))):=⟨rfl,rfl,rfl,rfl⟩
theorem zdfz:th Try.prog [] lx = some (3,zckx.erase,[.tmp 2]):=by kernel_rfl
def zc35:List am:=[Qo 1 (.box bh 7 (t 0)),
 Qo 2 (.mov QF)]
def zc36:List am:=[Qo 5 (.loadN 7 (t 1)),
 Qo 6 (.call sb [(t 5)]),
 Qo 7 (.un .not (t 6))]
def zc4s:List am:=[Qo 2 (.mov QF)]
def zc4t:List am:=[Qo 8 (.mkFunc (.func gn) [] [(t 1)]),
 Qa 3 8]
def zc4u:List am:=[Qo 9 (.fieldAddr 1 (t 1)),
 Qb 10 9,
 Qo 11 (.lenL (t 10)),
 Qo 12 (.mov (ci 0))]
def zc4v:List am:=[Qo 13 (.bin .lss (t 12) (t 11))]
def zc4w:List am:=[Qa 14 12,
 Qa 4 14]
def zc4x:List am:=[Qa 15 3,
 Qa 16 4,
 Qo 17 (.callv (t 15) [(t 16)]),
 Qa 18 17,
 Qt 18 19 (.loadN 7 (t 1)),
 Qt 18 20 (.mov (t 4)),
 Qt 18 21 (.mov (t 3)),
 Qt 18 22 (.call me [(t 19),(t 20),QF,(t 21)]),
 Qt 18 23 (.mov (t 4)),
 Qt 18 24 (.indexSl 1 (t 22) (t 23)),
 Qt 18 25 (.load1 (t 24)),
 Qo 26 (.pick (t 18) (t 25) QF)]
def zc4y:List am:=[Qo 2 (.mov QF)]
def zc4z:List am:=[Qo 27 (.bin .add (t 12) (ci 1)),
 Qa 12 27]
def n5:TC:=(.seq (.ops zc4v) (.clean [1,3,11,12,13] (.seq (.cond (t 13) .skip (.exit 0)) (.clean [1,3,11,12] (.seq (.block 1 [1,3,11,12] (.seq (.ops zc4w) (.clean [1,3,4,11,12] (.seq (.ops zc4x) (.clean [1,3,11,12,26] (.cond (t 26) (.seq (.ops zc4y) (.ret [2])) .skip)))))) (.clean [1,3,11,12] (.ops zc4z)))))))
def zc5c:List am:=[Qo 2 (.mov QT)]
def zcll:TC:=(.seq (.ops zc35) (.clean [1] (.seq (.seq (.ops zc36) (.clean [1,7] (.cond (t 7) (.seq (.ops zc4s) (.ret [2])) .skip))) (.clean [1] (.seq (.ops zc4t) (.clean [1,3] (.seq (.seq (.ops zc4u) (.block 0 [] (.clean [1,3,11,12] (.loop [1,3,11,12] n5)))) (.clean [] (.seq (.ops zc5c) (.ret [2]))))))))))
def zclj:TFn:=⟨28,zcll,[.tmp 2],false⟩
theorem mh:type_of% (ai @zc35.eq_1 (ai @zc36.eq_1 (ai @zc4s.eq_1 (ai @zc4t.eq_1 (ai @zc4u.eq_1 (ai @zc4v.eq_1 (ai @zc4w.eq_1 (ai @zc4x.eq_1 (ai @zc4y.eq_1 (ai @zc4z.eq_1 (ai @zc5c.eq_1 (ai @zcll.eq_1 @zclj.eq_1)))))))))))):=⟨rfl,rfl,rfl,rfl,rfl,rfl,rfl,rfl,rfl,rfl,rfl,rfl,rfl⟩
theorem zdj4:th Try.prog [] rk = some (28,zcll.erase,[.tmp 2]):=by kernel_rfl
def zc5u:List am:=[Qo 3 (.mov QF)]
def zc5v:List am:=[Qo 4 (.fieldAddr 3 (t 1)),
 Qb 5 4,
 Qa 6 0,
 Qo 7 (.call ft [(t 5),(t 6)]),
 Qo 8 (.un .not (t 7)),
 Qa 3 8]
def zclt:TC:=(.seq (.ops zc5u) (.clean [0,1] (.seq (.ops zc5v) (.ret [3]))))
def zclr:TFn:=⟨9,zclt,[.tmp 3],false⟩
theorem zdlg:type_of% (ai @zc5u.eq_1 (ai @zc5v.eq_1 (ai @zclt.eq_1 @zclr.eq_1))):=⟨rfl,rfl,rfl,rfl⟩
theorem zdk7:th Try.prog [] gn = some (9,zclt.erase,[.tmp 3]):=by kernel_rfl
def xj:List am:=[Qo 4 (.mov QF)]
def xi:List am:=[Qa 5 0,
 Qa 6 1,
 Qo 7 (.call jt [(t 5),(t 6)]),
 Qo 8 (.bin .geq (t 7) (ci 0)),
 Qa 4 8]
def qz:TC:=(.seq (.ops xj) (.clean [0,1] (.seq (.ops xi) (.ret [4]))))
def rb:TFn:=⟨9,qz,[.tmp 4],false⟩
theorem zdg5:type_of% (ai @xj.eq_1 (ai @xi.eq_1 (ai @qz.eq_1 @rb.eq_1))):=⟨rfl,rfl,rfl,rfl⟩
theorem zdg6:th Try.prog [] ft = some (9,qz.erase,[.tmp 4]):=by kernel_rfl
def zc6s:List am:=[Qo 4 (.mov (ci 0))]
def zc6t:List am:=[Qa 6 0,
 Qo 7 (.lenL (t 6)),
 Qo 8 (.mov (ci 0))]
def zc6u:List am:=[Qo 9 (.bin .lss (t 8) (t 7))]
def zc6v:List am:=[Qa 10 8,
 Qa 5 10]
def zc6w:List am:=[Qa 11 1,
 Qa 12 0,
 Qa 13 5,
 Qo 14 (.indexSl 1 (t 12) (t 13)),
 Qb 15 14,
 Qo 16 (.bin .eql (t 11) (t 15))]
def zc6x:List am:=[Qa 17 5,
 Qa 4 17]
def zc6y:List am:=[Qo 18 (.bin .add (t 8) (ci 1)),
 Qa 8 18]
def kx:TC:=(.seq (.ops zc6u) (.clean [0,1,7,8,9] (.seq (.cond (t 9) .skip (.exit 0)) (.clean [0,1,7,8] (.seq (.block 1 [0,1,7,8] (.seq (.ops zc6v) (.clean [0,1,5,7,8] (.seq (.ops zc6w) (.clean [0,1,5,7,8,16] (.cond (t 16) (.seq (.ops zc6x) (.ret [4])) .skip)))))) (.clean [0,1,7,8] (.ops zc6y)))))))
def zc6q:List am:=[Qo 4 (.mov (ci (-1)))]
def ul:TC:=(.seq (.ops zc6s) (.clean [0,1] (.seq (.seq (.ops zc6t) (.block 0 [] (.clean [0,1,7,8] (.loop [0,1,7,8] kx)))) (.clean [] (.seq (.ops zc6q) (.ret [4]))))))
def uo:TFn:=⟨19,ul,[.tmp 4],false⟩
theorem jr:type_of% (ai @zc6s.eq_1 (ai @zc6t.eq_1 (ai @zc6u.eq_1 (ai @zc6v.eq_1 (ai @zc6w.eq_1 (ai @zc6x.eq_1 (ai @zc6y.eq_1 (ai @zc6q.eq_1 (ai @ul.eq_1 @uo.eq_1))))))))):=⟨rfl,rfl,rfl,rfl,rfl,rfl,rfl,rfl,rfl,rfl⟩
theorem zdgq:th Try.prog [] jt = some (19,ul.erase,[.tmp 4]):=by kernel_rfl
def zc2j:List am:=[Qo 2 (.box bh 7 (t 0)),
 Qo 4 (.mov QF)]
def zc2k:List am:=[Qo 5 (.loadN 7 (t 2)),
 Qo 6 (.call sb [(t 5)]),
 Qa 7 6,
 Qt 7 8 (.mov (t 1)),
 Qt 7 9 (.bin .geq (t 8) (ci 0)),
 Qo 10 (.pick (t 7) (t 9) QF),
 Qa 11 10,
 Qt 11 12 (.mov (t 1)),
 Qt 11 13 (.fieldAddr 4 (t 2)),
 Qt 11 14 (.load1 (t 13)),
 Qt 11 15 (.lenL (t 14)),
 Qt 11 16 (.bin .lss (t 12) (t 15)),
 Qo 17 (.pick (t 11) (t 16) QF),
 Qa 4 17]
def zckz:TC:=(.seq (.ops zc2j) (.clean [1,2] (.seq (.ops zc2k) (.ret [4]))))
def zckr:TFn:=⟨18,zckz,[.tmp 4],false⟩
theorem zckm:type_of% (ai @zc2j.eq_1 (ai @zc2k.eq_1 (ai @zckz.eq_1 @zckr.eq_1))):=⟨rfl,rfl,rfl,rfl⟩
theorem zdf1:th Try.prog [] pm = some (18,zckz.erase,[.tmp 4]):=by kernel_rfl
def zc72:List am:=[Qo 2 (.mov (.const (Go.Value.string ⟨#[]⟩)))]
def zc73:List am:=[Qa 12 0,
 Qo 13 (.lenS (t 12)),
 Qo 14 (.conv .u64 (t 13)),
 Qo 15 (.bin .mul (t 14) (.const (Go.Value.int Go.IntKind.u64 8))),
 Qa 3 15]
def zc74:List am:=[Qo 4 (.box bz 2 (.const (.agg #[(.pointer none),(.slice none 0 0)])))]
def zc75:List am:=[Qa 16 0,
 Qo 17 (.call bk [(t 4),(t 16)])]
def zc76:List am:=[Qo 18 (.call bk [(t 4),(.const (Go.Value.string ⟨#[128]⟩))])]
def zc77:List am:=[Qo 19 (.call lu [(t 4)]),
 Qo 20 (.bin .rem (t 19) (ci 64)),
 Qo 21 (.bin .neq (t 20) (ci 56))]
def zc78:List am:=[Qo 22 (.call er [(t 4),(.const (Go.Value.int Go.IntKind.u8 0))])]
def zce6:TC:=(.seq (.seq (.ops zc77) (.clean [3,4,21] (.cond (t 21) .skip (.exit 0)))) (.block 1 [3,4] (.ops zc78)))
def zc79:List am:=[Qo 23 (.mov (ci 0))]
def zc8a:List am:=[Qo 24 (.bin .lss (t 23) (ci 8))]
def zc8o:List am:=[Qa 25 23,
 Qa 5 25]
def zc91:List am:=[Qa 26 3,
 Qa 27 5,
 Qo 28 (.bin .mul (ci 8) (t 27)),
 Qo 29 (.bin .sub (ci 56) (t 28)),
 Qo 30 (.bin .shr (t 26) (t 29)),
 Qo 31 (.conv .u8 (t 30)),
 Qo 32 (.call er [(t 4),(t 31)])]
def zc92:List am:=[Qo 33 (.bin .add (t 23) (ci 1)),
 Qa 23 33]
def zce7:TC:=(.seq (.ops zc8a) (.clean [3,4,23,24] (.seq (.cond (t 24) .skip (.exit 2)) (.clean [3,4,23] (.seq (.block 3 [3,4,23] (.seq (.ops zc8o) (.clean [3,4,5,23] (.ops zc91)))) (.clean [3,4,23] (.ops zc92)))))))
def zc93:List am:=[Qo 34 (.call zb8c []),
 Qo 35 (.call ug []),
 Qo 6 (.box mb 8 (.const (.agg #[(.int .u32 0),(.int .u32 0),(.int .u32 0),(.int .u32 0),(.int .u32 0),(.int .u32 0),(.int .u32 0),(.int .u32 0)]))),
 Qo 7 (.box dq 64 (.const (.agg #[(.int .u32 0),(.int .u32 0),(.int .u32 0),(.int .u32 0),(.int .u32 0),(.int .u32 0),(.int .u32 0),(.int .u32 0),(.int .u32 0),(.int .u32 0),(.int .u32 0),(.int .u32 0),(.int .u32 0),(.int .u32 0),(.int .u32 0),(.int .u32 0),(.int .u32 0),(.int .u32 0),(.int .u32 0),(.int .u32 0),(.int .u32 0),(.int .u32 0),(.int .u32 0),(.int .u32 0),(.int .u32 0),(.int .u32 0),(.int .u32 0),(.int .u32 0),(.int .u32 0),(.int .u32 0),(.int .u32 0),(.int .u32 0),(.int .u32 0),(.int .u32 0),(.int .u32 0),(.int .u32 0),(.int .u32 0),(.int .u32 0),(.int .u32 0),(.int .u32 0),(.int .u32 0),(.int .u32 0),(.int .u32 0),(.int .u32 0),(.int .u32 0),(.int .u32 0),(.int .u32 0),(.int .u32 0),(.int .u32 0),(.int .u32 0),(.int .u32 0),(.int .u32 0),(.int .u32 0),(.int .u32 0),(.int .u32 0),(.int .u32 0),(.int .u32 0),(.int .u32 0),(.int .u32 0),(.int .u32 0),(.int .u32 0),(.int .u32 0),(.int .u32 0),(.int .u32 0)]))),
 ⟨⟨none,.store 8 (t 6) (t 34),none⟩,0⟩,
 ⟨⟨none,.store 64 (t 7) (t 35),none⟩,0⟩]
def zc94:List am:=[Qo 36 (.call cd [(t 4)]),
 Qa 8 36]
def zc95:List am:=[Qa 37 8,
 Qo 38 (.bin .neq (t 37) (.const (Go.Value.string ⟨#[]⟩)))]
def zdao:List am:=[Qa 41 8,
 Qo 42 (.sliceStr (t 41) none (some (ci 64))),
 Qo 43 (.call uf [(t 6),(t 42),(t 7)])]
def zdan:List am:=[Qa 39 8,
 Qo 40 (.sliceStr (t 39) (some (ci 64)) none),
 Qa 8 40]
def zcez:TC:=(.seq (.seq (.ops zc95) (.clean [6,7,8,38] (.cond (t 38) .skip (.exit 4)))) (.clean [6,7,8] (.seq (.block 5 [6,7,8] (.ops zdao)) (.clean [6,7,8] (.ops zdan)))))
def zdap:List am:=[Qm 2 44 (.makeSl dv 1 [(.int .u8 0)] (ci 0) (ci 32)),
 Qa 9 44]
def zdaq:List am:=[Qo 45 (.loadN 8 (t 6)),
 Qo 46 (.mov (ci 0))]
def zdar:List am:=[Qo 47 (.bin .lss (t 46) (ci 8))]
def zdas:List am:=[Qo 48 (.indexAgg 8 (t 45) (t 46)),
 Qa 11 48]
def zdat:List am:=[Qa 49 9,
 Qa 50 11,
 Qo 51 (.bin .shr (t 50) (.const (Go.Value.int Go.IntKind.u64 24))),
 Qo 52 (.conv .u8 (t 51)),
 Qa 53 11,
 Qo 54 (.bin .shr (t 53) (.const (Go.Value.int Go.IntKind.u64 16))),
 Qo 55 (.conv .u8 (t 54)),
 Qa 56 11,
 Qo 57 (.bin .shr (t 56) (.const (Go.Value.int Go.IntKind.u64 8))),
 Qo 58 (.conv .u8 (t 57)),
 Qa 59 11,
 Qo 60 (.conv .u8 (t 59)),
 Qo 61 (.buildSl dv 1 4 [(.int .u8 0),(.int .u8 0),(.int .u8 0),(.int .u8 0)] [(0,1,(t 52)),(1,1,(t 55)),(2,1,(t 58)),(3,1,(t 60))]),
 Qo 62 (.append dv 1 1 (t 49) (t 61)),
 Qa 9 62]
def zdau:List am:=[Qo 63 (.bin .add (t 46) (ci 1)),
 Qa 46 63]
def zb4c:TC:=(.seq (.ops zdar) (.clean [9,45,46,47] (.seq (.cond (t 47) .skip (.exit 6)) (.clean [9,45,46] (.seq (.block 7 [9,45,46] (.seq (.ops zdas) (.clean [9,11,45,46] (.ops zdat)))) (.clean [9,45,46] (.ops zdau)))))))
def zdav:List am:=[Qa 64 9,
 Qo 65 (.toStr (t 64)),
 Qa 2 65]
def zcmk:TC:=(.seq (.ops zc72) (.clean [0] (.seq (.ops zc73) (.clean [0,3] (.seq (.ops zc74) (.clean [0,3,4] (.seq (.ops zc75) (.clean [3,4] (.seq (.ops zc76) (.clean [3,4] (.seq (.block 0 [3,4] (.clean [3,4] (.loop [3,4] zce6))) (.clean [3,4] (.seq (.seq (.ops zc79) (.block 2 [4] (.clean [3,4,23] (.loop [3,4,23] zce7)))) (.clean [4] (.seq (.ops zc93) (.clean [4,6,7] (.seq (.seq (.ops zc94) (.block 4 [6] (.clean [6,7,8] (.loop [6,7,8] zcez)))) (.clean [6] (.seq (.ops zdap) (.clean [6,9] (.seq (.seq (.ops zdaq) (.block 6 [9] (.clean [9,45,46] (.loop [9,45,46] zb4c)))) (.clean [9] (.seq (.ops zdav) (.ret [2]))))))))))))))))))))))))
def zcl9:TFn:=⟨66,zcmk,[.tmp 2],false⟩
theorem rz:type_of% (ai @zc72.eq_1 (ai @zc73.eq_1 (ai @zc74.eq_1 (ai @zc75.eq_1 (ai @zc76.eq_1 (ai @zc77.eq_1 (ai @zc78.eq_1 (ai @zc79.eq_1 (ai @zc8a.eq_1 (ai @zc8o.eq_1 (ai @zc91.eq_1 (ai @zc92.eq_1 (ai @zc93.eq_1 (ai @zc94.eq_1 (ai @zc95.eq_1 (ai @zdao.eq_1 (ai @zdan.eq_1 (ai @zdap.eq_1 (ai @zdaq.eq_1 (ai @zdar.eq_1 (ai @zdas.eq_1 (ai @zdat.eq_1 (ai @zdau.eq_1 (ai @zdav.eq_1 (ai @zcmk.eq_1 @zcl9.eq_1))))))))))))))))))))))))):=⟨rfl,rfl,rfl,rfl,rfl,rfl,rfl,rfl,rfl,rfl,rfl,rfl,rfl,rfl,rfl,rfl,rfl,rfl,rfl,rfl,rfl,rfl,rfl,rfl,rfl,rfl⟩
theorem zbvw:th Try.prog [] zb0d = some (66,zcmk.erase,[.tmp 2]):=by kernel_rfl
def tx:List am:=[Qo 4 (.mov (ci 0)),
 Qo 5 (.mov (.const Go.Value.nilIface))]
def tw:List am:=[Qa 6 0,
 Qo 7 (.call dt [(t 6)])]
def tu:List am:=[Qa 8 0,
 Qa 9 0,
 Qo 10 (.nilchk (t 9)),
 Qo 11 (.fieldAddr 1 (t 10)),
 Qm 2 12 (.load1 (t 11)),
 Qa 13 1,
 Qo 14 (.appendS dv (t 12) (t 13)),
 Qo 15 (.nilchk (t 8)),
 Qo 16 (.fieldAddr 1 (t 15)),
 ⟨⟨none,.store 1 (t 16) (t 14),none⟩,2⟩]
def tq:List am:=[Qa 17 1,
 Qo 18 (.lenS (t 17)),
 Qa 4 18,
 Qo 5 (.mov (.const Go.Value.nilIface))]
def nc:TC:=(.seq (.ops tx) (.clean [0,1] (.seq (.ops tw) (.clean [0,1] (.seq (.ops tu) (.clean [1] (.seq (.ops tq) (.ret [4,5]))))))))
def nu:TFn:=⟨19,nc,[.tmp 4,.tmp 5],false⟩
theorem vf:type_of% (ai @tx.eq_1 (ai @tw.eq_1 (ai @tu.eq_1 (ai @tq.eq_1 (ai @nc.eq_1 @nu.eq_1))))):=⟨rfl,rfl,rfl,rfl,rfl,rfl⟩
theorem zdh2:th Try.prog [] bk = some (19,nc.erase,[.tmp 4,.tmp 5]):=by kernel_rfl
def zc6n:List am:=[Qo 2 (.mov (ci 0))]
def zc6o:List am:=[Qa 3 0,
 Qo 4 (.nilchk (t 3)),
 Qo 5 (.fieldAddr 1 (t 4)),
 Qb 6 5,
 Qo 7 (.lenL (t 6)),
 Qa 2 7]
def vp:TC:=(.seq (.ops zc6n) (.clean [0] (.seq (.ops zc6o) (.ret [2]))))
def vt:TFn:=⟨8,vp,[.tmp 2],false⟩
theorem zc57:type_of% (ai @zc6n.eq_1 (ai @zc6o.eq_1 (ai @vp.eq_1 @vt.eq_1))):=⟨rfl,rfl,rfl,rfl⟩
theorem zdgm:th Try.prog [] lu = some (8,vp.erase,[.tmp 2]):=by kernel_rfl
def u9:List am:=[Qo 4 (.mov (.const Go.Value.nilIface))]
def u7:List am:=[Qa 5 0,
 Qo 6 (.call dt [(t 5)])]
def u6:List am:=[Qa 7 0,
 Qa 8 0,
 Qo 9 (.nilchk (t 8)),
 Qo 10 (.fieldAddr 1 (t 9)),
 Qm 2 11 (.load1 (t 10)),
 Qa 12 1,
 Qo 13 (.buildSl dv 1 1 [(.int .u8 0)] [(0,1,(t 12))]),
 Qo 14 (.append dv 1 1 (t 11) (t 13)),
 Qo 15 (.nilchk (t 7)),
 Qo 16 (.fieldAddr 1 (t 15)),
 ⟨⟨none,.store 1 (t 16) (t 14),none⟩,2⟩]
def u5:List am:=[Qo 4 (.mov (.const Go.Value.nilIface))]
def ol:TC:=(.seq (.ops u9) (.clean [0,1] (.seq (.ops u7) (.clean [0,1] (.seq (.ops u6) (.clean [] (.seq (.ops u5) (.ret [4]))))))))
def ou:TFn:=⟨17,ol,[.tmp 4],false⟩
theorem xn:type_of% (ai @u9.eq_1 (ai @u7.eq_1 (ai @u6.eq_1 (ai @u5.eq_1 (ai @ol.eq_1 @ou.eq_1))))):=⟨rfl,rfl,rfl,rfl,rfl,rfl⟩
theorem zdhh:th Try.prog [] er = some (17,ol.erase,[.tmp 4]):=by kernel_rfl
def zcwm:List am:=[Qo 0 (.box mb 8 (.const (.agg #[(.int .u32 0),(.int .u32 0),(.int .u32 0),(.int .u32 0),(.int .u32 0),(.int .u32 0),(.int .u32 0),(.int .u32 0)])))]
def zcwn:List am:=[Qo 1 (.build [(.int .u32 0),(.int .u32 0),(.int .u32 0),(.int .u32 0),(.int .u32 0),(.int .u32 0),(.int .u32 0),(.int .u32 0)] [(0,1,(.const (Go.Value.int Go.IntKind.u32 1779033703))),(1,1,(.const (Go.Value.int Go.IntKind.u32 3144134277))),(2,1,(.const (Go.Value.int Go.IntKind.u32 1013904242))),(3,1,(.const (Go.Value.int Go.IntKind.u32 2773480762))),(4,1,(.const (Go.Value.int Go.IntKind.u32 1359893119))),(5,1,(.const (Go.Value.int Go.IntKind.u32 2600822924))),(6,1,(.const (Go.Value.int Go.IntKind.u32 528734635))),(7,1,(.const (Go.Value.int Go.IntKind.u32 1541459225)))]),
 ⟨⟨none,.store 8 (t 0) (t 1),none⟩,0⟩]
def zcjh:TC:=(.seq (.ops zcwm) (.clean [0] (.seq (.ops zcwn) (.ret [0]))))
def zci2:TFn:=⟨2,zcjh,[.cellN 0 8],false⟩
theorem zdcx:type_of% (ai @zcwm.eq_1 (ai @zcwn.eq_1 (ai @zcjh.eq_1 @zci2.eq_1))):=⟨rfl,rfl,rfl,rfl⟩
theorem zdcp:th Try.prog [] zb8c = some (2,zcjh.erase,[.cellN 0 8]):=by kernel_rfl
def zc3f:List am:=[Qo 0 (.box dq 64 (.const (.agg #[(.int .u32 0),(.int .u32 0),(.int .u32 0),(.int .u32 0),(.int .u32 0),(.int .u32 0),(.int .u32 0),(.int .u32 0),(.int .u32 0),(.int .u32 0),(.int .u32 0),(.int .u32 0),(.int .u32 0),(.int .u32 0),(.int .u32 0),(.int .u32 0),(.int .u32 0),(.int .u32 0),(.int .u32 0),(.int .u32 0),(.int .u32 0),(.int .u32 0),(.int .u32 0),(.int .u32 0),(.int .u32 0),(.int .u32 0),(.int .u32 0),(.int .u32 0),(.int .u32 0),(.int .u32 0),(.int .u32 0),(.int .u32 0),(.int .u32 0),(.int .u32 0),(.int .u32 0),(.int .u32 0),(.int .u32 0),(.int .u32 0),(.int .u32 0),(.int .u32 0),(.int .u32 0),(.int .u32 0),(.int .u32 0),(.int .u32 0),(.int .u32 0),(.int .u32 0),(.int .u32 0),(.int .u32 0),(.int .u32 0),(.int .u32 0),(.int .u32 0),(.int .u32 0),(.int .u32 0),(.int .u32 0),(.int .u32 0),(.int .u32 0),(.int .u32 0),(.int .u32 0),(.int .u32 0),(.int .u32 0),(.int .u32 0),(.int .u32 0),(.int .u32 0),(.int .u32 0)])))]
def zc3g:List am:=[Qo 1 (.build [(.int .u32 0),(.int .u32 0),(.int .u32 0),(.int .u32 0),(.int .u32 0),(.int .u32 0),(.int .u32 0),(.int .u32 0),(.int .u32 0),(.int .u32 0),(.int .u32 0),(.int .u32 0),(.int .u32 0),(.int .u32 0),(.int .u32 0),(.int .u32 0),(.int .u32 0),(.int .u32 0),(.int .u32 0),(.int .u32 0),(.int .u32 0),(.int .u32 0),(.int .u32 0),(.int .u32 0),(.int .u32 0),(.int .u32 0),(.int .u32 0),(.int .u32 0),(.int .u32 0),(.int .u32 0),(.int .u32 0),(.int .u32 0),(.int .u32 0),(.int .u32 0),(.int .u32 0),(.int .u32 0),(.int .u32 0),(.int .u32 0),(.int .u32 0),(.int .u32 0),(.int .u32 0),(.int .u32 0),(.int .u32 0),(.int .u32 0),(.int .u32 0),(.int .u32 0),(.int .u32 0),(.int .u32 0),(.int .u32 0),(.int .u32 0),(.int .u32 0),(.int .u32 0),(.int .u32 0),(.int .u32 0),(.int .u32 0),(.int .u32 0),(.int .u32 0),(.int .u32 0),(.int .u32 0),(.int .u32 0),(.int .u32 0),(.int .u32 0),(.int .u32 0),(.int .u32 0)] [(0,1,(.const (Go.Value.int Go.IntKind.u32 1116352408))),(1,1,(.const (Go.Value.int Go.IntKind.u32 1899447441))),(2,1,(.const (Go.Value.int Go.IntKind.u32 3049323471))),(3,1,(.const (Go.Value.int Go.IntKind.u32 3921009573))),(4,1,(.const (Go.Value.int Go.IntKind.u32 961987163))),(5,1,(.const (Go.Value.int Go.IntKind.u32 1508970993))),(6,1,(.const (Go.Value.int Go.IntKind.u32 2453635748))),(7,1,(.const (Go.Value.int Go.IntKind.u32 2870763221))),(8,1,(.const (Go.Value.int Go.IntKind.u32 3624381080))),(9,1,(.const (Go.Value.int Go.IntKind.u32 310598401))),(10,1,(.const (Go.Value.int Go.IntKind.u32 607225278))),(11,1,(.const (Go.Value.int Go.IntKind.u32 1426881987))),(12,1,(.const (Go.Value.int Go.IntKind.u32 1925078388))),(13,1,(.const (Go.Value.int Go.IntKind.u32 2162078206))),(14,1,(.const (Go.Value.int Go.IntKind.u32 2614888103))),(15,1,(.const (Go.Value.int Go.IntKind.u32 3248222580))),(16,1,(.const (Go.Value.int Go.IntKind.u32 3835390401))),(17,1,(.const (Go.Value.int Go.IntKind.u32 4022224774))),(18,1,(.const (Go.Value.int Go.IntKind.u32 264347078))),(19,1,(.const (Go.Value.int Go.IntKind.u32 604807628))),(20,1,(.const (Go.Value.int Go.IntKind.u32 770255983))),(21,1,(.const (Go.Value.int Go.IntKind.u32 1249150122))),(22,1,(.const (Go.Value.int Go.IntKind.u32 1555081692))),(23,1,(.const (Go.Value.int Go.IntKind.u32 1996064986))),(24,1,(.const (Go.Value.int Go.IntKind.u32 2554220882))),(25,1,(.const (Go.Value.int Go.IntKind.u32 2821834349))),(26,1,(.const (Go.Value.int Go.IntKind.u32 2952996808))),(27,1,(.const (Go.Value.int Go.IntKind.u32 3210313671))),(28,1,(.const (Go.Value.int Go.IntKind.u32 3336571891))),(29,1,(.const (Go.Value.int Go.IntKind.u32 3584528711))),(30,1,(.const (Go.Value.int Go.IntKind.u32 113926993))),(31,1,(.const (Go.Value.int Go.IntKind.u32 338241895))),(32,1,(.const (Go.Value.int Go.IntKind.u32 666307205))),(33,1,(.const (Go.Value.int Go.IntKind.u32 773529912))),(34,1,(.const (Go.Value.int Go.IntKind.u32 1294757372))),(35,1,(.const (Go.Value.int Go.IntKind.u32 1396182291))),(36,1,(.const (Go.Value.int Go.IntKind.u32 1695183700))),(37,1,(.const (Go.Value.int Go.IntKind.u32 1986661051))),(38,1,(.const (Go.Value.int Go.IntKind.u32 2177026350))),(39,1,(.const (Go.Value.int Go.IntKind.u32 2456956037))),(40,1,(.const (Go.Value.int Go.IntKind.u32 2730485921))),(41,1,(.const (Go.Value.int Go.IntKind.u32 2820302411))),(42,1,(.const (Go.Value.int Go.IntKind.u32 3259730800))),(43,1,(.const (Go.Value.int Go.IntKind.u32 3345764771))),(44,1,(.const (Go.Value.int Go.IntKind.u32 3516065817))),(45,1,(.const (Go.Value.int Go.IntKind.u32 3600352804))),(46,1,(.const (Go.Value.int Go.IntKind.u32 4094571909))),(47,1,(.const (Go.Value.int Go.IntKind.u32 275423344))),(48,1,(.const (Go.Value.int Go.IntKind.u32 430227734))),(49,1,(.const (Go.Value.int Go.IntKind.u32 506948616))),(50,1,(.const (Go.Value.int Go.IntKind.u32 659060556))),(51,1,(.const (Go.Value.int Go.IntKind.u32 883997877))),(52,1,(.const (Go.Value.int Go.IntKind.u32 958139571))),(53,1,(.const (Go.Value.int Go.IntKind.u32 1322822218))),(54,1,(.const (Go.Value.int Go.IntKind.u32 1537002063))),(55,1,(.const (Go.Value.int Go.IntKind.u32 1747873779))),(56,1,(.const (Go.Value.int Go.IntKind.u32 1955562222))),(57,1,(.const (Go.Value.int Go.IntKind.u32 2024104815))),(58,1,(.const (Go.Value.int Go.IntKind.u32 2227730452))),(59,1,(.const (Go.Value.int Go.IntKind.u32 2361852424))),(60,1,(.const (Go.Value.int Go.IntKind.u32 2428436474))),(61,1,(.const (Go.Value.int Go.IntKind.u32 2756734187))),(62,1,(.const (Go.Value.int Go.IntKind.u32 3204031479))),(63,1,(.const (Go.Value.int Go.IntKind.u32 3329325298)))]),
 ⟨⟨none,.store 64 (t 0) (t 1),none⟩,0⟩]
def zclg:TC:=(.seq (.ops zc3f) (.clean [0] (.seq (.ops zc3g) (.ret [0]))))
def zck8:TFn:=⟨2,zclg,[.cellN 0 64],false⟩
theorem zdjo:type_of% (ai @zc3f.eq_1 (ai @zc3g.eq_1 (ai @zclg.eq_1 @zck8.eq_1))):=⟨rfl,rfl,rfl,rfl⟩
theorem zdjb:th Try.prog [] ug = some (2,zclg.erase,[.cellN 0 64]):=by kernel_rfl
def zc3h:List am:=[Qo 6 (.box dq 64 (.const (.agg #[(.int .u32 0),(.int .u32 0),(.int .u32 0),(.int .u32 0),(.int .u32 0),(.int .u32 0),(.int .u32 0),(.int .u32 0),(.int .u32 0),(.int .u32 0),(.int .u32 0),(.int .u32 0),(.int .u32 0),(.int .u32 0),(.int .u32 0),(.int .u32 0),(.int .u32 0),(.int .u32 0),(.int .u32 0),(.int .u32 0),(.int .u32 0),(.int .u32 0),(.int .u32 0),(.int .u32 0),(.int .u32 0),(.int .u32 0),(.int .u32 0),(.int .u32 0),(.int .u32 0),(.int .u32 0),(.int .u32 0),(.int .u32 0),(.int .u32 0),(.int .u32 0),(.int .u32 0),(.int .u32 0),(.int .u32 0),(.int .u32 0),(.int .u32 0),(.int .u32 0),(.int .u32 0),(.int .u32 0),(.int .u32 0),(.int .u32 0),(.int .u32 0),(.int .u32 0),(.int .u32 0),(.int .u32 0),(.int .u32 0),(.int .u32 0),(.int .u32 0),(.int .u32 0),(.int .u32 0),(.int .u32 0),(.int .u32 0),(.int .u32 0),(.int .u32 0),(.int .u32 0),(.int .u32 0),(.int .u32 0),(.int .u32 0),(.int .u32 0),(.int .u32 0),(.int .u32 0)])))]
def zc3i:List am:=[Qo 23 (.mov (ci 0))]
def zc3j:List am:=[Qo 24 (.bin .lss (t 23) (ci 64))]
def zc3k:List am:=[Qa 25 23,
 Qa 7 25]
def zc3l:List am:=[Qa 26 7,
 Qo 27 (.bin .lss (t 26) (ci 16))]
def zc3m:List am:=[Qa 28 7,
 Qa 29 1,
 Qa 30 7,
 Qo 31 (.bin .mul (ci 4) (t 30)),
 Qo 32 (.sliceStr (t 29) (some (t 31)) none),
 Qo 33 (.call zb8i [(t 32)]),
 Qo 34 (.indexPtr 64 1 (t 6) (t 28)),
 ⟨⟨none,.store 1 (t 34) (t 33),none⟩,0⟩]
def zc3n:List am:=[Qa 35 7,
 Qo 36 (.bin .sub (t 35) (ci 15)),
 Qo 37 (.indexPtr 64 1 (t 6) (t 36)),
 Qb 38 37,
 Qa 39 7,
 Qo 40 (.bin .sub (t 39) (ci 2)),
 Qo 41 (.indexPtr 64 1 (t 6) (t 40)),
 Qb 42 41,
 Qa 8 38,
 Qa 9 42]
def zc3o:List am:=[Qa 43 7,
 Qa 44 7,
 Qo 45 (.bin .sub (t 44) (ci 16)),
 Qo 46 (.indexPtr 64 1 (t 6) (t 45)),
 Qb 47 46,
 Qa 48 8,
 Qa 50 8,
 Qa 53 8,
 Qo 54 (.bin .shr (t 53) (.const (Go.Value.int Go.IntKind.u64 3))),
 Qa 57 7,
 Qo 58 (.bin .sub (t 57) (ci 7)),
 Qo 59 (.indexPtr 64 1 (t 6) (t 58)),
 Qb 60 59,
 Qa 62 9,
 Qa 64 9,
 Qa 67 9,
 Qo 68 (.bin .shr (t 67) (.const (Go.Value.int Go.IntKind.u64 10))),
 Qo 49 (.call ki [(t 48),(ci 7)]),
 Qo 51 (.call ki [(t 50),(ci 18)]),
 Qo 52 (.bin .xor (t 49) (t 51)),
 Qo 55 (.bin .xor (t 52) (t 54)),
 Qo 56 (.bin .add (t 47) (t 55)),
 Qo 61 (.bin .add (t 56) (t 60)),
 Qo 63 (.call ki [(t 62),(ci 17)]),
 Qo 65 (.call ki [(t 64),(ci 19)]),
 Qo 66 (.bin .xor (t 63) (t 65)),
 Qo 69 (.bin .xor (t 66) (t 68)),
 Qo 70 (.bin .add (t 61) (t 69)),
 Qo 71 (.indexPtr 64 1 (t 6) (t 43)),
 ⟨⟨none,.store 1 (t 71) (t 70),none⟩,0⟩]
def zc3p:List am:=[Qo 72 (.bin .add (t 23) (ci 1)),
 Qa 23 72]
def t5:TC:=(.seq (.ops zc3j) (.clean [0,1,2,6,23,24] (.seq (.cond (t 24) .skip (.exit 0)) (.clean [0,1,2,6,23] (.seq (.block 1 [0,1,2,6,23] (.seq (.ops zc3k) (.clean [0,1,2,6,7,23] (.seq (.seq (.ops zc3l) (.clean [0,1,2,6,7,23,27] (.cond (t 27) (.seq (.ops zc3m) (.exit 1)) .skip))) (.clean [0,1,2,6,7,23] (.seq (.draw (pl zc3n)) (.clean [0,1,2,6,7,8,9,23] (.draw (pl zc3o))))))))) (.clean [0,1,2,6,23] (.ops zc3p)))))))
def zc3q:List am:=[Qa 73 0,
 Qo 74 (.nilchk (t 73)),
 Qo 75 (.indexPtr 8 1 (t 74) (ci 0)),
 Qb 76 75,
 Qa 77 0,
 Qo 78 (.nilchk (t 77)),
 Qo 79 (.indexPtr 8 1 (t 78) (ci 1)),
 Qb 80 79,
 Qa 81 0,
 Qo 82 (.nilchk (t 81)),
 Qo 83 (.indexPtr 8 1 (t 82) (ci 2)),
 Qb 84 83,
 Qa 85 0,
 Qo 86 (.nilchk (t 85)),
 Qo 87 (.indexPtr 8 1 (t 86) (ci 3)),
 Qb 88 87,
 Qa 89 0,
 Qo 90 (.nilchk (t 89)),
 Qo 91 (.indexPtr 8 1 (t 90) (ci 4)),
 Qb 92 91,
 Qa 93 0,
 Qo 94 (.nilchk (t 93)),
 Qo 95 (.indexPtr 8 1 (t 94) (ci 5)),
 Qb 96 95,
 Qa 97 0,
 Qo 98 (.nilchk (t 97)),
 Qo 99 (.indexPtr 8 1 (t 98) (ci 6)),
 Qb 100 99,
 Qa 101 0,
 Qo 102 (.nilchk (t 101)),
 Qo 103 (.indexPtr 8 1 (t 102) (ci 7)),
 Qb 104 103,
 Qa 10 76,
 Qa 11 80,
 Qa 12 84,
 Qa 13 88,
 Qa 14 92,
 Qa 15 96,
 Qa 16 100,
 Qa 17 104]
def zc4k:List am:=[Qo 105 (.mov (ci 0))]
def zc4l:List am:=[Qo 106 (.bin .lss (t 105) (ci 64))]
def zc4m:List am:=[Qa 107 105,
 Qa 18 107]
def zc4n:List am:=[Qa 108 17,
 Qa 109 14,
 Qa 111 14,
 Qa 114 14,
 Qa 118 14,
 Qa 119 15,
 Qo 120 (.bin .and (t 118) (t 119)),
 Qa 121 14,
 Qo 122 (.un .xor (t 121)),
 Qa 123 16,
 Qo 124 (.bin .and (t 122) (t 123)),
 Qo 125 (.bin .xor (t 120) (t 124)),
 Qa 127 2,
 Qa 128 18,
 Qo 129 (.nilchk (t 127)),
 Qo 130 (.indexPtr 64 1 (t 129) (t 128)),
 Qb 131 130,
 Qa 133 18,
 Qo 134 (.indexPtr 64 1 (t 6) (t 133)),
 Qb 135 134,
 Qo 110 (.call ki [(t 109),(ci 6)]),
 Qo 112 (.call ki [(t 111),(ci 11)]),
 Qo 113 (.bin .xor (t 110) (t 112)),
 Qo 115 (.call ki [(t 114),(ci 25)]),
 Qo 116 (.bin .xor (t 113) (t 115)),
 Qo 117 (.bin .add (t 108) (t 116)),
 Qo 126 (.bin .add (t 117) (t 125)),
 Qo 132 (.bin .add (t 126) (t 131)),
 Qo 136 (.bin .add (t 132) (t 135)),
 Qa 19 136]
def zc4o:List am:=[Qa 137 10,
 Qo 138 (.call ki [(t 137),(ci 2)]),
 Qa 139 10,
 Qo 140 (.call ki [(t 139),(ci 13)]),
 Qo 141 (.bin .xor (t 138) (t 140)),
 Qa 142 10,
 Qo 143 (.call ki [(t 142),(ci 22)]),
 Qo 144 (.bin .xor (t 141) (t 143)),
 Qa 145 10,
 Qa 146 11,
 Qo 147 (.bin .and (t 145) (t 146)),
 Qa 148 10,
 Qa 149 12,
 Qo 150 (.bin .and (t 148) (t 149)),
 Qo 151 (.bin .xor (t 147) (t 150)),
 Qa 152 11,
 Qa 153 12,
 Qo 154 (.bin .and (t 152) (t 153)),
 Qo 155 (.bin .xor (t 151) (t 154)),
 Qo 156 (.bin .add (t 144) (t 155)),
 Qa 20 156]
def zc4p:List am:=[Qa 157 19,
 Qa 158 20,
 Qo 159 (.bin .add (t 157) (t 158)),
 Qa 160 10,
 Qa 161 11,
 Qa 162 12,
 Qa 163 13,
 Qa 164 19,
 Qo 165 (.bin .add (t 163) (t 164)),
 Qa 166 14,
 Qa 167 15,
 Qa 168 16,
 Qa 10 159,
 Qa 11 160,
 Qa 12 161,
 Qa 13 162,
 Qa 14 165,
 Qa 15 166,
 Qa 16 167,
 Qa 17 168]
def zc4q:List am:=[Qo 169 (.bin .add (t 105) (ci 1)),
 Qa 105 169]
def yh:TC:=(.seq (.ops zc4l) (.clean [0,2,6,10,11,12,13,14,15,16,17,105,106] (.seq (.cond (t 106) .skip (.exit 2)) (.clean [0,2,6,10,11,12,13,14,15,16,17,105] (.seq (.block 3 [0,2,6,10,11,12,13,14,15,16,17,105] (.seq (.ops zc4m) (.clean [0,2,6,10,11,12,13,14,15,16,17,18,105] (.seq (.draw (pl zc4n)) (.clean [0,2,6,10,11,12,13,14,15,16,19,105] (.seq (.ops zc4o) (.clean [0,2,6,10,11,12,13,14,15,16,19,20,105] (.ops zc4p)))))))) (.clean [0,2,6,10,11,12,13,14,15,16,17,105] (.ops zc4q)))))))
def zc4r:List am:=[Qa 170 10,
 Qa 171 11,
 Qa 172 12,
 Qa 173 13,
 Qa 174 14,
 Qa 175 15,
 Qa 176 16,
 Qa 177 17,
 Qo 178 (.build [(.int .u32 0),(.int .u32 0),(.int .u32 0),(.int .u32 0),(.int .u32 0),(.int .u32 0),(.int .u32 0),(.int .u32 0)] [(0,1,(t 170)),(1,1,(t 171)),(2,1,(t 172)),(3,1,(t 173)),(4,1,(t 174)),(5,1,(t 175)),(6,1,(t 176)),(7,1,(t 177))]),
 Qo 179 (.mov (ci 0))]
def zc43:List am:=[Qo 180 (.bin .lss (t 179) (ci 8))]
def zc44:List am:=[Qa 181 179,
 Qo 182 (.indexAgg 8 (t 178) (t 179)),
 Qa 21 181,
 Qa 22 182]
def zc45:List am:=[Qa 183 0,
 Qa 184 21,
 Qo 185 (.nilchk (t 183)),
 Qo 186 (.indexPtr 8 1 (t 185) (t 184)),
 Qb 187 186,
 Qa 188 22,
 Qo 189 (.bin .add (t 187) (t 188)),
 Qo 190 (.nilchk (t 183)),
 Qo 191 (.indexPtr 8 1 (t 190) (t 184)),
 ⟨⟨none,.store 1 (t 191) (t 189),none⟩,0⟩]
def zc46:List am:=[Qo 192 (.bin .add (t 179) (ci 1)),
 Qa 179 192]
def yg:TC:=(.seq (.ops zc43) (.clean [0,178,179,180] (.seq (.cond (t 180) .skip (.exit 4)) (.clean [0,178,179] (.seq (.block 5 [0,178,179] (.seq (.ops zc44) (.clean [0,21,22,178,179] (.draw (pl zc45))))) (.clean [0,178,179] (.ops zc46)))))))
def zclh:TC:=(.seq (.ops zc3h) (.clean [0,1,2,6] (.seq (.seq (.ops zc3i) (.block 0 [0,2,6] (.clean [0,1,2,6,23] (.loop [0,1,2,6,23] t5)))) (.clean [0,2,6] (.seq (.draw (pl zc3q)) (.clean [0,2,6,10,11,12,13,14,15,16,17] (.seq (.seq (.ops zc4k) (.block 2 [0,10,11,12,13,14,15,16,17] (.clean [0,2,6,10,11,12,13,14,15,16,17,105] (.loop [0,2,6,10,11,12,13,14,15,16,17,105] yh)))) (.clean [0,10,11,12,13,14,15,16,17] (.seq (.ops zc4r) (.block 4 [] (.clean [0,178,179] (.loop [0,178,179] yg))))))))))))
def zck9:TFn:=⟨193,zclh,[],false⟩
theorem iw:type_of% (ai @zc3h.eq_1 (ai @zc3i.eq_1 (ai @zc3j.eq_1 (ai @zc3k.eq_1 (ai @zc3l.eq_1 (ai @zc3m.eq_1 (ai @zc3n.eq_1 (ai @zc3o.eq_1 (ai @zc3p.eq_1 (ai @zc3q.eq_1 (ai @zc4k.eq_1 (ai @zc4l.eq_1 (ai @zc4m.eq_1 (ai @zc4n.eq_1 (ai @zc4o.eq_1 (ai @zc4p.eq_1 (ai @zc4q.eq_1 (ai @zc4r.eq_1 (ai @zc43.eq_1 (ai @zc44.eq_1 (ai @zc45.eq_1 (ai @zc46.eq_1 (ai @zclh.eq_1 @zck9.eq_1))))))))))))))))))))))):=⟨rfl,rfl,rfl,rfl,rfl,rfl,rfl,rfl,rfl,rfl,rfl,rfl,rfl,rfl,rfl,rfl,rfl,rfl,rfl,rfl,rfl,rfl,rfl,rfl⟩
theorem zdjc:th Try.prog [(6,⟨[0,1,2,3,4,5,6,7,8,9],[0,1,3,7,0,16,48,112,15,511],[],[],.nil⟩),(7,⟨[0,1,2,3,4,5,7,10,11,14,15,16,17,19,21,24,25,6,8,9,12,13,18,20,22,23,26,27,28,29],[0,0,2,6,14,0,32,0,224,480,0,1024,4064,8190,0,16384,49152,114688,262142,0,524768,0,3670496,7864800,0,16777216,66585056,134217726,268435455,536870911],[],[],.nil⟩),(9,⟨[0,1,2,3,4,5,6,7,8,9,10,11,12,13,14,15,16,17,18,19,20,21,22,23,24,25,26,27,28,29,30,31,32,33,34,35,36,37,38,39],[0,1,3,7,0,16,48,112,0,256,768,1792,0,4096,12288,28672,0,65536,196608,458752,0,1048576,3145728,7340032,0,16777216,50331648,117440512,0,268435456,805306368,1879048192,15,4294967551,12884905983,30064836607,64425558015,133160763391,270851375103,549755813887],[],[],.nil⟩),(13,⟨[0,1,3,6,10,11,12,13,14,15,16,17,19,20,21,22,23,25,26,27,2,4,5,7,8,9,18,24,28,29],[0,0,2,0,14,30,0,94,254,511,0,0,3072,0,8192,0,57344,130048,262143,0,0,524288,3670016,7864320,16777215,0,33554432,100663296,268435455,536870911],[],[],.nil⟩),(20,⟨[0,1,2,3,4,5,6,7,8,9],[0,0,1,7,15,0,63,1,255,511],[],[],.nil⟩)] uf = some (193,zclh.erase,[]):=by kernel_rfl
def zcy9:List am:=[Qo 2 (.mov (.const (Go.Value.int Go.IntKind.u32 0)))]
def zcza:List am:=[Qa 3 0,
 Qo 4 (.indexStr (t 3) (ci 0)),
 Qo 5 (.conv .u32 (t 4)),
 Qo 6 (.bin .shl (t 5) (.const (Go.Value.int Go.IntKind.u64 24))),
 Qa 7 0,
 Qo 8 (.indexStr (t 7) (ci 1)),
 Qo 9 (.conv .u32 (t 8)),
 Qo 10 (.bin .shl (t 9) (.const (Go.Value.int Go.IntKind.u64 16))),
 Qo 11 (.bin .or (t 6) (t 10)),
 Qa 12 0,
 Qo 13 (.indexStr (t 12) (ci 2)),
 Qo 14 (.conv .u32 (t 13)),
 Qo 15 (.bin .shl (t 14) (.const (Go.Value.int Go.IntKind.u64 8))),
 Qo 16 (.bin .or (t 11) (t 15)),
 Qa 17 0,
 Qo 18 (.indexStr (t 17) (ci 3)),
 Qo 19 (.conv .u32 (t 18)),
 Qo 20 (.bin .or (t 16) (t 19)),
 Qa 2 20]
def zcj3:TC:=(.seq (.ops zcy9) (.clean [0] (.seq (.draw (pl zcza)) (.ret [2]))))
def zcj7:TFn:=⟨21,zcj3,[.tmp 2],false⟩
theorem zdd5:type_of% (ai @zcy9.eq_1 (ai @zcza.eq_1 (ai @zcj3.eq_1 @zcj7.eq_1))):=⟨rfl,rfl,rfl,rfl⟩
theorem zddy:th Try.prog [(1,⟨[0,1,2,3,4,5,6,7,8,9,10,11,12,13,14,15,16,17,18],[0,1,3,7,0,16,48,112,255,0,512,1536,3584,8191,0,16384,49152,131071,262143],[],[],.nil⟩)] zb8i = some (21,zcj3.erase,[.tmp 2]):=by kernel_rfl
def zcwo:List am:=[Qo 4 (.mov (.const (Go.Value.int Go.IntKind.u32 0)))]
def zcw8:List am:=[Qa 5 0,
 Qa 6 1,
 Qo 7 (.un .neg (t 6)),
 Qo 8 (.call il [(t 5),(t 7)]),
 Qa 4 8]
def zcji:TC:=(.seq (.ops zcwo) (.clean [0,1] (.seq (.ops zcw8) (.ret [4]))))
def zci3:TFn:=⟨9,zcji,[.tmp 4],false⟩
theorem zdcy:type_of% (ai @zcwo.eq_1 (ai @zcw8.eq_1 (ai @zcji.eq_1 @zci3.eq_1))):=⟨rfl,rfl,rfl,rfl⟩
theorem zdcq:th Try.prog [] ki = some (9,zcji.erase,[.tmp 4]):=by kernel_rfl
def zh:List am:=[Qo 4 (.mov (.const (Go.Value.int Go.IntKind.u32 0)))]
def zg:List am:=[Qa 6 1,
 Qo 7 (.conv .u64 (t 6)),
 Qo 8 (.bin .and (t 7) (.const (Go.Value.int Go.IntKind.u64 31))),
 Qa 5 8]
def zf:List am:=[Qa 9 0,
 Qa 10 5,
 Qo 11 (.bin .shl (t 9) (t 10)),
 Qa 12 0,
 Qa 13 5,
 Qo 14 (.bin .sub (.const (Go.Value.int Go.IntKind.u64 32)) (t 13)),
 Qo 15 (.bin .shr (t 12) (t 14)),
 Qo 16 (.bin .or (t 11) (t 15)),
 Qa 4 16]
def sj:TC:=(.seq (.ops zh) (.clean [0,1] (.seq (.ops zg) (.clean [0,5] (.seq (.ops zf) (.ret [4]))))))
def sr:TFn:=⟨17,sj,[.tmp 4],false⟩
theorem zdgy:type_of% (ai @zh.eq_1 (ai @zg.eq_1 (ai @zf.eq_1 (ai @sj.eq_1 @sr.eq_1)))):=⟨rfl,rfl,rfl,rfl,rfl⟩
theorem zdgz:th Try.prog [] il = some (17,sj.erase,[.tmp 4]):=by kernel_rfl
def zcyq:List am:=[Qo 2 (.box bh 7 (t 0)),
 Qo 3 (.box zbxz 1 (t 1)),
 Qo 4 (.mov QF)]
def zcyr:List am:=[Qo 7 (.loadN 7 (t 2)),
 Qo 8 (.call sb [(t 7)]),
 Qo 9 (.un .not (t 8)),
 Qa 10 9,
 Qf 10 11 (.load1 (t 3)),
 Qf 10 12 (.lenL (t 11)),
 Qf 10 13 (.bin .eql (t 12) (ci 0)),
 Qo 14 (.pick (t 10) QT (t 13))]
def zcys:List am:=[Qo 4 (.mov QF)]
def zcyt:List am:=[Qb 15 3,
 Qo 16 (.lenL (t 15)),
 Qo 17 (.mov (ci 0))]
def zcyu:List am:=[Qo 18 (.bin .lss (t 17) (t 16))]
def zcyv:List am:=[Qa 19 17,
 Qo 20 (.indexSl 1 (t 15) (t 17)),
 Qb 21 20,
 Qo 5 (.box jy 1 (.const (.int .i64 0))),
 Qo 6 (.box jy 1 (.const (.int .i64 0))),
 ⟨⟨none,.store 1 (t 5) (t 19),none⟩,0⟩,
 ⟨⟨none,.store 1 (t 6) (t 21),none⟩,0⟩]
def zcyw:List am:=[Qb 22 6,
 Qo 23 (.bin .lss (t 22) (ci 0)),
 Qa 24 23,
 Qf 24 25 (.load1 (t 6)),
 Qf 24 26 (.fieldAddr 1 (t 2)),
 Qf 24 27 (.load1 (t 26)),
 Qf 24 28 (.lenL (t 27)),
 Qf 24 29 (.bin .geq (t 25) (t 28)),
 Qo 30 (.pick (t 24) QT (t 29)),
 Qa 31 30,
 Qf 31 32 (.load1 (t 3)),
 Qf 31 33 (.load1 (t 5)),
 Qf 31 34 (.sliceSl 1 (t 32) none (some (t 33))),
 Qf 31 35 (.load1 (t 6)),
 Qf 31 36 (.call ft [(t 34),(t 35)]),
 Qo 37 (.pick (t 31) QT (t 36))]
def zcyx:List am:=[Qo 4 (.mov QF)]
def zcyy:List am:=[Qb 38 5,
 Qo 39 (.bin .gtr (t 38) (ci 0)),
 Qa 40 39,
 Qt 40 41 (.fieldAddr 2 (t 2)),
 Qt 40 42 (.load1 (t 41)),
 Qt 40 43 (.mkFunc (.func j9) [] [(t 3),(t 5),(t 6)]),
 Qt 40 44 (.call cz [(t 42),(t 43)]),
 Qt 40 45 (.un .not (t 44)),
 Qo 46 (.pick (t 40) (t 45) QF)]
def zcyz:List am:=[Qo 4 (.mov QF)]
def zc0g:List am:=[Qo 47 (.bin .add (t 17) (ci 1)),
 Qa 17 47]
def m5:TC:=(.seq (.ops zcyu) (.clean [2,3,15,16,17,18] (.seq (.cond (t 18) .skip (.exit 0)) (.clean [2,3,15,16,17] (.seq (.block 1 [2,3,15,16,17] (.seq (.ops zcyv) (.clean [2,3,5,6,15,16,17] (.seq (.seq (.draw (pl zcyw)) (.clean [2,3,5,6,15,16,17,37] (.cond (t 37) (.seq (.ops zcyx) (.ret [4])) .skip))) (.clean [2,3,5,6,15,16,17] (.seq (.ops zcyy) (.clean [2,3,15,16,17,46] (.cond (t 46) (.seq (.ops zcyz) (.ret [4])) .skip)))))))) (.clean [2,3,15,16,17] (.ops zc0g)))))))
def zc0h:List am:=[Qo 4 (.mov QT)]
def zcjz:TC:=(.seq (.ops zcyq) (.clean [2,3] (.seq (.seq (.ops zcyr) (.clean [2,3,14] (.cond (t 14) (.seq (.ops zcys) (.ret [4])) .skip))) (.clean [2,3] (.seq (.seq (.ops zcyt) (.block 0 [] (.clean [2,3,15,16,17] (.loop [2,3,15,16,17] m5)))) (.clean [] (.seq (.ops zc0h) (.ret [4]))))))))
def zcjq:TFn:=⟨48,zcjz,[.tmp 4],false⟩
theorem mg:type_of% (ai @zcyq.eq_1 (ai @zcyr.eq_1 (ai @zcys.eq_1 (ai @zcyt.eq_1 (ai @zcyu.eq_1 (ai @zcyv.eq_1 (ai @zcyw.eq_1 (ai @zcyx.eq_1 (ai @zcyy.eq_1 (ai @zcyz.eq_1 (ai @zc0g.eq_1 (ai @zc0h.eq_1 (ai @zcjz.eq_1 @zcjq.eq_1))))))))))))):=⟨rfl,rfl,rfl,rfl,rfl,rfl,rfl,rfl,rfl,rfl,rfl,rfl,rfl,rfl⟩
theorem zddu:th Try.prog [(6,⟨[0,1,2,3,4,5,6,7,8,9,10,11,12,13,14,15],[0,1,3,7,7,23,55,127,255,511,1023,1023,4095,1023,16383,32767],[],[],.nil⟩)] zb8g = some (48,zcjz.erase,[.tmp 4]):=by kernel_rfl
def nm:List am:=[Qo 4 (.mov QF)]
def nk:List am:=[Qa 5 0,
 Qa 6 1,
 Qo 7 (.call dl [(t 5),(t 6)]),
 Qo 8 (.bin .geq (t 7) (ci 0)),
 Qa 4 8]
def jh:TC:=(.seq (.ops nm) (.clean [0,1] (.seq (.ops nk) (.ret [4]))))
def jk:TFn:=⟨9,jh,[.tmp 4],false⟩
theorem z4:type_of% (ai @nm.eq_1 (ai @nk.eq_1 (ai @jh.eq_1 @jk.eq_1))):=⟨rfl,rfl,rfl,rfl⟩
theorem z0:th Try.prog [] cz = some (9,jh.erase,[.tmp 4]):=by kernel_rfl
def pg:List am:=[Qo 4 (.mov (ci 0))]
def pf:List am:=[Qa 6 0,
 Qo 7 (.lenL (t 6)),
 Qo 8 (.mov (ci 0))]
def pd:List am:=[Qo 9 (.bin .lss (t 8) (t 7))]
def pc:List am:=[Qa 10 8,
 Qa 5 10]
def pb:List am:=[Qa 11 1,
 Qa 12 0,
 Qa 13 5,
 Qo 14 (.indexSl 5 (t 12) (t 13)),
 Qo 15 (.loadN 5 (t 14)),
 Qo 16 (.callv (t 11) [(t 15)])]
def o8:List am:=[Qa 17 5,
 Qa 4 17]
def o7:List am:=[Qo 18 (.bin .add (t 8) (ci 1)),
 Qa 8 18]
def ee:TC:=(.seq (.ops pd) (.clean [0,1,7,8,9] (.seq (.cond (t 9) .skip (.exit 0)) (.clean [0,1,7,8] (.seq (.block 1 [0,1,7,8] (.seq (.ops pc) (.clean [0,1,5,7,8] (.seq (.ops pb) (.clean [0,1,5,7,8,16] (.cond (t 16) (.seq (.ops o8) (.ret [4])) .skip)))))) (.clean [0,1,7,8] (.ops o7)))))))
def o6:List am:=[Qo 4 (.mov (ci (-1)))]
def kb:TC:=(.seq (.ops pg) (.clean [0,1] (.seq (.seq (.ops pf) (.block 0 [] (.clean [0,1,7,8] (.loop [0,1,7,8] ee)))) (.clean [] (.seq (.ops o6) (.ret [4]))))))
def kd:TFn:=⟨19,kb,[.tmp 4],false⟩
theorem dk:type_of% (ai @pg.eq_1 (ai @pf.eq_1 (ai @pd.eq_1 (ai @pc.eq_1 (ai @pb.eq_1 (ai @o8.eq_1 (ai @o7.eq_1 (ai @o6.eq_1 (ai @kb.eq_1 @kd.eq_1))))))))):=⟨rfl,rfl,rfl,rfl,rfl,rfl,rfl,rfl,rfl,rfl⟩
theorem zdig:th Try.prog [] dl = some (19,kb.erase,[.tmp 4]):=by kernel_rfl
def zc1q:List am:=[Qo 4 (.box r7 5 (t 0)),
 Qo 5 (.mov QF)]
def zc1r:List am:=[Qo 6 (.fieldAddr 0 (t 4)),
 Qb 7 6,
 Qb 8 1,
 Qb 9 2,
 Qo 10 (.bin .sub (t 9) (ci 1)),
 Qo 11 (.indexSl 1 (t 8) (t 10)),
 Qb 12 11,
 Qo 13 (.bin .eql (t 7) (t 12)),
 Qa 14 13,
 Qt 14 15 (.fieldAddr 1 (t 4)),
 Qt 14 16 (.load1 (t 15)),
 Qt 14 17 (.load1 (t 3)),
 Qt 14 18 (.bin .eql (t 16) (t 17)),
 Qo 19 (.pick (t 14) (t 18) QF),
 Qa 5 19]
def zckv:TC:=(.seq (.ops zc1q) (.clean [1,2,3,4] (.seq (.draw (pl zc1r)) (.ret [5]))))
def zckn:TFn:=⟨20,zckv,[.tmp 5],false⟩
theorem zcxl:type_of% (ai @zc1q.eq_1 (ai @zc1r.eq_1 (ai @zckv.eq_1 @zckn.eq_1))):=⟨rfl,rfl,rfl,rfl⟩
theorem zdfx:th Try.prog [(1,⟨[0,1,2,3,4,5,6,7,8,9,10,11,12,13,14],[0,1,0,0,8,28,60,127,255,511,1023,511,4095,8191,16383],[],[],.nil⟩)] j9 = some (20,zckv.erase,[.tmp 5]):=by kernel_rfl
def zc4b:List am:=[Qo 2 (.box bh 7 (t 0)),
 Qo 3 (.box d8 4 (t 1)),
 Qo 4 (.mov QF)]
def zc4c:List am:=[Qo 8 (.fieldAddr 1 (t 3)),
 Qb 9 8,
 Qo 5 (.box a9 1 (.const (.string ⟨#[]⟩))),
 ⟨⟨none,.store 1 (t 5) (t 9),none⟩,0⟩]
def zc4d:List am:=[Qo 10 (.mkFunc (.func mc) [] [(t 2),(t 3),(t 5)]),
 Qa 6 10]
def zc4e:List am:=[Qo 11 (.fieldAddr 2 (t 3)),
 Qb 12 11,
 Qo 13 (.lenL (t 12)),
 Qo 14 (.bin .sub (t 13) (ci 1)),
 Qa 7 14]
def zc4f:List am:=[Qa 15 7,
 Qo 16 (.bin .geq (t 15) (ci 0))]
def zc4h:List am:=[Qa 19 6,
 Qa 20 7,
 Qo 21 (.callv (t 19) [(t 20)]),
 Qo 22 (.un .not (t 21))]
def zc4i:List am:=[Qo 4 (.mov QF)]
def zc4g:List am:=[Qa 17 7,
 Qo 18 (.bin .sub (t 17) (ci 1)),
 Qa 7 18]
def rv:TC:=(.seq (.seq (.ops zc4f) (.clean [6,7,16] (.cond (t 16) .skip (.exit 0)))) (.clean [6,7] (.seq (.block 1 [6,7] (.seq (.ops zc4h) (.clean [6,7,22] (.cond (t 22) (.seq (.ops zc4i) (.ret [4])) .skip)))) (.clean [6,7] (.ops zc4g)))))
def zc4j:List am:=[Qo 4 (.mov QT)]
def zclm:TC:=(.seq (.ops zc4b) (.clean [2,3] (.seq (.ops zc4c) (.clean [2,3,5] (.seq (.ops zc4d) (.clean [3,6] (.seq (.seq (.ops zc4e) (.block 0 [] (.clean [6,7] (.loop [6,7] rv)))) (.clean [] (.seq (.ops zc4j) (.ret [4]))))))))))
def zclk:TFn:=⟨23,zclm,[.tmp 4],false⟩
theorem re:type_of% (ai @zc4b.eq_1 (ai @zc4c.eq_1 (ai @zc4d.eq_1 (ai @zc4e.eq_1 (ai @zc4f.eq_1 (ai @zc4h.eq_1 (ai @zc4i.eq_1 (ai @zc4g.eq_1 (ai @zc4j.eq_1 (ai @zclm.eq_1 @zclk.eq_1)))))))))):=⟨rfl,rfl,rfl,rfl,rfl,rfl,rfl,rfl,rfl,rfl,rfl⟩
theorem zdj6:th Try.prog [] ri = some (23,zclm.erase,[.tmp 4]):=by kernel_rfl
def zc5w:List am:=[Qo 5 (.mov QF)]
def zc5x:List am:=[Qo 7 (.fieldAddr 1 (t 1)),
 Qb 8 7,
 Qo 9 (.fieldAddr 2 (t 2)),
 Qb 10 9,
 Qa 11 0,
 Qo 12 (.indexSl 1 (t 10) (t 11)),
 Qb 13 12,
 Qo 14 (.indexSl 2 (t 8) (t 13)),
 Qo 15 (.fieldAddr 1 (t 14)),
 Qb 16 15,
 Qo 17 (.fieldAddr 0 (t 2)),
 Qb 18 17,
 Qo 19 (.indexSl 1 (t 16) (t 18)),
 Qb 20 19,
 Qb 21 3,
 Qo 22 (.fieldAddr 3 (t 2)),
 Qb 23 22,
 Qa 24 0,
 Qo 25 (.indexSl 1 (t 23) (t 24)),
 Qb 26 25,
 Qo 27 (.call zb8h [(t 20),(t 21),(t 26)]),
 Qa 6 27]
def zc5y:List am:=[Qo 28 (.fieldAddr 3 (t 2)),
 Qb 29 28,
 Qa 30 0,
 Qo 31 (.indexSl 1 (t 29) (t 30)),
 Qb 32 31,
 ⟨⟨none,.store 1 (t 3) (t 32),none⟩,0⟩]
def zc5z:List am:=[Qa 33 6,
 Qa 5 33]
def zclu:TC:=(.seq (.ops zc5w) (.clean [0,1,2,3] (.seq (.draw (pl zc5x)) (.clean [0,2,3,6] (.seq (.ops zc5y) (.clean [6] (.seq (.ops zc5z) (.ret [5]))))))))
def zcls:TFn:=⟨34,zclu,[.tmp 5],false⟩
theorem zdlh:type_of% (ai @zc5w.eq_1 (ai @zc5x.eq_1 (ai @zc5y.eq_1 (ai @zc5z.eq_1 (ai @zclu.eq_1 @zcls.eq_1))))):=⟨rfl,rfl,rfl,rfl,rfl,rfl⟩
theorem zdk8:th Try.prog [(1,⟨[0,1,2,3,4,5,6,7,8,9,10,11,12,13,14,15,16,17,18,19,20,21],[0,1,0,4,0,28,60,127,255,511,0,1024,4095,8191,0,0,32768,0,229376,491520,1048575,2097151],[],[],.nil⟩)] mc = some (34,zclu.erase,[.tmp 5]):=by kernel_rfl
def zcy2:List am:=[Qo 5 (.box a9 1 (t 2)),
 Qo 6 (.mov QF)]
def zcy3:List am:=[Qb 8 5,
 Qo 9 (.lenS (t 8)),
 Qo 10 (.bin .neq (t 9) (ci 512))]
def zcy4:List am:=[Qo 6 (.mov QF)]
def zcy5:List am:=[Qa 11 1,
 Qo 12 (.call zb34 [(t 11)]),
 Qo 7 (.box jc 1 (.const .nilFunc)),
 ⟨⟨none,.store 1 (t 7) (t 12),none⟩,0⟩]
def zcy6:List am:=[Qa 13 0,
 Qo 14 (.mkFunc (.func m6) [] [(t 5),(t 7)]),
 Qo 15 (.call zbx1 [(t 14)]),
 Qo 16 (.call uu [(t 15)]),
 Qo 17 (.bin .eql (t 13) (t 16)),
 Qa 6 17]
def zcj1:TC:=(.seq (.ops zcy2) (.clean [0,1,5] (.seq (.seq (.ops zcy3) (.clean [0,1,5,10] (.cond (t 10) (.seq (.ops zcy4) (.ret [6])) .skip))) (.clean [0,1,5] (.seq (.ops zcy5) (.clean [0,5,7] (.seq (.ops zcy6) (.ret [6]))))))))
def zcjs:TFn:=⟨18,zcj1,[.tmp 6],false⟩
theorem zc8y:type_of% (ai @zcy2.eq_1 (ai @zcy3.eq_1 (ai @zcy4.eq_1 (ai @zcy5.eq_1 (ai @zcy6.eq_1 (ai @zcj1.eq_1 @zcjs.eq_1)))))):=⟨rfl,rfl,rfl,rfl,rfl,rfl,rfl⟩
theorem zddw:th Try.prog [] zb8h = some (18,zcj1.erase,[.tmp 6]):=by kernel_rfl
def zc9y:List am:=[Qo 2 (.mov (.const Go.Value.nilFunc))]
def zc9z:List am:=[Qa 4 0,
 Qo 5 (.call zb0d [(t 4)]),
 Qo 3 (.box a9 1 (.const (.string ⟨#[]⟩))),
 ⟨⟨none,.store 1 (t 3) (t 5),none⟩,0⟩]
def zc90:List am:=[Qo 6 (.mkFunc (.func fy) [] [(t 3)]),
 Qa 2 6]
def zcih:TC:=(.seq (.ops zc9y) (.clean [0] (.seq (.ops zc9z) (.clean [3] (.seq (.ops zc90) (.ret [2]))))))
def zcip:TFn:=⟨7,zcih,[.tmp 2],false⟩
theorem zbqj:type_of% (ai @zc9y.eq_1 (ai @zc9z.eq_1 (ai @zc90.eq_1 (ai @zcih.eq_1 @zcip.eq_1)))):=⟨rfl,rfl,rfl,rfl,rfl⟩
theorem zbp9:th Try.prog [] zb34 = some (7,zcih.erase,[.tmp 2]):=by kernel_rfl
def zcy7:List am:=[Qo 3 (.mov (ci 0))]
def zcy8:List am:=[Qb 4 1,
 Qa 5 0,
 Qo 6 (.bin .quo (t 5) (ci 8)),
 Qo 7 (.indexStr (t 4) (t 6)),
 Qa 8 0,
 Qo 9 (.bin .rem (t 8) (ci 8)),
 Qo 10 (.bin .sub (ci 7) (t 9)),
 Qo 11 (.bin .shr (t 7) (t 10)),
 Qo 12 (.conv .i64 (t 11)),
 Qo 13 (.bin .and (t 12) (ci 1)),
 Qa 3 13]
def zcj2:TC:=(.seq (.ops zcy7) (.clean [0,1] (.seq (.ops zcy8) (.ret [3]))))
def zcj6:TFn:=⟨14,zcj2,[.tmp 3],false⟩
theorem zdd4:type_of% (ai @zcy7.eq_1 (ai @zcy8.eq_1 (ai @zcj2.eq_1 @zcj6.eq_1))):=⟨rfl,rfl,rfl,rfl⟩
theorem zddx:th Try.prog [] fy = some (14,zcj2.erase,[.tmp 3]):=by kernel_rfl
def zc7u:List am:=[Qo 2 (.mov (.const (Go.Value.string ⟨#[]⟩)))]
def zc7v:List am:=[Qo 3 (.box bz 2 (.const (.agg #[(.pointer none),(.slice none 0 0)])))]
def zc7w:List am:=[Qo 5 (.mov (ci 0))]
def zc7x:List am:=[Qo 6 (.bin .lss (t 5) (ci 16))]
def zc7y:List am:=[Qa 7 5,
 Qa 4 7]
def zc7z:List am:=[Qa 8 0,
 Qa 9 4,
 Qo 10 (.callv (t 8) [(t 9)]),
 Qo 11 (.call bk [(t 3),(t 10)])]
def zc70:List am:=[Qo 12 (.bin .add (t 5) (ci 1)),
 Qa 5 12]
def zb4b:TC:=(.seq (.ops zc7x) (.clean [0,3,5,6] (.seq (.cond (t 6) .skip (.exit 0)) (.clean [0,3,5] (.seq (.block 1 [0,3,5] (.seq (.ops zc7y) (.clean [0,3,4,5] (.ops zc7z)))) (.clean [0,3,5] (.ops zc70)))))))
def zc71:List am:=[Qo 13 (.call cd [(t 3)]),
 Qa 2 13]
def zcmj:TC:=(.seq (.ops zc7u) (.clean [0] (.seq (.ops zc7v) (.clean [0,3] (.seq (.seq (.ops zc7w) (.block 0 [3] (.clean [0,3,5] (.loop [0,3,5] zb4b)))) (.clean [3] (.seq (.ops zc71) (.ret [2]))))))))
def zcl8:TFn:=⟨14,zcmj,[.tmp 2],false⟩
theorem zbz8:type_of% (ai @zc7u.eq_1 (ai @zc7v.eq_1 (ai @zc7w.eq_1 (ai @zc7x.eq_1 (ai @zc7y.eq_1 (ai @zc7z.eq_1 (ai @zc70.eq_1 (ai @zc71.eq_1 (ai @zcmj.eq_1 @zcl8.eq_1))))))))):=⟨rfl,rfl,rfl,rfl,rfl,rfl,rfl,rfl,rfl,rfl⟩
theorem zbvx:th Try.prog [] zbx1 = some (14,zcmj.erase,[.tmp 2]):=by kernel_rfl
def zcwk:List am:=[Qo 2 (.mov (.const (Go.Value.string ⟨#[]⟩)))]
def zcwl:List am:=[Qa 3 0,
 Qo 4 (.call zb0d [(t 3)]),
 Qo 5 (.sliceStr (t 4) none (some (ci 16))),
 Qa 2 5]
def zcjg:TC:=(.seq (.ops zcwk) (.clean [0] (.seq (.ops zcwl) (.ret [2]))))
def zci1:TFn:=⟨6,zcjg,[.tmp 2],false⟩
theorem zdcw:type_of% (ai @zcwk.eq_1 (ai @zcwl.eq_1 (ai @zcjg.eq_1 @zci1.eq_1))):=⟨rfl,rfl,rfl,rfl⟩
theorem zdco:th Try.prog [] uu = some (6,zcjg.erase,[.tmp 2]):=by kernel_rfl
def zc2l:List am:=[Qo 4 (.mov (.const (Go.Value.string ⟨#[]⟩)))]
def zc2m:List am:=[Qb 8 1,
 Qa 9 0,
 Qo 10 (.bin .mul (t 9) (ci 32)),
 Qa 11 0,
 Qo 12 (.bin .add (t 11) (ci 1)),
 Qo 13 (.bin .mul (t 12) (ci 32)),
 Qo 14 (.sliceStr (t 8) (some (t 10)) (some (t 13))),
 Qa 5 14]
def zc2n:List am:=[Qa 15 5,
 Qo 16 (.sliceStr (t 15) none (some (ci 16))),
 Qa 18 5,
 Qo 19 (.sliceStr (t 18) (some (ci 16)) none),
 Qo 17 (.call uu [(t 16)]),
 Qa 6 17,
 Qa 7 19]
def zc2o:List am:=[Qb 20 2,
 Qa 21 0,
 Qo 22 (.callv (t 20) [(t 21)]),
 Qo 23 (.bin .eql (t 22) (ci 0))]
def zc2p:List am:=[Qa 24 6,
 Qa 25 7,
 Qo 26 (.bin .add (t 24) (t 25)),
 Qa 4 26]
def zc2q:List am:=[Qa 27 7,
 Qa 28 6,
 Qo 29 (.bin .add (t 27) (t 28)),
 Qa 4 29]
def zck0:TC:=(.seq (.ops zc2l) (.clean [0,1,2] (.seq (.ops zc2m) (.clean [0,2,5] (.seq (.draw (pl zc2n)) (.clean [0,2,6,7] (.seq (.seq (.ops zc2o) (.clean [6,7,23] (.cond (t 23) (.seq (.ops zc2p) (.ret [4])) .skip))) (.clean [6,7] (.seq (.ops zc2q) (.ret [4]))))))))))
def zcks:TFn:=⟨30,zck0,[.tmp 4],false⟩
theorem zcxn:type_of% (ai @zc2l.eq_1 (ai @zc2m.eq_1 (ai @zc2n.eq_1 (ai @zc2o.eq_1 (ai @zc2p.eq_1 (ai @zc2q.eq_1 (ai @zck0.eq_1 @zcks.eq_1))))))):=⟨rfl,rfl,rfl,rfl,rfl,rfl,rfl,rfl⟩
theorem zdf2:th Try.prog [(2,⟨[0,1,3,4,2,5,6],[0,1,3,0,8,7,63],[],[],.nil⟩)] m6 = some (30,zck0.erase,[.tmp 4]):=by kernel_rfl
def zcvj:List am:=[Qo 0 (.mov QF)]
def zcvk:List am:=[Qo 4 (.call zb0e [(ci 2),(ci 5),(ci 6)]),
 Qo 1 (.box bh 7 (.const (.agg #[(.string ⟨#[]⟩),(.slice none 0 0),(.slice none 0 0),(.slice none 0 0),(.slice none 0 0),(.int .i64 0),(.int .i64 0)]))),
 ⟨⟨none,.store 7 (t 1) (t 4),none⟩,0⟩]
def zcvl:List am:=[Qo 5 (.loadN 7 (t 1)),
 Qo 6 (.call sf [(ci 0)]),
 Qo 7 (.call vo [(ci 0)]),
 Qo 8 (.call m7 [(t 5),(ci 0),(t 6),(t 7)]),
 Qo 2 (.box d8 4 (.const (.agg #[(.int .i64 0),(.string ⟨#[]⟩),(.slice none 0 0),(.slice none 0 0)]))),
 ⟨⟨none,.store 4 (t 2) (t 8),none⟩,0⟩]
def zcvm:List am:=[Qo 9 (.loadN 7 (t 1)),
 Qo 10 (.loadN 4 (t 2)),
 Qo 11 (.call j8 [(t 9),(ci 1),(t 10)]),
 Qa 3 11]
def zcvn:List am:=[Qo 12 (.fieldAddr 1 (t 2)),
 ⟨⟨none,.store 1 (t 12) (.const (Go.Value.string ⟨#[111,116,104,101,114]⟩)),none⟩,0⟩]
def zcvo:List am:=[Qa 13 3,
 Qa 14 13,
 Qt 14 15 (.loadN 7 (t 1)),
 Qt 14 16 (.loadN 4 (t 2)),
 Qt 14 17 (.call j8 [(t 15),(ci 1),(t 16)]),
 Qt 14 18 (.un .not (t 17)),
 Qo 19 (.pick (t 14) (t 18) QF),
 Qa 20 19,
 Qt 20 21 (.loadN 7 (t 1)),
 Qt 20 22 (.loadN 4 (t 2)),
 Qt 20 23 (.call j8 [(t 21),(ci 0),(t 22)]),
 Qt 20 24 (.un .not (t 23)),
 Qo 25 (.pick (t 20) (t 24) QF),
 Qa 26 25,
 Qt 26 27 (.loadN 7 (t 1)),
 Qt 26 28 (.call m7 [(t 27),(ci 5),(.const (Go.Value.string ⟨#[]⟩)),(.const (Go.Value.string ⟨#[]⟩))]),
 Qt 26 29 (.field1 2 (t 28)),
 Qt 26 30 (.lenL (t 29)),
 Qt 26 31 (.bin .eql (t 30) (ci 0)),
 Qo 32 (.pick (t 26) (t 31) QF),
 Qa 0 32]
def zci8:TC:=(.seq (.ops zcvj) (.clean [] (.seq (.ops zcvk) (.clean [1] (.seq (.drawT (pl zcvl) [((.cons 0 .nil),[1,5]),((.alt 1 (.alt 2 (.alt 3 (.cons 4 .nil) 4 (.cons 3 .nil)) 4 (.cons 2 (.cons 3 .nil))) 4 (.cons 1 (.cons 2 (.cons 3 .nil)))),[1,2,8]),((.cons 5 .nil),[1,2])]) (.clean [1,2] (.seq (.ops zcvm) (.clean [1,2,3] (.seq (.ops zcvn) (.clean [1,2,3] (.seq (.ops zcvo) (.ret [0]))))))))))))
def zcit:TFn:=⟨33,zci8,[.tmp 0],false⟩
theorem zceu:type_of% (ai @zcvj.eq_1 (ai @zcvk.eq_1 (ai @zcvl.eq_1 (ai @zcvm.eq_1 (ai @zcvn.eq_1 (ai @zcvo.eq_1 (ai @zci8.eq_1 @zcit.eq_1))))))):=⟨rfl,rfl,rfl,rfl,rfl,rfl,rfl,rfl⟩
theorem zdcg:th Try.prog [(2,⟨[0,1,2,3,4,5],[0,0,2,7,0,31],[],[],(.cons 0 (.alt 1 (.alt 2 (.alt 3 (.cons 4 (.cons 5 .nil)) 4 (.cons 3 (.cons 5 .nil))) 4 (.cons 2 (.cons 3 (.cons 5 .nil)))) 4 (.cons 1 (.cons 2 (.cons 3 (.cons 5 .nil))))))⟩)] zb35 = some (33,zci8.erase,[.tmp 0]):=by kernel_rfl
def zc87:List am:=[Qo 6 (.box bh 7 (.const (.agg #[(.string ⟨#[]⟩),(.slice none 0 0),(.slice none 0 0),(.slice none 0 0),(.slice none 0 0),(.int .i64 0),(.int .i64 0)])))]
def zc88:List am:=[Qa 9 0,
 Qo 10 (.call zb7z [(t 9),(ci 0),(ci 2)]),
 Qo 11 (.buildSl jy 1 1 [(.int .i64 0)] [(0,1,(ci 0))]),
 Qa 12 1,
 Qa 13 2,
 Qo 14 (.build [(.string ⟨#[]⟩),(.slice none 0 0),(.slice none 0 0),(.slice none 0 0),(.slice none 0 0),(.int .i64 0),(.int .i64 0)] [(0,1,(.const (Go.Value.string ⟨#[114,105,110,103]⟩))),(2,1,(t 10)),(3,1,(t 11)),(5,1,(t 12)),(6,1,(t 13))]),
 Qo 7 (.box bh 7 (.const (.agg #[(.string ⟨#[]⟩),(.slice none 0 0),(.slice none 0 0),(.slice none 0 0),(.slice none 0 0),(.int .i64 0),(.int .i64 0)]))),
 ⟨⟨none,.store 7 (t 7) (t 14),none⟩,0⟩]
def zc89:List am:=[Qo 8 (.mov (ci 0))]
def zc9a:List am:=[Qa 15 8,
 Qa 16 0,
 Qo 17 (.bin .lss (t 15) (t 16))]
def zc9c:List am:=[Qo 20 (.fieldAddr 1 (t 7)),
 Qb 21 20,
 Qa 22 8,
 Qo 23 (.call yr [(t 22)]),
 Qo 24 (.build [(.string ⟨#[]⟩),(.slice none 0 0)] [(0,1,(t 23))]),
 Qo 25 (.buildSl n9 2 1 [(.string ⟨#[]⟩),(.slice none 0 0)] [(0,2,(t 24))]),
 Qm 1 26 (.append n9 2 40 (t 21) (t 25)),
 Qm 9 27 (.fieldAddr 1 (t 7)),
 ⟨⟨none,.store 1 (t 27) (t 26),none⟩,0⟩]
def zc9b:List am:=[Qa 18 8,
 Qo 19 (.bin .add (t 18) (ci 1)),
 Qa 8 19]
def zb9y:TC:=(.seq (.seq (.ops zc9a) (.clean [0,6,7,8,17] (.cond (t 17) .skip (.exit 0)))) (.clean [0,6,7,8] (.seq (.block 1 [0,6,7,8] (.draw (pl zc9c))) (.clean [0,6,7,8] (.ops zc9b)))))
def zc9d:List am:=[Qo 28 (.loadN 7 (t 7)),
 Qo 29 (.call zb9t [(t 28)]),
 ⟨⟨none,.store 7 (t 6) (t 29),none⟩,9⟩]
def zcic:TC:=(.seq (.ops zc87) (.clean [0,1,2,6] (.seq (.ops zc88) (.clean [0,6,7] (.seq (.seq (.ops zc89) (.block 0 [6,7] (.clean [0,6,7,8] (.loop [0,6,7,8] zb9y)))) (.clean [6,7] (.seq (.ops zc9d) (.ret [6]))))))))
def zcik:TFn:=⟨30,zcic,[.cellN 6 7],true⟩
theorem zcem:type_of% (ai @zc87.eq_1 (ai @zc88.eq_1 (ai @zc89.eq_1 (ai @zc9a.eq_1 (ai @zc9c.eq_1 (ai @zc9b.eq_1 (ai @zc9d.eq_1 (ai @zcic.eq_1 @zcik.eq_1)))))))):=⟨rfl,rfl,rfl,rfl,rfl,rfl,rfl,rfl,rfl⟩
theorem zbqe:th Try.prog [(5,⟨[0,1,2,3,4,5,6,7,8],[0,1,0,4,12,28,63,127,255],[],[],.nil⟩)] zb0e = some (30,zcic.erase,[.cellN 6 7]):=by kernel_rfl
def zcu9:List am:=[Qo 1 (.box bh 7 (t 0)),
 Qo 2 (.box bh 7 (.const (.agg #[(.string ⟨#[]⟩),(.slice none 0 0),(.slice none 0 0),(.slice none 0 0),(.slice none 0 0),(.int .i64 0),(.int .i64 0)])))]
def zcva:List am:=[Qo 6 (.fieldAddr 4 (t 1)),
 ⟨⟨none,.store 1 (t 6) (.const (Go.Value.slice none 0 0)),none⟩,0⟩]
def zcvb:List am:=[Qo 3 (.mov (ci 0))]
def zcvc:List am:=[Qa 7 3,
 Qo 8 (.fieldAddr 3 (t 1)),
 Qb 9 8,
 Qo 10 (.lenL (t 9)),
 Qo 11 (.bin .lss (t 7) (t 10))]
def zcve:List am:=[Qo 14 (.fieldAddr 4 (t 1)),
 Qm 2 15 (.load1 (t 14)),
 Qa 16 3,
 Qo 17 (.call sf [(t 16)]),
 Qo 18 (.call zb3x [(t 17)]),
 Qo 19 (.buildSl a9 1 1 [(.string ⟨#[]⟩)] [(0,1,(t 18))]),
 Qo 20 (.append a9 1 16 (t 15) (t 19)),
 Qo 21 (.fieldAddr 4 (t 1)),
 ⟨⟨none,.store 1 (t 21) (t 20),none⟩,2⟩]
def zcvd:List am:=[Qa 12 3,
 Qo 13 (.bin .add (t 12) (ci 1)),
 Qa 3 13]
def zb98:TC:=(.seq (.seq (.ops zcvc) (.clean [1,2,3,11] (.cond (t 11) .skip (.exit 0)))) (.clean [1,2,3] (.seq (.block 1 [1,2,3] (.draw (pl zcve))) (.clean [1,2,3] (.ops zcvd)))))
def zcvf:List am:=[Qo 4 (.mov (ci 0))]
def zcvg:List am:=[Qa 22 4,
 Qo 23 (.fieldAddr 1 (t 1)),
 Qb 24 23,
 Qo 25 (.lenL (t 24)),
 Qo 26 (.bin .lss (t 22) (t 25))]
def zcvi:List am:=[Qo 29 (.fieldAddr 1 (t 1)),
 Qb 30 29,
 Qa 31 4,
 Qo 32 (.indexSl 2 (t 30) (t 31)),
 Qo 33 (.fieldAddr 1 (t 32)),
 ⟨⟨none,.store 1 (t 33) (.const (Go.Value.slice none 0 0)),none⟩,0⟩]
def zcxw:List am:=[Qo 5 (.mov (ci 0))]
def zcxx:List am:=[Qa 34 5,
 Qo 35 (.fieldAddr 3 (t 1)),
 Qb 36 35,
 Qo 37 (.lenL (t 36)),
 Qo 38 (.bin .lss (t 34) (t 37))]
def zcxz:List (am × List Nat):=[(Qo 41 (.fieldAddr 1 (t 1)),[]),
 (Qb 42 41,[]),
 (Qa 43 4,[]),
 (Qo 44 (.fieldAddr 1 (t 1)),[]),
 (Qb 45 44,[]),
 (Qa 46 4,[]),
 (Qo 47 (.indexSl 2 (t 45) (t 46)),[]),
 (Qo 48 (.fieldAddr 1 (t 47)),[]),
 (Qm 2 49 (.load1 (t 48)),[]),
 (Qa 50 4,[]),
 (Qa 52 5,[]),
 (Qo 51 (.call vo [(t 50)]),[]),
 (Qo 53 (.call zb8f [(t 51),(t 52)]),[]),
 (Qo 54 (.buildSl a9 1 1 [(.string ⟨#[]⟩)] [(0,1,(t 53))]),[]),
 (Qo 55 (.append a9 1 16 (t 49) (t 54)),[1]),
 (Qo 56 (.indexSl 2 (t 42) (t 43)),[]),
 (Qo 57 (.fieldAddr 1 (t 56)),[]),
 (⟨⟨none,.store 1 (t 57) (t 55),none⟩,2⟩,[])]
def zcxy:List am:=[Qa 39 5,
 Qo 40 (.bin .add (t 39) (ci 1)),
 Qa 5 40]
def zb95:TC:=(.seq (.seq (.ops zcxx) (.clean [1,2,4,5,38] (.cond (t 38) .skip (.exit 4)))) (.clean [1,2,4,5] (.seq (.block 5 [1,2,4,5] (.draw zcxz)) (.clean [1,2,4,5] (.ops zcxy)))))
def zcvh:List am:=[Qa 27 4,
 Qo 28 (.bin .add (t 27) (ci 1)),
 Qa 4 28]
def zcfe:TC:=(.seq (.seq (.ops zcvg) (.clean [1,2,4,26] (.cond (t 26) .skip (.exit 2)))) (.clean [1,2,4] (.seq (.block 3 [1,2,4] (.seq (.ops zcvi) (.clean [1,2,4] (.seq (.ops zcxw) (.block 4 [1,2,4] (.clean [1,2,4,5] (.loop [1,2,4,5] zb95))))))) (.clean [1,2,4] (.ops zcvh)))))
def zcx0:List am:=[Qo 58 (.loadN 7 (t 1)),
 ⟨⟨none,.store 7 (t 2) (t 58),none⟩,0⟩]
def zci7:TC:=(.seq (.ops zcu9) (.clean [1,2] (.seq (.ops zcva) (.clean [1,2] (.seq (.seq (.ops zcvb) (.block 0 [1,2] (.clean [1,2,3] (.loop [1,2,3] zb98)))) (.clean [1,2] (.seq (.seq (.ops zcvf) (.block 2 [1,2] (.clean [1,2,4] (.loop [1,2,4] zcfe)))) (.clean [1,2] (.seq (.ops zcx0) (.ret [2]))))))))))
def zcis:TFn:=⟨59,zci7,[.cellN 2 7],false⟩
theorem ur:type_of% (ai @zcu9.eq_1 (ai @zcva.eq_1 (ai @zcvb.eq_1 (ai @zcvc.eq_1 (ai @zcve.eq_1 (ai @zcvd.eq_1 (ai @zcvf.eq_1 (ai @zcvg.eq_1 (ai @zcvi.eq_1 (ai @zcxw.eq_1 (ai @zcxx.eq_1 (ai @zcxz.eq_1 (ai @zcxy.eq_1 (ai @zcvh.eq_1 (ai @zcx0.eq_1 (ai @zci7.eq_1 @zcis.eq_1)))))))))))))))):=⟨rfl,rfl,rfl,rfl,rfl,rfl,rfl,rfl,rfl,rfl,rfl,rfl,rfl,rfl,rfl,rfl,rfl⟩
theorem zdcf:th Try.prog [(5,⟨[0,1,2,3,4,5,6,7,8],[0,1,0,4,12,28,63,127,255],[],[],.nil⟩),(13,⟨[0,1,2,3,4,5,6,7,8,9,11,10,12,13,14,15,16,17],[0,1,0,0,8,0,56,120,248,0,512,0,3584,7680,16376,32767,65535,131071],[],[(14,[1])],.nil⟩)] zb9t = some (59,zci7.erase,[.cellN 2 7]):=by kernel_rfl
def zcxu:List am:=[Qo 2 (.mov (.const (Go.Value.string ⟨#[]⟩)))]
def zcxv:List am:=[Qa 3 0,
 Qo 4 (.call po [(t 3)]),
 Qo 5 (.bin .add (.const (Go.Value.string ⟨#[115,101,99,114,101,116]⟩)) (t 4)),
 Qa 2 5]
def zcjw:TC:=(.seq (.ops zcxu) (.clean [0] (.seq (.ops zcxv) (.ret [2]))))
def zcjn:TFn:=⟨6,zcjw,[.tmp 2],false⟩
theorem zdd1:type_of% (ai @zcxu.eq_1 (ai @zcxv.eq_1 (ai @zcjw.eq_1 @zcjn.eq_1))):=⟨rfl,rfl,rfl,rfl⟩
theorem zddr:th Try.prog [] sf = some (6,zcjw.erase,[.tmp 2]):=by kernel_rfl
def zcyi:List am:=[Qo 2 (.mov (.const (Go.Value.string ⟨#[]⟩)))]
def zcyj:List am:=[Qa 5 0,
 Qo 6 (.bin .leq (t 5) (ci (-10))),
 Qa 4 6]
def zcyk:List am:=[Qa 7 0,
 Qo 8 (.bin .rem (t 7) (ci 10)),
 Qo 9 (.un .neg (t 8)),
 Qa 3 9]
def zcyl:List am:=[Qa 10 0,
 Qo 11 (.bin .quo (t 10) (ci 10)),
 Qa 13 3,
 Qa 14 3,
 Qo 15 (.bin .add (t 14) (ci 1)),
 Qo 16 (.sliceStr (.const (Go.Value.string ⟨#[48,49,50,51,52,53,54,55,56,57]⟩)) (some (t 13)) (some (t 15))),
 Qo 12 (.call po [(t 11)]),
 Qo 17 (.bin .add (t 12) (t 16)),
 Qa 2 17]
def zcxp:List am:=[Qa 19 0,
 Qo 20 (.bin .lss (t 19) (ci 0)),
 Qa 18 20]
def zcxq:List am:=[Qa 21 0,
 Qo 22 (.un .neg (t 21)),
 Qa 23 0,
 Qo 24 (.un .neg (t 23)),
 Qo 25 (.bin .add (t 24) (ci 1)),
 Qo 26 (.sliceStr (.const (Go.Value.string ⟨#[48,49,50,51,52,53,54,55,56,57]⟩)) (some (t 22)) (some (t 25))),
 Qo 27 (.bin .add (.const (Go.Value.string ⟨#[45]⟩)) (t 26)),
 Qa 2 27]
def zcxr:List am:=[Qa 29 0,
 Qo 30 (.bin .lss (t 29) (ci 10)),
 Qa 28 30]
def zcxs:List am:=[Qa 31 0,
 Qa 32 0,
 Qo 33 (.bin .add (t 32) (ci 1)),
 Qo 34 (.sliceStr (.const (Go.Value.string ⟨#[48,49,50,51,52,53,54,55,56,57]⟩)) (some (t 31)) (some (t 33))),
 Qa 2 34]
def zcxt:List am:=[Qa 35 0,
 Qo 36 (.bin .quo (t 35) (ci 10)),
 Qa 38 0,
 Qo 39 (.bin .rem (t 38) (ci 10)),
 Qa 40 0,
 Qo 41 (.bin .rem (t 40) (ci 10)),
 Qo 42 (.bin .add (t 41) (ci 1)),
 Qo 43 (.sliceStr (.const (Go.Value.string ⟨#[48,49,50,51,52,53,54,55,56,57]⟩)) (some (t 39)) (some (t 42))),
 Qo 37 (.call po [(t 36)]),
 Qo 44 (.bin .add (t 37) (t 43)),
 Qa 2 44]
def zcjv:TC:=(.seq (.ops zcyi) (.clean [0] (.seq (.block 0 [0] (.seq (.ops zcyj) (.clean [0,4] (.cond (t 4) (.seq (.ops zcyk) (.clean [0,3] (.seq (.draw (pl zcyl)) (.ret [2])))) (.seq (.ops zcxp) (.clean [0,18] (.cond (t 18) (.seq (.ops zcxq) (.ret [2])) (.seq (.ops zcxr) (.clean [0,28] (.cond (t 28) (.seq (.ops zcxs) (.ret [2])) .skip)))))))))) (.clean [0] (.seq (.draw (pl zcxt)) (.ret [2]))))))
def zcjm:TFn:=⟨45,zcjv,[.tmp 2],false⟩
theorem zddo:type_of% (ai @zcyi.eq_1 (ai @zcyj.eq_1 (ai @zcyk.eq_1 (ai @zcyl.eq_1 (ai @zcxp.eq_1 (ai @zcxq.eq_1 (ai @zcxr.eq_1 (ai @zcxs.eq_1 (ai @zcxt.eq_1 (ai @zcjv.eq_1 @zcjm.eq_1)))))))))):=⟨rfl,rfl,rfl,rfl,rfl,rfl,rfl,rfl,rfl,rfl,rfl⟩
theorem zddq:th Try.prog [(3,⟨[0,1,3,4,5,6,2,7,8],[0,1,3,0,0,16,56,127,255],[],[],.nil⟩),(8,⟨[0,1,3,4,5,6,7,8,2,9,10],[0,1,3,0,8,0,32,96,248,511,1023],[],[],.nil⟩)] po = some (45,zcjv.erase,[.tmp 2]):=by kernel_rfl
def zc9e:List am:=[Qo 2 (.mov (.const (Go.Value.string ⟨#[]⟩)))]
def zc9f:List am:=[Qa 3 0,
 Qo 4 (.call po [(t 3)]),
 Qo 5 (.bin .add (.const (Go.Value.string ⟨#[115,101,101,100]⟩)) (t 4)),
 Qa 2 5]
def zcid:TC:=(.seq (.ops zc9e) (.clean [0] (.seq (.ops zc9f) (.ret [2]))))
def zcil:TFn:=⟨6,zcid,[.tmp 2],false⟩
theorem zbql:type_of% (ai @zc9e.eq_1 (ai @zc9f.eq_1 (ai @zcid.eq_1 @zcil.eq_1))):=⟨rfl,rfl,rfl,rfl⟩
theorem zbqd:th Try.prog [] vo = some (6,zcid.erase,[.tmp 2]):=by kernel_rfl
def zc8d:List am:=[Qo 2 (.mov (.const (Go.Value.string ⟨#[]⟩)))]
def zc7l:List am:=[Qa 11 0,
 Qm 2 12 (.toBytes dv (t 11)),
 Qo 13 (.buildSl dv 1 1 [(.int .u8 0)] [(0,1,(.const (Go.Value.int Go.IntKind.u8 128)))]),
 Qo 14 (.append dv 1 1 (t 12) (t 13)),
 Qa 3 14]
def zc7m:List am:=[Qa 15 3,
 Qo 16 (.lenL (t 15)),
 Qo 17 (.bin .rem (t 16) (ci 64)),
 Qo 18 (.bin .neq (t 17) (ci 56))]
def zc7n:List am:=[Qa 19 3,
 Qo 20 (.buildSl dv 1 1 [(.int .u8 0)] [(0,1,(.const (Go.Value.int Go.IntKind.u8 0)))]),
 Qo 21 (.append dv 1 1 (t 19) (t 20)),
 Qa 3 21]
def zce2:TC:=(.seq (.seq (.ops zc7m) (.clean [0,3,18] (.cond (t 18) .skip (.exit 0)))) (.block 1 [0,3] (.ops zc7n)))
def zc7o:List am:=[Qa 22 0,
 Qo 23 (.lenS (t 22)),
 Qo 24 (.conv .u64 (t 23)),
 Qo 25 (.bin .mul (t 24) (.const (Go.Value.int Go.IntKind.u64 8))),
 Qa 4 25]
def zc7p:List am:=[Qo 5 (.mov (ci 0))]
def zc7q:List am:=[Qa 26 5,
 Qo 27 (.bin .lss (t 26) (ci 8))]
def zc7s:List am:=[Qa 30 3,
 Qa 31 4,
 Qa 32 5,
 Qo 33 (.bin .mul (ci 8) (t 32)),
 Qo 34 (.bin .sub (ci 56) (t 33)),
 Qo 35 (.conv .u64 (t 34)),
 Qo 36 (.bin .shr (t 31) (t 35)),
 Qo 37 (.conv .u8 (t 36)),
 Qo 38 (.buildSl dv 1 1 [(.int .u8 0)] [(0,1,(t 37))]),
 Qo 39 (.append dv 1 1 (t 30) (t 38)),
 Qa 3 39]
def zc7r:List am:=[Qa 28 5,
 Qo 29 (.bin .add (t 28) (ci 1)),
 Qa 5 29]
def zce3:TC:=(.seq (.seq (.ops zc7q) (.clean [3,4,5,27] (.cond (t 27) .skip (.exit 2)))) (.clean [3,4,5] (.seq (.block 3 [3,4,5] (.ops zc7s)) (.clean [3,4,5] (.ops zc7r)))))
def zc7t:List am:=[Qa 40 3,
 Qo 41 (.toStr (t 40)),
 Qa 6 41]
def zc9g:List am:=[Qo 42 (.build [(.int .u32 0),(.int .u32 0),(.int .u32 0),(.int .u32 0),(.int .u32 0),(.int .u32 0),(.int .u32 0),(.int .u32 0)] [(0,1,(.const (Go.Value.int Go.IntKind.u32 1779033703))),(1,1,(.const (Go.Value.int Go.IntKind.u32 3144134277))),(2,1,(.const (Go.Value.int Go.IntKind.u32 1013904242))),(3,1,(.const (Go.Value.int Go.IntKind.u32 2773480762))),(4,1,(.const (Go.Value.int Go.IntKind.u32 1359893119))),(5,1,(.const (Go.Value.int Go.IntKind.u32 2600822924))),(6,1,(.const (Go.Value.int Go.IntKind.u32 528734635))),(7,1,(.const (Go.Value.int Go.IntKind.u32 1541459225)))]),
 Qo 7 (.box gr 8 (.const (.agg #[(.int .u32 0),(.int .u32 0),(.int .u32 0),(.int .u32 0),(.int .u32 0),(.int .u32 0),(.int .u32 0),(.int .u32 0)]))),
 ⟨⟨none,.store 8 (t 7) (t 42),none⟩,0⟩]
def zc9h:List am:=[Qo 8 (.mov (ci 0))]
def zc9i:List am:=[Qa 43 8,
 Qa 44 6,
 Qo 45 (.lenS (t 44)),
 Qo 46 (.bin .lss (t 43) (t 45))]
def zc9k:List am:=[Qo 49 (.loadN 8 (t 7)),
 Qa 50 6,
 Qa 51 8,
 Qa 52 8,
 Qo 53 (.bin .add (t 52) (ci 64)),
 Qo 54 (.sliceStr (t 50) (some (t 51)) (some (t 53))),
 Qo 55 (.call zb8a [(t 49),(t 54)]),
 ⟨⟨none,.store 8 (t 7) (t 55),none⟩,0⟩]
def zc9j:List am:=[Qa 47 8,
 Qo 48 (.bin .add (t 47) (ci 64)),
 Qa 8 48]
def zce4:TC:=(.seq (.seq (.ops zc9i) (.clean [6,7,8,46] (.cond (t 46) .skip (.exit 4)))) (.clean [6,7,8] (.seq (.block 5 [6,7,8] (.draw (pl zc9k))) (.clean [6,7,8] (.ops zc9j)))))
def zc9l:List am:=[Qm 1 9 (.mov (.const (Go.Value.slice none 0 0)))]
def zc9m:List am:=[Qo 10 (.mov (ci 0))]
def zc9n:List am:=[Qa 56 10,
 Qo 57 (.bin .lss (t 56) (ci 8))]
def zc9p:List am:=[Qa 60 9,
 Qa 61 10,
 Qo 62 (.indexPtr 8 1 (t 7) (t 61)),
 Qb 63 62,
 Qo 64 (.bin .shr (t 63) (.const (Go.Value.int Go.IntKind.u64 24))),
 Qo 65 (.conv .u8 (t 64)),
 Qa 66 10,
 Qo 67 (.indexPtr 8 1 (t 7) (t 66)),
 Qb 68 67,
 Qo 69 (.bin .shr (t 68) (.const (Go.Value.int Go.IntKind.u64 16))),
 Qo 70 (.conv .u8 (t 69)),
 Qa 71 10,
 Qo 72 (.indexPtr 8 1 (t 7) (t 71)),
 Qb 73 72,
 Qo 74 (.bin .shr (t 73) (.const (Go.Value.int Go.IntKind.u64 8))),
 Qo 75 (.conv .u8 (t 74)),
 Qa 76 10,
 Qo 77 (.indexPtr 8 1 (t 7) (t 76)),
 Qb 78 77,
 Qo 79 (.conv .u8 (t 78)),
 Qo 80 (.buildSl dv 1 4 [(.int .u8 0),(.int .u8 0),(.int .u8 0),(.int .u8 0)] [(0,1,(t 65)),(1,1,(t 70)),(2,1,(t 75)),(3,1,(t 79))]),
 Qo 81 (.append dv 1 1 (t 60) (t 80)),
 Qa 9 81]
def zc9o:List am:=[Qa 58 10,
 Qo 59 (.bin .add (t 58) (ci 1)),
 Qa 10 59]
def zce5:TC:=(.seq (.seq (.ops zc9n) (.clean [7,9,10,57] (.cond (t 57) .skip (.exit 6)))) (.clean [7,9,10] (.seq (.block 7 [7,9,10] (.draw (pl zc9p))) (.clean [7,9,10] (.ops zc9o)))))
def zc9q:List am:=[Qa 82 9,
 Qo 83 (.toStr (t 82)),
 Qa 2 83]
def zcmi:TC:=(.seq (.ops zc8d) (.clean [0] (.seq (.ops zc7l) (.clean [0,3] (.seq (.block 0 [0,3] (.clean [0,3] (.loop [0,3] zce2))) (.clean [0,3] (.seq (.ops zc7o) (.clean [3,4] (.seq (.seq (.ops zc7p) (.block 2 [3] (.clean [3,4,5] (.loop [3,4,5] zce3)))) (.clean [3] (.seq (.ops zc7t) (.clean [6] (.seq (.ops zc9g) (.clean [6,7] (.seq (.seq (.ops zc9h) (.block 4 [7] (.clean [6,7,8] (.loop [6,7,8] zce4)))) (.clean [7] (.seq (.ops zc9l) (.clean [7,9] (.seq (.seq (.ops zc9m) (.block 6 [9] (.clean [7,9,10] (.loop [7,9,10] zce5)))) (.clean [9] (.seq (.ops zc9q) (.ret [2]))))))))))))))))))))))
def zcl7:TFn:=⟨84,zcmi,[.tmp 2],false⟩
theorem mn:type_of% (ai @zc8d.eq_1 (ai @zc7l.eq_1 (ai @zc7m.eq_1 (ai @zc7n.eq_1 (ai @zc7o.eq_1 (ai @zc7p.eq_1 (ai @zc7q.eq_1 (ai @zc7s.eq_1 (ai @zc7r.eq_1 (ai @zc7t.eq_1 (ai @zc9g.eq_1 (ai @zc9h.eq_1 (ai @zc9i.eq_1 (ai @zc9k.eq_1 (ai @zc9j.eq_1 (ai @zc9l.eq_1 (ai @zc9m.eq_1 (ai @zc9n.eq_1 (ai @zc9p.eq_1 (ai @zc9o.eq_1 (ai @zc9q.eq_1 (ai @zcmi.eq_1 @zcl7.eq_1)))))))))))))))))))))):=⟨rfl,rfl,rfl,rfl,rfl,rfl,rfl,rfl,rfl,rfl,rfl,rfl,rfl,rfl,rfl,rfl,rfl,rfl,rfl,rfl,rfl,rfl,rfl⟩
theorem zbvy:th Try.prog [(14,⟨[0,1,2,3,4,5,6,7],[0,0,0,0,8,30,63,127],[],[],.nil⟩),(19,⟨[0,1,2,3,4,5,6,7,8,9,10,11,12,13,14,15,16,17,18,19,20,21,22],[0,0,2,6,14,30,0,64,192,448,960,0,2048,6144,14336,30720,0,65536,196608,458752,1048574,2097151,4194303],[],[],.nil⟩)] zb3x = some (84,zcmi.erase,[.tmp 2]):=by kernel_rfl
def zcwq:List am:=[Qo 2 (.box gr 8 (t 0)),
 Qo 4 (.box gr 8 (.const (.agg #[(.int .u32 0),(.int .u32 0),(.int .u32 0),(.int .u32 0),(.int .u32 0),(.int .u32 0),(.int .u32 0),(.int .u32 0)])))]
def zcwr:List am:=[Qo 5 (.box dq 64 (.const (.agg #[(.int .u32 0),(.int .u32 0),(.int .u32 0),(.int .u32 0),(.int .u32 0),(.int .u32 0),(.int .u32 0),(.int .u32 0),(.int .u32 0),(.int .u32 0),(.int .u32 0),(.int .u32 0),(.int .u32 0),(.int .u32 0),(.int .u32 0),(.int .u32 0),(.int .u32 0),(.int .u32 0),(.int .u32 0),(.int .u32 0),(.int .u32 0),(.int .u32 0),(.int .u32 0),(.int .u32 0),(.int .u32 0),(.int .u32 0),(.int .u32 0),(.int .u32 0),(.int .u32 0),(.int .u32 0),(.int .u32 0),(.int .u32 0),(.int .u32 0),(.int .u32 0),(.int .u32 0),(.int .u32 0),(.int .u32 0),(.int .u32 0),(.int .u32 0),(.int .u32 0),(.int .u32 0),(.int .u32 0),(.int .u32 0),(.int .u32 0),(.int .u32 0),(.int .u32 0),(.int .u32 0),(.int .u32 0),(.int .u32 0),(.int .u32 0),(.int .u32 0),(.int .u32 0),(.int .u32 0),(.int .u32 0),(.int .u32 0),(.int .u32 0),(.int .u32 0),(.int .u32 0),(.int .u32 0),(.int .u32 0),(.int .u32 0),(.int .u32 0),(.int .u32 0),(.int .u32 0)])))]
def zcws:List am:=[Qo 18 (.call zb8b []),
 Qo 6 (.box dq 64 (.const (.agg #[(.int .u32 0),(.int .u32 0),(.int .u32 0),(.int .u32 0),(.int .u32 0),(.int .u32 0),(.int .u32 0),(.int .u32 0),(.int .u32 0),(.int .u32 0),(.int .u32 0),(.int .u32 0),(.int .u32 0),(.int .u32 0),(.int .u32 0),(.int .u32 0),(.int .u32 0),(.int .u32 0),(.int .u32 0),(.int .u32 0),(.int .u32 0),(.int .u32 0),(.int .u32 0),(.int .u32 0),(.int .u32 0),(.int .u32 0),(.int .u32 0),(.int .u32 0),(.int .u32 0),(.int .u32 0),(.int .u32 0),(.int .u32 0),(.int .u32 0),(.int .u32 0),(.int .u32 0),(.int .u32 0),(.int .u32 0),(.int .u32 0),(.int .u32 0),(.int .u32 0),(.int .u32 0),(.int .u32 0),(.int .u32 0),(.int .u32 0),(.int .u32 0),(.int .u32 0),(.int .u32 0),(.int .u32 0),(.int .u32 0),(.int .u32 0),(.int .u32 0),(.int .u32 0),(.int .u32 0),(.int .u32 0),(.int .u32 0),(.int .u32 0),(.int .u32 0),(.int .u32 0),(.int .u32 0),(.int .u32 0),(.int .u32 0),(.int .u32 0),(.int .u32 0),(.int .u32 0)]))),
 ⟨⟨none,.store 64 (t 6) (t 18),none⟩,0⟩]
def zcwt:List am:=[Qo 7 (.mov (ci 0))]
def zcwu:List am:=[Qa 19 7,
 Qo 20 (.bin .lss (t 19) (ci 16))]
def zcww:List am:=[Qa 23 7,
 Qa 24 1,
 Qa 25 7,
 Qo 26 (.bin .mul (ci 4) (t 25)),
 Qo 27 (.indexStr (t 24) (t 26)),
 Qo 28 (.conv .u32 (t 27)),
 Qo 29 (.bin .shl (t 28) (.const (Go.Value.int Go.IntKind.u64 24))),
 Qa 30 1,
 Qa 31 7,
 Qo 32 (.bin .mul (ci 4) (t 31)),
 Qo 33 (.bin .add (t 32) (ci 1)),
 Qo 34 (.indexStr (t 30) (t 33)),
 Qo 35 (.conv .u32 (t 34)),
 Qo 36 (.bin .shl (t 35) (.const (Go.Value.int Go.IntKind.u64 16))),
 Qo 37 (.bin .or (t 29) (t 36)),
 Qa 38 1,
 Qa 39 7,
 Qo 40 (.bin .mul (ci 4) (t 39)),
 Qo 41 (.bin .add (t 40) (ci 2)),
 Qo 42 (.indexStr (t 38) (t 41)),
 Qo 43 (.conv .u32 (t 42)),
 Qo 44 (.bin .shl (t 43) (.const (Go.Value.int Go.IntKind.u64 8))),
 Qo 45 (.bin .or (t 37) (t 44)),
 Qa 46 1,
 Qa 47 7,
 Qo 48 (.bin .mul (ci 4) (t 47)),
 Qo 49 (.bin .add (t 48) (ci 3)),
 Qo 50 (.indexStr (t 46) (t 49)),
 Qo 51 (.conv .u32 (t 50)),
 Qo 52 (.bin .or (t 45) (t 51)),
 Qo 53 (.indexPtr 64 1 (t 5) (t 23)),
 ⟨⟨none,.store 1 (t 53) (t 52),none⟩,0⟩]
def zcwv:List am:=[Qa 21 7,
 Qo 22 (.bin .add (t 21) (ci 1)),
 Qa 7 22]
def zcff:TC:=(.seq (.seq (.ops zcwu) (.clean [1,2,4,5,6,7,20] (.cond (t 20) .skip (.exit 0)))) (.clean [1,2,4,5,6,7] (.seq (.block 1 [1,2,4,5,6,7] (.draw (pl zcww))) (.clean [1,2,4,5,6,7] (.ops zcwv)))))
def zcwx:List am:=[Qo 8 (.mov (ci 16))]
def zcwy:List am:=[Qa 54 8,
 Qo 55 (.bin .lss (t 54) (ci 64))]
def zcx1:List am:=[Qa 58 8,
 Qo 59 (.bin .sub (t 58) (ci 15)),
 Qo 60 (.indexPtr 64 1 (t 5) (t 59)),
 Qb 61 60,
 Qa 63 8,
 Qo 64 (.bin .sub (t 63) (ci 15)),
 Qo 65 (.indexPtr 64 1 (t 5) (t 64)),
 Qb 66 65,
 Qa 69 8,
 Qo 70 (.bin .sub (t 69) (ci 15)),
 Qo 71 (.indexPtr 64 1 (t 5) (t 70)),
 Qb 72 71,
 Qo 73 (.bin .shr (t 72) (.const (Go.Value.int Go.IntKind.u64 3))),
 Qo 62 (.call mv [(t 61),(.const (Go.Value.int Go.IntKind.u64 7))]),
 Qo 67 (.call mv [(t 66),(.const (Go.Value.int Go.IntKind.u64 18))]),
 Qo 68 (.bin .xor (t 62) (t 67)),
 Qo 74 (.bin .xor (t 68) (t 73)),
 Qa 9 74]
def zcx2:List am:=[Qa 75 8,
 Qo 76 (.bin .sub (t 75) (ci 2)),
 Qo 77 (.indexPtr 64 1 (t 5) (t 76)),
 Qb 78 77,
 Qa 80 8,
 Qo 81 (.bin .sub (t 80) (ci 2)),
 Qo 82 (.indexPtr 64 1 (t 5) (t 81)),
 Qb 83 82,
 Qa 86 8,
 Qo 87 (.bin .sub (t 86) (ci 2)),
 Qo 88 (.indexPtr 64 1 (t 5) (t 87)),
 Qb 89 88,
 Qo 90 (.bin .shr (t 89) (.const (Go.Value.int Go.IntKind.u64 10))),
 Qo 79 (.call mv [(t 78),(.const (Go.Value.int Go.IntKind.u64 17))]),
 Qo 84 (.call mv [(t 83),(.const (Go.Value.int Go.IntKind.u64 19))]),
 Qo 85 (.bin .xor (t 79) (t 84)),
 Qo 91 (.bin .xor (t 85) (t 90)),
 Qa 10 91]
def zcx3:List am:=[Qa 92 8,
 Qa 93 8,
 Qo 94 (.bin .sub (t 93) (ci 16)),
 Qo 95 (.indexPtr 64 1 (t 5) (t 94)),
 Qb 96 95,
 Qa 97 9,
 Qo 98 (.bin .add (t 96) (t 97)),
 Qa 99 8,
 Qo 100 (.bin .sub (t 99) (ci 7)),
 Qo 101 (.indexPtr 64 1 (t 5) (t 100)),
 Qb 102 101,
 Qo 103 (.bin .add (t 98) (t 102)),
 Qa 104 10,
 Qo 105 (.bin .add (t 103) (t 104)),
 Qo 106 (.indexPtr 64 1 (t 5) (t 92)),
 ⟨⟨none,.store 1 (t 106) (t 105),none⟩,0⟩]
def zcvz:List am:=[Qa 56 8,
 Qo 57 (.bin .add (t 56) (ci 1)),
 Qa 8 57]
def zcfg:TC:=(.seq (.seq (.ops zcwy) (.clean [2,4,5,6,8,55] (.cond (t 55) .skip (.exit 2)))) (.clean [2,4,5,6,8] (.seq (.block 3 [2,4,5,6,8] (.seq (.draw (pl zcx1)) (.clean [2,4,5,6,8,9] (.seq (.draw (pl zcx2)) (.clean [2,4,5,6,8,9,10] (.draw (pl zcx3))))))) (.clean [2,4,5,6,8] (.ops zcvz)))))
def zcx4:List am:=[Qo 107 (.loadN 8 (t 2)),
 Qo 11 (.box gr 8 (.const (.agg #[(.int .u32 0),(.int .u32 0),(.int .u32 0),(.int .u32 0),(.int .u32 0),(.int .u32 0),(.int .u32 0),(.int .u32 0)]))),
 ⟨⟨none,.store 8 (t 11) (t 107),none⟩,0⟩]
def zcx5:List am:=[Qo 12 (.mov (ci 0))]
def zcx6:List am:=[Qa 108 12,
 Qo 109 (.bin .lss (t 108) (ci 64))]
def zcx8:List am:=[Qo 112 (.indexPtr 8 1 (t 11) (ci 4)),
 Qb 113 112,
 Qo 115 (.indexPtr 8 1 (t 11) (ci 4)),
 Qb 116 115,
 Qo 119 (.indexPtr 8 1 (t 11) (ci 4)),
 Qb 120 119,
 Qo 114 (.call mv [(t 113),(.const (Go.Value.int Go.IntKind.u64 6))]),
 Qo 117 (.call mv [(t 116),(.const (Go.Value.int Go.IntKind.u64 11))]),
 Qo 118 (.bin .xor (t 114) (t 117)),
 Qo 121 (.call mv [(t 120),(.const (Go.Value.int Go.IntKind.u64 25))]),
 Qo 122 (.bin .xor (t 118) (t 121)),
 Qa 13 122]
def zcx9:List am:=[Qo 123 (.indexPtr 8 1 (t 11) (ci 7)),
 Qb 124 123,
 Qa 125 13,
 Qo 126 (.bin .add (t 124) (t 125)),
 Qo 127 (.indexPtr 8 1 (t 11) (ci 4)),
 Qb 128 127,
 Qo 129 (.indexPtr 8 1 (t 11) (ci 5)),
 Qb 130 129,
 Qo 131 (.bin .and (t 128) (t 130)),
 Qo 132 (.indexPtr 8 1 (t 11) (ci 4)),
 Qb 133 132,
 Qo 134 (.un .xor (t 133)),
 Qo 135 (.indexPtr 8 1 (t 11) (ci 6)),
 Qb 136 135,
 Qo 137 (.bin .and (t 134) (t 136)),
 Qo 138 (.bin .xor (t 131) (t 137)),
 Qo 139 (.bin .add (t 126) (t 138)),
 Qa 140 12,
 Qo 141 (.indexPtr 64 1 (t 6) (t 140)),
 Qb 142 141,
 Qo 143 (.bin .add (t 139) (t 142)),
 Qa 144 12,
 Qo 145 (.indexPtr 64 1 (t 5) (t 144)),
 Qb 146 145,
 Qo 147 (.bin .add (t 143) (t 146)),
 Qa 14 147]
def zcya:List am:=[Qo 148 (.indexPtr 8 1 (t 11) (ci 0)),
 Qb 149 148,
 Qo 151 (.indexPtr 8 1 (t 11) (ci 0)),
 Qb 152 151,
 Qo 155 (.indexPtr 8 1 (t 11) (ci 0)),
 Qb 156 155,
 Qo 150 (.call mv [(t 149),(.const (Go.Value.int Go.IntKind.u64 2))]),
 Qo 153 (.call mv [(t 152),(.const (Go.Value.int Go.IntKind.u64 13))]),
 Qo 154 (.bin .xor (t 150) (t 153)),
 Qo 157 (.call mv [(t 156),(.const (Go.Value.int Go.IntKind.u64 22))]),
 Qo 158 (.bin .xor (t 154) (t 157)),
 Qa 15 158]
def zcyb:List am:=[Qa 159 15,
 Qo 160 (.indexPtr 8 1 (t 11) (ci 0)),
 Qb 161 160,
 Qo 162 (.indexPtr 8 1 (t 11) (ci 1)),
 Qb 163 162,
 Qo 164 (.bin .and (t 161) (t 163)),
 Qo 165 (.indexPtr 8 1 (t 11) (ci 0)),
 Qb 166 165,
 Qo 167 (.indexPtr 8 1 (t 11) (ci 2)),
 Qb 168 167,
 Qo 169 (.bin .and (t 166) (t 168)),
 Qo 170 (.bin .xor (t 164) (t 169)),
 Qo 171 (.indexPtr 8 1 (t 11) (ci 1)),
 Qb 172 171,
 Qo 173 (.indexPtr 8 1 (t 11) (ci 2)),
 Qb 174 173,
 Qo 175 (.bin .and (t 172) (t 174)),
 Qo 176 (.bin .xor (t 170) (t 175)),
 Qo 177 (.bin .add (t 159) (t 176)),
 Qa 16 177]
def zcyc:List am:=[Qa 178 14,
 Qa 179 16,
 Qo 180 (.bin .add (t 178) (t 179)),
 Qo 181 (.indexPtr 8 1 (t 11) (ci 0)),
 Qb 182 181,
 Qo 183 (.indexPtr 8 1 (t 11) (ci 1)),
 Qb 184 183,
 Qo 185 (.indexPtr 8 1 (t 11) (ci 2)),
 Qb 186 185,
 Qo 187 (.indexPtr 8 1 (t 11) (ci 3)),
 Qb 188 187,
 Qa 189 14,
 Qo 190 (.bin .add (t 188) (t 189)),
 Qo 191 (.indexPtr 8 1 (t 11) (ci 4)),
 Qb 192 191,
 Qo 193 (.indexPtr 8 1 (t 11) (ci 5)),
 Qb 194 193,
 Qo 195 (.indexPtr 8 1 (t 11) (ci 6)),
 Qb 196 195,
 Qo 197 (.build [(.int .u32 0),(.int .u32 0),(.int .u32 0),(.int .u32 0),(.int .u32 0),(.int .u32 0),(.int .u32 0),(.int .u32 0)] [(0,1,(t 180)),(1,1,(t 182)),(2,1,(t 184)),(3,1,(t 186)),(4,1,(t 190)),(5,1,(t 192)),(6,1,(t 194)),(7,1,(t 196))]),
 ⟨⟨none,.store 8 (t 11) (t 197),none⟩,0⟩]
def zcx7:List am:=[Qa 110 12,
 Qo 111 (.bin .add (t 110) (ci 1)),
 Qa 12 111]
def zcfh:TC:=(.seq (.seq (.ops zcx6) (.clean [2,4,5,6,11,12,109] (.cond (t 109) .skip (.exit 4)))) (.clean [2,4,5,6,11,12] (.seq (.block 5 [2,4,5,6,11,12] (.seq (.draw (pl zcx8)) (.clean [2,4,5,6,11,12,13] (.seq (.draw (pl zcx9)) (.clean [2,4,5,6,11,12,14] (.seq (.draw (pl zcya)) (.clean [2,4,5,6,11,12,14,15] (.seq (.ops zcyb) (.clean [2,4,5,6,11,12,14,16] (.ops zcyc)))))))))) (.clean [2,4,5,6,11,12] (.ops zcx7)))))
def zcyd:List am:=[Qo 17 (.mov (ci 0))]
def zcye:List am:=[Qa 198 17,
 Qo 199 (.bin .lss (t 198) (ci 8))]
def zczd:List am:=[Qa 202 17,
 Qa 203 17,
 Qo 204 (.indexPtr 8 1 (t 2) (t 203)),
 Qb 205 204,
 Qa 206 17,
 Qo 207 (.indexPtr 8 1 (t 11) (t 206)),
 Qb 208 207,
 Qo 209 (.bin .add (t 205) (t 208)),
 Qo 210 (.indexPtr 8 1 (t 2) (t 202)),
 ⟨⟨none,.store 1 (t 210) (t 209),none⟩,0⟩]
def zczc:List am:=[Qa 200 17,
 Qo 201 (.bin .add (t 200) (ci 1)),
 Qa 17 201]
def zcfi:TC:=(.seq (.seq (.ops zcye) (.clean [2,4,11,17,199] (.cond (t 199) .skip (.exit 6)))) (.clean [2,4,11,17] (.seq (.block 7 [2,4,11,17] (.draw (pl zczd))) (.clean [2,4,11,17] (.ops zczc)))))
def zcze:List am:=[Qo 211 (.loadN 8 (t 2)),
 ⟨⟨none,.store 8 (t 4) (t 211),none⟩,0⟩]
def zcja:TC:=(.seq (.ops zcwq) (.clean [1,2,4] (.seq (.ops zcwr) (.clean [1,2,4,5] (.seq (.ops zcws) (.clean [1,2,4,5,6] (.seq (.seq (.ops zcwt) (.block 0 [2,4,5,6] (.clean [1,2,4,5,6,7] (.loop [1,2,4,5,6,7] zcff)))) (.clean [2,4,5,6] (.seq (.seq (.ops zcwx) (.block 2 [2,4,5,6] (.clean [2,4,5,6,8] (.loop [2,4,5,6,8] zcfg)))) (.clean [2,4,5,6] (.seq (.ops zcx4) (.clean [2,4,5,6,11] (.seq (.seq (.ops zcx5) (.block 4 [2,4,11] (.clean [2,4,5,6,11,12] (.loop [2,4,5,6,11,12] zcfh)))) (.clean [2,4,11] (.seq (.seq (.ops zcyd) (.block 6 [2,4] (.clean [2,4,11,17] (.loop [2,4,11,17] zcfi)))) (.clean [2,4] (.seq (.ops zcze) (.ret [4]))))))))))))))))))
def zciv:TFn:=⟨212,zcja,[.cellN 4 8],false⟩
theorem mq:type_of% (ai @zcwq.eq_1 (ai @zcwr.eq_1 (ai @zcws.eq_1 (ai @zcwt.eq_1 (ai @zcwu.eq_1 (ai @zcww.eq_1 (ai @zcwv.eq_1 (ai @zcwx.eq_1 (ai @zcwy.eq_1 (ai @zcx1.eq_1 (ai @zcx2.eq_1 (ai @zcx3.eq_1 (ai @zcvz.eq_1 (ai @zcx4.eq_1 (ai @zcx5.eq_1 (ai @zcx6.eq_1 (ai @zcx8.eq_1 (ai @zcx9.eq_1 (ai @zcya.eq_1 (ai @zcyb.eq_1 (ai @zcyc.eq_1 (ai @zcx7.eq_1 (ai @zcyd.eq_1 (ai @zcye.eq_1 (ai @zczd.eq_1 (ai @zczc.eq_1 (ai @zcze.eq_1 (ai @zcja.eq_1 @zciv.eq_1)))))))))))))))))))))))))))):=⟨rfl,rfl,rfl,rfl,rfl,rfl,rfl,rfl,rfl,rfl,rfl,rfl,rfl,rfl,rfl,rfl,rfl,rfl,rfl,rfl,rfl,rfl,rfl,rfl,rfl,rfl,rfl,rfl,rfl⟩
theorem zdci:th Try.prog [(6,⟨[0,1,2,3,4,5,6,7,8,9,10,11,12,13,14,15,16,17,18,19,20,21,22,23,24,25,26,27,28,29,30,31],[0,0,0,4,14,30,62,0,0,256,768,1920,3968,8064,16382,0,0,65536,196608,491520,1015808,2064384,4194302,0,0,16777216,50331648,125829120,260046848,536870910,1073741823,2147483647],[],[],.nil⟩),(10,⟨[0,1,2,3,5,6,7,8,11,12,13,14,15,4,9,10,16,17],[0,1,3,7,15,0,32,96,224,511,1023,0,2048,6144,14336,30720,65535,131071],[],[],.nil⟩),(11,⟨[0,1,2,3,5,6,7,8,11,12,13,14,15,4,9,10,16,17],[0,1,3,7,15,0,32,96,224,511,1023,0,2048,6144,14336,30720,65535,131071],[],[],.nil⟩),(12,⟨[0,1,2,3,4,5,6,7,8,9,10,11,12,13,14,15],[0,0,2,6,14,0,62,0,128,384,896,2046,0,8190,16383,32767],[],[],.nil⟩),(17,⟨[0,1,3,4,7,8,2,5,6,9,10,11],[0,1,3,0,8,31,63,0,128,447,1023,2047],[],[],.nil⟩),(18,⟨[0,1,2,3,4,5,6,7,8,9,10,11,12,13,14,15,16,17,18,19,20,21,22,23,24,25],[0,1,0,7,0,16,0,64,240,0,512,1536,0,4096,15872,32752,65535,0,131072,393216,1048575,0,2097152,6291456,16777215,33554431],[],[],.nil⟩),(19,⟨[0,1,3,4,7,8,2,5,6,9,10,11],[0,1,3,0,8,31,63,0,128,447,1023,2047],[],[],.nil⟩),(25,⟨[0,1,2,3,4,5,6,7,8,9],[0,0,2,6,0,16,48,126,255,511],[],[],.nil⟩)] zb8a = some (212,zcja.erase,[.cellN 4 8]):=by kernel_rfl
def zcv0:List am:=[Qo 0 (.box dq 64 (.const (.agg #[(.int .u32 0),(.int .u32 0),(.int .u32 0),(.int .u32 0),(.int .u32 0),(.int .u32 0),(.int .u32 0),(.int .u32 0),(.int .u32 0),(.int .u32 0),(.int .u32 0),(.int .u32 0),(.int .u32 0),(.int .u32 0),(.int .u32 0),(.int .u32 0),(.int .u32 0),(.int .u32 0),(.int .u32 0),(.int .u32 0),(.int .u32 0),(.int .u32 0),(.int .u32 0),(.int .u32 0),(.int .u32 0),(.int .u32 0),(.int .u32 0),(.int .u32 0),(.int .u32 0),(.int .u32 0),(.int .u32 0),(.int .u32 0),(.int .u32 0),(.int .u32 0),(.int .u32 0),(.int .u32 0),(.int .u32 0),(.int .u32 0),(.int .u32 0),(.int .u32 0),(.int .u32 0),(.int .u32 0),(.int .u32 0),(.int .u32 0),(.int .u32 0),(.int .u32 0),(.int .u32 0),(.int .u32 0),(.int .u32 0),(.int .u32 0),(.int .u32 0),(.int .u32 0),(.int .u32 0),(.int .u32 0),(.int .u32 0),(.int .u32 0),(.int .u32 0),(.int .u32 0),(.int .u32 0),(.int .u32 0),(.int .u32 0),(.int .u32 0),(.int .u32 0),(.int .u32 0)])))]
def zcv1:List am:=[Qo 1 (.build [(.int .u32 0),(.int .u32 0),(.int .u32 0),(.int .u32 0),(.int .u32 0),(.int .u32 0),(.int .u32 0),(.int .u32 0),(.int .u32 0),(.int .u32 0),(.int .u32 0),(.int .u32 0),(.int .u32 0),(.int .u32 0),(.int .u32 0),(.int .u32 0),(.int .u32 0),(.int .u32 0),(.int .u32 0),(.int .u32 0),(.int .u32 0),(.int .u32 0),(.int .u32 0),(.int .u32 0),(.int .u32 0),(.int .u32 0),(.int .u32 0),(.int .u32 0),(.int .u32 0),(.int .u32 0),(.int .u32 0),(.int .u32 0),(.int .u32 0),(.int .u32 0),(.int .u32 0),(.int .u32 0),(.int .u32 0),(.int .u32 0),(.int .u32 0),(.int .u32 0),(.int .u32 0),(.int .u32 0),(.int .u32 0),(.int .u32 0),(.int .u32 0),(.int .u32 0),(.int .u32 0),(.int .u32 0),(.int .u32 0),(.int .u32 0),(.int .u32 0),(.int .u32 0),(.int .u32 0),(.int .u32 0),(.int .u32 0),(.int .u32 0),(.int .u32 0),(.int .u32 0),(.int .u32 0),(.int .u32 0),(.int .u32 0),(.int .u32 0),(.int .u32 0),(.int .u32 0)] [(0,1,(.const (Go.Value.int Go.IntKind.u32 1116352408))),(1,1,(.const (Go.Value.int Go.IntKind.u32 1899447441))),(2,1,(.const (Go.Value.int Go.IntKind.u32 3049323471))),(3,1,(.const (Go.Value.int Go.IntKind.u32 3921009573))),(4,1,(.const (Go.Value.int Go.IntKind.u32 961987163))),(5,1,(.const (Go.Value.int Go.IntKind.u32 1508970993))),(6,1,(.const (Go.Value.int Go.IntKind.u32 2453635748))),(7,1,(.const (Go.Value.int Go.IntKind.u32 2870763221))),(8,1,(.const (Go.Value.int Go.IntKind.u32 3624381080))),(9,1,(.const (Go.Value.int Go.IntKind.u32 310598401))),(10,1,(.const (Go.Value.int Go.IntKind.u32 607225278))),(11,1,(.const (Go.Value.int Go.IntKind.u32 1426881987))),(12,1,(.const (Go.Value.int Go.IntKind.u32 1925078388))),(13,1,(.const (Go.Value.int Go.IntKind.u32 2162078206))),(14,1,(.const (Go.Value.int Go.IntKind.u32 2614888103))),(15,1,(.const (Go.Value.int Go.IntKind.u32 3248222580))),(16,1,(.const (Go.Value.int Go.IntKind.u32 3835390401))),(17,1,(.const (Go.Value.int Go.IntKind.u32 4022224774))),(18,1,(.const (Go.Value.int Go.IntKind.u32 264347078))),(19,1,(.const (Go.Value.int Go.IntKind.u32 604807628))),(20,1,(.const (Go.Value.int Go.IntKind.u32 770255983))),(21,1,(.const (Go.Value.int Go.IntKind.u32 1249150122))),(22,1,(.const (Go.Value.int Go.IntKind.u32 1555081692))),(23,1,(.const (Go.Value.int Go.IntKind.u32 1996064986))),(24,1,(.const (Go.Value.int Go.IntKind.u32 2554220882))),(25,1,(.const (Go.Value.int Go.IntKind.u32 2821834349))),(26,1,(.const (Go.Value.int Go.IntKind.u32 2952996808))),(27,1,(.const (Go.Value.int Go.IntKind.u32 3210313671))),(28,1,(.const (Go.Value.int Go.IntKind.u32 3336571891))),(29,1,(.const (Go.Value.int Go.IntKind.u32 3584528711))),(30,1,(.const (Go.Value.int Go.IntKind.u32 113926993))),(31,1,(.const (Go.Value.int Go.IntKind.u32 338241895))),(32,1,(.const (Go.Value.int Go.IntKind.u32 666307205))),(33,1,(.const (Go.Value.int Go.IntKind.u32 773529912))),(34,1,(.const (Go.Value.int Go.IntKind.u32 1294757372))),(35,1,(.const (Go.Value.int Go.IntKind.u32 1396182291))),(36,1,(.const (Go.Value.int Go.IntKind.u32 1695183700))),(37,1,(.const (Go.Value.int Go.IntKind.u32 1986661051))),(38,1,(.const (Go.Value.int Go.IntKind.u32 2177026350))),(39,1,(.const (Go.Value.int Go.IntKind.u32 2456956037))),(40,1,(.const (Go.Value.int Go.IntKind.u32 2730485921))),(41,1,(.const (Go.Value.int Go.IntKind.u32 2820302411))),(42,1,(.const (Go.Value.int Go.IntKind.u32 3259730800))),(43,1,(.const (Go.Value.int Go.IntKind.u32 3345764771))),(44,1,(.const (Go.Value.int Go.IntKind.u32 3516065817))),(45,1,(.const (Go.Value.int Go.IntKind.u32 3600352804))),(46,1,(.const (Go.Value.int Go.IntKind.u32 4094571909))),(47,1,(.const (Go.Value.int Go.IntKind.u32 275423344))),(48,1,(.const (Go.Value.int Go.IntKind.u32 430227734))),(49,1,(.const (Go.Value.int Go.IntKind.u32 506948616))),(50,1,(.const (Go.Value.int Go.IntKind.u32 659060556))),(51,1,(.const (Go.Value.int Go.IntKind.u32 883997877))),(52,1,(.const (Go.Value.int Go.IntKind.u32 958139571))),(53,1,(.const (Go.Value.int Go.IntKind.u32 1322822218))),(54,1,(.const (Go.Value.int Go.IntKind.u32 1537002063))),(55,1,(.const (Go.Value.int Go.IntKind.u32 1747873779))),(56,1,(.const (Go.Value.int Go.IntKind.u32 1955562222))),(57,1,(.const (Go.Value.int Go.IntKind.u32 2024104815))),(58,1,(.const (Go.Value.int Go.IntKind.u32 2227730452))),(59,1,(.const (Go.Value.int Go.IntKind.u32 2361852424))),(60,1,(.const (Go.Value.int Go.IntKind.u32 2428436474))),(61,1,(.const (Go.Value.int Go.IntKind.u32 2756734187))),(62,1,(.const (Go.Value.int Go.IntKind.u32 3204031479))),(63,1,(.const (Go.Value.int Go.IntKind.u32 3329325298)))]),
 ⟨⟨none,.store 64 (t 0) (t 1),none⟩,0⟩]
def zcjb:TC:=(.seq (.ops zcv0) (.clean [0] (.seq (.ops zcv1) (.ret [0]))))
def zciw:TFn:=⟨2,zcjb,[.cellN 0 64],false⟩
theorem zdcv:type_of% (ai @zcv0.eq_1 (ai @zcv1.eq_1 (ai @zcjb.eq_1 @zciw.eq_1))):=⟨rfl,rfl,rfl,rfl⟩
theorem zdcj:th Try.prog [] zb8b = some (2,zcjb.erase,[.cellN 0 64]):=by kernel_rfl
def zc9r:List am:=[Qo 4 (.mov (.const (Go.Value.int Go.IntKind.u32 0)))]
def zc9s:List am:=[Qa 5 0,
 Qa 6 1,
 Qo 7 (.bin .shr (t 5) (t 6)),
 Qa 8 0,
 Qa 9 1,
 Qo 10 (.bin .sub (.const (Go.Value.int Go.IntKind.u64 32)) (t 9)),
 Qo 11 (.bin .shl (t 8) (t 10)),
 Qo 12 (.bin .or (t 7) (t 11)),
 Qa 4 12]
def zcif:TC:=(.seq (.ops zc9r) (.clean [0,1] (.seq (.ops zc9s) (.ret [4]))))
def zcin:TFn:=⟨13,zcif,[.tmp 4],false⟩
theorem zbqk:type_of% (ai @zc9r.eq_1 (ai @zc9s.eq_1 (ai @zcif.eq_1 @zcin.eq_1))):=⟨rfl,rfl,rfl,rfl⟩
theorem zbqb:th Try.prog [] mv = some (13,zcif.erase,[.tmp 4]):=by kernel_rfl
def zczf:List am:=[Qo 4 (.mov (.const (Go.Value.string ⟨#[]⟩)))]
def zczg:List am:=[Qa 7 1,
 Qo 8 (.bin .lss (t 7) (ci 0)),
 Qa 9 8,
 Qf 9 10 (.mov (t 1)),
 Qf 9 11 (.bin .gtr (t 10) (ci 255)),
 Qo 12 (.pick (t 9) QT (t 11))]
def zczh:List am:=[Qo 4 (.mov (.const (Go.Value.string ⟨#[]⟩)))]
def zczi:List am:=[Qo 5 (.mov (.const (Go.Value.string ⟨#[]⟩)))]
def zczj:List am:=[Qo 6 (.mov (ci 0))]
def zczk:List am:=[Qa 13 6,
 Qo 14 (.bin .lss (t 13) (ci 16))]
def zcym:List am:=[Qa 17 5,
 Qa 18 0,
 Qa 19 1,
 Qa 20 6,
 Qo 21 (.call zb36 [(t 18),(t 19),(t 20),(ci 0)]),
 Qo 22 (.call uw [(t 21)]),
 Qo 23 (.bin .add (t 17) (t 22)),
 Qa 24 0,
 Qa 25 1,
 Qa 26 6,
 Qo 27 (.call zb36 [(t 24),(t 25),(t 26),(ci 1)]),
 Qo 28 (.call uw [(t 27)]),
 Qo 29 (.bin .add (t 23) (t 28)),
 Qa 5 29]
def zczl:List am:=[Qa 15 6,
 Qo 16 (.bin .add (t 15) (ci 1)),
 Qa 6 16]
def zcfl:TC:=(.seq (.seq (.ops zczk) (.clean [0,1,5,6,14] (.cond (t 14) .skip (.exit 0)))) (.clean [0,1,5,6] (.seq (.block 1 [0,1,5,6] (.ops zcym)) (.clean [0,1,5,6] (.ops zczl)))))
def zcyn:List am:=[Qa 30 5,
 Qo 31 (.call uw [(t 30)]),
 Qa 4 31]
def zcjx:TC:=(.seq (.ops zczf) (.clean [0,1] (.seq (.seq (.ops zczg) (.clean [0,1,12] (.cond (t 12) (.seq (.ops zczh) (.ret [4])) .skip))) (.clean [0,1] (.seq (.ops zczi) (.clean [0,1,5] (.seq (.seq (.ops zczj) (.block 0 [5] (.clean [0,1,5,6] (.loop [0,1,5,6] zcfl)))) (.clean [5] (.seq (.ops zcyn) (.ret [4]))))))))))
def zcjo:TFn:=⟨32,zcjx,[.tmp 4],false⟩
theorem zb8l:type_of% (ai @zczf.eq_1 (ai @zczg.eq_1 (ai @zczh.eq_1 (ai @zczi.eq_1 (ai @zczj.eq_1 (ai @zczk.eq_1 (ai @zcym.eq_1 (ai @zczl.eq_1 (ai @zcyn.eq_1 (ai @zcjx.eq_1 @zcjo.eq_1)))))))))):=⟨rfl,rfl,rfl,rfl,rfl,rfl,rfl,rfl,rfl,rfl,rfl⟩
theorem zdds:th Try.prog [] zb8f = some (32,zcjx.erase,[.tmp 4]):=by kernel_rfl
def zcvp:List am:=[Qo 2 (.mov (.const (Go.Value.string ⟨#[]⟩)))]
def zcwp:List am:=[Qa 3 0,
 Qo 4 (.call zb3x [(t 3)]),
 Qo 5 (.sliceStr (t 4) none (some (ci 16))),
 Qa 2 5]
def zci9:TC:=(.seq (.ops zcvp) (.clean [0] (.seq (.ops zcwp) (.ret [2]))))
def zciu:TFn:=⟨6,zci9,[.tmp 2],false⟩
theorem zdcu:type_of% (ai @zcvp.eq_1 (ai @zcwp.eq_1 (ai @zci9.eq_1 @zciu.eq_1))):=⟨rfl,rfl,rfl,rfl⟩
theorem zdch:th Try.prog [] uw = some (6,zci9.erase,[.tmp 2]):=by kernel_rfl
def zcv2:List am:=[Qo 8 (.mov (.const (Go.Value.string ⟨#[]⟩)))]
def zcv3:List am:=[Qa 9 1,
 Qo 10 (.bin .lss (t 9) (ci 0)),
 Qa 11 10,
 Qf 11 12 (.mov (t 1)),
 Qf 11 13 (.bin .gtr (t 12) (ci 255)),
 Qo 14 (.pick (t 11) QT (t 13)),
 Qa 15 14,
 Qf 15 16 (.mov (t 2)),
 Qf 15 17 (.bin .lss (t 16) (ci 0)),
 Qo 18 (.pick (t 15) QT (t 17)),
 Qa 19 18,
 Qf 19 20 (.mov (t 2)),
 Qf 19 21 (.bin .geq (t 20) (ci 16)),
 Qo 22 (.pick (t 19) QT (t 21)),
 Qa 23 22,
 Qf 23 24 (.mov (t 3)),
 Qf 23 25 (.bin .lss (t 24) (ci 0)),
 Qo 26 (.pick (t 23) QT (t 25)),
 Qa 27 26,
 Qf 27 28 (.mov (t 3)),
 Qf 27 29 (.bin .gtr (t 28) (ci 1)),
 Qo 30 (.pick (t 27) QT (t 29))]
def zcv4:List am:=[Qo 8 (.mov (.const (Go.Value.string ⟨#[]⟩)))]
def zcv5:List am:=[Qa 31 0,
 Qa 32 1,
 Qo 33 (.conv .u8 (t 32)),
 Qa 34 2,
 Qo 35 (.conv .u8 (t 34)),
 Qa 36 3,
 Qo 37 (.conv .u8 (t 36)),
 Qo 38 (.buildSl dv 1 3 [(.int .u8 0),(.int .u8 0),(.int .u8 0)] [(0,1,(t 33)),(1,1,(t 35)),(2,1,(t 37))]),
 Qo 39 (.toStr (t 38)),
 Qo 40 (.bin .add (t 31) (t 39)),
 Qo 41 (.call uw [(t 40)]),
 Qa 8 41]
def zcjc:TC:=(.seq (.ops zcv2) (.clean [0,1,2,3] (.seq (.seq (.ops zcv3) (.clean [0,1,2,3,30] (.cond (t 30) (.seq (.ops zcv4) (.ret [8])) .skip))) (.clean [0,1,2,3] (.seq (.ops zcv5) (.ret [8]))))))
def zcix:TFn:=⟨42,zcjc,[.tmp 8],false⟩
theorem zb4a:type_of% (ai @zcv2.eq_1 (ai @zcv3.eq_1 (ai @zcv4.eq_1 (ai @zcv5.eq_1 (ai @zcjc.eq_1 @zcix.eq_1))))):=⟨rfl,rfl,rfl,rfl,rfl,rfl⟩
theorem zdck:th Try.prog [] zb36 = some (42,zcjc.erase,[.tmp 8]):=by kernel_rfl
def zc96:List am:=[Qo 6 (.mov (.const (Go.Value.slice none 0 0)))]
def zc97:List am:=[Qo 7 (.mov (.const (Go.Value.slice none 0 0)))]
def zc98:List am:=[Qo 8 (.mov (ci 0))]
def zc99:List am:=[Qa 12 8,
 Qa 13 0,
 Qo 14 (.bin .lss (t 12) (t 13))]
def zdab:List am:=[Qa 17 7,
 Qa 18 8,
 Qa 19 8,
 Qo 20 (.bin .add (t 19) (ci 1)),
 Qa 21 0,
 Qo 22 (.bin .rem (t 20) (t 21)),
 Qo 23 (.build [(.int .i64 0),(.int .i64 0),(.int .i64 0),(.string ⟨#[]⟩),(.int .i64 0)] [(0,1,(t 18)),(1,1,(t 22))]),
 Qo 24 (.buildSl r7 5 1 [(.int .i64 0),(.int .i64 0),(.int .i64 0),(.string ⟨#[]⟩),(.int .i64 0)] [(0,5,(t 23))]),
 Qm 1 25 (.append r7 5 48 (t 17) (t 24)),
 Qa 7 25]
def zdaa:List am:=[Qa 15 8,
 Qo 16 (.bin .add (t 15) (ci 1)),
 Qa 8 16]
def zb8q:TC:=(.seq (.seq (.ops zc99) (.clean [0,1,2,7,8,14] (.cond (t 14) .skip (.exit 0)))) (.clean [0,1,2,7,8] (.seq (.block 1 [0,1,2,7,8] (.ops zdab)) (.clean [0,1,2,7,8] (.ops zdaa)))))
def zdac:List am:=[Qo 9 (.mov (ci 0))]
def zdad:List am:=[Qa 26 9,
 Qa 27 0,
 Qo 28 (.bin .lss (t 26) (t 27))]
def zdaf:List am:=[Qo 10 (.mov (ci 0))]
def zcvv:List am:=[Qa 31 10,
 Qa 32 0,
 Qo 33 (.bin .lss (t 31) (t 32))]
def zcvx:List am:=[Qa 36 9,
 Qa 37 10,
 Qo 38 (.bin .eql (t 36) (t 37)),
 Qa 39 38,
 Qf 39 40 (.mov (t 10)),
 Qf 39 41 (.mov (t 9)),
 Qf 39 42 (.bin .add (t 41) (ci 1)),
 Qf 39 43 (.mov (t 0)),
 Qf 39 44 (.bin .rem (t 42) (t 43)),
 Qf 39 45 (.bin .eql (t 40) (t 44)),
 Qo 46 (.pick (t 39) QT (t 45))]
def zcvy:List am:=[Qa 47 1,
 Qo 48 (.bin .rem (t 47) (ci 2)),
 Qo 49 (.bin .eql (t 48) (ci 1)),
 Qa 50 49,
 Qt 50 51 (.mov (t 7)),
 Qt 50 52 (.lenL (t 51)),
 Qt 50 53 (.bin .lss (t 52) (ci 8)),
 Qo 54 (.pick (t 50) (t 53) QF)]
def zcu0:List am:=[Qa 55 7,
 Qa 56 9,
 Qa 57 10,
 Qo 58 (.build [(.int .i64 0),(.int .i64 0),(.int .i64 0),(.string ⟨#[]⟩),(.int .i64 0)] [(0,1,(t 56)),(1,1,(t 57))]),
 Qo 59 (.buildSl r7 5 1 [(.int .i64 0),(.int .i64 0),(.int .i64 0),(.string ⟨#[]⟩),(.int .i64 0)] [(0,5,(t 58))]),
 Qm 1 60 (.append r7 5 48 (t 55) (t 59)),
 Qa 7 60]
def zcu1:List am:=[Qa 61 1,
 Qo 62 (.bin .quo (t 61) (ci 2)),
 Qa 1 62]
def zcvw:List am:=[Qa 34 10,
 Qo 35 (.bin .add (t 34) (ci 1)),
 Qa 10 35]
def lc:TC:=(.seq (.seq (.ops zcvv) (.clean [0,1,2,7,9,10,33] (.cond (t 33) .skip (.exit 4)))) (.clean [0,1,2,7,9,10] (.seq (.block 5 [0,1,2,7,9,10] (.seq (.seq (.ops zcvx) (.clean [0,1,2,7,9,10,46] (.cond (t 46) (.exit 5) .skip))) (.clean [0,1,2,7,9,10] (.seq (.seq (.ops zcvy) (.clean [0,1,2,7,9,10,54] (.cond (t 54) (.ops zcu0) .skip))) (.clean [0,1,2,7,9,10] (.ops zcu1)))))) (.clean [0,1,2,7,9,10] (.ops zcvw)))))
def zdae:List am:=[Qa 29 9,
 Qo 30 (.bin .add (t 29) (ci 1)),
 Qa 9 30]
def zb8r:TC:=(.seq (.seq (.ops zdad) (.clean [0,1,2,7,9,28] (.cond (t 28) .skip (.exit 2)))) (.clean [0,1,2,7,9] (.seq (.block 3 [0,1,2,7,9] (.seq (.ops zdaf) (.block 4 [0,1,2,7,9] (.clean [0,1,2,7,9,10] (.loop [0,1,2,7,9,10] lc))))) (.clean [0,1,2,7,9] (.ops zdae)))))
def zcu2:List am:=[Qo 11 (.mov (ci 0))]
def zcu3:List am:=[Qa 63 11,
 Qa 64 7,
 Qo 65 (.lenL (t 64)),
 Qo 66 (.bin .lss (t 63) (t 65))]
def zcu5:List am:=[Qa 69 7,
 Qa 70 11,
 Qa 71 11,
 Qa 72 2,
 Qo 73 (.bin .add (t 71) (t 72)),
 Qa 74 2,
 Qo 75 (.bin .rem (t 74) (ci 3)),
 Qo 76 (.bin .add (ci 1) (t 75)),
 Qo 77 (.bin .rem (t 73) (t 76)),
 Qo 78 (.indexSl 5 (t 69) (t 70)),
 Qo 79 (.fieldAddr 2 (t 78)),
 ⟨⟨none,.store 1 (t 79) (t 77),none⟩,0⟩]
def zcu6:List am:=[Qa 80 7,
 Qa 81 11,
 Qo 82 (.build [(.string ⟨#[]⟩),(.string ⟨#[]⟩)] [(0,1,(.const (Go.Value.string ⟨#[103,111,108,100]⟩))),(1,1,(.const (Go.Value.string ⟨#[115,97,108,116]⟩)))]),
 Qa 83 11,
 Qa 84 1,
 Qo 85 (.bin .add (t 83) (t 84)),
 Qo 86 (.bin .rem (t 85) (ci 2)),
 Qo 87 (.indexAgg 2 (t 82) (t 86)),
 Qo 88 (.indexSl 5 (t 80) (t 81)),
 Qo 89 (.fieldAddr 3 (t 88)),
 ⟨⟨none,.store 1 (t 89) (t 87),none⟩,0⟩]
def zcu7:List am:=[Qa 90 7,
 Qa 91 11,
 Qa 92 11,
 Qo 93 (.bin .mul (ci 7) (t 92)),
 Qa 94 2,
 Qo 95 (.bin .add (t 93) (t 94)),
 Qo 96 (.bin .rem (t 95) (ci 20)),
 Qo 97 (.bin .add (ci 1) (t 96)),
 Qo 98 (.indexSl 5 (t 90) (t 91)),
 Qo 99 (.fieldAddr 4 (t 98)),
 ⟨⟨none,.store 1 (t 99) (t 97),none⟩,0⟩]
def zcu4:List am:=[Qa 67 11,
 Qo 68 (.bin .add (t 67) (ci 1)),
 Qa 11 68]
def zb9z:TC:=(.seq (.seq (.ops zcu3) (.clean [1,2,7,11,66] (.cond (t 66) .skip (.exit 6)))) (.clean [1,2,7,11] (.seq (.block 7 [1,2,7,11] (.seq (.ops zcu5) (.clean [1,2,7,11] (.seq (.ops zcu6) (.clean [1,2,7,11] (.ops zcu7)))))) (.clean [1,2,7,11] (.ops zcu4)))))
def zcu8:List am:=[Qa 100 7,
 Qa 6 100]
def zcie:TC:=(.seq (.ops zc96) (.clean [0,1,2] (.seq (.ops zc97) (.clean [0,1,2,7] (.seq (.seq (.ops zc98) (.block 0 [0,1,2,7] (.clean [0,1,2,7,8] (.loop [0,1,2,7,8] zb8q)))) (.clean [0,1,2,7] (.seq (.seq (.ops zdac) (.block 2 [1,2,7] (.clean [0,1,2,7,9] (.loop [0,1,2,7,9] zb8r)))) (.clean [1,2,7] (.seq (.seq (.ops zcu2) (.block 6 [7] (.clean [1,2,7,11] (.loop [1,2,7,11] zb9z)))) (.clean [7] (.seq (.ops zcu8) (.ret [6]))))))))))))
def zcim:TFn:=⟨101,zcie,[.tmp 6],true⟩
theorem gh:type_of% (ai @zc96.eq_1 (ai @zc97.eq_1 (ai @zc98.eq_1 (ai @zc99.eq_1 (ai @zdab.eq_1 (ai @zdaa.eq_1 (ai @zdac.eq_1 (ai @zdad.eq_1 (ai @zdaf.eq_1 (ai @zcvv.eq_1 (ai @zcvx.eq_1 (ai @zcvy.eq_1 (ai @zcu0.eq_1 (ai @zcu1.eq_1 (ai @zcvw.eq_1 (ai @zdae.eq_1 (ai @zcu2.eq_1 (ai @zcu3.eq_1 (ai @zcu5.eq_1 (ai @zcu6.eq_1 (ai @zcu7.eq_1 (ai @zcu4.eq_1 (ai @zcu8.eq_1 (ai @zcie.eq_1 @zcim.eq_1)))))))))))))))))))))))):=⟨rfl,rfl,rfl,rfl,rfl,rfl,rfl,rfl,rfl,rfl,rfl,rfl,rfl,rfl,rfl,rfl,rfl,rfl,rfl,rfl,rfl,rfl,rfl,rfl,rfl⟩
theorem zbqc:th Try.prog [] zb7z = some (101,zcie.erase,[.tmp 6]):=by kernel_rfl
def zc0e:List am:=[Qo 2 (.mov (.const (Go.Value.string ⟨#[]⟩)))]
def zc0f:List am:=[Qa 3 0,
 Qo 4 (.call po [(t 3)]),
 Qo 5 (.bin .add (.const (Go.Value.string ⟨#[112,97,114,116,121]⟩)) (t 4)),
 Qa 2 5]
def zckg:TC:=(.seq (.ops zc0e) (.clean [0] (.seq (.ops zc0f) (.ret [2]))))
def zckb:TFn:=⟨6,zckg,[.tmp 2],false⟩
theorem zde2:type_of% (ai @zc0e.eq_1 (ai @zc0f.eq_1 (ai @zckg.eq_1 @zckb.eq_1))):=⟨rfl,rfl,rfl,rfl⟩
theorem zdfk:th Try.prog [] yr = some (6,zckg.erase,[.tmp 2]):=by kernel_rfl
def zc16:List am:=[Qo 4 (.box bh 7 (t 0)),
 Qo 8 (.box d8 4 (.const (.agg #[(.int .i64 0),(.string ⟨#[]⟩),(.slice none 0 0),(.slice none 0 0)])))]
def zc17:List am:=[Qo 9 (.loadN 7 (t 4)),
 Qa 10 1,
 Qo 11 (.call pm [(t 9),(t 10)]),
 Qo 12 (.un .not (t 11))]
def zc2h:List am:=[Qo 13 (.build [(.int .i64 0),(.string ⟨#[]⟩),(.slice none 0 0),(.slice none 0 0)] []),
 ⟨⟨none,.store 4 (t 8) (t 13),none⟩,0⟩]
def zc2i:List am:=[Qa 14 1,
 Qa 15 2,
 Qo 16 (.fieldAddr 3 (t 4)),
 Qb 17 16,
 Qa 18 1,
 Qo 19 (.indexSl 1 (t 17) (t 18)),
 Qb 20 19,
 Qa 22 3,
 Qa 23 1,
 Qa 24 2,
 Qo 21 (.buildSl jy 1 1 [(.int .i64 0)] [(0,1,(t 20))]),
 Qo 25 (.call zb33 [(t 22),(t 23),(t 24)]),
 Qo 26 (.buildSl a9 1 1 [(.string ⟨#[]⟩)] [(0,1,(t 25))]),
 Qo 27 (.build [(.int .i64 0),(.string ⟨#[]⟩),(.slice none 0 0),(.slice none 0 0)] [(0,1,(t 14)),(1,1,(t 15)),(2,1,(t 21)),(3,1,(t 26))]),
 ⟨⟨none,.store 4 (t 8) (t 27),none⟩,0⟩]
def zcky:TC:=(.seq (.ops zc16) (.clean [1,2,3,4,8] (.seq (.seq (.ops zc17) (.clean [1,2,3,4,8,12] (.cond (t 12) (.seq (.ops zc2h) (.ret [8])) .skip))) (.clean [1,2,3,4,8] (.seq (.drawT (pl zc2i) [((.cons 0 (.cons 1 (.cons 2 (.cons 3 (.cons 4 (.cons 5 (.cons 6 (.cons 7 (.cons 8 (.cons 9 .nil)))))))))),[8,14,15,20,22,23,24]),((.alt 10 (.cons 11 (.cons 12 .nil)) 11 (.alt 10 (.cons 12 .nil) 12 (.cons 10 .nil))),[8,14,15,21,26]),((.cons 13 (.cons 14 .nil)),[8])]) (.ret [8]))))))
def zckq:TFn:=⟨28,zcky,[.cellN 8 4],false⟩
theorem zcxm:type_of% (ai @zc16.eq_1 (ai @zc17.eq_1 (ai @zc2h.eq_1 (ai @zc2i.eq_1 (ai @zcky.eq_1 @zckq.eq_1))))):=⟨rfl,rfl,rfl,rfl,rfl,rfl⟩
theorem zdf0:th Try.prog [(3,⟨[0,1,2,3,4,5,6,8,9,10,7,11,12,13,14],[0,0,0,4,0,28,60,124,0,0,0,1792,3840,8191,16383],[],[],(.cons 0 (.cons 1 (.cons 2 (.cons 3 (.cons 4 (.cons 5 (.cons 6 (.cons 8 (.cons 9 (.cons 10 (.alt 7 (.cons 11 (.cons 12 (.cons 13 (.cons 14 .nil)))) 11 (.alt 7 (.cons 12 (.cons 13 (.cons 14 .nil))) 12 (.cons 7 (.cons 13 (.cons 14 .nil)))))))))))))))⟩)] m7 = some (28,zcky.erase,[.cellN 8 4]):=by kernel_rfl
def zc9t:List am:=[Qo 3 (.box a9 1 (t 0)),
 Qo 4 (.box jy 1 (t 1)),
 Qo 6 (.mov (.const (Go.Value.string ⟨#[]⟩)))]
def zc9u:List am:=[Qb 8 4,
 Qo 9 (.call zb38 [(t 8)]),
 Qo 10 (.un .not (t 9))]
def zc9v:List am:=[Qo 6 (.mov (.const (Go.Value.string ⟨#[]⟩)))]
def zc9w:List am:=[Qa 11 2,
 Qo 12 (.call zb34 [(t 11)]),
 Qo 7 (.box jc 1 (.const .nilFunc)),
 ⟨⟨none,.store 1 (t 7) (t 12),none⟩,0⟩]
def zc9x:List am:=[Qo 13 (.mkFunc (.func se) [] [(t 3),(t 4),(t 7)]),
 Qo 14 (.call zbx1 [(t 13)]),
 Qa 6 14]
def zcig:TC:=(.seq (.ops zc9t) (.clean [2,3,4] (.seq (.seq (.ops zc9u) (.clean [2,3,4,10] (.cond (t 10) (.seq (.ops zc9v) (.ret [6])) .skip))) (.clean [2,3,4] (.seq (.ops zc9w) (.clean [3,4,7] (.seq (.ops zc9x) (.ret [6]))))))))
def zcio:TFn:=⟨15,zcig,[.tmp 6],false⟩
theorem zctw:type_of% (ai @zc9t.eq_1 (ai @zc9u.eq_1 (ai @zc9v.eq_1 (ai @zc9w.eq_1 (ai @zc9x.eq_1 (ai @zcig.eq_1 @zcio.eq_1)))))):=⟨rfl,rfl,rfl,rfl,rfl,rfl,rfl⟩
theorem zbqa:th Try.prog [] zb33 = some (15,zcig.erase,[.tmp 6]):=by kernel_rfl
def zcwi:List am:=[Qo 2 (.mov QF)]
def zcwj:List am:=[Qa 3 0,
 Qo 4 (.bin .geq (t 3) (ci 0)),
 Qa 5 4,
 Qt 5 6 (.mov (t 0)),
 Qt 5 7 (.bin .leq (t 6) (ci 255)),
 Qo 8 (.pick (t 5) (t 7) QF),
 Qa 2 8]
def zcjf:TC:=(.seq (.ops zcwi) (.clean [0] (.seq (.ops zcwj) (.ret [2]))))
def zci0:TFn:=⟨9,zcjf,[.tmp 2],false⟩
theorem zc7f:type_of% (ai @zcwi.eq_1 (ai @zcwj.eq_1 (ai @zcjf.eq_1 @zci0.eq_1))):=⟨rfl,rfl,rfl,rfl⟩
theorem zdcn:th Try.prog [] zb38 = some (9,zcjf.erase,[.tmp 2]):=by kernel_rfl
def zcy0:List am:=[Qo 5 (.mov (.const (Go.Value.string ⟨#[]⟩)))]
def zcy1:List (am × List Nat):=[(Qb 6 1,[]),
 (Qb 7 2,[]),
 (Qa 8 0,[]),
 (Qb 9 3,[]),
 (Qa 10 0,[]),
 (Qb 13 1,[]),
 (Qb 14 2,[]),
 (Qa 15 0,[]),
 (Qb 16 3,[]),
 (Qa 17 0,[]),
 (Qm 7 11 (.callvW (t 9) [(t 10)]),[0,1,5,6,8]),
 (Qo 12 (.call zb37 [(t 6),(t 7),(t 8),(t 11)]),[]),
 (Qm 7 18 (.callvW (t 16) [(t 17)]),[5,6]),
 (Qo 19 (.bin .sub (ci 1) (t 18)),[]),
 (Qo 20 (.call zb37 [(t 13),(t 14),(t 15),(t 19)]),[]),
 (Qo 21 (.call uu [(t 20)]),[]),
 (Qo 22 (.bin .add (t 12) (t 21)),[]),
 (Qa 5 22,[])]
def zcj0:TC:=(.seq (.ops zcy0) (.clean [0,1,2,3] (.seq (.draw zcy1) (.ret [5]))))
def zcjr:TFn:=⟨23,zcj0,[.tmp 5],false⟩
theorem zdd3:type_of% (ai @zcy0.eq_1 (ai @zcy1.eq_1 (ai @zcj0.eq_1 @zcjr.eq_1))):=⟨rfl,rfl,rfl,rfl⟩
theorem zddv:th Try.prog [(1,⟨[0,1,2,3,4,7,8,9,10,11,5,6,12,13,14,15,16,17],[0,0,0,0,0,24,63,0,0,0,0,0,3199,7295,16383,32767,65535,131071],[5,12],[(5,[0,1,7,8,10]),(12,[7,8])],.nil⟩)] se = some (23,zcj0.erase,[.tmp 5]):=by kernel_rfl
def zcwe:List am:=[Qo 8 (.mov (.const (Go.Value.string ⟨#[]⟩)))]
def zcwf:List am:=[Qa 9 1,
 Qo 10 (.call zb38 [(t 9)]),
 Qo 11 (.un .not (t 10)),
 Qa 12 11,
 Qf 12 13 (.mov (t 2)),
 Qf 12 14 (.bin .lss (t 13) (ci 0)),
 Qo 15 (.pick (t 12) QT (t 14)),
 Qa 16 15,
 Qf 16 17 (.mov (t 2)),
 Qf 16 18 (.bin .geq (t 17) (ci 16)),
 Qo 19 (.pick (t 16) QT (t 18)),
 Qa 20 19,
 Qf 20 21 (.mov (t 3)),
 Qf 20 22 (.bin .lss (t 21) (ci 0)),
 Qo 23 (.pick (t 20) QT (t 22)),
 Qa 24 23,
 Qf 24 25 (.mov (t 3)),
 Qf 24 26 (.bin .geq (t 25) (ci 2)),
 Qo 27 (.pick (t 24) QT (t 26))]
def zcwg:List am:=[Qo 8 (.mov (.const (Go.Value.string ⟨#[]⟩)))]
def zcwh:List am:=[Qa 28 0,
 Qa 29 1,
 Qo 30 (.conv .u8 (t 29)),
 Qa 31 2,
 Qo 32 (.conv .u8 (t 31)),
 Qa 33 3,
 Qo 34 (.conv .u8 (t 33)),
 Qo 35 (.buildSl dv 1 3 [(.int .u8 0),(.int .u8 0),(.int .u8 0)] [(0,1,(t 30)),(1,1,(t 32)),(2,1,(t 34))]),
 Qo 36 (.toStr (t 35)),
 Qo 37 (.bin .add (t 28) (t 36)),
 Qo 38 (.call uu [(t 37)]),
 Qa 8 38]
def zcje:TC:=(.seq (.ops zcwe) (.clean [0,1,2,3] (.seq (.seq (.ops zcwf) (.clean [0,1,2,3,27] (.cond (t 27) (.seq (.ops zcwg) (.ret [8])) .skip))) (.clean [0,1,2,3] (.seq (.ops zcwh) (.ret [8]))))))
def zciz:TFn:=⟨39,zcje,[.tmp 8],false⟩
theorem zb77:type_of% (ai @zcwe.eq_1 (ai @zcwf.eq_1 (ai @zcwg.eq_1 (ai @zcwh.eq_1 (ai @zcje.eq_1 @zciz.eq_1))))):=⟨rfl,rfl,rfl,rfl,rfl,rfl⟩
theorem zdcm:th Try.prog [] zb37 = some (39,zcje.erase,[.tmp 8]):=by kernel_rfl
def zdg7:List am:=[Qo 4 (.box bh 7 (t 0)),
 Qo 5 (.box d8 4 (t 1)),
 Qo 8 (.box d8 4 (.const (.agg #[(.int .i64 0),(.string ⟨#[]⟩),(.slice none 0 0),(.slice none 0 0)])))]
def zdg8:List am:=[Qo 11 (.loadN 7 (t 4)),
 Qo 12 (.fieldAddr 0 (t 5)),
 Qb 13 12,
 Qo 14 (.call pm [(t 11),(t 13)]),
 Qo 15 (.un .not (t 14)),
 Qa 16 15,
 Qf 16 17 (.mov (t 2)),
 Qf 16 18 (.bin .lss (t 17) (ci 0)),
 Qo 19 (.pick (t 16) QT (t 18)),
 Qa 20 19,
 Qf 20 21 (.mov (t 2)),
 Qf 20 22 (.fieldAddr 1 (t 4)),
 Qf 20 23 (.load1 (t 22)),
 Qf 20 24 (.lenL (t 23)),
 Qf 20 25 (.bin .geq (t 21) (t 24)),
 Qo 26 (.pick (t 20) QT (t 25)),
 Qa 27 26,
 Qf 27 28 (.fieldAddr 2 (t 5)),
 Qf 27 29 (.load1 (t 28)),
 Qf 27 30 (.lenL (t 29)),
 Qf 27 31 (.bin .eql (t 30) (ci 0)),
 Qo 32 (.pick (t 27) QT (t 31)),
 Qa 33 32,
 Qf 33 34 (.fieldAddr 3 (t 5)),
 Qf 33 35 (.load1 (t 34)),
 Qf 33 36 (.lenL (t 35)),
 Qf 33 37 (.bin .eql (t 36) (ci 0)),
 Qo 38 (.pick (t 33) QT (t 37))]
def zdg9:List am:=[Qo 39 (.build [(.int .i64 0),(.string ⟨#[]⟩),(.slice none 0 0),(.slice none 0 0)] []),
 ⟨⟨none,.store 4 (t 8) (t 39),none⟩,0⟩]
def zdha:List (am × List Nat):=[(Qa 40 2,[]),
 (Qo 42 (.fieldAddr 2 (t 5)),[]),
 (Qb 43 42,[]),
 (Qa 45 3,[]),
 (Qo 46 (.fieldAddr 0 (t 5)),[]),
 (Qb 47 46,[]),
 (Qo 48 (.fieldAddr 3 (t 5)),[]),
 (Qb 49 48,[]),
 (Qo 50 (.indexSl 1 (t 49) (ci 0)),[]),
 (Qb 51 50,[]),
 (Qo 54 (.fieldAddr 3 (t 5)),[]),
 (Qb 55 54,[]),
 (Qm 2 41 (.buildSl jy 1 1 [(.int .i64 0)] [(0,1,(t 40))]),[]),
 (Qo 44 (.append jy 1 8 (t 41) (t 43)),[5,7,9,11]),
 (Qo 52 (.call zb33 [(t 45),(t 47),(t 51)]),[]),
 (Qm 2 53 (.buildSl a9 1 1 [(.string ⟨#[]⟩)] [(0,1,(t 52))]),[]),
 (Qo 56 (.append a9 1 16 (t 53) (t 55)),[]),
 (Qa 9 44,[]),
 (Qa 10 56,[])]
def zdhb:List am:=[Qo 57 (.fieldAddr 0 (t 5)),
 Qb 58 57,
 Qo 59 (.fieldAddr 1 (t 5)),
 Qb 60 59,
 Qa 61 9,
 Qa 62 10,
 Qo 63 (.build [(.int .i64 0),(.string ⟨#[]⟩),(.slice none 0 0),(.slice none 0 0)] [(0,1,(t 58)),(1,1,(t 60)),(2,1,(t 61)),(3,1,(t 62))]),
 ⟨⟨none,.store 4 (t 8) (t 63),none⟩,0⟩]
def zc6m:TC:=(.seq (.ops zdg7) (.clean [2,3,4,5,8] (.seq (.seq (.ops zdg8) (.clean [2,3,5,8,38] (.cond (t 38) (.seq (.ops zdg9) (.ret [8])) .skip))) (.clean [2,3,5,8] (.seq (.draw zdha) (.clean [5,8,9,10] (.seq (.ops zdhb) (.ret [8]))))))))
def zdia:TFn:=⟨64,zc6m,[.cellN 8 4],false⟩
theorem zdj5:th Try.prog [(3,⟨[0,2,3,5,6,7,8,9,10,11,14,15,1,4,12,13,16,17,18],[0,1,0,4,15,0,0,64,0,256,768,1792,4095,8191,0,16384,65535,131071,262143],[],[(4,[7,9,11,15])],.nil⟩)] rj = some (64,zc6m.erase,[.cellN 8 4]):=by kernel_rfl
def zc5f:List am:=[Qo 4 (.mov QF)]
def zc5g:List am:=[Qo 8 (.call zb0e [(ci 2),(ci 5),(ci 6)]),
 Qo 5 (.box bh 7 (.const (.agg #[(.string ⟨#[]⟩),(.slice none 0 0),(.slice none 0 0),(.slice none 0 0),(.slice none 0 0),(.int .i64 0),(.int .i64 0)]))),
 ⟨⟨none,.store 7 (t 5) (t 8),none⟩,0⟩]
def zc5h:List am:=[Qo 9 (.loadN 7 (t 5)),
 Qo 10 (.call sf [(ci 0)]),
 Qo 11 (.call vo [(ci 0)]),
 Qo 12 (.call m7 [(t 9),(ci 0),(t 10),(t 11)]),
 Qo 6 (.box d8 4 (.const (.agg #[(.int .i64 0),(.string ⟨#[]⟩),(.slice none 0 0),(.slice none 0 0)]))),
 ⟨⟨none,.store 4 (t 6) (t 12),none⟩,0⟩]
def zc5i:List am:=[Qo 13 (.loadN 4 (t 6)),
 Qo 14 (.call qj [(t 13)]),
 Qo 15 (.lenS (t 14)),
 Qo 16 (.bin .neq (t 15) (ci 559))]
def zc5j:List am:=[Qo 4 (.mov QF)]
def zc5k:List am:=[Qa 17 1,
 Qo 18 (.call x7 [(t 17),(ci 100)]),
 Qo 19 (.bin .add (ci 1) (t 18)),
 Qa 7 19]
def zc5l:List am:=[Qa 20 0,
 Qo 21 (.call x7 [(t 20),(ci 7)])]
def zc5a:List am:=[Qo 29 (.bin .eql (t 21) (ci 0)),
 Qa 28 29]
def zc5b:List am:=[Qa 30 7,
 Qo 31 (.bin .add (ci 2) (t 30)),
 Qo 32 (.fieldAddr 0 (t 6)),
 ⟨⟨none,.store 1 (t 32) (t 31),none⟩,0⟩]
def zc5p:List am:=[Qo 34 (.bin .eql (t 21) (ci 1)),
 Qa 33 34]
def zc5q:List am:=[Qa 35 7,
 Qo 36 (.un .neg (t 35)),
 Qo 37 (.fieldAddr 0 (t 6)),
 ⟨⟨none,.store 1 (t 37) (t 36),none⟩,0⟩]
def zc5r:List am:=[Qo 39 (.bin .eql (t 21) (ci 2)),
 Qa 38 39]
def zc5s:List am:=[Qa 40 7,
 Qo 41 (.bin .add (ci 64) (t 40)),
 Qo 42 (.makeSl dv 1 [(.int .u8 0)] (t 41) (t 41)),
 Qo 43 (.toStr (t 42)),
 Qo 44 (.fieldAddr 1 (t 6)),
 ⟨⟨none,.store 1 (t 44) (t 43),none⟩,0⟩]
def zc5t:List am:=[Qo 46 (.bin .eql (t 21) (ci 3)),
 Qa 45 46]
def zc51:List am:=[Qo 47 (.fieldAddr 2 (t 6)),
 ⟨⟨none,.store 1 (t 47) (.const (Go.Value.slice none 0 0)),none⟩,0⟩]
def zc52:List am:=[Qo 49 (.bin .eql (t 21) (ci 4)),
 Qa 48 49]
def zc53:List am:=[Qa 50 7,
 Qo 51 (.bin .add (ci 5) (t 50)),
 Qo 52 (.buildSl jy 1 1 [(.int .i64 0)] [(0,1,(t 51))]),
 Qo 53 (.fieldAddr 2 (t 6)),
 ⟨⟨none,.store 1 (t 53) (t 52),none⟩,0⟩]
def zc54:List am:=[Qo 55 (.bin .eql (t 21) (ci 5)),
 Qa 54 55]
def zc55:List (am × List Nat):=[(Qo 56 (.fieldAddr 3 (t 6)),[]),
 (Qb 57 56,[]),
 (Qo 59 (.fieldAddr 3 (t 6)),[]),
 (Qb 60 59,[]),
 (Qo 58 (.append a9 1 16 (.const (Go.Value.slice none 0 0)) (t 57)),[3]),
 (Qo 61 (.append a9 1 16 (t 58) (t 60)),[]),
 (Qo 62 (.fieldAddr 3 (t 6)),[]),
 (⟨⟨none,.store 1 (t 62) (t 61),none⟩,0⟩,[])]
def zc49:List am:=[Qa 22 7,
 Qo 23 (.bin .add (ci 512) (t 22)),
 Qo 24 (.makeSl dv 1 [(.int .u8 0)] (t 23) (t 23)),
 Qo 25 (.toStr (t 24)),
 Qo 26 (.buildSl a9 1 1 [(.string ⟨#[]⟩)] [(0,1,(t 25))]),
 Qo 27 (.fieldAddr 3 (t 6)),
 ⟨⟨none,.store 1 (t 27) (t 26),none⟩,0⟩]
def zc56:List am:=[Qo 63 (.loadN 4 (t 6)),
 Qo 64 (.call qj [(t 63)]),
 Qo 65 (.bin .eql (t 64) (.const (Go.Value.string ⟨#[]⟩))),
 Qa 66 65,
 Qt 66 67 (.call zb35 []),
 Qo 68 (.pick (t 66) (t 67) QF),
 Qa 4 68]
def zclo:TC:=(.seq (.ops zc5f) (.clean [0,1] (.seq (.ops zc5g) (.clean [0,1,5] (.seq (.drawT (pl zc5h) [((.cons 0 .nil),[0,1,9]),((.alt 1 (.alt 2 (.alt 3 (.cons 4 .nil) 4 (.cons 3 .nil)) 4 (.cons 2 (.cons 3 .nil))) 4 (.cons 1 (.cons 2 (.cons 3 .nil)))),[0,1,6,12]),((.cons 5 .nil),[0,1,6])]) (.clean [0,1,6] (.seq (.seq (.ops zc5i) (.clean [0,1,6,16] (.cond (t 16) (.seq (.ops zc5j) (.ret [4])) .skip))) (.clean [0,1,6] (.seq (.ops zc5k) (.clean [0,6,7] (.seq (.seq (.ops zc5l) (.block 0 [6] (.seq (.ops zc5a) (.clean [6,7,21,28] (.cond (t 28) (.ops zc5b) (.seq (.ops zc5p) (.clean [6,7,21,33] (.cond (t 33) (.ops zc5q) (.seq (.ops zc5r) (.clean [6,7,21,38] (.cond (t 38) (.ops zc5s) (.seq (.ops zc5t) (.clean [6,7,21,45] (.cond (t 45) (.ops zc51) (.seq (.ops zc52) (.clean [6,7,21,48] (.cond (t 48) (.ops zc53) (.seq (.ops zc54) (.clean [6,7,54] (.cond (t 54) (.draw zc55) (.ops zc49))))))))))))))))))))) (.clean [6] (.seq (.ops zc56) (.ret [4]))))))))))))))
def zclp:TFn:=⟨69,zclo,[.tmp 4],false⟩
theorem dh:type_of% (ai @zc5f.eq_1 (ai @zc5g.eq_1 (ai @zc5h.eq_1 (ai @zc5i.eq_1 (ai @zc5j.eq_1 (ai @zc5k.eq_1 (ai @zc5l.eq_1 (ai @zc5a.eq_1 (ai @zc5b.eq_1 (ai @zc5p.eq_1 (ai @zc5q.eq_1 (ai @zc5r.eq_1 (ai @zc5s.eq_1 (ai @zc5t.eq_1 (ai @zc51.eq_1 (ai @zc52.eq_1 (ai @zc53.eq_1 (ai @zc54.eq_1 (ai @zc55.eq_1 (ai @zc49.eq_1 (ai @zc56.eq_1 (ai @zclo.eq_1 @zclp.eq_1)))))))))))))))))))))):=⟨rfl,rfl,rfl,rfl,rfl,rfl,rfl,rfl,rfl,rfl,rfl,rfl,rfl,rfl,rfl,rfl,rfl,rfl,rfl,rfl,rfl,rfl,rfl⟩
theorem zdkp:th Try.prog [(2,⟨[0,1,2,3,4,5],[0,0,2,7,0,31],[],[],(.cons 0 (.alt 1 (.alt 2 (.alt 3 (.cons 4 (.cons 5 .nil)) 4 (.cons 3 (.cons 5 .nil))) 4 (.cons 2 (.cons 3 (.cons 5 .nil)))) 4 (.cons 1 (.cons 2 (.cons 3 (.cons 5 .nil))))))⟩),(19,⟨[0,1,3,4,2,5,6,7],[0,1,3,0,8,31,63,127],[],[(2,[4])],.nil⟩)] pw = some (69,zclo.erase,[.tmp 4]):=by kernel_rfl
def zc21:List am:=[Qo 1 (.box d8 4 (t 0)),
 Qo 2 (.mov (.const (Go.Value.string ⟨#[]⟩)))]
def zc22:List am:=[Qo 8 (.loadN 4 (t 1)),
 Qo 9 (.call yp [(t 8)]),
 Qo 10 (.un .not (t 9))]
def zc23:List am:=[Qo 2 (.mov (.const (Go.Value.string ⟨#[]⟩)))]
def zc24:List am:=[Qo 3 (.box bz 2 (.const (.agg #[(.pointer none),(.slice none 0 0)])))]
def zc25:List am:=[Qo 11 (.fieldAddr 0 (t 1)),
 Qb 12 11,
 Qo 14 (.fieldAddr 1 (t 1)),
 Qb 15 14,
 Qo 18 (.fieldAddr 2 (t 1)),
 Qb 19 18,
 Qo 20 (.lenL (t 19)),
 Qo 13 (.call uv [(t 12)]),
 Qo 16 (.call x6 [(t 15)]),
 Qo 17 (.bin .add (t 13) (t 16)),
 Qo 21 (.call uv [(t 20)]),
 Qo 22 (.bin .add (t 17) (t 21)),
 Qo 23 (.callW bk [(t 3),(t 22)])]
def zc26:List am:=[Qo 24 (.fieldAddr 2 (t 1)),
 Qb 25 24,
 Qo 26 (.lenL (t 25)),
 Qo 27 (.mov (ci 0))]
def zc27:List am:=[Qo 28 (.bin .lss (t 27) (t 26))]
def zc28:List am:=[Qo 29 (.indexSl 1 (t 25) (t 27)),
 Qb 30 29,
 Qa 5 30]
def zc3s:List am:=[Qa 31 5,
 Qo 32 (.call uv [(t 31)]),
 Qo 33 (.call bk [(t 3),(t 32)])]
def zc3t:List am:=[Qo 34 (.bin .add (t 27) (ci 1)),
 Qa 27 34]
def yj:TC:=(.seq (.ops zc27) (.clean [1,3,25,26,27,28] (.seq (.cond (t 28) .skip (.exit 0)) (.clean [1,3,25,26,27] (.seq (.block 1 [1,3,25,26,27] (.seq (.ops zc28) (.clean [1,3,5,25,26,27] (.ops zc3s)))) (.clean [1,3,25,26,27] (.ops zc3t)))))))
def zc40:List am:=[Qo 35 (.fieldAddr 3 (t 1)),
 Qb 36 35,
 Qo 37 (.lenL (t 36)),
 Qo 38 (.mov (ci 0))]
def zc41:List am:=[Qo 39 (.bin .lss (t 38) (t 37))]
def zc37:List am:=[Qo 40 (.indexSl 1 (t 36) (t 38)),
 Qb 41 40,
 Qa 7 41]
def zc38:List am:=[Qa 42 7,
 Qo 43 (.call x6 [(t 42)]),
 Qo 44 (.call bk [(t 3),(t 43)])]
def zc39:List am:=[Qo 45 (.bin .add (t 38) (ci 1)),
 Qa 38 45]
def yi:TC:=(.seq (.ops zc41) (.clean [3,36,37,38,39] (.seq (.cond (t 39) .skip (.exit 2)) (.clean [3,36,37,38] (.seq (.block 3 [3,36,37,38] (.seq (.ops zc37) (.clean [3,7,36,37,38] (.ops zc38)))) (.clean [3,36,37,38] (.ops zc39)))))))
def zc4a:List am:=[Qo 46 (.call cd [(t 3)]),
 Qa 2 46]
def zcla:TC:=(.seq (.ops zc21) (.clean [1] (.seq (.seq (.ops zc22) (.clean [1,10] (.cond (t 10) (.seq (.ops zc23) (.ret [2])) .skip))) (.clean [1] (.seq (.ops zc24) (.clean [1,3] (.seq (.draw (pl zc25)) (.clean [1,3] (.seq (.seq (.ops zc26) (.block 0 [1,3] (.clean [1,3,25,26,27] (.loop [1,3,25,26,27] yj)))) (.clean [1,3] (.seq (.seq (.ops zc40) (.block 2 [3] (.clean [3,36,37,38] (.loop [3,36,37,38] yi)))) (.clean [3] (.seq (.ops zc4a) (.ret [2]))))))))))))))
def zck3:TFn:=⟨47,zcla,[.tmp 2],false⟩
theorem nw:type_of% (ai @zc21.eq_1 (ai @zc22.eq_1 (ai @zc23.eq_1 (ai @zc24.eq_1 (ai @zc25.eq_1 (ai @zc26.eq_1 (ai @zc27.eq_1 (ai @zc28.eq_1 (ai @zc3s.eq_1 (ai @zc3t.eq_1 (ai @zc40.eq_1 (ai @zc41.eq_1 (ai @zc37.eq_1 (ai @zc38.eq_1 (ai @zc39.eq_1 (ai @zc4a.eq_1 (ai @zcla.eq_1 @zck3.eq_1))))))))))))))))):=⟨rfl,rfl,rfl,rfl,rfl,rfl,rfl,rfl,rfl,rfl,rfl,rfl,rfl,rfl,rfl,rfl,rfl,rfl⟩
theorem zdjp:th Try.prog [(4,⟨[0,1,3,4,7,8,9,2,5,6,10,11,12],[0,1,3,0,8,31,63,0,128,384,959,2047,4095],[12],[],.nil⟩)] qj = some (47,zcla.erase,[.tmp 2]):=by kernel_rfl
def zc0u:List am:=[Qo 1 (.box d8 4 (t 0)),
 Qo 2 (.mov QF)]
def zc0v:List am:=[Qo 3 (.box iy 1 (.const .nilFunc)),
 ⟨⟨none,.store 1 (t 3) (.func gi),none⟩,0⟩]
def zc0w:List am:=[Qo 6 (.mkFunc (.func i8) [] [(t 3)]),
 Qa 4 6]
def zc0x:List am:=[Qo 5 (.mov (.func iz))]
def zc0y:List am:=[Qb 7 3,
 Qo 8 (.fieldAddr 0 (t 1)),
 Qb 9 8,
 Qo 10 (.callv (t 7) [(t 9),(ci 3)]),
 Qa 11 10,
 Qt 11 12 (.fieldAddr 1 (t 1)),
 Qt 11 13 (.load1 (t 12)),
 Qt 11 14 (.lenS (t 13)),
 Qt 11 15 (.bin .leq (t 14) (ci 64)),
 Qo 16 (.pick (t 11) (t 15) QF),
 Qa 17 16,
 Qt 17 18 (.fieldAddr 2 (t 1)),
 Qt 17 19 (.load1 (t 18)),
 Qt 17 20 (.lenL (t 19)),
 Qt 17 21 (.bin .gtr (t 20) (ci 0)),
 Qo 22 (.pick (t 17) (t 21) QF),
 Qa 23 22,
 Qt 23 24 (.fieldAddr 2 (t 1)),
 Qt 23 25 (.load1 (t 24)),
 Qt 23 26 (.lenL (t 25)),
 Qt 23 27 (.bin .leq (t 26) (ci 6)),
 Qo 28 (.pick (t 23) (t 27) QF),
 Qa 29 28,
 Qt 29 30 (.fieldAddr 3 (t 1)),
 Qt 29 31 (.load1 (t 30)),
 Qt 29 32 (.lenL (t 31)),
 Qt 29 33 (.fieldAddr 2 (t 1)),
 Qt 29 34 (.load1 (t 33)),
 Qt 29 35 (.lenL (t 34)),
 Qt 29 36 (.bin .eql (t 32) (t 35)),
 Qo 37 (.pick (t 29) (t 36) QF),
 Qa 38 37,
 Qt 38 39 (.fieldAddr 2 (t 1)),
 Qt 38 40 (.load1 (t 39)),
 Qt 38 41 (.mov (t 4)),
 Qt 38 42 (.call cb [(t 40),(t 41)]),
 Qt 38 43 (.un .not (t 42)),
 Qo 44 (.pick (t 38) (t 43) QF),
 Qa 45 44,
 Qt 45 46 (.fieldAddr 3 (t 1)),
 Qt 45 47 (.load1 (t 46)),
 Qt 45 48 (.mov (t 5)),
 Qt 45 49 (.call bf [(t 47),(t 48)]),
 Qt 45 50 (.un .not (t 49)),
 Qo 51 (.pick (t 45) (t 50) QF),
 Qa 2 51]
def zckj:TC:=(.seq (.ops zc0u) (.clean [1] (.seq (.ops zc0v) (.clean [1,3] (.seq (.ops zc0w) (.clean [1,3,4] (.seq (.ops zc0x) (.clean [1,3,4,5] (.seq (.ops zc0y) (.ret [2]))))))))))
def zcke:TFn:=⟨52,zckj,[.tmp 2],false⟩
theorem uq:type_of% (ai @zc0u.eq_1 (ai @zc0v.eq_1 (ai @zc0w.eq_1 (ai @zc0x.eq_1 (ai @zc0y.eq_1 (ai @zckj.eq_1 @zcke.eq_1)))))):=⟨rfl,rfl,rfl,rfl,rfl,rfl,rfl⟩
theorem zdfn:th Try.prog [] yp = some (52,zckj.erase,[.tmp 2]):=by kernel_rfl
def zc3z:List am:=[Qo 4 (.mov QF)]
def zc30:List am:=[Qa 5 0,
 Qo 6 (.bin .geq (t 5) (ci 0)),
 Qa 7 6,
 Qt 7 8 (.mov (t 0)),
 Qt 7 9 (.mov (t 1)),
 Qt 7 10 (.bin .lss (t 8) (t 9)),
 Qo 11 (.pick (t 7) (t 10) QF),
 Qa 4 11]
def zcld:TC:=(.seq (.ops zc3z) (.clean [0,1] (.seq (.ops zc30) (.ret [4]))))
def zck5:TFn:=⟨12,zcld,[.tmp 4],false⟩
theorem zc0c:type_of% (ai @zc3z.eq_1 (ai @zc30.eq_1 (ai @zcld.eq_1 @zck5.eq_1))):=⟨rfl,rfl,rfl,rfl⟩
theorem zdjr:th Try.prog [] gi = some (12,zcld.erase,[.tmp 4]):=by kernel_rfl
def zc31:List am:=[Qo 3 (.mov QF)]
def zc3c:List am:=[Qb 4 1,
 Qa 5 0,
 Qo 6 (.callv (t 4) [(t 5),(ci 6)]),
 Qo 7 (.un .not (t 6)),
 Qa 3 7]
def zcle:TC:=(.seq (.ops zc31) (.clean [0,1] (.seq (.ops zc3c) (.ret [3]))))
def zck6:TFn:=⟨8,zcle,[.tmp 3],false⟩
theorem zdiy:type_of% (ai @zc31.eq_1 (ai @zc3c.eq_1 (ai @zcle.eq_1 @zck6.eq_1))):=⟨rfl,rfl,rfl,rfl⟩
theorem zdi9:th Try.prog [] i8 = some (8,zcle.erase,[.tmp 3]):=by kernel_rfl
def zc3d:List am:=[Qo 2 (.mov QF)]
def zc3e:List am:=[Qa 3 0,
 Qo 4 (.lenS (t 3)),
 Qo 5 (.bin .neq (t 4) (ci 512)),
 Qa 2 5]
def zclf:TC:=(.seq (.ops zc3d) (.clean [0] (.seq (.ops zc3e) (.ret [2]))))
def zck7:TFn:=⟨6,zclf,[.tmp 2],false⟩
theorem zdiz:type_of% (ai @zc3d.eq_1 (ai @zc3e.eq_1 (ai @zclf.eq_1 @zck7.eq_1))):=⟨rfl,rfl,rfl,rfl⟩
theorem zdja:th Try.prog [] iz = some (6,zclf.erase,[.tmp 2]):=by kernel_rfl
def zcv6:List am:=[Qo 2 (.mov (.const (Go.Value.string ⟨#[]⟩)))]
def zcv7:List am:=[Qm 1 5 (.makeSl dv 1 [(.int .u8 0)] (ci 8) (ci 8)),
 Qa 3 5]
def zcv8:List am:=[Qa 6 3,
 Qo 7 (.lenL (t 6)),
 Qo 8 (.mov (ci 0))]
def zcv9:List am:=[Qo 9 (.bin .lss (t 8) (t 7))]
def zcwa:List am:=[Qa 10 8,
 Qa 4 10]
def zcwb:List am:=[Qa 11 3,
 Qa 12 4,
 Qa 13 0,
 Qa 14 4,
 Qo 15 (.bin .sub (ci 7) (t 14)),
 Qo 16 (.bin .mul (ci 8) (t 15)),
 Qo 17 (.bin .shr (t 13) (t 16)),
 Qo 18 (.conv .u8 (t 17)),
 Qo 19 (.indexSl 1 (t 11) (t 12)),
 ⟨⟨none,.store 1 (t 19) (t 18),none⟩,0⟩]
def zcwc:List am:=[Qo 20 (.bin .add (t 8) (ci 1)),
 Qa 8 20]
def zcfj:TC:=(.seq (.ops zcv9) (.clean [0,3,7,8,9] (.seq (.cond (t 9) .skip (.exit 0)) (.clean [0,3,7,8] (.seq (.block 1 [0,3,7,8] (.seq (.ops zcwa) (.clean [0,3,4,7,8] (.ops zcwb)))) (.clean [0,3,7,8] (.ops zcwc)))))))
def zcwd:List am:=[Qa 21 3,
 Qo 22 (.toStr (t 21)),
 Qa 2 22]
def zcjd:TC:=(.seq (.ops zcv6) (.clean [0] (.seq (.ops zcv7) (.clean [0,3] (.seq (.seq (.ops zcv8) (.block 0 [3] (.clean [0,3,7,8] (.loop [0,3,7,8] zcfj)))) (.clean [3] (.seq (.ops zcwd) (.ret [2]))))))))
def zciy:TFn:=⟨23,zcjd,[.tmp 2],false⟩
theorem zcev:type_of% (ai @zcv6.eq_1 (ai @zcv7.eq_1 (ai @zcv8.eq_1 (ai @zcv9.eq_1 (ai @zcwa.eq_1 (ai @zcwb.eq_1 (ai @zcwc.eq_1 (ai @zcwd.eq_1 (ai @zcjd.eq_1 @zciy.eq_1))))))))):=⟨rfl,rfl,rfl,rfl,rfl,rfl,rfl,rfl,rfl,rfl⟩
theorem zdcl:th Try.prog [] uv = some (23,zcjd.erase,[.tmp 2]):=by kernel_rfl
def zcyo:List am:=[Qo 2 (.mov (.const (Go.Value.string ⟨#[]⟩)))]
def zcyp:List am:=[Qa 3 0,
 Qo 4 (.lenS (t 3)),
 Qo 5 (.call uv [(t 4)]),
 Qa 6 0,
 Qo 7 (.bin .add (t 5) (t 6)),
 Qa 2 7]
def zcjy:TC:=(.seq (.ops zcyo) (.clean [0] (.seq (.ops zcyp) (.ret [2]))))
def zcjp:TFn:=⟨8,zcjy,[.tmp 2],false⟩
theorem zdd2:type_of% (ai @zcyo.eq_1 (ai @zcyp.eq_1 (ai @zcjy.eq_1 @zcjp.eq_1))):=⟨rfl,rfl,rfl,rfl⟩
theorem zddt:th Try.prog [] x6 = some (8,zcjy.erase,[.tmp 2]):=by kernel_rfl
end Ic
end Go.Proofs.Ytjgpklmkdkkooaa
