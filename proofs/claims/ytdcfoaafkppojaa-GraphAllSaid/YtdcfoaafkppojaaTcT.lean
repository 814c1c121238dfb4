import Derived.Test.YtdcfoaafkppojaaProg
import Derived.Test.YtdcfoaafkppojaaTv9
import Derived.KernelRfl
set_option linter.unusedVariables false
/- The code of functions for the tree level, printed by a program out of the model's own print; the kernel checks each. -/
namespace Go.Proofs.Ytdcfoaafkppojaa
open Go Go.RowKit Sh
namespace Ic
abbrev t (n : Nat) : Operand := .tmp n
abbrev ci (n : Int) : Operand := .const (.int .i64 n)
abbrev r6 : Nat := 6
abbrev ve : Nat := 16
abbrev pq : Nat := 24
abbrev zb42 : Nat := 28
abbrev za : Nat := 29
abbrev po : Nat := 30
abbrev ut : Nat := 31
abbrev mj : Nat := 32
abbrev pp : Nat := 33
abbrev o7 : Nat := 34
abbrev zb5k : Nat := 35
abbrev qf : Nat := 36
abbrev zb46 : Nat := 37
abbrev qy : Nat := 38
abbrev zb5i : Nat := 39
abbrev qx : Nat := 40
abbrev zb5j : Nat := 41
abbrev o6 : Nat := 47
abbrev pt : Nat := 48
abbrev zb44 : Nat := 54
abbrev vf : Nat := 55
abbrev zb6w : Nat := 56
abbrev cz : Nat := 57
abbrev kj : Nat := 58
abbrev j9 : Nat := 59
abbrev yz : Nat := 60
abbrev en : Nat := 61
abbrev dt : Nat := 62
abbrev bn : Nat := 63
abbrev je : Nat := 64
abbrev zb4x : Nat := 65
abbrev ms : Nat := 66
abbrev km : Nat := 67
abbrev kl : Nat := 68
abbrev ur : Nat := 87
abbrev ny : Nat := 88
abbrev uq : Nat := 89
abbrev zb47 : Nat := 90
abbrev jd : Nat := 91
abbrev iu : Nat := 92
abbrev j8 : Nat := 93
abbrev mb : Nat := 94
abbrev dg : Nat := 95
abbrev zx : Nat := 96
abbrev vd : Nat := 97
abbrev vc : Nat := 98
abbrev zb45 : Nat := 99
abbrev ni : Nat := 119
abbrev zb17 : Nat := 120
abbrev zz : Nat := 121
abbrev zy : Nat := 122
abbrev zb43 : Nat := 123
abbrev gu : Nat := 124
abbrev ix : Nat := 125
abbrev b9 : Nat := 126
abbrev bz : Nat := 131
abbrev jc : Nat := 132
abbrev fg : Nat := 133
abbrev zb5g : Nat := 136
abbrev qz : Nat := 137
abbrev y0 : Nat := 138
abbrev cg : Nat := 141
abbrev zb5h : Nat := 143
abbrev lp : Nat := 144
abbrev cy : Nat := 3
abbrev zb9y : Nat := 4
abbrev ph : Nat := 5
abbrev il : Nat := 9
abbrev zbwr : Nat := 24
abbrev am : Nat := 27
abbrev ju : Nat := 43
abbrev jj : Nat := 45
abbrev qa : Nat := 87
abbrev qo : Nat := 110
abbrev ff : Nat := 130
abbrev li : Nat := 136
abbrev Qo (d : Nat) (x : I) : ak := ⟨⟨some d,x,none⟩,0⟩
abbrev Qt (j d : Nat) (x : I) : ak := ⟨⟨some d,x,some (j,true)⟩,0⟩
abbrev Qf (j d : Nat) (x : I) : ak := ⟨⟨some d,x,some (j,false)⟩,0⟩
abbrev Qm (m d : Nat) (x : I) : ak := ⟨⟨some d,x,none⟩,m⟩
abbrev QF : Operand := .const (Go.Value.bool false)
abbrev QT : Operand := .const (Go.Value.bool true)
def zc0v : List ak := [Qo 3 (.box am 7 (t 0)),
 Qo 6 (.mov QF)]
def zc0w : List ak := [Qo 7 (.loadN 7 (t 3)),
 Qo 8 (.call ve [(t 7)]),
 Qo 9 (.un .not (t 8)),
 Qo 10 (.mov (t 9)),
 Qf 10 11 (.mov (t 1)),
 Qf 10 12 (.lenL (t 11)),
 Qf 10 13 (.bin .gtr (t 12) (ci 12)),
 Qo 14 (.pick (t 10) QT (t 13))]
def zc0x : List ak := [Qo 15 (.call za []),
 Qo 6 (.mov (t 15))]
def zc0y : List ak := [Qo 16 (.loadN 7 (t 3)),
 Qo 18 (.loadN 7 (t 3)),
 Qo 17 (.call po [(t 16)]),
 Qo 19 (.call ut [(t 18)]),
 Qo 20 (.eqB false (t 17) (t 19)),
 Qo 21 (.mov (t 20)),
 Qt 21 22 (.loadN 7 (t 3)),
 Qt 21 24 (.loadN 7 (t 3)),
 Qt 21 23 (.call mj [(t 22)]),
 Qt 21 25 (.call pp [(t 24)]),
 Qt 21 26 (.eqB false (t 23) (t 25)),
 Qo 27 (.pick (t 21) (t 26) QF),
 Qo 28 (.mov (t 27)),
 Qt 28 29 (.loadN 7 (t 3)),
 Qt 28 31 (.loadN 7 (t 3)),
 Qt 28 30 (.call o7 [(t 29)]),
 Qt 28 32 (.call zb5k [(t 31)]),
 Qt 28 33 (.eqB false (t 30) (t 32)),
 Qo 34 (.pick (t 28) (t 33) QF),
 Qo 35 (.mov (t 34)),
 Qt 35 36 (.loadN 7 (t 3)),
 Qt 35 37 (.mov (t 1)),
 Qt 35 39 (.loadN 7 (t 3)),
 Qt 35 40 (.mov (t 1)),
 Qt 35 38 (.call qf [(t 36),(t 37)]),
 Qt 35 41 (.call zb46 [(t 39),(t 40)]),
 Qt 35 42 (.eqB false (t 38) (t 41)),
 Qo 43 (.pick (t 35) (t 42) QF),
 Qo 44 (.mov (t 43)),
 Qt 44 45 (.loadN 7 (t 3)),
 Qt 44 46 (.mov (t 2)),
 Qt 44 48 (.loadN 7 (t 3)),
 Qt 44 49 (.mov (t 2)),
 Qt 44 47 (.call qy [(t 45),(t 46)]),
 Qt 44 50 (.call zb5i [(t 48),(t 49)]),
 Qt 44 51 (.call pq [(t 47),(t 50)]),
 Qo 52 (.pick (t 44) (t 51) QF),
 Qo 53 (.mov (t 52)),
 Qt 53 54 (.loadN 7 (t 3)),
 Qt 53 55 (.mov (t 2)),
 Qt 53 57 (.loadN 7 (t 3)),
 Qt 53 58 (.mov (t 2)),
 Qt 53 56 (.call qx [(t 54),(t 55)]),
 Qt 53 59 (.call zb5j [(t 57),(t 58)]),
 Qt 53 60 (.call pq [(t 56),(t 59)]),
 Qo 61 (.pick (t 53) (t 60) QF),
 Qo 62 (.mov (t 61)),
 Qt 62 63 (.call za []),
 Qo 64 (.pick (t 62) (t 63) QF),
 Qo 6 (.mov (t 64))]
def zcfr : TC := (.seq (.ops zc0v) (.clean [1,2,3] (.seq (.seq (.ops zc0w) (.clean [1,2,3,14] (.cond (t 14) (.seq (.ops zc0x) (.ret [6])) .skip))) (.clean [1,2,3] (.seq (.draw (pl zc0y)) (.ret [6]))))))
def zcfz : TFn := ⟨65,zcfr,[.tmp 6],false⟩
theorem lx : type_of% (ai @zc0v.eq_1 (ai @zc0w.eq_1 (ai @zc0x.eq_1 (ai @zc0y.eq_1 (ai @zcfr.eq_1 @zcfz.eq_1))))) := ⟨rfl,rfl,rfl,rfl,rfl,rfl⟩
theorem zdfg : u7 Try.prog [(3,⟨[0,2,1,3,4,5,6,8,7,9,10,11,12,13,15,14,16,17,18,19,20,21,23,24,22,25,26,27,28,29,30,32,33,31,34,35,36,37,38,39,41,42,40,43,44,45,46,47,48,49],[0,1,0,7,15,31,63,127,63,511,1023,2047,4095,8191,16383,8191,65535,131071,262143,524287,1048575,1048575,4194303,1048575,1048575,33554431,67108863,134217727,268435455,536870911,536870911,2147483647,536870911,536870911,17179869183,34359738367,68719476735,137438953471,274877906943,274877906943,1099511627775,274877906943,274877906943,8796093022207,17592186044415,35184372088831,70368744177663,140737488355327,281474976710655,562949953421311],[],[]⟩)] r6 = some (65,zcfr.erase,[.tmp 6]) := by kernel_rfl
def zcyh : List ak := [Qo 1 (.box am 7 (t 0)),
 Qo 2 (.mov QF)]
def zcyi : List ak := [Qo 7 (.fieldAddr 1 (t 1)),
 Qo 8 (.load1 (t 7)),
 Qo 9 (.lenL (t 8)),
 Qo 10 (.bin .gtr (t 9) (ci 10)),
 Qo 11 (.mov (t 10)),
 Qf 11 12 (.fieldAddr 2 (t 1)),
 Qf 11 13 (.load1 (t 12)),
 Qf 11 14 (.lenL (t 13)),
 Qf 11 15 (.bin .gtr (t 14) (ci 20)),
 Qo 16 (.pick (t 11) QT (t 15)),
 Qo 17 (.mov (t 16)),
 Qf 17 18 (.fieldAddr 3 (t 1)),
 Qf 17 19 (.load1 (t 18)),
 Qf 17 20 (.lenL (t 19)),
 Qf 17 21 (.bin .gtr (t 20) (ci 6)),
 Qo 22 (.pick (t 17) QT (t 21)),
 Qo 23 (.mov (t 22)),
 Qf 23 24 (.fieldAddr 4 (t 1)),
 Qf 23 25 (.load1 (t 24)),
 Qf 23 26 (.lenL (t 25)),
 Qf 23 27 (.bin .gtr (t 26) (ci 6)),
 Qo 28 (.pick (t 23) QT (t 27)),
 Qo 29 (.mov (t 28)),
 Qf 29 30 (.fieldAddr 0 (t 1)),
 Qf 29 31 (.load1 (t 30)),
 Qf 29 32 (.lenS (t 31)),
 Qf 29 33 (.bin .gtr (t 32) (ci 40)),
 Qo 34 (.pick (t 29) QT (t 33))]
def zcyj : List ak := [Qo 2 (.mov QF)]
def zcyk : List ak := [Qo 3 (.mov (ci 0))]
def zczb : List ak := [Qo 35 (.mov (t 3)),
 Qo 36 (.fieldAddr 1 (t 1)),
 Qo 37 (.load1 (t 36)),
 Qo 38 (.lenL (t 37)),
 Qo 39 (.bin .lss (t 35) (t 38))]
def zczd : List ak := [Qo 42 (.fieldAddr 1 (t 1)),
 Qo 43 (.load1 (t 42)),
 Qo 44 (.mov (t 3)),
 Qo 45 (.indexSl 2 (t 43) (t 44)),
 Qo 46 (.fieldAddr 1 (t 45)),
 Qo 47 (.load1 (t 46)),
 Qo 48 (.lenL (t 47)),
 Qo 49 (.bin .gtr (t 48) (ci 6)),
 Qo 50 (.mov (t 49)),
 Qf 50 51 (.fieldAddr 1 (t 1)),
 Qf 50 52 (.load1 (t 51)),
 Qf 50 53 (.mov (t 3)),
 Qf 50 54 (.indexSl 2 (t 52) (t 53)),
 Qf 50 55 (.fieldAddr 0 (t 54)),
 Qf 50 56 (.load1 (t 55)),
 Qf 50 57 (.lenS (t 56)),
 Qf 50 58 (.bin .gtr (t 57) (ci 40)),
 Qo 59 (.pick (t 50) QT (t 58))]
def zcze : List ak := [Qo 2 (.mov QF)]
def zczf : List ak := [Qo 4 (.mov (ci 0))]
def zczg : List ak := [Qo 60 (.mov (t 4)),
 Qo 61 (.fieldAddr 1 (t 1)),
 Qo 62 (.load1 (t 61)),
 Qo 63 (.mov (t 3)),
 Qo 64 (.indexSl 2 (t 62) (t 63)),
 Qo 65 (.fieldAddr 1 (t 64)),
 Qo 66 (.load1 (t 65)),
 Qo 67 (.lenL (t 66)),
 Qo 68 (.bin .lss (t 60) (t 67))]
def zc1i : List ak := [Qo 71 (.fieldAddr 1 (t 1)),
 Qo 72 (.load1 (t 71)),
 Qo 73 (.mov (t 3)),
 Qo 74 (.indexSl 2 (t 72) (t 73)),
 Qo 75 (.fieldAddr 1 (t 74)),
 Qo 76 (.load1 (t 75)),
 Qo 77 (.mov (t 4)),
 Qo 78 (.indexSl 1 (t 76) (t 77)),
 Qo 79 (.load1 (t 78)),
 Qo 80 (.lenS (t 79)),
 Qo 81 (.bin .gtr (t 80) (ci 40))]
def zc1j : List ak := [Qo 2 (.mov QF)]
def zc0r : List ak := [Qo 69 (.mov (t 4)),
 Qo 70 (.bin .add (t 69) (ci 1)),
 Qo 4 (.mov (t 70))]
def t7 : TC := (.seq (.seq (.ops zczg) (.clean [1,3,4,68] (.cond (t 68) .skip (.exit 2)))) (.clean [1,3,4] (.seq (.block 3 [1,3,4] (.seq (.ops zc1i) (.clean [1,3,4,81] (.cond (t 81) (.seq (.ops zc1j) (.ret [2])) .skip)))) (.clean [1,3,4] (.ops zc0r)))))
def zczc : List ak := [Qo 40 (.mov (t 3)),
 Qo 41 (.bin .add (t 40) (ci 1)),
 Qo 3 (.mov (t 41))]
def l7 : TC := (.seq (.seq (.ops zczb) (.clean [1,3,39] (.cond (t 39) .skip (.exit 0)))) (.clean [1,3] (.seq (.block 1 [1,3] (.seq (.seq (.ops zczd) (.clean [1,3,59] (.cond (t 59) (.seq (.ops zcze) (.ret [2])) .skip))) (.clean [1,3] (.seq (.ops zczf) (.block 2 [1,3] (.clean [1,3,4] (.loop [1,3,4] t7))))))) (.clean [1,3] (.ops zczc)))))
def zc1k : List ak := [Qo 5 (.mov (ci 0))]
def zc1l : List ak := [Qo 82 (.mov (t 5)),
 Qo 83 (.fieldAddr 2 (t 1)),
 Qo 84 (.load1 (t 83)),
 Qo 85 (.lenL (t 84)),
 Qo 86 (.bin .lss (t 82) (t 85))]
def zc1n : List ak := [Qo 89 (.fieldAddr 2 (t 1)),
 Qo 90 (.load1 (t 89)),
 Qo 91 (.mov (t 5)),
 Qo 92 (.indexSl 5 (t 90) (t 91)),
 Qo 93 (.fieldAddr 3 (t 92)),
 Qo 94 (.load1 (t 93)),
 Qo 95 (.lenS (t 94)),
 Qo 96 (.bin .gtr (t 95) (ci 40))]
def zc1o : List ak := [Qo 2 (.mov QF)]
def zc1m : List ak := [Qo 87 (.mov (t 5)),
 Qo 88 (.bin .add (t 87) (ci 1)),
 Qo 5 (.mov (t 88))]
def t6 : TC := (.seq (.seq (.ops zc1l) (.clean [1,5,86] (.cond (t 86) .skip (.exit 4)))) (.clean [1,5] (.seq (.block 5 [1,5] (.seq (.ops zc1n) (.clean [1,5,96] (.cond (t 96) (.seq (.ops zc1o) (.ret [2])) .skip)))) (.clean [1,5] (.ops zc1m)))))
def zc1p : List ak := [Qo 6 (.mov (ci 0))]
def zc1q : List ak := [Qo 97 (.mov (t 6)),
 Qo 98 (.fieldAddr 4 (t 1)),
 Qo 99 (.load1 (t 98)),
 Qo 100 (.lenL (t 99)),
 Qo 101 (.bin .lss (t 97) (t 100))]
def zc0s : List ak := [Qo 104 (.fieldAddr 4 (t 1)),
 Qo 105 (.load1 (t 104)),
 Qo 106 (.mov (t 6)),
 Qo 107 (.indexSl 1 (t 105) (t 106)),
 Qo 108 (.load1 (t 107)),
 Qo 109 (.lenS (t 108)),
 Qo 110 (.bin .gtr (t 109) (ci 40))]
def zc0t : List ak := [Qo 2 (.mov QF)]
def zc1r : List ak := [Qo 102 (.mov (t 6)),
 Qo 103 (.bin .add (t 102) (ci 1)),
 Qo 6 (.mov (t 103))]
def t5 : TC := (.seq (.seq (.ops zc1q) (.clean [1,6,101] (.cond (t 101) .skip (.exit 6)))) (.clean [1,6] (.seq (.block 7 [1,6] (.seq (.ops zc0s) (.clean [1,6,110] (.cond (t 110) (.seq (.ops zc0t) (.ret [2])) .skip)))) (.clean [1,6] (.ops zc1r)))))
def zc0u : List ak := [Qo 2 (.mov QT)]
def zcfg : TC := (.seq (.ops zcyh) (.clean [1] (.seq (.seq (.ops zcyi) (.clean [1,34] (.cond (t 34) (.seq (.ops zcyj) (.ret [2])) .skip))) (.clean [1] (.seq (.seq (.ops zcyk) (.block 0 [1] (.clean [1,3] (.loop [1,3] l7)))) (.clean [1] (.seq (.seq (.ops zc1k) (.block 4 [1] (.clean [1,5] (.loop [1,5] t6)))) (.clean [1] (.seq (.seq (.ops zc1p) (.block 6 [] (.clean [1,6] (.loop [1,6] t5)))) (.clean [] (.seq (.ops zc0u) (.ret [2]))))))))))))
def zce5 : TFn := ⟨111,zcfg,[.tmp 2],false⟩
theorem bc : type_of% (ai @zcyh.eq_1 (ai @zcyi.eq_1 (ai @zcyj.eq_1 (ai @zcyk.eq_1 (ai @zczb.eq_1 (ai @zczd.eq_1 (ai @zcze.eq_1 (ai @zczf.eq_1 (ai @zczg.eq_1 (ai @zc1i.eq_1 (ai @zc1j.eq_1 (ai @zc0r.eq_1 (ai @zczc.eq_1 (ai @zc1k.eq_1 (ai @zc1l.eq_1 (ai @zc1n.eq_1 (ai @zc1o.eq_1 (ai @zc1m.eq_1 (ai @zc1p.eq_1 (ai @zc1q.eq_1 (ai @zc0s.eq_1 (ai @zc0t.eq_1 (ai @zc1r.eq_1 (ai @zc0u.eq_1 (ai @zcfg.eq_1 @zce5.eq_1))))))))))))))))))))))))) := ⟨rfl,rfl,rfl,rfl,rfl,rfl,rfl,rfl,rfl,rfl,rfl,rfl,rfl,rfl,rfl,rfl,rfl,rfl,rfl,rfl,rfl,rfl,rfl,rfl,rfl,rfl⟩
theorem zdd8 : u7 Try.prog [] ve = some (111,zcfg.erase,[.tmp 2]) := by kernel_rfl
def zc0z : List ak := [Qo 4 (.mov QF)]
def zc00 : List ak := [Qo 6 (.mov (t 0)),
 Qo 7 (.lenL (t 6)),
 Qo 8 (.mov (t 1)),
 Qo 9 (.lenL (t 8)),
 Qo 10 (.bin .neq (t 7) (t 9))]
def zc01 : List ak := [Qo 4 (.mov QF)]
def zc02 : List ak := [Qo 5 (.mov (ci 0))]
def zc03 : List ak := [Qo 11 (.mov (t 5)),
 Qo 12 (.mov (t 0)),
 Qo 13 (.lenL (t 12)),
 Qo 14 (.bin .lss (t 11) (t 13))]
def zc05 : List ak := [Qo 17 (.mov (t 0)),
 Qo 18 (.mov (t 5)),
 Qo 19 (.indexSl 1 (t 17) (t 18)),
 Qo 20 (.load1 (t 19)),
 Qo 21 (.mov (t 1)),
 Qo 22 (.mov (t 5)),
 Qo 23 (.indexSl 1 (t 21) (t 22)),
 Qo 24 (.load1 (t 23)),
 Qo 25 (.bin .neq (t 20) (t 24))]
def zc06 : List ak := [Qo 4 (.mov QF)]
def zc04 : List ak := [Qo 15 (.mov (t 5)),
 Qo 16 (.bin .add (t 15) (ci 1)),
 Qo 5 (.mov (t 16))]
def rh : TC := (.seq (.seq (.ops zc03) (.clean [0,1,5,14] (.cond (t 14) .skip (.exit 0)))) (.clean [0,1,5] (.seq (.block 1 [0,1,5] (.seq (.draw (pl zc05)) (.clean [0,1,5,25] (.cond (t 25) (.seq (.ops zc06) (.ret [4])) .skip)))) (.clean [0,1,5] (.ops zc04)))))
def zc07 : List ak := [Qo 4 (.mov QT)]
def zcfs : TC := (.seq (.ops zc0z) (.clean [0,1] (.seq (.seq (.ops zc00) (.clean [0,1,10] (.cond (t 10) (.seq (.ops zc01) (.ret [4])) .skip))) (.clean [0,1] (.seq (.seq (.ops zc02) (.block 0 [] (.clean [0,1,5] (.loop [0,1,5] rh)))) (.clean [] (.seq (.ops zc07) (.ret [4]))))))))
def zcf0 : TFn := ⟨26,zcfs,[.tmp 4],false⟩
theorem pg : type_of% (ai @zc0z.eq_1 (ai @zc00.eq_1 (ai @zc01.eq_1 (ai @zc02.eq_1 (ai @zc03.eq_1 (ai @zc05.eq_1 (ai @zc06.eq_1 (ai @zc04.eq_1 (ai @zc07.eq_1 (ai @zcfs.eq_1 @zcf0.eq_1)))))))))) := ⟨rfl,rfl,rfl,rfl,rfl,rfl,rfl,rfl,rfl,rfl,rfl⟩
theorem zdfh : u7 Try.prog [(6,⟨[0,1,2,3,4,5,6,7,8],[0,0,3,7,0,0,48,112,255],[],[]⟩)] pq = some (26,zcfs.erase,[.tmp 4]) := by kernel_rfl
def zcsx : List ak := [Qo 0 (.mov QF)]
def zcsy : List ak := [Qo 2 (.call zb42 [(ci 3),(ci 5),(ci 6)]),
 Qo 1 (.box am 7 (.const (.agg #[(.string ⟨#[]⟩),(.slice none 0 0),(.slice none 0 0),(.slice none 0 0),(.slice none 0 0),(.int .i64 0),(.int .i64 0)]))),
 ⟨⟨none,.store 7 (t 1) (t 2),none⟩,0⟩]
def zcsz : List ak := [Qo 3 (.loadN 7 (t 1)),
 Qo 4 (.call o7 [(t 3)]),
 Qo 5 (.mov (t 4)),
 Qt 5 6 (.loadN 7 (t 1)),
 Qt 5 7 (.buildSl cy 1 3 [(.int .i64 0),(.int .i64 0),(.int .i64 0)] [(0,1,(ci 0)),(1,1,(ci 1)),(2,1,(ci 2))]),
 Qt 5 8 (.call qf [(t 6),(t 7)]),
 Qo 9 (.pick (t 5) (t 8) QF),
 Qo 10 (.mov (t 9)),
 Qt 10 11 (.loadN 7 (t 1)),
 Qt 10 12 (.buildSl cy 1 2 [(.int .i64 0),(.int .i64 0)] [(0,1,(ci 0)),(1,1,(ci 2))]),
 Qt 10 13 (.call qf [(t 11),(t 12)]),
 Qt 10 14 (.un .not (t 13)),
 Qo 15 (.pick (t 10) (t 14) QF),
 Qo 16 (.mov (t 15)),
 Qt 16 17 (.loadN 7 (t 1)),
 Qt 16 18 (.call qy [(t 17),(ci 0)]),
 Qt 16 19 (.lenL (t 18)),
 Qt 16 20 (.bin .eql (t 19) (ci 1)),
 Qo 21 (.pick (t 16) (t 20) QF),
 Qo 22 (.mov (t 21)),
 Qt 22 23 (.loadN 7 (t 1)),
 Qt 22 24 (.call qx [(t 23),(ci 0)]),
 Qt 22 25 (.lenL (t 24)),
 Qt 22 26 (.bin .eql (t 25) (ci 1)),
 Qo 27 (.pick (t 22) (t 26) QF),
 Qo 28 (.mov (t 27)),
 Qt 28 29 (.build [(.string ⟨#[]⟩),(.slice none 0 0),(.slice none 0 0),(.slice none 0 0),(.slice none 0 0),(.int .i64 0),(.int .i64 0)] []),
 Qt 28 30 (.call o7 [(t 29)]),
 Qt 28 31 (.un .not (t 30)),
 Qo 32 (.pick (t 28) (t 31) QF),
 Qo 0 (.mov (t 32))]
def zcec : TC := (.seq (.ops zcsx) (.clean [] (.seq (.ops zcsy) (.clean [1] (.seq (.ops zcsz) (.ret [0]))))))
def zcd6 : TFn := ⟨33,zcec,[.tmp 0],false⟩
theorem zb5p : type_of% (ai @zcsx.eq_1 (ai @zcsy.eq_1 (ai @zcsz.eq_1 (ai @zcec.eq_1 @zcd6.eq_1)))) := ⟨rfl,rfl,rfl,rfl,rfl⟩
theorem zdam : u7 Try.prog [] za = some (33,zcec.erase,[.tmp 0]) := by kernel_rfl
def zcqh : List ak := [Qo 6 (.box am 7 (.const (.agg #[(.string ⟨#[]⟩),(.slice none 0 0),(.slice none 0 0),(.slice none 0 0),(.slice none 0 0),(.int .i64 0),(.int .i64 0)])))]
def zcqi : List ak := [Qo 9 (.mov (t 0)),
 Qo 10 (.call zb44 [(t 9),(ci 0),(ci 2)]),
 Qo 11 (.buildSl cy 1 1 [(.int .i64 0)] [(0,1,(ci 0))]),
 Qo 12 (.mov (t 1)),
 Qo 13 (.mov (t 2)),
 Qo 14 (.build [(.string ⟨#[]⟩),(.slice none 0 0),(.slice none 0 0),(.slice none 0 0),(.slice none 0 0),(.int .i64 0),(.int .i64 0)] [(0,1,(.const (Go.Value.string ⟨#[114,105,110,103]⟩))),(2,1,(t 10)),(3,1,(t 11)),(5,1,(t 12)),(6,1,(t 13))]),
 Qo 7 (.box am 7 (.const (.agg #[(.string ⟨#[]⟩),(.slice none 0 0),(.slice none 0 0),(.slice none 0 0),(.slice none 0 0),(.int .i64 0),(.int .i64 0)]))),
 ⟨⟨none,.store 7 (t 7) (t 14),none⟩,0⟩]
def zcqj : List ak := [Qo 8 (.mov (ci 0))]
def zcqk : List ak := [Qo 15 (.mov (t 8)),
 Qo 16 (.mov (t 0)),
 Qo 17 (.bin .lss (t 15) (t 16))]
def zcqm : List ak := [Qo 20 (.fieldAddr 1 (t 7)),
 Qo 21 (.load1 (t 20)),
 Qo 22 (.mov (t 8)),
 Qo 23 (.call vf [(t 22)]),
 Qo 24 (.build [(.string ⟨#[]⟩),(.slice none 0 0)] [(0,1,(t 23))]),
 Qo 25 (.buildSl jj 2 1 [(.string ⟨#[]⟩),(.slice none 0 0)] [(0,2,(t 24))]),
 Qm 1 26 (.append jj 2 40 (t 21) (t 25)),
 Qm 9 27 (.fieldAddr 1 (t 7)),
 ⟨⟨none,.store 1 (t 27) (t 26),none⟩,0⟩]
def zcql : List ak := [Qo 18 (.mov (t 8)),
 Qo 19 (.bin .add (t 18) (ci 1)),
 Qo 8 (.mov (t 19))]
def zb60 : TC := (.seq (.seq (.ops zcqk) (.clean [0,6,7,8,17] (.cond (t 17) .skip (.exit 0)))) (.clean [0,6,7,8] (.seq (.block 1 [0,6,7,8] (.draw (pl zcqm))) (.clean [0,6,7,8] (.ops zcql)))))
def zcqn : List ak := [Qo 28 (.loadN 7 (t 7)),
 Qo 29 (.call zb6w [(t 28)]),
 ⟨⟨none,.store 7 (t 6) (t 29),none⟩,9⟩]
def zcdo : TC := (.seq (.ops zcqh) (.clean [0,1,2,6] (.seq (.ops zcqi) (.clean [0,6,7] (.seq (.seq (.ops zcqj) (.block 0 [6,7] (.clean [0,6,7,8] (.loop [0,6,7,8] zb60)))) (.clean [6,7] (.seq (.ops zcqn) (.ret [6]))))))))
def zcdb : TFn := ⟨30,zcdo,[.cellN 6 7],true⟩
theorem zcak : type_of% (ai @zcqh.eq_1 (ai @zcqi.eq_1 (ai @zcqj.eq_1 (ai @zcqk.eq_1 (ai @zcqm.eq_1 (ai @zcql.eq_1 (ai @zcqn.eq_1 (ai @zcdo.eq_1 @zcdb.eq_1)))))))) := ⟨rfl,rfl,rfl,rfl,rfl,rfl,rfl,rfl,rfl⟩
theorem zbod : u7 Try.prog [(5,⟨[0,1,2,3,4,5,6,7,8],[0,1,0,4,12,28,63,127,255],[],[]⟩)] zb42 = some (30,zcdo.erase,[.cellN 6 7]) := by kernel_rfl
def zcqq : List ak := [Qo 6 (.mov (.const (Go.Value.slice none 0 0)))]
def zcqr : List ak := [Qo 7 (.mov (.const (Go.Value.slice none 0 0)))]
def zcqs : List ak := [Qo 8 (.mov (ci 0))]
def zcrj : List ak := [Qo 12 (.mov (t 8)),
 Qo 13 (.mov (t 0)),
 Qo 14 (.bin .lss (t 12) (t 13))]
def zcrl : List ak := [Qo 17 (.mov (t 7)),
 Qo 18 (.mov (t 8)),
 Qo 19 (.mov (t 8)),
 Qo 20 (.bin .add (t 19) (ci 1)),
 Qo 21 (.mov (t 0)),
 Qo 22 (.bin .rem (t 20) (t 21)),
 Qo 23 (.build [(.int .i64 0),(.int .i64 0),(.int .i64 0),(.string ⟨#[]⟩),(.int .i64 0)] [(0,1,(t 18)),(1,1,(t 22))]),
 Qo 24 (.buildSl ju 5 1 [(.int .i64 0),(.int .i64 0),(.int .i64 0),(.string ⟨#[]⟩),(.int .i64 0)] [(0,5,(t 23))]),
 Qm 1 25 (.append ju 5 48 (t 17) (t 24)),
 Qo 7 (.mov (t 25))]
def zcrk : List ak := [Qo 15 (.mov (t 8)),
 Qo 16 (.bin .add (t 15) (ci 1)),
 Qo 8 (.mov (t 16))]
def zo : TC := (.seq (.seq (.ops zcrj) (.clean [0,1,2,7,8,14] (.cond (t 14) .skip (.exit 0)))) (.clean [0,1,2,7,8] (.seq (.block 1 [0,1,2,7,8] (.ops zcrl)) (.clean [0,1,2,7,8] (.ops zcrk)))))
def zcrm : List ak := [Qo 9 (.mov (ci 0))]
def zcrn : List ak := [Qo 26 (.mov (t 9)),
 Qo 27 (.mov (t 0)),
 Qo 28 (.bin .lss (t 26) (t 27))]
def zcrp : List ak := [Qo 10 (.mov (ci 0))]
def zcsj : List ak := [Qo 31 (.mov (t 10)),
 Qo 32 (.mov (t 0)),
 Qo 33 (.bin .lss (t 31) (t 32))]
def zcsl : List ak := [Qo 36 (.mov (t 9)),
 Qo 37 (.mov (t 10)),
 Qo 38 (.bin .eql (t 36) (t 37)),
 Qo 39 (.mov (t 38)),
 Qf 39 40 (.mov (t 10)),
 Qf 39 41 (.mov (t 9)),
 Qf 39 42 (.bin .add (t 41) (ci 1)),
 Qf 39 43 (.mov (t 0)),
 Qf 39 44 (.bin .rem (t 42) (t 43)),
 Qf 39 45 (.bin .eql (t 40) (t 44)),
 Qo 46 (.pick (t 39) QT (t 45))]
def zcsm : List ak := [Qo 47 (.mov (t 1)),
 Qo 48 (.bin .rem (t 47) (ci 2)),
 Qo 49 (.bin .eql (t 48) (ci 1)),
 Qo 50 (.mov (t 49)),
 Qt 50 51 (.mov (t 7)),
 Qt 50 52 (.lenL (t 51)),
 Qt 50 53 (.bin .lss (t 52) (ci 8)),
 Qo 54 (.pick (t 50) (t 53) QF)]
def zcsn : List ak := [Qo 55 (.mov (t 7)),
 Qo 56 (.mov (t 9)),
 Qo 57 (.mov (t 10)),
 Qo 58 (.build [(.int .i64 0),(.int .i64 0),(.int .i64 0),(.string ⟨#[]⟩),(.int .i64 0)] [(0,1,(t 56)),(1,1,(t 57))]),
 Qo 59 (.buildSl ju 5 1 [(.int .i64 0),(.int .i64 0),(.int .i64 0),(.string ⟨#[]⟩),(.int .i64 0)] [(0,5,(t 58))]),
 Qm 1 60 (.append ju 5 48 (t 55) (t 59)),
 Qo 7 (.mov (t 60))]
def zcso : List ak := [Qo 61 (.mov (t 1)),
 Qo 62 (.bin .quo (t 61) (ci 2)),
 Qo 1 (.mov (t 62))]
def zcsk : List ak := [Qo 34 (.mov (t 10)),
 Qo 35 (.bin .add (t 34) (ci 1)),
 Qo 10 (.mov (t 35))]
def jr : TC := (.seq (.seq (.ops zcsj) (.clean [0,1,2,7,9,10,33] (.cond (t 33) .skip (.exit 4)))) (.clean [0,1,2,7,9,10] (.seq (.block 5 [0,1,2,7,9,10] (.seq (.seq (.ops zcsl) (.clean [0,1,2,7,9,10,46] (.cond (t 46) (.exit 5) .skip))) (.clean [0,1,2,7,9,10] (.seq (.seq (.ops zcsm) (.clean [0,1,2,7,9,10,54] (.cond (t 54) (.ops zcsn) .skip))) (.clean [0,1,2,7,9,10] (.ops zcso)))))) (.clean [0,1,2,7,9,10] (.ops zcsk)))))
def zcro : List ak := [Qo 29 (.mov (t 9)),
 Qo 30 (.bin .add (t 29) (ci 1)),
 Qo 9 (.mov (t 30))]
def zn : TC := (.seq (.seq (.ops zcrn) (.clean [0,1,2,7,9,28] (.cond (t 28) .skip (.exit 2)))) (.clean [0,1,2,7,9] (.seq (.block 3 [0,1,2,7,9] (.seq (.ops zcrp) (.block 4 [0,1,2,7,9] (.clean [0,1,2,7,9,10] (.loop [0,1,2,7,9,10] jr))))) (.clean [0,1,2,7,9] (.ops zcro)))))
def zcsp : List ak := [Qo 11 (.mov (ci 0))]
def zcsq : List ak := [Qo 63 (.mov (t 11)),
 Qo 64 (.mov (t 7)),
 Qo 65 (.lenL (t 64)),
 Qo 66 (.bin .lss (t 63) (t 65))]
def zcss : List ak := [Qo 69 (.mov (t 7)),
 Qo 70 (.mov (t 11)),
 Qo 71 (.mov (t 11)),
 Qo 72 (.mov (t 2)),
 Qo 73 (.bin .add (t 71) (t 72)),
 Qo 74 (.mov (t 2)),
 Qo 75 (.bin .rem (t 74) (ci 3)),
 Qo 76 (.bin .add (ci 1) (t 75)),
 Qo 77 (.bin .rem (t 73) (t 76)),
 Qo 78 (.indexSl 5 (t 69) (t 70)),
 Qo 79 (.fieldAddr 2 (t 78)),
 ⟨⟨none,.store 1 (t 79) (t 77),none⟩,0⟩]
def zcst : List ak := [Qo 80 (.mov (t 7)),
 Qo 81 (.mov (t 11)),
 Qo 82 (.build [(.string ⟨#[]⟩),(.string ⟨#[]⟩)] [(0,1,(.const (Go.Value.string ⟨#[103,111,108,100]⟩))),(1,1,(.const (Go.Value.string ⟨#[115,97,108,116]⟩)))]),
 Qo 83 (.mov (t 11)),
 Qo 84 (.mov (t 1)),
 Qo 85 (.bin .add (t 83) (t 84)),
 Qo 86 (.bin .rem (t 85) (ci 2)),
 Qo 87 (.indexAgg 2 (t 82) (t 86)),
 Qo 88 (.indexSl 5 (t 80) (t 81)),
 Qo 89 (.fieldAddr 3 (t 88)),
 ⟨⟨none,.store 1 (t 89) (t 87),none⟩,0⟩]
def zctl : List ak := [Qo 90 (.mov (t 7)),
 Qo 91 (.mov (t 11)),
 Qo 92 (.mov (t 11)),
 Qo 93 (.bin .mul (ci 7) (t 92)),
 Qo 94 (.mov (t 2)),
 Qo 95 (.bin .add (t 93) (t 94)),
 Qo 96 (.bin .rem (t 95) (ci 20)),
 Qo 97 (.bin .add (ci 1) (t 96)),
 Qo 98 (.indexSl 5 (t 90) (t 91)),
 Qo 99 (.fieldAddr 4 (t 98)),
 ⟨⟨none,.store 1 (t 99) (t 97),none⟩,0⟩]
def zcsr : List ak := [Qo 67 (.mov (t 11)),
 Qo 68 (.bin .add (t 67) (ci 1)),
 Qo 11 (.mov (t 68))]
def zb61 : TC := (.seq (.seq (.ops zcsq) (.clean [1,2,7,11,66] (.cond (t 66) .skip (.exit 6)))) (.clean [1,2,7,11] (.seq (.block 7 [1,2,7,11] (.seq (.ops zcss) (.clean [1,2,7,11] (.seq (.ops zcst) (.clean [1,2,7,11] (.ops zctl)))))) (.clean [1,2,7,11] (.ops zcsr)))))
def zctm : List ak := [Qo 100 (.mov (t 7)),
 Qo 6 (.mov (t 100))]
def zcdq : TC := (.seq (.ops zcqq) (.clean [0,1,2] (.seq (.ops zcqr) (.clean [0,1,2,7] (.seq (.seq (.ops zcqs) (.block 0 [0,1,2,7] (.clean [0,1,2,7,8] (.loop [0,1,2,7,8] zo)))) (.clean [0,1,2,7] (.seq (.seq (.ops zcrm) (.block 2 [1,2,7] (.clean [0,1,2,7,9] (.loop [0,1,2,7,9] zn)))) (.clean [1,2,7] (.seq (.seq (.ops zcsp) (.block 6 [7] (.clean [1,2,7,11] (.loop [1,2,7,11] zb61)))) (.clean [7] (.seq (.ops zctm) (.ret [6]))))))))))))
def zcdd : TFn := ⟨101,zcdq,[.tmp 6],true⟩
theorem eg : type_of% (ai @zcqq.eq_1 (ai @zcqr.eq_1 (ai @zcqs.eq_1 (ai @zcrj.eq_1 (ai @zcrl.eq_1 (ai @zcrk.eq_1 (ai @zcrm.eq_1 (ai @zcrn.eq_1 (ai @zcrp.eq_1 (ai @zcsj.eq_1 (ai @zcsl.eq_1 (ai @zcsm.eq_1 (ai @zcsn.eq_1 (ai @zcso.eq_1 (ai @zcsk.eq_1 (ai @zcro.eq_1 (ai @zcsp.eq_1 (ai @zcsq.eq_1 (ai @zcss.eq_1 (ai @zcst.eq_1 (ai @zctl.eq_1 (ai @zcsr.eq_1 (ai @zctm.eq_1 (ai @zcdq.eq_1 @zcdd.eq_1)))))))))))))))))))))))) := ⟨rfl,rfl,rfl,rfl,rfl,rfl,rfl,rfl,rfl,rfl,rfl,rfl,rfl,rfl,rfl,rfl,rfl,rfl,rfl,rfl,rfl,rfl,rfl,rfl,rfl⟩
theorem zbob : u7 Try.prog [] zb44 = some (101,zcdq.erase,[.tmp 6]) := by kernel_rfl
def zcyf : List ak := [Qo 2 (.mov (.const (Go.Value.string ⟨#[]⟩)))]
def zcyg : List ak := [Qo 3 (.mov (t 0)),
 Qo 4 (.call ni [(t 3)]),
 Qo 5 (.bin .add (.const (Go.Value.string ⟨#[112,97,114,116,121]⟩)) (t 4)),
 Qo 2 (.mov (t 5))]
def zcff : TC := (.seq (.ops zcyf) (.clean [0] (.seq (.ops zcyg) (.ret [2]))))
def zce4 : TFn := ⟨6,zcff,[.tmp 2],false⟩
theorem zder : type_of% (ai @zcyf.eq_1 (ai @zcyg.eq_1 (ai @zcff.eq_1 @zce4.eq_1))) := ⟨rfl,rfl,rfl,rfl⟩
theorem zdd7 : u7 Try.prog [] vf = some (6,zcff.erase,[.tmp 2]) := by kernel_rfl
def zcvb : List ak := [Qo 2 (.mov (.const (Go.Value.string ⟨#[]⟩)))]
def zcvc : List ak := [Qo 5 (.mov (t 0)),
 Qo 6 (.bin .leq (t 5) (ci (-10))),
 Qo 4 (.mov (t 6))]
def zcvd : List ak := [Qo 7 (.mov (t 0)),
 Qo 8 (.bin .rem (t 7) (ci 10)),
 Qo 9 (.un .neg (t 8)),
 Qo 3 (.mov (t 9))]
def zcve : List ak := [Qo 10 (.mov (t 0)),
 Qo 11 (.bin .quo (t 10) (ci 10)),
 Qo 13 (.mov (t 3)),
 Qo 14 (.mov (t 3)),
 Qo 15 (.bin .add (t 14) (ci 1)),
 Qo 16 (.sliceStr (.const (Go.Value.string ⟨#[48,49,50,51,52,53,54,55,56,57]⟩)) (some (t 13)) (some (t 15))),
 Qo 12 (.call ni [(t 11)]),
 Qo 17 (.bin .add (t 12) (t 16)),
 Qo 2 (.mov (t 17))]
def zcvf : List ak := [Qo 19 (.mov (t 0)),
 Qo 20 (.bin .lss (t 19) (ci 0)),
 Qo 18 (.mov (t 20))]
def zcvg : List ak := [Qo 21 (.mov (t 0)),
 Qo 22 (.un .neg (t 21)),
 Qo 23 (.mov (t 0)),
 Qo 24 (.un .neg (t 23)),
 Qo 25 (.bin .add (t 24) (ci 1)),
 Qo 26 (.sliceStr (.const (Go.Value.string ⟨#[48,49,50,51,52,53,54,55,56,57]⟩)) (some (t 22)) (some (t 25))),
 Qo 27 (.bin .add (.const (Go.Value.string ⟨#[45]⟩)) (t 26)),
 Qo 2 (.mov (t 27))]
def zcvh : List ak := [Qo 29 (.mov (t 0)),
 Qo 30 (.bin .lss (t 29) (ci 10)),
 Qo 28 (.mov (t 30))]
def zcvi : List ak := [Qo 31 (.mov (t 0)),
 Qo 32 (.mov (t 0)),
 Qo 33 (.bin .add (t 32) (ci 1)),
 Qo 34 (.sliceStr (.const (Go.Value.string ⟨#[48,49,50,51,52,53,54,55,56,57]⟩)) (some (t 31)) (some (t 33))),
 Qo 2 (.mov (t 34))]
def zcvj : List ak := [Qo 35 (.mov (t 0)),
 Qo 36 (.bin .quo (t 35) (ci 10)),
 Qo 38 (.mov (t 0)),
 Qo 39 (.bin .rem (t 38) (ci 10)),
 Qo 40 (.mov (t 0)),
 Qo 41 (.bin .rem (t 40) (ci 10)),
 Qo 42 (.bin .add (t 41) (ci 1)),
 Qo 43 (.sliceStr (.const (Go.Value.string ⟨#[48,49,50,51,52,53,54,55,56,57]⟩)) (some (t 39)) (some (t 42))),
 Qo 37 (.call ni [(t 36)]),
 Qo 44 (.bin .add (t 37) (t 43)),
 Qo 2 (.mov (t 44))]
def zceu : TC := (.seq (.ops zcvb) (.clean [0] (.seq (.block 0 [0] (.seq (.ops zcvc) (.clean [0,4] (.cond (t 4) (.seq (.ops zcvd) (.clean [0,3] (.seq (.draw (pl zcve)) (.ret [2])))) (.seq (.ops zcvf) (.clean [0,18] (.cond (t 18) (.seq (.ops zcvg) (.ret [2])) (.seq (.ops zcvh) (.clean [0,28] (.cond (t 28) (.seq (.ops zcvi) (.ret [2])) .skip)))))))))) (.clean [0] (.seq (.draw (pl zcvj)) (.ret [2]))))))
def zcel : TFn := ⟨45,zceu,[.tmp 2],false⟩
theorem zda4 : type_of% (ai @zcvb.eq_1 (ai @zcvc.eq_1 (ai @zcvd.eq_1 (ai @zcve.eq_1 (ai @zcvf.eq_1 (ai @zcvg.eq_1 (ai @zcvh.eq_1 (ai @zcvi.eq_1 (ai @zcvj.eq_1 (ai @zceu.eq_1 @zcel.eq_1)))))))))) := ⟨rfl,rfl,rfl,rfl,rfl,rfl,rfl,rfl,rfl,rfl,rfl⟩
theorem zda6 : u7 Try.prog [(3,⟨[0,1,3,4,5,6,2,7,8],[0,1,3,0,0,16,56,127,255],[],[]⟩),(8,⟨[0,1,3,4,5,6,7,8,2,9,10],[0,1,3,0,8,0,32,96,248,511,1023],[],[]⟩)] ni = some (45,zceu.erase,[.tmp 2]) := by kernel_rfl
def zctn : List ak := [Qo 1 (.box am 7 (t 0)),
 Qo 2 (.box am 7 (.const (.agg #[(.string ⟨#[]⟩),(.slice none 0 0),(.slice none 0 0),(.slice none 0 0),(.slice none 0 0),(.int .i64 0),(.int .i64 0)])))]
def zcto : List ak := [Qo 6 (.fieldAddr 4 (t 1)),
 ⟨⟨none,.store 1 (t 6) (.const (Go.Value.slice none 0 0)),none⟩,0⟩]
def zctp : List ak := [Qo 3 (.mov (ci 0))]
def zctq : List ak := [Qo 7 (.mov (t 3)),
 Qo 8 (.fieldAddr 3 (t 1)),
 Qo 9 (.load1 (t 8)),
 Qo 10 (.lenL (t 9)),
 Qo 11 (.bin .lss (t 7) (t 10))]
def zcts : List ak := [Qo 14 (.fieldAddr 4 (t 1)),
 Qm 2 15 (.load1 (t 14)),
 Qo 16 (.mov (t 3)),
 Qo 17 (.call zz [(t 16)]),
 Qo 18 (.call zb17 [(t 17)]),
 Qo 19 (.buildSl il 1 1 [(.string ⟨#[]⟩)] [(0,1,(t 18))]),
 Qo 20 (.append il 1 16 (t 15) (t 19)),
 Qo 21 (.fieldAddr 4 (t 1)),
 ⟨⟨none,.store 1 (t 21) (t 20),none⟩,2⟩]
def zctr : List ak := [Qo 12 (.mov (t 3)),
 Qo 13 (.bin .add (t 12) (ci 1)),
 Qo 3 (.mov (t 13))]
def zb66 : TC := (.seq (.seq (.ops zctq) (.clean [1,2,3,11] (.cond (t 11) .skip (.exit 0)))) (.clean [1,2,3] (.seq (.block 1 [1,2,3] (.draw (pl zcts))) (.clean [1,2,3] (.ops zctr)))))
def zctt : List ak := [Qo 4 (.mov (ci 0))]
def zctu : List ak := [Qo 22 (.mov (t 4)),
 Qo 23 (.fieldAddr 1 (t 1)),
 Qo 24 (.load1 (t 23)),
 Qo 25 (.lenL (t 24)),
 Qo 26 (.bin .lss (t 22) (t 25))]
def zcsw : List ak := [Qo 29 (.fieldAddr 1 (t 1)),
 Qo 30 (.load1 (t 29)),
 Qo 31 (.mov (t 4)),
 Qo 32 (.indexSl 2 (t 30) (t 31)),
 Qo 33 (.fieldAddr 1 (t 32)),
 ⟨⟨none,.store 1 (t 33) (.const (Go.Value.slice none 0 0)),none⟩,0⟩]
def zcvm : List ak := [Qo 5 (.mov (ci 0))]
def zcwd : List ak := [Qo 34 (.mov (t 5)),
 Qo 35 (.fieldAddr 3 (t 1)),
 Qo 36 (.load1 (t 35)),
 Qo 37 (.lenL (t 36)),
 Qo 38 (.bin .lss (t 34) (t 37))]
def zcwf : List (ak × List Nat) := [(Qo 41 (.fieldAddr 1 (t 1)),[]),
 (Qo 42 (.load1 (t 41)),[]),
 (Qo 43 (.mov (t 4)),[]),
 (Qo 44 (.fieldAddr 1 (t 1)),[]),
 (Qo 45 (.load1 (t 44)),[]),
 (Qo 46 (.mov (t 4)),[]),
 (Qo 47 (.indexSl 2 (t 45) (t 46)),[]),
 (Qo 48 (.fieldAddr 1 (t 47)),[]),
 (Qm 2 49 (.load1 (t 48)),[]),
 (Qo 50 (.mov (t 4)),[]),
 (Qo 52 (.mov (t 5)),[]),
 (Qo 51 (.call zb43 [(t 50)]),[]),
 (Qo 53 (.call zy [(t 51),(t 52)]),[]),
 (Qo 54 (.buildSl il 1 1 [(.string ⟨#[]⟩)] [(0,1,(t 53))]),[]),
 (Qo 55 (.append il 1 16 (t 49) (t 54)),[1]),
 (Qo 56 (.indexSl 2 (t 42) (t 43)),[]),
 (Qo 57 (.fieldAddr 1 (t 56)),[]),
 (⟨⟨none,.store 1 (t 57) (t 55),none⟩,2⟩,[])]
def zcwe : List ak := [Qo 39 (.mov (t 5)),
 Qo 40 (.bin .add (t 39) (ci 1)),
 Qo 5 (.mov (t 40))]
def zb67 : TC := (.seq (.seq (.ops zcwd) (.clean [1,2,4,5,38] (.cond (t 38) .skip (.exit 4)))) (.clean [1,2,4,5] (.seq (.block 5 [1,2,4,5] (.draw zcwf)) (.clean [1,2,4,5] (.ops zcwe)))))
def zcsv : List ak := [Qo 27 (.mov (t 4)),
 Qo 28 (.bin .add (t 27) (ci 1)),
 Qo 4 (.mov (t 28))]
def zca2 : TC := (.seq (.seq (.ops zctu) (.clean [1,2,4,26] (.cond (t 26) .skip (.exit 2)))) (.clean [1,2,4] (.seq (.block 3 [1,2,4] (.seq (.ops zcsw) (.clean [1,2,4] (.seq (.ops zcvm) (.block 4 [1,2,4] (.clean [1,2,4,5] (.loop [1,2,4,5] zb67))))))) (.clean [1,2,4] (.ops zcsv)))))
def zcwg : List ak := [Qo 58 (.loadN 7 (t 1)),
 ⟨⟨none,.store 7 (t 2) (t 58),none⟩,0⟩]
def zceb : TC := (.seq (.ops zctn) (.clean [1,2] (.seq (.ops zcto) (.clean [1,2] (.seq (.seq (.ops zctp) (.block 0 [1,2] (.clean [1,2,3] (.loop [1,2,3] zb66)))) (.clean [1,2] (.seq (.seq (.ops zctt) (.block 2 [1,2] (.clean [1,2,4] (.loop [1,2,4] zca2)))) (.clean [1,2] (.seq (.ops zcwg) (.ret [2]))))))))))
def zcd5 : TFn := ⟨59,zceb,[.cellN 2 7],false⟩
theorem qn : type_of% (ai @zctn.eq_1 (ai @zcto.eq_1 (ai @zctp.eq_1 (ai @zctq.eq_1 (ai @zcts.eq_1 (ai @zctr.eq_1 (ai @zctt.eq_1 (ai @zctu.eq_1 (ai @zcsw.eq_1 (ai @zcvm.eq_1 (ai @zcwd.eq_1 (ai @zcwf.eq_1 (ai @zcwe.eq_1 (ai @zcsv.eq_1 (ai @zcwg.eq_1 (ai @zceb.eq_1 @zcd5.eq_1)))))))))))))))) := ⟨rfl,rfl,rfl,rfl,rfl,rfl,rfl,rfl,rfl,rfl,rfl,rfl,rfl,rfl,rfl,rfl,rfl⟩
theorem zdal : u7 Try.prog [(5,⟨[0,1,2,3,4,5,6,7,8],[0,1,0,4,12,28,63,127,255],[],[]⟩),(13,⟨[0,1,2,3,4,5,6,7,8,9,11,10,12,13,14,15,16,17],[0,1,0,0,8,0,56,120,248,0,512,0,3584,7680,16376,32767,65535,131071],[],[(14,[1])]⟩)] zb6w = some (59,zceb.erase,[.cellN 2 7]) := by kernel_rfl
def zc7l : List ak := [Qo 2 (.mov (.const (Go.Value.string ⟨#[]⟩)))]
def zc7m : List ak := [Qo 11 (.mov (t 0)),
 Qm 2 12 (.toBytes ph (t 11)),
 Qo 13 (.buildSl ph 1 1 [(.int .u8 0)] [(0,1,(.const (Go.Value.int Go.IntKind.u8 128)))]),
 Qo 14 (.append ph 1 1 (t 12) (t 13)),
 Qo 3 (.mov (t 14))]
def zc7n : List ak := [Qo 15 (.mov (t 3)),
 Qo 16 (.lenL (t 15)),
 Qo 17 (.bin .rem (t 16) (ci 64)),
 Qo 18 (.bin .neq (t 17) (ci 56))]
def zc7o : List ak := [Qo 19 (.mov (t 3)),
 Qo 20 (.buildSl ph 1 1 [(.int .u8 0)] [(0,1,(.const (Go.Value.int Go.IntKind.u8 0)))]),
 Qo 21 (.append ph 1 1 (t 19) (t 20)),
 Qo 3 (.mov (t 21))]
def zcar : TC := (.seq (.seq (.ops zc7n) (.clean [0,3,18] (.cond (t 18) .skip (.exit 0)))) (.block 1 [0,3] (.ops zc7o)))
def zc7p : List ak := [Qo 22 (.mov (t 0)),
 Qo 23 (.lenS (t 22)),
 Qo 24 (.conv .u64 (t 23)),
 Qo 25 (.bin .mul (t 24) (.const (Go.Value.int Go.IntKind.u64 8))),
 Qo 4 (.mov (t 25))]
def zc7q : List ak := [Qo 5 (.mov (ci 0))]
def zc7r : List ak := [Qo 26 (.mov (t 5)),
 Qo 27 (.bin .lss (t 26) (ci 8))]
def zc7t : List ak := [Qo 30 (.mov (t 3)),
 Qo 31 (.mov (t 4)),
 Qo 32 (.mov (t 5)),
 Qo 33 (.bin .mul (ci 8) (t 32)),
 Qo 34 (.bin .sub (ci 56) (t 33)),
 Qo 35 (.conv .u64 (t 34)),
 Qo 36 (.bin .shr (t 31) (t 35)),
 Qo 37 (.conv .u8 (t 36)),
 Qo 38 (.buildSl ph 1 1 [(.int .u8 0)] [(0,1,(t 37))]),
 Qo 39 (.append ph 1 1 (t 30) (t 38)),
 Qo 3 (.mov (t 39))]
def zc7s : List ak := [Qo 28 (.mov (t 5)),
 Qo 29 (.bin .add (t 28) (ci 1)),
 Qo 5 (.mov (t 29))]
def zcas : TC := (.seq (.seq (.ops zc7r) (.clean [3,4,5,27] (.cond (t 27) .skip (.exit 2)))) (.clean [3,4,5] (.seq (.block 3 [3,4,5] (.ops zc7t)) (.clean [3,4,5] (.ops zc7s)))))
def zc7u : List ak := [Qo 40 (.mov (t 3)),
 Qo 41 (.toStr (t 40)),
 Qo 6 (.mov (t 41))]
def zcrq : List ak := [Qo 42 (.build [(.int .u32 0),(.int .u32 0),(.int .u32 0),(.int .u32 0),(.int .u32 0),(.int .u32 0),(.int .u32 0),(.int .u32 0)] [(0,1,(.const (Go.Value.int Go.IntKind.u32 1779033703))),(1,1,(.const (Go.Value.int Go.IntKind.u32 3144134277))),(2,1,(.const (Go.Value.int Go.IntKind.u32 1013904242))),(3,1,(.const (Go.Value.int Go.IntKind.u32 2773480762))),(4,1,(.const (Go.Value.int Go.IntKind.u32 1359893119))),(5,1,(.const (Go.Value.int Go.IntKind.u32 2600822924))),(6,1,(.const (Go.Value.int Go.IntKind.u32 528734635))),(7,1,(.const (Go.Value.int Go.IntKind.u32 1541459225)))]),
 Qo 7 (.box ff 8 (.const (.agg #[(.int .u32 0),(.int .u32 0),(.int .u32 0),(.int .u32 0),(.int .u32 0),(.int .u32 0),(.int .u32 0),(.int .u32 0)]))),
 ⟨⟨none,.store 8 (t 7) (t 42),none⟩,0⟩]
def zcrr : List ak := [Qo 8 (.mov (ci 0))]
def zcrs : List ak := [Qo 43 (.mov (t 8)),
 Qo 44 (.mov (t 6)),
 Qo 45 (.lenS (t 44)),
 Qo 46 (.bin .lss (t 43) (t 45))]
def zcqu : List ak := [Qo 49 (.loadN 8 (t 7)),
 Qo 50 (.mov (t 6)),
 Qo 51 (.mov (t 8)),
 Qo 52 (.mov (t 8)),
 Qo 53 (.bin .add (t 52) (ci 64)),
 Qo 54 (.sliceStr (t 50) (some (t 51)) (some (t 53))),
 Qo 55 (.call zb5g [(t 49),(t 54)]),
 ⟨⟨none,.store 8 (t 7) (t 55),none⟩,0⟩]
def zcqt : List ak := [Qo 47 (.mov (t 8)),
 Qo 48 (.bin .add (t 47) (ci 64)),
 Qo 8 (.mov (t 48))]
def zcat : TC := (.seq (.seq (.ops zcrs) (.clean [6,7,8,46] (.cond (t 46) .skip (.exit 4)))) (.clean [6,7,8] (.seq (.block 5 [6,7,8] (.draw (pl zcqu))) (.clean [6,7,8] (.ops zcqt)))))
def zcqv : List ak := [Qm 1 9 (.mov (.const (Go.Value.slice none 0 0)))]
def zcqw : List ak := [Qo 10 (.mov (ci 0))]
def zcqx : List ak := [Qo 56 (.mov (t 10)),
 Qo 57 (.bin .lss (t 56) (ci 8))]
def zcqz : List ak := [Qo 60 (.mov (t 9)),
 Qo 61 (.mov (t 10)),
 Qo 62 (.indexPtr 8 1 (t 7) (t 61)),
 Qo 63 (.load1 (t 62)),
 Qo 64 (.bin .shr (t 63) (.const (Go.Value.int Go.IntKind.u64 24))),
 Qo 65 (.conv .u8 (t 64)),
 Qo 66 (.mov (t 10)),
 Qo 67 (.indexPtr 8 1 (t 7) (t 66)),
 Qo 68 (.load1 (t 67)),
 Qo 69 (.bin .shr (t 68) (.const (Go.Value.int Go.IntKind.u64 16))),
 Qo 70 (.conv .u8 (t 69)),
 Qo 71 (.mov (t 10)),
 Qo 72 (.indexPtr 8 1 (t 7) (t 71)),
 Qo 73 (.load1 (t 72)),
 Qo 74 (.bin .shr (t 73) (.const (Go.Value.int Go.IntKind.u64 8))),
 Qo 75 (.conv .u8 (t 74)),
 Qo 76 (.mov (t 10)),
 Qo 77 (.indexPtr 8 1 (t 7) (t 76)),
 Qo 78 (.load1 (t 77)),
 Qo 79 (.conv .u8 (t 78)),
 Qo 80 (.buildSl ph 1 4 [(.int .u8 0),(.int .u8 0),(.int .u8 0),(.int .u8 0)] [(0,1,(t 65)),(1,1,(t 70)),(2,1,(t 75)),(3,1,(t 79))]),
 Qo 81 (.append ph 1 1 (t 60) (t 80)),
 Qo 9 (.mov (t 81))]
def zcqy : List ak := [Qo 58 (.mov (t 10)),
 Qo 59 (.bin .add (t 58) (ci 1)),
 Qo 10 (.mov (t 59))]
def zcau : TC := (.seq (.seq (.ops zcqx) (.clean [7,9,10,57] (.cond (t 57) .skip (.exit 6)))) (.clean [7,9,10] (.seq (.block 7 [7,9,10] (.draw (pl zcqz))) (.clean [7,9,10] (.ops zcqy)))))
def zcq0 : List ak := [Qo 82 (.mov (t 9)),
 Qo 83 (.toStr (t 82)),
 Qo 2 (.mov (t 83))]
def zcc7 : TC := (.seq (.ops zc7l) (.clean [0] (.seq (.ops zc7m) (.clean [0,3] (.seq (.block 0 [0,3] (.clean [0,3] (.loop [0,3] zcar))) (.clean [0,3] (.seq (.ops zc7p) (.clean [3,4] (.seq (.seq (.ops zc7q) (.block 2 [3] (.clean [3,4,5] (.loop [3,4,5] zcas)))) (.clean [3] (.seq (.ops zc7u) (.clean [6] (.seq (.ops zcrq) (.clean [6,7] (.seq (.seq (.ops zcrr) (.block 4 [7] (.clean [6,7,8] (.loop [6,7,8] zcat)))) (.clean [7] (.seq (.ops zcqv) (.clean [7,9] (.seq (.seq (.ops zcqw) (.block 6 [9] (.clean [7,9,10] (.loop [7,9,10] zcau)))) (.clean [9] (.seq (.ops zcq0) (.ret [2]))))))))))))))))))))))
def zcct : TFn := ⟨84,zcc7,[.tmp 2],false⟩
theorem lf : type_of% (ai @zc7l.eq_1 (ai @zc7m.eq_1 (ai @zc7n.eq_1 (ai @zc7o.eq_1 (ai @zc7p.eq_1 (ai @zc7q.eq_1 (ai @zc7r.eq_1 (ai @zc7t.eq_1 (ai @zc7s.eq_1 (ai @zc7u.eq_1 (ai @zcrq.eq_1 (ai @zcrr.eq_1 (ai @zcrs.eq_1 (ai @zcqu.eq_1 (ai @zcqt.eq_1 (ai @zcqv.eq_1 (ai @zcqw.eq_1 (ai @zcqx.eq_1 (ai @zcqz.eq_1 (ai @zcqy.eq_1 (ai @zcq0.eq_1 (ai @zcc7.eq_1 @zcct.eq_1)))))))))))))))))))))) := ⟨rfl,rfl,rfl,rfl,rfl,rfl,rfl,rfl,rfl,rfl,rfl,rfl,rfl,rfl,rfl,rfl,rfl,rfl,rfl,rfl,rfl,rfl,rfl⟩
theorem zbut : u7 Try.prog [(14,⟨[0,1,2,3,4,5,6,7],[0,0,0,0,8,30,63,127],[],[]⟩),(19,⟨[0,1,2,3,4,5,6,7,8,9,10,11,12,13,14,15,16,17,18,19,20,21,22],[0,0,2,6,14,30,0,64,192,448,960,0,2048,6144,14336,30720,0,65536,196608,458752,1048574,2097151,4194303],[],[]⟩)] zb17 = some (84,zcc7.erase,[.tmp 2]) := by kernel_rfl
def zcs2 : List ak := [Qo 2 (.box ff 8 (t 0)),
 Qo 4 (.box ff 8 (.const (.agg #[(.int .u32 0),(.int .u32 0),(.int .u32 0),(.int .u32 0),(.int .u32 0),(.int .u32 0),(.int .u32 0),(.int .u32 0)])))]
def zcs3 : List ak := [Qo 5 (.box li 64 (.const (.agg #[(.int .u32 0),(.int .u32 0),(.int .u32 0),(.int .u32 0),(.int .u32 0),(.int .u32 0),(.int .u32 0),(.int .u32 0),(.int .u32 0),(.int .u32 0),(.int .u32 0),(.int .u32 0),(.int .u32 0),(.int .u32 0),(.int .u32 0),(.int .u32 0),(.int .u32 0),(.int .u32 0),(.int .u32 0),(.int .u32 0),(.int .u32 0),(.int .u32 0),(.int .u32 0),(.int .u32 0),(.int .u32 0),(.int .u32 0),(.int .u32 0),(.int .u32 0),(.int .u32 0),(.int .u32 0),(.int .u32 0),(.int .u32 0),(.int .u32 0),(.int .u32 0),(.int .u32 0),(.int .u32 0),(.int .u32 0),(.int .u32 0),(.int .u32 0),(.int .u32 0),(.int .u32 0),(.int .u32 0),(.int .u32 0),(.int .u32 0),(.int .u32 0),(.int .u32 0),(.int .u32 0),(.int .u32 0),(.int .u32 0),(.int .u32 0),(.int .u32 0),(.int .u32 0),(.int .u32 0),(.int .u32 0),(.int .u32 0),(.int .u32 0),(.int .u32 0),(.int .u32 0),(.int .u32 0),(.int .u32 0),(.int .u32 0),(.int .u32 0),(.int .u32 0),(.int .u32 0)])))]
def zcs4 : List ak := [Qo 18 (.call zb5h []),
 Qo 6 (.box li 64 (.const (.agg #[(.int .u32 0),(.int .u32 0),(.int .u32 0),(.int .u32 0),(.int .u32 0),(.int .u32 0),(.int .u32 0),(.int .u32 0),(.int .u32 0),(.int .u32 0),(.int .u32 0),(.int .u32 0),(.int .u32 0),(.int .u32 0),(.int .u32 0),(.int .u32 0),(.int .u32 0),(.int .u32 0),(.int .u32 0),(.int .u32 0),(.int .u32 0),(.int .u32 0),(.int .u32 0),(.int .u32 0),(.int .u32 0),(.int .u32 0),(.int .u32 0),(.int .u32 0),(.int .u32 0),(.int .u32 0),(.int .u32 0),(.int .u32 0),(.int .u32 0),(.int .u32 0),(.int .u32 0),(.int .u32 0),(.int .u32 0),(.int .u32 0),(.int .u32 0),(.int .u32 0),(.int .u32 0),(.int .u32 0),(.int .u32 0),(.int .u32 0),(.int .u32 0),(.int .u32 0),(.int .u32 0),(.int .u32 0),(.int .u32 0),(.int .u32 0),(.int .u32 0),(.int .u32 0),(.int .u32 0),(.int .u32 0),(.int .u32 0),(.int .u32 0),(.int .u32 0),(.int .u32 0),(.int .u32 0),(.int .u32 0),(.int .u32 0),(.int .u32 0),(.int .u32 0),(.int .u32 0)]))),
 ⟨⟨none,.store 64 (t 6) (t 18),none⟩,0⟩]
def zcs5 : List ak := [Qo 7 (.mov (ci 0))]
def zcs6 : List ak := [Qo 19 (.mov (t 7)),
 Qo 20 (.bin .lss (t 19) (ci 16))]
def zcs8 : List ak := [Qo 23 (.mov (t 7)),
 Qo 24 (.mov (t 1)),
 Qo 25 (.mov (t 7)),
 Qo 26 (.bin .mul (ci 4) (t 25)),
 Qo 27 (.indexStr (t 24) (t 26)),
 Qo 28 (.conv .u32 (t 27)),
 Qo 29 (.bin .shl (t 28) (.const (Go.Value.int Go.IntKind.u64 24))),
 Qo 30 (.mov (t 1)),
 Qo 31 (.mov (t 7)),
 Qo 32 (.bin .mul (ci 4) (t 31)),
 Qo 33 (.bin .add (t 32) (ci 1)),
 Qo 34 (.indexStr (t 30) (t 33)),
 Qo 35 (.conv .u32 (t 34)),
 Qo 36 (.bin .shl (t 35) (.const (Go.Value.int Go.IntKind.u64 16))),
 Qo 37 (.bin .or (t 29) (t 36)),
 Qo 38 (.mov (t 1)),
 Qo 39 (.mov (t 7)),
 Qo 40 (.bin .mul (ci 4) (t 39)),
 Qo 41 (.bin .add (t 40) (ci 2)),
 Qo 42 (.indexStr (t 38) (t 41)),
 Qo 43 (.conv .u32 (t 42)),
 Qo 44 (.bin .shl (t 43) (.const (Go.Value.int Go.IntKind.u64 8))),
 Qo 45 (.bin .or (t 37) (t 44)),
 Qo 46 (.mov (t 1)),
 Qo 47 (.mov (t 7)),
 Qo 48 (.bin .mul (ci 4) (t 47)),
 Qo 49 (.bin .add (t 48) (ci 3)),
 Qo 50 (.indexStr (t 46) (t 49)),
 Qo 51 (.conv .u32 (t 50)),
 Qo 52 (.bin .or (t 45) (t 51)),
 Qo 53 (.indexPtr 64 1 (t 5) (t 23)),
 ⟨⟨none,.store 1 (t 53) (t 52),none⟩,0⟩]
def zcs7 : List ak := [Qo 21 (.mov (t 7)),
 Qo 22 (.bin .add (t 21) (ci 1)),
 Qo 7 (.mov (t 22))]
def zca3 : TC := (.seq (.seq (.ops zcs6) (.clean [1,2,4,5,6,7,20] (.cond (t 20) .skip (.exit 0)))) (.clean [1,2,4,5,6,7] (.seq (.block 1 [1,2,4,5,6,7] (.draw (pl zcs8))) (.clean [1,2,4,5,6,7] (.ops zcs7)))))
def zcs9 : List ak := [Qo 8 (.mov (ci 16))]
def zcta : List ak := [Qo 54 (.mov (t 8)),
 Qo 55 (.bin .lss (t 54) (ci 64))]
def zcwh : List ak := [Qo 58 (.mov (t 8)),
 Qo 59 (.bin .sub (t 58) (ci 15)),
 Qo 60 (.indexPtr 64 1 (t 5) (t 59)),
 Qo 61 (.load1 (t 60)),
 Qo 63 (.mov (t 8)),
 Qo 64 (.bin .sub (t 63) (ci 15)),
 Qo 65 (.indexPtr 64 1 (t 5) (t 64)),
 Qo 66 (.load1 (t 65)),
 Qo 69 (.mov (t 8)),
 Qo 70 (.bin .sub (t 69) (ci 15)),
 Qo 71 (.indexPtr 64 1 (t 5) (t 70)),
 Qo 72 (.load1 (t 71)),
 Qo 73 (.bin .shr (t 72) (.const (Go.Value.int Go.IntKind.u64 3))),
 Qo 62 (.call lp [(t 61),(.const (Go.Value.int Go.IntKind.u64 7))]),
 Qo 67 (.call lp [(t 66),(.const (Go.Value.int Go.IntKind.u64 18))]),
 Qo 68 (.bin .xor (t 62) (t 67)),
 Qo 74 (.bin .xor (t 68) (t 73)),
 Qo 9 (.mov (t 74))]
def zcwi : List ak := [Qo 75 (.mov (t 8)),
 Qo 76 (.bin .sub (t 75) (ci 2)),
 Qo 77 (.indexPtr 64 1 (t 5) (t 76)),
 Qo 78 (.load1 (t 77)),
 Qo 80 (.mov (t 8)),
 Qo 81 (.bin .sub (t 80) (ci 2)),
 Qo 82 (.indexPtr 64 1 (t 5) (t 81)),
 Qo 83 (.load1 (t 82)),
 Qo 86 (.mov (t 8)),
 Qo 87 (.bin .sub (t 86) (ci 2)),
 Qo 88 (.indexPtr 64 1 (t 5) (t 87)),
 Qo 89 (.load1 (t 88)),
 Qo 90 (.bin .shr (t 89) (.const (Go.Value.int Go.IntKind.u64 10))),
 Qo 79 (.call lp [(t 78),(.const (Go.Value.int Go.IntKind.u64 17))]),
 Qo 84 (.call lp [(t 83),(.const (Go.Value.int Go.IntKind.u64 19))]),
 Qo 85 (.bin .xor (t 79) (t 84)),
 Qo 91 (.bin .xor (t 85) (t 90)),
 Qo 10 (.mov (t 91))]
def zcwj : List ak := [Qo 92 (.mov (t 8)),
 Qo 93 (.mov (t 8)),
 Qo 94 (.bin .sub (t 93) (ci 16)),
 Qo 95 (.indexPtr 64 1 (t 5) (t 94)),
 Qo 96 (.load1 (t 95)),
 Qo 97 (.mov (t 9)),
 Qo 98 (.bin .add (t 96) (t 97)),
 Qo 99 (.mov (t 8)),
 Qo 100 (.bin .sub (t 99) (ci 7)),
 Qo 101 (.indexPtr 64 1 (t 5) (t 100)),
 Qo 102 (.load1 (t 101)),
 Qo 103 (.bin .add (t 98) (t 102)),
 Qo 104 (.mov (t 10)),
 Qo 105 (.bin .add (t 103) (t 104)),
 Qo 106 (.indexPtr 64 1 (t 5) (t 92)),
 ⟨⟨none,.store 1 (t 106) (t 105),none⟩,0⟩]
def zctb : List ak := [Qo 56 (.mov (t 8)),
 Qo 57 (.bin .add (t 56) (ci 1)),
 Qo 8 (.mov (t 57))]
def zca4 : TC := (.seq (.seq (.ops zcta) (.clean [2,4,5,6,8,55] (.cond (t 55) .skip (.exit 2)))) (.clean [2,4,5,6,8] (.seq (.block 3 [2,4,5,6,8] (.seq (.draw (pl zcwh)) (.clean [2,4,5,6,8,9] (.seq (.draw (pl zcwi)) (.clean [2,4,5,6,8,9,10] (.draw (pl zcwj))))))) (.clean [2,4,5,6,8] (.ops zctb)))))
def zcwk : List ak := [Qo 107 (.loadN 8 (t 2)),
 Qo 11 (.box ff 8 (.const (.agg #[(.int .u32 0),(.int .u32 0),(.int .u32 0),(.int .u32 0),(.int .u32 0),(.int .u32 0),(.int .u32 0),(.int .u32 0)]))),
 ⟨⟨none,.store 8 (t 11) (t 107),none⟩,0⟩]
def zcwl : List ak := [Qo 12 (.mov (ci 0))]
def zcwm : List ak := [Qo 108 (.mov (t 12)),
 Qo 109 (.bin .lss (t 108) (ci 64))]
def zcvo : List ak := [Qo 112 (.indexPtr 8 1 (t 11) (ci 4)),
 Qo 113 (.load1 (t 112)),
 Qo 115 (.indexPtr 8 1 (t 11) (ci 4)),
 Qo 116 (.load1 (t 115)),
 Qo 119 (.indexPtr 8 1 (t 11) (ci 4)),
 Qo 120 (.load1 (t 119)),
 Qo 114 (.call lp [(t 113),(.const (Go.Value.int Go.IntKind.u64 6))]),
 Qo 117 (.call lp [(t 116),(.const (Go.Value.int Go.IntKind.u64 11))]),
 Qo 118 (.bin .xor (t 114) (t 117)),
 Qo 121 (.call lp [(t 120),(.const (Go.Value.int Go.IntKind.u64 25))]),
 Qo 122 (.bin .xor (t 118) (t 121)),
 Qo 13 (.mov (t 122))]
def zcvp : List ak := [Qo 123 (.indexPtr 8 1 (t 11) (ci 7)),
 Qo 124 (.load1 (t 123)),
 Qo 125 (.mov (t 13)),
 Qo 126 (.bin .add (t 124) (t 125)),
 Qo 127 (.indexPtr 8 1 (t 11) (ci 4)),
 Qo 128 (.load1 (t 127)),
 Qo 129 (.indexPtr 8 1 (t 11) (ci 5)),
 Qo 130 (.load1 (t 129)),
 Qo 131 (.bin .and (t 128) (t 130)),
 Qo 132 (.indexPtr 8 1 (t 11) (ci 4)),
 Qo 133 (.load1 (t 132)),
 Qo 134 (.un .xor (t 133)),
 Qo 135 (.indexPtr 8 1 (t 11) (ci 6)),
 Qo 136 (.load1 (t 135)),
 Qo 137 (.bin .and (t 134) (t 136)),
 Qo 138 (.bin .xor (t 131) (t 137)),
 Qo 139 (.bin .add (t 126) (t 138)),
 Qo 140 (.mov (t 12)),
 Qo 141 (.indexPtr 64 1 (t 6) (t 140)),
 Qo 142 (.load1 (t 141)),
 Qo 143 (.bin .add (t 139) (t 142)),
 Qo 144 (.mov (t 12)),
 Qo 145 (.indexPtr 64 1 (t 5) (t 144)),
 Qo 146 (.load1 (t 145)),
 Qo 147 (.bin .add (t 143) (t 146)),
 Qo 14 (.mov (t 147))]
def zcvq : List ak := [Qo 148 (.indexPtr 8 1 (t 11) (ci 0)),
 Qo 149 (.load1 (t 148)),
 Qo 151 (.indexPtr 8 1 (t 11) (ci 0)),
 Qo 152 (.load1 (t 151)),
 Qo 155 (.indexPtr 8 1 (t 11) (ci 0)),
 Qo 156 (.load1 (t 155)),
 Qo 150 (.call lp [(t 149),(.const (Go.Value.int Go.IntKind.u64 2))]),
 Qo 153 (.call lp [(t 152),(.const (Go.Value.int Go.IntKind.u64 13))]),
 Qo 154 (.bin .xor (t 150) (t 153)),
 Qo 157 (.call lp [(t 156),(.const (Go.Value.int Go.IntKind.u64 22))]),
 Qo 158 (.bin .xor (t 154) (t 157)),
 Qo 15 (.mov (t 158))]
def zcvr : List ak := [Qo 159 (.mov (t 15)),
 Qo 160 (.indexPtr 8 1 (t 11) (ci 0)),
 Qo 161 (.load1 (t 160)),
 Qo 162 (.indexPtr 8 1 (t 11) (ci 1)),
 Qo 163 (.load1 (t 162)),
 Qo 164 (.bin .and (t 161) (t 163)),
 Qo 165 (.indexPtr 8 1 (t 11) (ci 0)),
 Qo 166 (.load1 (t 165)),
 Qo 167 (.indexPtr 8 1 (t 11) (ci 2)),
 Qo 168 (.load1 (t 167)),
 Qo 169 (.bin .and (t 166) (t 168)),
 Qo 170 (.bin .xor (t 164) (t 169)),
 Qo 171 (.indexPtr 8 1 (t 11) (ci 1)),
 Qo 172 (.load1 (t 171)),
 Qo 173 (.indexPtr 8 1 (t 11) (ci 2)),
 Qo 174 (.load1 (t 173)),
 Qo 175 (.bin .and (t 172) (t 174)),
 Qo 176 (.bin .xor (t 170) (t 175)),
 Qo 177 (.bin .add (t 159) (t 176)),
 Qo 16 (.mov (t 177))]
def zcvs : List ak := [Qo 178 (.mov (t 14)),
 Qo 179 (.mov (t 16)),
 Qo 180 (.bin .add (t 178) (t 179)),
 Qo 181 (.indexPtr 8 1 (t 11) (ci 0)),
 Qo 182 (.load1 (t 181)),
 Qo 183 (.indexPtr 8 1 (t 11) (ci 1)),
 Qo 184 (.load1 (t 183)),
 Qo 185 (.indexPtr 8 1 (t 11) (ci 2)),
 Qo 186 (.load1 (t 185)),
 Qo 187 (.indexPtr 8 1 (t 11) (ci 3)),
 Qo 188 (.load1 (t 187)),
 Qo 189 (.mov (t 14)),
 Qo 190 (.bin .add (t 188) (t 189)),
 Qo 191 (.indexPtr 8 1 (t 11) (ci 4)),
 Qo 192 (.load1 (t 191)),
 Qo 193 (.indexPtr 8 1 (t 11) (ci 5)),
 Qo 194 (.load1 (t 193)),
 Qo 195 (.indexPtr 8 1 (t 11) (ci 6)),
 Qo 196 (.load1 (t 195)),
 Qo 197 (.build [(.int .u32 0),(.int .u32 0),(.int .u32 0),(.int .u32 0),(.int .u32 0),(.int .u32 0),(.int .u32 0),(.int .u32 0)] [(0,1,(t 180)),(1,1,(t 182)),(2,1,(t 184)),(3,1,(t 186)),(4,1,(t 190)),(5,1,(t 192)),(6,1,(t 194)),(7,1,(t 196))]),
 ⟨⟨none,.store 8 (t 11) (t 197),none⟩,0⟩]
def zcvn : List ak := [Qo 110 (.mov (t 12)),
 Qo 111 (.bin .add (t 110) (ci 1)),
 Qo 12 (.mov (t 111))]
def zca5 : TC := (.seq (.seq (.ops zcwm) (.clean [2,4,5,6,11,12,109] (.cond (t 109) .skip (.exit 4)))) (.clean [2,4,5,6,11,12] (.seq (.block 5 [2,4,5,6,11,12] (.seq (.draw (pl zcvo)) (.clean [2,4,5,6,11,12,13] (.seq (.draw (pl zcvp)) (.clean [2,4,5,6,11,12,14] (.seq (.draw (pl zcvq)) (.clean [2,4,5,6,11,12,14,15] (.seq (.ops zcvr) (.clean [2,4,5,6,11,12,14,16] (.ops zcvs)))))))))) (.clean [2,4,5,6,11,12] (.ops zcvn)))))
def zcvt : List ak := [Qo 17 (.mov (ci 0))]
def zcvu : List ak := [Qo 198 (.mov (t 17)),
 Qo 199 (.bin .lss (t 198) (ci 8))]
def zcvw : List ak := [Qo 202 (.mov (t 17)),
 Qo 203 (.mov (t 17)),
 Qo 204 (.indexPtr 8 1 (t 2) (t 203)),
 Qo 205 (.load1 (t 204)),
 Qo 206 (.mov (t 17)),
 Qo 207 (.indexPtr 8 1 (t 11) (t 206)),
 Qo 208 (.load1 (t 207)),
 Qo 209 (.bin .add (t 205) (t 208)),
 Qo 210 (.indexPtr 8 1 (t 2) (t 202)),
 ⟨⟨none,.store 1 (t 210) (t 209),none⟩,0⟩]
def zcvv : List ak := [Qo 200 (.mov (t 17)),
 Qo 201 (.bin .add (t 200) (ci 1)),
 Qo 17 (.mov (t 201))]
def zca6 : TC := (.seq (.seq (.ops zcvu) (.clean [2,4,11,17,199] (.cond (t 199) .skip (.exit 6)))) (.clean [2,4,11,17] (.seq (.block 7 [2,4,11,17] (.draw (pl zcvw))) (.clean [2,4,11,17] (.ops zcvv)))))
def zcvx : List ak := [Qo 211 (.loadN 8 (t 2)),
 ⟨⟨none,.store 8 (t 4) (t 211),none⟩,0⟩]
def zcee : TC := (.seq (.ops zcs2) (.clean [1,2,4] (.seq (.ops zcs3) (.clean [1,2,4,5] (.seq (.ops zcs4) (.clean [1,2,4,5,6] (.seq (.seq (.ops zcs5) (.block 0 [2,4,5,6] (.clean [1,2,4,5,6,7] (.loop [1,2,4,5,6,7] zca3)))) (.clean [2,4,5,6] (.seq (.seq (.ops zcs9) (.block 2 [2,4,5,6] (.clean [2,4,5,6,8] (.loop [2,4,5,6,8] zca4)))) (.clean [2,4,5,6] (.seq (.ops zcwk) (.clean [2,4,5,6,11] (.seq (.seq (.ops zcwl) (.block 4 [2,4,11] (.clean [2,4,5,6,11,12] (.loop [2,4,5,6,11,12] zca5)))) (.clean [2,4,11] (.seq (.seq (.ops zcvt) (.block 6 [2,4] (.clean [2,4,11,17] (.loop [2,4,11,17] zca6)))) (.clean [2,4] (.seq (.ops zcvx) (.ret [4]))))))))))))))))))
def zcd8 : TFn := ⟨212,zcee,[.cellN 4 8],false⟩
theorem lg : type_of% (ai @zcs2.eq_1 (ai @zcs3.eq_1 (ai @zcs4.eq_1 (ai @zcs5.eq_1 (ai @zcs6.eq_1 (ai @zcs8.eq_1 (ai @zcs7.eq_1 (ai @zcs9.eq_1 (ai @zcta.eq_1 (ai @zcwh.eq_1 (ai @zcwi.eq_1 (ai @zcwj.eq_1 (ai @zctb.eq_1 (ai @zcwk.eq_1 (ai @zcwl.eq_1 (ai @zcwm.eq_1 (ai @zcvo.eq_1 (ai @zcvp.eq_1 (ai @zcvq.eq_1 (ai @zcvr.eq_1 (ai @zcvs.eq_1 (ai @zcvn.eq_1 (ai @zcvt.eq_1 (ai @zcvu.eq_1 (ai @zcvw.eq_1 (ai @zcvv.eq_1 (ai @zcvx.eq_1 (ai @zcee.eq_1 @zcd8.eq_1)))))))))))))))))))))))))))) := ⟨rfl,rfl,rfl,rfl,rfl,rfl,rfl,rfl,rfl,rfl,rfl,rfl,rfl,rfl,rfl,rfl,rfl,rfl,rfl,rfl,rfl,rfl,rfl,rfl,rfl,rfl,rfl,rfl,rfl⟩
theorem zdao : u7 Try.prog [(6,⟨[0,1,2,3,4,5,6,7,8,9,10,11,12,13,14,15,16,17,18,19,20,21,22,23,24,25,26,27,28,29,30,31],[0,0,0,4,14,30,62,0,0,256,768,1920,3968,8064,16382,0,0,65536,196608,491520,1015808,2064384,4194302,0,0,16777216,50331648,125829120,260046848,536870910,1073741823,2147483647],[],[]⟩),(10,⟨[0,1,2,3,5,6,7,8,11,12,13,14,15,4,9,10,16,17],[0,1,3,7,15,0,32,96,224,511,1023,0,2048,6144,14336,30720,65535,131071],[],[]⟩),(11,⟨[0,1,2,3,5,6,7,8,11,12,13,14,15,4,9,10,16,17],[0,1,3,7,15,0,32,96,224,511,1023,0,2048,6144,14336,30720,65535,131071],[],[]⟩),(12,⟨[0,1,2,3,4,5,6,7,8,9,10,11,12,13,14,15],[0,0,2,6,14,0,62,0,128,384,896,2046,0,8190,16383,32767],[],[]⟩),(17,⟨[0,1,3,4,7,8,2,5,6,9,10,11],[0,1,3,0,8,31,63,0,128,447,1023,2047],[],[]⟩),(18,⟨[0,1,2,3,4,5,6,7,8,9,10,11,12,13,14,15,16,17,18,19,20,21,22,23,24,25],[0,1,0,7,0,16,0,64,240,0,512,1536,0,4096,15872,32752,65535,0,131072,393216,1048575,0,2097152,6291456,16777215,33554431],[],[]⟩),(19,⟨[0,1,3,4,7,8,2,5,6,9,10,11],[0,1,3,0,8,31,63,0,128,447,1023,2047],[],[]⟩),(25,⟨[0,1,2,3,4,5,6,7,8,9],[0,0,2,6,0,16,48,126,255,511],[],[]⟩)] zb5g = some (212,zcee.erase,[.cellN 4 8]) := by kernel_rfl
def zctc : List ak := [Qo 0 (.box li 64 (.const (.agg #[(.int .u32 0),(.int .u32 0),(.int .u32 0),(.int .u32 0),(.int .u32 0),(.int .u32 0),(.int .u32 0),(.int .u32 0),(.int .u32 0),(.int .u32 0),(.int .u32 0),(.int .u32 0),(.int .u32 0),(.int .u32 0),(.int .u32 0),(.int .u32 0),(.int .u32 0),(.int .u32 0),(.int .u32 0),(.int .u32 0),(.int .u32 0),(.int .u32 0),(.int .u32 0),(.int .u32 0),(.int .u32 0),(.int .u32 0),(.int .u32 0),(.int .u32 0),(.int .u32 0),(.int .u32 0),(.int .u32 0),(.int .u32 0),(.int .u32 0),(.int .u32 0),(.int .u32 0),(.int .u32 0),(.int .u32 0),(.int .u32 0),(.int .u32 0),(.int .u32 0),(.int .u32 0),(.int .u32 0),(.int .u32 0),(.int .u32 0),(.int .u32 0),(.int .u32 0),(.int .u32 0),(.int .u32 0),(.int .u32 0),(.int .u32 0),(.int .u32 0),(.int .u32 0),(.int .u32 0),(.int .u32 0),(.int .u32 0),(.int .u32 0),(.int .u32 0),(.int .u32 0),(.int .u32 0),(.int .u32 0),(.int .u32 0),(.int .u32 0),(.int .u32 0),(.int .u32 0)])))]
def zctd : List ak := [Qo 1 (.build [(.int .u32 0),(.int .u32 0),(.int .u32 0),(.int .u32 0),(.int .u32 0),(.int .u32 0),(.int .u32 0),(.int .u32 0),(.int .u32 0),(.int .u32 0),(.int .u32 0),(.int .u32 0),(.int .u32 0),(.int .u32 0),(.int .u32 0),(.int .u32 0),(.int .u32 0),(.int .u32 0),(.int .u32 0),(.int .u32 0),(.int .u32 0),(.int .u32 0),(.int .u32 0),(.int .u32 0),(.int .u32 0),(.int .u32 0),(.int .u32 0),(.int .u32 0),(.int .u32 0),(.int .u32 0),(.int .u32 0),(.int .u32 0),(.int .u32 0),(.int .u32 0),(.int .u32 0),(.int .u32 0),(.int .u32 0),(.int .u32 0),(.int .u32 0),(.int .u32 0),(.int .u32 0),(.int .u32 0),(.int .u32 0),(.int .u32 0),(.int .u32 0),(.int .u32 0),(.int .u32 0),(.int .u32 0),(.int .u32 0),(.int .u32 0),(.int .u32 0),(.int .u32 0),(.int .u32 0),(.int .u32 0),(.int .u32 0),(.int .u32 0),(.int .u32 0),(.int .u32 0),(.int .u32 0),(.int .u32 0),(.int .u32 0),(.int .u32 0),(.int .u32 0),(.int .u32 0)] [(0,1,(.const (Go.Value.int Go.IntKind.u32 1116352408))),(1,1,(.const (Go.Value.int Go.IntKind.u32 1899447441))),(2,1,(.const (Go.Value.int Go.IntKind.u32 3049323471))),(3,1,(.const (Go.Value.int Go.IntKind.u32 3921009573))),(4,1,(.const (Go.Value.int Go.IntKind.u32 961987163))),(5,1,(.const (Go.Value.int Go.IntKind.u32 1508970993))),(6,1,(.const (Go.Value.int Go.IntKind.u32 2453635748))),(7,1,(.const (Go.Value.int Go.IntKind.u32 2870763221))),(8,1,(.const (Go.Value.int Go.IntKind.u32 3624381080))),(9,1,(.const (Go.Value.int Go.IntKind.u32 310598401))),(10,1,(.const (Go.Value.int Go.IntKind.u32 607225278))),(11,1,(.const (Go.Value.int Go.IntKind.u32 1426881987))),(12,1,(.const (Go.Value.int Go.IntKind.u32 1925078388))),(13,1,(.const (Go.Value.int Go.IntKind.u32 2162078206))),(14,1,(.const (Go.Value.int Go.IntKind.u32 2614888103))),(15,1,(.const (Go.Value.int Go.IntKind.u32 3248222580))),(16,1,(.const (Go.Value.int Go.IntKind.u32 3835390401))),(17,1,(.const (Go.Value.int Go.IntKind.u32 4022224774))),(18,1,(.const (Go.Value.int Go.IntKind.u32 264347078))),(19,1,(.const (Go.Value.int Go.IntKind.u32 604807628))),(20,1,(.const (Go.Value.int Go.IntKind.u32 770255983))),(21,1,(.const (Go.Value.int Go.IntKind.u32 1249150122))),(22,1,(.const (Go.Value.int Go.IntKind.u32 1555081692))),(23,1,(.const (Go.Value.int Go.IntKind.u32 1996064986))),(24,1,(.const (Go.Value.int Go.IntKind.u32 2554220882))),(25,1,(.const (Go.Value.int Go.IntKind.u32 2821834349))),(26,1,(.const (Go.Value.int Go.IntKind.u32 2952996808))),(27,1,(.const (Go.Value.int Go.IntKind.u32 3210313671))),(28,1,(.const (Go.Value.int Go.IntKind.u32 3336571891))),(29,1,(.const (Go.Value.int Go.IntKind.u32 3584528711))),(30,1,(.const (Go.Value.int Go.IntKind.u32 113926993))),(31,1,(.const (Go.Value.int Go.IntKind.u32 338241895))),(32,1,(.const (Go.Value.int Go.IntKind.u32 666307205))),(33,1,(.const (Go.Value.int Go.IntKind.u32 773529912))),(34,1,(.const (Go.Value.int Go.IntKind.u32 1294757372))),(35,1,(.const (Go.Value.int Go.IntKind.u32 1396182291))),(36,1,(.const (Go.Value.int Go.IntKind.u32 1695183700))),(37,1,(.const (Go.Value.int Go.IntKind.u32 1986661051))),(38,1,(.const (Go.Value.int Go.IntKind.u32 2177026350))),(39,1,(.const (Go.Value.int Go.IntKind.u32 2456956037))),(40,1,(.const (Go.Value.int Go.IntKind.u32 2730485921))),(41,1,(.const (Go.Value.int Go.IntKind.u32 2820302411))),(42,1,(.const (Go.Value.int Go.IntKind.u32 3259730800))),(43,1,(.const (Go.Value.int Go.IntKind.u32 3345764771))),(44,1,(.const (Go.Value.int Go.IntKind.u32 3516065817))),(45,1,(.const (Go.Value.int Go.IntKind.u32 3600352804))),(46,1,(.const (Go.Value.int Go.IntKind.u32 4094571909))),(47,1,(.const (Go.Value.int Go.IntKind.u32 275423344))),(48,1,(.const (Go.Value.int Go.IntKind.u32 430227734))),(49,1,(.const (Go.Value.int Go.IntKind.u32 506948616))),(50,1,(.const (Go.Value.int Go.IntKind.u32 659060556))),(51,1,(.const (Go.Value.int Go.IntKind.u32 883997877))),(52,1,(.const (Go.Value.int Go.IntKind.u32 958139571))),(53,1,(.const (Go.Value.int Go.IntKind.u32 1322822218))),(54,1,(.const (Go.Value.int Go.IntKind.u32 1537002063))),(55,1,(.const (Go.Value.int Go.IntKind.u32 1747873779))),(56,1,(.const (Go.Value.int Go.IntKind.u32 1955562222))),(57,1,(.const (Go.Value.int Go.IntKind.u32 2024104815))),(58,1,(.const (Go.Value.int Go.IntKind.u32 2227730452))),(59,1,(.const (Go.Value.int Go.IntKind.u32 2361852424))),(60,1,(.const (Go.Value.int Go.IntKind.u32 2428436474))),(61,1,(.const (Go.Value.int Go.IntKind.u32 2756734187))),(62,1,(.const (Go.Value.int Go.IntKind.u32 3204031479))),(63,1,(.const (Go.Value.int Go.IntKind.u32 3329325298)))]),
 ⟨⟨none,.store 64 (t 0) (t 1),none⟩,0⟩]
def zcef : TC := (.seq (.ops zctc) (.clean [0] (.seq (.ops zctd) (.ret [0]))))
def zcdw : TFn := ⟨2,zcef,[.cellN 0 64],false⟩
theorem zdaj : type_of% (ai @zctc.eq_1 (ai @zctd.eq_1 (ai @zcef.eq_1 @zcdw.eq_1))) := ⟨rfl,rfl,rfl,rfl⟩
theorem zdap : u7 Try.prog [] zb5h = some (2,zcef.erase,[.cellN 0 64]) := by kernel_rfl
def zcq1 : List ak := [Qo 4 (.mov (.const (Go.Value.int Go.IntKind.u32 0)))]
def zcq2 : List ak := [Qo 5 (.mov (t 0)),
 Qo 6 (.mov (t 1)),
 Qo 7 (.bin .shr (t 5) (t 6)),
 Qo 8 (.mov (t 0)),
 Qo 9 (.mov (t 1)),
 Qo 10 (.bin .sub (.const (Go.Value.int Go.IntKind.u64 32)) (t 9)),
 Qo 11 (.bin .shl (t 8) (t 10)),
 Qo 12 (.bin .or (t 7) (t 11)),
 Qo 4 (.mov (t 12))]
def zcdr : TC := (.seq (.ops zcq1) (.clean [0,1] (.seq (.ops zcq2) (.ret [4]))))
def zcde : TFn := ⟨13,zcdr,[.tmp 4],false⟩
theorem zboh : type_of% (ai @zcq1.eq_1 (ai @zcq2.eq_1 (ai @zcdr.eq_1 @zcde.eq_1))) := ⟨rfl,rfl,rfl,rfl⟩
theorem zboa : u7 Try.prog [] lp = some (13,zcdr.erase,[.tmp 4]) := by kernel_rfl
def zcvk : List ak := [Qo 2 (.mov (.const (Go.Value.string ⟨#[]⟩)))]
def zcvl : List ak := [Qo 3 (.mov (t 0)),
 Qo 4 (.call ni [(t 3)]),
 Qo 5 (.bin .add (.const (Go.Value.string ⟨#[115,101,99,114,101,116]⟩)) (t 4)),
 Qo 2 (.mov (t 5))]
def zcev : TC := (.seq (.ops zcvk) (.clean [0] (.seq (.ops zcvl) (.ret [2]))))
def zcem : TFn := ⟨6,zcev,[.tmp 2],false⟩
theorem zda5 : type_of% (ai @zcvk.eq_1 (ai @zcvl.eq_1 (ai @zcev.eq_1 @zcem.eq_1))) := ⟨rfl,rfl,rfl,rfl⟩
theorem zda7 : u7 Try.prog [] zz = some (6,zcev.erase,[.tmp 2]) := by kernel_rfl
def zcvy : List ak := [Qo 4 (.mov (.const (Go.Value.string ⟨#[]⟩)))]
def zcvz : List ak := [Qo 7 (.mov (t 1)),
 Qo 8 (.bin .lss (t 7) (ci 0)),
 Qo 9 (.mov (t 8)),
 Qf 9 10 (.mov (t 1)),
 Qf 9 11 (.bin .gtr (t 10) (ci 255)),
 Qo 12 (.pick (t 9) QT (t 11))]
def zcv0 : List ak := [Qo 4 (.mov (.const (Go.Value.string ⟨#[]⟩)))]
def zcv1 : List ak := [Qo 5 (.mov (.const (Go.Value.string ⟨#[]⟩)))]
def zcv2 : List ak := [Qo 6 (.mov (ci 0))]
def zcv3 : List ak := [Qo 13 (.mov (t 6)),
 Qo 14 (.bin .lss (t 13) (ci 16))]
def zcv5 : List ak := [Qo 17 (.mov (t 5)),
 Qo 18 (.mov (t 0)),
 Qo 19 (.mov (t 1)),
 Qo 20 (.mov (t 6)),
 Qo 21 (.call y0 [(t 18),(t 19),(t 20),(ci 0)]),
 Qo 22 (.call qz [(t 21)]),
 Qo 23 (.bin .add (t 17) (t 22)),
 Qo 24 (.mov (t 0)),
 Qo 25 (.mov (t 1)),
 Qo 26 (.mov (t 6)),
 Qo 27 (.call y0 [(t 24),(t 25),(t 26),(ci 1)]),
 Qo 28 (.call qz [(t 27)]),
 Qo 29 (.bin .add (t 23) (t 28)),
 Qo 5 (.mov (t 29))]
def zcv4 : List ak := [Qo 15 (.mov (t 6)),
 Qo 16 (.bin .add (t 15) (ci 1)),
 Qo 6 (.mov (t 16))]
def zca9 : TC := (.seq (.seq (.ops zcv3) (.clean [0,1,5,6,14] (.cond (t 14) .skip (.exit 0)))) (.clean [0,1,5,6] (.seq (.block 1 [0,1,5,6] (.ops zcv5)) (.clean [0,1,5,6] (.ops zcv4)))))
def zcv6 : List ak := [Qo 30 (.mov (t 5)),
 Qo 31 (.call qz [(t 30)]),
 Qo 4 (.mov (t 31))]
def zcew : TC := (.seq (.ops zcvy) (.clean [0,1] (.seq (.seq (.ops zcvz) (.clean [0,1,12] (.cond (t 12) (.seq (.ops zcv0) (.ret [4])) .skip))) (.clean [0,1] (.seq (.ops zcv1) (.clean [0,1,5] (.seq (.seq (.ops zcv2) (.block 0 [5] (.clean [0,1,5,6] (.loop [0,1,5,6] zca9)))) (.clean [5] (.seq (.ops zcv6) (.ret [4]))))))))))
def zcen : TFn := ⟨32,zcew,[.tmp 4],false⟩
theorem zq : type_of% (ai @zcvy.eq_1 (ai @zcvz.eq_1 (ai @zcv0.eq_1 (ai @zcv1.eq_1 (ai @zcv2.eq_1 (ai @zcv3.eq_1 (ai @zcv5.eq_1 (ai @zcv4.eq_1 (ai @zcv6.eq_1 (ai @zcew.eq_1 @zcen.eq_1)))))))))) := ⟨rfl,rfl,rfl,rfl,rfl,rfl,rfl,rfl,rfl,rfl,rfl⟩
theorem zda8 : u7 Try.prog [] zy = some (32,zcew.erase,[.tmp 4]) := by kernel_rfl
def zcs0 : List ak := [Qo 2 (.mov (.const (Go.Value.string ⟨#[]⟩)))]
def zcs1 : List ak := [Qo 3 (.mov (t 0)),
 Qo 4 (.call zb17 [(t 3)]),
 Qo 5 (.sliceStr (t 4) none (some (ci 16))),
 Qo 2 (.mov (t 5))]
def zced : TC := (.seq (.ops zcs0) (.clean [0] (.seq (.ops zcs1) (.ret [2]))))
def zcd7 : TFn := ⟨6,zced,[.tmp 2],false⟩
theorem zc9y : type_of% (ai @zcs0.eq_1 (ai @zcs1.eq_1 (ai @zced.eq_1 @zcd7.eq_1))) := ⟨rfl,rfl,rfl,rfl⟩
theorem zdan : u7 Try.prog [] qz = some (6,zced.erase,[.tmp 2]) := by kernel_rfl
def zcte : List ak := [Qo 8 (.mov (.const (Go.Value.string ⟨#[]⟩)))]
def zctf : List ak := [Qo 9 (.mov (t 1)),
 Qo 10 (.bin .lss (t 9) (ci 0)),
 Qo 11 (.mov (t 10)),
 Qf 11 12 (.mov (t 1)),
 Qf 11 13 (.bin .gtr (t 12) (ci 255)),
 Qo 14 (.pick (t 11) QT (t 13)),
 Qo 15 (.mov (t 14)),
 Qf 15 16 (.mov (t 2)),
 Qf 15 17 (.bin .lss (t 16) (ci 0)),
 Qo 18 (.pick (t 15) QT (t 17)),
 Qo 19 (.mov (t 18)),
 Qf 19 20 (.mov (t 2)),
 Qf 19 21 (.bin .geq (t 20) (ci 16)),
 Qo 22 (.pick (t 19) QT (t 21)),
 Qo 23 (.mov (t 22)),
 Qf 23 24 (.mov (t 3)),
 Qf 23 25 (.bin .lss (t 24) (ci 0)),
 Qo 26 (.pick (t 23) QT (t 25)),
 Qo 27 (.mov (t 26)),
 Qf 27 28 (.mov (t 3)),
 Qf 27 29 (.bin .gtr (t 28) (ci 1)),
 Qo 30 (.pick (t 27) QT (t 29))]
def zctg : List ak := [Qo 8 (.mov (.const (Go.Value.string ⟨#[]⟩)))]
def zcth : List ak := [Qo 31 (.mov (t 0)),
 Qo 32 (.mov (t 1)),
 Qo 33 (.conv .u8 (t 32)),
 Qo 34 (.mov (t 2)),
 Qo 35 (.conv .u8 (t 34)),
 Qo 36 (.mov (t 3)),
 Qo 37 (.conv .u8 (t 36)),
 Qo 38 (.buildSl ph 1 3 [(.int .u8 0),(.int .u8 0),(.int .u8 0)] [(0,1,(t 33)),(1,1,(t 35)),(2,1,(t 37))]),
 Qo 39 (.toStr (t 38)),
 Qo 40 (.bin .add (t 31) (t 39)),
 Qo 41 (.call qz [(t 40)]),
 Qo 8 (.mov (t 41))]
def zceg : TC := (.seq (.ops zcte) (.clean [0,1,2,3] (.seq (.seq (.ops zctf) (.clean [0,1,2,3,30] (.cond (t 30) (.seq (.ops zctg) (.ret [8])) .skip))) (.clean [0,1,2,3] (.seq (.ops zcth) (.ret [8]))))))
def zcdx : TFn := ⟨42,zceg,[.tmp 8],false⟩
theorem yp : type_of% (ai @zcte.eq_1 (ai @zctf.eq_1 (ai @zctg.eq_1 (ai @zcth.eq_1 (ai @zceg.eq_1 @zcdx.eq_1))))) := ⟨rfl,rfl,rfl,rfl,rfl,rfl⟩
theorem zdaq : u7 Try.prog [] y0 = some (42,zceg.erase,[.tmp 8]) := by kernel_rfl
def zcqo : List ak := [Qo 2 (.mov (.const (Go.Value.string ⟨#[]⟩)))]
def zcqp : List ak := [Qo 3 (.mov (t 0)),
 Qo 4 (.call ni [(t 3)]),
 Qo 5 (.bin .add (.const (Go.Value.string ⟨#[115,101,101,100]⟩)) (t 4)),
 Qo 2 (.mov (t 5))]
def zcdp : TC := (.seq (.ops zcqo) (.clean [0] (.seq (.ops zcqp) (.ret [2]))))
def zcdc : TFn := ⟨6,zcdp,[.tmp 2],false⟩
theorem zboi : type_of% (ai @zcqo.eq_1 (ai @zcqp.eq_1 (ai @zcdp.eq_1 @zcdc.eq_1))) := ⟨rfl,rfl,rfl,rfl⟩
theorem zboc : u7 Try.prog [] zb43 = some (6,zcdp.erase,[.tmp 2]) := by kernel_rfl
def zcy9 : List ak := [Qo 1 (.box am 7 (t 0)),
 Qo 2 (.mov QF)]
def zcza : List ak := [Qo 3 (.loadN 7 (t 1)),
 Qo 4 (.call po [(t 3)]),
 Qo 5 (.mov (t 4)),
 Qt 5 6 (.loadN 7 (t 1)),
 Qt 5 7 (.call mj [(t 6)]),
 Qo 8 (.pick (t 5) (t 7) QF),
 Qo 2 (.mov (t 8))]
def zcfl : TC := (.seq (.ops zcy9) (.clean [1] (.seq (.ops zcza) (.ret [2]))))
def zcfa : TFn := ⟨9,zcfl,[.tmp 2],false⟩
theorem zcsu : type_of% (ai @zcy9.eq_1 (ai @zcza.eq_1 (ai @zcfl.eq_1 @zcfa.eq_1))) := ⟨rfl,rfl,rfl,rfl⟩
theorem zded : u7 Try.prog [] o7 = some (9,zcfl.erase,[.tmp 2]) := by kernel_rfl
def zc1z : List ak := [Qo 1 (.box am 7 (t 0)),
 Qo 2 (.mov QF)]
def zc10 : List ak := [Qo 3 (.loadN 7 (t 1)),
 Qo 4 (.call o6 [(t 3)]),
 Qo 5 (.un .not (t 4))]
def zc11 : List ak := [Qo 2 (.mov QF)]
def zc12 : List ak := [Qo 6 (.loadN 7 (t 1)),
 Qo 7 (.call kj [(t 6),(ci 0),QF,(.func j9)]),
 Qo 8 (.call cz [(t 7),QF]),
 Qo 9 (.un .not (t 8)),
 Qo 10 (.mov (t 9)),
 Qt 10 11 (.loadN 7 (t 1)),
 Qt 10 12 (.call kj [(t 11),(ci 0),QT,(.func j9)]),
 Qt 10 13 (.call cz [(t 12),QF]),
 Qt 10 14 (.un .not (t 13)),
 Qo 15 (.pick (t 10) (t 14) QF),
 Qo 2 (.mov (t 15))]
def zcfv : TC := (.seq (.ops zc1z) (.clean [1] (.seq (.seq (.ops zc10) (.clean [1,5] (.cond (t 5) (.seq (.ops zc11) (.ret [2])) .skip))) (.clean [1] (.seq (.ops zc12) (.ret [2]))))))
def zcf3 : TFn := ⟨16,zcfv,[.tmp 2],false⟩
theorem zcfo : type_of% (ai @zc1z.eq_1 (ai @zc10.eq_1 (ai @zc11.eq_1 (ai @zc12.eq_1 (ai @zcfv.eq_1 @zcf3.eq_1))))) := ⟨rfl,rfl,rfl,rfl,rfl,rfl⟩
theorem zdfk : u7 Try.prog [] po = some (16,zcfv.erase,[.tmp 2]) := by kernel_rfl
def zcw5 : List ak := [Qo 1 (.box am 7 (t 0)),
 Qo 2 (.mov QF)]
def zcw6 : List (ak × List Nat) := [(Qo 12 (.fieldAddr 1 (t 1)),[]),
 (Qo 13 (.load1 (t 12)),[]),
 (Qo 14 (.lenL (t 13)),[]),
 (Qo 15 (.fieldAddr 3 (t 1)),[]),
 (Qo 16 (.load1 (t 15)),[]),
 (Qo 17 (.lenL (t 16)),[]),
 (Qo 3 (.box cy 1 (.const (.int .i64 0))),[]),
 (⟨⟨none,.store 1 (t 3) (t 14),none⟩,0⟩,[4]),
 (Qo 4 (.mov (t 17)),[])]
def zcw7 : List ak := [Qo 18 (.fieldAddr 0 (t 1)),
 Qo 19 (.load1 (t 18)),
 Qo 20 (.call ur [(t 19)]),
 Qo 21 (.un .not (t 20)),
 Qo 22 (.mov (t 21)),
 Qf 22 23 (.load1 (t 3)),
 Qf 22 24 (.call ny [(t 23),(ci 2),(ci 6)]),
 Qf 22 25 (.un .not (t 24)),
 Qo 26 (.pick (t 22) QT (t 25)),
 Qo 27 (.mov (t 26)),
 Qf 27 28 (.mov (t 4)),
 Qf 27 29 (.call ny [(t 28),(ci 1),(ci 3)]),
 Qf 27 30 (.un .not (t 29)),
 Qo 31 (.pick (t 27) QT (t 30)),
 Qo 32 (.mov (t 31)),
 Qf 32 33 (.fieldAddr 2 (t 1)),
 Qf 32 34 (.load1 (t 33)),
 Qf 32 35 (.lenL (t 34)),
 Qf 32 36 (.call ny [(t 35),(ci 1),(ci 12)]),
 Qf 32 37 (.un .not (t 36)),
 Qo 38 (.pick (t 32) QT (t 37)),
 Qo 39 (.mov (t 38)),
 Qf 39 40 (.fieldAddr 4 (t 1)),
 Qf 39 41 (.load1 (t 40)),
 Qf 39 42 (.mov (t 4)),
 Qf 39 43 (.call uq [(t 41),(t 42),(ci 32)]),
 Qf 39 44 (.un .not (t 43)),
 Qo 45 (.pick (t 39) QT (t 44)),
 Qo 46 (.mov (t 45)),
 Qf 46 47 (.fieldAddr 5 (t 1)),
 Qf 46 48 (.load1 (t 47)),
 Qf 46 49 (.call ny [(t 48),(ci 0),(ci 1099511627776)]),
 Qf 46 50 (.un .not (t 49)),
 Qo 51 (.pick (t 46) QT (t 50)),
 Qo 52 (.mov (t 51)),
 Qf 52 53 (.fieldAddr 6 (t 1)),
 Qf 52 54 (.load1 (t 53)),
 Qf 52 55 (.call ny [(t 54),(ci 1),(ci 1048576)]),
 Qf 52 56 (.un .not (t 55)),
 Qo 57 (.pick (t 52) QT (t 56))]
def zcw8 : List ak := [Qo 2 (.mov QF)]
def zcw9 : List ak := [Qm 1 5 (.mov (.const (Go.Value.slice none 0 0)))]
def zcxa : List ak := [Qo 58 (.fieldAddr 1 (t 1)),
 Qo 59 (.load1 (t 58)),
 Qo 60 (.lenL (t 59)),
 Qo 61 (.mov (ci 0))]
def zcxb : List ak := [Qo 62 (.bin .lss (t 61) (t 60))]
def zcxc : List ak := [Qo 63 (.indexSl 2 (t 59) (t 61)),
 Qo 64 (.loadN 2 (t 63)),
 Qo 7 (.box jj 2 (.const (.agg #[(.string ⟨#[]⟩),(.slice none 0 0)]))),
 ⟨⟨none,.store 2 (t 7) (t 64),none⟩,0⟩]
def zcxy : List ak := [Qo 65 (.fieldAddr 0 (t 7)),
 Qo 66 (.load1 (t 65)),
 Qo 67 (.call ur [(t 66)]),
 Qo 68 (.un .not (t 67)),
 Qo 69 (.mov (t 68)),
 Qf 69 70 (.fieldAddr 1 (t 7)),
 Qf 69 71 (.load1 (t 70)),
 Qf 69 72 (.mov (t 4)),
 Qf 69 73 (.call uq [(t 71),(t 72),(ci 16)]),
 Qf 69 74 (.un .not (t 73)),
 Qo 75 (.pick (t 69) QT (t 74))]
def zcxz : List ak := [Qo 2 (.mov QF)]
def zczv : List ak := [Qo 76 (.mov (t 5)),
 Qo 77 (.fieldAddr 0 (t 7)),
 Qo 78 (.load1 (t 77)),
 Qo 79 (.buildSl il 1 1 [(.string ⟨#[]⟩)] [(0,1,(t 78))]),
 Qo 80 (.append il 1 16 (t 76) (t 79)),
 Qo 5 (.mov (t 80))]
def zczw : List ak := [Qo 81 (.bin .add (t 61) (ci 1)),
 Qo 61 (.mov (t 81))]
def rq : TC := (.seq (.ops zcxb) (.clean [1,3,4,5,59,60,61,62] (.seq (.cond (t 62) .skip (.exit 0)) (.clean [1,3,4,5,59,60,61] (.seq (.block 1 [1,3,4,5,59,60,61] (.seq (.ops zcxc) (.clean [1,3,4,5,7,59,60,61] (.seq (.seq (.ops zcxy) (.clean [1,3,4,5,7,59,60,61,75] (.cond (t 75) (.seq (.ops zcxz) (.ret [2])) .skip))) (.clean [1,3,4,5,7,59,60,61] (.ops zczv)))))) (.clean [1,3,4,5,59,60,61] (.ops zczw)))))))
def zczx : List ak := [Qm 1 8 (.mov (.const (Go.Value.slice none 0 0)))]
def zczy : List ak := [Qo 82 (.fieldAddr 2 (t 1)),
 Qo 83 (.load1 (t 82)),
 Qo 84 (.lenL (t 83)),
 Qo 85 (.mov (ci 0))]
def zczz : List ak := [Qo 86 (.bin .lss (t 85) (t 84))]
def zcz0 : List ak := [Qo 87 (.indexSl 5 (t 83) (t 85)),
 Qo 88 (.loadN 5 (t 87)),
 Qo 10 (.box ju 5 (.const (.agg #[(.int .i64 0),(.int .i64 0),(.int .i64 0),(.string ⟨#[]⟩),(.int .i64 0)]))),
 ⟨⟨none,.store 5 (t 10) (t 88),none⟩,0⟩]
def zcz1 : List ak := [Qo 89 (.loadN 5 (t 10)),
 Qo 90 (.load1 (t 3)),
 Qo 91 (.call zb47 [(t 89),(t 90)]),
 Qo 92 (.un .not (t 91))]
def zcz2 : List ak := [Qo 2 (.mov QF)]
def zcz3 : List ak := [Qo 93 (.mov (t 8)),
 Qo 94 (.fieldAddr 0 (t 10)),
 Qo 95 (.load1 (t 94)),
 Qo 96 (.fieldAddr 1 (t 10)),
 Qo 97 (.load1 (t 96)),
 Qo 98 (.build [(.int .i64 0),(.int .i64 0)] [(0,1,(t 95)),(1,1,(t 97))]),
 Qo 99 (.buildSl qa 2 1 [(.int .i64 0),(.int .i64 0)] [(0,2,(t 98))]),
 Qo 100 (.append qa 2 16 (t 93) (t 99)),
 Qo 8 (.mov (t 100))]
def zcz4 : List ak := [Qo 101 (.bin .add (t 85) (ci 1)),
 Qo 85 (.mov (t 101))]
def xa : TC := (.seq (.ops zczz) (.clean [1,3,5,8,83,84,85,86] (.seq (.cond (t 86) .skip (.exit 2)) (.clean [1,3,5,8,83,84,85] (.seq (.block 3 [1,3,5,8,83,84,85] (.seq (.ops zcz0) (.clean [1,3,5,8,10,83,84,85] (.seq (.seq (.ops zcz1) (.clean [1,3,5,8,10,83,84,85,92] (.cond (t 92) (.seq (.ops zcz2) (.ret [2])) .skip))) (.clean [1,3,5,8,10,83,84,85] (.ops zcz3)))))) (.clean [1,3,5,8,83,84,85] (.ops zcz4)))))))
def zcz5 : List ak := [Qo 102 (.mkFunc (.func jd) [] [(t 3)]),
 Qo 11 (.mov (t 102))]
def zcz6 : List ak := [Qo 103 (.mov (t 5)),
 Qo 104 (.call iu [(t 103)]),
 Qo 105 (.mov (t 104)),
 Qt 105 106 (.mov (t 8)),
 Qt 105 107 (.call j8 [(t 106)]),
 Qo 108 (.pick (t 105) (t 107) QF),
 Qo 109 (.mov (t 108)),
 Qt 109 110 (.fieldAddr 3 (t 1)),
 Qt 109 111 (.load1 (t 110)),
 Qt 109 112 (.call mb [(t 111)]),
 Qo 113 (.pick (t 109) (t 112) QF),
 Qo 114 (.mov (t 113)),
 Qt 114 115 (.fieldAddr 3 (t 1)),
 Qt 114 116 (.load1 (t 115)),
 Qt 114 117 (.mov (t 11)),
 Qt 114 118 (.call dg [(t 116),(t 117)]),
 Qt 114 119 (.un .not (t 118)),
 Qo 120 (.pick (t 114) (t 119) QF),
 Qo 2 (.mov (t 120))]
def zcez : TC := (.seq (.ops zcw5) (.clean [1] (.seq (.draw zcw6) (.clean [1,3,4] (.seq (.seq (.ops zcw7) (.clean [1,3,4,57] (.cond (t 57) (.seq (.ops zcw8) (.ret [2])) .skip))) (.clean [1,3,4] (.seq (.ops zcw9) (.clean [1,3,4,5] (.seq (.seq (.ops zcxa) (.block 0 [1,3,5] (.clean [1,3,4,5,59,60,61] (.loop [1,3,4,5,59,60,61] rq)))) (.clean [1,3,5] (.seq (.ops zczx) (.clean [1,3,5,8] (.seq (.seq (.ops zczy) (.block 2 [1,3,5,8] (.clean [1,3,5,8,83,84,85] (.loop [1,3,5,8,83,84,85] xa)))) (.clean [1,3,5,8] (.seq (.ops zcz5) (.clean [1,5,8,11] (.seq (.ops zcz6) (.ret [2]))))))))))))))))))
def zceq : TFn := ⟨121,zcez,[.tmp 2],false⟩
theorem cd : type_of% (ai @zcw5.eq_1 (ai @zcw6.eq_1 (ai @zcw7.eq_1 (ai @zcw8.eq_1 (ai @zcw9.eq_1 (ai @zcxa.eq_1 (ai @zcxb.eq_1 (ai @zcxc.eq_1 (ai @zcxy.eq_1 (ai @zcxz.eq_1 (ai @zczv.eq_1 (ai @zczw.eq_1 (ai @zczx.eq_1 (ai @zczy.eq_1 (ai @zczz.eq_1 (ai @zcz0.eq_1 (ai @zcz1.eq_1 (ai @zcz2.eq_1 (ai @zcz3.eq_1 (ai @zcz4.eq_1 (ai @zcz5.eq_1 (ai @zcz6.eq_1 (ai @zcez.eq_1 @zceq.eq_1))))))))))))))))))))))) := ⟨rfl,rfl,rfl,rfl,rfl,rfl,rfl,rfl,rfl,rfl,rfl,rfl,rfl,rfl,rfl,rfl,rfl,rfl,rfl,rfl,rfl,rfl,rfl,rfl⟩
theorem zdbb : u7 Try.prog [(1,⟨[0,1,2,3,4,5,6,7,8],[0,1,3,0,8,24,0,71,255],[],[(7,[4])]⟩)] o6 = some (121,zcez.erase,[.tmp 2]) := by kernel_rfl
def zcuk : List ak := [Qo 2 (.mov QF)]
def zcux : List ak := [Qo 3 (.mov (t 0)),
 Qo 4 (.lenS (t 3)),
 Qo 5 (.bin .geq (t 4) (ci 1)),
 Qo 6 (.mov (t 5)),
 Qt 6 7 (.mov (t 0)),
 Qt 6 8 (.lenS (t 7)),
 Qt 6 9 (.bin .leq (t 8) (ci 16)),
 Qo 10 (.pick (t 6) (t 9) QF),
 Qo 2 (.mov (t 10))]
def zcea : TC := (.seq (.ops zcuk) (.clean [0] (.seq (.ops zcux) (.ret [2]))))
def zcd3 : TFn := ⟨11,zcea,[.tmp 2],false⟩
theorem zc7e : type_of% (ai @zcuk.eq_1 (ai @zcux.eq_1 (ai @zcea.eq_1 @zcd3.eq_1))) := ⟨rfl,rfl,rfl,rfl⟩
theorem zc94 : u7 Try.prog [] ur = some (11,zcea.erase,[.tmp 2]) := by kernel_rfl
def zc8j : List ak := [Qo 6 (.mov QF)]
def zc8k : List ak := [Qo 7 (.mov (t 0)),
 Qo 8 (.mov (t 1)),
 Qo 9 (.bin .geq (t 7) (t 8)),
 Qo 10 (.mov (t 9)),
 Qt 10 11 (.mov (t 0)),
 Qt 10 12 (.mov (t 2)),
 Qt 10 13 (.bin .leq (t 11) (t 12)),
 Qo 14 (.pick (t 10) (t 13) QF),
 Qo 6 (.mov (t 14))]
def zcc1 : TC := (.seq (.ops zc8j) (.clean [0,1,2] (.seq (.ops zc8k) (.ret [6]))))
def zccv : TFn := ⟨15,zcc1,[.tmp 6],false⟩
theorem zcnc : type_of% (ai @zc8j.eq_1 (ai @zc8k.eq_1 (ai @zcc1.eq_1 @zccv.eq_1))) := ⟨rfl,rfl,rfl,rfl⟩
theorem zbur : u7 Try.prog [] ny = some (15,zcc1.erase,[.tmp 6]) := by kernel_rfl
def zcx0 : List ak := [Qo 5 (.box cy 1 (t 2)),
 Qo 6 (.mov QF)]
def zcx1 : List ak := [Qo 7 (.mov (t 0)),
 Qo 8 (.lenL (t 7)),
 Qo 9 (.mov (t 1)),
 Qo 10 (.bin .eql (t 8) (t 9)),
 Qo 11 (.mov (t 10)),
 Qt 11 12 (.mov (t 0)),
 Qt 11 13 (.mkFunc (.func jc) [] [(t 5)]),
 Qt 11 14 (.call bz [(t 12),(t 13)]),
 Qt 11 15 (.un .not (t 14)),
 Qo 16 (.pick (t 11) (t 15) QF),
 Qo 6 (.mov (t 16))]
def zce0 : TC := (.seq (.ops zcx0) (.clean [0,1,5] (.seq (.ops zcx1) (.ret [6]))))
def zcer : TFn := ⟨17,zce0,[.tmp 6],false⟩
theorem zcqb : type_of% (ai @zcx0.eq_1 (ai @zcx1.eq_1 (ai @zce0.eq_1 @zcer.eq_1))) := ⟨rfl,rfl,rfl,rfl⟩
theorem zdbc : u7 Try.prog [] uq = some (17,zce0.erase,[.tmp 6]) := by kernel_rfl
def mn : List ak := [Qo 4 (.mov QF)]
def mm : List ak := [Qo 5 (.mov (t 0)),
 Qo 6 (.mov (t 1)),
 Qo 7 (.call cg [(t 5),(t 6)]),
 Qo 8 (.bin .geq (t 7) (ci 0)),
 Qo 4 (.mov (t 8))]
def iz : TC := (.seq (.ops mn) (.clean [0,1] (.seq (.ops mm) (.ret [4]))))
def ja : TFn := ⟨9,iz,[.tmp 4],false⟩
theorem yo : type_of% (ai @mn.eq_1 (ai @mm.eq_1 (ai @iz.eq_1 @ja.eq_1))) := ⟨rfl,rfl,rfl,rfl⟩
theorem yn : u7 Try.prog [] bz = some (9,iz.erase,[.tmp 4]) := by kernel_rfl
def od : List ak := [Qo 4 (.mov (ci 0))]
def oa : List ak := [Qo 6 (.mov (t 0)),
 Qo 7 (.lenL (t 6)),
 Qo 8 (.mov (ci 0))]
def n9 : List ak := [Qo 9 (.bin .lss (t 8) (t 7))]
def n8 : List ak := [Qo 10 (.mov (t 8)),
 Qo 5 (.mov (t 10))]
def n7 : List ak := [Qo 11 (.mov (t 1)),
 Qo 12 (.mov (t 0)),
 Qo 13 (.mov (t 5)),
 Qo 14 (.indexSl 1 (t 12) (t 13)),
 Qo 15 (.load1 (t 14)),
 Qo 16 (.callv (t 11) [(t 15)])]
def n6 : List ak := [Qo 17 (.mov (t 5)),
 Qo 4 (.mov (t 17))]
def n5 : List ak := [Qo 18 (.bin .add (t 8) (ci 1)),
 Qo 8 (.mov (t 18))]
def dc : TC := (.seq (.ops n9) (.clean [0,1,7,8,9] (.seq (.cond (t 9) .skip (.exit 0)) (.clean [0,1,7,8] (.seq (.block 1 [0,1,7,8] (.seq (.ops n8) (.clean [0,1,5,7,8] (.seq (.ops n7) (.clean [0,1,5,7,8,16] (.cond (t 16) (.seq (.ops n6) (.ret [4])) .skip)))))) (.clean [0,1,7,8] (.ops n5)))))))
def n4 : List ak := [Qo 4 (.mov (ci (-1)))]
def ka : TC := (.seq (.ops od) (.clean [0,1] (.seq (.seq (.ops oa) (.block 0 [] (.clean [0,1,7,8] (.loop [0,1,7,8] dc)))) (.clean [] (.seq (.ops n4) (.ret [4]))))))
def kf : TFn := ⟨19,ka,[.tmp 4],false⟩
theorem ce : type_of% (ai @od.eq_1 (ai @oa.eq_1 (ai @n9.eq_1 (ai @n8.eq_1 (ai @n7.eq_1 (ai @n6.eq_1 (ai @n5.eq_1 (ai @n4.eq_1 (ai @ka.eq_1 @kf.eq_1))))))))) := ⟨rfl,rfl,rfl,rfl,rfl,rfl,rfl,rfl,rfl,rfl⟩
theorem zdd0 : u7 Try.prog [] cg = some (19,ka.erase,[.tmp 4]) := by kernel_rfl
def zc2g : List ak := [Qo 3 (.mov QF)]
def zc2h : List ak := [Qo 4 (.mov (t 0)),
 Qo 5 (.lenS (t 4)),
 Qo 6 (.load1 (t 1)),
 Qo 7 (.bin .neq (t 5) (t 6)),
 Qo 3 (.mov (t 7))]
def zcfy : TC := (.seq (.ops zc2g) (.clean [0,1] (.seq (.ops zc2h) (.ret [3]))))
def zcf6 : TFn := ⟨8,zcfy,[.tmp 3],false⟩
theorem zdff : type_of% (ai @zc2g.eq_1 (ai @zc2h.eq_1 (ai @zcfy.eq_1 @zcf6.eq_1))) := ⟨rfl,rfl,rfl,rfl⟩
theorem zdfn : u7 Try.prog [] jc = some (8,zcfy.erase,[.tmp 3]) := by kernel_rfl
def zcr1 : List ak := [Qo 2 (.box ju 5 (t 0)),
 Qo 4 (.mov QF)]
def zcr2 : List ak := [Qo 5 (.fieldAddr 0 (t 2)),
 Qo 6 (.load1 (t 5)),
 Qo 7 (.mov (t 1)),
 Qo 8 (.bin .sub (t 7) (ci 1)),
 Qo 9 (.call ny [(t 6),(ci 0),(t 8)]),
 Qo 10 (.mov (t 9)),
 Qt 10 11 (.fieldAddr 1 (t 2)),
 Qt 10 12 (.load1 (t 11)),
 Qt 10 13 (.mov (t 1)),
 Qt 10 14 (.bin .sub (t 13) (ci 1)),
 Qt 10 15 (.call ny [(t 12),(ci 0),(t 14)]),
 Qo 16 (.pick (t 10) (t 15) QF),
 Qo 17 (.mov (t 16)),
 Qt 17 18 (.fieldAddr 0 (t 2)),
 Qt 17 19 (.load1 (t 18)),
 Qt 17 20 (.fieldAddr 1 (t 2)),
 Qt 17 21 (.load1 (t 20)),
 Qt 17 22 (.bin .neq (t 19) (t 21)),
 Qo 23 (.pick (t 17) (t 22) QF),
 Qo 24 (.mov (t 23)),
 Qt 24 25 (.fieldAddr 2 (t 2)),
 Qt 24 26 (.load1 (t 25)),
 Qt 24 27 (.call ny [(t 26),(ci 0),(ci 3)]),
 Qo 28 (.pick (t 24) (t 27) QF),
 Qo 29 (.mov (t 28)),
 Qt 29 30 (.fieldAddr 3 (t 2)),
 Qt 29 31 (.load1 (t 30)),
 Qt 29 32 (.call ur [(t 31)]),
 Qo 33 (.pick (t 29) (t 32) QF),
 Qo 34 (.mov (t 33)),
 Qt 34 35 (.fieldAddr 4 (t 2)),
 Qt 34 36 (.load1 (t 35)),
 Qt 34 37 (.call ny [(t 36),(ci 1),(ci 1125899906842624)]),
 Qo 38 (.pick (t 34) (t 37) QF),
 Qo 4 (.mov (t 38))]
def zcdl : TC := (.seq (.ops zcr1) (.clean [1,2] (.seq (.ops zcr2) (.ret [4]))))
def zcdi : TFn := ⟨39,zcdl,[.tmp 4],false⟩
theorem zb5a : type_of% (ai @zcr1.eq_1 (ai @zcr2.eq_1 (ai @zcdl.eq_1 @zcdi.eq_1))) := ⟨rfl,rfl,rfl,rfl⟩
theorem zbn6 : u7 Try.prog [] zb47 = some (39,zcdl.erase,[.tmp 4]) := by kernel_rfl
def zc2e : List ak := [Qo 3 (.mov QF)]
def zc2f : List ak := [Qo 4 (.mov (t 0)),
 Qo 5 (.load1 (t 1)),
 Qo 6 (.bin .sub (t 5) (ci 1)),
 Qo 7 (.call ny [(t 4),(ci 0),(t 6)]),
 Qo 8 (.un .not (t 7)),
 Qo 3 (.mov (t 8))]
def zcfx : TC := (.seq (.ops zc2e) (.clean [0,1] (.seq (.ops zc2f) (.ret [3]))))
def zcf5 : TFn := ⟨9,zcfx,[.tmp 3],false⟩
theorem zdfe : type_of% (ai @zc2e.eq_1 (ai @zc2f.eq_1 (ai @zcfx.eq_1 @zcf5.eq_1))) := ⟨rfl,rfl,rfl,rfl⟩
theorem zdfm : u7 Try.prog [] jd = some (9,zcfx.erase,[.tmp 3]) := by kernel_rfl
def wg : List ak := [Qo 2 (.mov QF)]
def we : List ak := [Qo 6 .mkMap,
 Qo 3 (.mov (t 6))]
def wd : List ak := [Qo 7 (.mov (t 0)),
 Qo 8 (.lenL (t 7)),
 Qo 9 (.mov (ci 0))]
def wb : List ak := [Qo 10 (.bin .lss (t 9) (t 8))]
def wa : List ak := [Qo 11 (.indexSl 1 (t 7) (t 9)),
 Qo 12 (.load1 (t 11)),
 Qo 5 (.mov (t 12))]
def vz : List ak := [Qo 13 (.mov (t 3)),
 Qo 14 (.mov (t 5)),
 Qo 15 (.mapGet il (t 13) (t 14))]
def vy : List ak := [Qo 2 (.mov QF)]
def vx : List ak := [Qo 16 (.mov (t 3)),
 Qo 17 (.mov (t 5)),
 ⟨⟨none,.mapSet il (t 16) (t 17) QT,none⟩,0⟩]
def vv : List ak := [Qo 18 (.bin .add (t 9) (ci 1)),
 Qo 9 (.mov (t 18))]
def zc3z : TC := (.seq (.ops wb) (.clean [3,7,8,9,10] (.seq (.cond (t 10) .skip (.exit 0)) (.clean [3,7,8,9] (.seq (.block 1 [3,7,8,9] (.seq (.ops wa) (.clean [3,5,7,8,9] (.seq (.seq (.ops vz) (.clean [3,5,7,8,9,15] (.cond (t 15) (.seq (.ops vy) (.ret [2])) .skip))) (.clean [3,5,7,8,9] (.ops vx)))))) (.clean [3,7,8,9] (.ops vv)))))))
def vu : List ak := [Qo 2 (.mov QT)]
def qg : TC := (.seq (.ops wg) (.clean [0] (.seq (.ops we) (.clean [0,3] (.seq (.seq (.ops wd) (.block 0 [] (.clean [3,7,8,9] (.loop [3,7,8,9] zc3z)))) (.clean [] (.seq (.ops vu) (.ret [2]))))))))
theorem zdc3 : u7 Try.prog [] iu = some (19,qg.erase,[.tmp 2]) := by kernel_rfl
def yk : List ak := [Qo 2 (.mov QF)]
def yj : List ak := [Qo 6 .mkMap,
 Qo 3 (.mov (t 6))]
def yi : List ak := [Qo 7 (.mov (t 0)),
 Qo 8 (.lenL (t 7)),
 Qo 9 (.mov (ci 0))]
def yh : List ak := [Qo 10 (.bin .lss (t 9) (t 8))]
def yg : List ak := [Qo 11 (.indexSl 2 (t 7) (t 9)),
 Qo 12 (.loadN 2 (t 11)),
 Qo 5 (.box qa 2 (.const (.agg #[(.int .i64 0),(.int .i64 0)]))),
 ⟨⟨none,.store 2 (t 5) (t 12),none⟩,0⟩]
def yf : List ak := [Qo 13 (.mov (t 3)),
 Qo 14 (.loadN 2 (t 5)),
 Qo 15 (.mapGet qa (t 13) (t 14))]
def ye : List ak := [Qo 2 (.mov QF)]
def yd : List ak := [Qo 16 (.mov (t 3)),
 Qo 17 (.loadN 2 (t 5)),
 ⟨⟨none,.mapSet qa (t 16) (t 17) QT,none⟩,0⟩]
def yc : List ak := [Qo 18 (.bin .add (t 9) (ci 1)),
 Qo 9 (.mov (t 18))]
def zc3t : TC := (.seq (.ops yh) (.clean [3,7,8,9,10] (.seq (.cond (t 10) .skip (.exit 0)) (.clean [3,7,8,9] (.seq (.block 1 [3,7,8,9] (.seq (.ops yg) (.clean [3,5,7,8,9] (.seq (.seq (.ops yf) (.clean [3,5,7,8,9,15] (.cond (t 15) (.seq (.ops ye) (.ret [2])) .skip))) (.clean [3,5,7,8,9] (.ops yd)))))) (.clean [3,7,8,9] (.ops yc)))))))
def yb : List ak := [Qo 2 (.mov QT)]
def r8 : TC := (.seq (.ops yk) (.clean [0] (.seq (.ops yj) (.clean [0,3] (.seq (.seq (.ops yi) (.block 0 [] (.clean [3,7,8,9] (.loop [3,7,8,9] zc3t)))) (.clean [] (.seq (.ops yb) (.ret [2]))))))))
theorem zdcc : u7 Try.prog [] j8 = some (19,r8.erase,[.tmp 2]) := by kernel_rfl
def zc37 : List ak := [Qo 2 (.mov QF)]
def zc38 : List ak := [Qo 6 .mkMap,
 Qo 3 (.mov (t 6))]
def zc39 : List ak := [Qo 7 (.mov (t 0)),
 Qo 8 (.lenL (t 7)),
 Qo 9 (.mov (ci 0))]
def zc4a : List ak := [Qo 10 (.bin .lss (t 9) (t 8))]
def zc4b : List ak := [Qo 11 (.indexSl 1 (t 7) (t 9)),
 Qo 12 (.load1 (t 11)),
 Qo 5 (.mov (t 12))]
def zc32 : List ak := [Qo 13 (.mov (t 3)),
 Qo 14 (.mov (t 5)),
 Qo 15 (.mapGet cy (t 13) (t 14))]
def zc33 : List ak := [Qo 2 (.mov QF)]
def zc34 : List ak := [Qo 16 (.mov (t 3)),
 Qo 17 (.mov (t 5)),
 ⟨⟨none,.mapSet cy (t 16) (t 17) QT,none⟩,0⟩]
def zc35 : List ak := [Qo 18 (.bin .add (t 9) (ci 1)),
 Qo 9 (.mov (t 18))]
def zc20 : TC := (.seq (.ops zc4a) (.clean [3,7,8,9,10] (.seq (.cond (t 10) .skip (.exit 0)) (.clean [3,7,8,9] (.seq (.block 1 [3,7,8,9] (.seq (.ops zc4b) (.clean [3,5,7,8,9] (.seq (.seq (.ops zc32) (.clean [3,5,7,8,9,15] (.cond (t 15) (.seq (.ops zc33) (.ret [2])) .skip))) (.clean [3,5,7,8,9] (.ops zc34)))))) (.clean [3,7,8,9] (.ops zc35)))))))
def zc36 : List ak := [Qo 2 (.mov QT)]
def xp : TC := (.seq (.ops zc37) (.clean [0] (.seq (.ops zc38) (.clean [0,3] (.seq (.seq (.ops zc39) (.block 0 [] (.clean [3,7,8,9] (.loop [3,7,8,9] zc20)))) (.clean [] (.seq (.ops zc36) (.ret [2]))))))))
theorem zdf7 : u7 Try.prog [] mb = some (19,xp.erase,[.tmp 2]) := by kernel_rfl
def py : List ak := [Qo 4 (.mov QF)]
def px : List ak := [Qo 5 (.mov (t 0)),
 Qo 6 (.mov (t 1)),
 Qo 7 (.call fg [(t 5),(t 6)]),
 Qo 8 (.bin .geq (t 7) (ci 0)),
 Qo 4 (.mov (t 8))]
def ly : TC := (.seq (.ops py) (.clean [0,1] (.seq (.ops px) (.ret [4]))))
def ma : TFn := ⟨9,ly,[.tmp 4],false⟩
theorem zddu : type_of% (ai @py.eq_1 (ai @px.eq_1 (ai @ly.eq_1 @ma.eq_1))) := ⟨rfl,rfl,rfl,rfl⟩
theorem zddv : u7 Try.prog [] dg = some (9,ly.erase,[.tmp 4]) := by kernel_rfl
def sq : List ak := [Qo 4 (.mov (ci 0))]
def sp : List ak := [Qo 6 (.mov (t 0)),
 Qo 7 (.lenL (t 6)),
 Qo 8 (.mov (ci 0))]
def sn : List ak := [Qo 9 (.bin .lss (t 8) (t 7))]
def sm : List ak := [Qo 10 (.mov (t 8)),
 Qo 5 (.mov (t 10))]
def sj : List ak := [Qo 11 (.mov (t 1)),
 Qo 12 (.mov (t 0)),
 Qo 13 (.mov (t 5)),
 Qo 14 (.indexSl 1 (t 12) (t 13)),
 Qo 15 (.load1 (t 14)),
 Qo 16 (.callv (t 11) [(t 15)])]
def si : List ak := [Qo 17 (.mov (t 5)),
 Qo 4 (.mov (t 17))]
def sg : List ak := [Qo 18 (.bin .add (t 8) (ci 1)),
 Qo 8 (.mov (t 18))]
def gh : TC := (.seq (.ops sn) (.clean [0,1,7,8,9] (.seq (.cond (t 9) .skip (.exit 0)) (.clean [0,1,7,8] (.seq (.block 1 [0,1,7,8] (.seq (.ops sm) (.clean [0,1,5,7,8] (.seq (.ops sj) (.clean [0,1,5,7,8,16] (.cond (t 16) (.seq (.ops si) (.ret [4])) .skip)))))) (.clean [0,1,7,8] (.ops sg)))))))
def sf : List ak := [Qo 4 (.mov (ci (-1)))]
def nk : TC := (.seq (.ops sq) (.clean [0,1] (.seq (.seq (.ops sp) (.block 0 [] (.clean [0,1,7,8] (.loop [0,1,7,8] gh)))) (.clean [] (.seq (.ops sf) (.ret [4]))))))
def nw : TFn := ⟨19,nk,[.tmp 4],false⟩
theorem ew : type_of% (ai @sq.eq_1 (ai @sp.eq_1 (ai @sn.eq_1 (ai @sm.eq_1 (ai @sj.eq_1 (ai @si.eq_1 (ai @sg.eq_1 (ai @sf.eq_1 (ai @nk.eq_1 @nw.eq_1))))))))) := ⟨rfl,rfl,rfl,rfl,rfl,rfl,rfl,rfl,rfl,rfl⟩
theorem zddl : u7 Try.prog [] fg = some (19,nk.erase,[.tmp 4]) := by kernel_rfl
def rf : List ak := [Qo 4 (.mov QF)]
def re : List ak := [Qo 5 (.mov (t 0)),
 Qo 6 (.mov (t 1)),
 Qo 7 (.call gu [(t 5),(t 6)]),
 Qo 8 (.bin .geq (t 7) (ci 0)),
 Qo 4 (.mov (t 8))]
def mo : TC := (.seq (.ops rf) (.clean [0,1] (.seq (.ops re) (.ret [4]))))
def mr : TFn := ⟨9,mo,[.tmp 4],false⟩
theorem zddo : type_of% (ai @rf.eq_1 (ai @re.eq_1 (ai @mo.eq_1 @mr.eq_1))) := ⟨rfl,rfl,rfl,rfl⟩
theorem zddr : u7 Try.prog [] cz = some (9,mo.erase,[.tmp 4]) := by kernel_rfl
def vo : List ak := [Qo 4 (.mov (ci 0))]
def vn : List ak := [Qo 6 (.mov (t 0)),
 Qo 7 (.lenL (t 6)),
 Qo 8 (.mov (ci 0))]
def vm : List ak := [Qo 9 (.bin .lss (t 8) (t 7))]
def vl : List ak := [Qo 10 (.mov (t 8)),
 Qo 5 (.mov (t 10))]
def vk : List ak := [Qo 11 (.mov (t 1)),
 Qo 12 (.mov (t 0)),
 Qo 13 (.mov (t 5)),
 Qo 14 (.indexSl 1 (t 12) (t 13)),
 Qo 15 (.load1 (t 14)),
 Qo 16 (.eqB false (t 11) (t 15))]
def vj : List ak := [Qo 17 (.mov (t 5)),
 Qo 4 (.mov (t 17))]
def vi : List ak := [Qo 18 (.bin .add (t 8) (ci 1)),
 Qo 8 (.mov (t 18))]
def ip : TC := (.seq (.ops vm) (.clean [0,1,7,8,9] (.seq (.cond (t 9) .skip (.exit 0)) (.clean [0,1,7,8] (.seq (.block 1 [0,1,7,8] (.seq (.ops vl) (.clean [0,1,5,7,8] (.seq (.ops vk) (.clean [0,1,5,7,8,16] (.cond (t 16) (.seq (.ops vj) (.ret [4])) .skip)))))) (.clean [0,1,7,8] (.ops vi)))))))
def vh : List ak := [Qo 4 (.mov (ci (-1)))]
def o8 : TC := (.seq (.ops vo) (.clean [0,1] (.seq (.seq (.ops vn) (.block 0 [] (.clean [0,1,7,8] (.loop [0,1,7,8] ip)))) (.clean [] (.seq (.ops vh) (.ret [4]))))))
def pe : TFn := ⟨19,o8,[.tmp 4],false⟩
theorem gt : type_of% (ai @vo.eq_1 (ai @vn.eq_1 (ai @vm.eq_1 (ai @vl.eq_1 (ai @vk.eq_1 (ai @vj.eq_1 (ai @vi.eq_1 (ai @vh.eq_1 (ai @o8.eq_1 @pe.eq_1))))))))) := ⟨rfl,rfl,rfl,rfl,rfl,rfl,rfl,rfl,rfl,rfl⟩
theorem zddd : u7 Try.prog [] gu = some (19,o8.erase,[.tmp 4]) := by kernel_rfl
def zcz7 : List ak := [Qo 4 (.box am 7 (t 0)),
 Qo 8 (.mov (.const (Go.Value.slice none 0 0)))]
def zcz8 : List ak := [Qo 17 (.fieldAddr 1 (t 4)),
 Qo 18 (.load1 (t 17)),
 Qo 19 (.lenL (t 18)),
 Qm 1 20 (.makeSl zb9y 1 [(.bool false)] (t 19) (t 19)),
 Qo 9 (.mov (t 20))]
def zcz9 : List ak := [Qo 21 (.mov (t 1)),
 Qm 1 22 (.buildSl cy 1 1 [(.int .i64 0)] [(0,1,(t 21))]),
 Qo 10 (.mov (t 22))]
def zc0a : List ak := [Qo 23 (.mov (t 10)),
 Qo 24 (.lenL (t 23)),
 Qo 11 (.mov (t 24))]
def zc0b : List ak := [Qo 25 (.mov (t 11)),
 Qo 26 (.bin .eql (t 25) (ci 0))]
def zc0c : List ak := [Qo 27 (.mov (t 10)),
 Qo 28 (.mov (t 11)),
 Qo 29 (.bin .sub (t 28) (ci 1)),
 Qo 30 (.indexSl 1 (t 27) (t 29)),
 Qo 31 (.load1 (t 30)),
 Qo 12 (.mov (t 31))]
def zc0d : List ak := [Qo 32 (.mov (t 10)),
 Qo 33 (.mov (t 11)),
 Qo 34 (.bin .sub (t 33) (ci 1)),
 Qo 35 (.sliceSl 1 (t 32) none (some (t 34))),
 Qo 10 (.mov (t 35))]
def zc0e : List ak := [Qo 36 (.fieldAddr 2 (t 4)),
 Qo 37 (.load1 (t 36)),
 Qo 38 (.lenL (t 37)),
 Qo 39 (.mov (ci 0))]
def zc0f : List ak := [Qo 40 (.bin .lss (t 39) (t 38))]
def zc0g : List ak := [Qo 41 (.indexSl 5 (t 37) (t 39)),
 Qo 42 (.loadN 5 (t 41)),
 Qo 14 (.box ju 5 (.const (.agg #[(.int .i64 0),(.int .i64 0),(.int .i64 0),(.string ⟨#[]⟩),(.int .i64 0)]))),
 ⟨⟨none,.store 5 (t 14) (t 42),none⟩,0⟩]
def zc15 : List ak := [Qo 43 (.fieldAddr 0 (t 14)),
 Qo 44 (.load1 (t 43)),
 Qo 45 (.fieldAddr 1 (t 14)),
 Qo 46 (.load1 (t 45)),
 Qo 15 (.mov (t 44)),
 Qo 16 (.mov (t 46))]
def zc16 : List ak := [Qo 47 (.mov (t 2))]
def zc17 : List ak := [Qo 48 (.mov (t 16)),
 Qo 49 (.mov (t 15)),
 Qo 15 (.mov (t 48)),
 Qo 16 (.mov (t 49))]
def zc18 : List ak := [Qo 50 (.mov (t 15)),
 Qo 51 (.mov (t 12)),
 Qo 52 (.bin .eql (t 50) (t 51)),
 Qo 53 (.mov (t 52)),
 Qt 53 54 (.mov (t 9)),
 Qt 53 55 (.mov (t 16)),
 Qt 53 56 (.indexSl 1 (t 54) (t 55)),
 Qt 53 57 (.load1 (t 56)),
 Qt 53 58 (.un .not (t 57)),
 Qo 59 (.pick (t 53) (t 58) QF),
 Qo 60 (.mov (t 59)),
 Qt 60 61 (.mov (t 3)),
 Qt 60 62 (.mov (t 16)),
 Qt 60 63 (.callv (t 61) [(t 62)]),
 Qo 64 (.pick (t 60) (t 63) QF)]
def zc19 : List ak := [Qo 65 (.mov (t 9)),
 Qo 66 (.mov (t 16)),
 Qo 67 (.indexSl 1 (t 65) (t 66)),
 ⟨⟨none,.store 1 (t 67) QT,none⟩,0⟩]
def zc2a : List ak := [Qo 68 (.mov (t 10)),
 Qo 69 (.mov (t 16)),
 Qo 70 (.buildSl cy 1 1 [(.int .i64 0)] [(0,1,(t 69))]),
 Qm 4 71 (.append cy 1 8 (t 68) (t 70)),
 Qo 10 (.mov (t 71))]
def zc2b : List ak := [Qo 72 (.bin .add (t 39) (ci 1)),
 Qo 39 (.mov (t 72))]
def gv : TC := (.seq (.ops zc0f) (.clean [2,3,4,9,10,12,37,38,39,40] (.seq (.cond (t 40) .skip (.exit 2)) (.clean [2,3,4,9,10,12,37,38,39] (.seq (.block 3 [2,3,4,9,10,12,37,38,39] (.seq (.ops zc0g) (.clean [2,3,4,9,10,12,14,37,38,39] (.seq (.draw (pl zc15)) (.clean [2,3,4,9,10,12,15,16,37,38,39] (.seq (.seq (.ops zc16) (.clean [2,3,4,9,10,12,15,16,37,38,39,47] (.cond (t 47) (.ops zc17) .skip))) (.clean [2,3,4,9,10,12,15,16,37,38,39] (.seq (.ops zc18) (.clean [2,3,4,9,10,12,16,37,38,39,64] (.cond (t 64) (.seq (.ops zc19) (.clean [2,3,4,9,10,12,16,37,38,39] (.ops zc2a))) .skip)))))))))) (.clean [2,3,4,9,10,12,37,38,39] (.ops zc2b)))))))
def pz : TC := (.block 1 [2,3,4,9,10] (.seq (.ops zc0a) (.clean [2,3,4,9,10,11] (.seq (.seq (.ops zc0b) (.clean [2,3,4,9,10,11,26] (.cond (t 26) (.exit 0) .skip))) (.clean [2,3,4,9,10,11] (.seq (.ops zc0c) (.clean [2,3,4,9,10,11,12] (.seq (.ops zc0d) (.clean [2,3,4,9,10,12] (.seq (.ops zc0e) (.block 2 [2,3,4,9,10] (.clean [2,3,4,9,10,12,37,38,39] (.loop [2,3,4,9,10,12,37,38,39] gv)))))))))))))
def zc2c : List ak := [Qo 73 (.mov (t 9)),
 Qo 8 (.mov (t 73))]
def zcfm : TC := (.seq (.ops zcz7) (.clean [1,2,3,4] (.seq (.ops zcz8) (.clean [1,2,3,4,9] (.seq (.ops zcz9) (.clean [2,3,4,9,10] (.seq .skip (.seq (.block 0 [9] (.clean [2,3,4,9,10] (.loop [2,3,4,9,10] pz))) (.clean [9] (.seq (.ops zc2c) (.ret [8])))))))))))
def zcfb : TFn := ⟨74,zcfm,[.tmp 8],true⟩
theorem gm : type_of% (ai @zcz7.eq_1 (ai @zcz8.eq_1 (ai @zcz9.eq_1 (ai @zc0a.eq_1 (ai @zc0b.eq_1 (ai @zc0c.eq_1 (ai @zc0d.eq_1 (ai @zc0e.eq_1 (ai @zc0f.eq_1 (ai @zc0g.eq_1 (ai @zc15.eq_1 (ai @zc16.eq_1 (ai @zc17.eq_1 (ai @zc18.eq_1 (ai @zc19.eq_1 (ai @zc2a.eq_1 (ai @zc2b.eq_1 (ai @zc2c.eq_1 (ai @zcfm.eq_1 @zcfb.eq_1))))))))))))))))))) := ⟨rfl,rfl,rfl,rfl,rfl,rfl,rfl,rfl,rfl,rfl,rfl,rfl,rfl,rfl,rfl,rfl,rfl,rfl,rfl,rfl⟩
theorem zdee : u7 Try.prog [(10,⟨[0,1,2,3,4,5],[0,1,0,4,3,31],[],[]⟩)] kj = some (74,zcfm.erase,[.tmp 8]) := by kernel_rfl
def zc13 : List ak := [Qo 2 (.mov QF)]
def zc14 : List ak := [Qo 2 (.mov QT)]
def zcfw : TC := (.seq (.ops zc13) (.clean [] (.seq (.ops zc14) (.ret [2]))))
def zcf4 : TFn := ⟨3,zcfw,[.tmp 2],false⟩
theorem zdfd : type_of% (ai @zc13.eq_1 (ai @zc14.eq_1 (ai @zcfw.eq_1 @zcf4.eq_1))) := ⟨rfl,rfl,rfl,rfl⟩
theorem zdfl : u7 Try.prog [] j9 = some (3,zcfw.erase,[.tmp 2]) := by kernel_rfl
def zc3o : List ak := [Qo 1 (.box am 7 (t 0)),
 Qo 2 (.mov QF)]
def zc3p : List ak := [Qo 5 (.loadN 7 (t 1)),
 Qo 6 (.call o6 [(t 5)]),
 Qo 7 (.un .not (t 6))]
def zc3q : List ak := [Qo 2 (.mov QF)]
def zc3r : List ak := [Qo 8 (.mkFunc (.func en) [] [(t 1)]),
 Qo 3 (.mov (t 8))]
def zc29 : List ak := [Qo 9 (.fieldAddr 1 (t 1)),
 Qo 10 (.load1 (t 9)),
 Qo 11 (.lenL (t 10)),
 Qo 12 (.mov (ci 0))]
def zc3a : List ak := [Qo 13 (.bin .lss (t 12) (t 11))]
def zc3b : List ak := [Qo 14 (.mov (t 12)),
 Qo 4 (.mov (t 14))]
def zc3c : List ak := [Qo 15 (.mov (t 3)),
 Qo 16 (.mov (t 4)),
 Qo 17 (.callv (t 15) [(t 16)]),
 Qo 18 (.mov (t 17)),
 Qt 18 19 (.loadN 7 (t 1)),
 Qt 18 20 (.mov (t 4)),
 Qt 18 21 (.mov (t 3)),
 Qt 18 22 (.call kj [(t 19),(t 20),QF,(t 21)]),
 Qt 18 23 (.mov (t 4)),
 Qt 18 24 (.indexSl 1 (t 22) (t 23)),
 Qt 18 25 (.load1 (t 24)),
 Qo 26 (.pick (t 18) (t 25) QF)]
def zc3d : List ak := [Qo 2 (.mov QF)]
def zc3e : List ak := [Qo 27 (.bin .add (t 12) (ci 1)),
 Qo 12 (.mov (t 27))]
def me : TC := (.seq (.ops zc3a) (.clean [1,3,11,12,13] (.seq (.cond (t 13) .skip (.exit 0)) (.clean [1,3,11,12] (.seq (.block 1 [1,3,11,12] (.seq (.ops zc3b) (.clean [1,3,4,11,12] (.seq (.ops zc3c) (.clean [1,3,11,12,26] (.cond (t 26) (.seq (.ops zc3d) (.ret [2])) .skip)))))) (.clean [1,3,11,12] (.ops zc3e)))))))
def zc3u : List ak := [Qo 2 (.mov QT)]
def zcgh : TC := (.seq (.ops zc3o) (.clean [1] (.seq (.seq (.ops zc3p) (.clean [1,7] (.cond (t 7) (.seq (.ops zc3q) (.ret [2])) .skip))) (.clean [1] (.seq (.ops zc3r) (.clean [1,3] (.seq (.seq (.ops zc29) (.block 0 [] (.clean [1,3,11,12] (.loop [1,3,11,12] me)))) (.clean [] (.seq (.ops zc3u) (.ret [2]))))))))))
def zcgm : TFn := ⟨28,zcgh,[.tmp 2],false⟩
theorem kq : type_of% (ai @zc3o.eq_1 (ai @zc3p.eq_1 (ai @zc3q.eq_1 (ai @zc3r.eq_1 (ai @zc29.eq_1 (ai @zc3a.eq_1 (ai @zc3b.eq_1 (ai @zc3c.eq_1 (ai @zc3d.eq_1 (ai @zc3e.eq_1 (ai @zc3u.eq_1 (ai @zcgh.eq_1 @zcgm.eq_1)))))))))))) := ⟨rfl,rfl,rfl,rfl,rfl,rfl,rfl,rfl,rfl,rfl,rfl,rfl,rfl⟩
theorem zdgv : u7 Try.prog [] mj = some (28,zcgh.erase,[.tmp 2]) := by kernel_rfl
def zc30 : List ak := [Qo 3 (.mov QF)]
def zc31 : List ak := [Qo 4 (.fieldAddr 3 (t 1)),
 Qo 5 (.load1 (t 4)),
 Qo 6 (.mov (t 0)),
 Qo 7 (.call dt [(t 5),(t 6)]),
 Qo 8 (.un .not (t 7)),
 Qo 3 (.mov (t 8))]
def x6 : TC := (.seq (.ops zc30) (.clean [0,1] (.seq (.ops zc31) (.ret [3]))))
def ym : TFn := ⟨9,x6,[.tmp 3],false⟩
theorem zdc1 : type_of% (ai @zc30.eq_1 (ai @zc31.eq_1 (ai @x6.eq_1 @ym.eq_1))) := ⟨rfl,rfl,rfl,rfl⟩
theorem zdc2 : u7 Try.prog [] en = some (9,x6.erase,[.tmp 3]) := by kernel_rfl
def tw : List ak := [Qo 4 (.mov QF)]
def tu : List ak := [Qo 5 (.mov (t 0)),
 Qo 6 (.mov (t 1)),
 Qo 7 (.call ix [(t 5),(t 6)]),
 Qo 8 (.bin .geq (t 7) (ci 0)),
 Qo 4 (.mov (t 8))]
def og : TC := (.seq (.ops tw) (.clean [0,1] (.seq (.ops tu) (.ret [4]))))
def oh : TFn := ⟨9,og,[.tmp 4],false⟩
theorem zddj : type_of% (ai @tw.eq_1 (ai @tu.eq_1 (ai @og.eq_1 @oh.eq_1))) := ⟨rfl,rfl,rfl,rfl⟩
theorem zddk : u7 Try.prog [] dt = some (9,og.erase,[.tmp 4]) := by kernel_rfl
def zl : List ak := [Qo 4 (.mov (ci 0))]
def zk : List ak := [Qo 6 (.mov (t 0)),
 Qo 7 (.lenL (t 6)),
 Qo 8 (.mov (ci 0))]
def zj : List ak := [Qo 9 (.bin .lss (t 8) (t 7))]
def zi : List ak := [Qo 10 (.mov (t 8)),
 Qo 5 (.mov (t 10))]
def zh : List ak := [Qo 11 (.mov (t 1)),
 Qo 12 (.mov (t 0)),
 Qo 13 (.mov (t 5)),
 Qo 14 (.indexSl 1 (t 12) (t 13)),
 Qo 15 (.load1 (t 14)),
 Qo 16 (.bin .eql (t 11) (t 15))]
def zg : List ak := [Qo 17 (.mov (t 5)),
 Qo 4 (.mov (t 17))]
def zf : List ak := [Qo 18 (.bin .add (t 8) (ci 1)),
 Qo 8 (.mov (t 18))]
def jq : TC := (.seq (.ops zj) (.clean [0,1,7,8,9] (.seq (.cond (t 9) .skip (.exit 0)) (.clean [0,1,7,8] (.seq (.block 1 [0,1,7,8] (.seq (.ops zi) (.clean [0,1,5,7,8] (.seq (.ops zh) (.clean [0,1,5,7,8,16] (.cond (t 16) (.seq (.ops zg) (.ret [4])) .skip)))))) (.clean [0,1,7,8] (.ops zf)))))))
def ze : List ak := [Qo 4 (.mov (ci (-1)))]
def qh : TC := (.seq (.ops zl) (.clean [0,1] (.seq (.seq (.ops zk) (.block 0 [] (.clean [0,1,7,8] (.loop [0,1,7,8] jq)))) (.clean [] (.seq (.ops ze) (.ret [4]))))))
def ql : TFn := ⟨19,qh,[.tmp 4],false⟩
theorem iv : type_of% (ai @zl.eq_1 (ai @zk.eq_1 (ai @zj.eq_1 (ai @zi.eq_1 (ai @zh.eq_1 (ai @zg.eq_1 (ai @zf.eq_1 (ai @ze.eq_1 (ai @qh.eq_1 @ql.eq_1))))))))) := ⟨rfl,rfl,rfl,rfl,rfl,rfl,rfl,rfl,rfl,rfl⟩
theorem zdda : u7 Try.prog [] ix = some (19,qh.erase,[.tmp 4]) := by kernel_rfl
def zcwv : List ak := [Qo 2 (.box am 7 (t 0)),
 Qo 3 (.box zbwr 1 (t 1)),
 Qo 4 (.mov QF)]
def zcww : List ak := [Qo 7 (.loadN 7 (t 2)),
 Qo 8 (.call o6 [(t 7)]),
 Qo 9 (.un .not (t 8)),
 Qo 10 (.mov (t 9)),
 Qf 10 11 (.load1 (t 3)),
 Qf 10 12 (.lenL (t 11)),
 Qf 10 13 (.bin .eql (t 12) (ci 0)),
 Qo 14 (.pick (t 10) QT (t 13))]
def zcwx : List ak := [Qo 4 (.mov QF)]
def zcwy : List ak := [Qo 15 (.load1 (t 3)),
 Qo 16 (.lenL (t 15)),
 Qo 17 (.mov (ci 0))]
def zcwz : List ak := [Qo 18 (.bin .lss (t 17) (t 16))]
def zcw0 : List ak := [Qo 19 (.mov (t 17)),
 Qo 20 (.indexSl 1 (t 15) (t 17)),
 Qo 21 (.load1 (t 20)),
 Qo 5 (.box cy 1 (.const (.int .i64 0))),
 Qo 6 (.box cy 1 (.const (.int .i64 0))),
 ⟨⟨none,.store 1 (t 5) (t 19),none⟩,0⟩,
 ⟨⟨none,.store 1 (t 6) (t 21),none⟩,0⟩]
def zcw1 : List ak := [Qo 22 (.load1 (t 6)),
 Qo 23 (.bin .lss (t 22) (ci 0)),
 Qo 24 (.mov (t 23)),
 Qf 24 25 (.load1 (t 6)),
 Qf 24 26 (.fieldAddr 1 (t 2)),
 Qf 24 27 (.load1 (t 26)),
 Qf 24 28 (.lenL (t 27)),
 Qf 24 29 (.bin .geq (t 25) (t 28)),
 Qo 30 (.pick (t 24) QT (t 29)),
 Qo 31 (.mov (t 30)),
 Qf 31 32 (.load1 (t 3)),
 Qf 31 33 (.load1 (t 5)),
 Qf 31 34 (.sliceSl 1 (t 32) none (some (t 33))),
 Qf 31 35 (.load1 (t 6)),
 Qf 31 36 (.call dt [(t 34),(t 35)]),
 Qo 37 (.pick (t 31) QT (t 36))]
def zcw2 : List ak := [Qo 4 (.mov QF)]
def zcw3 : List ak := [Qo 38 (.load1 (t 5)),
 Qo 39 (.bin .gtr (t 38) (ci 0)),
 Qo 40 (.mov (t 39)),
 Qt 40 41 (.fieldAddr 2 (t 2)),
 Qt 40 42 (.load1 (t 41)),
 Qt 40 43 (.mkFunc (.func je) [] [(t 3),(t 5),(t 6)]),
 Qt 40 44 (.call bn [(t 42),(t 43)]),
 Qt 40 45 (.un .not (t 44)),
 Qo 46 (.pick (t 40) (t 45) QF)]
def zcw4 : List ak := [Qo 4 (.mov QF)]
def zcy7 : List ak := [Qo 47 (.bin .add (t 17) (ci 1)),
 Qo 17 (.mov (t 47))]
def lu : TC := (.seq (.ops zcwz) (.clean [2,3,15,16,17,18] (.seq (.cond (t 18) .skip (.exit 0)) (.clean [2,3,15,16,17] (.seq (.block 1 [2,3,15,16,17] (.seq (.ops zcw0) (.clean [2,3,5,6,15,16,17] (.seq (.seq (.draw (pl zcw1)) (.clean [2,3,5,6,15,16,17,37] (.cond (t 37) (.seq (.ops zcw2) (.ret [4])) .skip))) (.clean [2,3,5,6,15,16,17] (.seq (.ops zcw3) (.clean [2,3,15,16,17,46] (.cond (t 46) (.seq (.ops zcw4) (.ret [4])) .skip)))))))) (.clean [2,3,15,16,17] (.ops zcy7)))))))
def zcy8 : List ak := [Qo 4 (.mov QT)]
def zcey : TC := (.seq (.ops zcwv) (.clean [2,3] (.seq (.seq (.ops zcww) (.clean [2,3,14] (.cond (t 14) (.seq (.ops zcwx) (.ret [4])) .skip))) (.clean [2,3] (.seq (.seq (.ops zcwy) (.block 0 [] (.clean [2,3,15,16,17] (.loop [2,3,15,16,17] lu)))) (.clean [] (.seq (.ops zcy8) (.ret [4]))))))))
def zcep : TFn := ⟨48,zcey,[.tmp 4],false⟩
theorem kp : type_of% (ai @zcwv.eq_1 (ai @zcww.eq_1 (ai @zcwx.eq_1 (ai @zcwy.eq_1 (ai @zcwz.eq_1 (ai @zcw0.eq_1 (ai @zcw1.eq_1 (ai @zcw2.eq_1 (ai @zcw3.eq_1 (ai @zcw4.eq_1 (ai @zcy7.eq_1 (ai @zcy8.eq_1 (ai @zcey.eq_1 @zcep.eq_1))))))))))))) := ⟨rfl,rfl,rfl,rfl,rfl,rfl,rfl,rfl,rfl,rfl,rfl,rfl,rfl,rfl⟩
theorem zdba : u7 Try.prog [(6,⟨[0,1,2,3,4,5,6,7,8,9,10,11,12,13,14,15],[0,1,3,7,7,23,55,127,255,511,1023,1023,4095,1023,16383,32767],[],[]⟩)] qf = some (48,zcey.erase,[.tmp 4]) := by kernel_rfl
def l6 : List ak := [Qo 4 (.mov QF)]
def l5 : List ak := [Qo 5 (.mov (t 0)),
 Qo 6 (.mov (t 1)),
 Qo 7 (.call b9 [(t 5),(t 6)]),
 Qo 8 (.bin .geq (t 7) (ci 0)),
 Qo 4 (.mov (t 8))]
def ie : TC := (.seq (.ops l6) (.clean [0,1] (.seq (.ops l5) (.ret [4]))))
def ij : TFn := ⟨9,ie,[.tmp 4],false⟩
theorem wu : type_of% (ai @l6.eq_1 (ai @l5.eq_1 (ai @ie.eq_1 @ij.eq_1))) := ⟨rfl,rfl,rfl,rfl⟩
theorem wq : u7 Try.prog [] bn = some (9,ie.erase,[.tmp 4]) := by kernel_rfl
def nd : List ak := [Qo 4 (.mov (ci 0))]
def nc : List ak := [Qo 6 (.mov (t 0)),
 Qo 7 (.lenL (t 6)),
 Qo 8 (.mov (ci 0))]
def m9 : List ak := [Qo 9 (.bin .lss (t 8) (t 7))]
def m7 : List ak := [Qo 10 (.mov (t 8)),
 Qo 5 (.mov (t 10))]
def m6 : List ak := [Qo 11 (.mov (t 1)),
 Qo 12 (.mov (t 0)),
 Qo 13 (.mov (t 5)),
 Qo 14 (.indexSl 5 (t 12) (t 13)),
 Qo 15 (.loadN 5 (t 14)),
 Qo 16 (.callv (t 11) [(t 15)])]
def m5 : List ak := [Qo 17 (.mov (t 5)),
 Qo 4 (.mov (t 17))]
def m4 : List ak := [Qo 18 (.bin .add (t 8) (ci 1)),
 Qo 8 (.mov (t 18))]
def cp : TC := (.seq (.ops m9) (.clean [0,1,7,8,9] (.seq (.cond (t 9) .skip (.exit 0)) (.clean [0,1,7,8] (.seq (.block 1 [0,1,7,8] (.seq (.ops m7) (.clean [0,1,5,7,8] (.seq (.ops m6) (.clean [0,1,5,7,8,16] (.cond (t 16) (.seq (.ops m5) (.ret [4])) .skip)))))) (.clean [0,1,7,8] (.ops m4)))))))
def mz : List ak := [Qo 4 (.mov (ci (-1)))]
def jh : TC := (.seq (.ops nd) (.clean [0,1] (.seq (.seq (.ops nc) (.block 0 [] (.clean [0,1,7,8] (.loop [0,1,7,8] cp)))) (.clean [] (.seq (.ops mz) (.ret [4]))))))
def ji : TFn := ⟨19,jh,[.tmp 4],false⟩
theorem b7 : type_of% (ai @nd.eq_1 (ai @nc.eq_1 (ai @m9.eq_1 (ai @m7.eq_1 (ai @m6.eq_1 (ai @m5.eq_1 (ai @m4.eq_1 (ai @mz.eq_1 (ai @jh.eq_1 @ji.eq_1))))))))) := ⟨rfl,rfl,rfl,rfl,rfl,rfl,rfl,rfl,rfl,rfl⟩
theorem z3 : u7 Try.prog [] b9 = some (19,jh.erase,[.tmp 4]) := by kernel_rfl
def zc1x : List ak := [Qo 4 (.box ju 5 (t 0)),
 Qo 5 (.mov QF)]
def zc1y : List ak := [Qo 6 (.fieldAddr 0 (t 4)),
 Qo 7 (.load1 (t 6)),
 Qo 8 (.load1 (t 1)),
 Qo 9 (.load1 (t 2)),
 Qo 10 (.bin .sub (t 9) (ci 1)),
 Qo 11 (.indexSl 1 (t 8) (t 10)),
 Qo 12 (.load1 (t 11)),
 Qo 13 (.bin .eql (t 7) (t 12)),
 Qo 14 (.mov (t 13)),
 Qt 14 15 (.fieldAddr 1 (t 4)),
 Qt 14 16 (.load1 (t 15)),
 Qt 14 17 (.load1 (t 3)),
 Qt 14 18 (.bin .eql (t 16) (t 17)),
 Qo 19 (.pick (t 14) (t 18) QF),
 Qo 5 (.mov (t 19))]
def zcfu : TC := (.seq (.ops zc1x) (.clean [1,2,3,4] (.seq (.draw (pl zc1y)) (.ret [5]))))
def zcf2 : TFn := ⟨20,zcfu,[.tmp 5],false⟩
theorem zcu9 : type_of% (ai @zc1x.eq_1 (ai @zc1y.eq_1 (ai @zcfu.eq_1 @zcf2.eq_1))) := ⟨rfl,rfl,rfl,rfl⟩
theorem zdfj : u7 Try.prog [(1,⟨[0,1,2,3,4,5,6,7,8,9,10,11,12,13,14],[0,1,0,0,8,28,60,127,255,511,1023,511,4095,8191,16383],[],[]⟩)] je = some (20,zcfu.erase,[.tmp 5]) := by kernel_rfl
def zcy3 : List ak := [Qo 2 (.box am 7 (t 0)),
 Qo 3 (.box cy 1 (t 1)),
 Qo 4 (.mov (.const (Go.Value.slice none 0 0)))]
def zcy4 : List ak := [Qo 5 (.loadN 7 (t 2)),
 Qo 6 (.mkFunc (.func km) [] [(t 3)]),
 Qo 7 (.call ms [(t 5),(t 6)]),
 Qo 4 (.mov (t 7))]
def zcfj : TC := (.seq (.ops zcy3) (.clean [2,3] (.seq (.ops zcy4) (.ret [4]))))
def zce8 : TFn := ⟨8,zcfj,[.tmp 4],false⟩
theorem zdes : type_of% (ai @zcy3.eq_1 (ai @zcy4.eq_1 (ai @zcfj.eq_1 @zce8.eq_1))) := ⟨rfl,rfl,rfl,rfl⟩
theorem zdeb : u7 Try.prog [] qy = some (8,zcfj.erase,[.tmp 4]) := by kernel_rfl
def zczl : List ak := [Qo 2 (.box am 7 (t 0)),
 Qo 4 (.mov (.const (Go.Value.slice none 0 0)))]
def zczm : List ak := [Qm 1 5 (.mov (.const (Go.Value.slice none 0 0)))]
def zczn : List ak := [Qo 8 (.loadN 7 (t 2)),
 Qo 9 (.call o6 [(t 8)]),
 Qo 10 (.un .not (t 9))]
def zczo : List ak := [Qo 4 (.mov (.const (Go.Value.slice none 0 0)))]
def zczp : List ak := [Qo 11 (.fieldAddr 2 (t 2)),
 Qo 12 (.load1 (t 11)),
 Qo 13 (.lenL (t 12)),
 Qo 14 (.mov (ci 0))]
def zczq : List ak := [Qo 15 (.bin .lss (t 14) (t 13))]
def zczr : List ak := [Qo 16 (.mov (t 14)),
 Qo 17 (.indexSl 5 (t 12) (t 14)),
 Qo 18 (.loadN 5 (t 17)),
 Qo 7 (.box ju 5 (.const (.agg #[(.int .i64 0),(.int .i64 0),(.int .i64 0),(.string ⟨#[]⟩),(.int .i64 0)]))),
 Qo 6 (.mov (t 16)),
 ⟨⟨none,.store 5 (t 7) (t 18),none⟩,0⟩]
def zczs : List ak := [Qo 19 (.mov (t 1)),
 Qo 20 (.loadN 5 (t 7)),
 Qo 21 (.callv (t 19) [(t 20)])]
def zczt : List ak := [Qo 22 (.mov (t 5)),
 Qo 23 (.mov (t 6)),
 Qo 24 (.buildSl cy 1 1 [(.int .i64 0)] [(0,1,(t 23))]),
 Qo 25 (.append cy 1 8 (t 22) (t 24)),
 Qo 5 (.mov (t 25))]
def zczu : List ak := [Qo 26 (.bin .add (t 14) (ci 1)),
 Qo 14 (.mov (t 26))]
def kc : TC := (.seq (.ops zczq) (.clean [1,5,12,13,14,15] (.seq (.cond (t 15) .skip (.exit 0)) (.clean [1,5,12,13,14] (.seq (.block 1 [1,5,12,13,14] (.seq (.ops zczr) (.clean [1,5,6,7,12,13,14] (.seq (.ops zczs) (.clean [1,5,6,12,13,14,21] (.cond (t 21) (.ops zczt) .skip)))))) (.clean [1,5,12,13,14] (.ops zczu)))))))
def zc2d : List ak := [Qo 27 (.mov (t 5)),
 Qo 4 (.mov (t 27))]
def zcfp : TC := (.seq (.ops zczl) (.clean [1,2] (.seq (.ops zczm) (.clean [1,2,5] (.seq (.seq (.ops zczn) (.clean [1,2,5,10] (.cond (t 10) (.seq (.ops zczo) (.ret [4])) .skip))) (.clean [1,2,5] (.seq (.seq (.ops zczp) (.block 0 [5] (.clean [1,5,12,13,14] (.loop [1,5,12,13,14] kc)))) (.clean [5] (.seq (.ops zc2d) (.ret [4]))))))))))
def zcfc : TFn := ⟨28,zcfp,[.tmp 4],false⟩
theorem jg : type_of% (ai @zczl.eq_1 (ai @zczm.eq_1 (ai @zczn.eq_1 (ai @zczo.eq_1 (ai @zczp.eq_1 (ai @zczq.eq_1 (ai @zczr.eq_1 (ai @zczs.eq_1 (ai @zczt.eq_1 (ai @zczu.eq_1 (ai @zc2d.eq_1 (ai @zcfp.eq_1 @zcfc.eq_1)))))))))))) := ⟨rfl,rfl,rfl,rfl,rfl,rfl,rfl,rfl,rfl,rfl,rfl,rfl,rfl⟩
theorem zdef : u7 Try.prog [] ms = some (28,zcfp.erase,[.tmp 4]) := by kernel_rfl
def zc21 : List ak := [Qo 2 (.box ju 5 (t 0)),
 Qo 3 (.mov QF)]
def zc22 : List ak := [Qo 4 (.fieldAddr 1 (t 2)),
 Qo 5 (.load1 (t 4)),
 Qo 6 (.load1 (t 1)),
 Qo 7 (.bin .eql (t 5) (t 6)),
 Qo 3 (.mov (t 7))]
def zcgf : TC := (.seq (.ops zc21) (.clean [1,2] (.seq (.ops zc22) (.ret [3]))))
def zcgd : TFn := ⟨8,zcgf,[.tmp 3],false⟩
theorem zdf3 : type_of% (ai @zc21.eq_1 (ai @zc22.eq_1 (ai @zcgf.eq_1 @zcgd.eq_1))) := ⟨rfl,rfl,rfl,rfl⟩
theorem zdf5 : u7 Try.prog [] km = some (8,zcgf.erase,[.tmp 3]) := by kernel_rfl
def zcy5 : List ak := [Qo 2 (.box am 7 (t 0)),
 Qo 3 (.box cy 1 (t 1)),
 Qo 4 (.mov (.const (Go.Value.slice none 0 0)))]
def zcy6 : List ak := [Qo 5 (.loadN 7 (t 2)),
 Qo 6 (.mkFunc (.func kl) [] [(t 3)]),
 Qo 7 (.call ms [(t 5),(t 6)]),
 Qo 4 (.mov (t 7))]
def zcfk : TC := (.seq (.ops zcy5) (.clean [2,3] (.seq (.ops zcy6) (.ret [4]))))
def zce9 : TFn := ⟨8,zcfk,[.tmp 4],false⟩
theorem zdd6 : type_of% (ai @zcy5.eq_1 (ai @zcy6.eq_1 (ai @zcfk.eq_1 @zce9.eq_1))) := ⟨rfl,rfl,rfl,rfl⟩
theorem zdec : u7 Try.prog [] qx = some (8,zcfk.erase,[.tmp 4]) := by kernel_rfl
def zc23 : List ak := [Qo 2 (.box ju 5 (t 0)),
 Qo 3 (.mov QF)]
def zc24 : List ak := [Qo 4 (.fieldAddr 0 (t 2)),
 Qo 5 (.load1 (t 4)),
 Qo 6 (.load1 (t 1)),
 Qo 7 (.bin .eql (t 5) (t 6)),
 Qo 3 (.mov (t 7))]
def zcgg : TC := (.seq (.ops zc23) (.clean [1,2] (.seq (.ops zc24) (.ret [3]))))
def zcge : TFn := ⟨8,zcgg,[.tmp 3],false⟩
theorem zdf4 : type_of% (ai @zc23.eq_1 (ai @zc24.eq_1 (ai @zcgg.eq_1 @zcge.eq_1))) := ⟨rfl,rfl,rfl,rfl⟩
theorem zdf6 : u7 Try.prog [] kl = some (8,zcgg.erase,[.tmp 3]) := by kernel_rfl
def zcv7 : List ak := [Qo 1 (.box am 7 (t 0)),
 Qo 2 (.mov QF)]
def zcv8 : List ak := [Qo 5 (.loadN 7 (t 1)),
 Qo 6 (.call pt [(t 5)]),
 Qo 7 (.un .not (t 6))]
def zcv9 : List ak := [Qo 2 (.mov QF)]
def zcwa : List ak := [Qo 3 (.mov (ci 0))]
def zcwb : List ak := [Qo 8 (.mov (t 3)),
 Qo 9 (.fieldAddr 1 (t 1)),
 Qo 10 (.load1 (t 9)),
 Qo 11 (.lenL (t 10)),
 Qo 12 (.bin .lss (t 8) (t 11))]
def zcxd : List ak := [Qo 4 (.mov (ci 0))]
def zcxe : List ak := [Qo 15 (.mov (t 4)),
 Qo 16 (.fieldAddr 1 (t 1)),
 Qo 17 (.load1 (t 16)),
 Qo 18 (.lenL (t 17)),
 Qo 19 (.bin .lss (t 15) (t 18))]
def zcxg : List ak := [Qo 22 (.mov (t 3)),
 Qo 23 (.mov (t 4)),
 Qo 24 (.bin .neq (t 22) (t 23)),
 Qo 25 (.mov (t 24)),
 Qt 25 26 (.loadN 7 (t 1)),
 Qt 25 27 (.mov (t 3)),
 Qt 25 28 (.mov (t 4)),
 Qt 25 29 (.call yz [(t 26),(t 27),(t 28),(.const (Go.Value.slice none 0 0))]),
 Qt 25 30 (.un .not (t 29)),
 Qo 31 (.pick (t 25) (t 30) QF)]
def zcy1 : List ak := [Qo 2 (.mov QF)]
def zcxf : List ak := [Qo 20 (.mov (t 4)),
 Qo 21 (.bin .add (t 20) (ci 1)),
 Qo 4 (.mov (t 21))]
def ru : TC := (.seq (.seq (.ops zcxe) (.clean [1,3,4,19] (.cond (t 19) .skip (.exit 2)))) (.clean [1,3,4] (.seq (.block 3 [1,3,4] (.seq (.ops zcxg) (.clean [1,3,4,31] (.cond (t 31) (.seq (.ops zcy1) (.ret [2])) .skip)))) (.clean [1,3,4] (.ops zcxf)))))
def zcwc : List ak := [Qo 13 (.mov (t 3)),
 Qo 14 (.bin .add (t 13) (ci 1)),
 Qo 3 (.mov (t 14))]
def rv : TC := (.seq (.seq (.ops zcwb) (.clean [1,3,12] (.cond (t 12) .skip (.exit 0)))) (.clean [1,3] (.seq (.block 1 [1,3] (.seq (.ops zcxd) (.block 2 [1,3] (.clean [1,3,4] (.loop [1,3,4] ru))))) (.clean [1,3] (.ops zcwc)))))
def zcy2 : List ak := [Qo 2 (.mov QT)]
def zcex : TC := (.seq (.ops zcv7) (.clean [1] (.seq (.seq (.ops zcv8) (.clean [1,7] (.cond (t 7) (.seq (.ops zcv9) (.ret [2])) .skip))) (.clean [1] (.seq (.seq (.ops zcwa) (.block 0 [] (.clean [1,3] (.loop [1,3] rv)))) (.clean [] (.seq (.ops zcy2) (.ret [2]))))))))
def zceo : TFn := ⟨32,zcex,[.tmp 2],false⟩
theorem ku : type_of% (ai @zcv7.eq_1 (ai @zcv8.eq_1 (ai @zcv9.eq_1 (ai @zcwa.eq_1 (ai @zcwb.eq_1 (ai @zcxd.eq_1 (ai @zcxe.eq_1 (ai @zcxg.eq_1 (ai @zcy1.eq_1 (ai @zcxf.eq_1 (ai @zcwc.eq_1 (ai @zcy2.eq_1 (ai @zcex.eq_1 @zceo.eq_1))))))))))))) := ⟨rfl,rfl,rfl,rfl,rfl,rfl,rfl,rfl,rfl,rfl,rfl,rfl,rfl,rfl⟩
theorem zda9 : u7 Try.prog [] ut = some (32,zcex.erase,[.tmp 2]) := by kernel_rfl
def zcti : List ak := [Qo 1 (.box am 7 (t 0)),
 Qo 2 (.mov QF)]
def zctj : List ak := [Qo 3 (.fieldAddr 0 (t 1)),
 Qo 4 (.load1 (t 3)),
 Qo 5 (.call zx [(t 4)]),
 Qo 6 (.mov (t 5)),
 Qt 6 7 (.loadN 7 (t 1)),
 Qt 6 8 (.call vd [(t 7)]),
 Qo 9 (.pick (t 6) (t 8) QF),
 Qo 10 (.mov (t 9)),
 Qt 10 11 (.loadN 7 (t 1)),
 Qt 10 12 (.call vc [(t 11)]),
 Qo 13 (.pick (t 10) (t 12) QF),
 Qo 14 (.mov (t 13)),
 Qt 14 15 (.loadN 7 (t 1)),
 Qt 14 16 (.call zb45 [(t 15)]),
 Qo 17 (.pick (t 14) (t 16) QF),
 Qo 18 (.mov (t 17)),
 Qt 18 19 (.fieldAddr 5 (t 1)),
 Qt 18 20 (.load1 (t 19)),
 Qt 18 21 (.bin .geq (t 20) (ci 0)),
 Qo 22 (.pick (t 18) (t 21) QF),
 Qo 23 (.mov (t 22)),
 Qt 23 24 (.fieldAddr 5 (t 1)),
 Qt 23 25 (.load1 (t 24)),
 Qt 23 26 (.bin .leq (t 25) (ci 1099511627776)),
 Qo 27 (.pick (t 23) (t 26) QF),
 Qo 28 (.mov (t 27)),
 Qt 28 29 (.fieldAddr 6 (t 1)),
 Qt 28 30 (.load1 (t 29)),
 Qt 28 31 (.bin .geq (t 30) (ci 1)),
 Qo 32 (.pick (t 28) (t 31) QF),
 Qo 33 (.mov (t 32)),
 Qt 33 34 (.fieldAddr 6 (t 1)),
 Qt 33 35 (.load1 (t 34)),
 Qt 33 36 (.bin .leq (t 35) (ci 1048576)),
 Qo 37 (.pick (t 33) (t 36) QF),
 Qo 2 (.mov (t 37))]
def zceh : TC := (.seq (.ops zcti) (.clean [1] (.seq (.ops zctj) (.ret [2]))))
def zcdy : TFn := ⟨38,zceh,[.tmp 2],false⟩
theorem ud : type_of% (ai @zcti.eq_1 (ai @zctj.eq_1 (ai @zceh.eq_1 @zcdy.eq_1))) := ⟨rfl,rfl,rfl,rfl⟩
theorem zc9z : u7 Try.prog [] pt = some (38,zceh.erase,[.tmp 2]) := by kernel_rfl
def zcq3 : List ak := [Qo 2 (.mov QF)]
def zcq4 : List ak := [Qo 3 (.mov (t 0)),
 Qo 4 (.lenS (t 3)),
 Qo 5 (.bin .geq (t 4) (ci 1)),
 Qo 6 (.mov (t 5)),
 Qt 6 7 (.mov (t 0)),
 Qt 6 8 (.lenS (t 7)),
 Qt 6 9 (.bin .leq (t 8) (ci 16)),
 Qo 10 (.pick (t 6) (t 9) QF),
 Qo 2 (.mov (t 10))]
def zcds : TC := (.seq (.ops zcq3) (.clean [0] (.seq (.ops zcq4) (.ret [2]))))
def zcdf : TFn := ⟨11,zcds,[.tmp 2],false⟩
theorem zc47 : type_of% (ai @zcq3.eq_1 (ai @zcq4.eq_1 (ai @zcds.eq_1 @zcdf.eq_1))) := ⟨rfl,rfl,rfl,rfl⟩
theorem zbn9 : u7 Try.prog [] zx = some (11,zcds.erase,[.tmp 2]) := by kernel_rfl
def zczh : List ak := [Qo 1 (.box am 7 (t 0)),
 Qo 2 (.mov QF)]
def zczi : List ak := [Qo 6 (.fieldAddr 3 (t 1)),
 Qo 7 (.load1 (t 6)),
 Qo 8 (.lenL (t 7)),
 Qo 3 (.mov (t 8))]
def zczj : List ak := [Qo 9 (.mov (t 3)),
 Qo 10 (.bin .lss (t 9) (ci 1)),
 Qo 11 (.mov (t 10)),
 Qf 11 12 (.mov (t 3)),
 Qf 11 13 (.bin .gtr (t 12) (ci 3)),
 Qo 14 (.pick (t 11) QT (t 13)),
 Qo 15 (.mov (t 14)),
 Qf 15 16 (.fieldAddr 4 (t 1)),
 Qf 15 17 (.load1 (t 16)),
 Qf 15 18 (.lenL (t 17)),
 Qf 15 19 (.mov (t 3)),
 Qf 15 20 (.bin .neq (t 18) (t 19)),
 Qo 21 (.pick (t 15) QT (t 20))]
def zczk : List ak := [Qo 2 (.mov QF)]
def zcyl : List ak := [Qo 4 (.mov (ci 0))]
def zcym : List ak := [Qo 22 (.mov (t 4)),
 Qo 23 (.mov (t 3)),
 Qo 24 (.bin .lss (t 22) (t 23))]
def zcyo : List ak := [Qo 27 (.fieldAddr 3 (t 1)),
 Qo 28 (.load1 (t 27)),
 Qo 29 (.mov (t 4)),
 Qo 30 (.indexSl 1 (t 28) (t 29)),
 Qo 31 (.load1 (t 30)),
 Qo 32 (.bin .lss (t 31) (ci 0)),
 Qo 33 (.mov (t 32)),
 Qf 33 34 (.fieldAddr 3 (t 1)),
 Qf 33 35 (.load1 (t 34)),
 Qf 33 36 (.mov (t 4)),
 Qf 33 37 (.indexSl 1 (t 35) (t 36)),
 Qf 33 38 (.load1 (t 37)),
 Qf 33 39 (.fieldAddr 1 (t 1)),
 Qf 33 40 (.load1 (t 39)),
 Qf 33 41 (.lenL (t 40)),
 Qf 33 42 (.bin .geq (t 38) (t 41)),
 Qo 43 (.pick (t 33) QT (t 42)),
 Qo 44 (.mov (t 43)),
 Qf 44 45 (.fieldAddr 4 (t 1)),
 Qf 44 46 (.load1 (t 45)),
 Qf 44 47 (.mov (t 4)),
 Qf 44 48 (.indexSl 1 (t 46) (t 47)),
 Qf 44 49 (.load1 (t 48)),
 Qf 44 50 (.lenS (t 49)),
 Qf 44 51 (.bin .neq (t 50) (ci 32)),
 Qo 52 (.pick (t 44) QT (t 51))]
def zcyp : List ak := [Qo 2 (.mov QF)]
def zcyq : List ak := [Qo 5 (.mov (ci 0))]
def zc08 : List ak := [Qo 53 (.mov (t 5)),
 Qo 54 (.mov (t 4)),
 Qo 55 (.bin .lss (t 53) (t 54))]
def zc1a : List ak := [Qo 58 (.fieldAddr 3 (t 1)),
 Qo 59 (.load1 (t 58)),
 Qo 60 (.mov (t 5)),
 Qo 61 (.indexSl 1 (t 59) (t 60)),
 Qo 62 (.load1 (t 61)),
 Qo 63 (.fieldAddr 3 (t 1)),
 Qo 64 (.load1 (t 63)),
 Qo 65 (.mov (t 4)),
 Qo 66 (.indexSl 1 (t 64) (t 65)),
 Qo 67 (.load1 (t 66)),
 Qo 68 (.bin .eql (t 62) (t 67))]
def zc1b : List ak := [Qo 2 (.mov QF)]
def zc09 : List ak := [Qo 56 (.mov (t 5)),
 Qo 57 (.bin .add (t 56) (ci 1)),
 Qo 5 (.mov (t 57))]
def t4 : TC := (.seq (.seq (.ops zc08) (.clean [1,3,4,5,55] (.cond (t 55) .skip (.exit 2)))) (.clean [1,3,4,5] (.seq (.block 3 [1,3,4,5] (.seq (.draw (pl zc1a)) (.clean [1,3,4,5,68] (.cond (t 68) (.seq (.ops zc1b) (.ret [2])) .skip)))) (.clean [1,3,4,5] (.ops zc09)))))
def zcyn : List ak := [Qo 25 (.mov (t 4)),
 Qo 26 (.bin .add (t 25) (ci 1)),
 Qo 4 (.mov (t 26))]
def kd : TC := (.seq (.seq (.ops zcym) (.clean [1,3,4,24] (.cond (t 24) .skip (.exit 0)))) (.clean [1,3,4] (.seq (.block 1 [1,3,4] (.seq (.seq (.draw (pl zcyo)) (.clean [1,3,4,52] (.cond (t 52) (.seq (.ops zcyp) (.ret [2])) .skip))) (.clean [1,3,4] (.seq (.ops zcyq) (.block 2 [1,3,4] (.clean [1,3,4,5] (.loop [1,3,4,5] t4))))))) (.clean [1,3,4] (.ops zcyn)))))
def zc1c : List ak := [Qo 2 (.mov QT)]
def zcfh : TC := (.seq (.ops zczh) (.clean [1] (.seq (.ops zczi) (.clean [1,3] (.seq (.seq (.ops zczj) (.clean [1,3,21] (.cond (t 21) (.seq (.ops zczk) (.ret [2])) .skip))) (.clean [1,3] (.seq (.seq (.ops zcyl) (.block 0 [] (.clean [1,3,4] (.loop [1,3,4] kd)))) (.clean [] (.seq (.ops zc1c) (.ret [2]))))))))))
def zce6 : TFn := ⟨69,zcfh,[.tmp 2],false⟩
theorem dz : type_of% (ai @zczh.eq_1 (ai @zczi.eq_1 (ai @zczj.eq_1 (ai @zczk.eq_1 (ai @zcyl.eq_1 (ai @zcym.eq_1 (ai @zcyo.eq_1 (ai @zcyp.eq_1 (ai @zcyq.eq_1 (ai @zc08.eq_1 (ai @zc1a.eq_1 (ai @zc1b.eq_1 (ai @zc09.eq_1 (ai @zcyn.eq_1 (ai @zc1c.eq_1 (ai @zcfh.eq_1 @zce6.eq_1)))))))))))))))) := ⟨rfl,rfl,rfl,rfl,rfl,rfl,rfl,rfl,rfl,rfl,rfl,rfl,rfl,rfl,rfl,rfl,rfl⟩
theorem zdd9 : u7 Try.prog [(7,⟨[0,1,2,3,4,5,6,7,8,9,10,11,12,13,14,15,16,17,18,19,20,21,22,23,24,25],[0,1,0,7,15,31,63,127,255,127,1023,2047,127,4223,12415,32767,65535,131071,262143,524287,262143,2097151,4194303,8388607,16777215,33554431],[],[]⟩),(12,⟨[0,1,2,3,4,5,6,7,8,9,10],[0,1,0,7,15,0,32,0,224,480,1023],[],[]⟩)] vd = some (69,zcfh.erase,[.tmp 2]) := by kernel_rfl
def zcyr : List ak := [Qo 1 (.box am 7 (t 0)),
 Qo 2 (.mov QF)]
def zcys : List ak := [Qo 8 (.fieldAddr 1 (t 1)),
 Qo 9 (.load1 (t 8)),
 Qo 10 (.lenL (t 9)),
 Qo 3 (.mov (t 10))]
def zcyt : List ak := [Qo 11 (.mov (t 3)),
 Qo 12 (.bin .lss (t 11) (ci 2)),
 Qo 13 (.mov (t 12)),
 Qf 13 14 (.mov (t 3)),
 Qf 13 15 (.bin .gtr (t 14) (ci 6)),
 Qo 16 (.pick (t 13) QT (t 15))]
def zcyu : List ak := [Qo 2 (.mov QF)]
def zcyv : List ak := [Qo 4 (.mov (ci 0))]
def zcyw : List ak := [Qo 17 (.mov (t 4)),
 Qo 18 (.mov (t 3)),
 Qo 19 (.bin .lss (t 17) (t 18))]
def zcyy : List ak := [Qo 22 (.fieldAddr 1 (t 1)),
 Qo 23 (.load1 (t 22)),
 Qo 24 (.mov (t 4)),
 Qo 25 (.indexSl 2 (t 23) (t 24)),
 Qo 26 (.loadN 2 (t 25)),
 Qo 5 (.box jj 2 (.const (.agg #[(.string ⟨#[]⟩),(.slice none 0 0)]))),
 ⟨⟨none,.store 2 (t 5) (t 26),none⟩,0⟩]
def zcyz : List ak := [Qo 27 (.fieldAddr 0 (t 5)),
 Qo 28 (.load1 (t 27)),
 Qo 29 (.call zx [(t 28)]),
 Qo 30 (.un .not (t 29)),
 Qo 31 (.mov (t 30)),
 Qf 31 32 (.fieldAddr 1 (t 5)),
 Qf 31 33 (.load1 (t 32)),
 Qf 31 34 (.lenL (t 33)),
 Qf 31 35 (.fieldAddr 3 (t 1)),
 Qf 31 36 (.load1 (t 35)),
 Qf 31 37 (.lenL (t 36)),
 Qf 31 38 (.bin .neq (t 34) (t 37)),
 Qo 39 (.pick (t 31) QT (t 38))]
def zcy0 : List ak := [Qo 2 (.mov QF)]
def zc1d : List ak := [Qo 6 (.mov (ci 0))]
def zc1e : List ak := [Qo 40 (.mov (t 6)),
 Qo 41 (.fieldAddr 1 (t 5)),
 Qo 42 (.load1 (t 41)),
 Qo 43 (.lenL (t 42)),
 Qo 44 (.bin .lss (t 40) (t 43))]
def zc1g : List ak := [Qo 47 (.fieldAddr 1 (t 5)),
 Qo 48 (.load1 (t 47)),
 Qo 49 (.mov (t 6)),
 Qo 50 (.indexSl 1 (t 48) (t 49)),
 Qo 51 (.load1 (t 50)),
 Qo 52 (.lenS (t 51)),
 Qo 53 (.bin .neq (t 52) (ci 16))]
def zc1h : List ak := [Qo 2 (.mov QF)]
def zc1f : List ak := [Qo 45 (.mov (t 6)),
 Qo 46 (.bin .add (t 45) (ci 1)),
 Qo 6 (.mov (t 46))]
def tz : TC := (.seq (.seq (.ops zc1e) (.clean [1,3,4,5,6,44] (.cond (t 44) .skip (.exit 2)))) (.clean [1,3,4,5,6] (.seq (.block 3 [1,3,4,5,6] (.seq (.ops zc1g) (.clean [1,3,4,5,6,53] (.cond (t 53) (.seq (.ops zc1h) (.ret [2])) .skip)))) (.clean [1,3,4,5,6] (.ops zc1f)))))
def zc2i : List ak := [Qo 7 (.mov (ci 0))]
def zc2j : List ak := [Qo 54 (.mov (t 7)),
 Qo 55 (.mov (t 4)),
 Qo 56 (.bin .lss (t 54) (t 55))]
def zc2l : List ak := [Qo 59 (.fieldAddr 1 (t 1)),
 Qo 60 (.load1 (t 59)),
 Qo 61 (.mov (t 7)),
 Qo 62 (.indexSl 2 (t 60) (t 61)),
 Qo 63 (.fieldAddr 0 (t 62)),
 Qo 64 (.load1 (t 63)),
 Qo 65 (.fieldAddr 0 (t 5)),
 Qo 66 (.load1 (t 65)),
 Qo 67 (.bin .eql (t 64) (t 66))]
def zc2m : List ak := [Qo 2 (.mov QF)]
def zc2k : List ak := [Qo 57 (.mov (t 7)),
 Qo 58 (.bin .add (t 57) (ci 1)),
 Qo 7 (.mov (t 58))]
def tx : TC := (.seq (.seq (.ops zc2j) (.clean [1,3,4,5,7,56] (.cond (t 56) .skip (.exit 4)))) (.clean [1,3,4,5,7] (.seq (.block 5 [1,3,4,5,7] (.seq (.draw (pl zc2l)) (.clean [1,3,4,5,7,67] (.cond (t 67) (.seq (.ops zc2m) (.ret [2])) .skip)))) (.clean [1,3,4,5,7] (.ops zc2k)))))
def zcyx : List ak := [Qo 20 (.mov (t 4)),
 Qo 21 (.bin .add (t 20) (ci 1)),
 Qo 4 (.mov (t 21))]
def i9 : TC := (.seq (.seq (.ops zcyw) (.clean [1,3,4,19] (.cond (t 19) .skip (.exit 0)))) (.clean [1,3,4] (.seq (.block 1 [1,3,4] (.seq (.ops zcyy) (.clean [1,3,4,5] (.seq (.seq (.ops zcyz) (.clean [1,3,4,5,39] (.cond (t 39) (.seq (.ops zcy0) (.ret [2])) .skip))) (.clean [1,3,4,5] (.seq (.seq (.ops zc1d) (.block 2 [1,3,4,5] (.clean [1,3,4,5,6] (.loop [1,3,4,5,6] tz)))) (.clean [1,3,4,5] (.seq (.ops zc2i) (.block 4 [1,3,4] (.clean [1,3,4,5,7] (.loop [1,3,4,5,7] tx))))))))))) (.clean [1,3,4] (.ops zcyx)))))
def zc2n : List ak := [Qo 2 (.mov QT)]
def zcfi : TC := (.seq (.ops zcyr) (.clean [1] (.seq (.ops zcys) (.clean [1,3] (.seq (.seq (.ops zcyt) (.clean [1,3,16] (.cond (t 16) (.seq (.ops zcyu) (.ret [2])) .skip))) (.clean [1,3] (.seq (.seq (.ops zcyv) (.block 0 [] (.clean [1,3,4] (.loop [1,3,4] i9)))) (.clean [] (.seq (.ops zc2n) (.ret [2]))))))))))
def zce7 : TFn := ⟨68,zcfi,[.tmp 2],false⟩
theorem cj : type_of% (ai @zcyr.eq_1 (ai @zcys.eq_1 (ai @zcyt.eq_1 (ai @zcyu.eq_1 (ai @zcyv.eq_1 (ai @zcyw.eq_1 (ai @zcyy.eq_1 (ai @zcyz.eq_1 (ai @zcy0.eq_1 (ai @zc1d.eq_1 (ai @zc1e.eq_1 (ai @zc1g.eq_1 (ai @zc1h.eq_1 (ai @zc1f.eq_1 (ai @zc2i.eq_1 (ai @zc2j.eq_1 (ai @zc2l.eq_1 (ai @zc2m.eq_1 (ai @zc2k.eq_1 (ai @zcyx.eq_1 (ai @zc2n.eq_1 (ai @zcfi.eq_1 @zce7.eq_1)))))))))))))))))))))) := ⟨rfl,rfl,rfl,rfl,rfl,rfl,rfl,rfl,rfl,rfl,rfl,rfl,rfl,rfl,rfl,rfl,rfl,rfl,rfl,rfl,rfl,rfl,rfl⟩
theorem zdea : u7 Try.prog [(18,⟨[0,1,2,3,4,5,6,7,8],[0,1,0,7,15,31,0,64,255],[],[]⟩)] vc = some (68,zcfi.erase,[.tmp 2]) := by kernel_rfl
def zcq5 : List ak := [Qo 1 (.box am 7 (t 0)),
 Qo 2 (.mov QF)]
def zcq6 : List ak := [Qo 7 (.fieldAddr 1 (t 1)),
 Qo 8 (.load1 (t 7)),
 Qo 9 (.lenL (t 8)),
 Qo 3 (.mov (t 9))]
def zcq7 : List ak := [Qo 4 (.mov (ci 0))]
def zcq8 : List ak := [Qo 10 (.mov (t 4)),
 Qo 11 (.fieldAddr 2 (t 1)),
 Qo 12 (.load1 (t 11)),
 Qo 13 (.lenL (t 12)),
 Qo 14 (.bin .lss (t 10) (t 13))]
def zcra : List ak := [Qo 17 (.fieldAddr 2 (t 1)),
 Qo 18 (.load1 (t 17)),
 Qo 19 (.mov (t 4)),
 Qo 20 (.indexSl 5 (t 18) (t 19)),
 Qo 21 (.loadN 5 (t 20)),
 Qo 5 (.box ju 5 (.const (.agg #[(.int .i64 0),(.int .i64 0),(.int .i64 0),(.string ⟨#[]⟩),(.int .i64 0)]))),
 ⟨⟨none,.store 5 (t 5) (t 21),none⟩,0⟩]
def zcrb : List ak := [Qo 22 (.fieldAddr 0 (t 5)),
 Qo 23 (.load1 (t 22)),
 Qo 24 (.bin .lss (t 23) (ci 0)),
 Qo 25 (.mov (t 24)),
 Qf 25 26 (.fieldAddr 0 (t 5)),
 Qf 25 27 (.load1 (t 26)),
 Qf 25 28 (.mov (t 3)),
 Qf 25 29 (.bin .geq (t 27) (t 28)),
 Qo 30 (.pick (t 25) QT (t 29)),
 Qo 31 (.mov (t 30)),
 Qf 31 32 (.fieldAddr 1 (t 5)),
 Qf 31 33 (.load1 (t 32)),
 Qf 31 34 (.bin .lss (t 33) (ci 0)),
 Qo 35 (.pick (t 31) QT (t 34)),
 Qo 36 (.mov (t 35)),
 Qf 36 37 (.fieldAddr 1 (t 5)),
 Qf 36 38 (.load1 (t 37)),
 Qf 36 39 (.mov (t 3)),
 Qf 36 40 (.bin .geq (t 38) (t 39)),
 Qo 41 (.pick (t 36) QT (t 40)),
 Qo 42 (.mov (t 41)),
 Qf 42 43 (.fieldAddr 0 (t 5)),
 Qf 42 44 (.load1 (t 43)),
 Qf 42 45 (.fieldAddr 1 (t 5)),
 Qf 42 46 (.load1 (t 45)),
 Qf 42 47 (.bin .eql (t 44) (t 46)),
 Qo 48 (.pick (t 42) QT (t 47)),
 Qo 49 (.mov (t 48)),
 Qf 49 50 (.fieldAddr 2 (t 5)),
 Qf 49 51 (.load1 (t 50)),
 Qf 49 52 (.bin .lss (t 51) (ci 0)),
 Qo 53 (.pick (t 49) QT (t 52)),
 Qo 54 (.mov (t 53)),
 Qf 54 55 (.fieldAddr 2 (t 5)),
 Qf 54 56 (.load1 (t 55)),
 Qf 54 57 (.bin .geq (t 56) (ci 4)),
 Qo 58 (.pick (t 54) QT (t 57)),
 Qo 59 (.mov (t 58)),
 Qf 59 60 (.fieldAddr 3 (t 5)),
 Qf 59 61 (.load1 (t 60)),
 Qf 59 62 (.call zx [(t 61)]),
 Qf 59 63 (.un .not (t 62)),
 Qo 64 (.pick (t 59) QT (t 63)),
 Qo 65 (.mov (t 64)),
 Qf 65 66 (.fieldAddr 4 (t 5)),
 Qf 65 67 (.load1 (t 66)),
 Qf 65 68 (.bin .lss (t 67) (ci 1)),
 Qo 69 (.pick (t 65) QT (t 68)),
 Qo 70 (.mov (t 69)),
 Qf 70 71 (.fieldAddr 4 (t 5)),
 Qf 70 72 (.load1 (t 71)),
 Qf 70 73 (.bin .gtr (t 72) (ci 1125899906842624)),
 Qo 74 (.pick (t 70) QT (t 73))]
def zcrc : List ak := [Qo 2 (.mov QF)]
def zcrd : List ak := [Qo 6 (.mov (ci 0))]
def zcre : List ak := [Qo 75 (.mov (t 6)),
 Qo 76 (.mov (t 4)),
 Qo 77 (.bin .lss (t 75) (t 76))]
def zcul : List ak := [Qo 80 (.fieldAddr 2 (t 1)),
 Qo 81 (.load1 (t 80)),
 Qo 82 (.mov (t 6)),
 Qo 83 (.indexSl 5 (t 81) (t 82)),
 Qo 84 (.fieldAddr 0 (t 83)),
 Qo 85 (.load1 (t 84)),
 Qo 86 (.fieldAddr 0 (t 5)),
 Qo 87 (.load1 (t 86)),
 Qo 88 (.bin .eql (t 85) (t 87)),
 Qo 89 (.mov (t 88)),
 Qt 89 90 (.fieldAddr 2 (t 1)),
 Qt 89 91 (.load1 (t 90)),
 Qt 89 92 (.mov (t 6)),
 Qt 89 93 (.indexSl 5 (t 91) (t 92)),
 Qt 89 94 (.fieldAddr 1 (t 93)),
 Qt 89 95 (.load1 (t 94)),
 Qt 89 96 (.fieldAddr 1 (t 5)),
 Qt 89 97 (.load1 (t 96)),
 Qt 89 98 (.bin .eql (t 95) (t 97)),
 Qo 99 (.pick (t 89) (t 98) QF)]
def zcum : List ak := [Qo 2 (.mov QF)]
def zctk : List ak := [Qo 78 (.mov (t 6)),
 Qo 79 (.bin .add (t 78) (ci 1)),
 Qo 6 (.mov (t 79))]
def zm : TC := (.seq (.seq (.ops zcre) (.clean [1,3,4,5,6,77] (.cond (t 77) .skip (.exit 2)))) (.clean [1,3,4,5,6] (.seq (.block 3 [1,3,4,5,6] (.seq (.draw (pl zcul)) (.clean [1,3,4,5,6,99] (.cond (t 99) (.seq (.ops zcum) (.ret [2])) .skip)))) (.clean [1,3,4,5,6] (.ops zctk)))))
def zcq9 : List ak := [Qo 15 (.mov (t 4)),
 Qo 16 (.bin .add (t 15) (ci 1)),
 Qo 4 (.mov (t 16))]
def gc : TC := (.seq (.seq (.ops zcq8) (.clean [1,3,4,14] (.cond (t 14) .skip (.exit 0)))) (.clean [1,3,4] (.seq (.block 1 [1,3,4] (.seq (.ops zcra) (.clean [1,3,4,5] (.seq (.seq (.ops zcrb) (.clean [1,3,4,5,74] (.cond (t 74) (.seq (.ops zcrc) (.ret [2])) .skip))) (.clean [1,3,4,5] (.seq (.ops zcrd) (.block 2 [1,3,4] (.clean [1,3,4,5,6] (.loop [1,3,4,5,6] zm))))))))) (.clean [1,3,4] (.ops zcq9)))))
def zcun : List ak := [Qo 100 (.fieldAddr 2 (t 1)),
 Qo 101 (.load1 (t 100)),
 Qo 102 (.lenL (t 101)),
 Qo 103 (.bin .geq (t 102) (ci 1)),
 Qo 104 (.mov (t 103)),
 Qt 104 105 (.fieldAddr 2 (t 1)),
 Qt 104 106 (.load1 (t 105)),
 Qt 104 107 (.lenL (t 106)),
 Qt 104 108 (.bin .leq (t 107) (ci 12)),
 Qo 109 (.pick (t 104) (t 108) QF),
 Qo 2 (.mov (t 109))]
def zcdt : TC := (.seq (.ops zcq5) (.clean [1] (.seq (.ops zcq6) (.clean [1,3] (.seq (.seq (.ops zcq7) (.block 0 [1] (.clean [1,3,4] (.loop [1,3,4] gc)))) (.clean [1] (.seq (.ops zcun) (.ret [2]))))))))
def zcdg : TFn := ⟨110,zcdt,[.tmp 2],false⟩
theorem ey : type_of% (ai @zcq5.eq_1 (ai @zcq6.eq_1 (ai @zcq7.eq_1 (ai @zcq8.eq_1 (ai @zcra.eq_1 (ai @zcrb.eq_1 (ai @zcrc.eq_1 (ai @zcrd.eq_1 (ai @zcre.eq_1 (ai @zcul.eq_1 (ai @zcum.eq_1 (ai @zctk.eq_1 (ai @zcq9.eq_1 (ai @zcun.eq_1 (ai @zcdt.eq_1 @zcdg.eq_1))))))))))))))) := ⟨rfl,rfl,rfl,rfl,rfl,rfl,rfl,rfl,rfl,rfl,rfl,rfl,rfl,rfl,rfl,rfl⟩
theorem zbn8 : u7 Try.prog [(11,⟨[0,1,2,3,4,5,6,7,8,9,10,11,12,13,14,15,16,17,18,19],[0,1,0,7,15,31,0,64,255,511,1023,2047,1023,8191,16383,32767,1023,66559,262143,524287],[],[]⟩)] zb45 = some (110,zcdt.erase,[.tmp 2]) := by kernel_rfl
def zcua : List ak := [Qo 4 (.box am 7 (t 0)),
 Qo 8 (.mov QF)]
def zcub : List ak := [Qo 9 (.box qo 6 (.const (.agg #[(.bool false),(.bool false),(.bool false),(.bool false),(.bool false),(.bool false)])))]
def zcuc : List ak := [Qo 10 (.mov (ci 0))]
def zcud : List ak := [Qo 16 (.mov (t 10)),
 Qo 17 (.mov (t 3)),
 Qo 18 (.lenL (t 17)),
 Qo 19 (.bin .lss (t 16) (t 18))]
def zcuf : List ak := [Qo 22 (.mov (t 3)),
 Qo 23 (.mov (t 10)),
 Qo 24 (.indexSl 1 (t 22) (t 23)),
 Qo 25 (.load1 (t 24)),
 Qo 26 (.indexPtr 6 1 (t 9) (t 25)),
 ⟨⟨none,.store 1 (t 26) QT,none⟩,0⟩]
def zcue : List ak := [Qo 20 (.mov (t 10)),
 Qo 21 (.bin .add (t 20) (ci 1)),
 Qo 10 (.mov (t 21))]
def zca7 : TC := (.seq (.seq (.ops zcud) (.clean [1,2,3,4,9,10,19] (.cond (t 19) .skip (.exit 0)))) (.clean [1,2,3,4,9,10] (.seq (.block 1 [1,2,3,4,9,10] (.ops zcuf)) (.clean [1,2,3,4,9,10] (.ops zcue)))))
def zcug : List ak := [Qo 27 (.mov (t 1)),
 Qo 28 (.indexPtr 6 1 (t 9) (t 27)),
 Qo 29 (.load1 (t 28)),
 Qo 30 (.mov (t 29)),
 Qf 30 31 (.mov (t 2)),
 Qf 30 32 (.indexPtr 6 1 (t 9) (t 31)),
 Qf 30 33 (.load1 (t 32)),
 Qo 34 (.pick (t 30) QT (t 33))]
def zcuh : List ak := [Qo 8 (.mov QF)]
def zcui : List ak := [Qo 11 (.box qo 6 (.const (.agg #[(.bool false),(.bool false),(.bool false),(.bool false),(.bool false),(.bool false)])))]
def zcuj : List ak := [Qo 35 (.mov (t 1)),
 Qm 2 36 (.buildSl cy 1 1 [(.int .i64 0)] [(0,1,(t 35))]),
 Qo 12 (.mov (t 36))]
def zcxh : List ak := [Qo 13 (.mov (ci 0))]
def zcxi : List ak := [Qo 37 (.mov (t 13)),
 Qo 38 (.mov (t 12)),
 Qo 39 (.lenL (t 38)),
 Qo 40 (.bin .lss (t 37) (t 39))]
def zcxk : List ak := [Qo 14 (.mov (ci 0))]
def zcxl : List ak := [Qo 43 (.mov (t 14)),
 Qo 44 (.fieldAddr 2 (t 4)),
 Qo 45 (.load1 (t 44)),
 Qo 46 (.lenL (t 45)),
 Qo 47 (.bin .lss (t 43) (t 46))]
def zcwn : List ak := [Qo 50 (.fieldAddr 2 (t 4)),
 Qo 51 (.load1 (t 50)),
 Qo 52 (.mov (t 14)),
 Qo 53 (.indexSl 5 (t 51) (t 52)),
 Qo 54 (.loadN 5 (t 53)),
 Qo 15 (.box ju 5 (.const (.agg #[(.int .i64 0),(.int .i64 0),(.int .i64 0),(.string ⟨#[]⟩),(.int .i64 0)]))),
 ⟨⟨none,.store 5 (t 15) (t 54),none⟩,0⟩]
def zcwo : List ak := [Qo 55 (.fieldAddr 0 (t 15)),
 Qo 56 (.load1 (t 55)),
 Qo 57 (.mov (t 12)),
 Qo 58 (.mov (t 13)),
 Qo 59 (.indexSl 1 (t 57) (t 58)),
 Qo 60 (.load1 (t 59)),
 Qo 61 (.bin .neq (t 56) (t 60)),
 Qo 62 (.mov (t 61)),
 Qf 62 63 (.fieldAddr 1 (t 15)),
 Qf 62 64 (.load1 (t 63)),
 Qf 62 65 (.indexPtr 6 1 (t 9) (t 64)),
 Qf 62 66 (.load1 (t 65)),
 Qo 67 (.pick (t 62) QT (t 66))]
def zcwp : List ak := [Qo 68 (.fieldAddr 1 (t 15)),
 Qo 69 (.load1 (t 68)),
 Qo 70 (.mov (t 2)),
 Qo 71 (.bin .eql (t 69) (t 70))]
def zcwq : List ak := [Qo 8 (.mov QT)]
def zcwr : List ak := [Qo 72 (.fieldAddr 1 (t 15)),
 Qo 73 (.load1 (t 72)),
 Qo 74 (.indexPtr 6 1 (t 11) (t 73)),
 Qo 75 (.load1 (t 74)),
 Qo 76 (.un .not (t 75))]
def zcws : List ak := [Qo 77 (.fieldAddr 1 (t 15)),
 Qo 78 (.load1 (t 77)),
 Qo 79 (.indexPtr 6 1 (t 11) (t 78)),
 ⟨⟨none,.store 1 (t 79) QT,none⟩,0⟩]
def zcwt : List ak := [Qo 80 (.mov (t 12)),
 Qo 81 (.fieldAddr 1 (t 15)),
 Qo 82 (.load1 (t 81)),
 Qo 83 (.buildSl cy 1 1 [(.int .i64 0)] [(0,1,(t 82))]),
 Qo 84 (.append cy 1 8 (t 80) (t 83)),
 Qo 12 (.mov (t 84))]
def zcxm : List ak := [Qo 48 (.mov (t 14)),
 Qo 49 (.bin .add (t 48) (ci 1)),
 Qo 14 (.mov (t 49))]
def ot : TC := (.seq (.seq (.ops zcxl) (.clean [2,4,9,11,12,13,14,47] (.cond (t 47) .skip (.exit 4)))) (.clean [2,4,9,11,12,13,14] (.seq (.block 5 [2,4,9,11,12,13,14] (.seq (.ops zcwn) (.clean [2,4,9,11,12,13,14,15] (.seq (.seq (.draw (pl zcwo)) (.clean [2,4,9,11,12,13,14,15,67] (.cond (t 67) (.exit 5) .skip))) (.clean [2,4,9,11,12,13,14,15] (.seq (.seq (.ops zcwp) (.clean [2,4,9,11,12,13,14,15,71] (.cond (t 71) (.seq (.ops zcwq) (.ret [8])) .skip))) (.clean [2,4,9,11,12,13,14,15] (.seq (.ops zcwr) (.clean [2,4,9,11,12,13,14,15,76] (.cond (t 76) (.seq (.ops zcws) (.clean [2,4,9,11,12,13,14,15] (.ops zcwt))) .skip)))))))))) (.clean [2,4,9,11,12,13,14] (.ops zcxm)))))
def zcxj : List ak := [Qo 41 (.mov (t 13)),
 Qo 42 (.bin .add (t 41) (ci 1)),
 Qo 13 (.mov (t 42))]
def uz : TC := (.seq (.seq (.ops zcxi) (.clean [2,4,9,11,12,13,40] (.cond (t 40) .skip (.exit 2)))) (.clean [2,4,9,11,12,13] (.seq (.block 3 [2,4,9,11,12,13] (.seq (.ops zcxk) (.block 4 [2,4,9,11,12,13] (.clean [2,4,9,11,12,13,14] (.loop [2,4,9,11,12,13,14] ot))))) (.clean [2,4,9,11,12,13] (.ops zcxj)))))
def zcwu : List ak := [Qo 8 (.mov QF)]
def zcd9 : TC := (.seq (.ops zcua) (.clean [1,2,3,4] (.seq (.ops zcub) (.clean [1,2,3,4,9] (.seq (.seq (.ops zcuc) (.block 0 [1,2,4,9] (.clean [1,2,3,4,9,10] (.loop [1,2,3,4,9,10] zca7)))) (.clean [1,2,4,9] (.seq (.seq (.ops zcug) (.clean [1,2,4,9,34] (.cond (t 34) (.seq (.ops zcuh) (.ret [8])) .skip))) (.clean [1,2,4,9] (.seq (.ops zcui) (.clean [1,2,4,9,11] (.seq (.ops zcuj) (.clean [2,4,9,11,12] (.seq (.seq (.ops zcxh) (.block 2 [] (.clean [2,4,9,11,12,13] (.loop [2,4,9,11,12,13] uz)))) (.clean [] (.seq (.ops zcwu) (.ret [8]))))))))))))))))
def zcd2 : TFn := ⟨85,zcd9,[.tmp 8],false⟩
theorem gg : type_of% (ai @zcua.eq_1 (ai @zcub.eq_1 (ai @zcuc.eq_1 (ai @zcud.eq_1 (ai @zcuf.eq_1 (ai @zcue.eq_1 (ai @zcug.eq_1 (ai @zcuh.eq_1 (ai @zcui.eq_1 (ai @zcuj.eq_1 (ai @zcxh.eq_1 (ai @zcxi.eq_1 (ai @zcxk.eq_1 (ai @zcxl.eq_1 (ai @zcwn.eq_1 (ai @zcwo.eq_1 (ai @zcwp.eq_1 (ai @zcwq.eq_1 (ai @zcwr.eq_1 (ai @zcws.eq_1 (ai @zcwt.eq_1 (ai @zcxm.eq_1 (ai @zcxj.eq_1 (ai @zcwu.eq_1 (ai @zcd9.eq_1 @zcd2.eq_1))))))))))))))))))))))))) := ⟨rfl,rfl,rfl,rfl,rfl,rfl,rfl,rfl,rfl,rfl,rfl,rfl,rfl,rfl,rfl,rfl,rfl,rfl,rfl,rfl,rfl,rfl,rfl,rfl,rfl,rfl⟩
theorem zc93 : u7 Try.prog [(17,⟨[0,1,2,3,4,5,6,7,8,9,10,11,12],[0,1,0,0,12,28,63,127,255,511,1023,2047,4095],[],[]⟩)] yz = some (85,zcd9.erase,[.tmp 8]) := by kernel_rfl
def zc2o : List ak := [Qo 1 (.box am 7 (t 0)),
 Qo 2 (.mov QF)]
def zc2p : List ak := [Qo 4 (.loadN 7 (t 1)),
 Qo 5 (.call pt [(t 4)]),
 Qo 6 (.un .not (t 5))]
def zc2q : List ak := [Qo 2 (.mov QF)]
def zc2r : List ak := [Qo 3 (.mov (ci 0))]
def zc1s : List ak := [Qo 7 (.mov (t 3)),
 Qo 8 (.fieldAddr 1 (t 1)),
 Qo 9 (.load1 (t 8)),
 Qo 10 (.lenL (t 9)),
 Qo 11 (.bin .lss (t 7) (t 10))]
def zc1u : List ak := [Qo 14 (.loadN 7 (t 1)),
 Qo 15 (.mov (t 3)),
 Qo 16 (.mov (t 3)),
 Qo 17 (.fieldAddr 3 (t 1)),
 Qo 18 (.load1 (t 17)),
 Qo 19 (.call yz [(t 14),(t 15),(t 16),(t 18)])]
def zc1v : List ak := [Qo 2 (.mov QF)]
def zc1t : List ak := [Qo 12 (.mov (t 3)),
 Qo 13 (.bin .add (t 12) (ci 1)),
 Qo 3 (.mov (t 13))]
def rg : TC := (.seq (.seq (.ops zc1s) (.clean [1,3,11] (.cond (t 11) .skip (.exit 0)))) (.clean [1,3] (.seq (.block 1 [1,3] (.seq (.ops zc1u) (.clean [1,3,19] (.cond (t 19) (.seq (.ops zc1v) (.ret [2])) .skip)))) (.clean [1,3] (.ops zc1t)))))
def zc1w : List ak := [Qo 2 (.mov QT)]
def zcft : TC := (.seq (.ops zc2o) (.clean [1] (.seq (.seq (.ops zc2p) (.clean [1,6] (.cond (t 6) (.seq (.ops zc2q) (.ret [2])) .skip))) (.clean [1] (.seq (.seq (.ops zc2r) (.block 0 [] (.clean [1,3] (.loop [1,3] rg)))) (.clean [] (.seq (.ops zc1w) (.ret [2]))))))))
def zcf1 : TFn := ⟨20,zcft,[.tmp 2],false⟩
theorem pf : type_of% (ai @zc2o.eq_1 (ai @zc2p.eq_1 (ai @zc2q.eq_1 (ai @zc2r.eq_1 (ai @zc1s.eq_1 (ai @zc1u.eq_1 (ai @zc1v.eq_1 (ai @zc1t.eq_1 (ai @zc1w.eq_1 (ai @zcft.eq_1 @zcf1.eq_1)))))))))) := ⟨rfl,rfl,rfl,rfl,rfl,rfl,rfl,rfl,rfl,rfl,rfl⟩
theorem zdfi : u7 Try.prog [] pp = some (20,zcft.erase,[.tmp 2]) := by kernel_rfl
def zct8 : List ak := [Qo 1 (.box am 7 (t 0)),
 Qo 2 (.mov QF)]
def zct9 : List ak := [Qo 3 (.loadN 7 (t 1)),
 Qo 4 (.call ut [(t 3)]),
 Qo 5 (.mov (t 4)),
 Qt 5 6 (.loadN 7 (t 1)),
 Qt 5 7 (.call pp [(t 6)]),
 Qo 8 (.pick (t 5) (t 7) QF),
 Qo 2 (.mov (t 8))]
def zcek : TC := (.seq (.ops zct8) (.clean [1] (.seq (.ops zct9) (.ret [2]))))
def zcd1 : TFn := ⟨9,zcek,[.tmp 2],false⟩
theorem zc7d : type_of% (ai @zct8.eq_1 (ai @zct9.eq_1 (ai @zcek.eq_1 @zcd1.eq_1))) := ⟨rfl,rfl,rfl,rfl⟩
theorem zc92 : u7 Try.prog [] zb5k = some (9,zcek.erase,[.tmp 2]) := by kernel_rfl
def zcrf : List ak := [Qo 2 (.box am 7 (t 0)),
 Qo 4 (.mov QF)]
def zcrg : List ak := [Qo 7 (.loadN 7 (t 2)),
 Qo 8 (.call pt [(t 7)]),
 Qo 9 (.un .not (t 8)),
 Qo 10 (.mov (t 9)),
 Qf 10 11 (.mov (t 1)),
 Qf 10 12 (.lenL (t 11)),
 Qf 10 13 (.bin .eql (t 12) (ci 0)),
 Qo 14 (.pick (t 10) QT (t 13))]
def zcrh : List ak := [Qo 4 (.mov QF)]
def zcri : List ak := [Qo 5 (.mov (ci 0))]
def zcrv : List ak := [Qo 15 (.mov (t 5)),
 Qo 16 (.mov (t 1)),
 Qo 17 (.lenL (t 16)),
 Qo 18 (.bin .lss (t 15) (t 17))]
def zcrx : List ak := [Qo 21 (.mov (t 1)),
 Qo 22 (.mov (t 5)),
 Qo 23 (.indexSl 1 (t 21) (t 22)),
 Qo 24 (.load1 (t 23)),
 Qo 25 (.bin .lss (t 24) (ci 0)),
 Qo 26 (.mov (t 25)),
 Qf 26 27 (.mov (t 1)),
 Qf 26 28 (.mov (t 5)),
 Qf 26 29 (.indexSl 1 (t 27) (t 28)),
 Qf 26 30 (.load1 (t 29)),
 Qf 26 31 (.fieldAddr 1 (t 2)),
 Qf 26 32 (.load1 (t 31)),
 Qf 26 33 (.lenL (t 32)),
 Qf 26 34 (.bin .geq (t 30) (t 33)),
 Qo 35 (.pick (t 26) QT (t 34)),
 Qo 36 (.mov (t 35)),
 Qf 36 37 (.mov (t 5)),
 Qf 36 38 (.bin .gtr (t 37) (ci 0)),
 Qf 36 39 (.mov (t 38)),
 Qt 39 40 (.loadN 7 (t 2)),
 Qt 39 41 (.mov (t 1)),
 Qt 39 42 (.mov (t 5)),
 Qt 39 43 (.bin .sub (t 42) (ci 1)),
 Qt 39 44 (.indexSl 1 (t 41) (t 43)),
 Qt 39 45 (.load1 (t 44)),
 Qt 39 46 (.mov (t 1)),
 Qt 39 47 (.mov (t 5)),
 Qt 39 48 (.indexSl 1 (t 46) (t 47)),
 Qt 39 49 (.load1 (t 48)),
 Qt 39 50 (.call zb4x [(t 40),(t 45),(t 49)]),
 Qt 39 51 (.un .not (t 50)),
 Qf 36 52 (.pick (t 39) (t 51) QF),
 Qo 53 (.pick (t 36) QT (t 52))]
def zcry : List ak := [Qo 4 (.mov QF)]
def zcrz : List ak := [Qo 6 (.mov (ci 0))]
def zcr0 : List ak := [Qo 54 (.mov (t 6)),
 Qo 55 (.mov (t 5)),
 Qo 56 (.bin .lss (t 54) (t 55))]
def zct5 : List ak := [Qo 59 (.mov (t 1)),
 Qo 60 (.mov (t 6)),
 Qo 61 (.indexSl 1 (t 59) (t 60)),
 Qo 62 (.load1 (t 61)),
 Qo 63 (.mov (t 1)),
 Qo 64 (.mov (t 5)),
 Qo 65 (.indexSl 1 (t 63) (t 64)),
 Qo 66 (.load1 (t 65)),
 Qo 67 (.bin .eql (t 62) (t 66))]
def zct6 : List ak := [Qo 4 (.mov QF)]
def zct4 : List ak := [Qo 57 (.mov (t 6)),
 Qo 58 (.bin .add (t 57) (ci 1)),
 Qo 6 (.mov (t 58))]
def zb62 : TC := (.seq (.seq (.ops zcr0) (.clean [1,2,5,6,56] (.cond (t 56) .skip (.exit 2)))) (.clean [1,2,5,6] (.seq (.block 3 [1,2,5,6] (.seq (.draw (pl zct5)) (.clean [1,2,5,6,67] (.cond (t 67) (.seq (.ops zct6) (.ret [4])) .skip)))) (.clean [1,2,5,6] (.ops zct4)))))
def zcrw : List ak := [Qo 19 (.mov (t 5)),
 Qo 20 (.bin .add (t 19) (ci 1)),
 Qo 5 (.mov (t 20))]
def kn : TC := (.seq (.seq (.ops zcrv) (.clean [1,2,5,18] (.cond (t 18) .skip (.exit 0)))) (.clean [1,2,5] (.seq (.block 1 [1,2,5] (.seq (.seq (.draw (pl zcrx)) (.clean [1,2,5,53] (.cond (t 53) (.seq (.ops zcry) (.ret [4])) .skip))) (.clean [1,2,5] (.seq (.ops zcrz) (.block 2 [1,2,5] (.clean [1,2,5,6] (.loop [1,2,5,6] zb62))))))) (.clean [1,2,5] (.ops zcrw)))))
def zct7 : List ak := [Qo 4 (.mov QT)]
def zcdu : TC := (.seq (.ops zcrf) (.clean [1,2] (.seq (.seq (.ops zcrg) (.clean [1,2,14] (.cond (t 14) (.seq (.ops zcrh) (.ret [4])) .skip))) (.clean [1,2] (.seq (.seq (.ops zcri) (.block 0 [] (.clean [1,2,5] (.loop [1,2,5] kn)))) (.clean [] (.seq (.ops zct7) (.ret [4]))))))))
def zcdh : TFn := ⟨68,zcdu,[.tmp 4],false⟩
theorem iw : type_of% (ai @zcrf.eq_1 (ai @zcrg.eq_1 (ai @zcrh.eq_1 (ai @zcri.eq_1 (ai @zcrv.eq_1 (ai @zcrx.eq_1 (ai @zcry.eq_1 (ai @zcrz.eq_1 (ai @zcr0.eq_1 (ai @zct5.eq_1 (ai @zct6.eq_1 (ai @zct4.eq_1 (ai @zcrw.eq_1 (ai @zct7.eq_1 (ai @zcdu.eq_1 @zcdh.eq_1))))))))))))))) := ⟨rfl,rfl,rfl,rfl,rfl,rfl,rfl,rfl,rfl,rfl,rfl,rfl,rfl,rfl,rfl,rfl⟩
theorem zbn7 : u7 Try.prog [(6,⟨[0,1,2,3,4,5,6,7,8,9,10,11,12,13,14,15,16,17,18,19,20,21,22,23,24,25,26,27,28,29,30,31,32],[0,0,3,7,15,31,63,63,255,511,63,1087,3135,8191,16383,32767,65535,131071,262143,524287,524287,524287,2621439,7864319,16252927,524287,524287,101187583,235405311,536870911,1073741823,2147483647,4294967295],[],[]⟩),(11,⟨[0,1,2,3,4,5,6,7,8],[0,0,3,7,0,0,48,112,255],[],[]⟩)] zb46 = some (68,zcdu.erase,[.tmp 4]) := by kernel_rfl
def zc7v : List ak := [Qo 3 (.box am 7 (t 0)),
 Qo 6 (.mov QF)]
def zc7w : List ak := [Qo 7 (.mov (ci 0))]
def zc7x : List ak := [Qo 8 (.mov (t 7)),
 Qo 9 (.fieldAddr 2 (t 3)),
 Qo 10 (.load1 (t 9)),
 Qo 11 (.lenL (t 10)),
 Qo 12 (.bin .lss (t 8) (t 11))]
def zc8g : List ak := [Qo 15 (.fieldAddr 2 (t 3)),
 Qo 16 (.load1 (t 15)),
 Qo 17 (.mov (t 7)),
 Qo 18 (.indexSl 5 (t 16) (t 17)),
 Qo 19 (.fieldAddr 0 (t 18)),
 Qo 20 (.load1 (t 19)),
 Qo 21 (.mov (t 1)),
 Qo 22 (.bin .eql (t 20) (t 21)),
 Qo 23 (.mov (t 22)),
 Qt 23 24 (.fieldAddr 2 (t 3)),
 Qt 23 25 (.load1 (t 24)),
 Qt 23 26 (.mov (t 7)),
 Qt 23 27 (.indexSl 5 (t 25) (t 26)),
 Qt 23 28 (.fieldAddr 1 (t 27)),
 Qt 23 29 (.load1 (t 28)),
 Qt 23 30 (.mov (t 2)),
 Qt 23 31 (.bin .eql (t 29) (t 30)),
 Qo 32 (.pick (t 23) (t 31) QF)]
def zc8h : List ak := [Qo 6 (.mov QT)]
def zc8f : List ak := [Qo 13 (.mov (t 7)),
 Qo 14 (.bin .add (t 13) (ci 1)),
 Qo 7 (.mov (t 14))]
def zb5r : TC := (.seq (.seq (.ops zc7x) (.clean [1,2,3,7,12] (.cond (t 12) .skip (.exit 0)))) (.clean [1,2,3,7] (.seq (.block 1 [1,2,3,7] (.seq (.ops zc8g) (.clean [1,2,3,7,32] (.cond (t 32) (.seq (.ops zc8h) (.ret [6])) .skip)))) (.clean [1,2,3,7] (.ops zc8f)))))
def zc8i : List ak := [Qo 6 (.mov QF)]
def zcc0 : TC := (.seq (.ops zc7v) (.clean [1,2,3] (.seq (.seq (.ops zc7w) (.block 0 [] (.clean [1,2,3,7] (.loop [1,2,3,7] zb5r)))) (.clean [] (.seq (.ops zc8i) (.ret [6]))))))
def zccu : TFn := ⟨33,zcc0,[.tmp 6],false⟩
theorem zb6y : type_of% (ai @zc7v.eq_1 (ai @zc7w.eq_1 (ai @zc7x.eq_1 (ai @zc8g.eq_1 (ai @zc8h.eq_1 (ai @zc8f.eq_1 (ai @zc8i.eq_1 (ai @zcc0.eq_1 @zccu.eq_1)))))))) := ⟨rfl,rfl,rfl,rfl,rfl,rfl,rfl,rfl,rfl⟩
theorem zbus : u7 Try.prog [] zb4x = some (33,zcc0.erase,[.tmp 6]) := by kernel_rfl
def zcuo : List ak := [Qo 2 (.box am 7 (t 0)),
 Qo 4 (.mov (.const (Go.Value.slice none 0 0)))]
def zcup : List ak := [Qm 1 5 (.mov (.const (Go.Value.slice none 0 0)))]
def zcuq : List ak := [Qo 6 (.mov (ci 0))]
def zcur : List ak := [Qo 7 (.mov (t 6)),
 Qo 8 (.fieldAddr 2 (t 2)),
 Qo 9 (.load1 (t 8)),
 Qo 10 (.lenL (t 9)),
 Qo 11 (.bin .lss (t 7) (t 10)),
 Qo 12 (.mov (t 11)),
 Qt 12 13 (.loadN 7 (t 2)),
 Qt 12 14 (.call pt [(t 13)]),
 Qo 15 (.pick (t 12) (t 14) QF)]
def zcut : List ak := [Qo 18 (.fieldAddr 2 (t 2)),
 Qo 19 (.load1 (t 18)),
 Qo 20 (.mov (t 6)),
 Qo 21 (.indexSl 5 (t 19) (t 20)),
 Qo 22 (.fieldAddr 1 (t 21)),
 Qo 23 (.load1 (t 22)),
 Qo 24 (.mov (t 1)),
 Qo 25 (.bin .eql (t 23) (t 24))]
def zcuu : List ak := [Qo 26 (.mov (t 5)),
 Qo 27 (.mov (t 6)),
 Qo 28 (.buildSl cy 1 1 [(.int .i64 0)] [(0,1,(t 27))]),
 Qo 29 (.append cy 1 8 (t 26) (t 28)),
 Qo 5 (.mov (t 29))]
def zcus : List ak := [Qo 16 (.mov (t 6)),
 Qo 17 (.bin .add (t 16) (ci 1)),
 Qo 6 (.mov (t 17))]
def u5 : TC := (.seq (.seq (.ops zcur) (.clean [1,2,5,6,15] (.cond (t 15) .skip (.exit 0)))) (.clean [1,2,5,6] (.seq (.block 1 [1,2,5,6] (.seq (.ops zcut) (.clean [1,2,5,6,25] (.cond (t 25) (.ops zcuu) .skip)))) (.clean [1,2,5,6] (.ops zcus)))))
def zctv : List ak := [Qo 30 (.mov (t 5)),
 Qo 4 (.mov (t 30))]
def zcei : TC := (.seq (.ops zcuo) (.clean [1,2] (.seq (.ops zcup) (.clean [1,2,5] (.seq (.seq (.ops zcuq) (.block 0 [5] (.clean [1,2,5,6] (.loop [1,2,5,6] u5)))) (.clean [5] (.seq (.ops zctv) (.ret [4]))))))))
def zcdz : TFn := ⟨31,zcei,[.tmp 4],false⟩
theorem zb63 : type_of% (ai @zcuo.eq_1 (ai @zcup.eq_1 (ai @zcuq.eq_1 (ai @zcur.eq_1 (ai @zcut.eq_1 (ai @zcuu.eq_1 (ai @zcus.eq_1 (ai @zctv.eq_1 (ai @zcei.eq_1 @zcdz.eq_1))))))))) := ⟨rfl,rfl,rfl,rfl,rfl,rfl,rfl,rfl,rfl,rfl⟩
theorem zc90 : u7 Try.prog [] zb5i = some (31,zcei.erase,[.tmp 4]) := by kernel_rfl
def zctw : List ak := [Qo 2 (.box am 7 (t 0)),
 Qo 4 (.mov (.const (Go.Value.slice none 0 0)))]
def zctx : List ak := [Qm 1 5 (.mov (.const (Go.Value.slice none 0 0)))]
def zcty : List ak := [Qo 6 (.mov (ci 0))]
def zctz : List ak := [Qo 7 (.mov (t 6)),
 Qo 8 (.fieldAddr 2 (t 2)),
 Qo 9 (.load1 (t 8)),
 Qo 10 (.lenL (t 9)),
 Qo 11 (.bin .lss (t 7) (t 10)),
 Qo 12 (.mov (t 11)),
 Qt 12 13 (.loadN 7 (t 2)),
 Qt 12 14 (.call pt [(t 13)]),
 Qo 15 (.pick (t 12) (t 14) QF)]
def zct1 : List ak := [Qo 18 (.fieldAddr 2 (t 2)),
 Qo 19 (.load1 (t 18)),
 Qo 20 (.mov (t 6)),
 Qo 21 (.indexSl 5 (t 19) (t 20)),
 Qo 22 (.fieldAddr 0 (t 21)),
 Qo 23 (.load1 (t 22)),
 Qo 24 (.mov (t 1)),
 Qo 25 (.bin .eql (t 23) (t 24))]
def zct2 : List ak := [Qo 26 (.mov (t 5)),
 Qo 27 (.mov (t 6)),
 Qo 28 (.buildSl cy 1 1 [(.int .i64 0)] [(0,1,(t 27))]),
 Qo 29 (.append cy 1 8 (t 26) (t 28)),
 Qo 5 (.mov (t 29))]
def zct0 : List ak := [Qo 16 (.mov (t 6)),
 Qo 17 (.bin .add (t 16) (ci 1)),
 Qo 6 (.mov (t 17))]
def u4 : TC := (.seq (.seq (.ops zctz) (.clean [1,2,5,6,15] (.cond (t 15) .skip (.exit 0)))) (.clean [1,2,5,6] (.seq (.block 1 [1,2,5,6] (.seq (.ops zct1) (.clean [1,2,5,6,25] (.cond (t 25) (.ops zct2) .skip)))) (.clean [1,2,5,6] (.ops zct0)))))
def zct3 : List ak := [Qo 30 (.mov (t 5)),
 Qo 4 (.mov (t 30))]
def zcej : TC := (.seq (.ops zctw) (.clean [1,2] (.seq (.ops zctx) (.clean [1,2,5] (.seq (.seq (.ops zcty) (.block 0 [5] (.clean [1,2,5,6] (.loop [1,2,5,6] u4)))) (.clean [5] (.seq (.ops zct3) (.ret [4]))))))))
def zcd0 : TFn := ⟨31,zcej,[.tmp 4],false⟩
theorem zb68 : type_of% (ai @zctw.eq_1 (ai @zctx.eq_1 (ai @zcty.eq_1 (ai @zctz.eq_1 (ai @zct1.eq_1 (ai @zct2.eq_1 (ai @zct0.eq_1 (ai @zct3.eq_1 (ai @zcej.eq_1 @zcd0.eq_1))))))))) := ⟨rfl,rfl,rfl,rfl,rfl,rfl,rfl,rfl,rfl,rfl⟩
theorem zc91 : u7 Try.prog [] zb5j = some (31,zcej.erase,[.tmp 4]) := by kernel_rfl
end Ic
end Go.Proofs.Ytdcfoaafkppojaa
