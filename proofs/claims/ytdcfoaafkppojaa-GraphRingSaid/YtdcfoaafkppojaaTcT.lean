import Derived.Test.YtdcfoaafkppojaaProg
import Derived.Test.YtdcfoaafkppojaaTv9
import Derived.KernelRfl
set_option linter.unusedVariables false
/- The code of functions for the tree level, printed by a program out of the model's own print; the kernel checks each. -/
namespace Go.Proofs.Ytdcfoaafkppojaa
open Go Go.RowKit Sh
namespace Ic
abbrev t (n : Nat) : Operand := .tmp n
abbrev ci (n : Int) : Operand := .const (.int .i64 n)
abbrev nu : Nat := 8
abbrev qp : Nat := 27
abbrev xk : Nat := 28
abbrev xj : Nat := 29
abbrev m6 : Nat := 30
abbrev kb : Nat := 32
abbrev oa : Nat := 34
abbrev iv : Nat := 36
abbrev re : Nat := 38
abbrev rc : Nat := 40
abbrev mq : Nat := 47
abbrev zl : Nat := 54
abbrev rf : Nat := 55
abbrev zbt7 : Nat := 56
abbrev cn : Nat := 57
abbrev il : Nat := 58
abbrev g8 : Nat := 59
abbrev du : Nat := 61
abbrev dh : Nat := 62
abbrev bh : Nat := 63
abbrev fy : Nat := 64
abbrev kj : Nat := 66
abbrev io : Nat := 67
abbrev im : Nat := 68
abbrev qo : Nat := 87
abbrev lz : Nat := 88
abbrev qn : Nat := 89
abbrev zk : Nat := 90
abbrev fx : Nat := 91
abbrev fj : Nat := 92
abbrev g7 : Nat := 93
abbrev jw : Nat := 94
abbrev db : Nat := 95
abbrev lf : Nat := 119
abbrev zbp8 : Nat := 120
abbrev vd : Nat := 121
abbrev vc : Nat := 122
abbrev zm : Nat := 123
abbrev eh : Nat := 124
abbrev fo : Nat := 125
abbrev bv : Nat := 126
abbrev bq : Nat := 131
abbrev fv : Nat := 132
abbrev dy : Nat := 133
abbrev xi : Nat := 136
abbrev od : Nat := 137
abbrev ul : Nat := 138
abbrev ca : Nat := 141
abbrev xh : Nat := 143
abbrev jd : Nat := 144
abbrev de : Nat := 3
abbrev zbwu : Nat := 4
abbrev m5 : Nat := 5
abbrev eu : Nat := 9
abbrev za : Nat := 24
abbrev a9 : Nat := 27
abbrev jv : Nat := 43
abbrev j9 : Nat := 45
abbrev nr : Nat := 87
abbrev dx : Nat := 130
abbrev ja : Nat := 136
abbrev Qo (d : Nat) (x : I) : ap := ⟨⟨some d,x,none⟩,0⟩
abbrev Qt (j d : Nat) (x : I) : ap := ⟨⟨some d,x,some (j,true)⟩,0⟩
abbrev Qf (j d : Nat) (x : I) : ap := ⟨⟨some d,x,some (j,false)⟩,0⟩
abbrev Qm (m d : Nat) (x : I) : ap := ⟨⟨some d,x,none⟩,m⟩
abbrev QF : Operand := .const (Go.Value.bool false)
abbrev QT : Operand := .const (Go.Value.bool true)
def zcgw : List ap := [Qo 6 (.mov QF)]
def zcgx : List ap := [Qo 14 (.mov (t 0)),
 Qo 15 (.call qp [(t 14),(ci 5)]),
 Qo 16 (.bin .add (ci 2) (t 15)),
 Qo 7 (.mov (t 16))]
def zcgy : List ap := [Qo 17 (.mov (t 7)),
 Qo 18 (.call xk [(t 17),(ci 5),(ci 6)]),
 Qo 8 (.box a9 7 (.const (.agg #[(.string ⟨#[]⟩),(.slice none 0 0),(.slice none 0 0),(.slice none 0 0),(.slice none 0 0),(.int .i64 0),(.int .i64 0)]))),
 ⟨⟨none,.store 7 (t 8) (t 18),none⟩,0⟩]
def zcgz : List ap := [Qo 19 (.mov (t 1)),
 Qo 20 (.mov (t 7)),
 Qo 21 (.call qp [(t 19),(t 20)]),
 Qo 22 (.mov (t 2)),
 Qo 23 (.mov (t 7)),
 Qo 24 (.call qp [(t 22),(t 23)]),
 Qo 25 (.bin .add (ci 1) (t 24)),
 Qo 9 (.mov (t 21)),
 Qo 10 (.mov (t 25))]
def zcg0 : List ap := [Qm 1 11 (.mov (.const (Go.Value.slice none 0 0)))]
def zcg1 : List ap := [Qo 12 (.mov (ci 0))]
def zcg2 : List ap := [Qo 26 (.mov (t 12)),
 Qo 27 (.mov (t 10)),
 Qo 28 (.bin .lss (t 26) (t 27))]
def zcg4 : List ap := [Qo 31 (.mov (t 11)),
 Qo 32 (.mov (t 9)),
 Qo 33 (.mov (t 12)),
 Qo 34 (.bin .add (t 32) (t 33)),
 Qo 35 (.mov (t 7)),
 Qo 36 (.bin .rem (t 34) (t 35)),
 Qo 37 (.buildSl de 1 1 [(.int .i64 0)] [(0,1,(t 36))]),
 Qo 38 (.append de 1 8 (t 31) (t 37)),
 Qo 11 (.mov (t 38))]
def zcg3 : List ap := [Qo 29 (.mov (t 12)),
 Qo 30 (.bin .add (t 29) (ci 1)),
 Qo 12 (.mov (t 30))]
def qw : TC := (.seq (.seq (.ops zcg2) (.clean [7,8,9,10,11,12,28] (.cond (t 28) .skip (.exit 0)))) (.clean [7,8,9,10,11,12] (.seq (.block 1 [7,8,9,10,11,12] (.ops zcg4)) (.clean [7,8,9,10,11,12] (.ops zcg3)))))
def zcg5 : List ap := [Qo 39 (.loadN 7 (t 8)),
 Qo 13 (.box a9 7 (.const (.agg #[(.string ⟨#[]⟩),(.slice none 0 0),(.slice none 0 0),(.slice none 0 0),(.slice none 0 0),(.int .i64 0),(.int .i64 0)]))),
 ⟨⟨none,.store 7 (t 13) (t 39),none⟩,0⟩]
def zcho : List ap := [Qo 40 (.fieldAddr 2 (t 8)),
 Qo 41 (.load1 (t 40)),
 Qo 42 (.sliceSl 5 (t 41) (some (ci 1)) none),
 Qo 43 (.fieldAddr 2 (t 13)),
 ⟨⟨none,.store 1 (t 43) (t 42),none⟩,0⟩]
def zchp : List (ap × List Nat) := [(Qo 44 (.loadN 7 (t 8)),[]),
 (Qo 45 (.mov (t 11)),[]),
 (Qo 46 (.call iv [(t 44),(t 45)]),[]),
 (Qo 47 (.mov (t 46)),[]),
 (Qt 47 48 (.loadN 7 (t 8)),[]),
 (Qt 47 49 (.mov (t 11)),[]),
 (Qt 47 51 (.mov (t 11)),[]),
 (Qt 47 52 (.indexSl 1 (t 51) (ci 0)),[]),
 (Qt 47 53 (.load1 (t 52)),[]),
 (Qt 47 50 (.append de 1 8 (.const (Go.Value.slice none 0 0)) (t 49)),[4,8]),
 (Qt 47 54 (.buildSl de 1 1 [(.int .i64 0)] [(0,1,(t 53))]),[]),
 (Qt 47 55 (.append de 1 8 (t 50) (t 54)),[4]),
 (Qt 47 56 (.call iv [(t 48),(t 55)]),[]),
 (Qt 47 57 (.un .not (t 56)),[]),
 (Qo 58 (.pick (t 47) (t 57) QF),[]),
 (Qo 59 (.mov (t 58)),[]),
 (Qt 59 60 (.loadN 7 (t 8)),[]),
 (Qt 59 61 (.mov (t 11)),[]),
 (Qt 59 63 (.mov (t 9)),[]),
 (Qt 59 64 (.mov (t 10)),[]),
 (Qt 59 65 (.bin .add (t 63) (t 64)),[]),
 (Qt 59 66 (.mov (t 7)),[]),
 (Qt 59 67 (.bin .rem (t 65) (t 66)),[]),
 (Qt 59 71 (.mov (t 10)),[]),
 (Qt 59 72 (.mov (t 7)),[]),
 (Qt 59 73 (.bin .lss (t 71) (t 72)),[]),
 (Qt 59 62 (.append de 1 8 (.const (Go.Value.slice none 0 0)) (t 61)),[16]),
 (Qt 59 68 (.buildSl de 1 1 [(.int .i64 0)] [(0,1,(t 67))]),[]),
 (Qt 59 69 (.append de 1 8 (t 62) (t 68)),[16]),
 (Qt 59 70 (.call iv [(t 60),(t 69)]),[]),
 (Qt 59 74 (.eqB false (t 70) (t 73)),[]),
 (Qo 75 (.pick (t 59) (t 74) QF),[]),
 (Qo 76 (.mov (t 75)),[]),
 (Qt 76 77 (.loadN 7 (t 8)),[]),
 (Qt 76 78 (.call iv [(t 77),(.const (Go.Value.slice none 0 0))]),[]),
 (Qt 76 79 (.un .not (t 78)),[]),
 (Qo 80 (.pick (t 76) (t 79) QF),[]),
 (Qo 81 (.mov (t 80)),[]),
 (Qt 81 82 (.loadN 7 (t 8)),[]),
 (Qt 81 83 (.buildSl de 1 1 [(.int .i64 0)] [(0,1,(ci (-1)))]),[]),
 (Qt 81 84 (.call iv [(t 82),(t 83)]),[]),
 (Qt 81 85 (.un .not (t 84)),[]),
 (Qo 86 (.pick (t 81) (t 85) QF),[]),
 (Qo 87 (.mov (t 86)),[]),
 (Qt 87 88 (.loadN 7 (t 13)),[]),
 (Qt 87 89 (.call m6 [(t 88)]),[]),
 (Qt 87 90 (.un .not (t 89)),[]),
 (Qo 91 (.pick (t 87) (t 90) QF),[]),
 (Qo 92 (.mov (t 91)),[]),
 (Qt 92 93 (.loadN 7 (t 13)),[]),
 (Qt 92 94 (.call kb [(t 93)]),[]),
 (Qo 95 (.pick (t 92) (t 94) QF),[]),
 (Qo 96 (.mov (t 95)),[]),
 (Qt 96 97 (.call xj []),[]),
 (Qo 98 (.pick (t 96) (t 97) QF),[]),
 (Qo 6 (.mov (t 98)),[])]
def ya : TC := (.seq (.ops zcgw) (.clean [0,1,2] (.seq (.ops zcgx) (.clean [1,2,7] (.seq (.ops zcgy) (.clean [1,2,7,8] (.seq (.ops zcgz) (.clean [7,8,9,10] (.seq (.ops zcg0) (.clean [7,8,9,10,11] (.seq (.seq (.ops zcg1) (.block 0 [7,8,9,10,11] (.clean [7,8,9,10,11,12] (.loop [7,8,9,10,11,12] qw)))) (.clean [7,8,9,10,11] (.seq (.ops zcg5) (.clean [7,8,9,10,11,13] (.seq (.ops zcho) (.clean [7,8,9,10,11,13] (.seq (.drawT zchp [((.cons 0 (.cons 1 (.cons 2 (.cons 3 (.cons 4 (.cons 5 (.cons 6 (.cons 7 (.cons 8 .nil))))))))),[7,8,9,10,11,13,47,48,49,52,53]),((.alt 9 (.cons 10 .nil) 10 (.cons 9 .nil)),[7,8,9,10,11,13,47,48,50,54]),((.cons 11 (.cons 12 (.cons 13 (.cons 14 (.cons 15 (.cons 16 (.cons 17 (.cons 18 (.cons 19 (.cons 20 (.cons 21 (.cons 22 (.cons 23 (.cons 24 (.cons 25 .nil))))))))))))))),[8,13,59,60,61,67,73]),((.alt 26 (.cons 27 .nil) 27 (.cons 26 .nil)),[8,13,59,60,62,68,73]),((.cons 28 (.cons 29 (.cons 30 (.cons 31 (.cons 32 (.cons 33 (.cons 34 (.cons 35 (.cons 36 (.cons 37 (.cons 38 (.cons 39 (.cons 40 (.cons 41 (.cons 42 (.cons 43 (.cons 44 (.cons 45 (.cons 46 (.cons 47 (.cons 48 (.cons 49 (.cons 50 (.cons 51 (.cons 52 (.cons 53 (.cons 54 (.cons 55 .nil)))))))))))))))))))))))))))),[6])]) (.ret [6]))))))))))))))))))
def yg : TFn := ⟨99,ya,[.tmp 6],false⟩
theorem ek : type_of% (ai @zcgw.eq_1 (ai @zcgx.eq_1 (ai @zcgy.eq_1 (ai @zcgz.eq_1 (ai @zcg0.eq_1 (ai @zcg1.eq_1 (ai @zcg2.eq_1 (ai @zcg4.eq_1 (ai @zcg3.eq_1 (ai @zcg5.eq_1 (ai @zcho.eq_1 (ai @zchp.eq_1 (ai @ya.eq_1 @yg.eq_1))))))))))))) := ⟨rfl,rfl,rfl,rfl,rfl,rfl,rfl,rfl,rfl,rfl,rfl,rfl,rfl,rfl⟩
theorem zcqq : xa Try.prog [(11,⟨[0,1,2,3,4,5,7,8,9,6,10,11,12,13,14,15,16,17,19,20,21,22,23,27,28,29,18,24,25,26,30,31,32,33,34,35,36,37,38,39,40,41,42,43,44,45,46,47,48,49,50,51,52,53,54,55],[0,0,3,7,15,15,47,15,143,399,911,2031,4095,8191,16383,32767,65535,65535,196607,65535,65535,1638399,65535,7929855,16318463,33488895,67108863,65535,65535,402718719,1073741823,2147483647,4294967295,8589934591,17179869183,34359738367,68719476735,137438953471,274877906943,274877906943,1099511627775,2199023255551,4398046511103,8796093022207,17592186044415,35184372088831,70368744177663,140737488355327,281474976710655,562949953421311,1125899906842623,2251799813685247,4503599627370495,9007199254740991,18014398509481983,36028797018963967],[],[(6,[4,9]),(11,[4]),(18,[16]),(25,[16])],(.cons 0 (.cons 1 (.cons 2 (.cons 3 (.cons 4 (.cons 5 (.cons 7 (.cons 8 (.cons 9 (.alt 6 (.cons 10 (.cons 11 (.cons 12 (.cons 13 (.cons 14 (.cons 15 (.cons 16 (.cons 17 (.cons 19 (.cons 20 (.cons 21 (.cons 22 (.cons 23 (.cons 27 (.cons 28 (.cons 29 (.alt 18 (.cons 24 (.cons 25 (.cons 26 (.cons 30 (.cons 31 (.cons 32 (.cons 33 (.cons 34 (.cons 35 (.cons 36 (.cons 37 (.cons 38 (.cons 39 (.cons 40 (.cons 41 (.cons 42 (.cons 43 (.cons 44 (.cons 45 (.cons 46 (.cons 47 (.cons 48 (.cons 49 (.cons 50 (.cons 51 (.cons 52 (.cons 53 (.cons 54 (.cons 55 .nil))))))))))))))))))))))))))))) 24 (.cons 18 (.cons 25 (.cons 26 (.cons 30 (.cons 31 (.cons 32 (.cons 33 (.cons 34 (.cons 35 (.cons 36 (.cons 37 (.cons 38 (.cons 39 (.cons 40 (.cons 41 (.cons 42 (.cons 43 (.cons 44 (.cons 45 (.cons 46 (.cons 47 (.cons 48 (.cons 49 (.cons 50 (.cons 51 (.cons 52 (.cons 53 (.cons 54 (.cons 55 .nil)))))))))))))))))))))))))))))))))))))))))))))) 10 (.cons 6 (.cons 11 (.cons 12 (.cons 13 (.cons 14 (.cons 15 (.cons 16 (.cons 17 (.cons 19 (.cons 20 (.cons 21 (.cons 22 (.cons 23 (.cons 27 (.cons 28 (.cons 29 (.alt 18 (.cons 24 (.cons 25 (.cons 26 (.cons 30 (.cons 31 (.cons 32 (.cons 33 (.cons 34 (.cons 35 (.cons 36 (.cons 37 (.cons 38 (.cons 39 (.cons 40 (.cons 41 (.cons 42 (.cons 43 (.cons 44 (.cons 45 (.cons 46 (.cons 47 (.cons 48 (.cons 49 (.cons 50 (.cons 51 (.cons 52 (.cons 53 (.cons 54 (.cons 55 .nil))))))))))))))))))))))))))))) 24 (.cons 18 (.cons 25 (.cons 26 (.cons 30 (.cons 31 (.cons 32 (.cons 33 (.cons 34 (.cons 35 (.cons 36 (.cons 37 (.cons 38 (.cons 39 (.cons 40 (.cons 41 (.cons 42 (.cons 43 (.cons 44 (.cons 45 (.cons 46 (.cons 47 (.cons 48 (.cons 49 (.cons 50 (.cons 51 (.cons 52 (.cons 53 (.cons 54 (.cons 55 .nil))))))))))))))))))))))))))))))))))))))))))))))))))))))))⟩)] nu = some (99,ya.erase,[.tmp 6]) := by kernel_rfl
def zcas : List ap := [Qo 4 (.mov (ci 0))]
def zcat : List ap := [Qo 6 (.mov (t 0)),
 Qo 7 (.mov (t 1)),
 Qo 8 (.bin .rem (t 6) (t 7)),
 Qo 5 (.mov (t 8))]
def zcau : List ap := [Qo 9 (.mov (t 5)),
 Qo 10 (.bin .lss (t 9) (ci 0))]
def zcav : List ap := [Qo 11 (.mov (t 5)),
 Qo 12 (.mov (t 1)),
 Qo 13 (.bin .add (t 11) (t 12)),
 Qo 5 (.mov (t 13))]
def zcaw : List ap := [Qo 14 (.mov (t 5)),
 Qo 4 (.mov (t 14))]
def zb0z : TC := (.seq (.ops zcas) (.clean [0,1] (.seq (.ops zcat) (.clean [1,5] (.seq (.seq (.ops zcau) (.clean [1,5,10] (.cond (t 10) (.ops zcav) .skip))) (.clean [5] (.seq (.ops zcaw) (.ret [4]))))))))
def zb0q : TFn := ⟨15,zb0z,[.tmp 4],false⟩
theorem zb70 : type_of% (ai @zcas.eq_1 (ai @zcat.eq_1 (ai @zcau.eq_1 (ai @zcav.eq_1 (ai @zcaw.eq_1 (ai @zb0z.eq_1 @zb0q.eq_1)))))) := ⟨rfl,rfl,rfl,rfl,rfl,rfl,rfl⟩
theorem zcs8 : xa Try.prog [] qp = some (15,zb0z.erase,[.tmp 4]) := by kernel_rfl
def zb9e : List ap := [Qo 6 (.box a9 7 (.const (.agg #[(.string ⟨#[]⟩),(.slice none 0 0),(.slice none 0 0),(.slice none 0 0),(.slice none 0 0),(.int .i64 0),(.int .i64 0)])))]
def zb9f : List ap := [Qo 9 (.mov (t 0)),
 Qo 10 (.call zl [(t 9),(ci 0),(ci 2)]),
 Qo 11 (.buildSl de 1 1 [(.int .i64 0)] [(0,1,(ci 0))]),
 Qo 12 (.mov (t 1)),
 Qo 13 (.mov (t 2)),
 Qo 14 (.build [(.string ⟨#[]⟩),(.slice none 0 0),(.slice none 0 0),(.slice none 0 0),(.slice none 0 0),(.int .i64 0),(.int .i64 0)] [(0,1,(.const (Go.Value.string ⟨#[114,105,110,103]⟩))),(2,1,(t 10)),(3,1,(t 11)),(5,1,(t 12)),(6,1,(t 13))]),
 Qo 7 (.box a9 7 (.const (.agg #[(.string ⟨#[]⟩),(.slice none 0 0),(.slice none 0 0),(.slice none 0 0),(.slice none 0 0),(.int .i64 0),(.int .i64 0)]))),
 ⟨⟨none,.store 7 (t 7) (t 14),none⟩,0⟩]
def zb9g : List ap := [Qo 8 (.mov (ci 0))]
def zb9h : List ap := [Qo 15 (.mov (t 8)),
 Qo 16 (.mov (t 0)),
 Qo 17 (.bin .lss (t 15) (t 16))]
def zb9j : List ap := [Qo 20 (.fieldAddr 1 (t 7)),
 Qo 21 (.load1 (t 20)),
 Qo 22 (.mov (t 8)),
 Qo 23 (.call rf [(t 22)]),
 Qo 24 (.build [(.string ⟨#[]⟩),(.slice none 0 0)] [(0,1,(t 23))]),
 Qo 25 (.buildSl j9 2 1 [(.string ⟨#[]⟩),(.slice none 0 0)] [(0,2,(t 24))]),
 Qm 1 26 (.append j9 2 40 (t 21) (t 25)),
 Qm 9 27 (.fieldAddr 1 (t 7)),
 ⟨⟨none,.store 1 (t 27) (t 26),none⟩,0⟩]
def zb9i : List ap := [Qo 18 (.mov (t 8)),
 Qo 19 (.bin .add (t 18) (ci 1)),
 Qo 8 (.mov (t 19))]
def xw : TC := (.seq (.seq (.ops zb9h) (.clean [0,6,7,8,17] (.cond (t 17) .skip (.exit 0)))) (.clean [0,6,7,8] (.seq (.block 1 [0,6,7,8] (.draw (pl zb9j))) (.clean [0,6,7,8] (.ops zb9i)))))
def zb9k : List ap := [Qo 28 (.loadN 7 (t 7)),
 Qo 29 (.call zbt7 [(t 28)]),
 ⟨⟨none,.store 7 (t 6) (t 29),none⟩,9⟩]
def zb0j : TC := (.seq (.ops zb9e) (.clean [0,1,2,6] (.seq (.ops zb9f) (.clean [0,6,7] (.seq (.seq (.ops zb9g) (.block 0 [6,7] (.clean [0,6,7,8] (.loop [0,6,7,8] xw)))) (.clean [6,7] (.seq (.ops zb9k) (.ret [6]))))))))
def zb0c : TFn := ⟨30,zb0j,[.cellN 6 7],true⟩
theorem zbxt : type_of% (ai @zb9e.eq_1 (ai @zb9f.eq_1 (ai @zb9g.eq_1 (ai @zb9h.eq_1 (ai @zb9j.eq_1 (ai @zb9i.eq_1 (ai @zb9k.eq_1 (ai @zb0j.eq_1 @zb0c.eq_1)))))))) := ⟨rfl,rfl,rfl,rfl,rfl,rfl,rfl,rfl,rfl⟩
theorem zbcw : xa Try.prog [(5,⟨[0,1,2,3,4,5,6,7,8],[0,1,0,4,12,28,63,127,255],[],[],.nil⟩)] xk = some (30,zb0j.erase,[.cellN 6 7]) := by kernel_rfl
def zb9n : List ap := [Qo 6 (.mov (.const (Go.Value.slice none 0 0)))]
def zb9o : List ap := [Qo 7 (.mov (.const (Go.Value.slice none 0 0)))]
def zb9p : List ap := [Qo 8 (.mov (ci 0))]
def zb9q : List ap := [Qo 12 (.mov (t 8)),
 Qo 13 (.mov (t 0)),
 Qo 14 (.bin .lss (t 12) (t 13))]
def zb9s : List ap := [Qo 17 (.mov (t 7)),
 Qo 18 (.mov (t 8)),
 Qo 19 (.mov (t 8)),
 Qo 20 (.bin .add (t 19) (ci 1)),
 Qo 21 (.mov (t 0)),
 Qo 22 (.bin .rem (t 20) (t 21)),
 Qo 23 (.build [(.int .i64 0),(.int .i64 0),(.int .i64 0),(.string ⟨#[]⟩),(.int .i64 0)] [(0,1,(t 18)),(1,1,(t 22))]),
 Qo 24 (.buildSl jv 5 1 [(.int .i64 0),(.int .i64 0),(.int .i64 0),(.string ⟨#[]⟩),(.int .i64 0)] [(0,5,(t 23))]),
 Qm 1 25 (.append jv 5 48 (t 17) (t 24)),
 Qo 7 (.mov (t 25))]
def zb9r : List ap := [Qo 15 (.mov (t 8)),
 Qo 16 (.bin .add (t 15) (ci 1)),
 Qo 8 (.mov (t 16))]
def u5 : TC := (.seq (.seq (.ops zb9q) (.clean [0,1,2,7,8,14] (.cond (t 14) .skip (.exit 0)))) (.clean [0,1,2,7,8] (.seq (.block 1 [0,1,2,7,8] (.ops zb9s)) (.clean [0,1,2,7,8] (.ops zb9r)))))
def zb9t : List ap := [Qo 9 (.mov (ci 0))]
def zb9u : List ap := [Qo 26 (.mov (t 9)),
 Qo 27 (.mov (t 0)),
 Qo 28 (.bin .lss (t 26) (t 27))]
def zb9w : List ap := [Qo 10 (.mov (ci 0))]
def zcax : List ap := [Qo 31 (.mov (t 10)),
 Qo 32 (.mov (t 0)),
 Qo 33 (.bin .lss (t 31) (t 32))]
def zcaz : List ap := [Qo 36 (.mov (t 9)),
 Qo 37 (.mov (t 10)),
 Qo 38 (.bin .eql (t 36) (t 37)),
 Qo 39 (.mov (t 38)),
 Qf 39 40 (.mov (t 10)),
 Qf 39 41 (.mov (t 9)),
 Qf 39 42 (.bin .add (t 41) (ci 1)),
 Qf 39 43 (.mov (t 0)),
 Qf 39 44 (.bin .rem (t 42) (t 43)),
 Qf 39 45 (.bin .eql (t 40) (t 44)),
 Qo 46 (.pick (t 39) QT (t 45))]
def zca0 : List ap := [Qo 47 (.mov (t 1)),
 Qo 48 (.bin .rem (t 47) (ci 2)),
 Qo 49 (.bin .eql (t 48) (ci 1)),
 Qo 50 (.mov (t 49)),
 Qt 50 51 (.mov (t 7)),
 Qt 50 52 (.lenL (t 51)),
 Qt 50 53 (.bin .lss (t 52) (ci 8)),
 Qo 54 (.pick (t 50) (t 53) QF)]
def zca1 : List ap := [Qo 55 (.mov (t 7)),
 Qo 56 (.mov (t 9)),
 Qo 57 (.mov (t 10)),
 Qo 58 (.build [(.int .i64 0),(.int .i64 0),(.int .i64 0),(.string ⟨#[]⟩),(.int .i64 0)] [(0,1,(t 56)),(1,1,(t 57))]),
 Qo 59 (.buildSl jv 5 1 [(.int .i64 0),(.int .i64 0),(.int .i64 0),(.string ⟨#[]⟩),(.int .i64 0)] [(0,5,(t 58))]),
 Qm 1 60 (.append jv 5 48 (t 55) (t 59)),
 Qo 7 (.mov (t 60))]
def zca2 : List ap := [Qo 61 (.mov (t 1)),
 Qo 62 (.bin .quo (t 61) (ci 2)),
 Qo 1 (.mov (t 62))]
def zcay : List ap := [Qo 34 (.mov (t 10)),
 Qo 35 (.bin .add (t 34) (ci 1)),
 Qo 10 (.mov (t 35))]
def gt : TC := (.seq (.seq (.ops zcax) (.clean [0,1,2,7,9,10,33] (.cond (t 33) .skip (.exit 4)))) (.clean [0,1,2,7,9,10] (.seq (.block 5 [0,1,2,7,9,10] (.seq (.seq (.ops zcaz) (.clean [0,1,2,7,9,10,46] (.cond (t 46) (.exit 5) .skip))) (.clean [0,1,2,7,9,10] (.seq (.seq (.ops zca0) (.clean [0,1,2,7,9,10,54] (.cond (t 54) (.ops zca1) .skip))) (.clean [0,1,2,7,9,10] (.ops zca2)))))) (.clean [0,1,2,7,9,10] (.ops zcay)))))
def zb9v : List ap := [Qo 29 (.mov (t 9)),
 Qo 30 (.bin .add (t 29) (ci 1)),
 Qo 9 (.mov (t 30))]
def u4 : TC := (.seq (.seq (.ops zb9u) (.clean [0,1,2,7,9,28] (.cond (t 28) .skip (.exit 2)))) (.clean [0,1,2,7,9] (.seq (.block 3 [0,1,2,7,9] (.seq (.ops zb9w) (.block 4 [0,1,2,7,9] (.clean [0,1,2,7,9,10] (.loop [0,1,2,7,9,10] gt))))) (.clean [0,1,2,7,9] (.ops zb9v)))))
def zca3 : List ap := [Qo 11 (.mov (ci 0))]
def zca4 : List ap := [Qo 63 (.mov (t 11)),
 Qo 64 (.mov (t 7)),
 Qo 65 (.lenL (t 64)),
 Qo 66 (.bin .lss (t 63) (t 65))]
def zca6 : List ap := [Qo 69 (.mov (t 7)),
 Qo 70 (.mov (t 11)),
 Qo 71 (.mov (t 11)),
 Qo 72 (.mov (t 2)),
 Qo 73 (.bin .add (t 71) (t 72)),
 Qo 74 (.mov (t 2)),
 Qo 75 (.bin .rem (t 74) (ci 3)),
 Qo 76 (.bin .add (ci 1) (t 75)),
 Qo 77 (.bin .rem (t 73) (t 76)),
 Qo 78 (.indexSl 5 (t 69) (t 70)),
 Qo 79 (.fieldAddr 2 (t 78)),
 ⟨⟨none,.store 1 (t 79) (t 77),none⟩,0⟩]
def zca7 : List ap := [Qo 80 (.mov (t 7)),
 Qo 81 (.mov (t 11)),
 Qo 82 (.build [(.string ⟨#[]⟩),(.string ⟨#[]⟩)] [(0,1,(.const (Go.Value.string ⟨#[103,111,108,100]⟩))),(1,1,(.const (Go.Value.string ⟨#[115,97,108,116]⟩)))]),
 Qo 83 (.mov (t 11)),
 Qo 84 (.mov (t 1)),
 Qo 85 (.bin .add (t 83) (t 84)),
 Qo 86 (.bin .rem (t 85) (ci 2)),
 Qo 87 (.indexAgg 2 (t 82) (t 86)),
 Qo 88 (.indexSl 5 (t 80) (t 81)),
 Qo 89 (.fieldAddr 3 (t 88)),
 ⟨⟨none,.store 1 (t 89) (t 87),none⟩,0⟩]
def zca8 : List ap := [Qo 90 (.mov (t 7)),
 Qo 91 (.mov (t 11)),
 Qo 92 (.mov (t 11)),
 Qo 93 (.bin .mul (ci 7) (t 92)),
 Qo 94 (.mov (t 2)),
 Qo 95 (.bin .add (t 93) (t 94)),
 Qo 96 (.bin .rem (t 95) (ci 20)),
 Qo 97 (.bin .add (ci 1) (t 96)),
 Qo 98 (.indexSl 5 (t 90) (t 91)),
 Qo 99 (.fieldAddr 4 (t 98)),
 ⟨⟨none,.store 1 (t 99) (t 97),none⟩,0⟩]
def zca5 : List ap := [Qo 67 (.mov (t 11)),
 Qo 68 (.bin .add (t 67) (ci 1)),
 Qo 11 (.mov (t 68))]
def xv : TC := (.seq (.seq (.ops zca4) (.clean [1,2,7,11,66] (.cond (t 66) .skip (.exit 6)))) (.clean [1,2,7,11] (.seq (.block 7 [1,2,7,11] (.seq (.ops zca6) (.clean [1,2,7,11] (.seq (.ops zca7) (.clean [1,2,7,11] (.ops zca8)))))) (.clean [1,2,7,11] (.ops zca5)))))
def zcby : List ap := [Qo 100 (.mov (t 7)),
 Qo 6 (.mov (t 100))]
def zb0l : TC := (.seq (.ops zb9n) (.clean [0,1,2] (.seq (.ops zb9o) (.clean [0,1,2,7] (.seq (.seq (.ops zb9p) (.block 0 [0,1,2,7] (.clean [0,1,2,7,8] (.loop [0,1,2,7,8] u5)))) (.clean [0,1,2,7] (.seq (.seq (.ops zb9t) (.block 2 [1,2,7] (.clean [0,1,2,7,9] (.loop [0,1,2,7,9] u4)))) (.clean [1,2,7] (.seq (.seq (.ops zca3) (.block 6 [7] (.clean [1,2,7,11] (.loop [1,2,7,11] xv)))) (.clean [7] (.seq (.ops zcby) (.ret [6]))))))))))))
def zb0e : TFn := ⟨101,zb0l,[.tmp 6],true⟩
theorem dp : type_of% (ai @zb9n.eq_1 (ai @zb9o.eq_1 (ai @zb9p.eq_1 (ai @zb9q.eq_1 (ai @zb9s.eq_1 (ai @zb9r.eq_1 (ai @zb9t.eq_1 (ai @zb9u.eq_1 (ai @zb9w.eq_1 (ai @zcax.eq_1 (ai @zcaz.eq_1 (ai @zca0.eq_1 (ai @zca1.eq_1 (ai @zca2.eq_1 (ai @zcay.eq_1 (ai @zb9v.eq_1 (ai @zca3.eq_1 (ai @zca4.eq_1 (ai @zca6.eq_1 (ai @zca7.eq_1 (ai @zca8.eq_1 (ai @zca5.eq_1 (ai @zcby.eq_1 (ai @zb0l.eq_1 @zb0e.eq_1)))))))))))))))))))))))) := ⟨rfl,rfl,rfl,rfl,rfl,rfl,rfl,rfl,rfl,rfl,rfl,rfl,rfl,rfl,rfl,rfl,rfl,rfl,rfl,rfl,rfl,rfl,rfl,rfl,rfl⟩
theorem zbcu : xa Try.prog [] zl = some (101,zb0l.erase,[.tmp 6]) := by kernel_rfl
def zcen : List ap := [Qo 2 (.mov (.const (Go.Value.string ⟨#[]⟩)))]
def zceo : List ap := [Qo 3 (.mov (t 0)),
 Qo 4 (.call lf [(t 3)]),
 Qo 5 (.bin .add (.const (Go.Value.string ⟨#[112,97,114,116,121]⟩)) (t 4)),
 Qo 2 (.mov (t 5))]
def zb1w : TC := (.seq (.ops zcen) (.clean [0] (.seq (.ops zceo) (.ret [2]))))
def zb1p : TFn := ⟨6,zb1w,[.tmp 2],false⟩
theorem zcpj : type_of% (ai @zcen.eq_1 (ai @zceo.eq_1 (ai @zb1w.eq_1 @zb1p.eq_1))) := ⟨rfl,rfl,rfl,rfl⟩
theorem zcpm : xa Try.prog [] rf = some (6,zb1w.erase,[.tmp 2]) := by kernel_rfl
def zccd : List ap := [Qo 2 (.mov (.const (Go.Value.string ⟨#[]⟩)))]
def zcce : List ap := [Qo 5 (.mov (t 0)),
 Qo 6 (.bin .leq (t 5) (ci (-10))),
 Qo 4 (.mov (t 6))]
def zccf : List ap := [Qo 7 (.mov (t 0)),
 Qo 8 (.bin .rem (t 7) (ci 10)),
 Qo 9 (.un .neg (t 8)),
 Qo 3 (.mov (t 9))]
def zccg : List ap := [Qo 10 (.mov (t 0)),
 Qo 11 (.bin .quo (t 10) (ci 10)),
 Qo 13 (.mov (t 3)),
 Qo 14 (.mov (t 3)),
 Qo 15 (.bin .add (t 14) (ci 1)),
 Qo 16 (.sliceStr (.const (Go.Value.string ⟨#[48,49,50,51,52,53,54,55,56,57]⟩)) (some (t 13)) (some (t 15))),
 Qo 12 (.call lf [(t 11)]),
 Qo 17 (.bin .add (t 12) (t 16)),
 Qo 2 (.mov (t 17))]
def zcch : List ap := [Qo 19 (.mov (t 0)),
 Qo 20 (.bin .lss (t 19) (ci 0)),
 Qo 18 (.mov (t 20))]
def zcci : List ap := [Qo 21 (.mov (t 0)),
 Qo 22 (.un .neg (t 21)),
 Qo 23 (.mov (t 0)),
 Qo 24 (.un .neg (t 23)),
 Qo 25 (.bin .add (t 24) (ci 1)),
 Qo 26 (.sliceStr (.const (Go.Value.string ⟨#[48,49,50,51,52,53,54,55,56,57]⟩)) (some (t 22)) (some (t 25))),
 Qo 27 (.bin .add (.const (Go.Value.string ⟨#[45]⟩)) (t 26)),
 Qo 2 (.mov (t 27))]
def zccj : List ap := [Qo 29 (.mov (t 0)),
 Qo 30 (.bin .lss (t 29) (ci 10)),
 Qo 28 (.mov (t 30))]
def zcck : List ap := [Qo 31 (.mov (t 0)),
 Qo 32 (.mov (t 0)),
 Qo 33 (.bin .add (t 32) (ci 1)),
 Qo 34 (.sliceStr (.const (Go.Value.string ⟨#[48,49,50,51,52,53,54,55,56,57]⟩)) (some (t 31)) (some (t 33))),
 Qo 2 (.mov (t 34))]
def zccl : List ap := [Qo 35 (.mov (t 0)),
 Qo 36 (.bin .quo (t 35) (ci 10)),
 Qo 38 (.mov (t 0)),
 Qo 39 (.bin .rem (t 38) (ci 10)),
 Qo 40 (.mov (t 0)),
 Qo 41 (.bin .rem (t 40) (ci 10)),
 Qo 42 (.bin .add (t 41) (ci 1)),
 Qo 43 (.sliceStr (.const (Go.Value.string ⟨#[48,49,50,51,52,53,54,55,56,57]⟩)) (some (t 39)) (some (t 42))),
 Qo 37 (.call lf [(t 36)]),
 Qo 44 (.bin .add (t 37) (t 43)),
 Qo 2 (.mov (t 44))]
def zb1f : TC := (.seq (.ops zccd) (.clean [0] (.seq (.block 0 [0] (.seq (.ops zcce) (.clean [0,4] (.cond (t 4) (.seq (.ops zccf) (.clean [0,3] (.seq (.draw (pl zccg)) (.ret [2])))) (.seq (.ops zcch) (.clean [0,18] (.cond (t 18) (.seq (.ops zcci) (.ret [2])) (.seq (.ops zccj) (.clean [0,28] (.cond (t 28) (.seq (.ops zcck) (.ret [2])) .skip)))))))))) (.clean [0] (.seq (.draw (pl zccl)) (.ret [2]))))))
def zb07 : TFn := ⟨45,zb1f,[.tmp 2],false⟩
theorem zct0 : type_of% (ai @zccd.eq_1 (ai @zcce.eq_1 (ai @zccf.eq_1 (ai @zccg.eq_1 (ai @zcch.eq_1 (ai @zcci.eq_1 (ai @zccj.eq_1 (ai @zcck.eq_1 (ai @zccl.eq_1 (ai @zb1f.eq_1 @zb07.eq_1)))))))))) := ⟨rfl,rfl,rfl,rfl,rfl,rfl,rfl,rfl,rfl,rfl,rfl⟩
theorem zct4 : xa Try.prog [(3,⟨[0,1,3,4,5,6,2,7,8],[0,1,3,0,0,16,56,127,255],[],[],.nil⟩),(8,⟨[0,1,3,4,5,6,7,8,2,9,10],[0,1,3,0,8,0,32,96,248,511,1023],[],[],.nil⟩)] lf = some (45,zb1f.erase,[.tmp 2]) := by kernel_rfl
def zcbz : List ap := [Qo 1 (.box a9 7 (t 0)),
 Qo 2 (.box a9 7 (.const (.agg #[(.string ⟨#[]⟩),(.slice none 0 0),(.slice none 0 0),(.slice none 0 0),(.slice none 0 0),(.int .i64 0),(.int .i64 0)])))]
def zcb0 : List ap := [Qo 6 (.fieldAddr 4 (t 1)),
 ⟨⟨none,.store 1 (t 6) (.const (Go.Value.slice none 0 0)),none⟩,0⟩]
def zcb1 : List ap := [Qo 3 (.mov (ci 0))]
def zcb2 : List ap := [Qo 7 (.mov (t 3)),
 Qo 8 (.fieldAddr 3 (t 1)),
 Qo 9 (.load1 (t 8)),
 Qo 10 (.lenL (t 9)),
 Qo 11 (.bin .lss (t 7) (t 10))]
def zcb4 : List ap := [Qo 14 (.fieldAddr 4 (t 1)),
 Qm 2 15 (.load1 (t 14)),
 Qo 16 (.mov (t 3)),
 Qo 17 (.call vd [(t 16)]),
 Qo 18 (.call zbp8 [(t 17)]),
 Qo 19 (.buildSl eu 1 1 [(.string ⟨#[]⟩)] [(0,1,(t 18))]),
 Qo 20 (.append eu 1 16 (t 15) (t 19)),
 Qo 21 (.fieldAddr 4 (t 1)),
 ⟨⟨none,.store 1 (t 21) (t 20),none⟩,2⟩]
def zcb3 : List ap := [Qo 12 (.mov (t 3)),
 Qo 13 (.bin .add (t 12) (ci 1)),
 Qo 3 (.mov (t 13))]
def vo : TC := (.seq (.seq (.ops zcb2) (.clean [1,2,3,11] (.cond (t 11) .skip (.exit 0)))) (.clean [1,2,3] (.seq (.block 1 [1,2,3] (.draw (pl zcb4))) (.clean [1,2,3] (.ops zcb3)))))
def zcb5 : List ap := [Qo 4 (.mov (ci 0))]
def zcb6 : List ap := [Qo 22 (.mov (t 4)),
 Qo 23 (.fieldAddr 1 (t 1)),
 Qo 24 (.load1 (t 23)),
 Qo 25 (.lenL (t 24)),
 Qo 26 (.bin .lss (t 22) (t 25))]
def zcba : List ap := [Qo 29 (.fieldAddr 1 (t 1)),
 Qo 30 (.load1 (t 29)),
 Qo 31 (.mov (t 4)),
 Qo 32 (.indexSl 2 (t 30) (t 31)),
 Qo 33 (.fieldAddr 1 (t 32)),
 ⟨⟨none,.store 1 (t 33) (.const (Go.Value.slice none 0 0)),none⟩,0⟩]
def zcco : List ap := [Qo 5 (.mov (ci 0))]
def zccp : List ap := [Qo 34 (.mov (t 5)),
 Qo 35 (.fieldAddr 3 (t 1)),
 Qo 36 (.load1 (t 35)),
 Qo 37 (.lenL (t 36)),
 Qo 38 (.bin .lss (t 34) (t 37))]
def zccr : List (ap × List Nat) := [(Qo 41 (.fieldAddr 1 (t 1)),[]),
 (Qo 42 (.load1 (t 41)),[]),
 (Qo 43 (.mov (t 4)),[]),
 (Qo 44 (.fieldAddr 1 (t 1)),[]),
 (Qo 45 (.load1 (t 44)),[]),
 (Qo 46 (.mov (t 4)),[]),
 (Qo 47 (.indexSl 2 (t 45) (t 46)),[]),
 (Qo 48 (.fieldAddr 1 (t 47)),[]),
 (Qm 2 49 (.load1 (t 48)),[]),
 (Qo 50 (.mov (t 4)),[]),
 (Qo 52 (.mov (t 5)),[]),
 (Qo 51 (.call zm [(t 50)]),[]),
 (Qo 53 (.call vc [(t 51),(t 52)]),[]),
 (Qo 54 (.buildSl eu 1 1 [(.string ⟨#[]⟩)] [(0,1,(t 53))]),[]),
 (Qo 55 (.append eu 1 16 (t 49) (t 54)),[1]),
 (Qo 56 (.indexSl 2 (t 42) (t 43)),[]),
 (Qo 57 (.fieldAddr 1 (t 56)),[]),
 (⟨⟨none,.store 1 (t 57) (t 55),none⟩,2⟩,[])]
def zccq : List ap := [Qo 39 (.mov (t 5)),
 Qo 40 (.bin .add (t 39) (ci 1)),
 Qo 5 (.mov (t 40))]
def vn : TC := (.seq (.seq (.ops zccp) (.clean [1,2,4,5,38] (.cond (t 38) .skip (.exit 4)))) (.clean [1,2,4,5] (.seq (.block 5 [1,2,4,5] (.draw zccr)) (.clean [1,2,4,5] (.ops zccq)))))
def zcb7 : List ap := [Qo 27 (.mov (t 4)),
 Qo 28 (.bin .add (t 27) (ci 1)),
 Qo 4 (.mov (t 28))]
def yz : TC := (.seq (.seq (.ops zcb6) (.clean [1,2,4,26] (.cond (t 26) .skip (.exit 2)))) (.clean [1,2,4] (.seq (.block 3 [1,2,4] (.seq (.ops zcba) (.clean [1,2,4] (.seq (.ops zcco) (.block 4 [1,2,4] (.clean [1,2,4,5] (.loop [1,2,4,5] vn))))))) (.clean [1,2,4] (.ops zcb7)))))
def zccs : List ap := [Qo 58 (.loadN 7 (t 1)),
 ⟨⟨none,.store 7 (t 2) (t 58),none⟩,0⟩]
def zb00 : TC := (.seq (.ops zcbz) (.clean [1,2] (.seq (.ops zcb0) (.clean [1,2] (.seq (.seq (.ops zcb1) (.block 0 [1,2] (.clean [1,2,3] (.loop [1,2,3] vo)))) (.clean [1,2] (.seq (.seq (.ops zcb5) (.block 2 [1,2] (.clean [1,2,4] (.loop [1,2,4] yz)))) (.clean [1,2] (.seq (.ops zccs) (.ret [2]))))))))))
def zb0r : TFn := ⟨59,zb00,[.cellN 2 7],false⟩
theorem n8 : type_of% (ai @zcbz.eq_1 (ai @zcb0.eq_1 (ai @zcb1.eq_1 (ai @zcb2.eq_1 (ai @zcb4.eq_1 (ai @zcb3.eq_1 (ai @zcb5.eq_1 (ai @zcb6.eq_1 (ai @zcba.eq_1 (ai @zcco.eq_1 (ai @zccp.eq_1 (ai @zccr.eq_1 (ai @zccq.eq_1 (ai @zcb7.eq_1 (ai @zccs.eq_1 (ai @zb00.eq_1 @zb0r.eq_1)))))))))))))))) := ⟨rfl,rfl,rfl,rfl,rfl,rfl,rfl,rfl,rfl,rfl,rfl,rfl,rfl,rfl,rfl,rfl,rfl⟩
theorem zcs9 : xa Try.prog [(5,⟨[0,1,2,3,4,5,6,7,8],[0,1,0,4,12,28,63,127,255],[],[],.nil⟩),(13,⟨[0,1,2,3,4,5,6,7,8,9,11,10,12,13,14,15,16,17],[0,1,0,0,8,0,56,120,248,0,512,0,3584,7680,16376,32767,65535,131071],[],[(14,[1])],.nil⟩)] zbt7 = some (59,zb00.erase,[.cellN 2 7]) := by kernel_rfl
def zb78 : List ap := [Qo 2 (.mov (.const (Go.Value.string ⟨#[]⟩)))]
def zb79 : List ap := [Qo 11 (.mov (t 0)),
 Qm 2 12 (.toBytes m5 (t 11)),
 Qo 13 (.buildSl m5 1 1 [(.int .u8 0)] [(0,1,(.const (Go.Value.int Go.IntKind.u8 128)))]),
 Qo 14 (.append m5 1 1 (t 12) (t 13)),
 Qo 3 (.mov (t 14))]
def zb8a : List ap := [Qo 15 (.mov (t 3)),
 Qo 16 (.lenL (t 15)),
 Qo 17 (.bin .rem (t 16) (ci 64)),
 Qo 18 (.bin .neq (t 17) (ci 56))]
def zb8b : List ap := [Qo 19 (.mov (t 3)),
 Qo 20 (.buildSl m5 1 1 [(.int .u8 0)] [(0,1,(.const (Go.Value.int Go.IntKind.u8 0)))]),
 Qo 21 (.append m5 1 1 (t 19) (t 20)),
 Qo 3 (.mov (t 21))]
def zbx1 : TC := (.seq (.seq (.ops zb8a) (.clean [0,3,18] (.cond (t 18) .skip (.exit 0)))) (.block 1 [0,3] (.ops zb8b)))
def zb8c : List ap := [Qo 22 (.mov (t 0)),
 Qo 23 (.lenS (t 22)),
 Qo 24 (.conv .u64 (t 23)),
 Qo 25 (.bin .mul (t 24) (.const (Go.Value.int Go.IntKind.u64 8))),
 Qo 4 (.mov (t 25))]
def zb8d : List ap := [Qo 5 (.mov (ci 0))]
def zb8e : List ap := [Qo 26 (.mov (t 5)),
 Qo 27 (.bin .lss (t 26) (ci 8))]
def zb8g : List ap := [Qo 30 (.mov (t 3)),
 Qo 31 (.mov (t 4)),
 Qo 32 (.mov (t 5)),
 Qo 33 (.bin .mul (ci 8) (t 32)),
 Qo 34 (.bin .sub (ci 56) (t 33)),
 Qo 35 (.conv .u64 (t 34)),
 Qo 36 (.bin .shr (t 31) (t 35)),
 Qo 37 (.conv .u8 (t 36)),
 Qo 38 (.buildSl m5 1 1 [(.int .u8 0)] [(0,1,(t 37))]),
 Qo 39 (.append m5 1 1 (t 30) (t 38)),
 Qo 3 (.mov (t 39))]
def zb8f : List ap := [Qo 28 (.mov (t 5)),
 Qo 29 (.bin .add (t 28) (ci 1)),
 Qo 5 (.mov (t 29))]
def zbx2 : TC := (.seq (.seq (.ops zb8e) (.clean [3,4,5,27] (.cond (t 27) .skip (.exit 2)))) (.clean [3,4,5] (.seq (.block 3 [3,4,5] (.ops zb8g)) (.clean [3,4,5] (.ops zb8f)))))
def zb8h : List ap := [Qo 40 (.mov (t 3)),
 Qo 41 (.toStr (t 40)),
 Qo 6 (.mov (t 41))]
def zb9x : List ap := [Qo 42 (.build [(.int .u32 0),(.int .u32 0),(.int .u32 0),(.int .u32 0),(.int .u32 0),(.int .u32 0),(.int .u32 0),(.int .u32 0)] [(0,1,(.const (Go.Value.int Go.IntKind.u32 1779033703))),(1,1,(.const (Go.Value.int Go.IntKind.u32 3144134277))),(2,1,(.const (Go.Value.int Go.IntKind.u32 1013904242))),(3,1,(.const (Go.Value.int Go.IntKind.u32 2773480762))),(4,1,(.const (Go.Value.int Go.IntKind.u32 1359893119))),(5,1,(.const (Go.Value.int Go.IntKind.u32 2600822924))),(6,1,(.const (Go.Value.int Go.IntKind.u32 528734635))),(7,1,(.const (Go.Value.int Go.IntKind.u32 1541459225)))]),
 Qo 7 (.box dx 8 (.const (.agg #[(.int .u32 0),(.int .u32 0),(.int .u32 0),(.int .u32 0),(.int .u32 0),(.int .u32 0),(.int .u32 0),(.int .u32 0)]))),
 ⟨⟨none,.store 8 (t 7) (t 42),none⟩,0⟩]
def zb98 : List ap := [Qo 8 (.mov (ci 0))]
def zb99 : List ap := [Qo 43 (.mov (t 8)),
 Qo 44 (.mov (t 6)),
 Qo 45 (.lenS (t 44)),
 Qo 46 (.bin .lss (t 43) (t 45))]
def zcab : List ap := [Qo 49 (.loadN 8 (t 7)),
 Qo 50 (.mov (t 6)),
 Qo 51 (.mov (t 8)),
 Qo 52 (.mov (t 8)),
 Qo 53 (.bin .add (t 52) (ci 64)),
 Qo 54 (.sliceStr (t 50) (some (t 51)) (some (t 53))),
 Qo 55 (.call xi [(t 49),(t 54)]),
 ⟨⟨none,.store 8 (t 7) (t 55),none⟩,0⟩]
def zcaa : List ap := [Qo 47 (.mov (t 8)),
 Qo 48 (.bin .add (t 47) (ci 64)),
 Qo 8 (.mov (t 48))]
def zbx3 : TC := (.seq (.seq (.ops zb99) (.clean [6,7,8,46] (.cond (t 46) .skip (.exit 4)))) (.clean [6,7,8] (.seq (.block 5 [6,7,8] (.draw (pl zcab))) (.clean [6,7,8] (.ops zcaa)))))
def zcac : List ap := [Qm 1 9 (.mov (.const (Go.Value.slice none 0 0)))]
def zcad : List ap := [Qo 10 (.mov (ci 0))]
def zcae : List ap := [Qo 56 (.mov (t 10)),
 Qo 57 (.bin .lss (t 56) (ci 8))]
def zcag : List ap := [Qo 60 (.mov (t 9)),
 Qo 61 (.mov (t 10)),
 Qo 62 (.indexPtr 8 1 (t 7) (t 61)),
 Qo 63 (.load1 (t 62)),
 Qo 64 (.bin .shr (t 63) (.const (Go.Value.int Go.IntKind.u64 24))),
 Qo 65 (.conv .u8 (t 64)),
 Qo 66 (.mov (t 10)),
 Qo 67 (.indexPtr 8 1 (t 7) (t 66)),
 Qo 68 (.load1 (t 67)),
 Qo 69 (.bin .shr (t 68) (.const (Go.Value.int Go.IntKind.u64 16))),
 Qo 70 (.conv .u8 (t 69)),
 Qo 71 (.mov (t 10)),
 Qo 72 (.indexPtr 8 1 (t 7) (t 71)),
 Qo 73 (.load1 (t 72)),
 Qo 74 (.bin .shr (t 73) (.const (Go.Value.int Go.IntKind.u64 8))),
 Qo 75 (.conv .u8 (t 74)),
 Qo 76 (.mov (t 10)),
 Qo 77 (.indexPtr 8 1 (t 7) (t 76)),
 Qo 78 (.load1 (t 77)),
 Qo 79 (.conv .u8 (t 78)),
 Qo 80 (.buildSl m5 1 4 [(.int .u8 0),(.int .u8 0),(.int .u8 0),(.int .u8 0)] [(0,1,(t 65)),(1,1,(t 70)),(2,1,(t 75)),(3,1,(t 79))]),
 Qo 81 (.append m5 1 1 (t 60) (t 80)),
 Qo 9 (.mov (t 81))]
def zcaf : List ap := [Qo 58 (.mov (t 10)),
 Qo 59 (.bin .add (t 58) (ci 1)),
 Qo 10 (.mov (t 59))]
def zbx4 : TC := (.seq (.seq (.ops zcae) (.clean [7,9,10,57] (.cond (t 57) .skip (.exit 6)))) (.clean [7,9,10] (.seq (.block 7 [7,9,10] (.draw (pl zcag))) (.clean [7,9,10] (.ops zcaf)))))
def zcah : List ap := [Qo 82 (.mov (t 9)),
 Qo 83 (.toStr (t 82)),
 Qo 2 (.mov (t 83))]
def zbz0 : TC := (.seq (.ops zb78) (.clean [0] (.seq (.ops zb79) (.clean [0,3] (.seq (.block 0 [0,3] (.clean [0,3] (.loop [0,3] zbx1))) (.clean [0,3] (.seq (.ops zb8c) (.clean [3,4] (.seq (.seq (.ops zb8d) (.block 2 [3] (.clean [3,4,5] (.loop [3,4,5] zbx2)))) (.clean [3] (.seq (.ops zb8h) (.clean [6] (.seq (.ops zb9x) (.clean [6,7] (.seq (.seq (.ops zb98) (.block 4 [7] (.clean [6,7,8] (.loop [6,7,8] zbx3)))) (.clean [7] (.seq (.ops zcac) (.clean [7,9] (.seq (.seq (.ops zcad) (.block 6 [9] (.clean [7,9,10] (.loop [7,9,10] zbx4)))) (.clean [9] (.seq (.ops zcah) (.ret [2]))))))))))))))))))))))
def zbzt : TFn := ⟨84,zbz0,[.tmp 2],false⟩
theorem i8 : type_of% (ai @zb78.eq_1 (ai @zb79.eq_1 (ai @zb8a.eq_1 (ai @zb8b.eq_1 (ai @zb8c.eq_1 (ai @zb8d.eq_1 (ai @zb8e.eq_1 (ai @zb8g.eq_1 (ai @zb8f.eq_1 (ai @zb8h.eq_1 (ai @zb9x.eq_1 (ai @zb98.eq_1 (ai @zb99.eq_1 (ai @zcab.eq_1 (ai @zcaa.eq_1 (ai @zcac.eq_1 (ai @zcad.eq_1 (ai @zcae.eq_1 (ai @zcag.eq_1 (ai @zcaf.eq_1 (ai @zcah.eq_1 (ai @zbz0.eq_1 @zbzt.eq_1)))))))))))))))))))))) := ⟨rfl,rfl,rfl,rfl,rfl,rfl,rfl,rfl,rfl,rfl,rfl,rfl,rfl,rfl,rfl,rfl,rfl,rfl,rfl,rfl,rfl,rfl,rfl⟩
theorem zbi1 : xa Try.prog [(14,⟨[0,1,2,3,4,5,6,7],[0,0,0,0,8,30,63,127],[],[],.nil⟩),(19,⟨[0,1,2,3,4,5,6,7,8,9,10,11,12,13,14,15,16,17,18,19,20,21,22],[0,0,2,6,14,30,0,64,192,448,960,0,2048,6144,14336,30720,0,65536,196608,458752,1048574,2097151,4194303],[],[],.nil⟩)] zbp8 = some (84,zbz0.erase,[.tmp 2]) := by kernel_rfl
def zcbg : List ap := [Qo 2 (.box dx 8 (t 0)),
 Qo 4 (.box dx 8 (.const (.agg #[(.int .u32 0),(.int .u32 0),(.int .u32 0),(.int .u32 0),(.int .u32 0),(.int .u32 0),(.int .u32 0),(.int .u32 0)])))]
def zcbh : List ap := [Qo 5 (.box ja 64 (.const (.agg #[(.int .u32 0),(.int .u32 0),(.int .u32 0),(.int .u32 0),(.int .u32 0),(.int .u32 0),(.int .u32 0),(.int .u32 0),(.int .u32 0),(.int .u32 0),(.int .u32 0),(.int .u32 0),(.int .u32 0),(.int .u32 0),(.int .u32 0),(.int .u32 0),(.int .u32 0),(.int .u32 0),(.int .u32 0),(.int .u32 0),(.int .u32 0),(.int .u32 0),(.int .u32 0),(.int .u32 0),(.int .u32 0),(.int .u32 0),(.int .u32 0),(.int .u32 0),(.int .u32 0),(.int .u32 0),(.int .u32 0),(.int .u32 0),(.int .u32 0),(.int .u32 0),(.int .u32 0),(.int .u32 0),(.int .u32 0),(.int .u32 0),(.int .u32 0),(.int .u32 0),(.int .u32 0),(.int .u32 0),(.int .u32 0),(.int .u32 0),(.int .u32 0),(.int .u32 0),(.int .u32 0),(.int .u32 0),(.int .u32 0),(.int .u32 0),(.int .u32 0),(.int .u32 0),(.int .u32 0),(.int .u32 0),(.int .u32 0),(.int .u32 0),(.int .u32 0),(.int .u32 0),(.int .u32 0),(.int .u32 0),(.int .u32 0),(.int .u32 0),(.int .u32 0),(.int .u32 0)])))]
def zcbi : List ap := [Qo 18 (.call xh []),
 Qo 6 (.box ja 64 (.const (.agg #[(.int .u32 0),(.int .u32 0),(.int .u32 0),(.int .u32 0),(.int .u32 0),(.int .u32 0),(.int .u32 0),(.int .u32 0),(.int .u32 0),(.int .u32 0),(.int .u32 0),(.int .u32 0),(.int .u32 0),(.int .u32 0),(.int .u32 0),(.int .u32 0),(.int .u32 0),(.int .u32 0),(.int .u32 0),(.int .u32 0),(.int .u32 0),(.int .u32 0),(.int .u32 0),(.int .u32 0),(.int .u32 0),(.int .u32 0),(.int .u32 0),(.int .u32 0),(.int .u32 0),(.int .u32 0),(.int .u32 0),(.int .u32 0),(.int .u32 0),(.int .u32 0),(.int .u32 0),(.int .u32 0),(.int .u32 0),(.int .u32 0),(.int .u32 0),(.int .u32 0),(.int .u32 0),(.int .u32 0),(.int .u32 0),(.int .u32 0),(.int .u32 0),(.int .u32 0),(.int .u32 0),(.int .u32 0),(.int .u32 0),(.int .u32 0),(.int .u32 0),(.int .u32 0),(.int .u32 0),(.int .u32 0),(.int .u32 0),(.int .u32 0),(.int .u32 0),(.int .u32 0),(.int .u32 0),(.int .u32 0),(.int .u32 0),(.int .u32 0),(.int .u32 0),(.int .u32 0)]))),
 ⟨⟨none,.store 64 (t 6) (t 18),none⟩,0⟩]
def zcbj : List ap := [Qo 7 (.mov (ci 0))]
def zcbk : List ap := [Qo 19 (.mov (t 7)),
 Qo 20 (.bin .lss (t 19) (ci 16))]
def zcbm : List ap := [Qo 23 (.mov (t 7)),
 Qo 24 (.mov (t 1)),
 Qo 25 (.mov (t 7)),
 Qo 26 (.bin .mul (ci 4) (t 25)),
 Qo 27 (.indexStr (t 24) (t 26)),
 Qo 28 (.conv .u32 (t 27)),
 Qo 29 (.bin .shl (t 28) (.const (Go.Value.int Go.IntKind.u64 24))),
 Qo 30 (.mov (t 1)),
 Qo 31 (.mov (t 7)),
 Qo 32 (.bin .mul (ci 4) (t 31)),
 Qo 33 (.bin .add (t 32) (ci 1)),
 Qo 34 (.indexStr (t 30) (t 33)),
 Qo 35 (.conv .u32 (t 34)),
 Qo 36 (.bin .shl (t 35) (.const (Go.Value.int Go.IntKind.u64 16))),
 Qo 37 (.bin .or (t 29) (t 36)),
 Qo 38 (.mov (t 1)),
 Qo 39 (.mov (t 7)),
 Qo 40 (.bin .mul (ci 4) (t 39)),
 Qo 41 (.bin .add (t 40) (ci 2)),
 Qo 42 (.indexStr (t 38) (t 41)),
 Qo 43 (.conv .u32 (t 42)),
 Qo 44 (.bin .shl (t 43) (.const (Go.Value.int Go.IntKind.u64 8))),
 Qo 45 (.bin .or (t 37) (t 44)),
 Qo 46 (.mov (t 1)),
 Qo 47 (.mov (t 7)),
 Qo 48 (.bin .mul (ci 4) (t 47)),
 Qo 49 (.bin .add (t 48) (ci 3)),
 Qo 50 (.indexStr (t 46) (t 49)),
 Qo 51 (.conv .u32 (t 50)),
 Qo 52 (.bin .or (t 45) (t 51)),
 Qo 53 (.indexPtr 64 1 (t 5) (t 23)),
 ⟨⟨none,.store 1 (t 53) (t 52),none⟩,0⟩]
def zcbl : List ap := [Qo 21 (.mov (t 7)),
 Qo 22 (.bin .add (t 21) (ci 1)),
 Qo 7 (.mov (t 22))]
def yx : TC := (.seq (.seq (.ops zcbk) (.clean [1,2,4,5,6,7,20] (.cond (t 20) .skip (.exit 0)))) (.clean [1,2,4,5,6,7] (.seq (.block 1 [1,2,4,5,6,7] (.draw (pl zcbm))) (.clean [1,2,4,5,6,7] (.ops zcbl)))))
def zcbn : List ap := [Qo 8 (.mov (ci 16))]
def zcbo : List ap := [Qo 54 (.mov (t 8)),
 Qo 55 (.bin .lss (t 54) (ci 64))]
def zcct : List ap := [Qo 58 (.mov (t 8)),
 Qo 59 (.bin .sub (t 58) (ci 15)),
 Qo 60 (.indexPtr 64 1 (t 5) (t 59)),
 Qo 61 (.load1 (t 60)),
 Qo 63 (.mov (t 8)),
 Qo 64 (.bin .sub (t 63) (ci 15)),
 Qo 65 (.indexPtr 64 1 (t 5) (t 64)),
 Qo 66 (.load1 (t 65)),
 Qo 69 (.mov (t 8)),
 Qo 70 (.bin .sub (t 69) (ci 15)),
 Qo 71 (.indexPtr 64 1 (t 5) (t 70)),
 Qo 72 (.load1 (t 71)),
 Qo 73 (.bin .shr (t 72) (.const (Go.Value.int Go.IntKind.u64 3))),
 Qo 62 (.call jd [(t 61),(.const (Go.Value.int Go.IntKind.u64 7))]),
 Qo 67 (.call jd [(t 66),(.const (Go.Value.int Go.IntKind.u64 18))]),
 Qo 68 (.bin .xor (t 62) (t 67)),
 Qo 74 (.bin .xor (t 68) (t 73)),
 Qo 9 (.mov (t 74))]
def zccu : List ap := [Qo 75 (.mov (t 8)),
 Qo 76 (.bin .sub (t 75) (ci 2)),
 Qo 77 (.indexPtr 64 1 (t 5) (t 76)),
 Qo 78 (.load1 (t 77)),
 Qo 80 (.mov (t 8)),
 Qo 81 (.bin .sub (t 80) (ci 2)),
 Qo 82 (.indexPtr 64 1 (t 5) (t 81)),
 Qo 83 (.load1 (t 82)),
 Qo 86 (.mov (t 8)),
 Qo 87 (.bin .sub (t 86) (ci 2)),
 Qo 88 (.indexPtr 64 1 (t 5) (t 87)),
 Qo 89 (.load1 (t 88)),
 Qo 90 (.bin .shr (t 89) (.const (Go.Value.int Go.IntKind.u64 10))),
 Qo 79 (.call jd [(t 78),(.const (Go.Value.int Go.IntKind.u64 17))]),
 Qo 84 (.call jd [(t 83),(.const (Go.Value.int Go.IntKind.u64 19))]),
 Qo 85 (.bin .xor (t 79) (t 84)),
 Qo 91 (.bin .xor (t 85) (t 90)),
 Qo 10 (.mov (t 91))]
def zccv : List ap := [Qo 92 (.mov (t 8)),
 Qo 93 (.mov (t 8)),
 Qo 94 (.bin .sub (t 93) (ci 16)),
 Qo 95 (.indexPtr 64 1 (t 5) (t 94)),
 Qo 96 (.load1 (t 95)),
 Qo 97 (.mov (t 9)),
 Qo 98 (.bin .add (t 96) (t 97)),
 Qo 99 (.mov (t 8)),
 Qo 100 (.bin .sub (t 99) (ci 7)),
 Qo 101 (.indexPtr 64 1 (t 5) (t 100)),
 Qo 102 (.load1 (t 101)),
 Qo 103 (.bin .add (t 98) (t 102)),
 Qo 104 (.mov (t 10)),
 Qo 105 (.bin .add (t 103) (t 104)),
 Qo 106 (.indexPtr 64 1 (t 5) (t 92)),
 ⟨⟨none,.store 1 (t 106) (t 105),none⟩,0⟩]
def zcbp : List ap := [Qo 56 (.mov (t 8)),
 Qo 57 (.bin .add (t 56) (ci 1)),
 Qo 8 (.mov (t 57))]
def yw : TC := (.seq (.seq (.ops zcbo) (.clean [2,4,5,6,8,55] (.cond (t 55) .skip (.exit 2)))) (.clean [2,4,5,6,8] (.seq (.block 3 [2,4,5,6,8] (.seq (.draw (pl zcct)) (.clean [2,4,5,6,8,9] (.seq (.draw (pl zccu)) (.clean [2,4,5,6,8,9,10] (.draw (pl zccv))))))) (.clean [2,4,5,6,8] (.ops zcbp)))))
def zccw : List ap := [Qo 107 (.loadN 8 (t 2)),
 Qo 11 (.box dx 8 (.const (.agg #[(.int .u32 0),(.int .u32 0),(.int .u32 0),(.int .u32 0),(.int .u32 0),(.int .u32 0),(.int .u32 0),(.int .u32 0)]))),
 ⟨⟨none,.store 8 (t 11) (t 107),none⟩,0⟩]
def zccx : List ap := [Qo 12 (.mov (ci 0))]
def zccy : List ap := [Qo 108 (.mov (t 12)),
 Qo 109 (.bin .lss (t 108) (ci 64))]
def zcc0 : List ap := [Qo 112 (.indexPtr 8 1 (t 11) (ci 4)),
 Qo 113 (.load1 (t 112)),
 Qo 115 (.indexPtr 8 1 (t 11) (ci 4)),
 Qo 116 (.load1 (t 115)),
 Qo 119 (.indexPtr 8 1 (t 11) (ci 4)),
 Qo 120 (.load1 (t 119)),
 Qo 114 (.call jd [(t 113),(.const (Go.Value.int Go.IntKind.u64 6))]),
 Qo 117 (.call jd [(t 116),(.const (Go.Value.int Go.IntKind.u64 11))]),
 Qo 118 (.bin .xor (t 114) (t 117)),
 Qo 121 (.call jd [(t 120),(.const (Go.Value.int Go.IntKind.u64 25))]),
 Qo 122 (.bin .xor (t 118) (t 121)),
 Qo 13 (.mov (t 122))]
def zcc1 : List ap := [Qo 123 (.indexPtr 8 1 (t 11) (ci 7)),
 Qo 124 (.load1 (t 123)),
 Qo 125 (.mov (t 13)),
 Qo 126 (.bin .add (t 124) (t 125)),
 Qo 127 (.indexPtr 8 1 (t 11) (ci 4)),
 Qo 128 (.load1 (t 127)),
 Qo 129 (.indexPtr 8 1 (t 11) (ci 5)),
 Qo 130 (.load1 (t 129)),
 Qo 131 (.bin .and (t 128) (t 130)),
 Qo 132 (.indexPtr 8 1 (t 11) (ci 4)),
 Qo 133 (.load1 (t 132)),
 Qo 134 (.un .xor (t 133)),
 Qo 135 (.indexPtr 8 1 (t 11) (ci 6)),
 Qo 136 (.load1 (t 135)),
 Qo 137 (.bin .and (t 134) (t 136)),
 Qo 138 (.bin .xor (t 131) (t 137)),
 Qo 139 (.bin .add (t 126) (t 138)),
 Qo 140 (.mov (t 12)),
 Qo 141 (.indexPtr 64 1 (t 6) (t 140)),
 Qo 142 (.load1 (t 141)),
 Qo 143 (.bin .add (t 139) (t 142)),
 Qo 144 (.mov (t 12)),
 Qo 145 (.indexPtr 64 1 (t 5) (t 144)),
 Qo 146 (.load1 (t 145)),
 Qo 147 (.bin .add (t 143) (t 146)),
 Qo 14 (.mov (t 147))]
def zcc2 : List ap := [Qo 148 (.indexPtr 8 1 (t 11) (ci 0)),
 Qo 149 (.load1 (t 148)),
 Qo 151 (.indexPtr 8 1 (t 11) (ci 0)),
 Qo 152 (.load1 (t 151)),
 Qo 155 (.indexPtr 8 1 (t 11) (ci 0)),
 Qo 156 (.load1 (t 155)),
 Qo 150 (.call jd [(t 149),(.const (Go.Value.int Go.IntKind.u64 2))]),
 Qo 153 (.call jd [(t 152),(.const (Go.Value.int Go.IntKind.u64 13))]),
 Qo 154 (.bin .xor (t 150) (t 153)),
 Qo 157 (.call jd [(t 156),(.const (Go.Value.int Go.IntKind.u64 22))]),
 Qo 158 (.bin .xor (t 154) (t 157)),
 Qo 15 (.mov (t 158))]
def zcd0 : List ap := [Qo 159 (.mov (t 15)),
 Qo 160 (.indexPtr 8 1 (t 11) (ci 0)),
 Qo 161 (.load1 (t 160)),
 Qo 162 (.indexPtr 8 1 (t 11) (ci 1)),
 Qo 163 (.load1 (t 162)),
 Qo 164 (.bin .and (t 161) (t 163)),
 Qo 165 (.indexPtr 8 1 (t 11) (ci 0)),
 Qo 166 (.load1 (t 165)),
 Qo 167 (.indexPtr 8 1 (t 11) (ci 2)),
 Qo 168 (.load1 (t 167)),
 Qo 169 (.bin .and (t 166) (t 168)),
 Qo 170 (.bin .xor (t 164) (t 169)),
 Qo 171 (.indexPtr 8 1 (t 11) (ci 1)),
 Qo 172 (.load1 (t 171)),
 Qo 173 (.indexPtr 8 1 (t 11) (ci 2)),
 Qo 174 (.load1 (t 173)),
 Qo 175 (.bin .and (t 172) (t 174)),
 Qo 176 (.bin .xor (t 170) (t 175)),
 Qo 177 (.bin .add (t 159) (t 176)),
 Qo 16 (.mov (t 177))]
def zcd1 : List ap := [Qo 178 (.mov (t 14)),
 Qo 179 (.mov (t 16)),
 Qo 180 (.bin .add (t 178) (t 179)),
 Qo 181 (.indexPtr 8 1 (t 11) (ci 0)),
 Qo 182 (.load1 (t 181)),
 Qo 183 (.indexPtr 8 1 (t 11) (ci 1)),
 Qo 184 (.load1 (t 183)),
 Qo 185 (.indexPtr 8 1 (t 11) (ci 2)),
 Qo 186 (.load1 (t 185)),
 Qo 187 (.indexPtr 8 1 (t 11) (ci 3)),
 Qo 188 (.load1 (t 187)),
 Qo 189 (.mov (t 14)),
 Qo 190 (.bin .add (t 188) (t 189)),
 Qo 191 (.indexPtr 8 1 (t 11) (ci 4)),
 Qo 192 (.load1 (t 191)),
 Qo 193 (.indexPtr 8 1 (t 11) (ci 5)),
 Qo 194 (.load1 (t 193)),
 Qo 195 (.indexPtr 8 1 (t 11) (ci 6)),
 Qo 196 (.load1 (t 195)),
 Qo 197 (.build [(.int .u32 0),(.int .u32 0),(.int .u32 0),(.int .u32 0),(.int .u32 0),(.int .u32 0),(.int .u32 0),(.int .u32 0)] [(0,1,(t 180)),(1,1,(t 182)),(2,1,(t 184)),(3,1,(t 186)),(4,1,(t 190)),(5,1,(t 192)),(6,1,(t 194)),(7,1,(t 196))]),
 ⟨⟨none,.store 8 (t 11) (t 197),none⟩,0⟩]
def zccz : List ap := [Qo 110 (.mov (t 12)),
 Qo 111 (.bin .add (t 110) (ci 1)),
 Qo 12 (.mov (t 111))]
def yv : TC := (.seq (.seq (.ops zccy) (.clean [2,4,5,6,11,12,109] (.cond (t 109) .skip (.exit 4)))) (.clean [2,4,5,6,11,12] (.seq (.block 5 [2,4,5,6,11,12] (.seq (.draw (pl zcc0)) (.clean [2,4,5,6,11,12,13] (.seq (.draw (pl zcc1)) (.clean [2,4,5,6,11,12,14] (.seq (.draw (pl zcc2)) (.clean [2,4,5,6,11,12,14,15] (.seq (.ops zcd0) (.clean [2,4,5,6,11,12,14,16] (.ops zcd1)))))))))) (.clean [2,4,5,6,11,12] (.ops zccz)))))
def zcd2 : List ap := [Qo 17 (.mov (ci 0))]
def zcd3 : List ap := [Qo 198 (.mov (t 17)),
 Qo 199 (.bin .lss (t 198) (ci 8))]
def zcd5 : List ap := [Qo 202 (.mov (t 17)),
 Qo 203 (.mov (t 17)),
 Qo 204 (.indexPtr 8 1 (t 2) (t 203)),
 Qo 205 (.load1 (t 204)),
 Qo 206 (.mov (t 17)),
 Qo 207 (.indexPtr 8 1 (t 11) (t 206)),
 Qo 208 (.load1 (t 207)),
 Qo 209 (.bin .add (t 205) (t 208)),
 Qo 210 (.indexPtr 8 1 (t 2) (t 202)),
 ⟨⟨none,.store 1 (t 210) (t 209),none⟩,0⟩]
def zcd4 : List ap := [Qo 200 (.mov (t 17)),
 Qo 201 (.bin .add (t 200) (ci 1)),
 Qo 17 (.mov (t 201))]
def yu : TC := (.seq (.seq (.ops zcd3) (.clean [2,4,11,17,199] (.cond (t 199) .skip (.exit 6)))) (.clean [2,4,11,17] (.seq (.block 7 [2,4,11,17] (.draw (pl zcd5))) (.clean [2,4,11,17] (.ops zcd4)))))
def zcd6 : List ap := [Qo 211 (.loadN 8 (t 2)),
 ⟨⟨none,.store 8 (t 4) (t 211),none⟩,0⟩]
def zb03 : TC := (.seq (.ops zcbg) (.clean [1,2,4] (.seq (.ops zcbh) (.clean [1,2,4,5] (.seq (.ops zcbi) (.clean [1,2,4,5,6] (.seq (.seq (.ops zcbj) (.block 0 [2,4,5,6] (.clean [1,2,4,5,6,7] (.loop [1,2,4,5,6,7] yx)))) (.clean [2,4,5,6] (.seq (.seq (.ops zcbn) (.block 2 [2,4,5,6] (.clean [2,4,5,6,8] (.loop [2,4,5,6,8] yw)))) (.clean [2,4,5,6] (.seq (.ops zccw) (.clean [2,4,5,6,11] (.seq (.seq (.ops zccx) (.block 4 [2,4,11] (.clean [2,4,5,6,11,12] (.loop [2,4,5,6,11,12] yv)))) (.clean [2,4,11] (.seq (.seq (.ops zcd2) (.block 6 [2,4] (.clean [2,4,11,17] (.loop [2,4,11,17] yu)))) (.clean [2,4] (.seq (.ops zcd6) (.ret [4]))))))))))))))))))
def zb0u : TFn := ⟨212,zb03,[.cellN 4 8],false⟩
theorem i9 : type_of% (ai @zcbg.eq_1 (ai @zcbh.eq_1 (ai @zcbi.eq_1 (ai @zcbj.eq_1 (ai @zcbk.eq_1 (ai @zcbm.eq_1 (ai @zcbl.eq_1 (ai @zcbn.eq_1 (ai @zcbo.eq_1 (ai @zcct.eq_1 (ai @zccu.eq_1 (ai @zccv.eq_1 (ai @zcbp.eq_1 (ai @zccw.eq_1 (ai @zccx.eq_1 (ai @zccy.eq_1 (ai @zcc0.eq_1 (ai @zcc1.eq_1 (ai @zcc2.eq_1 (ai @zcd0.eq_1 (ai @zcd1.eq_1 (ai @zccz.eq_1 (ai @zcd2.eq_1 (ai @zcd3.eq_1 (ai @zcd5.eq_1 (ai @zcd4.eq_1 (ai @zcd6.eq_1 (ai @zb03.eq_1 @zb0u.eq_1)))))))))))))))))))))))))))) := ⟨rfl,rfl,rfl,rfl,rfl,rfl,rfl,rfl,rfl,rfl,rfl,rfl,rfl,rfl,rfl,rfl,rfl,rfl,rfl,rfl,rfl,rfl,rfl,rfl,rfl,rfl,rfl,rfl,rfl⟩
theorem zctc : xa Try.prog [(6,⟨[0,1,2,3,4,5,6,7,8,9,10,11,12,13,14,15,16,17,18,19,20,21,22,23,24,25,26,27,28,29,30,31],[0,0,0,4,14,30,62,0,0,256,768,1920,3968,8064,16382,0,0,65536,196608,491520,1015808,2064384,4194302,0,0,16777216,50331648,125829120,260046848,536870910,1073741823,2147483647],[],[],.nil⟩),(10,⟨[0,1,2,3,5,6,7,8,11,12,13,14,15,4,9,10,16,17],[0,1,3,7,15,0,32,96,224,511,1023,0,2048,6144,14336,30720,65535,131071],[],[],.nil⟩),(11,⟨[0,1,2,3,5,6,7,8,11,12,13,14,15,4,9,10,16,17],[0,1,3,7,15,0,32,96,224,511,1023,0,2048,6144,14336,30720,65535,131071],[],[],.nil⟩),(12,⟨[0,1,2,3,4,5,6,7,8,9,10,11,12,13,14,15],[0,0,2,6,14,0,62,0,128,384,896,2046,0,8190,16383,32767],[],[],.nil⟩),(17,⟨[0,1,3,4,7,8,2,5,6,9,10,11],[0,1,3,0,8,31,63,0,128,447,1023,2047],[],[],.nil⟩),(18,⟨[0,1,2,3,4,5,6,7,8,9,10,11,12,13,14,15,16,17,18,19,20,21,22,23,24,25],[0,1,0,7,0,16,0,64,240,0,512,1536,0,4096,15872,32752,65535,0,131072,393216,1048575,0,2097152,6291456,16777215,33554431],[],[],.nil⟩),(19,⟨[0,1,3,4,7,8,2,5,6,9,10,11],[0,1,3,0,8,31,63,0,128,447,1023,2047],[],[],.nil⟩),(25,⟨[0,1,2,3,4,5,6,7,8,9],[0,0,2,6,0,16,48,126,255,511],[],[],.nil⟩)] xi = some (212,zb03.erase,[.cellN 4 8]) := by kernel_rfl
def zcbq : List ap := [Qo 0 (.box ja 64 (.const (.agg #[(.int .u32 0),(.int .u32 0),(.int .u32 0),(.int .u32 0),(.int .u32 0),(.int .u32 0),(.int .u32 0),(.int .u32 0),(.int .u32 0),(.int .u32 0),(.int .u32 0),(.int .u32 0),(.int .u32 0),(.int .u32 0),(.int .u32 0),(.int .u32 0),(.int .u32 0),(.int .u32 0),(.int .u32 0),(.int .u32 0),(.int .u32 0),(.int .u32 0),(.int .u32 0),(.int .u32 0),(.int .u32 0),(.int .u32 0),(.int .u32 0),(.int .u32 0),(.int .u32 0),(.int .u32 0),(.int .u32 0),(.int .u32 0),(.int .u32 0),(.int .u32 0),(.int .u32 0),(.int .u32 0),(.int .u32 0),(.int .u32 0),(.int .u32 0),(.int .u32 0),(.int .u32 0),(.int .u32 0),(.int .u32 0),(.int .u32 0),(.int .u32 0),(.int .u32 0),(.int .u32 0),(.int .u32 0),(.int .u32 0),(.int .u32 0),(.int .u32 0),(.int .u32 0),(.int .u32 0),(.int .u32 0),(.int .u32 0),(.int .u32 0),(.int .u32 0),(.int .u32 0),(.int .u32 0),(.int .u32 0),(.int .u32 0),(.int .u32 0),(.int .u32 0),(.int .u32 0)])))]
def zcbr : List ap := [Qo 1 (.build [(.int .u32 0),(.int .u32 0),(.int .u32 0),(.int .u32 0),(.int .u32 0),(.int .u32 0),(.int .u32 0),(.int .u32 0),(.int .u32 0),(.int .u32 0),(.int .u32 0),(.int .u32 0),(.int .u32 0),(.int .u32 0),(.int .u32 0),(.int .u32 0),(.int .u32 0),(.int .u32 0),(.int .u32 0),(.int .u32 0),(.int .u32 0),(.int .u32 0),(.int .u32 0),(.int .u32 0),(.int .u32 0),(.int .u32 0),(.int .u32 0),(.int .u32 0),(.int .u32 0),(.int .u32 0),(.int .u32 0),(.int .u32 0),(.int .u32 0),(.int .u32 0),(.int .u32 0),(.int .u32 0),(.int .u32 0),(.int .u32 0),(.int .u32 0),(.int .u32 0),(.int .u32 0),(.int .u32 0),(.int .u32 0),(.int .u32 0),(.int .u32 0),(.int .u32 0),(.int .u32 0),(.int .u32 0),(.int .u32 0),(.int .u32 0),(.int .u32 0),(.int .u32 0),(.int .u32 0),(.int .u32 0),(.int .u32 0),(.int .u32 0),(.int .u32 0),(.int .u32 0),(.int .u32 0),(.int .u32 0),(.int .u32 0),(.int .u32 0),(.int .u32 0),(.int .u32 0)] [(0,1,(.const (Go.Value.int Go.IntKind.u32 1116352408))),(1,1,(.const (Go.Value.int Go.IntKind.u32 1899447441))),(2,1,(.const (Go.Value.int Go.IntKind.u32 3049323471))),(3,1,(.const (Go.Value.int Go.IntKind.u32 3921009573))),(4,1,(.const (Go.Value.int Go.IntKind.u32 961987163))),(5,1,(.const (Go.Value.int Go.IntKind.u32 1508970993))),(6,1,(.const (Go.Value.int Go.IntKind.u32 2453635748))),(7,1,(.const (Go.Value.int Go.IntKind.u32 2870763221))),(8,1,(.const (Go.Value.int Go.IntKind.u32 3624381080))),(9,1,(.const (Go.Value.int Go.IntKind.u32 310598401))),(10,1,(.const (Go.Value.int Go.IntKind.u32 607225278))),(11,1,(.const (Go.Value.int Go.IntKind.u32 1426881987))),(12,1,(.const (Go.Value.int Go.IntKind.u32 1925078388))),(13,1,(.const (Go.Value.int Go.IntKind.u32 2162078206))),(14,1,(.const (Go.Value.int Go.IntKind.u32 2614888103))),(15,1,(.const (Go.Value.int Go.IntKind.u32 3248222580))),(16,1,(.const (Go.Value.int Go.IntKind.u32 3835390401))),(17,1,(.const (Go.Value.int Go.IntKind.u32 4022224774))),(18,1,(.const (Go.Value.int Go.IntKind.u32 264347078))),(19,1,(.const (Go.Value.int Go.IntKind.u32 604807628))),(20,1,(.const (Go.Value.int Go.IntKind.u32 770255983))),(21,1,(.const (Go.Value.int Go.IntKind.u32 1249150122))),(22,1,(.const (Go.Value.int Go.IntKind.u32 1555081692))),(23,1,(.const (Go.Value.int Go.IntKind.u32 1996064986))),(24,1,(.const (Go.Value.int Go.IntKind.u32 2554220882))),(25,1,(.const (Go.Value.int Go.IntKind.u32 2821834349))),(26,1,(.const (Go.Value.int Go.IntKind.u32 2952996808))),(27,1,(.const (Go.Value.int Go.IntKind.u32 3210313671))),(28,1,(.const (Go.Value.int Go.IntKind.u32 3336571891))),(29,1,(.const (Go.Value.int Go.IntKind.u32 3584528711))),(30,1,(.const (Go.Value.int Go.IntKind.u32 113926993))),(31,1,(.const (Go.Value.int Go.IntKind.u32 338241895))),(32,1,(.const (Go.Value.int Go.IntKind.u32 666307205))),(33,1,(.const (Go.Value.int Go.IntKind.u32 773529912))),(34,1,(.const (Go.Value.int Go.IntKind.u32 1294757372))),(35,1,(.const (Go.Value.int Go.IntKind.u32 1396182291))),(36,1,(.const (Go.Value.int Go.IntKind.u32 1695183700))),(37,1,(.const (Go.Value.int Go.IntKind.u32 1986661051))),(38,1,(.const (Go.Value.int Go.IntKind.u32 2177026350))),(39,1,(.const (Go.Value.int Go.IntKind.u32 2456956037))),(40,1,(.const (Go.Value.int Go.IntKind.u32 2730485921))),(41,1,(.const (Go.Value.int Go.IntKind.u32 2820302411))),(42,1,(.const (Go.Value.int Go.IntKind.u32 3259730800))),(43,1,(.const (Go.Value.int Go.IntKind.u32 3345764771))),(44,1,(.const (Go.Value.int Go.IntKind.u32 3516065817))),(45,1,(.const (Go.Value.int Go.IntKind.u32 3600352804))),(46,1,(.const (Go.Value.int Go.IntKind.u32 4094571909))),(47,1,(.const (Go.Value.int Go.IntKind.u32 275423344))),(48,1,(.const (Go.Value.int Go.IntKind.u32 430227734))),(49,1,(.const (Go.Value.int Go.IntKind.u32 506948616))),(50,1,(.const (Go.Value.int Go.IntKind.u32 659060556))),(51,1,(.const (Go.Value.int Go.IntKind.u32 883997877))),(52,1,(.const (Go.Value.int Go.IntKind.u32 958139571))),(53,1,(.const (Go.Value.int Go.IntKind.u32 1322822218))),(54,1,(.const (Go.Value.int Go.IntKind.u32 1537002063))),(55,1,(.const (Go.Value.int Go.IntKind.u32 1747873779))),(56,1,(.const (Go.Value.int Go.IntKind.u32 1955562222))),(57,1,(.const (Go.Value.int Go.IntKind.u32 2024104815))),(58,1,(.const (Go.Value.int Go.IntKind.u32 2227730452))),(59,1,(.const (Go.Value.int Go.IntKind.u32 2361852424))),(60,1,(.const (Go.Value.int Go.IntKind.u32 2428436474))),(61,1,(.const (Go.Value.int Go.IntKind.u32 2756734187))),(62,1,(.const (Go.Value.int Go.IntKind.u32 3204031479))),(63,1,(.const (Go.Value.int Go.IntKind.u32 3329325298)))]),
 ⟨⟨none,.store 64 (t 0) (t 1),none⟩,0⟩]
def zb04 : TC := (.seq (.ops zcbq) (.clean [0] (.seq (.ops zcbr) (.ret [0]))))
def zb0w : TFn := ⟨2,zb04,[.cellN 0 64],false⟩
theorem zcs6 : type_of% (ai @zcbq.eq_1 (ai @zcbr.eq_1 (ai @zb04.eq_1 @zb0w.eq_1))) := ⟨rfl,rfl,rfl,rfl⟩
theorem zctd : xa Try.prog [] xh = some (2,zb04.erase,[.cellN 0 64]) := by kernel_rfl
def zb91 : List ap := [Qo 4 (.mov (.const (Go.Value.int Go.IntKind.u32 0)))]
def zb92 : List ap := [Qo 5 (.mov (t 0)),
 Qo 6 (.mov (t 1)),
 Qo 7 (.bin .shr (t 5) (t 6)),
 Qo 8 (.mov (t 0)),
 Qo 9 (.mov (t 1)),
 Qo 10 (.bin .sub (.const (Go.Value.int Go.IntKind.u64 32)) (t 9)),
 Qo 11 (.bin .shl (t 8) (t 10)),
 Qo 12 (.bin .or (t 7) (t 11)),
 Qo 4 (.mov (t 12))]
def zb0m : TC := (.seq (.ops zb91) (.clean [0,1] (.seq (.ops zb92) (.ret [4]))))
def zb0f : TFn := ⟨13,zb0m,[.tmp 4],false⟩
theorem zbc0 : type_of% (ai @zb91.eq_1 (ai @zb92.eq_1 (ai @zb0m.eq_1 @zb0f.eq_1))) := ⟨rfl,rfl,rfl,rfl⟩
theorem zbct : xa Try.prog [] jd = some (13,zb0m.erase,[.tmp 4]) := by kernel_rfl
def zccm : List ap := [Qo 2 (.mov (.const (Go.Value.string ⟨#[]⟩)))]
def zccn : List ap := [Qo 3 (.mov (t 0)),
 Qo 4 (.call lf [(t 3)]),
 Qo 5 (.bin .add (.const (Go.Value.string ⟨#[115,101,99,114,101,116]⟩)) (t 4)),
 Qo 2 (.mov (t 5))]
def zb1g : TC := (.seq (.ops zccm) (.clean [0] (.seq (.ops zccn) (.ret [2]))))
def zb08 : TFn := ⟨6,zb1g,[.tmp 2],false⟩
theorem zct1 : type_of% (ai @zccm.eq_1 (ai @zccn.eq_1 (ai @zb1g.eq_1 @zb08.eq_1))) := ⟨rfl,rfl,rfl,rfl⟩
theorem zct5 : xa Try.prog [] vd = some (6,zb1g.erase,[.tmp 2]) := by kernel_rfl
def zcd7 : List ap := [Qo 4 (.mov (.const (Go.Value.string ⟨#[]⟩)))]
def zcd8 : List ap := [Qo 7 (.mov (t 1)),
 Qo 8 (.bin .lss (t 7) (ci 0)),
 Qo 9 (.mov (t 8)),
 Qf 9 10 (.mov (t 1)),
 Qf 9 11 (.bin .gtr (t 10) (ci 255)),
 Qo 12 (.pick (t 9) QT (t 11))]
def zcd9 : List ap := [Qo 4 (.mov (.const (Go.Value.string ⟨#[]⟩)))]
def zcda : List ap := [Qo 5 (.mov (.const (Go.Value.string ⟨#[]⟩)))]
def zcdb : List ap := [Qo 6 (.mov (ci 0))]
def zcdc : List ap := [Qo 13 (.mov (t 6)),
 Qo 14 (.bin .lss (t 13) (ci 16))]
def zcde : List ap := [Qo 17 (.mov (t 5)),
 Qo 18 (.mov (t 0)),
 Qo 19 (.mov (t 1)),
 Qo 20 (.mov (t 6)),
 Qo 21 (.call ul [(t 18),(t 19),(t 20),(ci 0)]),
 Qo 22 (.call od [(t 21)]),
 Qo 23 (.bin .add (t 17) (t 22)),
 Qo 24 (.mov (t 0)),
 Qo 25 (.mov (t 1)),
 Qo 26 (.mov (t 6)),
 Qo 27 (.call ul [(t 24),(t 25),(t 26),(ci 1)]),
 Qo 28 (.call od [(t 27)]),
 Qo 29 (.bin .add (t 23) (t 28)),
 Qo 5 (.mov (t 29))]
def zcdd : List ap := [Qo 15 (.mov (t 6)),
 Qo 16 (.bin .add (t 15) (ci 1)),
 Qo 6 (.mov (t 16))]
def xm : TC := (.seq (.seq (.ops zcdc) (.clean [0,1,5,6,14] (.cond (t 14) .skip (.exit 0)))) (.clean [0,1,5,6] (.seq (.block 1 [0,1,5,6] (.ops zcde)) (.clean [0,1,5,6] (.ops zcdd)))))
def zcdf : List ap := [Qo 30 (.mov (t 5)),
 Qo 31 (.call od [(t 30)]),
 Qo 4 (.mov (t 31))]
def zb1h : TC := (.seq (.ops zcd7) (.clean [0,1] (.seq (.seq (.ops zcd8) (.clean [0,1,12] (.cond (t 12) (.seq (.ops zcd9) (.ret [4])) .skip))) (.clean [0,1] (.seq (.ops zcda) (.clean [0,1,5] (.seq (.seq (.ops zcdb) (.block 0 [5] (.clean [0,1,5,6] (.loop [0,1,5,6] xm)))) (.clean [5] (.seq (.ops zcdf) (.ret [4]))))))))))
def zb09 : TFn := ⟨32,zb1h,[.tmp 4],false⟩
theorem u7 : type_of% (ai @zcd7.eq_1 (ai @zcd8.eq_1 (ai @zcd9.eq_1 (ai @zcda.eq_1 (ai @zcdb.eq_1 (ai @zcdc.eq_1 (ai @zcde.eq_1 (ai @zcdd.eq_1 (ai @zcdf.eq_1 (ai @zb1h.eq_1 @zb09.eq_1)))))))))) := ⟨rfl,rfl,rfl,rfl,rfl,rfl,rfl,rfl,rfl,rfl,rfl⟩
theorem zct6 : xa Try.prog [] vc = some (32,zb1h.erase,[.tmp 4]) := by kernel_rfl
def zcbe : List ap := [Qo 2 (.mov (.const (Go.Value.string ⟨#[]⟩)))]
def zcbf : List ap := [Qo 3 (.mov (t 0)),
 Qo 4 (.call zbp8 [(t 3)]),
 Qo 5 (.sliceStr (t 4) none (some (ci 16))),
 Qo 2 (.mov (t 5))]
def zb02 : TC := (.seq (.ops zcbe) (.clean [0] (.seq (.ops zcbf) (.ret [2]))))
def zb0t : TFn := ⟨6,zb02,[.tmp 2],false⟩
theorem zcs5 : type_of% (ai @zcbe.eq_1 (ai @zcbf.eq_1 (ai @zb02.eq_1 @zb0t.eq_1))) := ⟨rfl,rfl,rfl,rfl⟩
theorem zctb : xa Try.prog [] od = some (6,zb02.erase,[.tmp 2]) := by kernel_rfl
def zcbs : List ap := [Qo 8 (.mov (.const (Go.Value.string ⟨#[]⟩)))]
def zcbt : List ap := [Qo 9 (.mov (t 1)),
 Qo 10 (.bin .lss (t 9) (ci 0)),
 Qo 11 (.mov (t 10)),
 Qf 11 12 (.mov (t 1)),
 Qf 11 13 (.bin .gtr (t 12) (ci 255)),
 Qo 14 (.pick (t 11) QT (t 13)),
 Qo 15 (.mov (t 14)),
 Qf 15 16 (.mov (t 2)),
 Qf 15 17 (.bin .lss (t 16) (ci 0)),
 Qo 18 (.pick (t 15) QT (t 17)),
 Qo 19 (.mov (t 18)),
 Qf 19 20 (.mov (t 2)),
 Qf 19 21 (.bin .geq (t 20) (ci 16)),
 Qo 22 (.pick (t 19) QT (t 21)),
 Qo 23 (.mov (t 22)),
 Qf 23 24 (.mov (t 3)),
 Qf 23 25 (.bin .lss (t 24) (ci 0)),
 Qo 26 (.pick (t 23) QT (t 25)),
 Qo 27 (.mov (t 26)),
 Qf 27 28 (.mov (t 3)),
 Qf 27 29 (.bin .gtr (t 28) (ci 1)),
 Qo 30 (.pick (t 27) QT (t 29))]
def zcbu : List ap := [Qo 8 (.mov (.const (Go.Value.string ⟨#[]⟩)))]
def zcbv : List ap := [Qo 31 (.mov (t 0)),
 Qo 32 (.mov (t 1)),
 Qo 33 (.conv .u8 (t 32)),
 Qo 34 (.mov (t 2)),
 Qo 35 (.conv .u8 (t 34)),
 Qo 36 (.mov (t 3)),
 Qo 37 (.conv .u8 (t 36)),
 Qo 38 (.buildSl m5 1 3 [(.int .u8 0),(.int .u8 0),(.int .u8 0)] [(0,1,(t 33)),(1,1,(t 35)),(2,1,(t 37))]),
 Qo 39 (.toStr (t 38)),
 Qo 40 (.bin .add (t 31) (t 39)),
 Qo 41 (.call od [(t 40)]),
 Qo 8 (.mov (t 41))]
def zb05 : TC := (.seq (.ops zcbs) (.clean [0,1,2,3] (.seq (.seq (.ops zcbt) (.clean [0,1,2,3,30] (.cond (t 30) (.seq (.ops zcbu) (.ret [8])) .skip))) (.clean [0,1,2,3] (.seq (.ops zcbv) (.ret [8]))))))
def zb0x : TFn := ⟨42,zb05,[.tmp 8],false⟩
theorem uj : type_of% (ai @zcbs.eq_1 (ai @zcbt.eq_1 (ai @zcbu.eq_1 (ai @zcbv.eq_1 (ai @zb05.eq_1 @zb0x.eq_1))))) := ⟨rfl,rfl,rfl,rfl,rfl,rfl⟩
theorem zctu : xa Try.prog [] ul = some (42,zb05.erase,[.tmp 8]) := by kernel_rfl
def zb9l : List ap := [Qo 2 (.mov (.const (Go.Value.string ⟨#[]⟩)))]
def zb9m : List ap := [Qo 3 (.mov (t 0)),
 Qo 4 (.call lf [(t 3)]),
 Qo 5 (.bin .add (.const (Go.Value.string ⟨#[115,101,101,100]⟩)) (t 4)),
 Qo 2 (.mov (t 5))]
def zb0k : TC := (.seq (.ops zb9l) (.clean [0] (.seq (.ops zb9m) (.ret [2]))))
def zb0d : TFn := ⟨6,zb0k,[.tmp 2],false⟩
theorem zbc1 : type_of% (ai @zb9l.eq_1 (ai @zb9m.eq_1 (ai @zb0k.eq_1 @zb0d.eq_1))) := ⟨rfl,rfl,rfl,rfl⟩
theorem zbcv : xa Try.prog [] zm = some (6,zb0k.erase,[.tmp 2]) := by kernel_rfl
def zcbb : List ap := [Qo 0 (.mov QF)]
def zcbc : List ap := [Qo 2 (.call xk [(ci 3),(ci 5),(ci 6)]),
 Qo 1 (.box a9 7 (.const (.agg #[(.string ⟨#[]⟩),(.slice none 0 0),(.slice none 0 0),(.slice none 0 0),(.slice none 0 0),(.int .i64 0),(.int .i64 0)]))),
 ⟨⟨none,.store 7 (t 1) (t 2),none⟩,0⟩]
def zcbd : List ap := [Qo 3 (.loadN 7 (t 1)),
 Qo 4 (.call oa [(t 3)]),
 Qo 5 (.mov (t 4)),
 Qt 5 6 (.loadN 7 (t 1)),
 Qt 5 7 (.buildSl de 1 3 [(.int .i64 0),(.int .i64 0),(.int .i64 0)] [(0,1,(ci 0)),(1,1,(ci 1)),(2,1,(ci 2))]),
 Qt 5 8 (.call iv [(t 6),(t 7)]),
 Qo 9 (.pick (t 5) (t 8) QF),
 Qo 10 (.mov (t 9)),
 Qt 10 11 (.loadN 7 (t 1)),
 Qt 10 12 (.buildSl de 1 2 [(.int .i64 0),(.int .i64 0)] [(0,1,(ci 0)),(1,1,(ci 2))]),
 Qt 10 13 (.call iv [(t 11),(t 12)]),
 Qt 10 14 (.un .not (t 13)),
 Qo 15 (.pick (t 10) (t 14) QF),
 Qo 16 (.mov (t 15)),
 Qt 16 17 (.loadN 7 (t 1)),
 Qt 16 18 (.call re [(t 17),(ci 0)]),
 Qt 16 19 (.lenL (t 18)),
 Qt 16 20 (.bin .eql (t 19) (ci 1)),
 Qo 21 (.pick (t 16) (t 20) QF),
 Qo 22 (.mov (t 21)),
 Qt 22 23 (.loadN 7 (t 1)),
 Qt 22 24 (.call rc [(t 23),(ci 0)]),
 Qt 22 25 (.lenL (t 24)),
 Qt 22 26 (.bin .eql (t 25) (ci 1)),
 Qo 27 (.pick (t 22) (t 26) QF),
 Qo 28 (.mov (t 27)),
 Qt 28 29 (.build [(.string ⟨#[]⟩),(.slice none 0 0),(.slice none 0 0),(.slice none 0 0),(.slice none 0 0),(.int .i64 0),(.int .i64 0)] []),
 Qt 28 30 (.call oa [(t 29)]),
 Qt 28 31 (.un .not (t 30)),
 Qo 32 (.pick (t 28) (t 31) QF),
 Qo 0 (.mov (t 32))]
def zb01 : TC := (.seq (.ops zcbb) (.clean [] (.seq (.ops zcbc) (.clean [1] (.seq (.ops zcbd) (.ret [0]))))))
def zb0s : TFn := ⟨33,zb01,[.tmp 0],false⟩
theorem xc : type_of% (ai @zcbb.eq_1 (ai @zcbc.eq_1 (ai @zcbd.eq_1 (ai @zb01.eq_1 @zb0s.eq_1)))) := ⟨rfl,rfl,rfl,rfl,rfl⟩
theorem zcta : xa Try.prog [] xj = some (33,zb01.erase,[.tmp 0]) := by kernel_rfl
def zcev : List ap := [Qo 1 (.box a9 7 (t 0)),
 Qo 2 (.mov QF)]
def zcew : List ap := [Qo 3 (.loadN 7 (t 1)),
 Qo 4 (.call m6 [(t 3)]),
 Qo 5 (.mov (t 4)),
 Qt 5 6 (.loadN 7 (t 1)),
 Qt 5 7 (.call kb [(t 6)]),
 Qo 8 (.pick (t 5) (t 7) QF),
 Qo 2 (.mov (t 8))]
def zb1z : TC := (.seq (.ops zcev) (.clean [1] (.seq (.ops zcew) (.ret [2]))))
def zb1s : TFn := ⟨9,zb1z,[.tmp 2],false⟩
theorem zcap : type_of% (ai @zcev.eq_1 (ai @zcew.eq_1 (ai @zb1z.eq_1 @zb1s.eq_1))) := ⟨rfl,rfl,rfl,rfl⟩
theorem zcpp : xa Try.prog [] oa = some (9,zb1z.erase,[.tmp 2]) := by kernel_rfl
def zcf6 : List ap := [Qo 1 (.box a9 7 (t 0)),
 Qo 2 (.mov QF)]
def zcf7 : List ap := [Qo 3 (.loadN 7 (t 1)),
 Qo 4 (.call mq [(t 3)]),
 Qo 5 (.un .not (t 4))]
def zcf8 : List ap := [Qo 2 (.mov QF)]
def zcf9 : List ap := [Qo 6 (.loadN 7 (t 1)),
 Qo 7 (.call il [(t 6),(ci 0),QF,(.func g8)]),
 Qo 8 (.call cn [(t 7),QF]),
 Qo 9 (.un .not (t 8)),
 Qo 10 (.mov (t 9)),
 Qt 10 11 (.loadN 7 (t 1)),
 Qt 10 12 (.call il [(t 11),(ci 0),QT,(.func g8)]),
 Qt 10 13 (.call cn [(t 12),QF]),
 Qt 10 14 (.un .not (t 13)),
 Qo 15 (.pick (t 10) (t 14) QF),
 Qo 2 (.mov (t 15))]
def zu : TC := (.seq (.ops zcf6) (.clean [1] (.seq (.seq (.ops zcf7) (.clean [1,5] (.cond (t 5) (.seq (.ops zcf8) (.ret [2])) .skip))) (.clean [1] (.seq (.ops zcf9) (.ret [2]))))))
def zb14 : TFn := ⟨16,zu,[.tmp 2],false⟩
theorem zb1o : type_of% (ai @zcf6.eq_1 (ai @zcf7.eq_1 (ai @zcf8.eq_1 (ai @zcf9.eq_1 (ai @zu.eq_1 @zb14.eq_1))))) := ⟨rfl,rfl,rfl,rfl,rfl,rfl⟩
theorem zcqi : xa Try.prog [] m6 = some (16,zu.erase,[.tmp 2]) := by kernel_rfl
def zcdq : List ap := [Qo 1 (.box a9 7 (t 0)),
 Qo 2 (.mov QF)]
def zcdr : List (ap × List Nat) := [(Qo 12 (.fieldAddr 1 (t 1)),[]),
 (Qo 13 (.load1 (t 12)),[]),
 (Qo 14 (.lenL (t 13)),[]),
 (Qo 15 (.fieldAddr 3 (t 1)),[]),
 (Qo 16 (.load1 (t 15)),[]),
 (Qo 17 (.lenL (t 16)),[]),
 (Qo 3 (.box de 1 (.const (.int .i64 0))),[]),
 (⟨⟨none,.store 1 (t 3) (t 14),none⟩,0⟩,[4]),
 (Qo 4 (.mov (t 17)),[])]
def zcds : List ap := [Qo 18 (.fieldAddr 0 (t 1)),
 Qo 19 (.load1 (t 18)),
 Qo 20 (.call qo [(t 19)]),
 Qo 21 (.un .not (t 20)),
 Qo 22 (.mov (t 21)),
 Qf 22 23 (.load1 (t 3)),
 Qf 22 24 (.call lz [(t 23),(ci 2),(ci 6)]),
 Qf 22 25 (.un .not (t 24)),
 Qo 26 (.pick (t 22) QT (t 25)),
 Qo 27 (.mov (t 26)),
 Qf 27 28 (.mov (t 4)),
 Qf 27 29 (.call lz [(t 28),(ci 1),(ci 3)]),
 Qf 27 30 (.un .not (t 29)),
 Qo 31 (.pick (t 27) QT (t 30)),
 Qo 32 (.mov (t 31)),
 Qf 32 33 (.fieldAddr 2 (t 1)),
 Qf 32 34 (.load1 (t 33)),
 Qf 32 35 (.lenL (t 34)),
 Qf 32 36 (.call lz [(t 35),(ci 1),(ci 12)]),
 Qf 32 37 (.un .not (t 36)),
 Qo 38 (.pick (t 32) QT (t 37)),
 Qo 39 (.mov (t 38)),
 Qf 39 40 (.fieldAddr 4 (t 1)),
 Qf 39 41 (.load1 (t 40)),
 Qf 39 42 (.mov (t 4)),
 Qf 39 43 (.call qn [(t 41),(t 42),(ci 32)]),
 Qf 39 44 (.un .not (t 43)),
 Qo 45 (.pick (t 39) QT (t 44)),
 Qo 46 (.mov (t 45)),
 Qf 46 47 (.fieldAddr 5 (t 1)),
 Qf 46 48 (.load1 (t 47)),
 Qf 46 49 (.call lz [(t 48),(ci 0),(ci 1099511627776)]),
 Qf 46 50 (.un .not (t 49)),
 Qo 51 (.pick (t 46) QT (t 50)),
 Qo 52 (.mov (t 51)),
 Qf 52 53 (.fieldAddr 6 (t 1)),
 Qf 52 54 (.load1 (t 53)),
 Qf 52 55 (.call lz [(t 54),(ci 1),(ci 1048576)]),
 Qf 52 56 (.un .not (t 55)),
 Qo 57 (.pick (t 52) QT (t 56))]
def zcdt : List ap := [Qo 2 (.mov QF)]
def zcdu : List ap := [Qm 1 5 (.mov (.const (Go.Value.slice none 0 0)))]
def zcdv : List ap := [Qo 58 (.fieldAddr 1 (t 1)),
 Qo 59 (.load1 (t 58)),
 Qo 60 (.lenL (t 59)),
 Qo 61 (.mov (ci 0))]
def zcdw : List ap := [Qo 62 (.bin .lss (t 61) (t 60))]
def zcdx : List ap := [Qo 63 (.indexSl 2 (t 59) (t 61)),
 Qo 64 (.loadN 2 (t 63)),
 Qo 7 (.box j9 2 (.const (.agg #[(.string ⟨#[]⟩),(.slice none 0 0)]))),
 ⟨⟨none,.store 2 (t 7) (t 64),none⟩,0⟩]
def zcdy : List ap := [Qo 65 (.fieldAddr 0 (t 7)),
 Qo 66 (.load1 (t 65)),
 Qo 67 (.call qo [(t 66)]),
 Qo 68 (.un .not (t 67)),
 Qo 69 (.mov (t 68)),
 Qf 69 70 (.fieldAddr 1 (t 7)),
 Qf 69 71 (.load1 (t 70)),
 Qf 69 72 (.mov (t 4)),
 Qf 69 73 (.call qn [(t 71),(t 72),(ci 16)]),
 Qf 69 74 (.un .not (t 73)),
 Qo 75 (.pick (t 69) QT (t 74))]
def zcdz : List ap := [Qo 2 (.mov QF)]
def zcfw : List ap := [Qo 76 (.mov (t 5)),
 Qo 77 (.fieldAddr 0 (t 7)),
 Qo 78 (.load1 (t 77)),
 Qo 79 (.buildSl eu 1 1 [(.string ⟨#[]⟩)] [(0,1,(t 78))]),
 Qo 80 (.append eu 1 16 (t 76) (t 79)),
 Qo 5 (.mov (t 80))]
def zcfx : List ap := [Qo 81 (.bin .add (t 61) (ci 1)),
 Qo 61 (.mov (t 81))]
def ou : TC := (.seq (.ops zcdw) (.clean [1,3,4,5,59,60,61,62] (.seq (.cond (t 62) .skip (.exit 0)) (.clean [1,3,4,5,59,60,61] (.seq (.block 1 [1,3,4,5,59,60,61] (.seq (.ops zcdx) (.clean [1,3,4,5,7,59,60,61] (.seq (.seq (.ops zcdy) (.clean [1,3,4,5,7,59,60,61,75] (.cond (t 75) (.seq (.ops zcdz) (.ret [2])) .skip))) (.clean [1,3,4,5,7,59,60,61] (.ops zcfw)))))) (.clean [1,3,4,5,59,60,61] (.ops zcfx)))))))
def zcfy : List ap := [Qm 1 8 (.mov (.const (Go.Value.slice none 0 0)))]
def zcfg : List ap := [Qo 82 (.fieldAddr 2 (t 1)),
 Qo 83 (.load1 (t 82)),
 Qo 84 (.lenL (t 83)),
 Qo 85 (.mov (ci 0))]
def zcfh : List ap := [Qo 86 (.bin .lss (t 85) (t 84))]
def zcfi : List ap := [Qo 87 (.indexSl 5 (t 83) (t 85)),
 Qo 88 (.loadN 5 (t 87)),
 Qo 10 (.box jv 5 (.const (.agg #[(.int .i64 0),(.int .i64 0),(.int .i64 0),(.string ⟨#[]⟩),(.int .i64 0)]))),
 ⟨⟨none,.store 5 (t 10) (t 88),none⟩,0⟩]
def zcfj : List ap := [Qo 89 (.loadN 5 (t 10)),
 Qo 90 (.load1 (t 3)),
 Qo 91 (.call zk [(t 89),(t 90)]),
 Qo 92 (.un .not (t 91))]
def zcfk : List ap := [Qo 2 (.mov QF)]
def zcfl : List ap := [Qo 93 (.mov (t 8)),
 Qo 94 (.fieldAddr 0 (t 10)),
 Qo 95 (.load1 (t 94)),
 Qo 96 (.fieldAddr 1 (t 10)),
 Qo 97 (.load1 (t 96)),
 Qo 98 (.build [(.int .i64 0),(.int .i64 0)] [(0,1,(t 95)),(1,1,(t 97))]),
 Qo 99 (.buildSl nr 2 1 [(.int .i64 0),(.int .i64 0)] [(0,2,(t 98))]),
 Qo 100 (.append nr 2 16 (t 93) (t 99)),
 Qo 8 (.mov (t 100))]
def zcfm : List ap := [Qo 101 (.bin .add (t 85) (ci 1)),
 Qo 85 (.mov (t 101))]
def sp : TC := (.seq (.ops zcfh) (.clean [1,3,5,8,83,84,85,86] (.seq (.cond (t 86) .skip (.exit 2)) (.clean [1,3,5,8,83,84,85] (.seq (.block 3 [1,3,5,8,83,84,85] (.seq (.ops zcfi) (.clean [1,3,5,8,10,83,84,85] (.seq (.seq (.ops zcfj) (.clean [1,3,5,8,10,83,84,85,92] (.cond (t 92) (.seq (.ops zcfk) (.ret [2])) .skip))) (.clean [1,3,5,8,10,83,84,85] (.ops zcfl)))))) (.clean [1,3,5,8,83,84,85] (.ops zcfm)))))))
def zcfn : List ap := [Qo 102 (.mkFunc (.func fx) [] [(t 3)]),
 Qo 11 (.mov (t 102))]
def zcfo : List ap := [Qo 103 (.mov (t 5)),
 Qo 104 (.call fj [(t 103)]),
 Qo 105 (.mov (t 104)),
 Qt 105 106 (.mov (t 8)),
 Qt 105 107 (.call g7 [(t 106)]),
 Qo 108 (.pick (t 105) (t 107) QF),
 Qo 109 (.mov (t 108)),
 Qt 109 110 (.fieldAddr 3 (t 1)),
 Qt 109 111 (.load1 (t 110)),
 Qt 109 112 (.call jw [(t 111)]),
 Qo 113 (.pick (t 109) (t 112) QF),
 Qo 114 (.mov (t 113)),
 Qt 114 115 (.fieldAddr 3 (t 1)),
 Qt 114 116 (.load1 (t 115)),
 Qt 114 117 (.mov (t 11)),
 Qt 114 118 (.call db [(t 116),(t 117)]),
 Qt 114 119 (.un .not (t 118)),
 Qo 120 (.pick (t 114) (t 119) QF),
 Qo 2 (.mov (t 120))]
def zb1j : TC := (.seq (.ops zcdq) (.clean [1] (.seq (.draw zcdr) (.clean [1,3,4] (.seq (.seq (.ops zcds) (.clean [1,3,4,57] (.cond (t 57) (.seq (.ops zcdt) (.ret [2])) .skip))) (.clean [1,3,4] (.seq (.ops zcdu) (.clean [1,3,4,5] (.seq (.seq (.ops zcdv) (.block 0 [1,3,5] (.clean [1,3,4,5,59,60,61] (.loop [1,3,4,5,59,60,61] ou)))) (.clean [1,3,5] (.seq (.ops zcfy) (.clean [1,3,5,8] (.seq (.seq (.ops zcfg) (.block 2 [1,3,5,8] (.clean [1,3,5,8,83,84,85] (.loop [1,3,5,8,83,84,85] sp)))) (.clean [1,3,5,8] (.seq (.ops zcfn) (.clean [1,5,8,11] (.seq (.ops zcfo) (.ret [2]))))))))))))))))))
def zb1b : TFn := ⟨121,zb1j,[.tmp 2],false⟩
theorem b7 : type_of% (ai @zcdq.eq_1 (ai @zcdr.eq_1 (ai @zcds.eq_1 (ai @zcdt.eq_1 (ai @zcdu.eq_1 (ai @zcdv.eq_1 (ai @zcdw.eq_1 (ai @zcdx.eq_1 (ai @zcdy.eq_1 (ai @zcdz.eq_1 (ai @zcfw.eq_1 (ai @zcfx.eq_1 (ai @zcfy.eq_1 (ai @zcfg.eq_1 (ai @zcfh.eq_1 (ai @zcfi.eq_1 (ai @zcfj.eq_1 (ai @zcfk.eq_1 (ai @zcfl.eq_1 (ai @zcfm.eq_1 (ai @zcfn.eq_1 (ai @zcfo.eq_1 (ai @zb1j.eq_1 @zb1b.eq_1))))))))))))))))))))))) := ⟨rfl,rfl,rfl,rfl,rfl,rfl,rfl,rfl,rfl,rfl,rfl,rfl,rfl,rfl,rfl,rfl,rfl,rfl,rfl,rfl,rfl,rfl,rfl,rfl⟩
theorem zct8 : xa Try.prog [(1,⟨[0,1,2,3,4,5,6,7,8],[0,1,3,0,8,24,0,71,255],[],[(7,[4])],.nil⟩)] mq = some (121,zb1j.erase,[.tmp 2]) := by kernel_rfl
def zcbw : List ap := [Qo 2 (.mov QF)]
def zcbx : List ap := [Qo 3 (.mov (t 0)),
 Qo 4 (.lenS (t 3)),
 Qo 5 (.bin .geq (t 4) (ci 1)),
 Qo 6 (.mov (t 5)),
 Qt 6 7 (.mov (t 0)),
 Qt 6 8 (.lenS (t 7)),
 Qt 6 9 (.bin .leq (t 8) (ci 16)),
 Qo 10 (.pick (t 6) (t 9) QF),
 Qo 2 (.mov (t 10))]
def zb06 : TC := (.seq (.ops zcbw) (.clean [0] (.seq (.ops zcbx) (.ret [2]))))
def zb0y : TFn := ⟨11,zb06,[.tmp 2],false⟩
theorem zb71 : type_of% (ai @zcbw.eq_1 (ai @zcbx.eq_1 (ai @zb06.eq_1 @zb0y.eq_1))) := ⟨rfl,rfl,rfl,rfl⟩
theorem zctv : xa Try.prog [] qo = some (11,zb06.erase,[.tmp 2]) := by kernel_rfl
def zb8x : List ap := [Qo 6 (.mov QF)]
def zb8y : List ap := [Qo 7 (.mov (t 0)),
 Qo 8 (.mov (t 1)),
 Qo 9 (.bin .geq (t 7) (t 8)),
 Qo 10 (.mov (t 9)),
 Qt 10 11 (.mov (t 0)),
 Qt 10 12 (.mov (t 2)),
 Qt 10 13 (.bin .leq (t 11) (t 12)),
 Qo 14 (.pick (t 10) (t 13) QF),
 Qo 6 (.mov (t 14))]
def zbz1 : TC := (.seq (.ops zb8x) (.clean [0,1,2] (.seq (.ops zb8y) (.ret [6]))))
def zbzu : TFn := ⟨15,zbz1,[.tmp 6],false⟩
theorem zcl4 : type_of% (ai @zb8x.eq_1 (ai @zb8y.eq_1 (ai @zbz1.eq_1 @zbzu.eq_1))) := ⟨rfl,rfl,rfl,rfl⟩
theorem zbi0 : xa Try.prog [] lz = some (15,zbz1.erase,[.tmp 6]) := by kernel_rfl
def zcef : List ap := [Qo 5 (.box de 1 (t 2)),
 Qo 6 (.mov QF)]
def zceg : List ap := [Qo 7 (.mov (t 0)),
 Qo 8 (.lenL (t 7)),
 Qo 9 (.mov (t 1)),
 Qo 10 (.bin .eql (t 8) (t 9)),
 Qo 11 (.mov (t 10)),
 Qt 11 12 (.mov (t 0)),
 Qt 11 13 (.mkFunc (.func fv) [] [(t 5)]),
 Qt 11 14 (.call bq [(t 12),(t 13)]),
 Qt 11 15 (.un .not (t 14)),
 Qo 16 (.pick (t 11) (t 15) QF),
 Qo 6 (.mov (t 16))]
def zb1k : TC := (.seq (.ops zcef) (.clean [0,1,5] (.seq (.ops zceg) (.ret [6]))))
def zb1c : TFn := ⟨17,zb1k,[.tmp 6],false⟩
theorem zb88 : type_of% (ai @zcef.eq_1 (ai @zceg.eq_1 (ai @zb1k.eq_1 @zb1c.eq_1))) := ⟨rfl,rfl,rfl,rfl⟩
theorem zct3 : xa Try.prog [] qn = some (17,zb1k.erase,[.tmp 6]) := by kernel_rfl
def ke : List ap := [Qo 4 (.mov QF)]
def kd : List ap := [Qo 5 (.mov (t 0)),
 Qo 6 (.mov (t 1)),
 Qo 7 (.call ca [(t 5),(t 6)]),
 Qo 8 (.bin .geq (t 7) (ci 0)),
 Qo 4 (.mov (t 8))]
def fq : TC := (.seq (.ops ke) (.clean [0,1] (.seq (.ops kd) (.ret [4]))))
def fu : TFn := ⟨9,fq,[.tmp 4],false⟩
theorem ui : type_of% (ai @ke.eq_1 (ai @kd.eq_1 (ai @fq.eq_1 @fu.eq_1))) := ⟨rfl,rfl,rfl,rfl⟩
theorem uh : xa Try.prog [] bq = some (9,fq.erase,[.tmp 4]) := by kernel_rfl
def me : List ap := [Qo 4 (.mov (ci 0))]
def mc : List ap := [Qo 6 (.mov (t 0)),
 Qo 7 (.lenL (t 6)),
 Qo 8 (.mov (ci 0))]
def mb : List ap := [Qo 9 (.bin .lss (t 8) (t 7))]
def ma : List ap := [Qo 10 (.mov (t 8)),
 Qo 5 (.mov (t 10))]
def l9 : List ap := [Qo 11 (.mov (t 1)),
 Qo 12 (.mov (t 0)),
 Qo 13 (.mov (t 5)),
 Qo 14 (.indexSl 1 (t 12) (t 13)),
 Qo 15 (.load1 (t 14)),
 Qo 16 (.callv (t 11) [(t 15)])]
def l7 : List ap := [Qo 17 (.mov (t 5)),
 Qo 4 (.mov (t 17))]
def l6 : List ap := [Qo 18 (.bin .add (t 8) (ci 1)),
 Qo 8 (.mov (t 18))]
def cv : TC := (.seq (.ops mb) (.clean [0,1,7,8,9] (.seq (.cond (t 9) .skip (.exit 0)) (.clean [0,1,7,8] (.seq (.block 1 [0,1,7,8] (.seq (.ops ma) (.clean [0,1,5,7,8] (.seq (.ops l9) (.clean [0,1,5,7,8,16] (.cond (t 16) (.seq (.ops l7) (.ret [4])) .skip)))))) (.clean [0,1,7,8] (.ops l6)))))))
def l5 : List ap := [Qo 4 (.mov (ci (-1)))]
def g9 : TC := (.seq (.ops me) (.clean [0,1] (.seq (.seq (.ops mc) (.block 0 [] (.clean [0,1,7,8] (.loop [0,1,7,8] cv)))) (.clean [] (.seq (.ops l5) (.ret [4]))))))
def ij : TFn := ⟨19,g9,[.tmp 4],false⟩
theorem b9 : type_of% (ai @me.eq_1 (ai @mc.eq_1 (ai @mb.eq_1 (ai @ma.eq_1 (ai @l9.eq_1 (ai @l7.eq_1 (ai @l6.eq_1 (ai @l5.eq_1 (ai @g9.eq_1 @ij.eq_1))))))))) := ⟨rfl,rfl,rfl,rfl,rfl,rfl,rfl,rfl,rfl,rfl⟩
theorem vx : xa Try.prog [] ca = some (19,g9.erase,[.tmp 4]) := by kernel_rfl
def zcgo : List ap := [Qo 3 (.mov QF)]
def zcgp : List ap := [Qo 4 (.mov (t 0)),
 Qo 5 (.lenS (t 4)),
 Qo 6 (.load1 (t 1)),
 Qo 7 (.bin .neq (t 5) (t 6)),
 Qo 3 (.mov (t 7))]
def zp : TC := (.seq (.ops zcgo) (.clean [0,1] (.seq (.ops zcgp) (.ret [3]))))
def z8 : TFn := ⟨8,zp,[.tmp 3],false⟩
theorem zcqg : type_of% (ai @zcgo.eq_1 (ai @zcgp.eq_1 (ai @zp.eq_1 @z8.eq_1))) := ⟨rfl,rfl,rfl,rfl⟩
theorem zcql : xa Try.prog [] fv = some (8,zp.erase,[.tmp 3]) := by kernel_rfl
def zb93 : List ap := [Qo 2 (.box jv 5 (t 0)),
 Qo 4 (.mov QF)]
def zb94 : List ap := [Qo 5 (.fieldAddr 0 (t 2)),
 Qo 6 (.load1 (t 5)),
 Qo 7 (.mov (t 1)),
 Qo 8 (.bin .sub (t 7) (ci 1)),
 Qo 9 (.call lz [(t 6),(ci 0),(t 8)]),
 Qo 10 (.mov (t 9)),
 Qt 10 11 (.fieldAddr 1 (t 2)),
 Qt 10 12 (.load1 (t 11)),
 Qt 10 13 (.mov (t 1)),
 Qt 10 14 (.bin .sub (t 13) (ci 1)),
 Qt 10 15 (.call lz [(t 12),(ci 0),(t 14)]),
 Qo 16 (.pick (t 10) (t 15) QF),
 Qo 17 (.mov (t 16)),
 Qt 17 18 (.fieldAddr 0 (t 2)),
 Qt 17 19 (.load1 (t 18)),
 Qt 17 20 (.fieldAddr 1 (t 2)),
 Qt 17 21 (.load1 (t 20)),
 Qt 17 22 (.bin .neq (t 19) (t 21)),
 Qo 23 (.pick (t 17) (t 22) QF),
 Qo 24 (.mov (t 23)),
 Qt 24 25 (.fieldAddr 2 (t 2)),
 Qt 24 26 (.load1 (t 25)),
 Qt 24 27 (.call lz [(t 26),(ci 0),(ci 3)]),
 Qo 28 (.pick (t 24) (t 27) QF),
 Qo 29 (.mov (t 28)),
 Qt 29 30 (.fieldAddr 3 (t 2)),
 Qt 29 31 (.load1 (t 30)),
 Qt 29 32 (.call qo [(t 31)]),
 Qo 33 (.pick (t 29) (t 32) QF),
 Qo 34 (.mov (t 33)),
 Qt 34 35 (.fieldAddr 4 (t 2)),
 Qt 34 36 (.load1 (t 35)),
 Qt 34 37 (.call lz [(t 36),(ci 1),(ci 1125899906842624)]),
 Qo 38 (.pick (t 34) (t 37) QF),
 Qo 4 (.mov (t 38))]
def zb0n : TC := (.seq (.ops zb93) (.clean [1,2] (.seq (.ops zb94) (.ret [4]))))
def zb0g : TFn := ⟨39,zb0n,[.tmp 4],false⟩
theorem zh : type_of% (ai @zb93.eq_1 (ai @zb94.eq_1 (ai @zb0n.eq_1 @zb0g.eq_1))) := ⟨rfl,rfl,rfl,rfl⟩
theorem zbcs : xa Try.prog [] zk = some (39,zb0n.erase,[.tmp 4]) := by kernel_rfl
def zcgl : List ap := [Qo 3 (.mov QF)]
def zcgm : List ap := [Qo 4 (.mov (t 0)),
 Qo 5 (.load1 (t 1)),
 Qo 6 (.bin .sub (t 5) (ci 1)),
 Qo 7 (.call lz [(t 4),(ci 0),(t 6)]),
 Qo 8 (.un .not (t 7)),
 Qo 3 (.mov (t 8))]
def zq : TC := (.seq (.ops zcgl) (.clean [0,1] (.seq (.ops zcgm) (.ret [3]))))
def z9 : TFn := ⟨9,zq,[.tmp 3],false⟩
theorem zcqf : type_of% (ai @zcgl.eq_1 (ai @zcgm.eq_1 (ai @zq.eq_1 @z9.eq_1))) := ⟨rfl,rfl,rfl,rfl⟩
theorem zcqk : xa Try.prog [] fx = some (9,zq.erase,[.tmp 3]) := by kernel_rfl
def sc : List ap := [Qo 2 (.mov QF)]
def sb : List ap := [Qo 6 .mkMap,
 Qo 3 (.mov (t 6))]
def sa : List ap := [Qo 7 (.mov (t 0)),
 Qo 8 (.lenL (t 7)),
 Qo 9 (.mov (ci 0))]
def r9 : List ap := [Qo 10 (.bin .lss (t 9) (t 8))]
def r8 : List ap := [Qo 11 (.indexSl 1 (t 7) (t 9)),
 Qo 12 (.load1 (t 11)),
 Qo 5 (.mov (t 12))]
def r7 : List ap := [Qo 13 (.mov (t 3)),
 Qo 14 (.mov (t 5)),
 Qo 15 (.mapGet eu (t 13) (t 14))]
def r6 : List ap := [Qo 2 (.mov QF)]
def rz : List ap := [Qo 16 (.mov (t 3)),
 Qo 17 (.mov (t 5)),
 ⟨⟨none,.mapSet eu (t 16) (t 17) QT,none⟩,0⟩]
def ry : List ap := [Qo 18 (.bin .add (t 9) (ci 1)),
 Qo 9 (.mov (t 18))]
def yn : TC := (.seq (.ops r9) (.clean [3,7,8,9,10] (.seq (.cond (t 10) .skip (.exit 0)) (.clean [3,7,8,9] (.seq (.block 1 [3,7,8,9] (.seq (.ops r8) (.clean [3,5,7,8,9] (.seq (.seq (.ops r7) (.clean [3,5,7,8,9,15] (.cond (t 15) (.seq (.ops r6) (.ret [2])) .skip))) (.clean [3,5,7,8,9] (.ops rz)))))) (.clean [3,7,8,9] (.ops ry)))))))
def rx : List ap := [Qo 2 (.mov QT)]
def nz : TC := (.seq (.ops sc) (.clean [0] (.seq (.ops sb) (.clean [0,3] (.seq (.seq (.ops sa) (.block 0 [] (.clean [3,7,8,9] (.loop [3,7,8,9] yn)))) (.clean [] (.seq (.ops rx) (.ret [2]))))))))
theorem zcr9 : xa Try.prog [] fj = some (19,nz.erase,[.tmp 2]) := by kernel_rfl
def ud : List ap := [Qo 2 (.mov QF)]
def uc : List ap := [Qo 6 .mkMap,
 Qo 3 (.mov (t 6))]
def ua : List ap := [Qo 7 (.mov (t 0)),
 Qo 8 (.lenL (t 7)),
 Qo 9 (.mov (ci 0))]
def t9 : List ap := [Qo 10 (.bin .lss (t 9) (t 8))]
def t8 : List ap := [Qo 11 (.indexSl 2 (t 7) (t 9)),
 Qo 12 (.loadN 2 (t 11)),
 Qo 5 (.box nr 2 (.const (.agg #[(.int .i64 0),(.int .i64 0)]))),
 ⟨⟨none,.store 2 (t 5) (t 12),none⟩,0⟩]
def t7 : List ap := [Qo 13 (.mov (t 3)),
 Qo 14 (.loadN 2 (t 5)),
 Qo 15 (.mapGet nr (t 13) (t 14))]
def t6 : List ap := [Qo 2 (.mov QF)]
def t5 : List ap := [Qo 16 (.mov (t 3)),
 Qo 17 (.loadN 2 (t 5)),
 ⟨⟨none,.mapSet nr (t 16) (t 17) QT,none⟩,0⟩]
def t4 : List ap := [Qo 18 (.bin .add (t 9) (ci 1)),
 Qo 9 (.mov (t 18))]
def z1 : TC := (.seq (.ops t9) (.clean [3,7,8,9,10] (.seq (.cond (t 10) .skip (.exit 0)) (.clean [3,7,8,9] (.seq (.block 1 [3,7,8,9] (.seq (.ops t8) (.clean [3,5,7,8,9] (.seq (.seq (.ops t7) (.clean [3,5,7,8,9,15] (.cond (t 15) (.seq (.ops t6) (.ret [2])) .skip))) (.clean [3,5,7,8,9] (.ops t5)))))) (.clean [3,7,8,9] (.ops t4)))))))
def tz : List ap := [Qo 2 (.mov QT)]
def o8 : TC := (.seq (.ops ud) (.clean [0] (.seq (.ops uc) (.clean [0,3] (.seq (.seq (.ops ua) (.block 0 [] (.clean [3,7,8,9] (.loop [3,7,8,9] z1)))) (.clean [] (.seq (.ops tz) (.ret [2]))))))))
theorem zcry : xa Try.prog [] g7 = some (19,o8.erase,[.tmp 2]) := by kernel_rfl
def wz : List ap := [Qo 2 (.mov QF)]
def wy : List ap := [Qo 6 .mkMap,
 Qo 3 (.mov (t 6))]
def wx : List ap := [Qo 7 (.mov (t 0)),
 Qo 8 (.lenL (t 7)),
 Qo 9 (.mov (ci 0))]
def ww : List ap := [Qo 10 (.bin .lss (t 9) (t 8))]
def wv : List ap := [Qo 11 (.indexSl 1 (t 7) (t 9)),
 Qo 12 (.load1 (t 11)),
 Qo 5 (.mov (t 12))]
def wu : List ap := [Qo 13 (.mov (t 3)),
 Qo 14 (.mov (t 5)),
 Qo 15 (.mapGet de (t 13) (t 14))]
def wq : List ap := [Qo 2 (.mov QF)]
def wj : List ap := [Qo 16 (.mov (t 3)),
 Qo 17 (.mov (t 5)),
 ⟨⟨none,.mapSet de (t 16) (t 17) QT,none⟩,0⟩]
def wg : List ap := [Qo 18 (.bin .add (t 9) (ci 1)),
 Qo 9 (.mov (t 18))]
def zcgv : TC := (.seq (.ops ww) (.clean [3,7,8,9,10] (.seq (.cond (t 10) .skip (.exit 0)) (.clean [3,7,8,9] (.seq (.block 1 [3,7,8,9] (.seq (.ops wv) (.clean [3,5,7,8,9] (.seq (.seq (.ops wu) (.clean [3,5,7,8,9,15] (.cond (t 15) (.seq (.ops wq) (.ret [2])) .skip))) (.clean [3,5,7,8,9] (.ops wj)))))) (.clean [3,7,8,9] (.ops wg)))))))
def we : List ap := [Qo 2 (.mov QT)]
def tg : TC := (.seq (.ops wz) (.clean [0] (.seq (.ops wy) (.clean [0,3] (.seq (.seq (.ops wx) (.block 0 [] (.clean [3,7,8,9] (.loop [3,7,8,9] zcgv)))) (.clean [] (.seq (.ops we) (.ret [2]))))))))
theorem zcqt : xa Try.prog [] jw = some (19,tg.erase,[.tmp 2]) := by kernel_rfl
def nj : List ap := [Qo 4 (.mov QF)]
def nh : List ap := [Qo 5 (.mov (t 0)),
 Qo 6 (.mov (t 1)),
 Qo 7 (.call dy [(t 5),(t 6)]),
 Qo 8 (.bin .geq (t 7) (ci 0)),
 Qo 4 (.mov (t 8))]
def jh : TC := (.seq (.ops nj) (.clean [0,1] (.seq (.ops nh) (.ret [4]))))
def ju : TFn := ⟨9,jh,[.tmp 4],false⟩
theorem yj : type_of% (ai @nj.eq_1 (ai @nh.eq_1 (ai @jh.eq_1 @ju.eq_1))) := ⟨rfl,rfl,rfl,rfl⟩
theorem yi : xa Try.prog [] db = some (9,jh.erase,[.tmp 4]) := by kernel_rfl
def pm : List ap := [Qo 4 (.mov (ci 0))]
def pk : List ap := [Qo 6 (.mov (t 0)),
 Qo 7 (.lenL (t 6)),
 Qo 8 (.mov (ci 0))]
def pj : List ap := [Qo 9 (.bin .lss (t 8) (t 7))]
def pi : List ap := [Qo 10 (.mov (t 8)),
 Qo 5 (.mov (t 10))]
def ph : List ap := [Qo 11 (.mov (t 1)),
 Qo 12 (.mov (t 0)),
 Qo 13 (.mov (t 5)),
 Qo 14 (.indexSl 1 (t 12) (t 13)),
 Qo 15 (.load1 (t 14)),
 Qo 16 (.callv (t 11) [(t 15)])]
def pg : List ap := [Qo 17 (.mov (t 5)),
 Qo 4 (.mov (t 17))]
def pf : List ap := [Qo 18 (.bin .add (t 8) (ci 1)),
 Qo 8 (.mov (t 18))]
def d7 : TC := (.seq (.ops pj) (.clean [0,1,7,8,9] (.seq (.cond (t 9) .skip (.exit 0)) (.clean [0,1,7,8] (.seq (.block 1 [0,1,7,8] (.seq (.ops pi) (.clean [0,1,5,7,8] (.seq (.ops ph) (.clean [0,1,5,7,8,16] (.cond (t 16) (.seq (.ops pg) (.ret [4])) .skip)))))) (.clean [0,1,7,8] (.ops pf)))))))
def pe : List ap := [Qo 4 (.mov (ci (-1)))]
def lp : TC := (.seq (.ops pm) (.clean [0,1] (.seq (.seq (.ops pk) (.block 0 [] (.clean [0,1,7,8] (.loop [0,1,7,8] d7)))) (.clean [] (.seq (.ops pe) (.ret [4]))))))
def ly : TFn := ⟨19,lp,[.tmp 4],false⟩
theorem dw : type_of% (ai @pm.eq_1 (ai @pk.eq_1 (ai @pj.eq_1 (ai @pi.eq_1 (ai @ph.eq_1 (ai @pg.eq_1 (ai @pf.eq_1 (ai @pe.eq_1 (ai @lp.eq_1 @ly.eq_1))))))))) := ⟨rfl,rfl,rfl,rfl,rfl,rfl,rfl,rfl,rfl,rfl⟩
theorem zcsz : xa Try.prog [] dy = some (19,lp.erase,[.tmp 4]) := by kernel_rfl
def om : List ap := [Qo 4 (.mov QF)]
def ol : List ap := [Qo 5 (.mov (t 0)),
 Qo 6 (.mov (t 1)),
 Qo 7 (.call eh [(t 5),(t 6)]),
 Qo 8 (.bin .geq (t 7) (ci 0)),
 Qo 4 (.mov (t 8))]
def kf : TC := (.seq (.ops om) (.clean [0,1] (.seq (.ops ol) (.ret [4]))))
def ki : TFn := ⟨9,kf,[.tmp 4],false⟩
theorem zcs2 : type_of% (ai @om.eq_1 (ai @ol.eq_1 (ai @kf.eq_1 @ki.eq_1))) := ⟨rfl,rfl,rfl,rfl⟩
theorem zcs3 : xa Try.prog [] cn = some (9,kf.erase,[.tmp 4]) := by kernel_rfl
def rr : List ap := [Qo 4 (.mov (ci 0))]
def rq : List ap := [Qo 6 (.mov (t 0)),
 Qo 7 (.lenL (t 6)),
 Qo 8 (.mov (ci 0))]
def rp : List ap := [Qo 9 (.bin .lss (t 8) (t 7))]
def rn : List ap := [Qo 10 (.mov (t 8)),
 Qo 5 (.mov (t 10))]
def rm : List ap := [Qo 11 (.mov (t 1)),
 Qo 12 (.mov (t 0)),
 Qo 13 (.mov (t 5)),
 Qo 14 (.indexSl 1 (t 12) (t 13)),
 Qo 15 (.load1 (t 14)),
 Qo 16 (.eqB false (t 11) (t 15))]
def rk : List ap := [Qo 17 (.mov (t 5)),
 Qo 4 (.mov (t 17))]
def rj : List ap := [Qo 18 (.bin .add (t 8) (ci 1)),
 Qo 8 (.mov (t 18))]
def fg : TC := (.seq (.ops rp) (.clean [0,1,7,8,9] (.seq (.cond (t 9) .skip (.exit 0)) (.clean [0,1,7,8] (.seq (.block 1 [0,1,7,8] (.seq (.ops rn) (.clean [0,1,5,7,8] (.seq (.ops rm) (.clean [0,1,5,7,8,16] (.cond (t 16) (.seq (.ops rk) (.ret [4])) .skip)))))) (.clean [0,1,7,8] (.ops rj)))))))
def ri : List ap := [Qo 4 (.mov (ci (-1)))]
def mr : TC := (.seq (.ops rr) (.clean [0,1] (.seq (.seq (.ops rq) (.block 0 [] (.clean [0,1,7,8] (.loop [0,1,7,8] fg)))) (.clean [] (.seq (.ops ri) (.ret [4]))))))
def m4 : TFn := ⟨19,mr,[.tmp 4],false⟩
theorem eg : type_of% (ai @rr.eq_1 (ai @rq.eq_1 (ai @rp.eq_1 (ai @rn.eq_1 (ai @rm.eq_1 (ai @rk.eq_1 (ai @rj.eq_1 (ai @ri.eq_1 (ai @mr.eq_1 @m4.eq_1))))))))) := ⟨rfl,rfl,rfl,rfl,rfl,rfl,rfl,rfl,rfl,rfl⟩
theorem zcsr : xa Try.prog [] eh = some (19,mr.erase,[.tmp 4]) := by kernel_rfl
def zcex : List ap := [Qo 4 (.box a9 7 (t 0)),
 Qo 8 (.mov (.const (Go.Value.slice none 0 0)))]
def zcey : List ap := [Qo 17 (.fieldAddr 1 (t 4)),
 Qo 18 (.load1 (t 17)),
 Qo 19 (.lenL (t 18)),
 Qm 1 20 (.makeSl zbwu 1 [(.bool false)] (t 19) (t 19)),
 Qo 9 (.mov (t 20))]
def zcez : List ap := [Qo 21 (.mov (t 1)),
 Qm 1 22 (.buildSl de 1 1 [(.int .i64 0)] [(0,1,(t 21))]),
 Qo 10 (.mov (t 22))]
def zce0 : List ap := [Qo 23 (.mov (t 10)),
 Qo 24 (.lenL (t 23)),
 Qo 11 (.mov (t 24))]
def zce1 : List ap := [Qo 25 (.mov (t 11)),
 Qo 26 (.bin .eql (t 25) (ci 0))]
def zce2 : List ap := [Qo 27 (.mov (t 10)),
 Qo 28 (.mov (t 11)),
 Qo 29 (.bin .sub (t 28) (ci 1)),
 Qo 30 (.indexSl 1 (t 27) (t 29)),
 Qo 31 (.load1 (t 30)),
 Qo 12 (.mov (t 31))]
def zce3 : List ap := [Qo 32 (.mov (t 10)),
 Qo 33 (.mov (t 11)),
 Qo 34 (.bin .sub (t 33) (ci 1)),
 Qo 35 (.sliceSl 1 (t 32) none (some (t 34))),
 Qo 10 (.mov (t 35))]
def zce4 : List ap := [Qo 36 (.fieldAddr 2 (t 4)),
 Qo 37 (.load1 (t 36)),
 Qo 38 (.lenL (t 37)),
 Qo 39 (.mov (ci 0))]
def zce5 : List ap := [Qo 40 (.bin .lss (t 39) (t 38))]
def zce6 : List ap := [Qo 41 (.indexSl 5 (t 37) (t 39)),
 Qo 42 (.loadN 5 (t 41)),
 Qo 14 (.box jv 5 (.const (.agg #[(.int .i64 0),(.int .i64 0),(.int .i64 0),(.string ⟨#[]⟩),(.int .i64 0)]))),
 ⟨⟨none,.store 5 (t 14) (t 42),none⟩,0⟩]
def zcgc : List ap := [Qo 43 (.fieldAddr 0 (t 14)),
 Qo 44 (.load1 (t 43)),
 Qo 45 (.fieldAddr 1 (t 14)),
 Qo 46 (.load1 (t 45)),
 Qo 15 (.mov (t 44)),
 Qo 16 (.mov (t 46))]
def zcgd : List ap := [Qo 47 (.mov (t 2))]
def zcge : List ap := [Qo 48 (.mov (t 16)),
 Qo 49 (.mov (t 15)),
 Qo 15 (.mov (t 48)),
 Qo 16 (.mov (t 49))]
def zcgf : List ap := [Qo 50 (.mov (t 15)),
 Qo 51 (.mov (t 12)),
 Qo 52 (.bin .eql (t 50) (t 51)),
 Qo 53 (.mov (t 52)),
 Qt 53 54 (.mov (t 9)),
 Qt 53 55 (.mov (t 16)),
 Qt 53 56 (.indexSl 1 (t 54) (t 55)),
 Qt 53 57 (.load1 (t 56)),
 Qt 53 58 (.un .not (t 57)),
 Qo 59 (.pick (t 53) (t 58) QF),
 Qo 60 (.mov (t 59)),
 Qt 60 61 (.mov (t 3)),
 Qt 60 62 (.mov (t 16)),
 Qt 60 63 (.callv (t 61) [(t 62)]),
 Qo 64 (.pick (t 60) (t 63) QF)]
def zcgg : List ap := [Qo 65 (.mov (t 9)),
 Qo 66 (.mov (t 16)),
 Qo 67 (.indexSl 1 (t 65) (t 66)),
 ⟨⟨none,.store 1 (t 67) QT,none⟩,0⟩]
def zcgh : List ap := [Qo 68 (.mov (t 10)),
 Qo 69 (.mov (t 16)),
 Qo 70 (.buildSl de 1 1 [(.int .i64 0)] [(0,1,(t 69))]),
 Qm 4 71 (.append de 1 8 (t 68) (t 70)),
 Qo 10 (.mov (t 71))]
def zcgi : List ap := [Qo 72 (.bin .add (t 39) (ci 1)),
 Qo 39 (.mov (t 72))]
def ei : TC := (.seq (.ops zce5) (.clean [2,3,4,9,10,12,37,38,39,40] (.seq (.cond (t 40) .skip (.exit 2)) (.clean [2,3,4,9,10,12,37,38,39] (.seq (.block 3 [2,3,4,9,10,12,37,38,39] (.seq (.ops zce6) (.clean [2,3,4,9,10,12,14,37,38,39] (.seq (.draw (pl zcgc)) (.clean [2,3,4,9,10,12,15,16,37,38,39] (.seq (.seq (.ops zcgd) (.clean [2,3,4,9,10,12,15,16,37,38,39,47] (.cond (t 47) (.ops zcge) .skip))) (.clean [2,3,4,9,10,12,15,16,37,38,39] (.seq (.ops zcgf) (.clean [2,3,4,9,10,12,16,37,38,39,64] (.cond (t 64) (.seq (.ops zcgg) (.clean [2,3,4,9,10,12,16,37,38,39] (.ops zcgh))) .skip)))))))))) (.clean [2,3,4,9,10,12,37,38,39] (.ops zcgi)))))))
def nk : TC := (.block 1 [2,3,4,9,10] (.seq (.ops zce0) (.clean [2,3,4,9,10,11] (.seq (.seq (.ops zce1) (.clean [2,3,4,9,10,11,26] (.cond (t 26) (.exit 0) .skip))) (.clean [2,3,4,9,10,11] (.seq (.ops zce2) (.clean [2,3,4,9,10,11,12] (.seq (.ops zce3) (.clean [2,3,4,9,10,12] (.seq (.ops zce4) (.block 2 [2,3,4,9,10] (.clean [2,3,4,9,10,12,37,38,39] (.loop [2,3,4,9,10,12,37,38,39] ei)))))))))))))
def zcgj : List ap := [Qo 73 (.mov (t 9)),
 Qo 8 (.mov (t 73))]
def zb10 : TC := (.seq (.ops zcex) (.clean [1,2,3,4] (.seq (.ops zcey) (.clean [1,2,3,4,9] (.seq (.ops zcez) (.clean [2,3,4,9,10] (.seq .skip (.seq (.block 0 [9] (.clean [2,3,4,9,10] (.loop [2,3,4,9,10] nk))) (.clean [9] (.seq (.ops zcgj) (.ret [8])))))))))))
def zb1t : TFn := ⟨74,zb10,[.tmp 8],true⟩
theorem d9 : type_of% (ai @zcex.eq_1 (ai @zcey.eq_1 (ai @zcez.eq_1 (ai @zce0.eq_1 (ai @zce1.eq_1 (ai @zce2.eq_1 (ai @zce3.eq_1 (ai @zce4.eq_1 (ai @zce5.eq_1 (ai @zce6.eq_1 (ai @zcgc.eq_1 (ai @zcgd.eq_1 (ai @zcge.eq_1 (ai @zcgf.eq_1 (ai @zcgg.eq_1 (ai @zcgh.eq_1 (ai @zcgi.eq_1 (ai @zcgj.eq_1 (ai @zb10.eq_1 @zb1t.eq_1))))))))))))))))))) := ⟨rfl,rfl,rfl,rfl,rfl,rfl,rfl,rfl,rfl,rfl,rfl,rfl,rfl,rfl,rfl,rfl,rfl,rfl,rfl,rfl⟩
theorem zcpq : xa Try.prog [(10,⟨[0,1,2,3,4,5],[0,1,0,4,3,31],[],[],.nil⟩)] il = some (74,zb10.erase,[.tmp 8]) := by kernel_rfl
def zcga : List ap := [Qo 2 (.mov QF)]
def zcgb : List ap := [Qo 2 (.mov QT)]
def zt : TC := (.seq (.ops zcga) (.clean [] (.seq (.ops zcgb) (.ret [2]))))
def zb15 : TFn := ⟨3,zt,[.tmp 2],false⟩
theorem zcqe : type_of% (ai @zcga.eq_1 (ai @zcgb.eq_1 (ai @zt.eq_1 @zb15.eq_1))) := ⟨rfl,rfl,rfl,rfl⟩
theorem zcqj : xa Try.prog [] g8 = some (3,zt.erase,[.tmp 2]) := by kernel_rfl
def zchq : List ap := [Qo 1 (.box a9 7 (t 0)),
 Qo 2 (.mov QF)]
def zchr : List ap := [Qo 5 (.loadN 7 (t 1)),
 Qo 6 (.call mq [(t 5)]),
 Qo 7 (.un .not (t 6))]
def zchs : List ap := [Qo 2 (.mov QF)]
def zcht : List ap := [Qo 8 (.mkFunc (.func du) [] [(t 1)]),
 Qo 3 (.mov (t 8))]
def zchu : List ap := [Qo 9 (.fieldAddr 1 (t 1)),
 Qo 10 (.load1 (t 9)),
 Qo 11 (.lenL (t 10)),
 Qo 12 (.mov (ci 0))]
def zchg : List ap := [Qo 13 (.bin .lss (t 12) (t 11))]
def zchh : List ap := [Qo 14 (.mov (t 12)),
 Qo 4 (.mov (t 14))]
def zchi : List ap := [Qo 15 (.mov (t 3)),
 Qo 16 (.mov (t 4)),
 Qo 17 (.callv (t 15) [(t 16)]),
 Qo 18 (.mov (t 17)),
 Qt 18 19 (.loadN 7 (t 1)),
 Qt 18 20 (.mov (t 4)),
 Qt 18 21 (.mov (t 3)),
 Qt 18 22 (.call il [(t 19),(t 20),QF,(t 21)]),
 Qt 18 23 (.mov (t 4)),
 Qt 18 24 (.indexSl 1 (t 22) (t 23)),
 Qt 18 25 (.load1 (t 24)),
 Qo 26 (.pick (t 18) (t 25) QF)]
def zchj : List ap := [Qo 2 (.mov QF)]
def zchk : List ap := [Qo 27 (.bin .add (t 12) (ci 1)),
 Qo 12 (.mov (t 27))]
def jy : TC := (.seq (.ops zchg) (.clean [1,3,11,12,13] (.seq (.cond (t 13) .skip (.exit 0)) (.clean [1,3,11,12] (.seq (.block 1 [1,3,11,12] (.seq (.ops zchh) (.clean [1,3,4,11,12] (.seq (.ops zchi) (.clean [1,3,11,12,26] (.cond (t 26) (.seq (.ops zchj) (.ret [2])) .skip)))))) (.clean [1,3,11,12] (.ops zchk)))))))
def z0 : List ap := [Qo 2 (.mov QT)]
def vz : TC := (.seq (.ops zchq) (.clean [1] (.seq (.seq (.ops zchr) (.clean [1,7] (.cond (t 7) (.seq (.ops zchs) (.ret [2])) .skip))) (.clean [1] (.seq (.ops zcht) (.clean [1,3] (.seq (.seq (.ops zchu) (.block 0 [] (.clean [1,3,11,12] (.loop [1,3,11,12] jy)))) (.clean [] (.seq (.ops z0) (.ret [2]))))))))))
def w9 : TFn := ⟨28,vz,[.tmp 2],false⟩
theorem iu : type_of% (ai @zchq.eq_1 (ai @zchr.eq_1 (ai @zchs.eq_1 (ai @zcht.eq_1 (ai @zchu.eq_1 (ai @zchg.eq_1 (ai @zchh.eq_1 (ai @zchi.eq_1 (ai @zchj.eq_1 (ai @zchk.eq_1 (ai @z0.eq_1 (ai @vz.eq_1 @w9.eq_1)))))))))))) := ⟨rfl,rfl,rfl,rfl,rfl,rfl,rfl,rfl,rfl,rfl,rfl,rfl,rfl⟩
theorem zcrk : xa Try.prog [] kb = some (28,vz.erase,[.tmp 2]) := by kernel_rfl
def ym : List ap := [Qo 3 (.mov QF)]
def yl : List ap := [Qo 4 (.fieldAddr 3 (t 1)),
 Qo 5 (.load1 (t 4)),
 Qo 6 (.mov (t 0)),
 Qo 7 (.call dh [(t 5),(t 6)]),
 Qo 8 (.un .not (t 7)),
 Qo 3 (.mov (t 8))]
def tq : TC := (.seq (.ops ym) (.clean [0,1] (.seq (.ops yl) (.ret [3]))))
def ug : TFn := ⟨9,tq,[.tmp 3],false⟩
theorem zcr7 : type_of% (ai @ym.eq_1 (ai @yl.eq_1 (ai @tq.eq_1 @ug.eq_1))) := ⟨rfl,rfl,rfl,rfl⟩
theorem zcr8 : xa Try.prog [] du = some (9,tq.erase,[.tmp 3]) := by kernel_rfl
def qa : List ap := [Qo 4 (.mov QF)]
def p9 : List ap := [Qo 5 (.mov (t 0)),
 Qo 6 (.mov (t 1)),
 Qo 7 (.call fo [(t 5),(t 6)]),
 Qo 8 (.bin .geq (t 7) (ci 0)),
 Qo 4 (.mov (t 8))]
def mf : TC := (.seq (.ops qa) (.clean [0,1] (.seq (.ops p9) (.ret [4]))))
def mh : TFn := ⟨9,mf,[.tmp 4],false⟩
theorem zcst : type_of% (ai @qa.eq_1 (ai @p9.eq_1 (ai @mf.eq_1 @mh.eq_1))) := ⟨rfl,rfl,rfl,rfl⟩
theorem zcsu : xa Try.prog [] dh = some (9,mf.erase,[.tmp 4]) := by kernel_rfl
def uz : List ap := [Qo 4 (.mov (ci 0))]
def uy : List ap := [Qo 6 (.mov (t 0)),
 Qo 7 (.lenL (t 6)),
 Qo 8 (.mov (ci 0))]
def ux : List ap := [Qo 9 (.bin .lss (t 8) (t 7))]
def uw : List ap := [Qo 10 (.mov (t 8)),
 Qo 5 (.mov (t 10))]
def uv : List ap := [Qo 11 (.mov (t 1)),
 Qo 12 (.mov (t 0)),
 Qo 13 (.mov (t 5)),
 Qo 14 (.indexSl 1 (t 12) (t 13)),
 Qo 15 (.load1 (t 14)),
 Qo 16 (.bin .eql (t 11) (t 15))]
def uu : List ap := [Qo 17 (.mov (t 5)),
 Qo 4 (.mov (t 17))]
def ut : List ap := [Qo 18 (.bin .add (t 8) (ci 1)),
 Qo 8 (.mov (t 18))]
def gr : TC := (.seq (.ops ux) (.clean [0,1,7,8,9] (.seq (.cond (t 9) .skip (.exit 0)) (.clean [0,1,7,8] (.seq (.block 1 [0,1,7,8] (.seq (.ops uw) (.clean [0,1,5,7,8] (.seq (.ops uv) (.clean [0,1,5,7,8,16] (.cond (t 16) (.seq (.ops uu) (.ret [4])) .skip)))))) (.clean [0,1,7,8] (.ops ut)))))))
def ur : List ap := [Qo 4 (.mov (ci (-1)))]
def n4 : TC := (.seq (.ops uz) (.clean [0,1] (.seq (.seq (.ops uy) (.block 0 [] (.clean [0,1,7,8] (.loop [0,1,7,8] gr)))) (.clean [] (.seq (.ops ur) (.ret [4]))))))
def n6 : TFn := ⟨19,n4,[.tmp 4],false⟩
theorem fk : type_of% (ai @uz.eq_1 (ai @uy.eq_1 (ai @ux.eq_1 (ai @uw.eq_1 (ai @uv.eq_1 (ai @uu.eq_1 (ai @ut.eq_1 (ai @ur.eq_1 (ai @n4.eq_1 @n6.eq_1))))))))) := ⟨rfl,rfl,rfl,rfl,rfl,rfl,rfl,rfl,rfl,rfl⟩
theorem zcsm : xa Try.prog [] fo = some (19,n4.erase,[.tmp 4]) := by kernel_rfl
def zcdg : List ap := [Qo 2 (.box a9 7 (t 0)),
 Qo 3 (.box za 1 (t 1)),
 Qo 4 (.mov QF)]
def zcdh : List ap := [Qo 7 (.loadN 7 (t 2)),
 Qo 8 (.call mq [(t 7)]),
 Qo 9 (.un .not (t 8)),
 Qo 10 (.mov (t 9)),
 Qf 10 11 (.load1 (t 3)),
 Qf 10 12 (.lenL (t 11)),
 Qf 10 13 (.bin .eql (t 12) (ci 0)),
 Qo 14 (.pick (t 10) QT (t 13))]
def zcdi : List ap := [Qo 4 (.mov QF)]
def zcdj : List ap := [Qo 15 (.load1 (t 3)),
 Qo 16 (.lenL (t 15)),
 Qo 17 (.mov (ci 0))]
def zcdk : List ap := [Qo 18 (.bin .lss (t 17) (t 16))]
def zcdl : List ap := [Qo 19 (.mov (t 17)),
 Qo 20 (.indexSl 1 (t 15) (t 17)),
 Qo 21 (.load1 (t 20)),
 Qo 5 (.box de 1 (.const (.int .i64 0))),
 Qo 6 (.box de 1 (.const (.int .i64 0))),
 ⟨⟨none,.store 1 (t 5) (t 19),none⟩,0⟩,
 ⟨⟨none,.store 1 (t 6) (t 21),none⟩,0⟩]
def zcdm : List ap := [Qo 22 (.load1 (t 6)),
 Qo 23 (.bin .lss (t 22) (ci 0)),
 Qo 24 (.mov (t 23)),
 Qf 24 25 (.load1 (t 6)),
 Qf 24 26 (.fieldAddr 1 (t 2)),
 Qf 24 27 (.load1 (t 26)),
 Qf 24 28 (.lenL (t 27)),
 Qf 24 29 (.bin .geq (t 25) (t 28)),
 Qo 30 (.pick (t 24) QT (t 29)),
 Qo 31 (.mov (t 30)),
 Qf 31 32 (.load1 (t 3)),
 Qf 31 33 (.load1 (t 5)),
 Qf 31 34 (.sliceSl 1 (t 32) none (some (t 33))),
 Qf 31 35 (.load1 (t 6)),
 Qf 31 36 (.call dh [(t 34),(t 35)]),
 Qo 37 (.pick (t 31) QT (t 36))]
def zcdn : List ap := [Qo 4 (.mov QF)]
def zcdo : List ap := [Qo 38 (.load1 (t 5)),
 Qo 39 (.bin .gtr (t 38) (ci 0)),
 Qo 40 (.mov (t 39)),
 Qt 40 41 (.fieldAddr 2 (t 2)),
 Qt 40 42 (.load1 (t 41)),
 Qt 40 43 (.mkFunc (.func fy) [] [(t 3),(t 5),(t 6)]),
 Qt 40 44 (.call bh [(t 42),(t 43)]),
 Qt 40 45 (.un .not (t 44)),
 Qo 46 (.pick (t 40) (t 45) QF)]
def zcdp : List ap := [Qo 4 (.mov QF)]
def zcet : List ap := [Qo 47 (.bin .add (t 17) (ci 1)),
 Qo 17 (.mov (t 47))]
def jg : TC := (.seq (.ops zcdk) (.clean [2,3,15,16,17,18] (.seq (.cond (t 18) .skip (.exit 0)) (.clean [2,3,15,16,17] (.seq (.block 1 [2,3,15,16,17] (.seq (.ops zcdl) (.clean [2,3,5,6,15,16,17] (.seq (.seq (.draw (pl zcdm)) (.clean [2,3,5,6,15,16,17,37] (.cond (t 37) (.seq (.ops zcdn) (.ret [4])) .skip))) (.clean [2,3,5,6,15,16,17] (.seq (.ops zcdo) (.clean [2,3,15,16,17,46] (.cond (t 46) (.seq (.ops zcdp) (.ret [4])) .skip)))))))) (.clean [2,3,15,16,17] (.ops zcet)))))))
def zceu : List ap := [Qo 4 (.mov QT)]
def zb1i : TC := (.seq (.ops zcdg) (.clean [2,3] (.seq (.seq (.ops zcdh) (.clean [2,3,14] (.cond (t 14) (.seq (.ops zcdi) (.ret [4])) .skip))) (.clean [2,3] (.seq (.seq (.ops zcdj) (.block 0 [] (.clean [2,3,15,16,17] (.loop [2,3,15,16,17] jg)))) (.clean [] (.seq (.ops zceu) (.ret [4]))))))))
def zb1a : TFn := ⟨48,zb1i,[.tmp 4],false⟩
theorem ir : type_of% (ai @zcdg.eq_1 (ai @zcdh.eq_1 (ai @zcdi.eq_1 (ai @zcdj.eq_1 (ai @zcdk.eq_1 (ai @zcdl.eq_1 (ai @zcdm.eq_1 (ai @zcdn.eq_1 (ai @zcdo.eq_1 (ai @zcdp.eq_1 (ai @zcet.eq_1 (ai @zceu.eq_1 (ai @zb1i.eq_1 @zb1a.eq_1))))))))))))) := ⟨rfl,rfl,rfl,rfl,rfl,rfl,rfl,rfl,rfl,rfl,rfl,rfl,rfl,rfl⟩
theorem zct7 : xa Try.prog [(6,⟨[0,1,2,3,4,5,6,7,8,9,10,11,12,13,14,15],[0,1,3,7,7,23,55,127,255,511,1023,1023,4095,1023,16383,32767],[],[],.nil⟩)] iv = some (48,zb1i.erase,[.tmp 4]) := by kernel_rfl
def jr : List ap := [Qo 4 (.mov QF)]
def jq : List ap := [Qo 5 (.mov (t 0)),
 Qo 6 (.mov (t 1)),
 Qo 7 (.call bv [(t 5),(t 6)]),
 Qo 8 (.bin .geq (t 7) (ci 0)),
 Qo 4 (.mov (t 8))]
def en : TC := (.seq (.ops jr) (.clean [0,1] (.seq (.ops jq) (.ret [4]))))
def ep : TFn := ⟨9,en,[.tmp 4],false⟩
theorem sg : type_of% (ai @jr.eq_1 (ai @jq.eq_1 (ai @en.eq_1 @ep.eq_1))) := ⟨rfl,rfl,rfl,rfl⟩
theorem sf : xa Try.prog [] bh = some (9,en.erase,[.tmp 4]) := by kernel_rfl
def ky : List ap := [Qo 4 (.mov (ci 0))]
def kx : List ap := [Qo 6 (.mov (t 0)),
 Qo 7 (.lenL (t 6)),
 Qo 8 (.mov (ci 0))]
def kw : List ap := [Qo 9 (.bin .lss (t 8) (t 7))]
def ku : List ap := [Qo 10 (.mov (t 8)),
 Qo 5 (.mov (t 10))]
def kq : List ap := [Qo 11 (.mov (t 1)),
 Qo 12 (.mov (t 0)),
 Qo 13 (.mov (t 5)),
 Qo 14 (.indexSl 5 (t 12) (t 13)),
 Qo 15 (.loadN 5 (t 14)),
 Qo 16 (.callv (t 11) [(t 15)])]
def kp : List ap := [Qo 17 (.mov (t 5)),
 Qo 4 (.mov (t 17))]
def ko : List ap := [Qo 18 (.bin .add (t 8) (ci 1)),
 Qo 8 (.mov (t 18))]
def cd : TC := (.seq (.ops kw) (.clean [0,1,7,8,9] (.seq (.cond (t 9) .skip (.exit 0)) (.clean [0,1,7,8] (.seq (.block 1 [0,1,7,8] (.seq (.ops ku) (.clean [0,1,5,7,8] (.seq (.ops kq) (.clean [0,1,5,7,8,16] (.cond (t 16) (.seq (.ops kp) (.ret [4])) .skip)))))) (.clean [0,1,7,8] (.ops ko)))))))
def kn : List ap := [Qo 4 (.mov (ci (-1)))]
def gh : TC := (.seq (.ops ky) (.clean [0,1] (.seq (.seq (.ops kx) (.block 0 [] (.clean [0,1,7,8] (.loop [0,1,7,8] cd)))) (.clean [] (.seq (.ops kn) (.ret [4]))))))
def gi : TFn := ⟨19,gh,[.tmp 4],false⟩
theorem bu : type_of% (ai @ky.eq_1 (ai @kx.eq_1 (ai @kw.eq_1 (ai @ku.eq_1 (ai @kq.eq_1 (ai @kp.eq_1 (ai @ko.eq_1 (ai @kn.eq_1 (ai @gh.eq_1 @gi.eq_1))))))))) := ⟨rfl,rfl,rfl,rfl,rfl,rfl,rfl,rfl,rfl,rfl⟩
theorem vg : xa Try.prog [] bv = some (19,gh.erase,[.tmp 4]) := by kernel_rfl
def zcf4 : List ap := [Qo 4 (.box jv 5 (t 0)),
 Qo 5 (.mov QF)]
def zcf5 : List ap := [Qo 6 (.fieldAddr 0 (t 4)),
 Qo 7 (.load1 (t 6)),
 Qo 8 (.load1 (t 1)),
 Qo 9 (.load1 (t 2)),
 Qo 10 (.bin .sub (t 9) (ci 1)),
 Qo 11 (.indexSl 1 (t 8) (t 10)),
 Qo 12 (.load1 (t 11)),
 Qo 13 (.bin .eql (t 7) (t 12)),
 Qo 14 (.mov (t 13)),
 Qt 14 15 (.fieldAddr 1 (t 4)),
 Qt 14 16 (.load1 (t 15)),
 Qt 14 17 (.load1 (t 3)),
 Qt 14 18 (.bin .eql (t 16) (t 17)),
 Qo 19 (.pick (t 14) (t 18) QF),
 Qo 5 (.mov (t 19))]
def zv : TC := (.seq (.ops zcf4) (.clean [1,2,3,4] (.seq (.draw (pl zcf5)) (.ret [5]))))
def zb13 : TFn := ⟨20,zv,[.tmp 5],false⟩
theorem zcc8 : type_of% (ai @zcf4.eq_1 (ai @zcf5.eq_1 (ai @zv.eq_1 @zb13.eq_1))) := ⟨rfl,rfl,rfl,rfl⟩
theorem zcqh : xa Try.prog [(1,⟨[0,1,2,3,4,5,6,7,8,9,10,11,12,13,14],[0,1,0,0,8,28,60,127,255,511,1023,511,4095,8191,16383],[],[],.nil⟩)] fy = some (20,zv.erase,[.tmp 5]) := by kernel_rfl
def zcep : List ap := [Qo 2 (.box a9 7 (t 0)),
 Qo 3 (.box de 1 (t 1)),
 Qo 4 (.mov (.const (Go.Value.slice none 0 0)))]
def zceq : List ap := [Qo 5 (.loadN 7 (t 2)),
 Qo 6 (.mkFunc (.func io) [] [(t 3)]),
 Qo 7 (.call kj [(t 5),(t 6)]),
 Qo 4 (.mov (t 7))]
def zb1x : TC := (.seq (.ops zcep) (.clean [2,3] (.seq (.ops zceq) (.ret [4]))))
def zb1q : TFn := ⟨8,zb1x,[.tmp 4],false⟩
theorem zcpk : type_of% (ai @zcep.eq_1 (ai @zceq.eq_1 (ai @zb1x.eq_1 @zb1q.eq_1))) := ⟨rfl,rfl,rfl,rfl⟩
theorem zcpn : xa Try.prog [] re = some (8,zb1x.erase,[.tmp 4]) := by kernel_rfl
def zce7 : List ap := [Qo 2 (.box a9 7 (t 0)),
 Qo 4 (.mov (.const (Go.Value.slice none 0 0)))]
def zce8 : List ap := [Qm 1 5 (.mov (.const (Go.Value.slice none 0 0)))]
def zce9 : List ap := [Qo 8 (.loadN 7 (t 2)),
 Qo 9 (.call mq [(t 8)]),
 Qo 10 (.un .not (t 9))]
def zcfp : List ap := [Qo 4 (.mov (.const (Go.Value.slice none 0 0)))]
def zcfq : List ap := [Qo 11 (.fieldAddr 2 (t 2)),
 Qo 12 (.load1 (t 11)),
 Qo 13 (.lenL (t 12)),
 Qo 14 (.mov (ci 0))]
def zcfr : List ap := [Qo 15 (.bin .lss (t 14) (t 13))]
def zcfs : List ap := [Qo 16 (.mov (t 14)),
 Qo 17 (.indexSl 5 (t 12) (t 14)),
 Qo 18 (.loadN 5 (t 17)),
 Qo 7 (.box jv 5 (.const (.agg #[(.int .i64 0),(.int .i64 0),(.int .i64 0),(.string ⟨#[]⟩),(.int .i64 0)]))),
 Qo 6 (.mov (t 16)),
 ⟨⟨none,.store 5 (t 7) (t 18),none⟩,0⟩]
def zcft : List ap := [Qo 19 (.mov (t 1)),
 Qo 20 (.loadN 5 (t 7)),
 Qo 21 (.callv (t 19) [(t 20)])]
def zcfu : List ap := [Qo 22 (.mov (t 5)),
 Qo 23 (.mov (t 6)),
 Qo 24 (.buildSl de 1 1 [(.int .i64 0)] [(0,1,(t 23))]),
 Qo 25 (.append de 1 8 (t 22) (t 24)),
 Qo 5 (.mov (t 25))]
def zcfv : List ap := [Qo 26 (.bin .add (t 14) (ci 1)),
 Qo 14 (.mov (t 26))]
def ib : TC := (.seq (.ops zcfr) (.clean [1,5,12,13,14,15] (.seq (.cond (t 15) .skip (.exit 0)) (.clean [1,5,12,13,14] (.seq (.block 1 [1,5,12,13,14] (.seq (.ops zcfs) (.clean [1,5,6,7,12,13,14] (.seq (.ops zcft) (.clean [1,5,6,12,13,14,21] (.cond (t 21) (.ops zcfu) .skip)))))) (.clean [1,5,12,13,14] (.ops zcfv)))))))
def zcgk : List ap := [Qo 27 (.mov (t 5)),
 Qo 4 (.mov (t 27))]
def zb11 : TC := (.seq (.ops zce7) (.clean [1,2] (.seq (.ops zce8) (.clean [1,2,5] (.seq (.seq (.ops zce9) (.clean [1,2,5,10] (.cond (t 10) (.seq (.ops zcfp) (.ret [4])) .skip))) (.clean [1,2,5] (.seq (.seq (.ops zcfq) (.block 0 [5] (.clean [1,5,12,13,14] (.loop [1,5,12,13,14] ib)))) (.clean [5] (.seq (.ops zcgk) (.ret [4]))))))))))
def zb1u : TFn := ⟨28,zb11,[.tmp 4],false⟩
theorem gf : type_of% (ai @zce7.eq_1 (ai @zce8.eq_1 (ai @zce9.eq_1 (ai @zcfp.eq_1 (ai @zcfq.eq_1 (ai @zcfr.eq_1 (ai @zcfs.eq_1 (ai @zcft.eq_1 (ai @zcfu.eq_1 (ai @zcfv.eq_1 (ai @zcgk.eq_1 (ai @zb11.eq_1 @zb1u.eq_1)))))))))))) := ⟨rfl,rfl,rfl,rfl,rfl,rfl,rfl,rfl,rfl,rfl,rfl,rfl,rfl⟩
theorem zcpr : xa Try.prog [] kj = some (28,zb11.erase,[.tmp 4]) := by kernel_rfl
def zcg6 : List ap := [Qo 2 (.box jv 5 (t 0)),
 Qo 3 (.mov QF)]
def zcg7 : List ap := [Qo 4 (.fieldAddr 1 (t 2)),
 Qo 5 (.load1 (t 4)),
 Qo 6 (.load1 (t 1)),
 Qo 7 (.bin .eql (t 5) (t 6)),
 Qo 3 (.mov (t 7))]
def x8 : TC := (.seq (.ops zcg6) (.clean [1,2] (.seq (.ops zcg7) (.ret [3]))))
def yf : TFn := ⟨8,x8,[.tmp 3],false⟩
theorem zcqo : type_of% (ai @zcg6.eq_1 (ai @zcg7.eq_1 (ai @x8.eq_1 @yf.eq_1))) := ⟨rfl,rfl,rfl,rfl⟩
theorem zcqr : xa Try.prog [] io = some (8,x8.erase,[.tmp 3]) := by kernel_rfl
def zcer : List ap := [Qo 2 (.box a9 7 (t 0)),
 Qo 3 (.box de 1 (t 1)),
 Qo 4 (.mov (.const (Go.Value.slice none 0 0)))]
def zces : List ap := [Qo 5 (.loadN 7 (t 2)),
 Qo 6 (.mkFunc (.func im) [] [(t 3)]),
 Qo 7 (.call kj [(t 5),(t 6)]),
 Qo 4 (.mov (t 7))]
def zb1y : TC := (.seq (.ops zcer) (.clean [2,3] (.seq (.ops zces) (.ret [4]))))
def zb1r : TFn := ⟨8,zb1y,[.tmp 4],false⟩
theorem zcpl : type_of% (ai @zcer.eq_1 (ai @zces.eq_1 (ai @zb1y.eq_1 @zb1r.eq_1))) := ⟨rfl,rfl,rfl,rfl⟩
theorem zcpo : xa Try.prog [] rc = some (8,zb1y.erase,[.tmp 4]) := by kernel_rfl
def zcg8 : List ap := [Qo 2 (.box jv 5 (t 0)),
 Qo 3 (.mov QF)]
def zcg9 : List ap := [Qo 4 (.fieldAddr 0 (t 2)),
 Qo 5 (.load1 (t 4)),
 Qo 6 (.load1 (t 1)),
 Qo 7 (.bin .eql (t 5) (t 6)),
 Qo 3 (.mov (t 7))]
def x7 : TC := (.seq (.ops zcg8) (.clean [1,2] (.seq (.ops zcg9) (.ret [3]))))
def ye : TFn := ⟨8,x7,[.tmp 3],false⟩
theorem zcqp : type_of% (ai @zcg8.eq_1 (ai @zcg9.eq_1 (ai @x7.eq_1 @ye.eq_1))) := ⟨rfl,rfl,rfl,rfl⟩
theorem zcqs : xa Try.prog [] im = some (8,x7.erase,[.tmp 3]) := by kernel_rfl
end Ic
end Go.Proofs.Ytdcfoaafkppojaa
