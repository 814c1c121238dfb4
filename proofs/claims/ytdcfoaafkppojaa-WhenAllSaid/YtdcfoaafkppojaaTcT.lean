/- The code of functions for the tree level, printed by a program out of the model's own print; the kernel checks each. -/
import Derived.Test.YtdcfoaafkppojaaProg
import Derived.Test.YtdcfoaafkppojaaTv9
import Derived.KernelRfl
set_option linter.unusedVariables false
namespace Go.Proofs.Ytdcfoaafkppojaa
open Go Go.RowKit Sh
namespace Ic
abbrev t (n : Nat) : Operand := .tmp n
abbrev ci (n : Int) : Operand := .const (.int .i64 n)
abbrev ny : Nat := 3
abbrev nz : Nat := 16
abbrev qk : Nat := 17
abbrev gf : Nat := 18
abbrev il : Nat := 19
abbrev qi : Nat := 20
abbrev ux : Nat := 21
abbrev qz : Nat := 22
abbrev zh : Nat := 23
abbrev kn : Nat := 24
abbrev m6 : Nat := 25
abbrev sy : Nat := 26
abbrev u5 : Nat := 28
abbrev nc : Nat := 47
abbrev nd : Nat := 48
abbrev wa : Nat := 53
abbrev uz : Nat := 54
abbrev n4 : Nat := 55
abbrev wd : Nat := 56
abbrev m9 : Nat := 87
abbrev ix : Nat := 88
abbrev m7 : Nat := 89
abbrev uw : Nat := 90
abbrev fb : Nat := 91
abbrev er : Nat := 92
abbrev ft : Nat := 93
abbrev gx : Nat := 94
abbrev bz : Nat := 95
abbrev ra : Nat := 96
abbrev nw : Nat := 97
abbrev nv : Nat := 98
abbrev uy : Nat := 99
abbrev jz : Nat := 118
abbrev im : Nat := 119
abbrev wb : Nat := 120
abbrev rc : Nat := 121
abbrev rb : Nat := 122
abbrev u4 : Nat := 123
abbrev bg : Nat := 131
abbrev fa : Nat := 132
abbrev dj : Nat := 133
abbrev tc : Nat := 136
abbrev kg : Nat := 137
abbrev qj : Nat := 138
abbrev bl : Nat := 141
abbrev ta : Nat := 143
abbrev gq : Nat := 144
abbrev ka : Nat := 3
abbrev jq : Nat := 5
abbrev ek : Nat := 9
abbrev aq : Nat := 27
abbrev ou : Nat := 43
abbrev fe : Nat := 45
abbrev jy : Nat := 87
abbrev za0r : Nat := 106
abbrev di : Nat := 130
abbrev gn : Nat := 136
def zadk : List am := [⟨⟨(some 2),.box aq 7 (t 0),none⟩,0⟩,
  ⟨⟨(some 4),.mov (.const (Go.Value.bool false)),none⟩,0⟩]
def zadj : List am := [⟨⟨(some 5),.loadN 7 (t 2),none⟩,0⟩,
  ⟨⟨(some 6),.call nz [(t 5)],none⟩,0⟩,
  ⟨⟨(some 7),.un .not (t 6),none⟩,0⟩]
def zadi : List am := [⟨⟨(some 8),.call qk [],none⟩,0⟩,
  ⟨⟨(some 4),.mov (t 8),none⟩,0⟩]
def zadh : List am := [⟨⟨(some 9),.loadN 7 (t 2),none⟩,0⟩,
  ⟨⟨(some 10),.mov (t 1),none⟩,0⟩,
  ⟨⟨(some 12),.loadN 7 (t 2),none⟩,0⟩,
  ⟨⟨(some 13),.mov (t 1),none⟩,0⟩,
  ⟨⟨(some 11),.call gf [(t 9),(t 10)],none⟩,0⟩,
  ⟨⟨(some 14),.call il [(t 12),(t 13)],none⟩,0⟩,
  ⟨⟨(some 15),.bin .eql (t 11) (t 14),none⟩,0⟩,
  ⟨⟨(some 16),.mov (t 15),none⟩,0⟩,
  ⟨⟨(some 17),.loadN 7 (t 2),(some (16,true))⟩,0⟩,
  ⟨⟨(some 19),.loadN 7 (t 2),(some (16,true))⟩,0⟩,
  ⟨⟨(some 18),.call qi [(t 17)],(some (16,true))⟩,0⟩,
  ⟨⟨(some 20),.call ux [(t 19)],(some (16,true))⟩,0⟩,
  ⟨⟨(some 21),.bin .eql (t 18) (t 20),(some (16,true))⟩,0⟩,
  ⟨⟨(some 22),.pick (t 16) (t 21) (.const (Go.Value.bool false)),none⟩,0⟩,
  ⟨⟨(some 23),.mov (t 22),none⟩,0⟩,
  ⟨⟨(some 24),.loadN 7 (t 2),(some (23,true))⟩,0⟩,
  ⟨⟨(some 26),.loadN 7 (t 2),(some (23,true))⟩,0⟩,
  ⟨⟨(some 25),.call qz [(t 24)],(some (23,true))⟩,0⟩,
  ⟨⟨(some 27),.call zh [(t 26)],(some (23,true))⟩,0⟩,
  ⟨⟨(some 28),.bin .eql (t 25) (t 27),(some (23,true))⟩,0⟩,
  ⟨⟨(some 29),.pick (t 23) (t 28) (.const (Go.Value.bool false)),none⟩,0⟩,
  ⟨⟨(some 30),.mov (t 29),none⟩,0⟩,
  ⟨⟨(some 31),.loadN 7 (t 2),(some (30,true))⟩,0⟩,
  ⟨⟨(some 33),.loadN 7 (t 2),(some (30,true))⟩,0⟩,
  ⟨⟨(some 32),.call m6 [(t 31)],(some (30,true))⟩,0⟩,
  ⟨⟨(some 34),.call sy [(t 33)],(some (30,true))⟩,0⟩,
  ⟨⟨(some 35),.call kn [(t 32),(t 34)],(some (30,true))⟩,0⟩,
  ⟨⟨(some 36),.pick (t 30) (t 35) (.const (Go.Value.bool false)),none⟩,0⟩,
  ⟨⟨(some 37),.mov (t 36),none⟩,0⟩,
  ⟨⟨(some 38),.call qk [],(some (37,true))⟩,0⟩,
  ⟨⟨(some 39),.pick (t 37) (t 38) (.const (Go.Value.bool false)),none⟩,0⟩,
  ⟨⟨(some 4),.mov (t 39),none⟩,0⟩]
def xi : TC := (.seq (.ops zadk) (.clean [1,2] (.seq (.seq (.ops zadj) (.clean [1,2,7] (.cond (t 7) (.seq (.ops zadi) (.ret [4])) .skip))) (.clean [1,2] (.seq (.draw (pl zadh)) (.ret [4]))))))
def xt : TFn := ⟨40,xi,[.tmp 4],false⟩
theorem nr : type_of% (ai @zadk.eq_1 (ai @zadj.eq_1 (ai @zadi.eq_1 (ai @zadh.eq_1 (ai @xi.eq_1 @xt.eq_1))))) := ⟨rfl,rfl,rfl,rfl,rfl,rfl⟩
theorem zavz : tu Try.prog [(3,⟨[0,1,3,4,2,5,6,7,8,10,9,11,12,13,14,15,17,16,18,19,20,21,22,24,23,25,26,27,28,29,30,31],[0,0,3,0,0,31,63,127,255,511,255,2047,4095,8191,16383,32767,65535,32767,262143,524287,1048575,2097151,4194303,8388607,4194303,33554431,67108863,134217727,268435455,536870911,1073741823,2147483647],[],[]⟩)] ny = some (40,xi.erase,[.tmp 4]) := by kernel_rfl
def zadu : List am := [⟨⟨(some 1),.box aq 7 (t 0),none⟩,0⟩,
  ⟨⟨(some 2),.mov (.const (Go.Value.bool false)),none⟩,0⟩]
def zadt : List am := [⟨⟨(some 7),.fieldAddr 1 (t 1),none⟩,0⟩,
  ⟨⟨(some 8),.load1 (t 7),none⟩,0⟩,
  ⟨⟨(some 9),.lenL (t 8),none⟩,0⟩,
  ⟨⟨(some 10),.bin .gtr (t 9) (ci 10),none⟩,0⟩,
  ⟨⟨(some 11),.mov (t 10),none⟩,0⟩,
  ⟨⟨(some 12),.fieldAddr 2 (t 1),(some (11,false))⟩,0⟩,
  ⟨⟨(some 13),.load1 (t 12),(some (11,false))⟩,0⟩,
  ⟨⟨(some 14),.lenL (t 13),(some (11,false))⟩,0⟩,
  ⟨⟨(some 15),.bin .gtr (t 14) (ci 20),(some (11,false))⟩,0⟩,
  ⟨⟨(some 16),.pick (t 11) (.const (Go.Value.bool true)) (t 15),none⟩,0⟩,
  ⟨⟨(some 17),.mov (t 16),none⟩,0⟩,
  ⟨⟨(some 18),.fieldAddr 3 (t 1),(some (17,false))⟩,0⟩,
  ⟨⟨(some 19),.load1 (t 18),(some (17,false))⟩,0⟩,
  ⟨⟨(some 20),.lenL (t 19),(some (17,false))⟩,0⟩,
  ⟨⟨(some 21),.bin .gtr (t 20) (ci 6),(some (17,false))⟩,0⟩,
  ⟨⟨(some 22),.pick (t 17) (.const (Go.Value.bool true)) (t 21),none⟩,0⟩,
  ⟨⟨(some 23),.mov (t 22),none⟩,0⟩,
  ⟨⟨(some 24),.fieldAddr 4 (t 1),(some (23,false))⟩,0⟩,
  ⟨⟨(some 25),.load1 (t 24),(some (23,false))⟩,0⟩,
  ⟨⟨(some 26),.lenL (t 25),(some (23,false))⟩,0⟩,
  ⟨⟨(some 27),.bin .gtr (t 26) (ci 6),(some (23,false))⟩,0⟩,
  ⟨⟨(some 28),.pick (t 23) (.const (Go.Value.bool true)) (t 27),none⟩,0⟩,
  ⟨⟨(some 29),.mov (t 28),none⟩,0⟩,
  ⟨⟨(some 30),.fieldAddr 0 (t 1),(some (29,false))⟩,0⟩,
  ⟨⟨(some 31),.load1 (t 30),(some (29,false))⟩,0⟩,
  ⟨⟨(some 32),.lenS (t 31),(some (29,false))⟩,0⟩,
  ⟨⟨(some 33),.bin .gtr (t 32) (ci 40),(some (29,false))⟩,0⟩,
  ⟨⟨(some 34),.pick (t 29) (.const (Go.Value.bool true)) (t 33),none⟩,0⟩]
def zads : List am := [⟨⟨(some 2),.mov (.const (Go.Value.bool false)),none⟩,0⟩]
def zadr : List am := [⟨⟨(some 3),.mov (ci 0),none⟩,0⟩]
def zadq : List am := [⟨⟨(some 35),.mov (t 3),none⟩,0⟩,
  ⟨⟨(some 36),.fieldAddr 1 (t 1),none⟩,0⟩,
  ⟨⟨(some 37),.load1 (t 36),none⟩,0⟩,
  ⟨⟨(some 38),.lenL (t 37),none⟩,0⟩,
  ⟨⟨(some 39),.bin .lss (t 35) (t 38),none⟩,0⟩]
def zado : List am := [⟨⟨(some 42),.fieldAddr 1 (t 1),none⟩,0⟩,
  ⟨⟨(some 43),.load1 (t 42),none⟩,0⟩,
  ⟨⟨(some 44),.mov (t 3),none⟩,0⟩,
  ⟨⟨(some 45),.indexSl 2 (t 43) (t 44),none⟩,0⟩,
  ⟨⟨(some 46),.fieldAddr 1 (t 45),none⟩,0⟩,
  ⟨⟨(some 47),.load1 (t 46),none⟩,0⟩,
  ⟨⟨(some 48),.lenL (t 47),none⟩,0⟩,
  ⟨⟨(some 49),.bin .gtr (t 48) (ci 6),none⟩,0⟩,
  ⟨⟨(some 50),.mov (t 49),none⟩,0⟩,
  ⟨⟨(some 51),.fieldAddr 1 (t 1),(some (50,false))⟩,0⟩,
  ⟨⟨(some 52),.load1 (t 51),(some (50,false))⟩,0⟩,
  ⟨⟨(some 53),.mov (t 3),(some (50,false))⟩,0⟩,
  ⟨⟨(some 54),.indexSl 2 (t 52) (t 53),(some (50,false))⟩,0⟩,
  ⟨⟨(some 55),.fieldAddr 0 (t 54),(some (50,false))⟩,0⟩,
  ⟨⟨(some 56),.load1 (t 55),(some (50,false))⟩,0⟩,
  ⟨⟨(some 57),.lenS (t 56),(some (50,false))⟩,0⟩,
  ⟨⟨(some 58),.bin .gtr (t 57) (ci 40),(some (50,false))⟩,0⟩,
  ⟨⟨(some 59),.pick (t 50) (.const (Go.Value.bool true)) (t 58),none⟩,0⟩]
def zadn : List am := [⟨⟨(some 2),.mov (.const (Go.Value.bool false)),none⟩,0⟩]
def zadm : List am := [⟨⟨(some 4),.mov (ci 0),none⟩,0⟩]
def zadl : List am := [⟨⟨(some 60),.mov (t 4),none⟩,0⟩,
  ⟨⟨(some 61),.fieldAddr 1 (t 1),none⟩,0⟩,
  ⟨⟨(some 62),.load1 (t 61),none⟩,0⟩,
  ⟨⟨(some 63),.mov (t 3),none⟩,0⟩,
  ⟨⟨(some 64),.indexSl 2 (t 62) (t 63),none⟩,0⟩,
  ⟨⟨(some 65),.fieldAddr 1 (t 64),none⟩,0⟩,
  ⟨⟨(some 66),.load1 (t 65),none⟩,0⟩,
  ⟨⟨(some 67),.lenL (t 66),none⟩,0⟩,
  ⟨⟨(some 68),.bin .lss (t 60) (t 67),none⟩,0⟩]
def zabv : List am := [⟨⟨(some 71),.fieldAddr 1 (t 1),none⟩,0⟩,
  ⟨⟨(some 72),.load1 (t 71),none⟩,0⟩,
  ⟨⟨(some 73),.mov (t 3),none⟩,0⟩,
  ⟨⟨(some 74),.indexSl 2 (t 72) (t 73),none⟩,0⟩,
  ⟨⟨(some 75),.fieldAddr 1 (t 74),none⟩,0⟩,
  ⟨⟨(some 76),.load1 (t 75),none⟩,0⟩,
  ⟨⟨(some 77),.mov (t 4),none⟩,0⟩,
  ⟨⟨(some 78),.indexSl 1 (t 76) (t 77),none⟩,0⟩,
  ⟨⟨(some 79),.load1 (t 78),none⟩,0⟩,
  ⟨⟨(some 80),.lenS (t 79),none⟩,0⟩,
  ⟨⟨(some 81),.bin .gtr (t 80) (ci 40),none⟩,0⟩]
def zabu : List am := [⟨⟨(some 2),.mov (.const (Go.Value.bool false)),none⟩,0⟩]
def zabw : List am := [⟨⟨(some 69),.mov (t 4),none⟩,0⟩,
  ⟨⟨(some 70),.bin .add (t 69) (ci 1),none⟩,0⟩,
  ⟨⟨(some 4),.mov (t 70),none⟩,0⟩]
def mo : TC := (.seq (.seq (.ops zadl) (.clean [1,3,4,68] (.cond (t 68) .skip (.exit 2)))) (.clean [1,3,4] (.seq (.block 3 [1,3,4] (.seq (.ops zabv) (.clean [1,3,4,81] (.cond (t 81) (.seq (.ops zabu) (.ret [2])) .skip)))) (.clean [1,3,4] (.ops zabw)))))
def zadp : List am := [⟨⟨(some 40),.mov (t 3),none⟩,0⟩,
  ⟨⟨(some 41),.bin .add (t 40) (ci 1),none⟩,0⟩,
  ⟨⟨(some 3),.mov (t 41),none⟩,0⟩]
def gv : TC := (.seq (.seq (.ops zadq) (.clean [1,3,39] (.cond (t 39) .skip (.exit 0)))) (.clean [1,3] (.seq (.block 1 [1,3] (.seq (.seq (.ops zado) (.clean [1,3,59] (.cond (t 59) (.seq (.ops zadn) (.ret [2])) .skip))) (.clean [1,3] (.seq (.ops zadm) (.block 2 [1,3] (.clean [1,3,4] (.loop [1,3,4] mo))))))) (.clean [1,3] (.ops zadp)))))
def zabt : List am := [⟨⟨(some 5),.mov (ci 0),none⟩,0⟩]
def zabs : List am := [⟨⟨(some 82),.mov (t 5),none⟩,0⟩,
  ⟨⟨(some 83),.fieldAddr 2 (t 1),none⟩,0⟩,
  ⟨⟨(some 84),.load1 (t 83),none⟩,0⟩,
  ⟨⟨(some 85),.lenL (t 84),none⟩,0⟩,
  ⟨⟨(some 86),.bin .lss (t 82) (t 85),none⟩,0⟩]
def zabq : List am := [⟨⟨(some 89),.fieldAddr 2 (t 1),none⟩,0⟩,
  ⟨⟨(some 90),.load1 (t 89),none⟩,0⟩,
  ⟨⟨(some 91),.mov (t 5),none⟩,0⟩,
  ⟨⟨(some 92),.indexSl 5 (t 90) (t 91),none⟩,0⟩,
  ⟨⟨(some 93),.fieldAddr 3 (t 92),none⟩,0⟩,
  ⟨⟨(some 94),.load1 (t 93),none⟩,0⟩,
  ⟨⟨(some 95),.lenS (t 94),none⟩,0⟩,
  ⟨⟨(some 96),.bin .gtr (t 95) (ci 40),none⟩,0⟩]
def zabp : List am := [⟨⟨(some 2),.mov (.const (Go.Value.bool false)),none⟩,0⟩]
def zabr : List am := [⟨⟨(some 87),.mov (t 5),none⟩,0⟩,
  ⟨⟨(some 88),.bin .add (t 87) (ci 1),none⟩,0⟩,
  ⟨⟨(some 5),.mov (t 88),none⟩,0⟩]
def mn : TC := (.seq (.seq (.ops zabs) (.clean [1,5,86] (.cond (t 86) .skip (.exit 4)))) (.clean [1,5] (.seq (.block 5 [1,5] (.seq (.ops zabq) (.clean [1,5,96] (.cond (t 96) (.seq (.ops zabp) (.ret [2])) .skip)))) (.clean [1,5] (.ops zabr)))))
def zabo : List am := [⟨⟨(some 6),.mov (ci 0),none⟩,0⟩]
def zabn : List am := [⟨⟨(some 97),.mov (t 6),none⟩,0⟩,
  ⟨⟨(some 98),.fieldAddr 4 (t 1),none⟩,0⟩,
  ⟨⟨(some 99),.load1 (t 98),none⟩,0⟩,
  ⟨⟨(some 100),.lenL (t 99),none⟩,0⟩,
  ⟨⟨(some 101),.bin .lss (t 97) (t 100),none⟩,0⟩]
def zabl : List am := [⟨⟨(some 104),.fieldAddr 4 (t 1),none⟩,0⟩,
  ⟨⟨(some 105),.load1 (t 104),none⟩,0⟩,
  ⟨⟨(some 106),.mov (t 6),none⟩,0⟩,
  ⟨⟨(some 107),.indexSl 1 (t 105) (t 106),none⟩,0⟩,
  ⟨⟨(some 108),.load1 (t 107),none⟩,0⟩,
  ⟨⟨(some 109),.lenS (t 108),none⟩,0⟩,
  ⟨⟨(some 110),.bin .gtr (t 109) (ci 40),none⟩,0⟩]
def zabk : List am := [⟨⟨(some 2),.mov (.const (Go.Value.bool false)),none⟩,0⟩]
def zabm : List am := [⟨⟨(some 102),.mov (t 6),none⟩,0⟩,
  ⟨⟨(some 103),.bin .add (t 102) (ci 1),none⟩,0⟩,
  ⟨⟨(some 6),.mov (t 103),none⟩,0⟩]
def mm : TC := (.seq (.seq (.ops zabn) (.clean [1,6,101] (.cond (t 101) .skip (.exit 6)))) (.clean [1,6] (.seq (.block 7 [1,6] (.seq (.ops zabl) (.clean [1,6,110] (.cond (t 110) (.seq (.ops zabk) (.ret [2])) .skip)))) (.clean [1,6] (.ops zabm)))))
def zabj : List am := [⟨⟨(some 2),.mov (.const (Go.Value.bool true)),none⟩,0⟩]
def xj : TC := (.seq (.ops zadu) (.clean [1] (.seq (.seq (.ops zadt) (.clean [1,34] (.cond (t 34) (.seq (.ops zads) (.ret [2])) .skip))) (.clean [1] (.seq (.seq (.ops zadr) (.block 0 [1] (.clean [1,3] (.loop [1,3] gv)))) (.clean [1] (.seq (.seq (.ops zabt) (.block 4 [1] (.clean [1,5] (.loop [1,5] mn)))) (.clean [1] (.seq (.seq (.ops zabo) (.block 6 [] (.clean [1,6] (.loop [1,6] mm)))) (.clean [] (.seq (.ops zabj) (.ret [2]))))))))))))
def xu : TFn := ⟨111,xj,[.tmp 2],false⟩
theorem ax : type_of% (ai @zadu.eq_1 (ai @zadt.eq_1 (ai @zads.eq_1 (ai @zadr.eq_1 (ai @zadq.eq_1 (ai @zado.eq_1 (ai @zadn.eq_1 (ai @zadm.eq_1 (ai @zadl.eq_1 (ai @zabv.eq_1 (ai @zabu.eq_1 (ai @zabw.eq_1 (ai @zadp.eq_1 (ai @zabt.eq_1 (ai @zabs.eq_1 (ai @zabq.eq_1 (ai @zabp.eq_1 (ai @zabr.eq_1 (ai @zabo.eq_1 (ai @zabn.eq_1 (ai @zabl.eq_1 (ai @zabk.eq_1 (ai @zabm.eq_1 (ai @zabj.eq_1 (ai @xj.eq_1 @xu.eq_1))))))))))))))))))))))))) := ⟨rfl,rfl,rfl,rfl,rfl,rfl,rfl,rfl,rfl,rfl,rfl,rfl,rfl,rfl,rfl,rfl,rfl,rfl,rfl,rfl,rfl,rfl,rfl,rfl,rfl,rfl⟩
theorem zav0 : tu Try.prog [] nz = some (111,xj.erase,[.tmp 2]) := by kernel_rfl
def zajp : List am := [⟨⟨(some 0),.mov (.const (Go.Value.bool false)),none⟩,0⟩]
def zajo : List am := [⟨⟨(some 3),.call u5 [(ci 3),(ci 10),(ci 5)],none⟩,0⟩,
  ⟨⟨(some 1),.box aq 7 (.const (.agg #[(.string ⟨#[]⟩),(.slice none 0 0),(.slice none 0 0),(.slice none 0 0),(.slice none 0 0),(.int .i64 0),(.int .i64 0)])),none⟩,0⟩,
  ⟨⟨none,.store 7 (t 1) (t 3),none⟩,0⟩]
def zajn : List am := [⟨⟨(some 4),.loadN 7 (t 1),none⟩,0⟩,
  ⟨⟨(some 5),.call m6 [(t 4)],none⟩,0⟩,
  ⟨⟨(some 2),.mov (t 5),none⟩,0⟩]
def zajm : List am := [⟨⟨(some 6),.mov (t 2),none⟩,0⟩,
  ⟨⟨(some 7),.lenL (t 6),none⟩,0⟩,
  ⟨⟨(some 8),.bin .eql (t 7) (ci 3),none⟩,0⟩,
  ⟨⟨(some 9),.mov (t 8),none⟩,0⟩,
  ⟨⟨(some 10),.mov (t 2),(some (9,true))⟩,0⟩,
  ⟨⟨(some 11),.indexSl 1 (t 10) (ci 0),(some (9,true))⟩,0⟩,
  ⟨⟨(some 12),.load1 (t 11),(some (9,true))⟩,0⟩,
  ⟨⟨(some 13),.bin .eql (t 12) (ci 25),(some (9,true))⟩,0⟩,
  ⟨⟨(some 14),.pick (t 9) (t 13) (.const (Go.Value.bool false)),none⟩,0⟩,
  ⟨⟨(some 15),.mov (t 14),none⟩,0⟩,
  ⟨⟨(some 16),.mov (t 2),(some (15,true))⟩,0⟩,
  ⟨⟨(some 17),.indexSl 1 (t 16) (ci 2),(some (15,true))⟩,0⟩,
  ⟨⟨(some 18),.load1 (t 17),(some (15,true))⟩,0⟩,
  ⟨⟨(some 19),.bin .eql (t 18) (ci 35),(some (15,true))⟩,0⟩,
  ⟨⟨(some 20),.pick (t 15) (t 19) (.const (Go.Value.bool false)),none⟩,0⟩,
  ⟨⟨(some 21),.mov (t 20),none⟩,0⟩,
  ⟨⟨(some 22),.loadN 7 (t 1),(some (21,true))⟩,0⟩,
  ⟨⟨(some 23),.call qz [(t 22)],(some (21,true))⟩,0⟩,
  ⟨⟨(some 24),.bin .eql (t 23) (ci 40),(some (21,true))⟩,0⟩,
  ⟨⟨(some 25),.pick (t 21) (t 24) (.const (Go.Value.bool false)),none⟩,0⟩,
  ⟨⟨(some 26),.mov (t 25),none⟩,0⟩,
  ⟨⟨(some 27),.loadN 7 (t 1),(some (26,true))⟩,0⟩,
  ⟨⟨(some 28),.call qi [(t 27)],(some (26,true))⟩,0⟩,
  ⟨⟨(some 29),.bin .eql (t 28) (ci 35),(some (26,true))⟩,0⟩,
  ⟨⟨(some 30),.pick (t 26) (t 29) (.const (Go.Value.bool false)),none⟩,0⟩,
  ⟨⟨(some 31),.mov (t 30),none⟩,0⟩,
  ⟨⟨(some 32),.loadN 7 (t 1),(some (31,true))⟩,0⟩,
  ⟨⟨(some 33),.call gf [(t 32),(ci 2)],(some (31,true))⟩,0⟩,
  ⟨⟨(some 34),.bin .eql (t 33) (ci 30),(some (31,true))⟩,0⟩,
  ⟨⟨(some 35),.pick (t 31) (t 34) (.const (Go.Value.bool false)),none⟩,0⟩,
  ⟨⟨(some 36),.mov (t 35),none⟩,0⟩,
  ⟨⟨(some 37),.build [(.string ⟨#[]⟩),(.slice none 0 0),(.slice none 0 0),(.slice none 0 0),(.slice none 0 0),(.int .i64 0),(.int .i64 0)] [],(some (36,true))⟩,0⟩,
  ⟨⟨(some 38),.call qz [(t 37)],(some (36,true))⟩,0⟩,
  ⟨⟨(some 39),.bin .eql (t 38) (ci 0),(some (36,true))⟩,0⟩,
  ⟨⟨(some 40),.pick (t 36) (t 39) (.const (Go.Value.bool false)),none⟩,0⟩,
  ⟨⟨(some 0),.mov (t 40),none⟩,0⟩]
def zach : TC := (.seq (.ops zajp) (.clean [] (.seq (.ops zajo) (.clean [1] (.seq (.ops zajn) (.clean [1,2] (.seq (.ops zajm) (.ret [0]))))))))
def zad7 : TFn := ⟨41,zach,[.tmp 0],false⟩
theorem qb : type_of% (ai @zajp.eq_1 (ai @zajo.eq_1 (ai @zajn.eq_1 (ai @zajm.eq_1 (ai @zach.eq_1 @zad7.eq_1))))) := ⟨rfl,rfl,rfl,rfl,rfl,rfl⟩
theorem za2r : tu Try.prog [] qk = some (41,zach.erase,[.tmp 0]) := by kernel_rfl
def yl : List am := [⟨⟨(some 2),.box aq 7 (t 0),none⟩,0⟩,
  ⟨⟨(some 4),.mov (ci 0),none⟩,0⟩]
def yk : List am := [⟨⟨(some 6),.fieldAddr 1 (t 2),none⟩,0⟩,
  ⟨⟨(some 7),.load1 (t 6),none⟩,0⟩,
  ⟨⟨(some 8),.lenL (t 7),none⟩,0⟩,
  ⟨⟨(some 5),.mov (t 8),none⟩,0⟩]
def yj : List am := [⟨⟨(some 9),.loadN 7 (t 2),none⟩,0⟩,
  ⟨⟨(some 10),.mov (t 5),none⟩,0⟩,
  ⟨⟨(some 11),.mov (t 1),none⟩,0⟩,
  ⟨⟨(some 12),.mov (t 5),none⟩,0⟩,
  ⟨⟨(some 13),.min (t 11) (t 12),none⟩,0⟩,
  ⟨⟨(some 14),.max (ci 1) (t 13),none⟩,0⟩,
  ⟨⟨(some 15),.bin .add (t 10) (t 14),none⟩,0⟩,
  ⟨⟨(some 16),.bin .sub (t 15) (ci 1),none⟩,0⟩,
  ⟨⟨(some 17),.call wa [(t 9),(t 16)],none⟩,0⟩,
  ⟨⟨(some 4),.mov (t 17),none⟩,0⟩]
def tx : TC := (.seq (.ops yl) (.clean [1,2] (.seq (.ops yk) (.clean [1,2,5] (.seq (.ops yj) (.ret [4]))))))
def t6 : TFn := ⟨18,tx,[.tmp 4],false⟩
theorem zarl : type_of% (ai @yl.eq_1 (ai @yk.eq_1 (ai @yj.eq_1 (ai @tx.eq_1 @t6.eq_1)))) := ⟨rfl,rfl,rfl,rfl,rfl⟩
theorem zare : tu Try.prog [] gf = some (18,tx.erase,[.tmp 4]) := by kernel_rfl
def zap6 : List am := [⟨⟨(some 2),.box aq 7 (t 0),none⟩,0⟩,
  ⟨⟨(some 4),.mov (ci 0),none⟩,0⟩]
def zap5 : List am := [⟨⟨(some 6),.loadN 7 (t 2),none⟩,0⟩,
  ⟨⟨(some 7),.call nc [(t 6)],none⟩,0⟩,
  ⟨⟨(some 8),.un .not (t 7),none⟩,0⟩]
def zap4 : List am := [⟨⟨(some 4),.mov (ci 0),none⟩,0⟩]
def zap3 : List am := [⟨⟨(some 5),.mov (.func jz),none⟩,0⟩]
def zap2 : List am := [⟨⟨(some 9),.mov (t 5),none⟩,0⟩,
  ⟨⟨(some 10),.loadN 7 (t 2),none⟩,0⟩,
  ⟨⟨(some 11),.mov (t 1),none⟩,0⟩,
  ⟨⟨(some 12),.callv (t 9) [(t 10),(t 11)],none⟩,0⟩,
  ⟨⟨(some 4),.mov (t 12),none⟩,0⟩]
def zali : TC := (.seq (.ops zap6) (.clean [1,2] (.seq (.seq (.ops zap5) (.clean [1,2,8] (.cond (t 8) (.seq (.ops zap4) (.ret [4])) .skip))) (.clean [1,2] (.seq (.ops zap3) (.clean [1,2,5] (.seq (.ops zap2) (.ret [4]))))))))
def zal2 : TFn := ⟨13,zali,[.tmp 4],false⟩
theorem za0m : type_of% (ai @zap6.eq_1 (ai @zap5.eq_1 (ai @zap4.eq_1 (ai @zap3.eq_1 (ai @zap2.eq_1 (ai @zali.eq_1 @zal2.eq_1)))))) := ⟨rfl,rfl,rfl,rfl,rfl,rfl,rfl⟩
theorem c_when_of : tu Try.prog [] wa = some (13,zali.erase,[.tmp 4]) := by kernel_rfl
def zafv : List am := [⟨⟨(some 1),.box aq 7 (t 0),none⟩,0⟩,
  ⟨⟨(some 2),.mov (.const (Go.Value.bool false)),none⟩,0⟩]
def zafu : List (am × List Nat) := [(⟨⟨(some 12),.fieldAddr 1 (t 1),none⟩,0⟩,[]),
  (⟨⟨(some 13),.load1 (t 12),none⟩,0⟩,[]),
  (⟨⟨(some 14),.lenL (t 13),none⟩,0⟩,[]),
  (⟨⟨(some 15),.fieldAddr 3 (t 1),none⟩,0⟩,[]),
  (⟨⟨(some 16),.load1 (t 15),none⟩,0⟩,[]),
  (⟨⟨(some 17),.lenL (t 16),none⟩,0⟩,[]),
  (⟨⟨(some 3),.box ka 1 (.const (.int .i64 0)),none⟩,0⟩,[]),
  (⟨⟨none,.store 1 (t 3) (t 14),none⟩,0⟩,[4]),
  (⟨⟨(some 4),.mov (t 17),none⟩,0⟩,[])]
def zaft : List am := [⟨⟨(some 18),.fieldAddr 0 (t 1),none⟩,0⟩,
  ⟨⟨(some 19),.load1 (t 18),none⟩,0⟩,
  ⟨⟨(some 20),.call m9 [(t 19)],none⟩,0⟩,
  ⟨⟨(some 21),.un .not (t 20),none⟩,0⟩,
  ⟨⟨(some 22),.mov (t 21),none⟩,0⟩,
  ⟨⟨(some 23),.load1 (t 3),(some (22,false))⟩,0⟩,
  ⟨⟨(some 24),.call ix [(t 23),(ci 2),(ci 6)],(some (22,false))⟩,0⟩,
  ⟨⟨(some 25),.un .not (t 24),(some (22,false))⟩,0⟩,
  ⟨⟨(some 26),.pick (t 22) (.const (Go.Value.bool true)) (t 25),none⟩,0⟩,
  ⟨⟨(some 27),.mov (t 26),none⟩,0⟩,
  ⟨⟨(some 28),.mov (t 4),(some (27,false))⟩,0⟩,
  ⟨⟨(some 29),.call ix [(t 28),(ci 1),(ci 3)],(some (27,false))⟩,0⟩,
  ⟨⟨(some 30),.un .not (t 29),(some (27,false))⟩,0⟩,
  ⟨⟨(some 31),.pick (t 27) (.const (Go.Value.bool true)) (t 30),none⟩,0⟩,
  ⟨⟨(some 32),.mov (t 31),none⟩,0⟩,
  ⟨⟨(some 33),.fieldAddr 2 (t 1),(some (32,false))⟩,0⟩,
  ⟨⟨(some 34),.load1 (t 33),(some (32,false))⟩,0⟩,
  ⟨⟨(some 35),.lenL (t 34),(some (32,false))⟩,0⟩,
  ⟨⟨(some 36),.call ix [(t 35),(ci 1),(ci 12)],(some (32,false))⟩,0⟩,
  ⟨⟨(some 37),.un .not (t 36),(some (32,false))⟩,0⟩,
  ⟨⟨(some 38),.pick (t 32) (.const (Go.Value.bool true)) (t 37),none⟩,0⟩,
  ⟨⟨(some 39),.mov (t 38),none⟩,0⟩,
  ⟨⟨(some 40),.fieldAddr 4 (t 1),(some (39,false))⟩,0⟩,
  ⟨⟨(some 41),.load1 (t 40),(some (39,false))⟩,0⟩,
  ⟨⟨(some 42),.mov (t 4),(some (39,false))⟩,0⟩,
  ⟨⟨(some 43),.call m7 [(t 41),(t 42),(ci 32)],(some (39,false))⟩,0⟩,
  ⟨⟨(some 44),.un .not (t 43),(some (39,false))⟩,0⟩,
  ⟨⟨(some 45),.pick (t 39) (.const (Go.Value.bool true)) (t 44),none⟩,0⟩,
  ⟨⟨(some 46),.mov (t 45),none⟩,0⟩,
  ⟨⟨(some 47),.fieldAddr 5 (t 1),(some (46,false))⟩,0⟩,
  ⟨⟨(some 48),.load1 (t 47),(some (46,false))⟩,0⟩,
  ⟨⟨(some 49),.call ix [(t 48),(ci 0),(ci 1099511627776)],(some (46,false))⟩,0⟩,
  ⟨⟨(some 50),.un .not (t 49),(some (46,false))⟩,0⟩,
  ⟨⟨(some 51),.pick (t 46) (.const (Go.Value.bool true)) (t 50),none⟩,0⟩,
  ⟨⟨(some 52),.mov (t 51),none⟩,0⟩,
  ⟨⟨(some 53),.fieldAddr 6 (t 1),(some (52,false))⟩,0⟩,
  ⟨⟨(some 54),.load1 (t 53),(some (52,false))⟩,0⟩,
  ⟨⟨(some 55),.call ix [(t 54),(ci 1),(ci 1048576)],(some (52,false))⟩,0⟩,
  ⟨⟨(some 56),.un .not (t 55),(some (52,false))⟩,0⟩,
  ⟨⟨(some 57),.pick (t 52) (.const (Go.Value.bool true)) (t 56),none⟩,0⟩]
def zafs : List am := [⟨⟨(some 2),.mov (.const (Go.Value.bool false)),none⟩,0⟩]
def zafr : List am := [⟨⟨(some 5),.mov (.const (Go.Value.slice none 0 0)),none⟩,1⟩]
def zafq : List am := [⟨⟨(some 58),.fieldAddr 1 (t 1),none⟩,0⟩,
  ⟨⟨(some 59),.load1 (t 58),none⟩,0⟩,
  ⟨⟨(some 60),.lenL (t 59),none⟩,0⟩,
  ⟨⟨(some 61),.mov (ci 0),none⟩,0⟩]
def zafp : List am := [⟨⟨(some 62),.bin .lss (t 61) (t 60),none⟩,0⟩]
def zafo : List am := [⟨⟨(some 63),.indexSl 2 (t 59) (t 61),none⟩,0⟩,
  ⟨⟨(some 64),.loadN 2 (t 63),none⟩,0⟩,
  ⟨⟨(some 7),.box fe 2 (.const (.agg #[(.string ⟨#[]⟩),(.slice none 0 0)])),none⟩,0⟩,
  ⟨⟨none,.store 2 (t 7) (t 64),none⟩,0⟩]
def zafn : List am := [⟨⟨(some 65),.fieldAddr 0 (t 7),none⟩,0⟩,
  ⟨⟨(some 66),.load1 (t 65),none⟩,0⟩,
  ⟨⟨(some 67),.call m9 [(t 66)],none⟩,0⟩,
  ⟨⟨(some 68),.un .not (t 67),none⟩,0⟩,
  ⟨⟨(some 69),.mov (t 68),none⟩,0⟩,
  ⟨⟨(some 70),.fieldAddr 1 (t 7),(some (69,false))⟩,0⟩,
  ⟨⟨(some 71),.load1 (t 70),(some (69,false))⟩,0⟩,
  ⟨⟨(some 72),.mov (t 4),(some (69,false))⟩,0⟩,
  ⟨⟨(some 73),.call m7 [(t 71),(t 72),(ci 16)],(some (69,false))⟩,0⟩,
  ⟨⟨(some 74),.un .not (t 73),(some (69,false))⟩,0⟩,
  ⟨⟨(some 75),.pick (t 69) (.const (Go.Value.bool true)) (t 74),none⟩,0⟩]
def zafm : List am := [⟨⟨(some 2),.mov (.const (Go.Value.bool false)),none⟩,0⟩]
def zacw : List am := [⟨⟨(some 76),.mov (t 5),none⟩,0⟩,
  ⟨⟨(some 77),.fieldAddr 0 (t 7),none⟩,0⟩,
  ⟨⟨(some 78),.load1 (t 77),none⟩,0⟩,
  ⟨⟨(some 79),.buildSl ek 1 1 [(.string ⟨#[]⟩)] [(0,1,(t 78))],none⟩,0⟩,
  ⟨⟨(some 80),.append ek 1 16 (t 76) (t 79),none⟩,0⟩,
  ⟨⟨(some 5),.mov (t 80),none⟩,0⟩]
def zacv : List am := [⟨⟨(some 81),.bin .add (t 61) (ci 1),none⟩,0⟩,
  ⟨⟨(some 61),.mov (t 81),none⟩,0⟩]
def kj : TC := (.seq (.ops zafp) (.clean [1,3,4,5,59,60,61,62] (.seq (.cond (t 62) .skip (.exit 0)) (.clean [1,3,4,5,59,60,61] (.seq (.block 1 [1,3,4,5,59,60,61] (.seq (.ops zafo) (.clean [1,3,4,5,7,59,60,61] (.seq (.seq (.ops zafn) (.clean [1,3,4,5,7,59,60,61,75] (.cond (t 75) (.seq (.ops zafm) (.ret [2])) .skip))) (.clean [1,3,4,5,7,59,60,61] (.ops zacw)))))) (.clean [1,3,4,5,59,60,61] (.ops zacv)))))))
def zacu : List am := [⟨⟨(some 8),.mov (.const (Go.Value.slice none 0 0)),none⟩,1⟩]
def zact : List am := [⟨⟨(some 82),.fieldAddr 2 (t 1),none⟩,0⟩,
  ⟨⟨(some 83),.load1 (t 82),none⟩,0⟩,
  ⟨⟨(some 84),.lenL (t 83),none⟩,0⟩,
  ⟨⟨(some 85),.mov (ci 0),none⟩,0⟩]
def zacs : List am := [⟨⟨(some 86),.bin .lss (t 85) (t 84),none⟩,0⟩]
def zacr : List am := [⟨⟨(some 87),.indexSl 5 (t 83) (t 85),none⟩,0⟩,
  ⟨⟨(some 88),.loadN 5 (t 87),none⟩,0⟩,
  ⟨⟨(some 10),.box ou 5 (.const (.agg #[(.int .i64 0),(.int .i64 0),(.int .i64 0),(.string ⟨#[]⟩),(.int .i64 0)])),none⟩,0⟩,
  ⟨⟨none,.store 5 (t 10) (t 88),none⟩,0⟩]
def zacq : List am := [⟨⟨(some 89),.loadN 5 (t 10),none⟩,0⟩,
  ⟨⟨(some 90),.load1 (t 3),none⟩,0⟩,
  ⟨⟨(some 91),.call uw [(t 89),(t 90)],none⟩,0⟩,
  ⟨⟨(some 92),.un .not (t 91),none⟩,0⟩]
def zacp : List am := [⟨⟨(some 2),.mov (.const (Go.Value.bool false)),none⟩,0⟩]
def zaco : List am := [⟨⟨(some 93),.mov (t 8),none⟩,0⟩,
  ⟨⟨(some 94),.fieldAddr 0 (t 10),none⟩,0⟩,
  ⟨⟨(some 95),.load1 (t 94),none⟩,0⟩,
  ⟨⟨(some 96),.fieldAddr 1 (t 10),none⟩,0⟩,
  ⟨⟨(some 97),.load1 (t 96),none⟩,0⟩,
  ⟨⟨(some 98),.build [(.int .i64 0),(.int .i64 0)] [(0,1,(t 95)),(1,1,(t 97))],none⟩,0⟩,
  ⟨⟨(some 99),.buildSl jy 2 1 [(.int .i64 0),(.int .i64 0)] [(0,2,(t 98))],none⟩,0⟩,
  ⟨⟨(some 100),.append jy 2 16 (t 93) (t 99),none⟩,0⟩,
  ⟨⟨(some 8),.mov (t 100),none⟩,0⟩]
def zacn : List am := [⟨⟨(some 101),.bin .add (t 85) (ci 1),none⟩,0⟩,
  ⟨⟨(some 85),.mov (t 101),none⟩,0⟩]
def oq : TC := (.seq (.ops zacs) (.clean [1,3,5,8,83,84,85,86] (.seq (.cond (t 86) .skip (.exit 2)) (.clean [1,3,5,8,83,84,85] (.seq (.block 3 [1,3,5,8,83,84,85] (.seq (.ops zacr) (.clean [1,3,5,8,10,83,84,85] (.seq (.seq (.ops zacq) (.clean [1,3,5,8,10,83,84,85,92] (.cond (t 92) (.seq (.ops zacp) (.ret [2])) .skip))) (.clean [1,3,5,8,10,83,84,85] (.ops zaco)))))) (.clean [1,3,5,8,83,84,85] (.ops zacn)))))))
def zacm : List am := [⟨⟨(some 102),.mkFunc (.func fb) [] [(t 3)],none⟩,0⟩,
  ⟨⟨(some 11),.mov (t 102),none⟩,0⟩]
def zacl : List am := [⟨⟨(some 103),.mov (t 5),none⟩,0⟩,
  ⟨⟨(some 104),.call er [(t 103)],none⟩,0⟩,
  ⟨⟨(some 105),.mov (t 104),none⟩,0⟩,
  ⟨⟨(some 106),.mov (t 8),(some (105,true))⟩,0⟩,
  ⟨⟨(some 107),.call ft [(t 106)],(some (105,true))⟩,0⟩,
  ⟨⟨(some 108),.pick (t 105) (t 107) (.const (Go.Value.bool false)),none⟩,0⟩,
  ⟨⟨(some 109),.mov (t 108),none⟩,0⟩,
  ⟨⟨(some 110),.fieldAddr 3 (t 1),(some (109,true))⟩,0⟩,
  ⟨⟨(some 111),.load1 (t 110),(some (109,true))⟩,0⟩,
  ⟨⟨(some 112),.call gx [(t 111)],(some (109,true))⟩,0⟩,
  ⟨⟨(some 113),.pick (t 109) (t 112) (.const (Go.Value.bool false)),none⟩,0⟩,
  ⟨⟨(some 114),.mov (t 113),none⟩,0⟩,
  ⟨⟨(some 115),.fieldAddr 3 (t 1),(some (114,true))⟩,0⟩,
  ⟨⟨(some 116),.load1 (t 115),(some (114,true))⟩,0⟩,
  ⟨⟨(some 117),.mov (t 11),(some (114,true))⟩,0⟩,
  ⟨⟨(some 118),.call bz [(t 116),(t 117)],(some (114,true))⟩,0⟩,
  ⟨⟨(some 119),.un .not (t 118),(some (114,true))⟩,0⟩,
  ⟨⟨(some 120),.pick (t 114) (t 119) (.const (Go.Value.bool false)),none⟩,0⟩,
  ⟨⟨(some 2),.mov (t 120),none⟩,0⟩]
def zo : TC := (.seq (.ops zafv) (.clean [1] (.seq (.draw zafu) (.clean [1,3,4] (.seq (.seq (.ops zaft) (.clean [1,3,4,57] (.cond (t 57) (.seq (.ops zafs) (.ret [2])) .skip))) (.clean [1,3,4] (.seq (.ops zafr) (.clean [1,3,4,5] (.seq (.seq (.ops zafq) (.block 0 [1,3,5] (.clean [1,3,4,5,59,60,61] (.loop [1,3,4,5,59,60,61] kj)))) (.clean [1,3,5] (.seq (.ops zacu) (.clean [1,3,5,8] (.seq (.seq (.ops zact) (.block 2 [1,3,5,8] (.clean [1,3,5,8,83,84,85] (.loop [1,3,5,8,83,84,85] oq)))) (.clean [1,3,5,8] (.seq (.ops zacm) (.clean [1,5,8,11] (.seq (.ops zacl) (.ret [2]))))))))))))))))))
def z8 : TFn := ⟨121,zo,[.tmp 2],false⟩
theorem bh : type_of% (ai @zafv.eq_1 (ai @zafu.eq_1 (ai @zaft.eq_1 (ai @zafs.eq_1 (ai @zafr.eq_1 (ai @zafq.eq_1 (ai @zafp.eq_1 (ai @zafo.eq_1 (ai @zafn.eq_1 (ai @zafm.eq_1 (ai @zacw.eq_1 (ai @zacv.eq_1 (ai @zacu.eq_1 (ai @zact.eq_1 (ai @zacs.eq_1 (ai @zacr.eq_1 (ai @zacq.eq_1 (ai @zacp.eq_1 (ai @zaco.eq_1 (ai @zacn.eq_1 (ai @zacm.eq_1 (ai @zacl.eq_1 (ai @zo.eq_1 @z8.eq_1))))))))))))))))))))))) := ⟨rfl,rfl,rfl,rfl,rfl,rfl,rfl,rfl,rfl,rfl,rfl,rfl,rfl,rfl,rfl,rfl,rfl,rfl,rfl,rfl,rfl,rfl,rfl,rfl⟩
theorem za0a : tu Try.prog [(1,⟨[0,1,2,3,4,5,6,7,8],[0,1,3,0,8,24,0,71,255],[],[(7,[4])]⟩)] nc = some (121,zo.erase,[.tmp 2]) := by kernel_rfl
def zaiq : List am := [⟨⟨(some 2),.mov (.const (Go.Value.bool false)),none⟩,0⟩]
def zaip : List am := [⟨⟨(some 3),.mov (t 0),none⟩,0⟩,
  ⟨⟨(some 4),.lenS (t 3),none⟩,0⟩,
  ⟨⟨(some 5),.bin .geq (t 4) (ci 1),none⟩,0⟩,
  ⟨⟨(some 6),.mov (t 5),none⟩,0⟩,
  ⟨⟨(some 7),.mov (t 0),(some (6,true))⟩,0⟩,
  ⟨⟨(some 8),.lenS (t 7),(some (6,true))⟩,0⟩,
  ⟨⟨(some 9),.bin .leq (t 8) (ci 16),(some (6,true))⟩,0⟩,
  ⟨⟨(some 10),.pick (t 6) (t 9) (.const (Go.Value.bool false)),none⟩,0⟩,
  ⟨⟨(some 2),.mov (t 10),none⟩,0⟩]
def zaca : TC := (.seq (.ops zaiq) (.clean [0] (.seq (.ops zaip) (.ret [2]))))
def zad0 : TFn := ⟨11,zaca,[.tmp 2],false⟩
theorem zarm : type_of% (ai @zaiq.eq_1 (ai @zaip.eq_1 (ai @zaca.eq_1 @zad0.eq_1))) := ⟨rfl,rfl,rfl,rfl⟩
theorem za2k : tu Try.prog [] m9 = some (11,zaca.erase,[.tmp 2]) := by kernel_rfl
def zap8 : List am := [⟨⟨(some 6),.mov (.const (Go.Value.bool false)),none⟩,0⟩]
def zap7 : List am := [⟨⟨(some 7),.mov (t 0),none⟩,0⟩,
  ⟨⟨(some 8),.mov (t 1),none⟩,0⟩,
  ⟨⟨(some 9),.bin .geq (t 7) (t 8),none⟩,0⟩,
  ⟨⟨(some 10),.mov (t 9),none⟩,0⟩,
  ⟨⟨(some 11),.mov (t 0),(some (10,true))⟩,0⟩,
  ⟨⟨(some 12),.mov (t 2),(some (10,true))⟩,0⟩,
  ⟨⟨(some 13),.bin .leq (t 11) (t 12),(some (10,true))⟩,0⟩,
  ⟨⟨(some 14),.pick (t 10) (t 13) (.const (Go.Value.bool false)),none⟩,0⟩,
  ⟨⟨(some 6),.mov (t 14),none⟩,0⟩]
def zalj : TC := (.seq (.ops zap8) (.clean [0,1,2] (.seq (.ops zap7) (.ret [6]))))
def zal3 : TFn := ⟨15,zalj,[.tmp 6],false⟩
theorem za0n : type_of% (ai @zap8.eq_1 (ai @zap7.eq_1 (ai @zalj.eq_1 @zal3.eq_1))) := ⟨rfl,rfl,rfl,rfl⟩
theorem c_spec_in : tu Try.prog [] ix = some (15,zalj.erase,[.tmp 6]) := by kernel_rfl
def zafl : List am := [⟨⟨(some 5),.box ka 1 (t 2),none⟩,0⟩,
  ⟨⟨(some 6),.mov (.const (Go.Value.bool false)),none⟩,0⟩]
def zafk : List am := [⟨⟨(some 7),.mov (t 0),none⟩,0⟩,
  ⟨⟨(some 8),.lenL (t 7),none⟩,0⟩,
  ⟨⟨(some 9),.mov (t 1),none⟩,0⟩,
  ⟨⟨(some 10),.bin .eql (t 8) (t 9),none⟩,0⟩,
  ⟨⟨(some 11),.mov (t 10),none⟩,0⟩,
  ⟨⟨(some 12),.mov (t 0),(some (11,true))⟩,0⟩,
  ⟨⟨(some 13),.mkFunc (.func fa) [] [(t 5)],(some (11,true))⟩,0⟩,
  ⟨⟨(some 14),.call bg [(t 12),(t 13)],(some (11,true))⟩,0⟩,
  ⟨⟨(some 15),.un .not (t 14),(some (11,true))⟩,0⟩,
  ⟨⟨(some 16),.pick (t 11) (t 15) (.const (Go.Value.bool false)),none⟩,0⟩,
  ⟨⟨(some 6),.mov (t 16),none⟩,0⟩]
def zn : TC := (.seq (.ops zafl) (.clean [0,1,5] (.seq (.ops zafk) (.ret [6]))))
def z7 : TFn := ⟨17,zn,[.tmp 6],false⟩
theorem zanz : type_of% (ai @zafl.eq_1 (ai @zafk.eq_1 (ai @zn.eq_1 @z7.eq_1))) := ⟨rfl,rfl,rfl,rfl⟩
theorem zaz9 : tu Try.prog [] m7 = some (17,zn.erase,[.tmp 6]) := by kernel_rfl
def ib : List am := [⟨⟨(some 4),.mov (.const (Go.Value.bool false)),none⟩,0⟩]
def ia : List am := [⟨⟨(some 5),.mov (t 0),none⟩,0⟩,
  ⟨⟨(some 6),.mov (t 1),none⟩,0⟩,
  ⟨⟨(some 7),.call bl [(t 5),(t 6)],none⟩,0⟩,
  ⟨⟨(some 8),.bin .geq (t 7) (ci 0),none⟩,0⟩,
  ⟨⟨(some 4),.mov (t 8),none⟩,0⟩]
def eu : TC := (.seq (.ops ib) (.clean [0,1] (.seq (.ops ia) (.ret [4]))))
def ey : TFn := ⟨9,eu,[.tmp 4],false⟩
theorem p9 : type_of% (ai @ib.eq_1 (ai @ia.eq_1 (ai @eu.eq_1 @ey.eq_1))) := ⟨rfl,rfl,rfl,rfl⟩
theorem pz : tu Try.prog [] bg = some (9,eu.erase,[.tmp 4]) := by kernel_rfl
def jf : List am := [⟨⟨(some 4),.mov (ci 0),none⟩,0⟩]
def je : List am := [⟨⟨(some 6),.mov (t 0),none⟩,0⟩,
  ⟨⟨(some 7),.lenL (t 6),none⟩,0⟩,
  ⟨⟨(some 8),.mov (ci 0),none⟩,0⟩]
def jd : List am := [⟨⟨(some 9),.bin .lss (t 8) (t 7),none⟩,0⟩]
def jc : List am := [⟨⟨(some 10),.mov (t 8),none⟩,0⟩,
  ⟨⟨(some 5),.mov (t 10),none⟩,0⟩]
def ja : List am := [⟨⟨(some 11),.mov (t 1),none⟩,0⟩,
  ⟨⟨(some 12),.mov (t 0),none⟩,0⟩,
  ⟨⟨(some 13),.mov (t 5),none⟩,0⟩,
  ⟨⟨(some 14),.indexSl 1 (t 12) (t 13),none⟩,0⟩,
  ⟨⟨(some 15),.load1 (t 14),none⟩,0⟩,
  ⟨⟨(some 16),.callv (t 11) [(t 15)],none⟩,0⟩]
def i9 : List am := [⟨⟨(some 17),.mov (t 5),none⟩,0⟩,
  ⟨⟨(some 4),.mov (t 17),none⟩,0⟩]
def i8 : List am := [⟨⟨(some 18),.bin .add (t 8) (ci 1),none⟩,0⟩,
  ⟨⟨(some 8),.mov (t 18),none⟩,0⟩]
def br : TC := (.seq (.ops jd) (.clean [0,1,7,8,9] (.seq (.cond (t 9) .skip (.exit 0)) (.clean [0,1,7,8] (.seq (.block 1 [0,1,7,8] (.seq (.ops jc) (.clean [0,1,5,7,8] (.seq (.ops ja) (.clean [0,1,5,7,8,16] (.cond (t 16) (.seq (.ops i9) (.ret [4])) .skip)))))) (.clean [0,1,7,8] (.ops i8)))))))
def iz : List am := [⟨⟨(some 4),.mov (ci (-1)),none⟩,0⟩]
def fy : TC := (.seq (.ops jf) (.clean [0,1] (.seq (.seq (.ops je) (.block 0 [] (.clean [0,1,7,8] (.loop [0,1,7,8] br)))) (.clean [] (.seq (.ops iz) (.ret [4]))))))
def ga : TFn := ⟨19,fy,[.tmp 4],false⟩
theorem bk : type_of% (ai @jf.eq_1 (ai @je.eq_1 (ai @jd.eq_1 (ai @jc.eq_1 (ai @ja.eq_1 (ai @i9.eq_1 (ai @i8.eq_1 (ai @iz.eq_1 (ai @fy.eq_1 @ga.eq_1))))))))) := ⟨rfl,rfl,rfl,rfl,rfl,rfl,rfl,rfl,rfl,rfl⟩
theorem r8 : tu Try.prog [] bl = some (19,fy.erase,[.tmp 4]) := by kernel_rfl
def zaam : List am := [⟨⟨(some 3),.mov (.const (Go.Value.bool false)),none⟩,0⟩]
def zaal : List am := [⟨⟨(some 4),.mov (t 0),none⟩,0⟩,
  ⟨⟨(some 5),.lenS (t 4),none⟩,0⟩,
  ⟨⟨(some 6),.load1 (t 1),none⟩,0⟩,
  ⟨⟨(some 7),.bin .neq (t 5) (t 6),none⟩,0⟩,
  ⟨⟨(some 3),.mov (t 7),none⟩,0⟩]
def vc : TC := (.seq (.ops zaam) (.clean [0,1] (.seq (.ops zaal) (.ret [3]))))
def vk : TFn := ⟨8,vc,[.tmp 3],false⟩
theorem zasg : type_of% (ai @zaam.eq_1 (ai @zaal.eq_1 (ai @vc.eq_1 @vk.eq_1))) := ⟨rfl,rfl,rfl,rfl⟩
theorem zasc : tu Try.prog [] fa = some (8,vc.erase,[.tmp 3]) := by kernel_rfl
def zamj : List am := [⟨⟨(some 2),.box ou 5 (t 0),none⟩,0⟩,
  ⟨⟨(some 4),.mov (.const (Go.Value.bool false)),none⟩,0⟩]
def zami : List am := [⟨⟨(some 5),.fieldAddr 0 (t 2),none⟩,0⟩,
  ⟨⟨(some 6),.load1 (t 5),none⟩,0⟩,
  ⟨⟨(some 7),.mov (t 1),none⟩,0⟩,
  ⟨⟨(some 8),.bin .sub (t 7) (ci 1),none⟩,0⟩,
  ⟨⟨(some 9),.call ix [(t 6),(ci 0),(t 8)],none⟩,0⟩,
  ⟨⟨(some 10),.mov (t 9),none⟩,0⟩,
  ⟨⟨(some 11),.fieldAddr 1 (t 2),(some (10,true))⟩,0⟩,
  ⟨⟨(some 12),.load1 (t 11),(some (10,true))⟩,0⟩,
  ⟨⟨(some 13),.mov (t 1),(some (10,true))⟩,0⟩,
  ⟨⟨(some 14),.bin .sub (t 13) (ci 1),(some (10,true))⟩,0⟩,
  ⟨⟨(some 15),.call ix [(t 12),(ci 0),(t 14)],(some (10,true))⟩,0⟩,
  ⟨⟨(some 16),.pick (t 10) (t 15) (.const (Go.Value.bool false)),none⟩,0⟩,
  ⟨⟨(some 17),.mov (t 16),none⟩,0⟩,
  ⟨⟨(some 18),.fieldAddr 0 (t 2),(some (17,true))⟩,0⟩,
  ⟨⟨(some 19),.load1 (t 18),(some (17,true))⟩,0⟩,
  ⟨⟨(some 20),.fieldAddr 1 (t 2),(some (17,true))⟩,0⟩,
  ⟨⟨(some 21),.load1 (t 20),(some (17,true))⟩,0⟩,
  ⟨⟨(some 22),.bin .neq (t 19) (t 21),(some (17,true))⟩,0⟩,
  ⟨⟨(some 23),.pick (t 17) (t 22) (.const (Go.Value.bool false)),none⟩,0⟩,
  ⟨⟨(some 24),.mov (t 23),none⟩,0⟩,
  ⟨⟨(some 25),.fieldAddr 2 (t 2),(some (24,true))⟩,0⟩,
  ⟨⟨(some 26),.load1 (t 25),(some (24,true))⟩,0⟩,
  ⟨⟨(some 27),.call ix [(t 26),(ci 0),(ci 3)],(some (24,true))⟩,0⟩,
  ⟨⟨(some 28),.pick (t 24) (t 27) (.const (Go.Value.bool false)),none⟩,0⟩,
  ⟨⟨(some 29),.mov (t 28),none⟩,0⟩,
  ⟨⟨(some 30),.fieldAddr 3 (t 2),(some (29,true))⟩,0⟩,
  ⟨⟨(some 31),.load1 (t 30),(some (29,true))⟩,0⟩,
  ⟨⟨(some 32),.call m9 [(t 31)],(some (29,true))⟩,0⟩,
  ⟨⟨(some 33),.pick (t 29) (t 32) (.const (Go.Value.bool false)),none⟩,0⟩,
  ⟨⟨(some 34),.mov (t 33),none⟩,0⟩,
  ⟨⟨(some 35),.fieldAddr 4 (t 2),(some (34,true))⟩,0⟩,
  ⟨⟨(some 36),.load1 (t 35),(some (34,true))⟩,0⟩,
  ⟨⟨(some 37),.call ix [(t 36),(ci 1),(ci 1125899906842624)],(some (34,true))⟩,0⟩,
  ⟨⟨(some 38),.pick (t 34) (t 37) (.const (Go.Value.bool false)),none⟩,0⟩,
  ⟨⟨(some 4),.mov (t 38),none⟩,0⟩]
def zahd : TC := (.seq (.ops zamj) (.clean [1,2] (.seq (.ops zami) (.ret [4]))))
def zahv : TFn := ⟨39,zahd,[.tmp 4],false⟩
theorem ut : type_of% (ai @zamj.eq_1 (ai @zami.eq_1 (ai @zahd.eq_1 @zahv.eq_1))) := ⟨rfl,rfl,rfl,rfl⟩
theorem c_spec_arc : tu Try.prog [] uw = some (39,zahd.erase,[.tmp 4]) := by kernel_rfl
def zaao : List am := [⟨⟨(some 3),.mov (.const (Go.Value.bool false)),none⟩,0⟩]
def zaan : List am := [⟨⟨(some 4),.mov (t 0),none⟩,0⟩,
  ⟨⟨(some 5),.load1 (t 1),none⟩,0⟩,
  ⟨⟨(some 6),.bin .sub (t 5) (ci 1),none⟩,0⟩,
  ⟨⟨(some 7),.call ix [(t 4),(ci 0),(t 6)],none⟩,0⟩,
  ⟨⟨(some 8),.un .not (t 7),none⟩,0⟩,
  ⟨⟨(some 3),.mov (t 8),none⟩,0⟩]
def vd : TC := (.seq (.ops zaao) (.clean [0,1] (.seq (.ops zaan) (.ret [3]))))
def vl : TFn := ⟨9,vd,[.tmp 3],false⟩
theorem zash : type_of% (ai @zaao.eq_1 (ai @zaan.eq_1 (ai @vd.eq_1 @vl.eq_1))) := ⟨rfl,rfl,rfl,rfl⟩
theorem zasd : tu Try.prog [] fb = some (9,vd.erase,[.tmp 3]) := by kernel_rfl
def ol : List am := [⟨⟨(some 2),.mov (.const (Go.Value.bool false)),none⟩,0⟩]
def oi : List am := [⟨⟨(some 6),.mkMap,none⟩,0⟩,
  ⟨⟨(some 3),.mov (t 6),none⟩,0⟩]
def oh : List am := [⟨⟨(some 7),.mov (t 0),none⟩,0⟩,
  ⟨⟨(some 8),.lenL (t 7),none⟩,0⟩,
  ⟨⟨(some 9),.mov (ci 0),none⟩,0⟩]
def og : List am := [⟨⟨(some 10),.bin .lss (t 9) (t 8),none⟩,0⟩]
def od : List am := [⟨⟨(some 11),.indexSl 1 (t 7) (t 9),none⟩,0⟩,
  ⟨⟨(some 12),.load1 (t 11),none⟩,0⟩,
  ⟨⟨(some 5),.mov (t 12),none⟩,0⟩]
def oc : List am := [⟨⟨(some 13),.mov (t 3),none⟩,0⟩,
  ⟨⟨(some 14),.mov (t 5),none⟩,0⟩,
  ⟨⟨(some 15),.mapGet ek (t 13) (t 14),none⟩,0⟩]
def oa : List am := [⟨⟨(some 2),.mov (.const (Go.Value.bool false)),none⟩,0⟩]
def n9 : List am := [⟨⟨(some 16),.mov (t 3),none⟩,0⟩,
  ⟨⟨(some 17),.mov (t 5),none⟩,0⟩,
  ⟨⟨none,.mapSet ek (t 16) (t 17) (.const (Go.Value.bool true)),none⟩,0⟩]
def n8 : List am := [⟨⟨(some 18),.bin .add (t 9) (ci 1),none⟩,0⟩,
  ⟨⟨(some 9),.mov (t 18),none⟩,0⟩]
def ue : TC := (.seq (.ops og) (.clean [3,7,8,9,10] (.seq (.cond (t 10) .skip (.exit 0)) (.clean [3,7,8,9] (.seq (.block 1 [3,7,8,9] (.seq (.ops od) (.clean [3,5,7,8,9] (.seq (.seq (.ops oc) (.clean [3,5,7,8,9,15] (.cond (t 15) (.seq (.ops oa) (.ret [2])) .skip))) (.clean [3,5,7,8,9] (.ops n9)))))) (.clean [3,7,8,9] (.ops n8)))))))
def n7 : List am := [⟨⟨(some 2),.mov (.const (Go.Value.bool true)),none⟩,0⟩]
def j0 : TC := (.seq (.ops ol) (.clean [0] (.seq (.ops oi) (.clean [0,3] (.seq (.seq (.ops oh) (.block 0 [] (.clean [3,7,8,9] (.loop [3,7,8,9] ue)))) (.clean [] (.seq (.ops n7) (.ret [2]))))))))
def zahu : TFn := ⟨19,j0,[.tmp 2],false⟩
theorem za7o : type_of% (ai @ol.eq_1 (ai @oi.eq_1 (ai @oh.eq_1 (ai @og.eq_1 (ai @od.eq_1 (ai @oc.eq_1 (ai @oa.eq_1 (ai @n9.eq_1 (ai @n8.eq_1 (ai @n7.eq_1 (ai @j0.eq_1 @zahu.eq_1))))))))))) := ⟨rfl,rfl,rfl,rfl,rfl,rfl,rfl,rfl,rfl,rfl,rfl,rfl⟩
theorem zakr : tu Try.prog [] er = some (19,j0.erase,[.tmp 2]) := by kernel_rfl
def px : List am := [⟨⟨(some 2),.mov (.const (Go.Value.bool false)),none⟩,0⟩]
def pw : List am := [⟨⟨(some 6),.mkMap,none⟩,0⟩,
  ⟨⟨(some 3),.mov (t 6),none⟩,0⟩]
def pv : List am := [⟨⟨(some 7),.mov (t 0),none⟩,0⟩,
  ⟨⟨(some 8),.lenL (t 7),none⟩,0⟩,
  ⟨⟨(some 9),.mov (ci 0),none⟩,0⟩]
def pu : List am := [⟨⟨(some 10),.bin .lss (t 9) (t 8),none⟩,0⟩]
def pt : List am := [⟨⟨(some 11),.indexSl 2 (t 7) (t 9),none⟩,0⟩,
  ⟨⟨(some 12),.loadN 2 (t 11),none⟩,0⟩,
  ⟨⟨(some 5),.box jy 2 (.const (.agg #[(.int .i64 0),(.int .i64 0)])),none⟩,0⟩,
  ⟨⟨none,.store 2 (t 5) (t 12),none⟩,0⟩]
def pq : List am := [⟨⟨(some 13),.mov (t 3),none⟩,0⟩,
  ⟨⟨(some 14),.loadN 2 (t 5),none⟩,0⟩,
  ⟨⟨(some 15),.mapGet jy (t 13) (t 14),none⟩,0⟩]
def pp : List am := [⟨⟨(some 2),.mov (.const (Go.Value.bool false)),none⟩,0⟩]
def po : List am := [⟨⟨(some 16),.mov (t 3),none⟩,0⟩,
  ⟨⟨(some 17),.loadN 2 (t 5),none⟩,0⟩,
  ⟨⟨none,.mapSet jy (t 16) (t 17) (.const (Go.Value.bool true)),none⟩,0⟩]
def pn : List am := [⟨⟨(some 18),.bin .add (t 9) (ci 1),none⟩,0⟩,
  ⟨⟨(some 9),.mov (t 18),none⟩,0⟩]
def vi : TC := (.seq (.ops pu) (.clean [3,7,8,9,10] (.seq (.cond (t 10) .skip (.exit 0)) (.clean [3,7,8,9] (.seq (.block 1 [3,7,8,9] (.seq (.ops pt) (.clean [3,5,7,8,9] (.seq (.seq (.ops pq) (.clean [3,5,7,8,9,15] (.cond (t 15) (.seq (.ops pp) (.ret [2])) .skip))) (.clean [3,5,7,8,9] (.ops po)))))) (.clean [3,7,8,9] (.ops pn)))))))
def pm : List am := [⟨⟨(some 2),.mov (.const (Go.Value.bool true)),none⟩,0⟩]
def kq : TC := (.seq (.ops px) (.clean [0] (.seq (.ops pw) (.clean [0,3] (.seq (.seq (.ops pv) (.block 0 [] (.clean [3,7,8,9] (.loop [3,7,8,9] vi)))) (.clean [] (.seq (.ops pm) (.ret [2]))))))))
def zakk : TFn := ⟨19,kq,[.tmp 2],false⟩
theorem U_spec_once_2_int : type_of% (ai @px.eq_1 (ai @pw.eq_1 (ai @pv.eq_1 (ai @pu.eq_1 (ai @pt.eq_1 (ai @pq.eq_1 (ai @pp.eq_1 (ai @po.eq_1 (ai @pn.eq_1 (ai @pm.eq_1 (ai @kq.eq_1 @zakk.eq_1))))))))))) := ⟨rfl,rfl,rfl,rfl,rfl,rfl,rfl,rfl,rfl,rfl,rfl,rfl⟩
theorem zal6 : tu Try.prog [] ft = some (19,kq.erase,[.tmp 2]) := by kernel_rfl
def sp : List am := [⟨⟨(some 2),.mov (.const (Go.Value.bool false)),none⟩,0⟩]
def sn : List am := [⟨⟨(some 6),.mkMap,none⟩,0⟩,
  ⟨⟨(some 3),.mov (t 6),none⟩,0⟩]
def sm : List am := [⟨⟨(some 7),.mov (t 0),none⟩,0⟩,
  ⟨⟨(some 8),.lenL (t 7),none⟩,0⟩,
  ⟨⟨(some 9),.mov (ci 0),none⟩,0⟩]
def sj : List am := [⟨⟨(some 10),.bin .lss (t 9) (t 8),none⟩,0⟩]
def si : List am := [⟨⟨(some 11),.indexSl 1 (t 7) (t 9),none⟩,0⟩,
  ⟨⟨(some 12),.load1 (t 11),none⟩,0⟩,
  ⟨⟨(some 5),.mov (t 12),none⟩,0⟩]
def sg : List am := [⟨⟨(some 13),.mov (t 3),none⟩,0⟩,
  ⟨⟨(some 14),.mov (t 5),none⟩,0⟩,
  ⟨⟨(some 15),.mapGet ka (t 13) (t 14),none⟩,0⟩]
def sf : List am := [⟨⟨(some 2),.mov (.const (Go.Value.bool false)),none⟩,0⟩]
def se : List am := [⟨⟨(some 16),.mov (t 3),none⟩,0⟩,
  ⟨⟨(some 17),.mov (t 5),none⟩,0⟩,
  ⟨⟨none,.mapSet ka (t 16) (t 17) (.const (Go.Value.bool true)),none⟩,0⟩]
def sd : List am := [⟨⟨(some 18),.bin .add (t 9) (ci 1),none⟩,0⟩,
  ⟨⟨(some 9),.mov (t 18),none⟩,0⟩]
def yn : TC := (.seq (.ops sj) (.clean [3,7,8,9,10] (.seq (.cond (t 10) .skip (.exit 0)) (.clean [3,7,8,9] (.seq (.block 1 [3,7,8,9] (.seq (.ops si) (.clean [3,5,7,8,9] (.seq (.seq (.ops sg) (.clean [3,5,7,8,9,15] (.cond (t 15) (.seq (.ops sf) (.ret [2])) .skip))) (.clean [3,5,7,8,9] (.ops se)))))) (.clean [3,7,8,9] (.ops sd)))))))
def sc : List am := [⟨⟨(some 2),.mov (.const (Go.Value.bool true)),none⟩,0⟩]
def pb : TC := (.seq (.ops sp) (.clean [0] (.seq (.ops sn) (.clean [0,3] (.seq (.seq (.ops sm) (.block 0 [] (.clean [3,7,8,9] (.loop [3,7,8,9] yn)))) (.clean [] (.seq (.ops sc) (.ret [2]))))))))
def zaof : TFn := ⟨19,pb,[.tmp 2],false⟩
theorem U_spec_once_int : type_of% (ai @sp.eq_1 (ai @sn.eq_1 (ai @sm.eq_1 (ai @sj.eq_1 (ai @si.eq_1 (ai @sg.eq_1 (ai @sf.eq_1 (ai @se.eq_1 (ai @sd.eq_1 (ai @sc.eq_1 (ai @pb.eq_1 @zaof.eq_1))))))))))) := ⟨rfl,rfl,rfl,rfl,rfl,rfl,rfl,rfl,rfl,rfl,rfl,rfl⟩
theorem zarf : tu Try.prog [] gx = some (19,pb.erase,[.tmp 2]) := by kernel_rfl
def jx : List am := [⟨⟨(some 4),.mov (.const (Go.Value.bool false)),none⟩,0⟩]
def jw : List am := [⟨⟨(some 5),.mov (t 0),none⟩,0⟩,
  ⟨⟨(some 6),.mov (t 1),none⟩,0⟩,
  ⟨⟨(some 7),.call dj [(t 5),(t 6)],none⟩,0⟩,
  ⟨⟨(some 8),.bin .geq (t 7) (ci 0),none⟩,0⟩,
  ⟨⟨(some 4),.mov (t 8),none⟩,0⟩]
def gr : TC := (.seq (.ops jx) (.clean [0,1] (.seq (.ops jw) (.ret [4]))))
def gw : TFn := ⟨9,gr,[.tmp 4],false⟩
theorem t8 : type_of% (ai @jx.eq_1 (ai @jw.eq_1 (ai @gr.eq_1 @gw.eq_1))) := ⟨rfl,rfl,rfl,rfl⟩
theorem t7 : tu Try.prog [] bz = some (9,gr.erase,[.tmp 4]) := by kernel_rfl
def lq : List am := [⟨⟨(some 4),.mov (ci 0),none⟩,0⟩]
def lm : List am := [⟨⟨(some 6),.mov (t 0),none⟩,0⟩,
  ⟨⟨(some 7),.lenL (t 6),none⟩,0⟩,
  ⟨⟨(some 8),.mov (ci 0),none⟩,0⟩]
def li : List am := [⟨⟨(some 9),.bin .lss (t 8) (t 7),none⟩,0⟩]
def lg : List am := [⟨⟨(some 10),.mov (t 8),none⟩,0⟩,
  ⟨⟨(some 5),.mov (t 10),none⟩,0⟩]
def lf : List am := [⟨⟨(some 11),.mov (t 1),none⟩,0⟩,
  ⟨⟨(some 12),.mov (t 0),none⟩,0⟩,
  ⟨⟨(some 13),.mov (t 5),none⟩,0⟩,
  ⟨⟨(some 14),.indexSl 1 (t 12) (t 13),none⟩,0⟩,
  ⟨⟨(some 15),.load1 (t 14),none⟩,0⟩,
  ⟨⟨(some 16),.callv (t 11) [(t 15)],none⟩,0⟩]
def ld : List am := [⟨⟨(some 17),.mov (t 5),none⟩,0⟩,
  ⟨⟨(some 4),.mov (t 17),none⟩,0⟩]
def lc : List am := [⟨⟨(some 18),.bin .add (t 8) (ci 1),none⟩,0⟩,
  ⟨⟨(some 8),.mov (t 18),none⟩,0⟩]
def d5 : TC := (.seq (.ops li) (.clean [0,1,7,8,9] (.seq (.cond (t 9) .skip (.exit 0)) (.clean [0,1,7,8] (.seq (.block 1 [0,1,7,8] (.seq (.ops lg) (.clean [0,1,5,7,8] (.seq (.ops lf) (.clean [0,1,5,7,8,16] (.cond (t 16) (.seq (.ops ld) (.ret [4])) .skip)))))) (.clean [0,1,7,8] (.ops lc)))))))
def k0 : List am := [⟨⟨(some 4),.mov (ci (-1)),none⟩,0⟩]
def iq : TC := (.seq (.ops lq) (.clean [0,1] (.seq (.seq (.ops lm) (.block 0 [] (.clean [0,1,7,8] (.loop [0,1,7,8] d5)))) (.clean [] (.seq (.ops k0) (.ret [4]))))))
def iw : TFn := ⟨19,iq,[.tmp 4],false⟩
theorem dg : type_of% (ai @lq.eq_1 (ai @lm.eq_1 (ai @li.eq_1 (ai @lg.eq_1 (ai @lf.eq_1 (ai @ld.eq_1 (ai @lc.eq_1 (ai @k0.eq_1 (ai @iq.eq_1 @iw.eq_1))))))))) := ⟨rfl,rfl,rfl,rfl,rfl,rfl,rfl,rfl,rfl,rfl⟩
theorem wj : tu Try.prog [] dj = some (19,iq.erase,[.tmp 4]) := by kernel_rfl
def yi : List am := [⟨⟨(some 2),.box za0r 7 (t 0),none⟩,0⟩,
  ⟨⟨(some 4),.mov (ci 0),none⟩,0⟩]
def yh : List am := [⟨⟨(some 5),.fieldAddr 5 (t 2),none⟩,0⟩,
  ⟨⟨(some 6),.load1 (t 5),none⟩,0⟩,
  ⟨⟨(some 7),.mov (t 1),none⟩,0⟩,
  ⟨⟨(some 8),.fieldAddr 6 (t 2),none⟩,0⟩,
  ⟨⟨(some 9),.load1 (t 8),none⟩,0⟩,
  ⟨⟨(some 10),.bin .mul (t 7) (t 9),none⟩,0⟩,
  ⟨⟨(some 11),.bin .add (t 6) (t 10),none⟩,0⟩,
  ⟨⟨(some 4),.mov (t 11),none⟩,0⟩]
def tw : TC := (.seq (.ops yi) (.clean [1,2] (.seq (.ops yh) (.ret [4]))))
def t5 : TFn := ⟨12,tw,[.tmp 4],false⟩
theorem zark : type_of% (ai @yi.eq_1 (ai @yh.eq_1 (ai @tw.eq_1 @t5.eq_1))) := ⟨rfl,rfl,rfl,rfl⟩
theorem zard : tu Try.prog [] jz = some (12,tw.erase,[.tmp 4]) := by kernel_rfl
def zaio : List am := [⟨⟨(some 1),.box aq 7 (t 0),none⟩,0⟩,
  ⟨⟨(some 2),.mov (ci 0),none⟩,0⟩]
def zain : List am := [⟨⟨(some 3),.loadN 7 (t 1),none⟩,0⟩,
  ⟨⟨(some 4),.fieldAddr 1 (t 1),none⟩,0⟩,
  ⟨⟨(some 5),.load1 (t 4),none⟩,0⟩,
  ⟨⟨(some 6),.lenL (t 5),none⟩,0⟩,
  ⟨⟨(some 7),.call gf [(t 3),(t 6)],none⟩,0⟩,
  ⟨⟨(some 2),.mov (t 7),none⟩,0⟩]
def zab9 : TC := (.seq (.ops zaio) (.clean [1] (.seq (.ops zain) (.ret [2]))))
def zadz : TFn := ⟨8,zab9,[.tmp 2],false⟩
theorem za2u : type_of% (ai @zaio.eq_1 (ai @zain.eq_1 (ai @zab9.eq_1 @zadz.eq_1))) := ⟨rfl,rfl,rfl,rfl⟩
theorem za2j : tu Try.prog [] qi = some (8,zab9.erase,[.tmp 2]) := by kernel_rfl
def zamh : List am := [⟨⟨(some 1),.box aq 7 (t 0),none⟩,0⟩,
  ⟨⟨(some 2),.mov (ci 0),none⟩,0⟩]
def zamg : List am := [⟨⟨(some 3),.loadN 7 (t 1),none⟩,0⟩,
  ⟨⟨(some 4),.fieldAddr 1 (t 1),none⟩,0⟩,
  ⟨⟨(some 5),.load1 (t 4),none⟩,0⟩,
  ⟨⟨(some 6),.lenL (t 5),none⟩,0⟩,
  ⟨⟨(some 7),.bin .mul (ci 2) (t 6),none⟩,0⟩,
  ⟨⟨(some 8),.call wa [(t 3),(t 7)],none⟩,0⟩,
  ⟨⟨(some 2),.mov (t 8),none⟩,0⟩]
def zahc : TC := (.seq (.ops zamh) (.clean [1] (.seq (.ops zamg) (.ret [2]))))
def zaht : TFn := ⟨9,zahc,[.tmp 2],false⟩
theorem U_when_End : type_of% (ai @zamh.eq_1 (ai @zamg.eq_1 (ai @zahc.eq_1 @zaht.eq_1))) := ⟨rfl,rfl,rfl,rfl⟩
theorem c_when_End : tu Try.prog [] qz = some (9,zahc.erase,[.tmp 2]) := by kernel_rfl
def zafj : List am := [⟨⟨(some 1),.box aq 7 (t 0),none⟩,0⟩,
  ⟨⟨(some 2),.mov (.const (Go.Value.slice none 0 0)),none⟩,0⟩]
def zafi : List am := [⟨⟨(some 3),.mov (.const (Go.Value.slice none 0 0)),none⟩,1⟩]
def zafh : List am := [⟨⟨(some 5),.loadN 7 (t 1),none⟩,0⟩,
  ⟨⟨(some 6),.call nc [(t 5)],none⟩,0⟩,
  ⟨⟨(some 7),.un .not (t 6),none⟩,0⟩]
def zafg : List am := [⟨⟨(some 2),.mov (.const (Go.Value.slice none 0 0)),none⟩,0⟩]
def zaff : List am := [⟨⟨(some 8),.fieldAddr 1 (t 1),none⟩,0⟩,
  ⟨⟨(some 9),.load1 (t 8),none⟩,0⟩,
  ⟨⟨(some 10),.lenL (t 9),none⟩,0⟩,
  ⟨⟨(some 11),.mov (ci 0),none⟩,0⟩]
def zafe : List am := [⟨⟨(some 12),.bin .lss (t 11) (t 10),none⟩,0⟩]
def zafd : List am := [⟨⟨(some 13),.mov (t 11),none⟩,0⟩,
  ⟨⟨(some 4),.mov (t 13),none⟩,0⟩]
def zafc : List am := [⟨⟨(some 14),.mov (t 3),none⟩,0⟩,
  ⟨⟨(some 15),.loadN 7 (t 1),none⟩,0⟩,
  ⟨⟨(some 16),.mov (t 4),none⟩,0⟩,
  ⟨⟨(some 17),.bin .add (t 16) (ci 1),none⟩,0⟩,
  ⟨⟨(some 18),.call gf [(t 15),(t 17)],none⟩,0⟩,
  ⟨⟨(some 19),.buildSl ka 1 1 [(.int .i64 0)] [(0,1,(t 18))],none⟩,0⟩,
  ⟨⟨(some 20),.append ka 1 8 (t 14) (t 19),none⟩,0⟩,
  ⟨⟨(some 3),.mov (t 20),none⟩,0⟩]
def zafb : List am := [⟨⟨(some 21),.bin .add (t 11) (ci 1),none⟩,0⟩,
  ⟨⟨(some 11),.mov (t 21),none⟩,0⟩]
def te : TC := (.seq (.ops zafe) (.clean [1,3,10,11,12] (.seq (.cond (t 12) .skip (.exit 0)) (.clean [1,3,10,11] (.seq (.block 1 [1,3,10,11] (.seq (.ops zafd) (.clean [1,3,4,10,11] (.ops zafc)))) (.clean [1,3,10,11] (.ops zafb)))))))
def zafa : List am := [⟨⟨(some 22),.mov (t 3),none⟩,0⟩,
  ⟨⟨(some 2),.mov (t 22),none⟩,0⟩]
def zm : TC := (.seq (.ops zafj) (.clean [1] (.seq (.ops zafi) (.clean [1,3] (.seq (.seq (.ops zafh) (.clean [1,3,7] (.cond (t 7) (.seq (.ops zafg) (.ret [2])) .skip))) (.clean [1,3] (.seq (.seq (.ops zaff) (.block 0 [3] (.clean [1,3,10,11] (.loop [1,3,10,11] te)))) (.clean [3] (.seq (.ops zafa) (.ret [2]))))))))))
def z5 : TFn := ⟨23,zm,[.tmp 2],false⟩
theorem tp : type_of% (ai @zafj.eq_1 (ai @zafi.eq_1 (ai @zafh.eq_1 (ai @zafg.eq_1 (ai @zaff.eq_1 (ai @zafe.eq_1 (ai @zafd.eq_1 (ai @zafc.eq_1 (ai @zafb.eq_1 (ai @zafa.eq_1 (ai @zm.eq_1 @z5.eq_1))))))))))) := ⟨rfl,rfl,rfl,rfl,rfl,rfl,rfl,rfl,rfl,rfl,rfl,rfl⟩
theorem zaz8 : tu Try.prog [] m6 = some (23,zm.erase,[.tmp 2]) := by kernel_rfl
def zant : List am := [⟨⟨(some 6),.box aq 7 (.const (.agg #[(.string ⟨#[]⟩),(.slice none 0 0),(.slice none 0 0),(.slice none 0 0),(.slice none 0 0),(.int .i64 0),(.int .i64 0)])),none⟩,0⟩]
def zans : List am := [⟨⟨(some 9),.mov (t 0),none⟩,0⟩,
  ⟨⟨(some 10),.call uz [(t 9),(ci 0),(ci 2)],none⟩,0⟩,
  ⟨⟨(some 11),.buildSl ka 1 1 [(.int .i64 0)] [(0,1,(ci 0))],none⟩,0⟩,
  ⟨⟨(some 12),.mov (t 1),none⟩,0⟩,
  ⟨⟨(some 13),.mov (t 2),none⟩,0⟩,
  ⟨⟨(some 14),.build [(.string ⟨#[]⟩),(.slice none 0 0),(.slice none 0 0),(.slice none 0 0),(.slice none 0 0),(.int .i64 0),(.int .i64 0)] [(0,1,(.const (Go.Value.string ⟨#[114,105,110,103]⟩))),(2,1,(t 10)),(3,1,(t 11)),(5,1,(t 12)),(6,1,(t 13))],none⟩,0⟩,
  ⟨⟨(some 7),.box aq 7 (.const (.agg #[(.string ⟨#[]⟩),(.slice none 0 0),(.slice none 0 0),(.slice none 0 0),(.slice none 0 0),(.int .i64 0),(.int .i64 0)])),none⟩,0⟩,
  ⟨⟨none,.store 7 (t 7) (t 14),none⟩,0⟩]
def zanr : List am := [⟨⟨(some 8),.mov (ci 0),none⟩,0⟩]
def zanq : List am := [⟨⟨(some 15),.mov (t 8),none⟩,0⟩,
  ⟨⟨(some 16),.mov (t 0),none⟩,0⟩,
  ⟨⟨(some 17),.bin .lss (t 15) (t 16),none⟩,0⟩]
def zano : List am := [⟨⟨(some 20),.fieldAddr 1 (t 7),none⟩,0⟩,
  ⟨⟨(some 21),.load1 (t 20),none⟩,0⟩,
  ⟨⟨(some 22),.mov (t 8),none⟩,0⟩,
  ⟨⟨(some 23),.call n4 [(t 22)],none⟩,0⟩,
  ⟨⟨(some 24),.build [(.string ⟨#[]⟩),(.slice none 0 0)] [(0,1,(t 23))],none⟩,0⟩,
  ⟨⟨(some 25),.buildSl fe 2 1 [(.string ⟨#[]⟩),(.slice none 0 0)] [(0,2,(t 24))],none⟩,0⟩,
  ⟨⟨(some 26),.append fe 2 40 (t 21) (t 25),none⟩,1⟩,
  ⟨⟨(some 27),.fieldAddr 1 (t 7),none⟩,9⟩,
  ⟨⟨none,.store 1 (t 27) (t 26),none⟩,0⟩]
def zanp : List am := [⟨⟨(some 18),.mov (t 8),none⟩,0⟩,
  ⟨⟨(some 19),.bin .add (t 18) (ci 1),none⟩,0⟩,
  ⟨⟨(some 8),.mov (t 19),none⟩,0⟩]
def tm : TC := (.seq (.seq (.ops zanq) (.clean [0,6,7,8,17] (.cond (t 17) .skip (.exit 0)))) (.clean [0,6,7,8] (.seq (.block 1 [0,6,7,8] (.draw (pl zano))) (.clean [0,6,7,8] (.ops zanp)))))
def zann : List am := [⟨⟨(some 28),.loadN 7 (t 7),none⟩,0⟩,
  ⟨⟨(some 29),.call wd [(t 28)],none⟩,0⟩,
  ⟨⟨none,.store 7 (t 6) (t 29),none⟩,9⟩]
def zahk : TC := (.seq (.ops zant) (.clean [0,1,2,6] (.seq (.ops zans) (.clean [0,6,7] (.seq (.seq (.ops zanr) (.block 0 [6,7] (.clean [0,6,7,8] (.loop [0,6,7,8] tm)))) (.clean [6,7] (.seq (.ops zann) (.ret [6]))))))))
def zah2 : TFn := ⟨30,zahk,[.cellN 6 7],true⟩
theorem zaev : type_of% (ai @zant.eq_1 (ai @zans.eq_1 (ai @zanr.eq_1 (ai @zanq.eq_1 (ai @zano.eq_1 (ai @zanp.eq_1 (ai @zann.eq_1 (ai @zahk.eq_1 @zah2.eq_1)))))))) := ⟨rfl,rfl,rfl,rfl,rfl,rfl,rfl,rfl,rfl⟩
theorem c_L00_Ring : tu Try.prog [(5,⟨[0,1,2,3,4,5,6,7,8],[0,1,0,4,12,28,63,127,255],[],[]⟩)] u5 = some (30,zahk.erase,[.cellN 6 7]) := by kernel_rfl
def zank : List am := [⟨⟨(some 6),.mov (.const (Go.Value.slice none 0 0)),none⟩,0⟩]
def zanj : List am := [⟨⟨(some 7),.mov (.const (Go.Value.slice none 0 0)),none⟩,0⟩]
def zani : List am := [⟨⟨(some 8),.mov (ci 0),none⟩,0⟩]
def zanh : List am := [⟨⟨(some 12),.mov (t 8),none⟩,0⟩,
  ⟨⟨(some 13),.mov (t 0),none⟩,0⟩,
  ⟨⟨(some 14),.bin .lss (t 12) (t 13),none⟩,0⟩]
def zanf : List am := [⟨⟨(some 17),.mov (t 7),none⟩,0⟩,
  ⟨⟨(some 18),.mov (t 8),none⟩,0⟩,
  ⟨⟨(some 19),.mov (t 8),none⟩,0⟩,
  ⟨⟨(some 20),.bin .add (t 19) (ci 1),none⟩,0⟩,
  ⟨⟨(some 21),.mov (t 0),none⟩,0⟩,
  ⟨⟨(some 22),.bin .rem (t 20) (t 21),none⟩,0⟩,
  ⟨⟨(some 23),.build [(.int .i64 0),(.int .i64 0),(.int .i64 0),(.string ⟨#[]⟩),(.int .i64 0)] [(0,1,(t 18)),(1,1,(t 22))],none⟩,0⟩,
  ⟨⟨(some 24),.buildSl ou 5 1 [(.int .i64 0),(.int .i64 0),(.int .i64 0),(.string ⟨#[]⟩),(.int .i64 0)] [(0,5,(t 23))],none⟩,0⟩,
  ⟨⟨(some 25),.append ou 5 48 (t 17) (t 24),none⟩,1⟩,
  ⟨⟨(some 7),.mov (t 25),none⟩,0⟩]
def zang : List am := [⟨⟨(some 15),.mov (t 8),none⟩,0⟩,
  ⟨⟨(some 16),.bin .add (t 15) (ci 1),none⟩,0⟩,
  ⟨⟨(some 8),.mov (t 16),none⟩,0⟩]
def qr : TC := (.seq (.seq (.ops zanh) (.clean [0,1,2,7,8,14] (.cond (t 14) .skip (.exit 0)))) (.clean [0,1,2,7,8] (.seq (.block 1 [0,1,2,7,8] (.ops zanf)) (.clean [0,1,2,7,8] (.ops zang)))))
def zane : List am := [⟨⟨(some 9),.mov (ci 0),none⟩,0⟩]
def zand : List am := [⟨⟨(some 26),.mov (t 9),none⟩,0⟩,
  ⟨⟨(some 27),.mov (t 0),none⟩,0⟩,
  ⟨⟨(some 28),.bin .lss (t 26) (t 27),none⟩,0⟩]
def zanb : List am := [⟨⟨(some 10),.mov (ci 0),none⟩,0⟩]
def zakc : List am := [⟨⟨(some 31),.mov (t 10),none⟩,0⟩,
  ⟨⟨(some 32),.mov (t 0),none⟩,0⟩,
  ⟨⟨(some 33),.bin .lss (t 31) (t 32),none⟩,0⟩]
def zaka : List am := [⟨⟨(some 36),.mov (t 9),none⟩,0⟩,
  ⟨⟨(some 37),.mov (t 10),none⟩,0⟩,
  ⟨⟨(some 38),.bin .eql (t 36) (t 37),none⟩,0⟩,
  ⟨⟨(some 39),.mov (t 38),none⟩,0⟩,
  ⟨⟨(some 40),.mov (t 10),(some (39,false))⟩,0⟩,
  ⟨⟨(some 41),.mov (t 9),(some (39,false))⟩,0⟩,
  ⟨⟨(some 42),.bin .add (t 41) (ci 1),(some (39,false))⟩,0⟩,
  ⟨⟨(some 43),.mov (t 0),(some (39,false))⟩,0⟩,
  ⟨⟨(some 44),.bin .rem (t 42) (t 43),(some (39,false))⟩,0⟩,
  ⟨⟨(some 45),.bin .eql (t 40) (t 44),(some (39,false))⟩,0⟩,
  ⟨⟨(some 46),.pick (t 39) (.const (Go.Value.bool true)) (t 45),none⟩,0⟩]
def zaj9 : List am := [⟨⟨(some 47),.mov (t 1),none⟩,0⟩,
  ⟨⟨(some 48),.bin .rem (t 47) (ci 2),none⟩,0⟩,
  ⟨⟨(some 49),.bin .eql (t 48) (ci 1),none⟩,0⟩,
  ⟨⟨(some 50),.mov (t 49),none⟩,0⟩,
  ⟨⟨(some 51),.mov (t 7),(some (50,true))⟩,0⟩,
  ⟨⟨(some 52),.lenL (t 51),(some (50,true))⟩,0⟩,
  ⟨⟨(some 53),.bin .lss (t 52) (ci 8),(some (50,true))⟩,0⟩,
  ⟨⟨(some 54),.pick (t 50) (t 53) (.const (Go.Value.bool false)),none⟩,0⟩]
def zaj8 : List am := [⟨⟨(some 55),.mov (t 7),none⟩,0⟩,
  ⟨⟨(some 56),.mov (t 9),none⟩,0⟩,
  ⟨⟨(some 57),.mov (t 10),none⟩,0⟩,
  ⟨⟨(some 58),.build [(.int .i64 0),(.int .i64 0),(.int .i64 0),(.string ⟨#[]⟩),(.int .i64 0)] [(0,1,(t 56)),(1,1,(t 57))],none⟩,0⟩,
  ⟨⟨(some 59),.buildSl ou 5 1 [(.int .i64 0),(.int .i64 0),(.int .i64 0),(.string ⟨#[]⟩),(.int .i64 0)] [(0,5,(t 58))],none⟩,0⟩,
  ⟨⟨(some 60),.append ou 5 48 (t 55) (t 59),none⟩,1⟩,
  ⟨⟨(some 7),.mov (t 60),none⟩,0⟩]
def zaj7 : List am := [⟨⟨(some 61),.mov (t 1),none⟩,0⟩,
  ⟨⟨(some 62),.bin .quo (t 61) (ci 2),none⟩,0⟩,
  ⟨⟨(some 1),.mov (t 62),none⟩,0⟩]
def zakb : List am := [⟨⟨(some 34),.mov (t 10),none⟩,0⟩,
  ⟨⟨(some 35),.bin .add (t 34) (ci 1),none⟩,0⟩,
  ⟨⟨(some 10),.mov (t 35),none⟩,0⟩]
def fj : TC := (.seq (.seq (.ops zakc) (.clean [0,1,2,7,9,10,33] (.cond (t 33) .skip (.exit 4)))) (.clean [0,1,2,7,9,10] (.seq (.block 5 [0,1,2,7,9,10] (.seq (.seq (.ops zaka) (.clean [0,1,2,7,9,10,46] (.cond (t 46) (.exit 5) .skip))) (.clean [0,1,2,7,9,10] (.seq (.seq (.ops zaj9) (.clean [0,1,2,7,9,10,54] (.cond (t 54) (.ops zaj8) .skip))) (.clean [0,1,2,7,9,10] (.ops zaj7)))))) (.clean [0,1,2,7,9,10] (.ops zakb)))))
def zanc : List am := [⟨⟨(some 29),.mov (t 9),none⟩,0⟩,
  ⟨⟨(some 30),.bin .add (t 29) (ci 1),none⟩,0⟩,
  ⟨⟨(some 9),.mov (t 30),none⟩,0⟩]
def qp : TC := (.seq (.seq (.ops zand) (.clean [0,1,2,7,9,28] (.cond (t 28) .skip (.exit 2)))) (.clean [0,1,2,7,9] (.seq (.block 3 [0,1,2,7,9] (.seq (.ops zanb) (.block 4 [0,1,2,7,9] (.clean [0,1,2,7,9,10] (.loop [0,1,2,7,9,10] fj))))) (.clean [0,1,2,7,9] (.ops zanc)))))
def zaj6 : List am := [⟨⟨(some 11),.mov (ci 0),none⟩,0⟩]
def zaj5 : List am := [⟨⟨(some 63),.mov (t 11),none⟩,0⟩,
  ⟨⟨(some 64),.mov (t 7),none⟩,0⟩,
  ⟨⟨(some 65),.lenL (t 64),none⟩,0⟩,
  ⟨⟨(some 66),.bin .lss (t 63) (t 65),none⟩,0⟩]
def zaj3 : List am := [⟨⟨(some 69),.mov (t 7),none⟩,0⟩,
  ⟨⟨(some 70),.mov (t 11),none⟩,0⟩,
  ⟨⟨(some 71),.mov (t 11),none⟩,0⟩,
  ⟨⟨(some 72),.mov (t 2),none⟩,0⟩,
  ⟨⟨(some 73),.bin .add (t 71) (t 72),none⟩,0⟩,
  ⟨⟨(some 74),.mov (t 2),none⟩,0⟩,
  ⟨⟨(some 75),.bin .rem (t 74) (ci 3),none⟩,0⟩,
  ⟨⟨(some 76),.bin .add (ci 1) (t 75),none⟩,0⟩,
  ⟨⟨(some 77),.bin .rem (t 73) (t 76),none⟩,0⟩,
  ⟨⟨(some 78),.indexSl 5 (t 69) (t 70),none⟩,0⟩,
  ⟨⟨(some 79),.fieldAddr 2 (t 78),none⟩,0⟩,
  ⟨⟨none,.store 1 (t 79) (t 77),none⟩,0⟩]
def zaj2 : List am := [⟨⟨(some 80),.mov (t 7),none⟩,0⟩,
  ⟨⟨(some 81),.mov (t 11),none⟩,0⟩,
  ⟨⟨(some 82),.build [(.string ⟨#[]⟩),(.string ⟨#[]⟩)] [(0,1,(.const (Go.Value.string ⟨#[103,111,108,100]⟩))),(1,1,(.const (Go.Value.string ⟨#[115,97,108,116]⟩)))],none⟩,0⟩,
  ⟨⟨(some 83),.mov (t 11),none⟩,0⟩,
  ⟨⟨(some 84),.mov (t 1),none⟩,0⟩,
  ⟨⟨(some 85),.bin .add (t 83) (t 84),none⟩,0⟩,
  ⟨⟨(some 86),.bin .rem (t 85) (ci 2),none⟩,0⟩,
  ⟨⟨(some 87),.indexAgg 2 (t 82) (t 86),none⟩,0⟩,
  ⟨⟨(some 88),.indexSl 5 (t 80) (t 81),none⟩,0⟩,
  ⟨⟨(some 89),.fieldAddr 3 (t 88),none⟩,0⟩,
  ⟨⟨none,.store 1 (t 89) (t 87),none⟩,0⟩]
def zaj1 : List am := [⟨⟨(some 90),.mov (t 7),none⟩,0⟩,
  ⟨⟨(some 91),.mov (t 11),none⟩,0⟩,
  ⟨⟨(some 92),.mov (t 11),none⟩,0⟩,
  ⟨⟨(some 93),.bin .mul (ci 7) (t 92),none⟩,0⟩,
  ⟨⟨(some 94),.mov (t 2),none⟩,0⟩,
  ⟨⟨(some 95),.bin .add (t 93) (t 94),none⟩,0⟩,
  ⟨⟨(some 96),.bin .rem (t 95) (ci 20),none⟩,0⟩,
  ⟨⟨(some 97),.bin .add (ci 1) (t 96),none⟩,0⟩,
  ⟨⟨(some 98),.indexSl 5 (t 90) (t 91),none⟩,0⟩,
  ⟨⟨(some 99),.fieldAddr 4 (t 98),none⟩,0⟩,
  ⟨⟨none,.store 1 (t 99) (t 97),none⟩,0⟩]
def zaj4 : List am := [⟨⟨(some 67),.mov (t 11),none⟩,0⟩,
  ⟨⟨(some 68),.bin .add (t 67) (ci 1),none⟩,0⟩,
  ⟨⟨(some 11),.mov (t 68),none⟩,0⟩]
def tj : TC := (.seq (.seq (.ops zaj5) (.clean [1,2,7,11,66] (.cond (t 66) .skip (.exit 6)))) (.clean [1,2,7,11] (.seq (.block 7 [1,2,7,11] (.seq (.ops zaj3) (.clean [1,2,7,11] (.seq (.ops zaj2) (.clean [1,2,7,11] (.ops zaj1)))))) (.clean [1,2,7,11] (.ops zaj4)))))
def zaj0 : List am := [⟨⟨(some 100),.mov (t 7),none⟩,0⟩,
  ⟨⟨(some 6),.mov (t 100),none⟩,0⟩]
def zahi : TC := (.seq (.ops zank) (.clean [0,1,2] (.seq (.ops zanj) (.clean [0,1,2,7] (.seq (.seq (.ops zani) (.block 0 [0,1,2,7] (.clean [0,1,2,7,8] (.loop [0,1,2,7,8] qr)))) (.clean [0,1,2,7] (.seq (.seq (.ops zane) (.block 2 [1,2,7] (.clean [0,1,2,7,9] (.loop [0,1,2,7,9] qp)))) (.clean [1,2,7] (.seq (.seq (.ops zaj6) (.block 6 [7] (.clean [1,2,7,11] (.loop [1,2,7,11] tj)))) (.clean [7] (.seq (.ops zaj0) (.ret [6]))))))))))))
def zah0 : TFn := ⟨101,zahi,[.tmp 6],true⟩
theorem cz : type_of% (ai @zank.eq_1 (ai @zanj.eq_1 (ai @zani.eq_1 (ai @zanh.eq_1 (ai @zanf.eq_1 (ai @zang.eq_1 (ai @zane.eq_1 (ai @zand.eq_1 (ai @zanb.eq_1 (ai @zakc.eq_1 (ai @zaka.eq_1 (ai @zaj9.eq_1 (ai @zaj8.eq_1 (ai @zaj7.eq_1 (ai @zakb.eq_1 (ai @zanc.eq_1 (ai @zaj6.eq_1 (ai @zaj5.eq_1 (ai @zaj3.eq_1 (ai @zaj2.eq_1 (ai @zaj1.eq_1 (ai @zaj4.eq_1 (ai @zaj0.eq_1 (ai @zahi.eq_1 @zah0.eq_1)))))))))))))))))))))))) := ⟨rfl,rfl,rfl,rfl,rfl,rfl,rfl,rfl,rfl,rfl,rfl,rfl,rfl,rfl,rfl,rfl,rfl,rfl,rfl,rfl,rfl,rfl,rfl,rfl,rfl⟩
theorem c_L00_arcs : tu Try.prog [] uz = some (101,zahi.erase,[.tmp 6]) := by kernel_rfl
def zadw : List am := [⟨⟨(some 2),.mov (.const (Go.Value.string ⟨#[]⟩)),none⟩,0⟩]
def zadv : List am := [⟨⟨(some 3),.mov (t 0),none⟩,0⟩,
  ⟨⟨(some 4),.call im [(t 3)],none⟩,0⟩,
  ⟨⟨(some 5),.bin .add (.const (Go.Value.string ⟨#[112,97,114,116,121]⟩)) (t 4),none⟩,0⟩,
  ⟨⟨(some 2),.mov (t 5),none⟩,0⟩]
def xk : TC := (.seq (.ops zadw) (.clean [0] (.seq (.ops zadv) (.ret [2]))))
def xv : TFn := ⟨6,xk,[.tmp 2],false⟩
theorem zav4 : type_of% (ai @zadw.eq_1 (ai @zadv.eq_1 (ai @xk.eq_1 @xv.eq_1))) := ⟨rfl,rfl,rfl,rfl⟩
theorem zav1 : tu Try.prog [] n4 = some (6,xk.erase,[.tmp 2]) := by kernel_rfl
def zag1 : List am := [⟨⟨(some 2),.mov (.const (Go.Value.string ⟨#[]⟩)),none⟩,0⟩]
def zag0 : List am := [⟨⟨(some 5),.mov (t 0),none⟩,0⟩,
  ⟨⟨(some 6),.bin .leq (t 5) (ci (-10)),none⟩,0⟩,
  ⟨⟨(some 4),.mov (t 6),none⟩,0⟩]
def zagz : List am := [⟨⟨(some 7),.mov (t 0),none⟩,0⟩,
  ⟨⟨(some 8),.bin .rem (t 7) (ci 10),none⟩,0⟩,
  ⟨⟨(some 9),.un .neg (t 8),none⟩,0⟩,
  ⟨⟨(some 3),.mov (t 9),none⟩,0⟩]
def zagy : List am := [⟨⟨(some 10),.mov (t 0),none⟩,0⟩,
  ⟨⟨(some 11),.bin .quo (t 10) (ci 10),none⟩,0⟩,
  ⟨⟨(some 13),.mov (t 3),none⟩,0⟩,
  ⟨⟨(some 14),.mov (t 3),none⟩,0⟩,
  ⟨⟨(some 15),.bin .add (t 14) (ci 1),none⟩,0⟩,
  ⟨⟨(some 16),.sliceStr (.const (Go.Value.string ⟨#[48,49,50,51,52,53,54,55,56,57]⟩)) (some (t 13)) (some (t 15)),none⟩,0⟩,
  ⟨⟨(some 12),.call im [(t 11)],none⟩,0⟩,
  ⟨⟨(some 17),.bin .add (t 12) (t 16),none⟩,0⟩,
  ⟨⟨(some 2),.mov (t 17),none⟩,0⟩]
def zagx : List am := [⟨⟨(some 19),.mov (t 0),none⟩,0⟩,
  ⟨⟨(some 20),.bin .lss (t 19) (ci 0),none⟩,0⟩,
  ⟨⟨(some 18),.mov (t 20),none⟩,0⟩]
def zagw : List am := [⟨⟨(some 21),.mov (t 0),none⟩,0⟩,
  ⟨⟨(some 22),.un .neg (t 21),none⟩,0⟩,
  ⟨⟨(some 23),.mov (t 0),none⟩,0⟩,
  ⟨⟨(some 24),.un .neg (t 23),none⟩,0⟩,
  ⟨⟨(some 25),.bin .add (t 24) (ci 1),none⟩,0⟩,
  ⟨⟨(some 26),.sliceStr (.const (Go.Value.string ⟨#[48,49,50,51,52,53,54,55,56,57]⟩)) (some (t 22)) (some (t 25)),none⟩,0⟩,
  ⟨⟨(some 27),.bin .add (.const (Go.Value.string ⟨#[45]⟩)) (t 26),none⟩,0⟩,
  ⟨⟨(some 2),.mov (t 27),none⟩,0⟩]
def zagv : List am := [⟨⟨(some 29),.mov (t 0),none⟩,0⟩,
  ⟨⟨(some 30),.bin .lss (t 29) (ci 10),none⟩,0⟩,
  ⟨⟨(some 28),.mov (t 30),none⟩,0⟩]
def zagu : List am := [⟨⟨(some 31),.mov (t 0),none⟩,0⟩,
  ⟨⟨(some 32),.mov (t 0),none⟩,0⟩,
  ⟨⟨(some 33),.bin .add (t 32) (ci 1),none⟩,0⟩,
  ⟨⟨(some 34),.sliceStr (.const (Go.Value.string ⟨#[48,49,50,51,52,53,54,55,56,57]⟩)) (some (t 31)) (some (t 33)),none⟩,0⟩,
  ⟨⟨(some 2),.mov (t 34),none⟩,0⟩]
def zagt : List am := [⟨⟨(some 35),.mov (t 0),none⟩,0⟩,
  ⟨⟨(some 36),.bin .quo (t 35) (ci 10),none⟩,0⟩,
  ⟨⟨(some 38),.mov (t 0),none⟩,0⟩,
  ⟨⟨(some 39),.bin .rem (t 38) (ci 10),none⟩,0⟩,
  ⟨⟨(some 40),.mov (t 0),none⟩,0⟩,
  ⟨⟨(some 41),.bin .rem (t 40) (ci 10),none⟩,0⟩,
  ⟨⟨(some 42),.bin .add (t 41) (ci 1),none⟩,0⟩,
  ⟨⟨(some 43),.sliceStr (.const (Go.Value.string ⟨#[48,49,50,51,52,53,54,55,56,57]⟩)) (some (t 39)) (some (t 42)),none⟩,0⟩,
  ⟨⟨(some 37),.call im [(t 36)],none⟩,0⟩,
  ⟨⟨(some 44),.bin .add (t 37) (t 43),none⟩,0⟩,
  ⟨⟨(some 2),.mov (t 44),none⟩,0⟩]
def zt : TC := (.seq (.ops zag1) (.clean [0] (.seq (.block 0 [0] (.seq (.ops zag0) (.clean [0,4] (.cond (t 4) (.seq (.ops zagz) (.clean [0,3] (.seq (.draw (pl zagy)) (.ret [2])))) (.seq (.ops zagx) (.clean [0,18] (.cond (t 18) (.seq (.ops zagw) (.ret [2])) (.seq (.ops zagv) (.clean [0,28] (.cond (t 28) (.seq (.ops zagu) (.ret [2])) .skip)))))))))) (.clean [0] (.seq (.draw (pl zagt)) (.ret [2]))))))
def zaab : TFn := ⟨45,zt,[.tmp 2],false⟩
theorem za0q : type_of% (ai @zag1.eq_1 (ai @zag0.eq_1 (ai @zagz.eq_1 (ai @zagy.eq_1 (ai @zagx.eq_1 (ai @zagw.eq_1 (ai @zagv.eq_1 (ai @zagu.eq_1 (ai @zagt.eq_1 (ai @zt.eq_1 @zaab.eq_1)))))))))) := ⟨rfl,rfl,rfl,rfl,rfl,rfl,rfl,rfl,rfl,rfl,rfl⟩
theorem za0d : tu Try.prog [(3,⟨[0,1,3,4,5,6,2,7,8],[0,1,3,0,0,16,56,127,255],[],[]⟩),(8,⟨[0,1,3,4,5,6,7,8,2,9,10],[0,1,3,0,8,0,32,96,248,511,1023],[],[]⟩)] im = some (45,zt.erase,[.tmp 2]) := by kernel_rfl
def zajz : List am := [⟨⟨(some 1),.box aq 7 (t 0),none⟩,0⟩,
  ⟨⟨(some 2),.box aq 7 (.const (.agg #[(.string ⟨#[]⟩),(.slice none 0 0),(.slice none 0 0),(.slice none 0 0),(.slice none 0 0),(.int .i64 0),(.int .i64 0)])),none⟩,0⟩]
def zajy : List am := [⟨⟨(some 6),.fieldAddr 4 (t 1),none⟩,0⟩,
  ⟨⟨none,.store 1 (t 6) (.const (Go.Value.slice none 0 0)),none⟩,0⟩]
def zajx : List am := [⟨⟨(some 3),.mov (ci 0),none⟩,0⟩]
def zajw : List am := [⟨⟨(some 7),.mov (t 3),none⟩,0⟩,
  ⟨⟨(some 8),.fieldAddr 3 (t 1),none⟩,0⟩,
  ⟨⟨(some 9),.load1 (t 8),none⟩,0⟩,
  ⟨⟨(some 10),.lenL (t 9),none⟩,0⟩,
  ⟨⟨(some 11),.bin .lss (t 7) (t 10),none⟩,0⟩]
def zaju : List am := [⟨⟨(some 14),.fieldAddr 4 (t 1),none⟩,0⟩,
  ⟨⟨(some 15),.load1 (t 14),none⟩,2⟩,
  ⟨⟨(some 16),.mov (t 3),none⟩,0⟩,
  ⟨⟨(some 17),.call rc [(t 16)],none⟩,0⟩,
  ⟨⟨(some 18),.call wb [(t 17)],none⟩,0⟩,
  ⟨⟨(some 19),.buildSl ek 1 1 [(.string ⟨#[]⟩)] [(0,1,(t 18))],none⟩,0⟩,
  ⟨⟨(some 20),.append ek 1 16 (t 15) (t 19),none⟩,0⟩,
  ⟨⟨(some 21),.fieldAddr 4 (t 1),none⟩,0⟩,
  ⟨⟨none,.store 1 (t 21) (t 20),none⟩,2⟩]
def zajv : List am := [⟨⟨(some 12),.mov (t 3),none⟩,0⟩,
  ⟨⟨(some 13),.bin .add (t 12) (ci 1),none⟩,0⟩,
  ⟨⟨(some 3),.mov (t 13),none⟩,0⟩]
def ru : TC := (.seq (.seq (.ops zajw) (.clean [1,2,3,11] (.cond (t 11) .skip (.exit 0)))) (.clean [1,2,3] (.seq (.block 1 [1,2,3] (.draw (pl zaju))) (.clean [1,2,3] (.ops zajv)))))
def zajt : List am := [⟨⟨(some 4),.mov (ci 0),none⟩,0⟩]
def zajs : List am := [⟨⟨(some 22),.mov (t 4),none⟩,0⟩,
  ⟨⟨(some 23),.fieldAddr 1 (t 1),none⟩,0⟩,
  ⟨⟨(some 24),.load1 (t 23),none⟩,0⟩,
  ⟨⟨(some 25),.lenL (t 24),none⟩,0⟩,
  ⟨⟨(some 26),.bin .lss (t 22) (t 25),none⟩,0⟩]
def zajq : List am := [⟨⟨(some 29),.fieldAddr 1 (t 1),none⟩,0⟩,
  ⟨⟨(some 30),.load1 (t 29),none⟩,0⟩,
  ⟨⟨(some 31),.mov (t 4),none⟩,0⟩,
  ⟨⟨(some 32),.indexSl 2 (t 30) (t 31),none⟩,0⟩,
  ⟨⟨(some 33),.fieldAddr 1 (t 32),none⟩,0⟩,
  ⟨⟨none,.store 1 (t 33) (.const (Go.Value.slice none 0 0)),none⟩,0⟩]
def zagq : List am := [⟨⟨(some 5),.mov (ci 0),none⟩,0⟩]
def zagp : List am := [⟨⟨(some 34),.mov (t 5),none⟩,0⟩,
  ⟨⟨(some 35),.fieldAddr 3 (t 1),none⟩,0⟩,
  ⟨⟨(some 36),.load1 (t 35),none⟩,0⟩,
  ⟨⟨(some 37),.lenL (t 36),none⟩,0⟩,
  ⟨⟨(some 38),.bin .lss (t 34) (t 37),none⟩,0⟩]
def zagn : List (am × List Nat) := [(⟨⟨(some 41),.fieldAddr 1 (t 1),none⟩,0⟩,[]),
  (⟨⟨(some 42),.load1 (t 41),none⟩,0⟩,[]),
  (⟨⟨(some 43),.mov (t 4),none⟩,0⟩,[]),
  (⟨⟨(some 44),.fieldAddr 1 (t 1),none⟩,0⟩,[]),
  (⟨⟨(some 45),.load1 (t 44),none⟩,0⟩,[]),
  (⟨⟨(some 46),.mov (t 4),none⟩,0⟩,[]),
  (⟨⟨(some 47),.indexSl 2 (t 45) (t 46),none⟩,0⟩,[]),
  (⟨⟨(some 48),.fieldAddr 1 (t 47),none⟩,0⟩,[]),
  (⟨⟨(some 49),.load1 (t 48),none⟩,2⟩,[]),
  (⟨⟨(some 50),.mov (t 4),none⟩,0⟩,[]),
  (⟨⟨(some 52),.mov (t 5),none⟩,0⟩,[]),
  (⟨⟨(some 51),.call u4 [(t 50)],none⟩,0⟩,[]),
  (⟨⟨(some 53),.call rb [(t 51),(t 52)],none⟩,0⟩,[]),
  (⟨⟨(some 54),.buildSl ek 1 1 [(.string ⟨#[]⟩)] [(0,1,(t 53))],none⟩,0⟩,[]),
  (⟨⟨(some 55),.append ek 1 16 (t 49) (t 54),none⟩,0⟩,[1]),
  (⟨⟨(some 56),.indexSl 2 (t 42) (t 43),none⟩,0⟩,[]),
  (⟨⟨(some 57),.fieldAddr 1 (t 56),none⟩,0⟩,[]),
  (⟨⟨none,.store 1 (t 57) (t 55),none⟩,2⟩,[])]
def zago : List am := [⟨⟨(some 39),.mov (t 5),none⟩,0⟩,
  ⟨⟨(some 40),.bin .add (t 39) (ci 1),none⟩,0⟩,
  ⟨⟨(some 5),.mov (t 40),none⟩,0⟩]
def rr : TC := (.seq (.seq (.ops zagp) (.clean [1,2,4,5,38] (.cond (t 38) .skip (.exit 4)))) (.clean [1,2,4,5] (.seq (.block 5 [1,2,4,5] (.draw zagn)) (.clean [1,2,4,5] (.ops zago)))))
def zajr : List am := [⟨⟨(some 27),.mov (t 4),none⟩,0⟩,
  ⟨⟨(some 28),.bin .add (t 27) (ci 1),none⟩,0⟩,
  ⟨⟨(some 4),.mov (t 28),none⟩,0⟩]
def ul : TC := (.seq (.seq (.ops zajs) (.clean [1,2,4,26] (.cond (t 26) .skip (.exit 2)))) (.clean [1,2,4] (.seq (.block 3 [1,2,4] (.seq (.ops zajq) (.clean [1,2,4] (.seq (.ops zagq) (.block 4 [1,2,4] (.clean [1,2,4,5] (.loop [1,2,4,5] rr))))))) (.clean [1,2,4] (.ops zajr)))))
def zagm : List am := [⟨⟨(some 58),.loadN 7 (t 1),none⟩,0⟩,
  ⟨⟨none,.store 7 (t 2) (t 58),none⟩,0⟩]
def zaci : TC := (.seq (.ops zajz) (.clean [1,2] (.seq (.ops zajy) (.clean [1,2] (.seq (.seq (.ops zajx) (.block 0 [1,2] (.clean [1,2,3] (.loop [1,2,3] ru)))) (.clean [1,2] (.seq (.seq (.ops zajt) (.block 2 [1,2] (.clean [1,2,4] (.loop [1,2,4] ul)))) (.clean [1,2] (.seq (.ops zagm) (.ret [2]))))))))))
def zad8 : TFn := ⟨59,zaci,[.cellN 2 7],false⟩
theorem j9 : type_of% (ai @zajz.eq_1 (ai @zajy.eq_1 (ai @zajx.eq_1 (ai @zajw.eq_1 (ai @zaju.eq_1 (ai @zajv.eq_1 (ai @zajt.eq_1 (ai @zajs.eq_1 (ai @zajq.eq_1 (ai @zagq.eq_1 (ai @zagp.eq_1 (ai @zagn.eq_1 (ai @zago.eq_1 (ai @zajr.eq_1 (ai @zagm.eq_1 (ai @zaci.eq_1 @zad8.eq_1)))))))))))))))) := ⟨rfl,rfl,rfl,rfl,rfl,rfl,rfl,rfl,rfl,rfl,rfl,rfl,rfl,rfl,rfl,rfl,rfl⟩
theorem za2s : tu Try.prog [(5,⟨[0,1,2,3,4,5,6,7,8],[0,1,0,4,12,28,63,127,255],[],[]⟩),(13,⟨[0,1,2,3,4,5,6,7,8,9,11,10,12,13,14,15,16,17],[0,1,0,0,8,0,56,120,248,0,512,0,3584,7680,16376,32767,65535,131071],[],[(14,[1])]⟩)] wd = some (59,zaci.erase,[.cellN 2 7]) := by kernel_rfl
def zaqm : List am := [⟨⟨(some 2),.mov (.const (Go.Value.string ⟨#[]⟩)),none⟩,0⟩]
def zaql : List am := [⟨⟨(some 11),.mov (t 0),none⟩,0⟩,
  ⟨⟨(some 12),.toBytes jq (t 11),none⟩,2⟩,
  ⟨⟨(some 13),.buildSl jq 1 1 [(.int .u8 0)] [(0,1,(.const (Go.Value.int Go.IntKind.u8 128)))],none⟩,0⟩,
  ⟨⟨(some 14),.append jq 1 1 (t 12) (t 13),none⟩,0⟩,
  ⟨⟨(some 3),.mov (t 14),none⟩,0⟩]
def zaqk : List am := [⟨⟨(some 15),.mov (t 3),none⟩,0⟩,
  ⟨⟨(some 16),.lenL (t 15),none⟩,0⟩,
  ⟨⟨(some 17),.bin .rem (t 16) (ci 64),none⟩,0⟩,
  ⟨⟨(some 18),.bin .neq (t 17) (ci 56),none⟩,0⟩]
def zaqj : List am := [⟨⟨(some 19),.mov (t 3),none⟩,0⟩,
  ⟨⟨(some 20),.buildSl jq 1 1 [(.int .u8 0)] [(0,1,(.const (Go.Value.int Go.IntKind.u8 0)))],none⟩,0⟩,
  ⟨⟨(some 21),.append jq 1 1 (t 19) (t 20),none⟩,0⟩,
  ⟨⟨(some 3),.mov (t 21),none⟩,0⟩]
def z3 : TC := (.seq (.seq (.ops zaqk) (.clean [0,3,18] (.cond (t 18) .skip (.exit 0)))) (.block 1 [0,3] (.ops zaqj)))
def zaqi : List am := [⟨⟨(some 22),.mov (t 0),none⟩,0⟩,
  ⟨⟨(some 23),.lenS (t 22),none⟩,0⟩,
  ⟨⟨(some 24),.conv .u64 (t 23),none⟩,0⟩,
  ⟨⟨(some 25),.bin .mul (t 24) (.const (Go.Value.int Go.IntKind.u64 8)),none⟩,0⟩,
  ⟨⟨(some 4),.mov (t 25),none⟩,0⟩]
def zaqh : List am := [⟨⟨(some 5),.mov (ci 0),none⟩,0⟩]
def zaqg : List am := [⟨⟨(some 26),.mov (t 5),none⟩,0⟩,
  ⟨⟨(some 27),.bin .lss (t 26) (ci 8),none⟩,0⟩]
def zaqe : List am := [⟨⟨(some 30),.mov (t 3),none⟩,0⟩,
  ⟨⟨(some 31),.mov (t 4),none⟩,0⟩,
  ⟨⟨(some 32),.mov (t 5),none⟩,0⟩,
  ⟨⟨(some 33),.bin .mul (ci 8) (t 32),none⟩,0⟩,
  ⟨⟨(some 34),.bin .sub (ci 56) (t 33),none⟩,0⟩,
  ⟨⟨(some 35),.conv .u64 (t 34),none⟩,0⟩,
  ⟨⟨(some 36),.bin .shr (t 31) (t 35),none⟩,0⟩,
  ⟨⟨(some 37),.conv .u8 (t 36),none⟩,0⟩,
  ⟨⟨(some 38),.buildSl jq 1 1 [(.int .u8 0)] [(0,1,(t 37))],none⟩,0⟩,
  ⟨⟨(some 39),.append jq 1 1 (t 30) (t 38),none⟩,0⟩,
  ⟨⟨(some 3),.mov (t 39),none⟩,0⟩]
def zaqf : List am := [⟨⟨(some 28),.mov (t 5),none⟩,0⟩,
  ⟨⟨(some 29),.bin .add (t 28) (ci 1),none⟩,0⟩,
  ⟨⟨(some 5),.mov (t 29),none⟩,0⟩]
def z2 : TC := (.seq (.seq (.ops zaqg) (.clean [3,4,5,27] (.cond (t 27) .skip (.exit 2)))) (.clean [3,4,5] (.seq (.block 3 [3,4,5] (.ops zaqe)) (.clean [3,4,5] (.ops zaqf)))))
def zaqd : List am := [⟨⟨(some 40),.mov (t 3),none⟩,0⟩,
  ⟨⟨(some 41),.toStr (t 40),none⟩,0⟩,
  ⟨⟨(some 6),.mov (t 41),none⟩,0⟩]
def zana : List am := [⟨⟨(some 42),.build [(.int .u32 0),(.int .u32 0),(.int .u32 0),(.int .u32 0),(.int .u32 0),(.int .u32 0),(.int .u32 0),(.int .u32 0)] [(0,1,(.const (Go.Value.int Go.IntKind.u32 1779033703))),(1,1,(.const (Go.Value.int Go.IntKind.u32 3144134277))),(2,1,(.const (Go.Value.int Go.IntKind.u32 1013904242))),(3,1,(.const (Go.Value.int Go.IntKind.u32 2773480762))),(4,1,(.const (Go.Value.int Go.IntKind.u32 1359893119))),(5,1,(.const (Go.Value.int Go.IntKind.u32 2600822924))),(6,1,(.const (Go.Value.int Go.IntKind.u32 528734635))),(7,1,(.const (Go.Value.int Go.IntKind.u32 1541459225)))],none⟩,0⟩,
  ⟨⟨(some 7),.box di 8 (.const (.agg #[(.int .u32 0),(.int .u32 0),(.int .u32 0),(.int .u32 0),(.int .u32 0),(.int .u32 0),(.int .u32 0),(.int .u32 0)])),none⟩,0⟩,
  ⟨⟨none,.store 8 (t 7) (t 42),none⟩,0⟩]
def zam9 : List am := [⟨⟨(some 8),.mov (ci 0),none⟩,0⟩]
def zam8 : List am := [⟨⟨(some 43),.mov (t 8),none⟩,0⟩,
  ⟨⟨(some 44),.mov (t 6),none⟩,0⟩,
  ⟨⟨(some 45),.lenS (t 44),none⟩,0⟩,
  ⟨⟨(some 46),.bin .lss (t 43) (t 45),none⟩,0⟩]
def zam6 : List am := [⟨⟨(some 49),.loadN 8 (t 7),none⟩,0⟩,
  ⟨⟨(some 50),.mov (t 6),none⟩,0⟩,
  ⟨⟨(some 51),.mov (t 8),none⟩,0⟩,
  ⟨⟨(some 52),.mov (t 8),none⟩,0⟩,
  ⟨⟨(some 53),.bin .add (t 52) (ci 64),none⟩,0⟩,
  ⟨⟨(some 54),.sliceStr (t 50) (some (t 51)) (some (t 53)),none⟩,0⟩,
  ⟨⟨(some 55),.call tc [(t 49),(t 54)],none⟩,0⟩,
  ⟨⟨none,.store 8 (t 7) (t 55),none⟩,0⟩]
def zam7 : List am := [⟨⟨(some 47),.mov (t 8),none⟩,0⟩,
  ⟨⟨(some 48),.bin .add (t 47) (ci 64),none⟩,0⟩,
  ⟨⟨(some 8),.mov (t 48),none⟩,0⟩]
def z1 : TC := (.seq (.seq (.ops zam8) (.clean [6,7,8,46] (.cond (t 46) .skip (.exit 4)))) (.clean [6,7,8] (.seq (.block 5 [6,7,8] (.draw (pl zam6))) (.clean [6,7,8] (.ops zam7)))))
def zam5 : List am := [⟨⟨(some 9),.mov (.const (Go.Value.slice none 0 0)),none⟩,1⟩]
def zam4 : List am := [⟨⟨(some 10),.mov (ci 0),none⟩,0⟩]
def zam3 : List am := [⟨⟨(some 56),.mov (t 10),none⟩,0⟩,
  ⟨⟨(some 57),.bin .lss (t 56) (ci 8),none⟩,0⟩]
def zam1 : List am := [⟨⟨(some 60),.mov (t 9),none⟩,0⟩,
  ⟨⟨(some 61),.mov (t 10),none⟩,0⟩,
  ⟨⟨(some 62),.indexPtr 8 1 (t 7) (t 61),none⟩,0⟩,
  ⟨⟨(some 63),.load1 (t 62),none⟩,0⟩,
  ⟨⟨(some 64),.bin .shr (t 63) (.const (Go.Value.int Go.IntKind.u64 24)),none⟩,0⟩,
  ⟨⟨(some 65),.conv .u8 (t 64),none⟩,0⟩,
  ⟨⟨(some 66),.mov (t 10),none⟩,0⟩,
  ⟨⟨(some 67),.indexPtr 8 1 (t 7) (t 66),none⟩,0⟩,
  ⟨⟨(some 68),.load1 (t 67),none⟩,0⟩,
  ⟨⟨(some 69),.bin .shr (t 68) (.const (Go.Value.int Go.IntKind.u64 16)),none⟩,0⟩,
  ⟨⟨(some 70),.conv .u8 (t 69),none⟩,0⟩,
  ⟨⟨(some 71),.mov (t 10),none⟩,0⟩,
  ⟨⟨(some 72),.indexPtr 8 1 (t 7) (t 71),none⟩,0⟩,
  ⟨⟨(some 73),.load1 (t 72),none⟩,0⟩,
  ⟨⟨(some 74),.bin .shr (t 73) (.const (Go.Value.int Go.IntKind.u64 8)),none⟩,0⟩,
  ⟨⟨(some 75),.conv .u8 (t 74),none⟩,0⟩,
  ⟨⟨(some 76),.mov (t 10),none⟩,0⟩,
  ⟨⟨(some 77),.indexPtr 8 1 (t 7) (t 76),none⟩,0⟩,
  ⟨⟨(some 78),.load1 (t 77),none⟩,0⟩,
  ⟨⟨(some 79),.conv .u8 (t 78),none⟩,0⟩,
  ⟨⟨(some 80),.buildSl jq 1 4 [(.int .u8 0),(.int .u8 0),(.int .u8 0),(.int .u8 0)] [(0,1,(t 65)),(1,1,(t 70)),(2,1,(t 75)),(3,1,(t 79))],none⟩,0⟩,
  ⟨⟨(some 81),.append jq 1 1 (t 60) (t 80),none⟩,0⟩,
  ⟨⟨(some 9),.mov (t 81),none⟩,0⟩]
def zam2 : List am := [⟨⟨(some 58),.mov (t 10),none⟩,0⟩,
  ⟨⟨(some 59),.bin .add (t 58) (ci 1),none⟩,0⟩,
  ⟨⟨(some 10),.mov (t 59),none⟩,0⟩]
def z0 : TC := (.seq (.seq (.ops zam3) (.clean [7,9,10,57] (.cond (t 57) .skip (.exit 6)))) (.clean [7,9,10] (.seq (.block 7 [7,9,10] (.draw (pl zam1))) (.clean [7,9,10] (.ops zam2)))))
def zam0 : List am := [⟨⟨(some 82),.mov (t 9),none⟩,0⟩,
  ⟨⟨(some 83),.toStr (t 82),none⟩,0⟩,
  ⟨⟨(some 2),.mov (t 83),none⟩,0⟩]
def zall : TC := (.seq (.ops zaqm) (.clean [0] (.seq (.ops zaql) (.clean [0,3] (.seq (.block 0 [0,3] (.clean [0,3] (.loop [0,3] z3))) (.clean [0,3] (.seq (.ops zaqi) (.clean [3,4] (.seq (.seq (.ops zaqh) (.block 2 [3] (.clean [3,4,5] (.loop [3,4,5] z2)))) (.clean [3] (.seq (.ops zaqd) (.clean [6] (.seq (.ops zana) (.clean [6,7] (.seq (.seq (.ops zam9) (.block 4 [7] (.clean [6,7,8] (.loop [6,7,8] z1)))) (.clean [7] (.seq (.ops zam5) (.clean [7,9] (.seq (.seq (.ops zam4) (.block 6 [9] (.clean [7,9,10] (.loop [7,9,10] z0)))) (.clean [9] (.seq (.ops zam0) (.ret [2]))))))))))))))))))))))
def zal5 : TFn := ⟨84,zall,[.tmp 2],false⟩
theorem gi : type_of% (ai @zaqm.eq_1 (ai @zaql.eq_1 (ai @zaqk.eq_1 (ai @zaqj.eq_1 (ai @zaqi.eq_1 (ai @zaqh.eq_1 (ai @zaqg.eq_1 (ai @zaqe.eq_1 (ai @zaqf.eq_1 (ai @zaqd.eq_1 (ai @zana.eq_1 (ai @zam9.eq_1 (ai @zam8.eq_1 (ai @zam6.eq_1 (ai @zam7.eq_1 (ai @zam5.eq_1 (ai @zam4.eq_1 (ai @zam3.eq_1 (ai @zam1.eq_1 (ai @zam2.eq_1 (ai @zam0.eq_1 (ai @zall.eq_1 @zal5.eq_1)))))))))))))))))))))) := ⟨rfl,rfl,rfl,rfl,rfl,rfl,rfl,rfl,rfl,rfl,rfl,rfl,rfl,rfl,rfl,rfl,rfl,rfl,rfl,rfl,rfl,rfl,rfl⟩
theorem c_R01_Sum : tu Try.prog [(14,⟨[0,1,2,3,4,5,6,7],[0,0,0,0,8,30,63,127],[],[]⟩),(19,⟨[0,1,2,3,4,5,6,7,8,9,10,11,12,13,14,15,16,17,18,19,20,21,22],[0,0,2,6,14,30,0,64,192,448,960,0,2048,6144,14336,30720,0,65536,196608,458752,1048574,2097151,4194303],[],[]⟩)] wb = some (84,zall.erase,[.tmp 2]) := by kernel_rfl
def zajj : List am := [⟨⟨(some 2),.box di 8 (t 0),none⟩,0⟩,
  ⟨⟨(some 4),.box di 8 (.const (.agg #[(.int .u32 0),(.int .u32 0),(.int .u32 0),(.int .u32 0),(.int .u32 0),(.int .u32 0),(.int .u32 0),(.int .u32 0)])),none⟩,0⟩]
def zaji : List am := [⟨⟨(some 5),.box gn 64 (.const (.agg #[(.int .u32 0),(.int .u32 0),(.int .u32 0),(.int .u32 0),(.int .u32 0),(.int .u32 0),(.int .u32 0),(.int .u32 0),(.int .u32 0),(.int .u32 0),(.int .u32 0),(.int .u32 0),(.int .u32 0),(.int .u32 0),(.int .u32 0),(.int .u32 0),(.int .u32 0),(.int .u32 0),(.int .u32 0),(.int .u32 0),(.int .u32 0),(.int .u32 0),(.int .u32 0),(.int .u32 0),(.int .u32 0),(.int .u32 0),(.int .u32 0),(.int .u32 0),(.int .u32 0),(.int .u32 0),(.int .u32 0),(.int .u32 0),(.int .u32 0),(.int .u32 0),(.int .u32 0),(.int .u32 0),(.int .u32 0),(.int .u32 0),(.int .u32 0),(.int .u32 0),(.int .u32 0),(.int .u32 0),(.int .u32 0),(.int .u32 0),(.int .u32 0),(.int .u32 0),(.int .u32 0),(.int .u32 0),(.int .u32 0),(.int .u32 0),(.int .u32 0),(.int .u32 0),(.int .u32 0),(.int .u32 0),(.int .u32 0),(.int .u32 0),(.int .u32 0),(.int .u32 0),(.int .u32 0),(.int .u32 0),(.int .u32 0),(.int .u32 0),(.int .u32 0),(.int .u32 0)])),none⟩,0⟩]
def zajh : List am := [⟨⟨(some 18),.call ta [],none⟩,0⟩,
  ⟨⟨(some 6),.box gn 64 (.const (.agg #[(.int .u32 0),(.int .u32 0),(.int .u32 0),(.int .u32 0),(.int .u32 0),(.int .u32 0),(.int .u32 0),(.int .u32 0),(.int .u32 0),(.int .u32 0),(.int .u32 0),(.int .u32 0),(.int .u32 0),(.int .u32 0),(.int .u32 0),(.int .u32 0),(.int .u32 0),(.int .u32 0),(.int .u32 0),(.int .u32 0),(.int .u32 0),(.int .u32 0),(.int .u32 0),(.int .u32 0),(.int .u32 0),(.int .u32 0),(.int .u32 0),(.int .u32 0),(.int .u32 0),(.int .u32 0),(.int .u32 0),(.int .u32 0),(.int .u32 0),(.int .u32 0),(.int .u32 0),(.int .u32 0),(.int .u32 0),(.int .u32 0),(.int .u32 0),(.int .u32 0),(.int .u32 0),(.int .u32 0),(.int .u32 0),(.int .u32 0),(.int .u32 0),(.int .u32 0),(.int .u32 0),(.int .u32 0),(.int .u32 0),(.int .u32 0),(.int .u32 0),(.int .u32 0),(.int .u32 0),(.int .u32 0),(.int .u32 0),(.int .u32 0),(.int .u32 0),(.int .u32 0),(.int .u32 0),(.int .u32 0),(.int .u32 0),(.int .u32 0),(.int .u32 0),(.int .u32 0)])),none⟩,0⟩,
  ⟨⟨none,.store 64 (t 6) (t 18),none⟩,0⟩]
def zajg : List am := [⟨⟨(some 7),.mov (ci 0),none⟩,0⟩]
def zajf : List am := [⟨⟨(some 19),.mov (t 7),none⟩,0⟩,
  ⟨⟨(some 20),.bin .lss (t 19) (ci 16),none⟩,0⟩]
def zajd : List am := [⟨⟨(some 23),.mov (t 7),none⟩,0⟩,
  ⟨⟨(some 24),.mov (t 1),none⟩,0⟩,
  ⟨⟨(some 25),.mov (t 7),none⟩,0⟩,
  ⟨⟨(some 26),.bin .mul (ci 4) (t 25),none⟩,0⟩,
  ⟨⟨(some 27),.indexStr (t 24) (t 26),none⟩,0⟩,
  ⟨⟨(some 28),.conv .u32 (t 27),none⟩,0⟩,
  ⟨⟨(some 29),.bin .shl (t 28) (.const (Go.Value.int Go.IntKind.u64 24)),none⟩,0⟩,
  ⟨⟨(some 30),.mov (t 1),none⟩,0⟩,
  ⟨⟨(some 31),.mov (t 7),none⟩,0⟩,
  ⟨⟨(some 32),.bin .mul (ci 4) (t 31),none⟩,0⟩,
  ⟨⟨(some 33),.bin .add (t 32) (ci 1),none⟩,0⟩,
  ⟨⟨(some 34),.indexStr (t 30) (t 33),none⟩,0⟩,
  ⟨⟨(some 35),.conv .u32 (t 34),none⟩,0⟩,
  ⟨⟨(some 36),.bin .shl (t 35) (.const (Go.Value.int Go.IntKind.u64 16)),none⟩,0⟩,
  ⟨⟨(some 37),.bin .or (t 29) (t 36),none⟩,0⟩,
  ⟨⟨(some 38),.mov (t 1),none⟩,0⟩,
  ⟨⟨(some 39),.mov (t 7),none⟩,0⟩,
  ⟨⟨(some 40),.bin .mul (ci 4) (t 39),none⟩,0⟩,
  ⟨⟨(some 41),.bin .add (t 40) (ci 2),none⟩,0⟩,
  ⟨⟨(some 42),.indexStr (t 38) (t 41),none⟩,0⟩,
  ⟨⟨(some 43),.conv .u32 (t 42),none⟩,0⟩,
  ⟨⟨(some 44),.bin .shl (t 43) (.const (Go.Value.int Go.IntKind.u64 8)),none⟩,0⟩,
  ⟨⟨(some 45),.bin .or (t 37) (t 44),none⟩,0⟩,
  ⟨⟨(some 46),.mov (t 1),none⟩,0⟩,
  ⟨⟨(some 47),.mov (t 7),none⟩,0⟩,
  ⟨⟨(some 48),.bin .mul (ci 4) (t 47),none⟩,0⟩,
  ⟨⟨(some 49),.bin .add (t 48) (ci 3),none⟩,0⟩,
  ⟨⟨(some 50),.indexStr (t 46) (t 49),none⟩,0⟩,
  ⟨⟨(some 51),.conv .u32 (t 50),none⟩,0⟩,
  ⟨⟨(some 52),.bin .or (t 45) (t 51),none⟩,0⟩,
  ⟨⟨(some 53),.indexPtr 64 1 (t 5) (t 23),none⟩,0⟩,
  ⟨⟨none,.store 1 (t 53) (t 52),none⟩,0⟩]
def zaje : List am := [⟨⟨(some 21),.mov (t 7),none⟩,0⟩,
  ⟨⟨(some 22),.bin .add (t 21) (ci 1),none⟩,0⟩,
  ⟨⟨(some 7),.mov (t 22),none⟩,0⟩]
def uk : TC := (.seq (.seq (.ops zajf) (.clean [1,2,4,5,6,7,20] (.cond (t 20) .skip (.exit 0)))) (.clean [1,2,4,5,6,7] (.seq (.block 1 [1,2,4,5,6,7] (.draw (pl zajd))) (.clean [1,2,4,5,6,7] (.ops zaje)))))
def zajc : List am := [⟨⟨(some 8),.mov (ci 16),none⟩,0⟩]
def zajb : List am := [⟨⟨(some 54),.mov (t 8),none⟩,0⟩,
  ⟨⟨(some 55),.bin .lss (t 54) (ci 64),none⟩,0⟩]
def zagl : List am := [⟨⟨(some 58),.mov (t 8),none⟩,0⟩,
  ⟨⟨(some 59),.bin .sub (t 58) (ci 15),none⟩,0⟩,
  ⟨⟨(some 60),.indexPtr 64 1 (t 5) (t 59),none⟩,0⟩,
  ⟨⟨(some 61),.load1 (t 60),none⟩,0⟩,
  ⟨⟨(some 63),.mov (t 8),none⟩,0⟩,
  ⟨⟨(some 64),.bin .sub (t 63) (ci 15),none⟩,0⟩,
  ⟨⟨(some 65),.indexPtr 64 1 (t 5) (t 64),none⟩,0⟩,
  ⟨⟨(some 66),.load1 (t 65),none⟩,0⟩,
  ⟨⟨(some 69),.mov (t 8),none⟩,0⟩,
  ⟨⟨(some 70),.bin .sub (t 69) (ci 15),none⟩,0⟩,
  ⟨⟨(some 71),.indexPtr 64 1 (t 5) (t 70),none⟩,0⟩,
  ⟨⟨(some 72),.load1 (t 71),none⟩,0⟩,
  ⟨⟨(some 73),.bin .shr (t 72) (.const (Go.Value.int Go.IntKind.u64 3)),none⟩,0⟩,
  ⟨⟨(some 62),.call gq [(t 61),(.const (Go.Value.int Go.IntKind.u64 7))],none⟩,0⟩,
  ⟨⟨(some 67),.call gq [(t 66),(.const (Go.Value.int Go.IntKind.u64 18))],none⟩,0⟩,
  ⟨⟨(some 68),.bin .xor (t 62) (t 67),none⟩,0⟩,
  ⟨⟨(some 74),.bin .xor (t 68) (t 73),none⟩,0⟩,
  ⟨⟨(some 9),.mov (t 74),none⟩,0⟩]
def zagk : List am := [⟨⟨(some 75),.mov (t 8),none⟩,0⟩,
  ⟨⟨(some 76),.bin .sub (t 75) (ci 2),none⟩,0⟩,
  ⟨⟨(some 77),.indexPtr 64 1 (t 5) (t 76),none⟩,0⟩,
  ⟨⟨(some 78),.load1 (t 77),none⟩,0⟩,
  ⟨⟨(some 80),.mov (t 8),none⟩,0⟩,
  ⟨⟨(some 81),.bin .sub (t 80) (ci 2),none⟩,0⟩,
  ⟨⟨(some 82),.indexPtr 64 1 (t 5) (t 81),none⟩,0⟩,
  ⟨⟨(some 83),.load1 (t 82),none⟩,0⟩,
  ⟨⟨(some 86),.mov (t 8),none⟩,0⟩,
  ⟨⟨(some 87),.bin .sub (t 86) (ci 2),none⟩,0⟩,
  ⟨⟨(some 88),.indexPtr 64 1 (t 5) (t 87),none⟩,0⟩,
  ⟨⟨(some 89),.load1 (t 88),none⟩,0⟩,
  ⟨⟨(some 90),.bin .shr (t 89) (.const (Go.Value.int Go.IntKind.u64 10)),none⟩,0⟩,
  ⟨⟨(some 79),.call gq [(t 78),(.const (Go.Value.int Go.IntKind.u64 17))],none⟩,0⟩,
  ⟨⟨(some 84),.call gq [(t 83),(.const (Go.Value.int Go.IntKind.u64 19))],none⟩,0⟩,
  ⟨⟨(some 85),.bin .xor (t 79) (t 84),none⟩,0⟩,
  ⟨⟨(some 91),.bin .xor (t 85) (t 90),none⟩,0⟩,
  ⟨⟨(some 10),.mov (t 91),none⟩,0⟩]
def zagj : List am := [⟨⟨(some 92),.mov (t 8),none⟩,0⟩,
  ⟨⟨(some 93),.mov (t 8),none⟩,0⟩,
  ⟨⟨(some 94),.bin .sub (t 93) (ci 16),none⟩,0⟩,
  ⟨⟨(some 95),.indexPtr 64 1 (t 5) (t 94),none⟩,0⟩,
  ⟨⟨(some 96),.load1 (t 95),none⟩,0⟩,
  ⟨⟨(some 97),.mov (t 9),none⟩,0⟩,
  ⟨⟨(some 98),.bin .add (t 96) (t 97),none⟩,0⟩,
  ⟨⟨(some 99),.mov (t 8),none⟩,0⟩,
  ⟨⟨(some 100),.bin .sub (t 99) (ci 7),none⟩,0⟩,
  ⟨⟨(some 101),.indexPtr 64 1 (t 5) (t 100),none⟩,0⟩,
  ⟨⟨(some 102),.load1 (t 101),none⟩,0⟩,
  ⟨⟨(some 103),.bin .add (t 98) (t 102),none⟩,0⟩,
  ⟨⟨(some 104),.mov (t 10),none⟩,0⟩,
  ⟨⟨(some 105),.bin .add (t 103) (t 104),none⟩,0⟩,
  ⟨⟨(some 106),.indexPtr 64 1 (t 5) (t 92),none⟩,0⟩,
  ⟨⟨none,.store 1 (t 106) (t 105),none⟩,0⟩]
def zaja : List am := [⟨⟨(some 56),.mov (t 8),none⟩,0⟩,
  ⟨⟨(some 57),.bin .add (t 56) (ci 1),none⟩,0⟩,
  ⟨⟨(some 8),.mov (t 57),none⟩,0⟩]
def uj : TC := (.seq (.seq (.ops zajb) (.clean [2,4,5,6,8,55] (.cond (t 55) .skip (.exit 2)))) (.clean [2,4,5,6,8] (.seq (.block 3 [2,4,5,6,8] (.seq (.draw (pl zagl)) (.clean [2,4,5,6,8,9] (.seq (.draw (pl zagk)) (.clean [2,4,5,6,8,9,10] (.draw (pl zagj))))))) (.clean [2,4,5,6,8] (.ops zaja)))))
def zagi : List am := [⟨⟨(some 107),.loadN 8 (t 2),none⟩,0⟩,
  ⟨⟨(some 11),.box di 8 (.const (.agg #[(.int .u32 0),(.int .u32 0),(.int .u32 0),(.int .u32 0),(.int .u32 0),(.int .u32 0),(.int .u32 0),(.int .u32 0)])),none⟩,0⟩,
  ⟨⟨none,.store 8 (t 11) (t 107),none⟩,0⟩]
def zagh : List am := [⟨⟨(some 12),.mov (ci 0),none⟩,0⟩]
def zagg : List am := [⟨⟨(some 108),.mov (t 12),none⟩,0⟩,
  ⟨⟨(some 109),.bin .lss (t 108) (ci 64),none⟩,0⟩]
def zage : List am := [⟨⟨(some 112),.indexPtr 8 1 (t 11) (ci 4),none⟩,0⟩,
  ⟨⟨(some 113),.load1 (t 112),none⟩,0⟩,
  ⟨⟨(some 115),.indexPtr 8 1 (t 11) (ci 4),none⟩,0⟩,
  ⟨⟨(some 116),.load1 (t 115),none⟩,0⟩,
  ⟨⟨(some 119),.indexPtr 8 1 (t 11) (ci 4),none⟩,0⟩,
  ⟨⟨(some 120),.load1 (t 119),none⟩,0⟩,
  ⟨⟨(some 114),.call gq [(t 113),(.const (Go.Value.int Go.IntKind.u64 6))],none⟩,0⟩,
  ⟨⟨(some 117),.call gq [(t 116),(.const (Go.Value.int Go.IntKind.u64 11))],none⟩,0⟩,
  ⟨⟨(some 118),.bin .xor (t 114) (t 117),none⟩,0⟩,
  ⟨⟨(some 121),.call gq [(t 120),(.const (Go.Value.int Go.IntKind.u64 25))],none⟩,0⟩,
  ⟨⟨(some 122),.bin .xor (t 118) (t 121),none⟩,0⟩,
  ⟨⟨(some 13),.mov (t 122),none⟩,0⟩]
def zagd : List am := [⟨⟨(some 123),.indexPtr 8 1 (t 11) (ci 7),none⟩,0⟩,
  ⟨⟨(some 124),.load1 (t 123),none⟩,0⟩,
  ⟨⟨(some 125),.mov (t 13),none⟩,0⟩,
  ⟨⟨(some 126),.bin .add (t 124) (t 125),none⟩,0⟩,
  ⟨⟨(some 127),.indexPtr 8 1 (t 11) (ci 4),none⟩,0⟩,
  ⟨⟨(some 128),.load1 (t 127),none⟩,0⟩,
  ⟨⟨(some 129),.indexPtr 8 1 (t 11) (ci 5),none⟩,0⟩,
  ⟨⟨(some 130),.load1 (t 129),none⟩,0⟩,
  ⟨⟨(some 131),.bin .and (t 128) (t 130),none⟩,0⟩,
  ⟨⟨(some 132),.indexPtr 8 1 (t 11) (ci 4),none⟩,0⟩,
  ⟨⟨(some 133),.load1 (t 132),none⟩,0⟩,
  ⟨⟨(some 134),.un .xor (t 133),none⟩,0⟩,
  ⟨⟨(some 135),.indexPtr 8 1 (t 11) (ci 6),none⟩,0⟩,
  ⟨⟨(some 136),.load1 (t 135),none⟩,0⟩,
  ⟨⟨(some 137),.bin .and (t 134) (t 136),none⟩,0⟩,
  ⟨⟨(some 138),.bin .xor (t 131) (t 137),none⟩,0⟩,
  ⟨⟨(some 139),.bin .add (t 126) (t 138),none⟩,0⟩,
  ⟨⟨(some 140),.mov (t 12),none⟩,0⟩,
  ⟨⟨(some 141),.indexPtr 64 1 (t 6) (t 140),none⟩,0⟩,
  ⟨⟨(some 142),.load1 (t 141),none⟩,0⟩,
  ⟨⟨(some 143),.bin .add (t 139) (t 142),none⟩,0⟩,
  ⟨⟨(some 144),.mov (t 12),none⟩,0⟩,
  ⟨⟨(some 145),.indexPtr 64 1 (t 5) (t 144),none⟩,0⟩,
  ⟨⟨(some 146),.load1 (t 145),none⟩,0⟩,
  ⟨⟨(some 147),.bin .add (t 143) (t 146),none⟩,0⟩,
  ⟨⟨(some 14),.mov (t 147),none⟩,0⟩]
def zagc : List am := [⟨⟨(some 148),.indexPtr 8 1 (t 11) (ci 0),none⟩,0⟩,
  ⟨⟨(some 149),.load1 (t 148),none⟩,0⟩,
  ⟨⟨(some 151),.indexPtr 8 1 (t 11) (ci 0),none⟩,0⟩,
  ⟨⟨(some 152),.load1 (t 151),none⟩,0⟩,
  ⟨⟨(some 155),.indexPtr 8 1 (t 11) (ci 0),none⟩,0⟩,
  ⟨⟨(some 156),.load1 (t 155),none⟩,0⟩,
  ⟨⟨(some 150),.call gq [(t 149),(.const (Go.Value.int Go.IntKind.u64 2))],none⟩,0⟩,
  ⟨⟨(some 153),.call gq [(t 152),(.const (Go.Value.int Go.IntKind.u64 13))],none⟩,0⟩,
  ⟨⟨(some 154),.bin .xor (t 150) (t 153),none⟩,0⟩,
  ⟨⟨(some 157),.call gq [(t 156),(.const (Go.Value.int Go.IntKind.u64 22))],none⟩,0⟩,
  ⟨⟨(some 158),.bin .xor (t 154) (t 157),none⟩,0⟩,
  ⟨⟨(some 15),.mov (t 158),none⟩,0⟩]
def zagb : List am := [⟨⟨(some 159),.mov (t 15),none⟩,0⟩,
  ⟨⟨(some 160),.indexPtr 8 1 (t 11) (ci 0),none⟩,0⟩,
  ⟨⟨(some 161),.load1 (t 160),none⟩,0⟩,
  ⟨⟨(some 162),.indexPtr 8 1 (t 11) (ci 1),none⟩,0⟩,
  ⟨⟨(some 163),.load1 (t 162),none⟩,0⟩,
  ⟨⟨(some 164),.bin .and (t 161) (t 163),none⟩,0⟩,
  ⟨⟨(some 165),.indexPtr 8 1 (t 11) (ci 0),none⟩,0⟩,
  ⟨⟨(some 166),.load1 (t 165),none⟩,0⟩,
  ⟨⟨(some 167),.indexPtr 8 1 (t 11) (ci 2),none⟩,0⟩,
  ⟨⟨(some 168),.load1 (t 167),none⟩,0⟩,
  ⟨⟨(some 169),.bin .and (t 166) (t 168),none⟩,0⟩,
  ⟨⟨(some 170),.bin .xor (t 164) (t 169),none⟩,0⟩,
  ⟨⟨(some 171),.indexPtr 8 1 (t 11) (ci 1),none⟩,0⟩,
  ⟨⟨(some 172),.load1 (t 171),none⟩,0⟩,
  ⟨⟨(some 173),.indexPtr 8 1 (t 11) (ci 2),none⟩,0⟩,
  ⟨⟨(some 174),.load1 (t 173),none⟩,0⟩,
  ⟨⟨(some 175),.bin .and (t 172) (t 174),none⟩,0⟩,
  ⟨⟨(some 176),.bin .xor (t 170) (t 175),none⟩,0⟩,
  ⟨⟨(some 177),.bin .add (t 159) (t 176),none⟩,0⟩,
  ⟨⟨(some 16),.mov (t 177),none⟩,0⟩]
def zaga : List am := [⟨⟨(some 178),.mov (t 14),none⟩,0⟩,
  ⟨⟨(some 179),.mov (t 16),none⟩,0⟩,
  ⟨⟨(some 180),.bin .add (t 178) (t 179),none⟩,0⟩,
  ⟨⟨(some 181),.indexPtr 8 1 (t 11) (ci 0),none⟩,0⟩,
  ⟨⟨(some 182),.load1 (t 181),none⟩,0⟩,
  ⟨⟨(some 183),.indexPtr 8 1 (t 11) (ci 1),none⟩,0⟩,
  ⟨⟨(some 184),.load1 (t 183),none⟩,0⟩,
  ⟨⟨(some 185),.indexPtr 8 1 (t 11) (ci 2),none⟩,0⟩,
  ⟨⟨(some 186),.load1 (t 185),none⟩,0⟩,
  ⟨⟨(some 187),.indexPtr 8 1 (t 11) (ci 3),none⟩,0⟩,
  ⟨⟨(some 188),.load1 (t 187),none⟩,0⟩,
  ⟨⟨(some 189),.mov (t 14),none⟩,0⟩,
  ⟨⟨(some 190),.bin .add (t 188) (t 189),none⟩,0⟩,
  ⟨⟨(some 191),.indexPtr 8 1 (t 11) (ci 4),none⟩,0⟩,
  ⟨⟨(some 192),.load1 (t 191),none⟩,0⟩,
  ⟨⟨(some 193),.indexPtr 8 1 (t 11) (ci 5),none⟩,0⟩,
  ⟨⟨(some 194),.load1 (t 193),none⟩,0⟩,
  ⟨⟨(some 195),.indexPtr 8 1 (t 11) (ci 6),none⟩,0⟩,
  ⟨⟨(some 196),.load1 (t 195),none⟩,0⟩,
  ⟨⟨(some 197),.build [(.int .u32 0),(.int .u32 0),(.int .u32 0),(.int .u32 0),(.int .u32 0),(.int .u32 0),(.int .u32 0),(.int .u32 0)] [(0,1,(t 180)),(1,1,(t 182)),(2,1,(t 184)),(3,1,(t 186)),(4,1,(t 190)),(5,1,(t 192)),(6,1,(t 194)),(7,1,(t 196))],none⟩,0⟩,
  ⟨⟨none,.store 8 (t 11) (t 197),none⟩,0⟩]
def zagf : List am := [⟨⟨(some 110),.mov (t 12),none⟩,0⟩,
  ⟨⟨(some 111),.bin .add (t 110) (ci 1),none⟩,0⟩,
  ⟨⟨(some 12),.mov (t 111),none⟩,0⟩]
def ui : TC := (.seq (.seq (.ops zagg) (.clean [2,4,5,6,11,12,109] (.cond (t 109) .skip (.exit 4)))) (.clean [2,4,5,6,11,12] (.seq (.block 5 [2,4,5,6,11,12] (.seq (.draw (pl zage)) (.clean [2,4,5,6,11,12,13] (.seq (.draw (pl zagd)) (.clean [2,4,5,6,11,12,14] (.seq (.draw (pl zagc)) (.clean [2,4,5,6,11,12,14,15] (.seq (.ops zagb) (.clean [2,4,5,6,11,12,14,16] (.ops zaga)))))))))) (.clean [2,4,5,6,11,12] (.ops zagf)))))
def zaf9 : List am := [⟨⟨(some 17),.mov (ci 0),none⟩,0⟩]
def zaf8 : List am := [⟨⟨(some 198),.mov (t 17),none⟩,0⟩,
  ⟨⟨(some 199),.bin .lss (t 198) (ci 8),none⟩,0⟩]
def zaf6 : List am := [⟨⟨(some 202),.mov (t 17),none⟩,0⟩,
  ⟨⟨(some 203),.mov (t 17),none⟩,0⟩,
  ⟨⟨(some 204),.indexPtr 8 1 (t 2) (t 203),none⟩,0⟩,
  ⟨⟨(some 205),.load1 (t 204),none⟩,0⟩,
  ⟨⟨(some 206),.mov (t 17),none⟩,0⟩,
  ⟨⟨(some 207),.indexPtr 8 1 (t 11) (t 206),none⟩,0⟩,
  ⟨⟨(some 208),.load1 (t 207),none⟩,0⟩,
  ⟨⟨(some 209),.bin .add (t 205) (t 208),none⟩,0⟩,
  ⟨⟨(some 210),.indexPtr 8 1 (t 2) (t 202),none⟩,0⟩,
  ⟨⟨none,.store 1 (t 210) (t 209),none⟩,0⟩]
def zaf7 : List am := [⟨⟨(some 200),.mov (t 17),none⟩,0⟩,
  ⟨⟨(some 201),.bin .add (t 200) (ci 1),none⟩,0⟩,
  ⟨⟨(some 17),.mov (t 201),none⟩,0⟩]
def uh : TC := (.seq (.seq (.ops zaf8) (.clean [2,4,11,17,199] (.cond (t 199) .skip (.exit 6)))) (.clean [2,4,11,17] (.seq (.block 7 [2,4,11,17] (.draw (pl zaf6))) (.clean [2,4,11,17] (.ops zaf7)))))
def zaf5 : List am := [⟨⟨(some 211),.loadN 8 (t 2),none⟩,0⟩,
  ⟨⟨none,.store 8 (t 4) (t 211),none⟩,0⟩]
def zacf : TC := (.seq (.ops zajj) (.clean [1,2,4] (.seq (.ops zaji) (.clean [1,2,4,5] (.seq (.ops zajh) (.clean [1,2,4,5,6] (.seq (.seq (.ops zajg) (.block 0 [2,4,5,6] (.clean [1,2,4,5,6,7] (.loop [1,2,4,5,6,7] uk)))) (.clean [2,4,5,6] (.seq (.seq (.ops zajc) (.block 2 [2,4,5,6] (.clean [2,4,5,6,8] (.loop [2,4,5,6,8] uj)))) (.clean [2,4,5,6] (.seq (.ops zagi) (.clean [2,4,5,6,11] (.seq (.seq (.ops zagh) (.block 4 [2,4,11] (.clean [2,4,5,6,11,12] (.loop [2,4,5,6,11,12] ui)))) (.clean [2,4,11] (.seq (.seq (.ops zaf9) (.block 6 [2,4] (.clean [2,4,11,17] (.loop [2,4,11,17] uh)))) (.clean [2,4] (.seq (.ops zaf5) (.ret [4]))))))))))))))))))
def zad5 : TFn := ⟨212,zacf,[.cellN 4 8],false⟩
theorem gm : type_of% (ai @zajj.eq_1 (ai @zaji.eq_1 (ai @zajh.eq_1 (ai @zajg.eq_1 (ai @zajf.eq_1 (ai @zajd.eq_1 (ai @zaje.eq_1 (ai @zajc.eq_1 (ai @zajb.eq_1 (ai @zagl.eq_1 (ai @zagk.eq_1 (ai @zagj.eq_1 (ai @zaja.eq_1 (ai @zagi.eq_1 (ai @zagh.eq_1 (ai @zagg.eq_1 (ai @zage.eq_1 (ai @zagd.eq_1 (ai @zagc.eq_1 (ai @zagb.eq_1 (ai @zaga.eq_1 (ai @zagf.eq_1 (ai @zaf9.eq_1 (ai @zaf8.eq_1 (ai @zaf6.eq_1 (ai @zaf7.eq_1 (ai @zaf5.eq_1 (ai @zacf.eq_1 @zad5.eq_1)))))))))))))))))))))))))))) := ⟨rfl,rfl,rfl,rfl,rfl,rfl,rfl,rfl,rfl,rfl,rfl,rfl,rfl,rfl,rfl,rfl,rfl,rfl,rfl,rfl,rfl,rfl,rfl,rfl,rfl,rfl,rfl,rfl,rfl⟩
theorem za2p : tu Try.prog [(6,⟨[0,1,2,3,4,5,6,7,8,9,10,11,12,13,14,15,16,17,18,19,20,21,22,23,24,25,26,27,28,29,30,31],[0,0,0,4,14,30,62,0,0,256,768,1920,3968,8064,16382,0,0,65536,196608,491520,1015808,2064384,4194302,0,0,16777216,50331648,125829120,260046848,536870910,1073741823,2147483647],[],[]⟩),(10,⟨[0,1,2,3,5,6,7,8,11,12,13,14,15,4,9,10,16,17],[0,1,3,7,15,0,32,96,224,511,1023,0,2048,6144,14336,30720,65535,131071],[],[]⟩),(11,⟨[0,1,2,3,5,6,7,8,11,12,13,14,15,4,9,10,16,17],[0,1,3,7,15,0,32,96,224,511,1023,0,2048,6144,14336,30720,65535,131071],[],[]⟩),(12,⟨[0,1,2,3,4,5,6,7,8,9,10,11,12,13,14,15],[0,0,2,6,14,0,62,0,128,384,896,2046,0,8190,16383,32767],[],[]⟩),(17,⟨[0,1,3,4,7,8,2,5,6,9,10,11],[0,1,3,0,8,31,63,0,128,447,1023,2047],[],[]⟩),(18,⟨[0,1,2,3,4,5,6,7,8,9,10,11,12,13,14,15,16,17,18,19,20,21,22,23,24,25],[0,1,0,7,0,16,0,64,240,0,512,1536,0,4096,15872,32752,65535,0,131072,393216,1048575,0,2097152,6291456,16777215,33554431],[],[]⟩),(19,⟨[0,1,3,4,7,8,2,5,6,9,10,11],[0,1,3,0,8,31,63,0,128,447,1023,2047],[],[]⟩),(25,⟨[0,1,2,3,4,5,6,7,8,9],[0,0,2,6,0,16,48,126,255,511],[],[]⟩)] tc = some (212,zacf.erase,[.cellN 4 8]) := by kernel_rfl
def zai9 : List am := [⟨⟨(some 0),.box gn 64 (.const (.agg #[(.int .u32 0),(.int .u32 0),(.int .u32 0),(.int .u32 0),(.int .u32 0),(.int .u32 0),(.int .u32 0),(.int .u32 0),(.int .u32 0),(.int .u32 0),(.int .u32 0),(.int .u32 0),(.int .u32 0),(.int .u32 0),(.int .u32 0),(.int .u32 0),(.int .u32 0),(.int .u32 0),(.int .u32 0),(.int .u32 0),(.int .u32 0),(.int .u32 0),(.int .u32 0),(.int .u32 0),(.int .u32 0),(.int .u32 0),(.int .u32 0),(.int .u32 0),(.int .u32 0),(.int .u32 0),(.int .u32 0),(.int .u32 0),(.int .u32 0),(.int .u32 0),(.int .u32 0),(.int .u32 0),(.int .u32 0),(.int .u32 0),(.int .u32 0),(.int .u32 0),(.int .u32 0),(.int .u32 0),(.int .u32 0),(.int .u32 0),(.int .u32 0),(.int .u32 0),(.int .u32 0),(.int .u32 0),(.int .u32 0),(.int .u32 0),(.int .u32 0),(.int .u32 0),(.int .u32 0),(.int .u32 0),(.int .u32 0),(.int .u32 0),(.int .u32 0),(.int .u32 0),(.int .u32 0),(.int .u32 0),(.int .u32 0),(.int .u32 0),(.int .u32 0),(.int .u32 0)])),none⟩,0⟩]
def zai8 : List am := [⟨⟨(some 1),.build [(.int .u32 0),(.int .u32 0),(.int .u32 0),(.int .u32 0),(.int .u32 0),(.int .u32 0),(.int .u32 0),(.int .u32 0),(.int .u32 0),(.int .u32 0),(.int .u32 0),(.int .u32 0),(.int .u32 0),(.int .u32 0),(.int .u32 0),(.int .u32 0),(.int .u32 0),(.int .u32 0),(.int .u32 0),(.int .u32 0),(.int .u32 0),(.int .u32 0),(.int .u32 0),(.int .u32 0),(.int .u32 0),(.int .u32 0),(.int .u32 0),(.int .u32 0),(.int .u32 0),(.int .u32 0),(.int .u32 0),(.int .u32 0),(.int .u32 0),(.int .u32 0),(.int .u32 0),(.int .u32 0),(.int .u32 0),(.int .u32 0),(.int .u32 0),(.int .u32 0),(.int .u32 0),(.int .u32 0),(.int .u32 0),(.int .u32 0),(.int .u32 0),(.int .u32 0),(.int .u32 0),(.int .u32 0),(.int .u32 0),(.int .u32 0),(.int .u32 0),(.int .u32 0),(.int .u32 0),(.int .u32 0),(.int .u32 0),(.int .u32 0),(.int .u32 0),(.int .u32 0),(.int .u32 0),(.int .u32 0),(.int .u32 0),(.int .u32 0),(.int .u32 0),(.int .u32 0)] [(0,1,(.const (Go.Value.int Go.IntKind.u32 1116352408))),(1,1,(.const (Go.Value.int Go.IntKind.u32 1899447441))),(2,1,(.const (Go.Value.int Go.IntKind.u32 3049323471))),(3,1,(.const (Go.Value.int Go.IntKind.u32 3921009573))),(4,1,(.const (Go.Value.int Go.IntKind.u32 961987163))),(5,1,(.const (Go.Value.int Go.IntKind.u32 1508970993))),(6,1,(.const (Go.Value.int Go.IntKind.u32 2453635748))),(7,1,(.const (Go.Value.int Go.IntKind.u32 2870763221))),(8,1,(.const (Go.Value.int Go.IntKind.u32 3624381080))),(9,1,(.const (Go.Value.int Go.IntKind.u32 310598401))),(10,1,(.const (Go.Value.int Go.IntKind.u32 607225278))),(11,1,(.const (Go.Value.int Go.IntKind.u32 1426881987))),(12,1,(.const (Go.Value.int Go.IntKind.u32 1925078388))),(13,1,(.const (Go.Value.int Go.IntKind.u32 2162078206))),(14,1,(.const (Go.Value.int Go.IntKind.u32 2614888103))),(15,1,(.const (Go.Value.int Go.IntKind.u32 3248222580))),(16,1,(.const (Go.Value.int Go.IntKind.u32 3835390401))),(17,1,(.const (Go.Value.int Go.IntKind.u32 4022224774))),(18,1,(.const (Go.Value.int Go.IntKind.u32 264347078))),(19,1,(.const (Go.Value.int Go.IntKind.u32 604807628))),(20,1,(.const (Go.Value.int Go.IntKind.u32 770255983))),(21,1,(.const (Go.Value.int Go.IntKind.u32 1249150122))),(22,1,(.const (Go.Value.int Go.IntKind.u32 1555081692))),(23,1,(.const (Go.Value.int Go.IntKind.u32 1996064986))),(24,1,(.const (Go.Value.int Go.IntKind.u32 2554220882))),(25,1,(.const (Go.Value.int Go.IntKind.u32 2821834349))),(26,1,(.const (Go.Value.int Go.IntKind.u32 2952996808))),(27,1,(.const (Go.Value.int Go.IntKind.u32 3210313671))),(28,1,(.const (Go.Value.int Go.IntKind.u32 3336571891))),(29,1,(.const (Go.Value.int Go.IntKind.u32 3584528711))),(30,1,(.const (Go.Value.int Go.IntKind.u32 113926993))),(31,1,(.const (Go.Value.int Go.IntKind.u32 338241895))),(32,1,(.const (Go.Value.int Go.IntKind.u32 666307205))),(33,1,(.const (Go.Value.int Go.IntKind.u32 773529912))),(34,1,(.const (Go.Value.int Go.IntKind.u32 1294757372))),(35,1,(.const (Go.Value.int Go.IntKind.u32 1396182291))),(36,1,(.const (Go.Value.int Go.IntKind.u32 1695183700))),(37,1,(.const (Go.Value.int Go.IntKind.u32 1986661051))),(38,1,(.const (Go.Value.int Go.IntKind.u32 2177026350))),(39,1,(.const (Go.Value.int Go.IntKind.u32 2456956037))),(40,1,(.const (Go.Value.int Go.IntKind.u32 2730485921))),(41,1,(.const (Go.Value.int Go.IntKind.u32 2820302411))),(42,1,(.const (Go.Value.int Go.IntKind.u32 3259730800))),(43,1,(.const (Go.Value.int Go.IntKind.u32 3345764771))),(44,1,(.const (Go.Value.int Go.IntKind.u32 3516065817))),(45,1,(.const (Go.Value.int Go.IntKind.u32 3600352804))),(46,1,(.const (Go.Value.int Go.IntKind.u32 4094571909))),(47,1,(.const (Go.Value.int Go.IntKind.u32 275423344))),(48,1,(.const (Go.Value.int Go.IntKind.u32 430227734))),(49,1,(.const (Go.Value.int Go.IntKind.u32 506948616))),(50,1,(.const (Go.Value.int Go.IntKind.u32 659060556))),(51,1,(.const (Go.Value.int Go.IntKind.u32 883997877))),(52,1,(.const (Go.Value.int Go.IntKind.u32 958139571))),(53,1,(.const (Go.Value.int Go.IntKind.u32 1322822218))),(54,1,(.const (Go.Value.int Go.IntKind.u32 1537002063))),(55,1,(.const (Go.Value.int Go.IntKind.u32 1747873779))),(56,1,(.const (Go.Value.int Go.IntKind.u32 1955562222))),(57,1,(.const (Go.Value.int Go.IntKind.u32 2024104815))),(58,1,(.const (Go.Value.int Go.IntKind.u32 2227730452))),(59,1,(.const (Go.Value.int Go.IntKind.u32 2361852424))),(60,1,(.const (Go.Value.int Go.IntKind.u32 2428436474))),(61,1,(.const (Go.Value.int Go.IntKind.u32 2756734187))),(62,1,(.const (Go.Value.int Go.IntKind.u32 3204031479))),(63,1,(.const (Go.Value.int Go.IntKind.u32 3329325298)))],none⟩,0⟩,
  ⟨⟨none,.store 64 (t 0) (t 1),none⟩,0⟩]
def zace : TC := (.seq (.ops zai9) (.clean [0] (.seq (.ops zai8) (.ret [0]))))
def zad4 : TFn := ⟨2,zace,[.cellN 0 64],false⟩
theorem za2v : type_of% (ai @zai9.eq_1 (ai @zai8.eq_1 (ai @zace.eq_1 @zad4.eq_1))) := ⟨rfl,rfl,rfl,rfl⟩
theorem za2o : tu Try.prog [] ta = some (2,zace.erase,[.cellN 0 64]) := by kernel_rfl
def zamz : List am := [⟨⟨(some 4),.mov (.const (Go.Value.int Go.IntKind.u32 0)),none⟩,0⟩]
def zamy : List am := [⟨⟨(some 5),.mov (t 0),none⟩,0⟩,
  ⟨⟨(some 6),.mov (t 1),none⟩,0⟩,
  ⟨⟨(some 7),.bin .shr (t 5) (t 6),none⟩,0⟩,
  ⟨⟨(some 8),.mov (t 0),none⟩,0⟩,
  ⟨⟨(some 9),.mov (t 1),none⟩,0⟩,
  ⟨⟨(some 10),.bin .sub (.const (Go.Value.int Go.IntKind.u64 32)) (t 9),none⟩,0⟩,
  ⟨⟨(some 11),.bin .shl (t 8) (t 10),none⟩,0⟩,
  ⟨⟨(some 12),.bin .or (t 7) (t 11),none⟩,0⟩,
  ⟨⟨(some 4),.mov (t 12),none⟩,0⟩]
def zahh : TC := (.seq (.ops zamz) (.clean [0,1] (.seq (.ops zamy) (.ret [4]))))
def zahz : TFn := ⟨13,zahh,[.tmp 4],false⟩
theorem U_R01_turn : type_of% (ai @zamz.eq_1 (ai @zamy.eq_1 (ai @zahh.eq_1 @zahz.eq_1))) := ⟨rfl,rfl,rfl,rfl⟩
theorem c_R01_turn : tu Try.prog [] gq = some (13,zahh.erase,[.tmp 4]) := by kernel_rfl
def zags : List am := [⟨⟨(some 2),.mov (.const (Go.Value.string ⟨#[]⟩)),none⟩,0⟩]
def zagr : List am := [⟨⟨(some 3),.mov (t 0),none⟩,0⟩,
  ⟨⟨(some 4),.call im [(t 3)],none⟩,0⟩,
  ⟨⟨(some 5),.bin .add (.const (Go.Value.string ⟨#[115,101,99,114,101,116]⟩)) (t 4),none⟩,0⟩,
  ⟨⟨(some 2),.mov (t 5),none⟩,0⟩]
def zq : TC := (.seq (.ops zags) (.clean [0] (.seq (.ops zagr) (.ret [2]))))
def zaaa : TFn := ⟨6,zq,[.tmp 2],false⟩
theorem za0p : type_of% (ai @zags.eq_1 (ai @zagr.eq_1 (ai @zq.eq_1 @zaaa.eq_1))) := ⟨rfl,rfl,rfl,rfl⟩
theorem za0c : tu Try.prog [] rc = some (6,zq.erase,[.tmp 2]) := by kernel_rfl
def zaf4 : List am := [⟨⟨(some 4),.mov (.const (Go.Value.string ⟨#[]⟩)),none⟩,0⟩]
def zaf3 : List am := [⟨⟨(some 7),.mov (t 1),none⟩,0⟩,
  ⟨⟨(some 8),.bin .lss (t 7) (ci 0),none⟩,0⟩,
  ⟨⟨(some 9),.mov (t 8),none⟩,0⟩,
  ⟨⟨(some 10),.mov (t 1),(some (9,false))⟩,0⟩,
  ⟨⟨(some 11),.bin .gtr (t 10) (ci 255),(some (9,false))⟩,0⟩,
  ⟨⟨(some 12),.pick (t 9) (.const (Go.Value.bool true)) (t 11),none⟩,0⟩]
def zaf2 : List am := [⟨⟨(some 4),.mov (.const (Go.Value.string ⟨#[]⟩)),none⟩,0⟩]
def zaf1 : List am := [⟨⟨(some 5),.mov (.const (Go.Value.string ⟨#[]⟩)),none⟩,0⟩]
def zaf0 : List am := [⟨⟨(some 6),.mov (ci 0),none⟩,0⟩]
def zafz : List am := [⟨⟨(some 13),.mov (t 6),none⟩,0⟩,
  ⟨⟨(some 14),.bin .lss (t 13) (ci 16),none⟩,0⟩]
def zafx : List am := [⟨⟨(some 17),.mov (t 5),none⟩,0⟩,
  ⟨⟨(some 18),.mov (t 0),none⟩,0⟩,
  ⟨⟨(some 19),.mov (t 1),none⟩,0⟩,
  ⟨⟨(some 20),.mov (t 6),none⟩,0⟩,
  ⟨⟨(some 21),.call qj [(t 18),(t 19),(t 20),(ci 0)],none⟩,0⟩,
  ⟨⟨(some 22),.call kg [(t 21)],none⟩,0⟩,
  ⟨⟨(some 23),.bin .add (t 17) (t 22),none⟩,0⟩,
  ⟨⟨(some 24),.mov (t 0),none⟩,0⟩,
  ⟨⟨(some 25),.mov (t 1),none⟩,0⟩,
  ⟨⟨(some 26),.mov (t 6),none⟩,0⟩,
  ⟨⟨(some 27),.call qj [(t 24),(t 25),(t 26),(ci 1)],none⟩,0⟩,
  ⟨⟨(some 28),.call kg [(t 27)],none⟩,0⟩,
  ⟨⟨(some 29),.bin .add (t 23) (t 28),none⟩,0⟩,
  ⟨⟨(some 5),.mov (t 29),none⟩,0⟩]
def zafy : List am := [⟨⟨(some 15),.mov (t 6),none⟩,0⟩,
  ⟨⟨(some 16),.bin .add (t 15) (ci 1),none⟩,0⟩,
  ⟨⟨(some 6),.mov (t 16),none⟩,0⟩]
def tf : TC := (.seq (.seq (.ops zafz) (.clean [0,1,5,6,14] (.cond (t 14) .skip (.exit 0)))) (.clean [0,1,5,6] (.seq (.block 1 [0,1,5,6] (.ops zafx)) (.clean [0,1,5,6] (.ops zafy)))))
def zafw : List am := [⟨⟨(some 30),.mov (t 5),none⟩,0⟩,
  ⟨⟨(some 31),.call kg [(t 30)],none⟩,0⟩,
  ⟨⟨(some 4),.mov (t 31),none⟩,0⟩]
def zp : TC := (.seq (.ops zaf4) (.clean [0,1] (.seq (.seq (.ops zaf3) (.clean [0,1,12] (.cond (t 12) (.seq (.ops zaf2) (.ret [4])) .skip))) (.clean [0,1] (.seq (.ops zaf1) (.clean [0,1,5] (.seq (.seq (.ops zaf0) (.block 0 [5] (.clean [0,1,5,6] (.loop [0,1,5,6] tf)))) (.clean [5] (.seq (.ops zafw) (.ret [4]))))))))))
def z9 : TFn := ⟨32,zp,[.tmp 4],false⟩
theorem qu : type_of% (ai @zaf4.eq_1 (ai @zaf3.eq_1 (ai @zaf2.eq_1 (ai @zaf1.eq_1 (ai @zaf0.eq_1 (ai @zafz.eq_1 (ai @zafx.eq_1 (ai @zafy.eq_1 (ai @zafw.eq_1 (ai @zp.eq_1 @z9.eq_1)))))))))) := ⟨rfl,rfl,rfl,rfl,rfl,rfl,rfl,rfl,rfl,rfl,rfl⟩
theorem za0b : tu Try.prog [] rb = some (32,zp.erase,[.tmp 4]) := by kernel_rfl
def zajl : List am := [⟨⟨(some 2),.mov (.const (Go.Value.string ⟨#[]⟩)),none⟩,0⟩]
def zajk : List am := [⟨⟨(some 3),.mov (t 0),none⟩,0⟩,
  ⟨⟨(some 4),.call wb [(t 3)],none⟩,0⟩,
  ⟨⟨(some 5),.sliceStr (t 4) none (some (ci 16)),none⟩,0⟩,
  ⟨⟨(some 2),.mov (t 5),none⟩,0⟩]
def zacg : TC := (.seq (.ops zajl) (.clean [0] (.seq (.ops zajk) (.ret [2]))))
def zad6 : TFn := ⟨6,zacg,[.tmp 2],false⟩
theorem za2w : type_of% (ai @zajl.eq_1 (ai @zajk.eq_1 (ai @zacg.eq_1 @zad6.eq_1))) := ⟨rfl,rfl,rfl,rfl⟩
theorem za2q : tu Try.prog [] kg = some (6,zacg.erase,[.tmp 2]) := by kernel_rfl
def zai7 : List am := [⟨⟨(some 8),.mov (.const (Go.Value.string ⟨#[]⟩)),none⟩,0⟩]
def zai6 : List am := [⟨⟨(some 9),.mov (t 1),none⟩,0⟩,
  ⟨⟨(some 10),.bin .lss (t 9) (ci 0),none⟩,0⟩,
  ⟨⟨(some 11),.mov (t 10),none⟩,0⟩,
  ⟨⟨(some 12),.mov (t 1),(some (11,false))⟩,0⟩,
  ⟨⟨(some 13),.bin .gtr (t 12) (ci 255),(some (11,false))⟩,0⟩,
  ⟨⟨(some 14),.pick (t 11) (.const (Go.Value.bool true)) (t 13),none⟩,0⟩,
  ⟨⟨(some 15),.mov (t 14),none⟩,0⟩,
  ⟨⟨(some 16),.mov (t 2),(some (15,false))⟩,0⟩,
  ⟨⟨(some 17),.bin .lss (t 16) (ci 0),(some (15,false))⟩,0⟩,
  ⟨⟨(some 18),.pick (t 15) (.const (Go.Value.bool true)) (t 17),none⟩,0⟩,
  ⟨⟨(some 19),.mov (t 18),none⟩,0⟩,
  ⟨⟨(some 20),.mov (t 2),(some (19,false))⟩,0⟩,
  ⟨⟨(some 21),.bin .geq (t 20) (ci 16),(some (19,false))⟩,0⟩,
  ⟨⟨(some 22),.pick (t 19) (.const (Go.Value.bool true)) (t 21),none⟩,0⟩,
  ⟨⟨(some 23),.mov (t 22),none⟩,0⟩,
  ⟨⟨(some 24),.mov (t 3),(some (23,false))⟩,0⟩,
  ⟨⟨(some 25),.bin .lss (t 24) (ci 0),(some (23,false))⟩,0⟩,
  ⟨⟨(some 26),.pick (t 23) (.const (Go.Value.bool true)) (t 25),none⟩,0⟩,
  ⟨⟨(some 27),.mov (t 26),none⟩,0⟩,
  ⟨⟨(some 28),.mov (t 3),(some (27,false))⟩,0⟩,
  ⟨⟨(some 29),.bin .gtr (t 28) (ci 1),(some (27,false))⟩,0⟩,
  ⟨⟨(some 30),.pick (t 27) (.const (Go.Value.bool true)) (t 29),none⟩,0⟩]
def zai5 : List am := [⟨⟨(some 8),.mov (.const (Go.Value.string ⟨#[]⟩)),none⟩,0⟩]
def zai4 : List am := [⟨⟨(some 31),.mov (t 0),none⟩,0⟩,
  ⟨⟨(some 32),.mov (t 1),none⟩,0⟩,
  ⟨⟨(some 33),.conv .u8 (t 32),none⟩,0⟩,
  ⟨⟨(some 34),.mov (t 2),none⟩,0⟩,
  ⟨⟨(some 35),.conv .u8 (t 34),none⟩,0⟩,
  ⟨⟨(some 36),.mov (t 3),none⟩,0⟩,
  ⟨⟨(some 37),.conv .u8 (t 36),none⟩,0⟩,
  ⟨⟨(some 38),.buildSl jq 1 3 [(.int .u8 0),(.int .u8 0),(.int .u8 0)] [(0,1,(t 33)),(1,1,(t 35)),(2,1,(t 37))],none⟩,0⟩,
  ⟨⟨(some 39),.toStr (t 38),none⟩,0⟩,
  ⟨⟨(some 40),.bin .add (t 31) (t 39),none⟩,0⟩,
  ⟨⟨(some 41),.call kg [(t 40)],none⟩,0⟩,
  ⟨⟨(some 8),.mov (t 41),none⟩,0⟩]
def zacd : TC := (.seq (.ops zai7) (.clean [0,1,2,3] (.seq (.seq (.ops zai6) (.clean [0,1,2,3,30] (.cond (t 30) (.seq (.ops zai5) (.ret [8])) .skip))) (.clean [0,1,2,3] (.seq (.ops zai4) (.ret [8]))))))
def zad3 : TFn := ⟨42,zacd,[.tmp 8],false⟩
theorem qa : type_of% (ai @zai7.eq_1 (ai @zai6.eq_1 (ai @zai5.eq_1 (ai @zai4.eq_1 (ai @zacd.eq_1 @zad3.eq_1))))) := ⟨rfl,rfl,rfl,rfl,rfl,rfl⟩
theorem za2n : tu Try.prog [] qj = some (42,zacd.erase,[.tmp 8]) := by kernel_rfl
def zanm : List am := [⟨⟨(some 2),.mov (.const (Go.Value.string ⟨#[]⟩)),none⟩,0⟩]
def zanl : List am := [⟨⟨(some 3),.mov (t 0),none⟩,0⟩,
  ⟨⟨(some 4),.call im [(t 3)],none⟩,0⟩,
  ⟨⟨(some 5),.bin .add (.const (Go.Value.string ⟨#[115,101,101,100]⟩)) (t 4),none⟩,0⟩,
  ⟨⟨(some 2),.mov (t 5),none⟩,0⟩]
def zahj : TC := (.seq (.ops zanm) (.clean [0] (.seq (.ops zanl) (.ret [2]))))
def zah1 : TFn := ⟨6,zahj,[.tmp 2],false⟩
theorem U_L00_Seed : type_of% (ai @zanm.eq_1 (ai @zanl.eq_1 (ai @zahj.eq_1 @zah1.eq_1))) := ⟨rfl,rfl,rfl,rfl⟩
theorem c_L00_Seed : tu Try.prog [] u4 = some (6,zahj.erase,[.tmp 2]) := by kernel_rfl
def zaat : List am := [⟨⟨(some 2),.box aq 7 (t 0),none⟩,0⟩,
  ⟨⟨(some 4),.mov (ci 0),none⟩,0⟩]
def zaas : List am := [⟨⟨(some 6),.fieldAddr 1 (t 2),none⟩,0⟩,
  ⟨⟨(some 7),.load1 (t 6),none⟩,0⟩,
  ⟨⟨(some 8),.lenL (t 7),none⟩,0⟩,
  ⟨⟨(some 5),.mov (t 8),none⟩,0⟩]
def zaar : List am := [⟨⟨(some 9),.loadN 7 (t 2),none⟩,0⟩,
  ⟨⟨(some 10),.call nd [(t 9)],none⟩,0⟩,
  ⟨⟨(some 11),.un .not (t 10),none⟩,0⟩]
def zaaq : List am := [⟨⟨(some 4),.mov (ci 0),none⟩,0⟩]
def zaap : List am := [⟨⟨(some 12),.fieldAddr 5 (t 2),none⟩,0⟩,
  ⟨⟨(some 13),.load1 (t 12),none⟩,0⟩,
  ⟨⟨(some 14),.mov (t 5),none⟩,0⟩,
  ⟨⟨(some 15),.mov (t 1),none⟩,0⟩,
  ⟨⟨(some 16),.max (t 15) (ci 1),none⟩,0⟩,
  ⟨⟨(some 17),.mov (t 5),none⟩,0⟩,
  ⟨⟨(some 18),.min (t 16) (t 17),none⟩,0⟩,
  ⟨⟨(some 19),.bin .add (t 14) (t 18),none⟩,0⟩,
  ⟨⟨(some 20),.bin .sub (t 19) (ci 1),none⟩,0⟩,
  ⟨⟨(some 21),.fieldAddr 6 (t 2),none⟩,0⟩,
  ⟨⟨(some 22),.load1 (t 21),none⟩,0⟩,
  ⟨⟨(some 23),.bin .mul (t 20) (t 22),none⟩,0⟩,
  ⟨⟨(some 24),.bin .add (t 13) (t 23),none⟩,0⟩,
  ⟨⟨(some 4),.mov (t 24),none⟩,0⟩]
def ve : TC := (.seq (.ops zaat) (.clean [1,2] (.seq (.ops zaas) (.clean [1,2,5] (.seq (.seq (.ops zaar) (.clean [1,2,5,11] (.cond (t 11) (.seq (.ops zaaq) (.ret [4])) .skip))) (.clean [1,2,5] (.seq (.ops zaap) (.ret [4]))))))))
def vm : TFn := ⟨25,ve,[.tmp 4],false⟩
theorem zag5 : type_of% (ai @zaat.eq_1 (ai @zaas.eq_1 (ai @zaar.eq_1 (ai @zaaq.eq_1 (ai @zaap.eq_1 (ai @ve.eq_1 @vm.eq_1)))))) := ⟨rfl,rfl,rfl,rfl,rfl,rfl,rfl⟩
theorem zase : tu Try.prog [] il = some (25,ve.erase,[.tmp 4]) := by kernel_rfl
def zai3 : List am := [⟨⟨(some 1),.box aq 7 (t 0),none⟩,0⟩,
  ⟨⟨(some 2),.mov (.const (Go.Value.bool false)),none⟩,0⟩]
def zai2 : List am := [⟨⟨(some 3),.fieldAddr 0 (t 1),none⟩,0⟩,
  ⟨⟨(some 4),.load1 (t 3),none⟩,0⟩,
  ⟨⟨(some 5),.call ra [(t 4)],none⟩,0⟩,
  ⟨⟨(some 6),.mov (t 5),none⟩,0⟩,
  ⟨⟨(some 7),.loadN 7 (t 1),(some (6,true))⟩,0⟩,
  ⟨⟨(some 8),.call nw [(t 7)],(some (6,true))⟩,0⟩,
  ⟨⟨(some 9),.pick (t 6) (t 8) (.const (Go.Value.bool false)),none⟩,0⟩,
  ⟨⟨(some 10),.mov (t 9),none⟩,0⟩,
  ⟨⟨(some 11),.loadN 7 (t 1),(some (10,true))⟩,0⟩,
  ⟨⟨(some 12),.call nv [(t 11)],(some (10,true))⟩,0⟩,
  ⟨⟨(some 13),.pick (t 10) (t 12) (.const (Go.Value.bool false)),none⟩,0⟩,
  ⟨⟨(some 14),.mov (t 13),none⟩,0⟩,
  ⟨⟨(some 15),.loadN 7 (t 1),(some (14,true))⟩,0⟩,
  ⟨⟨(some 16),.call uy [(t 15)],(some (14,true))⟩,0⟩,
  ⟨⟨(some 17),.pick (t 14) (t 16) (.const (Go.Value.bool false)),none⟩,0⟩,
  ⟨⟨(some 18),.mov (t 17),none⟩,0⟩,
  ⟨⟨(some 19),.fieldAddr 5 (t 1),(some (18,true))⟩,0⟩,
  ⟨⟨(some 20),.load1 (t 19),(some (18,true))⟩,0⟩,
  ⟨⟨(some 21),.bin .geq (t 20) (ci 0),(some (18,true))⟩,0⟩,
  ⟨⟨(some 22),.pick (t 18) (t 21) (.const (Go.Value.bool false)),none⟩,0⟩,
  ⟨⟨(some 23),.mov (t 22),none⟩,0⟩,
  ⟨⟨(some 24),.fieldAddr 5 (t 1),(some (23,true))⟩,0⟩,
  ⟨⟨(some 25),.load1 (t 24),(some (23,true))⟩,0⟩,
  ⟨⟨(some 26),.bin .leq (t 25) (ci 1099511627776),(some (23,true))⟩,0⟩,
  ⟨⟨(some 27),.pick (t 23) (t 26) (.const (Go.Value.bool false)),none⟩,0⟩,
  ⟨⟨(some 28),.mov (t 27),none⟩,0⟩,
  ⟨⟨(some 29),.fieldAddr 6 (t 1),(some (28,true))⟩,0⟩,
  ⟨⟨(some 30),.load1 (t 29),(some (28,true))⟩,0⟩,
  ⟨⟨(some 31),.bin .geq (t 30) (ci 1),(some (28,true))⟩,0⟩,
  ⟨⟨(some 32),.pick (t 28) (t 31) (.const (Go.Value.bool false)),none⟩,0⟩,
  ⟨⟨(some 33),.mov (t 32),none⟩,0⟩,
  ⟨⟨(some 34),.fieldAddr 6 (t 1),(some (33,true))⟩,0⟩,
  ⟨⟨(some 35),.load1 (t 34),(some (33,true))⟩,0⟩,
  ⟨⟨(some 36),.bin .leq (t 35) (ci 1048576),(some (33,true))⟩,0⟩,
  ⟨⟨(some 37),.pick (t 33) (t 36) (.const (Go.Value.bool false)),none⟩,0⟩,
  ⟨⟨(some 2),.mov (t 37),none⟩,0⟩]
def zacc : TC := (.seq (.ops zai3) (.clean [1] (.seq (.ops zai2) (.ret [2]))))
def zad2 : TFn := ⟨38,zacc,[.tmp 2],false⟩
theorem mr : type_of% (ai @zai3.eq_1 (ai @zai2.eq_1 (ai @zacc.eq_1 @zad2.eq_1))) := ⟨rfl,rfl,rfl,rfl⟩
theorem za2m : tu Try.prog [] nd = some (38,zacc.erase,[.tmp 2]) := by kernel_rfl
def zamx : List am := [⟨⟨(some 2),.mov (.const (Go.Value.bool false)),none⟩,0⟩]
def zamw : List am := [⟨⟨(some 3),.mov (t 0),none⟩,0⟩,
  ⟨⟨(some 4),.lenS (t 3),none⟩,0⟩,
  ⟨⟨(some 5),.bin .geq (t 4) (ci 1),none⟩,0⟩,
  ⟨⟨(some 6),.mov (t 5),none⟩,0⟩,
  ⟨⟨(some 7),.mov (t 0),(some (6,true))⟩,0⟩,
  ⟨⟨(some 8),.lenS (t 7),(some (6,true))⟩,0⟩,
  ⟨⟨(some 9),.bin .leq (t 8) (ci 16),(some (6,true))⟩,0⟩,
  ⟨⟨(some 10),.pick (t 6) (t 9) (.const (Go.Value.bool false)),none⟩,0⟩,
  ⟨⟨(some 2),.mov (t 10),none⟩,0⟩]
def zahg : TC := (.seq (.ops zamx) (.clean [0] (.seq (.ops zamw) (.ret [2]))))
def zahy : TFn := ⟨11,zahg,[.tmp 2],false⟩
theorem zaug : type_of% (ai @zamx.eq_1 (ai @zamw.eq_1 (ai @zahg.eq_1 @zahy.eq_1))) := ⟨rfl,rfl,rfl,rfl⟩
theorem c_R04_Name : tu Try.prog [] ra = some (11,zahg.erase,[.tmp 2]) := by kernel_rfl
def zadg : List am := [⟨⟨(some 1),.box aq 7 (t 0),none⟩,0⟩,
  ⟨⟨(some 2),.mov (.const (Go.Value.bool false)),none⟩,0⟩]
def zadf : List am := [⟨⟨(some 6),.fieldAddr 3 (t 1),none⟩,0⟩,
  ⟨⟨(some 7),.load1 (t 6),none⟩,0⟩,
  ⟨⟨(some 8),.lenL (t 7),none⟩,0⟩,
  ⟨⟨(some 3),.mov (t 8),none⟩,0⟩]
def zade : List am := [⟨⟨(some 9),.mov (t 3),none⟩,0⟩,
  ⟨⟨(some 10),.bin .lss (t 9) (ci 1),none⟩,0⟩,
  ⟨⟨(some 11),.mov (t 10),none⟩,0⟩,
  ⟨⟨(some 12),.mov (t 3),(some (11,false))⟩,0⟩,
  ⟨⟨(some 13),.bin .gtr (t 12) (ci 3),(some (11,false))⟩,0⟩,
  ⟨⟨(some 14),.pick (t 11) (.const (Go.Value.bool true)) (t 13),none⟩,0⟩,
  ⟨⟨(some 15),.mov (t 14),none⟩,0⟩,
  ⟨⟨(some 16),.fieldAddr 4 (t 1),(some (15,false))⟩,0⟩,
  ⟨⟨(some 17),.load1 (t 16),(some (15,false))⟩,0⟩,
  ⟨⟨(some 18),.lenL (t 17),(some (15,false))⟩,0⟩,
  ⟨⟨(some 19),.mov (t 3),(some (15,false))⟩,0⟩,
  ⟨⟨(some 20),.bin .neq (t 18) (t 19),(some (15,false))⟩,0⟩,
  ⟨⟨(some 21),.pick (t 15) (.const (Go.Value.bool true)) (t 20),none⟩,0⟩]
def zadd : List am := [⟨⟨(some 2),.mov (.const (Go.Value.bool false)),none⟩,0⟩]
def zadc : List am := [⟨⟨(some 4),.mov (ci 0),none⟩,0⟩]
def zadb : List am := [⟨⟨(some 22),.mov (t 4),none⟩,0⟩,
  ⟨⟨(some 23),.mov (t 3),none⟩,0⟩,
  ⟨⟨(some 24),.bin .lss (t 22) (t 23),none⟩,0⟩]
def zac9 : List am := [⟨⟨(some 27),.fieldAddr 3 (t 1),none⟩,0⟩,
  ⟨⟨(some 28),.load1 (t 27),none⟩,0⟩,
  ⟨⟨(some 29),.mov (t 4),none⟩,0⟩,
  ⟨⟨(some 30),.indexSl 1 (t 28) (t 29),none⟩,0⟩,
  ⟨⟨(some 31),.load1 (t 30),none⟩,0⟩,
  ⟨⟨(some 32),.bin .lss (t 31) (ci 0),none⟩,0⟩,
  ⟨⟨(some 33),.mov (t 32),none⟩,0⟩,
  ⟨⟨(some 34),.fieldAddr 3 (t 1),(some (33,false))⟩,0⟩,
  ⟨⟨(some 35),.load1 (t 34),(some (33,false))⟩,0⟩,
  ⟨⟨(some 36),.mov (t 4),(some (33,false))⟩,0⟩,
  ⟨⟨(some 37),.indexSl 1 (t 35) (t 36),(some (33,false))⟩,0⟩,
  ⟨⟨(some 38),.load1 (t 37),(some (33,false))⟩,0⟩,
  ⟨⟨(some 39),.fieldAddr 1 (t 1),(some (33,false))⟩,0⟩,
  ⟨⟨(some 40),.load1 (t 39),(some (33,false))⟩,0⟩,
  ⟨⟨(some 41),.lenL (t 40),(some (33,false))⟩,0⟩,
  ⟨⟨(some 42),.bin .geq (t 38) (t 41),(some (33,false))⟩,0⟩,
  ⟨⟨(some 43),.pick (t 33) (.const (Go.Value.bool true)) (t 42),none⟩,0⟩,
  ⟨⟨(some 44),.mov (t 43),none⟩,0⟩,
  ⟨⟨(some 45),.fieldAddr 4 (t 1),(some (44,false))⟩,0⟩,
  ⟨⟨(some 46),.load1 (t 45),(some (44,false))⟩,0⟩,
  ⟨⟨(some 47),.mov (t 4),(some (44,false))⟩,0⟩,
  ⟨⟨(some 48),.indexSl 1 (t 46) (t 47),(some (44,false))⟩,0⟩,
  ⟨⟨(some 49),.load1 (t 48),(some (44,false))⟩,0⟩,
  ⟨⟨(some 50),.lenS (t 49),(some (44,false))⟩,0⟩,
  ⟨⟨(some 51),.bin .neq (t 50) (ci 32),(some (44,false))⟩,0⟩,
  ⟨⟨(some 52),.pick (t 44) (.const (Go.Value.bool true)) (t 51),none⟩,0⟩]
def zac8 : List am := [⟨⟨(some 2),.mov (.const (Go.Value.bool false)),none⟩,0⟩]
def zac7 : List am := [⟨⟨(some 5),.mov (ci 0),none⟩,0⟩]
def zaa9 : List am := [⟨⟨(some 53),.mov (t 5),none⟩,0⟩,
  ⟨⟨(some 54),.mov (t 4),none⟩,0⟩,
  ⟨⟨(some 55),.bin .lss (t 53) (t 54),none⟩,0⟩]
def zaa7 : List am := [⟨⟨(some 58),.fieldAddr 3 (t 1),none⟩,0⟩,
  ⟨⟨(some 59),.load1 (t 58),none⟩,0⟩,
  ⟨⟨(some 60),.mov (t 5),none⟩,0⟩,
  ⟨⟨(some 61),.indexSl 1 (t 59) (t 60),none⟩,0⟩,
  ⟨⟨(some 62),.load1 (t 61),none⟩,0⟩,
  ⟨⟨(some 63),.fieldAddr 3 (t 1),none⟩,0⟩,
  ⟨⟨(some 64),.load1 (t 63),none⟩,0⟩,
  ⟨⟨(some 65),.mov (t 4),none⟩,0⟩,
  ⟨⟨(some 66),.indexSl 1 (t 64) (t 65),none⟩,0⟩,
  ⟨⟨(some 67),.load1 (t 66),none⟩,0⟩,
  ⟨⟨(some 68),.bin .eql (t 62) (t 67),none⟩,0⟩]
def zaa6 : List am := [⟨⟨(some 2),.mov (.const (Go.Value.bool false)),none⟩,0⟩]
def zaa8 : List am := [⟨⟨(some 56),.mov (t 5),none⟩,0⟩,
  ⟨⟨(some 57),.bin .add (t 56) (ci 1),none⟩,0⟩,
  ⟨⟨(some 5),.mov (t 57),none⟩,0⟩]
def ml : TC := (.seq (.seq (.ops zaa9) (.clean [1,3,4,5,55] (.cond (t 55) .skip (.exit 2)))) (.clean [1,3,4,5] (.seq (.block 3 [1,3,4,5] (.seq (.draw (pl zaa7)) (.clean [1,3,4,5,68] (.cond (t 68) (.seq (.ops zaa6) (.ret [2])) .skip)))) (.clean [1,3,4,5] (.ops zaa8)))))
def zada : List am := [⟨⟨(some 25),.mov (t 4),none⟩,0⟩,
  ⟨⟨(some 26),.bin .add (t 25) (ci 1),none⟩,0⟩,
  ⟨⟨(some 4),.mov (t 26),none⟩,0⟩]
def f0 : TC := (.seq (.seq (.ops zadb) (.clean [1,3,4,24] (.cond (t 24) .skip (.exit 0)))) (.clean [1,3,4] (.seq (.block 1 [1,3,4] (.seq (.seq (.draw (pl zac9)) (.clean [1,3,4,52] (.cond (t 52) (.seq (.ops zac8) (.ret [2])) .skip))) (.clean [1,3,4] (.seq (.ops zac7) (.block 2 [1,3,4] (.clean [1,3,4,5] (.loop [1,3,4,5] ml))))))) (.clean [1,3,4] (.ops zada)))))
def zaa5 : List am := [⟨⟨(some 2),.mov (.const (Go.Value.bool true)),none⟩,0⟩]
def xh : TC := (.seq (.ops zadg) (.clean [1] (.seq (.ops zadf) (.clean [1,3] (.seq (.seq (.ops zade) (.clean [1,3,21] (.cond (t 21) (.seq (.ops zadd) (.ret [2])) .skip))) (.clean [1,3] (.seq (.seq (.ops zadc) (.block 0 [] (.clean [1,3,4] (.loop [1,3,4] f0)))) (.clean [] (.seq (.ops zaa5) (.ret [2]))))))))))
def xq : TFn := ⟨69,xh,[.tmp 2],false⟩
theorem cp : type_of% (ai @zadg.eq_1 (ai @zadf.eq_1 (ai @zade.eq_1 (ai @zadd.eq_1 (ai @zadc.eq_1 (ai @zadb.eq_1 (ai @zac9.eq_1 (ai @zac8.eq_1 (ai @zac7.eq_1 (ai @zaa9.eq_1 (ai @zaa7.eq_1 (ai @zaa6.eq_1 (ai @zaa8.eq_1 (ai @zada.eq_1 (ai @zaa5.eq_1 (ai @xh.eq_1 @xq.eq_1)))))))))))))))) := ⟨rfl,rfl,rfl,rfl,rfl,rfl,rfl,rfl,rfl,rfl,rfl,rfl,rfl,rfl,rfl,rfl,rfl⟩
theorem zavy : tu Try.prog [(7,⟨[0,1,2,3,4,5,6,7,8,9,10,11,12,13,14,15,16,17,18,19,20,21,22,23,24,25],[0,1,0,7,15,31,63,127,255,127,1023,2047,127,4223,12415,32767,65535,131071,262143,524287,262143,2097151,4194303,8388607,16777215,33554431],[],[]⟩),(12,⟨[0,1,2,3,4,5,6,7,8,9,10],[0,1,0,7,15,0,32,0,224,480,1023],[],[]⟩)] nw = some (69,xh.erase,[.tmp 2]) := by kernel_rfl
def zac6 : List am := [⟨⟨(some 1),.box aq 7 (t 0),none⟩,0⟩,
  ⟨⟨(some 2),.mov (.const (Go.Value.bool false)),none⟩,0⟩]
def zac5 : List am := [⟨⟨(some 8),.fieldAddr 1 (t 1),none⟩,0⟩,
  ⟨⟨(some 9),.load1 (t 8),none⟩,0⟩,
  ⟨⟨(some 10),.lenL (t 9),none⟩,0⟩,
  ⟨⟨(some 3),.mov (t 10),none⟩,0⟩]
def zac4 : List am := [⟨⟨(some 11),.mov (t 3),none⟩,0⟩,
  ⟨⟨(some 12),.bin .lss (t 11) (ci 2),none⟩,0⟩,
  ⟨⟨(some 13),.mov (t 12),none⟩,0⟩,
  ⟨⟨(some 14),.mov (t 3),(some (13,false))⟩,0⟩,
  ⟨⟨(some 15),.bin .gtr (t 14) (ci 6),(some (13,false))⟩,0⟩,
  ⟨⟨(some 16),.pick (t 13) (.const (Go.Value.bool true)) (t 15),none⟩,0⟩]
def zac3 : List am := [⟨⟨(some 2),.mov (.const (Go.Value.bool false)),none⟩,0⟩]
def zac2 : List am := [⟨⟨(some 4),.mov (ci 0),none⟩,0⟩]
def zac1 : List am := [⟨⟨(some 17),.mov (t 4),none⟩,0⟩,
  ⟨⟨(some 18),.mov (t 3),none⟩,0⟩,
  ⟨⟨(some 19),.bin .lss (t 17) (t 18),none⟩,0⟩]
def zacz : List am := [⟨⟨(some 22),.fieldAddr 1 (t 1),none⟩,0⟩,
  ⟨⟨(some 23),.load1 (t 22),none⟩,0⟩,
  ⟨⟨(some 24),.mov (t 4),none⟩,0⟩,
  ⟨⟨(some 25),.indexSl 2 (t 23) (t 24),none⟩,0⟩,
  ⟨⟨(some 26),.loadN 2 (t 25),none⟩,0⟩,
  ⟨⟨(some 5),.box fe 2 (.const (.agg #[(.string ⟨#[]⟩),(.slice none 0 0)])),none⟩,0⟩,
  ⟨⟨none,.store 2 (t 5) (t 26),none⟩,0⟩]
def zacy : List am := [⟨⟨(some 27),.fieldAddr 0 (t 5),none⟩,0⟩,
  ⟨⟨(some 28),.load1 (t 27),none⟩,0⟩,
  ⟨⟨(some 29),.call ra [(t 28)],none⟩,0⟩,
  ⟨⟨(some 30),.un .not (t 29),none⟩,0⟩,
  ⟨⟨(some 31),.mov (t 30),none⟩,0⟩,
  ⟨⟨(some 32),.fieldAddr 1 (t 5),(some (31,false))⟩,0⟩,
  ⟨⟨(some 33),.load1 (t 32),(some (31,false))⟩,0⟩,
  ⟨⟨(some 34),.lenL (t 33),(some (31,false))⟩,0⟩,
  ⟨⟨(some 35),.fieldAddr 3 (t 1),(some (31,false))⟩,0⟩,
  ⟨⟨(some 36),.load1 (t 35),(some (31,false))⟩,0⟩,
  ⟨⟨(some 37),.lenL (t 36),(some (31,false))⟩,0⟩,
  ⟨⟨(some 38),.bin .neq (t 34) (t 37),(some (31,false))⟩,0⟩,
  ⟨⟨(some 39),.pick (t 31) (.const (Go.Value.bool true)) (t 38),none⟩,0⟩]
def zacx : List am := [⟨⟨(some 2),.mov (.const (Go.Value.bool false)),none⟩,0⟩]
def zaa4 : List am := [⟨⟨(some 6),.mov (ci 0),none⟩,0⟩]
def zaa3 : List am := [⟨⟨(some 40),.mov (t 6),none⟩,0⟩,
  ⟨⟨(some 41),.fieldAddr 1 (t 5),none⟩,0⟩,
  ⟨⟨(some 42),.load1 (t 41),none⟩,0⟩,
  ⟨⟨(some 43),.lenL (t 42),none⟩,0⟩,
  ⟨⟨(some 44),.bin .lss (t 40) (t 43),none⟩,0⟩]
def zaa1 : List am := [⟨⟨(some 47),.fieldAddr 1 (t 5),none⟩,0⟩,
  ⟨⟨(some 48),.load1 (t 47),none⟩,0⟩,
  ⟨⟨(some 49),.mov (t 6),none⟩,0⟩,
  ⟨⟨(some 50),.indexSl 1 (t 48) (t 49),none⟩,0⟩,
  ⟨⟨(some 51),.load1 (t 50),none⟩,0⟩,
  ⟨⟨(some 52),.lenS (t 51),none⟩,0⟩,
  ⟨⟨(some 53),.bin .neq (t 52) (ci 16),none⟩,0⟩]
def zaa0 : List am := [⟨⟨(some 2),.mov (.const (Go.Value.bool false)),none⟩,0⟩]
def zaa2 : List am := [⟨⟨(some 45),.mov (t 6),none⟩,0⟩,
  ⟨⟨(some 46),.bin .add (t 45) (ci 1),none⟩,0⟩,
  ⟨⟨(some 6),.mov (t 46),none⟩,0⟩]
def mj : TC := (.seq (.seq (.ops zaa3) (.clean [1,3,4,5,6,44] (.cond (t 44) .skip (.exit 2)))) (.clean [1,3,4,5,6] (.seq (.block 3 [1,3,4,5,6] (.seq (.ops zaa1) (.clean [1,3,4,5,6,53] (.cond (t 53) (.seq (.ops zaa0) (.ret [2])) .skip)))) (.clean [1,3,4,5,6] (.ops zaa2)))))
def zaaz : List am := [⟨⟨(some 7),.mov (ci 0),none⟩,0⟩]
def zaay : List am := [⟨⟨(some 54),.mov (t 7),none⟩,0⟩,
  ⟨⟨(some 55),.mov (t 4),none⟩,0⟩,
  ⟨⟨(some 56),.bin .lss (t 54) (t 55),none⟩,0⟩]
def zaaw : List am := [⟨⟨(some 59),.fieldAddr 1 (t 1),none⟩,0⟩,
  ⟨⟨(some 60),.load1 (t 59),none⟩,0⟩,
  ⟨⟨(some 61),.mov (t 7),none⟩,0⟩,
  ⟨⟨(some 62),.indexSl 2 (t 60) (t 61),none⟩,0⟩,
  ⟨⟨(some 63),.fieldAddr 0 (t 62),none⟩,0⟩,
  ⟨⟨(some 64),.load1 (t 63),none⟩,0⟩,
  ⟨⟨(some 65),.fieldAddr 0 (t 5),none⟩,0⟩,
  ⟨⟨(some 66),.load1 (t 65),none⟩,0⟩,
  ⟨⟨(some 67),.bin .eql (t 64) (t 66),none⟩,0⟩]
def zaav : List am := [⟨⟨(some 2),.mov (.const (Go.Value.bool false)),none⟩,0⟩]
def zaax : List am := [⟨⟨(some 57),.mov (t 7),none⟩,0⟩,
  ⟨⟨(some 58),.bin .add (t 57) (ci 1),none⟩,0⟩,
  ⟨⟨(some 7),.mov (t 58),none⟩,0⟩]
def mi : TC := (.seq (.seq (.ops zaay) (.clean [1,3,4,5,7,56] (.cond (t 56) .skip (.exit 4)))) (.clean [1,3,4,5,7] (.seq (.block 5 [1,3,4,5,7] (.seq (.draw (pl zaaw)) (.clean [1,3,4,5,7,67] (.cond (t 67) (.seq (.ops zaav) (.ret [2])) .skip)))) (.clean [1,3,4,5,7] (.ops zaax)))))
def zac0 : List am := [⟨⟨(some 20),.mov (t 4),none⟩,0⟩,
  ⟨⟨(some 21),.bin .add (t 20) (ci 1),none⟩,0⟩,
  ⟨⟨(some 4),.mov (t 21),none⟩,0⟩]
def ew : TC := (.seq (.seq (.ops zac1) (.clean [1,3,4,19] (.cond (t 19) .skip (.exit 0)))) (.clean [1,3,4] (.seq (.block 1 [1,3,4] (.seq (.ops zacz) (.clean [1,3,4,5] (.seq (.seq (.ops zacy) (.clean [1,3,4,5,39] (.cond (t 39) (.seq (.ops zacx) (.ret [2])) .skip))) (.clean [1,3,4,5] (.seq (.seq (.ops zaa4) (.block 2 [1,3,4,5] (.clean [1,3,4,5,6] (.loop [1,3,4,5,6] mj)))) (.clean [1,3,4,5] (.seq (.ops zaaz) (.block 4 [1,3,4] (.clean [1,3,4,5,7] (.loop [1,3,4,5,7] mi))))))))))) (.clean [1,3,4] (.ops zac0)))))
def zaau : List am := [⟨⟨(some 2),.mov (.const (Go.Value.bool true)),none⟩,0⟩]
def xg : TC := (.seq (.ops zac6) (.clean [1] (.seq (.ops zac5) (.clean [1,3] (.seq (.seq (.ops zac4) (.clean [1,3,16] (.cond (t 16) (.seq (.ops zac3) (.ret [2])) .skip))) (.clean [1,3] (.seq (.seq (.ops zac2) (.block 0 [] (.clean [1,3,4] (.loop [1,3,4] ew)))) (.clean [] (.seq (.ops zaau) (.ret [2]))))))))))
def xp : TFn := ⟨68,xg,[.tmp 2],false⟩
theorem bn : type_of% (ai @zac6.eq_1 (ai @zac5.eq_1 (ai @zac4.eq_1 (ai @zac3.eq_1 (ai @zac2.eq_1 (ai @zac1.eq_1 (ai @zacz.eq_1 (ai @zacy.eq_1 (ai @zacx.eq_1 (ai @zaa4.eq_1 (ai @zaa3.eq_1 (ai @zaa1.eq_1 (ai @zaa0.eq_1 (ai @zaa2.eq_1 (ai @zaaz.eq_1 (ai @zaay.eq_1 (ai @zaaw.eq_1 (ai @zaav.eq_1 (ai @zaax.eq_1 (ai @zac0.eq_1 (ai @zaau.eq_1 (ai @xg.eq_1 @xp.eq_1)))))))))))))))))))))) := ⟨rfl,rfl,rfl,rfl,rfl,rfl,rfl,rfl,rfl,rfl,rfl,rfl,rfl,rfl,rfl,rfl,rfl,rfl,rfl,rfl,rfl,rfl,rfl⟩
theorem zavx : tu Try.prog [(18,⟨[0,1,2,3,4,5,6,7,8],[0,1,0,7,15,31,0,64,255],[],[]⟩)] nv = some (68,xg.erase,[.tmp 2]) := by kernel_rfl
def zamv : List am := [⟨⟨(some 1),.box aq 7 (t 0),none⟩,0⟩,
  ⟨⟨(some 2),.mov (.const (Go.Value.bool false)),none⟩,0⟩]
def zamu : List am := [⟨⟨(some 7),.fieldAddr 1 (t 1),none⟩,0⟩,
  ⟨⟨(some 8),.load1 (t 7),none⟩,0⟩,
  ⟨⟨(some 9),.lenL (t 8),none⟩,0⟩,
  ⟨⟨(some 3),.mov (t 9),none⟩,0⟩]
def zamt : List am := [⟨⟨(some 4),.mov (ci 0),none⟩,0⟩]
def zams : List am := [⟨⟨(some 10),.mov (t 4),none⟩,0⟩,
  ⟨⟨(some 11),.fieldAddr 2 (t 1),none⟩,0⟩,
  ⟨⟨(some 12),.load1 (t 11),none⟩,0⟩,
  ⟨⟨(some 13),.lenL (t 12),none⟩,0⟩,
  ⟨⟨(some 14),.bin .lss (t 10) (t 13),none⟩,0⟩]
def zamq : List am := [⟨⟨(some 17),.fieldAddr 2 (t 1),none⟩,0⟩,
  ⟨⟨(some 18),.load1 (t 17),none⟩,0⟩,
  ⟨⟨(some 19),.mov (t 4),none⟩,0⟩,
  ⟨⟨(some 20),.indexSl 5 (t 18) (t 19),none⟩,0⟩,
  ⟨⟨(some 21),.loadN 5 (t 20),none⟩,0⟩,
  ⟨⟨(some 5),.box ou 5 (.const (.agg #[(.int .i64 0),(.int .i64 0),(.int .i64 0),(.string ⟨#[]⟩),(.int .i64 0)])),none⟩,0⟩,
  ⟨⟨none,.store 5 (t 5) (t 21),none⟩,0⟩]
def zamp : List am := [⟨⟨(some 22),.fieldAddr 0 (t 5),none⟩,0⟩,
  ⟨⟨(some 23),.load1 (t 22),none⟩,0⟩,
  ⟨⟨(some 24),.bin .lss (t 23) (ci 0),none⟩,0⟩,
  ⟨⟨(some 25),.mov (t 24),none⟩,0⟩,
  ⟨⟨(some 26),.fieldAddr 0 (t 5),(some (25,false))⟩,0⟩,
  ⟨⟨(some 27),.load1 (t 26),(some (25,false))⟩,0⟩,
  ⟨⟨(some 28),.mov (t 3),(some (25,false))⟩,0⟩,
  ⟨⟨(some 29),.bin .geq (t 27) (t 28),(some (25,false))⟩,0⟩,
  ⟨⟨(some 30),.pick (t 25) (.const (Go.Value.bool true)) (t 29),none⟩,0⟩,
  ⟨⟨(some 31),.mov (t 30),none⟩,0⟩,
  ⟨⟨(some 32),.fieldAddr 1 (t 5),(some (31,false))⟩,0⟩,
  ⟨⟨(some 33),.load1 (t 32),(some (31,false))⟩,0⟩,
  ⟨⟨(some 34),.bin .lss (t 33) (ci 0),(some (31,false))⟩,0⟩,
  ⟨⟨(some 35),.pick (t 31) (.const (Go.Value.bool true)) (t 34),none⟩,0⟩,
  ⟨⟨(some 36),.mov (t 35),none⟩,0⟩,
  ⟨⟨(some 37),.fieldAddr 1 (t 5),(some (36,false))⟩,0⟩,
  ⟨⟨(some 38),.load1 (t 37),(some (36,false))⟩,0⟩,
  ⟨⟨(some 39),.mov (t 3),(some (36,false))⟩,0⟩,
  ⟨⟨(some 40),.bin .geq (t 38) (t 39),(some (36,false))⟩,0⟩,
  ⟨⟨(some 41),.pick (t 36) (.const (Go.Value.bool true)) (t 40),none⟩,0⟩,
  ⟨⟨(some 42),.mov (t 41),none⟩,0⟩,
  ⟨⟨(some 43),.fieldAddr 0 (t 5),(some (42,false))⟩,0⟩,
  ⟨⟨(some 44),.load1 (t 43),(some (42,false))⟩,0⟩,
  ⟨⟨(some 45),.fieldAddr 1 (t 5),(some (42,false))⟩,0⟩,
  ⟨⟨(some 46),.load1 (t 45),(some (42,false))⟩,0⟩,
  ⟨⟨(some 47),.bin .eql (t 44) (t 46),(some (42,false))⟩,0⟩,
  ⟨⟨(some 48),.pick (t 42) (.const (Go.Value.bool true)) (t 47),none⟩,0⟩,
  ⟨⟨(some 49),.mov (t 48),none⟩,0⟩,
  ⟨⟨(some 50),.fieldAddr 2 (t 5),(some (49,false))⟩,0⟩,
  ⟨⟨(some 51),.load1 (t 50),(some (49,false))⟩,0⟩,
  ⟨⟨(some 52),.bin .lss (t 51) (ci 0),(some (49,false))⟩,0⟩,
  ⟨⟨(some 53),.pick (t 49) (.const (Go.Value.bool true)) (t 52),none⟩,0⟩,
  ⟨⟨(some 54),.mov (t 53),none⟩,0⟩,
  ⟨⟨(some 55),.fieldAddr 2 (t 5),(some (54,false))⟩,0⟩,
  ⟨⟨(some 56),.load1 (t 55),(some (54,false))⟩,0⟩,
  ⟨⟨(some 57),.bin .geq (t 56) (ci 4),(some (54,false))⟩,0⟩,
  ⟨⟨(some 58),.pick (t 54) (.const (Go.Value.bool true)) (t 57),none⟩,0⟩,
  ⟨⟨(some 59),.mov (t 58),none⟩,0⟩,
  ⟨⟨(some 60),.fieldAddr 3 (t 5),(some (59,false))⟩,0⟩,
  ⟨⟨(some 61),.load1 (t 60),(some (59,false))⟩,0⟩,
  ⟨⟨(some 62),.call ra [(t 61)],(some (59,false))⟩,0⟩,
  ⟨⟨(some 63),.un .not (t 62),(some (59,false))⟩,0⟩,
  ⟨⟨(some 64),.pick (t 59) (.const (Go.Value.bool true)) (t 63),none⟩,0⟩,
  ⟨⟨(some 65),.mov (t 64),none⟩,0⟩,
  ⟨⟨(some 66),.fieldAddr 4 (t 5),(some (65,false))⟩,0⟩,
  ⟨⟨(some 67),.load1 (t 66),(some (65,false))⟩,0⟩,
  ⟨⟨(some 68),.bin .lss (t 67) (ci 1),(some (65,false))⟩,0⟩,
  ⟨⟨(some 69),.pick (t 65) (.const (Go.Value.bool true)) (t 68),none⟩,0⟩,
  ⟨⟨(some 70),.mov (t 69),none⟩,0⟩,
  ⟨⟨(some 71),.fieldAddr 4 (t 5),(some (70,false))⟩,0⟩,
  ⟨⟨(some 72),.load1 (t 71),(some (70,false))⟩,0⟩,
  ⟨⟨(some 73),.bin .gtr (t 72) (ci 1125899906842624),(some (70,false))⟩,0⟩,
  ⟨⟨(some 74),.pick (t 70) (.const (Go.Value.bool true)) (t 73),none⟩,0⟩]
def zamo : List am := [⟨⟨(some 2),.mov (.const (Go.Value.bool false)),none⟩,0⟩]
def zamn : List am := [⟨⟨(some 6),.mov (ci 0),none⟩,0⟩]
def zamm : List am := [⟨⟨(some 75),.mov (t 6),none⟩,0⟩,
  ⟨⟨(some 76),.mov (t 4),none⟩,0⟩,
  ⟨⟨(some 77),.bin .lss (t 75) (t 76),none⟩,0⟩]
def zai0 : List am := [⟨⟨(some 80),.fieldAddr 2 (t 1),none⟩,0⟩,
  ⟨⟨(some 81),.load1 (t 80),none⟩,0⟩,
  ⟨⟨(some 82),.mov (t 6),none⟩,0⟩,
  ⟨⟨(some 83),.indexSl 5 (t 81) (t 82),none⟩,0⟩,
  ⟨⟨(some 84),.fieldAddr 0 (t 83),none⟩,0⟩,
  ⟨⟨(some 85),.load1 (t 84),none⟩,0⟩,
  ⟨⟨(some 86),.fieldAddr 0 (t 5),none⟩,0⟩,
  ⟨⟨(some 87),.load1 (t 86),none⟩,0⟩,
  ⟨⟨(some 88),.bin .eql (t 85) (t 87),none⟩,0⟩,
  ⟨⟨(some 89),.mov (t 88),none⟩,0⟩,
  ⟨⟨(some 90),.fieldAddr 2 (t 1),(some (89,true))⟩,0⟩,
  ⟨⟨(some 91),.load1 (t 90),(some (89,true))⟩,0⟩,
  ⟨⟨(some 92),.mov (t 6),(some (89,true))⟩,0⟩,
  ⟨⟨(some 93),.indexSl 5 (t 91) (t 92),(some (89,true))⟩,0⟩,
  ⟨⟨(some 94),.fieldAddr 1 (t 93),(some (89,true))⟩,0⟩,
  ⟨⟨(some 95),.load1 (t 94),(some (89,true))⟩,0⟩,
  ⟨⟨(some 96),.fieldAddr 1 (t 5),(some (89,true))⟩,0⟩,
  ⟨⟨(some 97),.load1 (t 96),(some (89,true))⟩,0⟩,
  ⟨⟨(some 98),.bin .eql (t 95) (t 97),(some (89,true))⟩,0⟩,
  ⟨⟨(some 99),.pick (t 89) (t 98) (.const (Go.Value.bool false)),none⟩,0⟩]
def zaiz : List am := [⟨⟨(some 2),.mov (.const (Go.Value.bool false)),none⟩,0⟩]
def zai1 : List am := [⟨⟨(some 78),.mov (t 6),none⟩,0⟩,
  ⟨⟨(some 79),.bin .add (t 78) (ci 1),none⟩,0⟩,
  ⟨⟨(some 6),.mov (t 79),none⟩,0⟩]
def qo : TC := (.seq (.seq (.ops zamm) (.clean [1,3,4,5,6,77] (.cond (t 77) .skip (.exit 2)))) (.clean [1,3,4,5,6] (.seq (.block 3 [1,3,4,5,6] (.seq (.draw (pl zai0)) (.clean [1,3,4,5,6,99] (.cond (t 99) (.seq (.ops zaiz) (.ret [2])) .skip)))) (.clean [1,3,4,5,6] (.ops zai1)))))
def zamr : List am := [⟨⟨(some 15),.mov (t 4),none⟩,0⟩,
  ⟨⟨(some 16),.bin .add (t 15) (ci 1),none⟩,0⟩,
  ⟨⟨(some 4),.mov (t 16),none⟩,0⟩]
def dy : TC := (.seq (.seq (.ops zams) (.clean [1,3,4,14] (.cond (t 14) .skip (.exit 0)))) (.clean [1,3,4] (.seq (.block 1 [1,3,4] (.seq (.ops zamq) (.clean [1,3,4,5] (.seq (.seq (.ops zamp) (.clean [1,3,4,5,74] (.cond (t 74) (.seq (.ops zamo) (.ret [2])) .skip))) (.clean [1,3,4,5] (.seq (.ops zamn) (.block 2 [1,3,4] (.clean [1,3,4,5,6] (.loop [1,3,4,5,6] qo))))))))) (.clean [1,3,4] (.ops zamr)))))
def zaiy : List am := [⟨⟨(some 100),.fieldAddr 2 (t 1),none⟩,0⟩,
  ⟨⟨(some 101),.load1 (t 100),none⟩,0⟩,
  ⟨⟨(some 102),.lenL (t 101),none⟩,0⟩,
  ⟨⟨(some 103),.bin .geq (t 102) (ci 1),none⟩,0⟩,
  ⟨⟨(some 104),.mov (t 103),none⟩,0⟩,
  ⟨⟨(some 105),.fieldAddr 2 (t 1),(some (104,true))⟩,0⟩,
  ⟨⟨(some 106),.load1 (t 105),(some (104,true))⟩,0⟩,
  ⟨⟨(some 107),.lenL (t 106),(some (104,true))⟩,0⟩,
  ⟨⟨(some 108),.bin .leq (t 107) (ci 12),(some (104,true))⟩,0⟩,
  ⟨⟨(some 109),.pick (t 104) (t 108) (.const (Go.Value.bool false)),none⟩,0⟩,
  ⟨⟨(some 2),.mov (t 109),none⟩,0⟩]
def zahf : TC := (.seq (.ops zamv) (.clean [1] (.seq (.ops zamu) (.clean [1,3] (.seq (.seq (.ops zamt) (.block 0 [1] (.clean [1,3,4] (.loop [1,3,4] dy)))) (.clean [1] (.seq (.ops zaiy) (.ret [2]))))))))
def zahx : TFn := ⟨110,zahf,[.tmp 2],false⟩
theorem dh : type_of% (ai @zamv.eq_1 (ai @zamu.eq_1 (ai @zamt.eq_1 (ai @zams.eq_1 (ai @zamq.eq_1 (ai @zamp.eq_1 (ai @zamo.eq_1 (ai @zamn.eq_1 (ai @zamm.eq_1 (ai @zai0.eq_1 (ai @zaiz.eq_1 (ai @zai1.eq_1 (ai @zamr.eq_1 (ai @zaiy.eq_1 (ai @zahf.eq_1 @zahx.eq_1))))))))))))))) := ⟨rfl,rfl,rfl,rfl,rfl,rfl,rfl,rfl,rfl,rfl,rfl,rfl,rfl,rfl,rfl,rfl⟩
theorem c_R04_arcs : tu Try.prog [(11,⟨[0,1,2,3,4,5,6,7,8,9,10,11,12,13,14,15,16,17,18,19],[0,1,0,7,15,31,0,64,255,511,1023,2047,1023,8191,16383,32767,1023,66559,262143,524287],[],[]⟩)] uy = some (110,zahf.erase,[.tmp 2]) := by kernel_rfl
def zaml : List am := [⟨⟨(some 1),.box aq 7 (t 0),none⟩,0⟩,
  ⟨⟨(some 2),.mov (ci 0),none⟩,0⟩]
def zamk : List am := [⟨⟨(some 3),.loadN 7 (t 1),none⟩,0⟩,
  ⟨⟨(some 4),.fieldAddr 1 (t 1),none⟩,0⟩,
  ⟨⟨(some 5),.load1 (t 4),none⟩,0⟩,
  ⟨⟨(some 6),.lenL (t 5),none⟩,0⟩,
  ⟨⟨(some 7),.call il [(t 3),(t 6)],none⟩,0⟩,
  ⟨⟨(some 2),.mov (t 7),none⟩,0⟩]
def zahe : TC := (.seq (.ops zaml) (.clean [1] (.seq (.ops zamk) (.ret [2]))))
def zahw : TFn := ⟨8,zahe,[.tmp 2],false⟩
theorem U_R06_Last : type_of% (ai @zaml.eq_1 (ai @zamk.eq_1 (ai @zahe.eq_1 @zahw.eq_1))) := ⟨rfl,rfl,rfl,rfl⟩
theorem c_R06_Last : tu Try.prog [] ux = some (8,zahe.erase,[.tmp 2]) := by kernel_rfl
def zaqc : List am := [⟨⟨(some 1),.box aq 7 (t 0),none⟩,0⟩,
  ⟨⟨(some 2),.mov (ci 0),none⟩,0⟩]
def zaqb : List am := [⟨⟨(some 3),.loadN 7 (t 1),none⟩,0⟩,
  ⟨⟨(some 4),.call nd [(t 3)],none⟩,0⟩,
  ⟨⟨(some 5),.un .not (t 4),none⟩,0⟩]
def zaqa : List am := [⟨⟨(some 2),.mov (ci 0),none⟩,0⟩]
def zap9 : List am := [⟨⟨(some 6),.fieldAddr 5 (t 1),none⟩,0⟩,
  ⟨⟨(some 7),.load1 (t 6),none⟩,0⟩,
  ⟨⟨(some 8),.fieldAddr 1 (t 1),none⟩,0⟩,
  ⟨⟨(some 9),.load1 (t 8),none⟩,0⟩,
  ⟨⟨(some 10),.lenL (t 9),none⟩,0⟩,
  ⟨⟨(some 11),.bin .mul (ci 2) (t 10),none⟩,0⟩,
  ⟨⟨(some 12),.fieldAddr 6 (t 1),none⟩,0⟩,
  ⟨⟨(some 13),.load1 (t 12),none⟩,0⟩,
  ⟨⟨(some 14),.bin .mul (t 11) (t 13),none⟩,0⟩,
  ⟨⟨(some 15),.bin .add (t 7) (t 14),none⟩,0⟩,
  ⟨⟨(some 2),.mov (t 15),none⟩,0⟩]
def zalk : TC := (.seq (.ops zaqc) (.clean [1] (.seq (.seq (.ops zaqb) (.clean [1,5] (.cond (t 5) (.seq (.ops zaqa) (.ret [2])) .skip))) (.clean [1] (.seq (.ops zap9) (.ret [2]))))))
def zal4 : TFn := ⟨16,zalk,[.tmp 2],false⟩
theorem za0o : type_of% (ai @zaqc.eq_1 (ai @zaqb.eq_1 (ai @zaqa.eq_1 (ai @zap9.eq_1 (ai @zalk.eq_1 @zal4.eq_1))))) := ⟨rfl,rfl,rfl,rfl,rfl,rfl⟩
theorem c_R06_End : tu Try.prog [] zh = some (16,zalk.erase,[.tmp 2]) := by kernel_rfl
def zabi : List am := [⟨⟨(some 4),.mov (.const (Go.Value.bool false)),none⟩,0⟩]
def zabh : List am := [⟨⟨(some 6),.mov (t 0),none⟩,0⟩,
  ⟨⟨(some 7),.lenL (t 6),none⟩,0⟩,
  ⟨⟨(some 8),.mov (t 1),none⟩,0⟩,
  ⟨⟨(some 9),.lenL (t 8),none⟩,0⟩,
  ⟨⟨(some 10),.bin .neq (t 7) (t 9),none⟩,0⟩]
def zabg : List am := [⟨⟨(some 4),.mov (.const (Go.Value.bool false)),none⟩,0⟩]
def zabf : List am := [⟨⟨(some 5),.mov (ci 0),none⟩,0⟩]
def zabe : List am := [⟨⟨(some 11),.mov (t 5),none⟩,0⟩,
  ⟨⟨(some 12),.mov (t 0),none⟩,0⟩,
  ⟨⟨(some 13),.lenL (t 12),none⟩,0⟩,
  ⟨⟨(some 14),.bin .lss (t 11) (t 13),none⟩,0⟩]
def zabc : List am := [⟨⟨(some 17),.mov (t 0),none⟩,0⟩,
  ⟨⟨(some 18),.mov (t 5),none⟩,0⟩,
  ⟨⟨(some 19),.indexSl 1 (t 17) (t 18),none⟩,0⟩,
  ⟨⟨(some 20),.load1 (t 19),none⟩,0⟩,
  ⟨⟨(some 21),.mov (t 1),none⟩,0⟩,
  ⟨⟨(some 22),.mov (t 5),none⟩,0⟩,
  ⟨⟨(some 23),.indexSl 1 (t 21) (t 22),none⟩,0⟩,
  ⟨⟨(some 24),.load1 (t 23),none⟩,0⟩,
  ⟨⟨(some 25),.bin .neq (t 20) (t 24),none⟩,0⟩]
def zabb : List am := [⟨⟨(some 4),.mov (.const (Go.Value.bool false)),none⟩,0⟩]
def zabd : List am := [⟨⟨(some 15),.mov (t 5),none⟩,0⟩,
  ⟨⟨(some 16),.bin .add (t 15) (ci 1),none⟩,0⟩,
  ⟨⟨(some 5),.mov (t 16),none⟩,0⟩]
def kh : TC := (.seq (.seq (.ops zabe) (.clean [0,1,5,14] (.cond (t 14) .skip (.exit 0)))) (.clean [0,1,5] (.seq (.block 1 [0,1,5] (.seq (.draw (pl zabc)) (.clean [0,1,5,25] (.cond (t 25) (.seq (.ops zabb) (.ret [4])) .skip)))) (.clean [0,1,5] (.ops zabd)))))
def zaba : List am := [⟨⟨(some 4),.mov (.const (Go.Value.bool true)),none⟩,0⟩]
def vf : TC := (.seq (.ops zabi) (.clean [0,1] (.seq (.seq (.ops zabh) (.clean [0,1,10] (.cond (t 10) (.seq (.ops zabg) (.ret [4])) .skip))) (.clean [0,1] (.seq (.seq (.ops zabf) (.block 0 [] (.clean [0,1,5] (.loop [0,1,5] kh)))) (.clean [] (.seq (.ops zaba) (.ret [4]))))))))
def vn : TFn := ⟨26,vf,[.tmp 4],false⟩
theorem jp : type_of% (ai @zabi.eq_1 (ai @zabh.eq_1 (ai @zabg.eq_1 (ai @zabf.eq_1 (ai @zabe.eq_1 (ai @zabc.eq_1 (ai @zabb.eq_1 (ai @zabd.eq_1 (ai @zaba.eq_1 (ai @vf.eq_1 @vn.eq_1)))))))))) := ⟨rfl,rfl,rfl,rfl,rfl,rfl,rfl,rfl,rfl,rfl,rfl⟩
theorem zasf : tu Try.prog [(6,⟨[0,1,2,3,4,5,6,7,8],[0,0,3,7,0,0,48,112,255],[],[]⟩)] kn = some (26,vf.erase,[.tmp 4]) := by kernel_rfl
def zaix : List am := [⟨⟨(some 1),.box aq 7 (t 0),none⟩,0⟩,
  ⟨⟨(some 2),.mov (.const (Go.Value.slice none 0 0)),none⟩,0⟩]
def zaiw : List am := [⟨⟨(some 3),.mov (.const (Go.Value.slice none 0 0)),none⟩,1⟩]
def zaiv : List am := [⟨⟨(some 4),.mov (ci 1),none⟩,0⟩]
def zaiu : List am := [⟨⟨(some 5),.mov (t 4),none⟩,0⟩,
  ⟨⟨(some 6),.fieldAddr 1 (t 1),none⟩,0⟩,
  ⟨⟨(some 7),.load1 (t 6),none⟩,0⟩,
  ⟨⟨(some 8),.lenL (t 7),none⟩,0⟩,
  ⟨⟨(some 9),.bin .leq (t 5) (t 8),none⟩,0⟩,
  ⟨⟨(some 10),.mov (t 9),none⟩,0⟩,
  ⟨⟨(some 11),.loadN 7 (t 1),(some (10,true))⟩,0⟩,
  ⟨⟨(some 12),.call nd [(t 11)],(some (10,true))⟩,0⟩,
  ⟨⟨(some 13),.pick (t 10) (t 12) (.const (Go.Value.bool false)),none⟩,0⟩]
def zais : List am := [⟨⟨(some 16),.mov (t 3),none⟩,0⟩,
  ⟨⟨(some 17),.loadN 7 (t 1),none⟩,0⟩,
  ⟨⟨(some 18),.mov (t 4),none⟩,0⟩,
  ⟨⟨(some 19),.call il [(t 17),(t 18)],none⟩,0⟩,
  ⟨⟨(some 20),.buildSl ka 1 1 [(.int .i64 0)] [(0,1,(t 19))],none⟩,0⟩,
  ⟨⟨(some 21),.append ka 1 8 (t 16) (t 20),none⟩,0⟩,
  ⟨⟨(some 3),.mov (t 21),none⟩,0⟩]
def zait : List am := [⟨⟨(some 14),.mov (t 4),none⟩,0⟩,
  ⟨⟨(some 15),.bin .add (t 14) (ci 1),none⟩,0⟩,
  ⟨⟨(some 4),.mov (t 15),none⟩,0⟩]
def rq : TC := (.seq (.seq (.ops zaiu) (.clean [1,3,4,13] (.cond (t 13) .skip (.exit 0)))) (.clean [1,3,4] (.seq (.block 1 [1,3,4] (.ops zais)) (.clean [1,3,4] (.ops zait)))))
def zair : List am := [⟨⟨(some 22),.mov (t 3),none⟩,0⟩,
  ⟨⟨(some 2),.mov (t 22),none⟩,0⟩]
def zacb : TC := (.seq (.ops zaix) (.clean [1] (.seq (.ops zaiw) (.clean [1,3] (.seq (.seq (.ops zaiv) (.block 0 [3] (.clean [1,3,4] (.loop [1,3,4] rq)))) (.clean [3] (.seq (.ops zair) (.ret [2]))))))))
def zad1 : TFn := ⟨23,zacb,[.tmp 2],false⟩
theorem vq : type_of% (ai @zaix.eq_1 (ai @zaiw.eq_1 (ai @zaiv.eq_1 (ai @zaiu.eq_1 (ai @zais.eq_1 (ai @zait.eq_1 (ai @zair.eq_1 (ai @zacb.eq_1 @zad1.eq_1)))))))) := ⟨rfl,rfl,rfl,rfl,rfl,rfl,rfl,rfl,rfl⟩
theorem za2l : tu Try.prog [] sy = some (23,zacb.erase,[.tmp 2]) := by kernel_rfl
end Ic
end Go.Proofs.Ytdcfoaafkppojaa
