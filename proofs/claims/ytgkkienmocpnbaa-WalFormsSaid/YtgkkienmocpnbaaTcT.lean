import Derived.Test.YtgkkienmocpnbaaProg
import Derived.Test.YtgkkienmocpnbaaTv9
import Derived.KernelRfl
set_option linter.unusedVariables false
/- The code of functions for the tree level, printed by a program out of the model's own print; the kernel checks each. -/
namespace Go.Proofs.Ytgkkienmocpnbaa
open Go Go.RowKit Sh
namespace Ic
abbrev t (n:Nat):Operand:=.tmp n
abbrev ci (n:Int):Operand:=.const (.int .i64 n)
abbrev kl:Nat:=3
abbrev jt:Nat:=4
abbrev km:Nat:=5
abbrev fq:Nat:=6
abbrev nf:Nat:=7
abbrev vn:Nat:=8
abbrev ie:Nat:=9
abbrev uj:Nat:=10
abbrev jr:Nat:=11
abbrev j9:Nat:=12
abbrev ng:Nat:=13
abbrev sa:Nat:=14
abbrev ou:Nat:=15
abbrev qb:Nat:=16
abbrev uk:Nat:=17
abbrev vo:Nat:=18
abbrev zb0q:Nat:=19
abbrev ov:Nat:=20
abbrev bg:Nat:=21
abbrev en:Nat:=22
abbrev bp:Nat:=23
abbrev qc:Nat:=24
abbrev jq:Nat:=25
abbrev bf:Nat:=26
abbrev jp:Nat:=27
abbrev qd:Nat:=28
abbrev qh:Nat:=29
abbrev pk:Nat:=30
abbrev qe:Nat:=31
abbrev fo:Nat:=32
abbrev dx:Nat:=33
abbrev ge:Nat:=34
abbrev l5:Nat:=35
abbrev jx:Nat:=36
abbrev be:Nat:=37
abbrev ot:Nat:=38
abbrev du:Nat:=39
abbrev qg:Nat:=40
abbrev fp:Nat:=41
abbrev fb:Nat:=42
abbrev dv:Nat:=43
abbrev qf:Nat:=44
abbrev cy:Nat:=46
abbrev gu:Nat:=47
abbrev dg:Nat:=48
abbrev dw:Nat:=49
abbrev zb5k:Nat:=3
abbrev a9:Nat:=5
abbrev zbob:Nat:=9
abbrev kp:Nat:=40
abbrev aw:Nat:=45
abbrev ce:Nat:=53
abbrev ew:Nat:=54
abbrev bd:Nat:=56
abbrev aq:Nat:=72
abbrev Qo (d:Nat) (x:I):ap:=⟨⟨some d,x,none⟩,0⟩
abbrev Qt (j d:Nat) (x:I):ap:=⟨⟨some d,x,some (j,true)⟩,0⟩
abbrev Qf (j d:Nat) (x:I):ap:=⟨⟨some d,x,some (j,false)⟩,0⟩
abbrev Qm (m d:Nat) (x:I):ap:=⟨⟨some d,x,none⟩,m⟩
abbrev QF:Operand:=.const (Go.Value.bool false)
abbrev QT:Operand:=.const (Go.Value.bool true)
abbrev Qa (d a:Nat):ap:=⟨⟨some d,.mov (t a),none⟩,0⟩
abbrev Qb (d a:Nat):ap:=⟨⟨some d,.load1 (t a),none⟩,0⟩
def zcdu:List ap:=[Qo 4 (.mov QF)]
def zcdv:List ap:=[Qa 11 0,
 Qo 12 (.lenL (t 11)),
 Qo 13 (.bin .gtr (t 12) (ci 20)),
 Qa 14 13,
 Qf 14 15 (.mov (t 1)),
 Qf 14 16 (.lenS (t 15)),
 Qf 14 17 (.bin .gtr (t 16) (ci 2000)),
 Qo 18 (.pick (t 14) QT (t 17))]
def zcd4:List ap:=[Qo 19 (.call fq []),
 Qa 4 19]
def zcd5:List ap:=[Qo 5 (.mov (.const (Go.Value.string ⟨#[]⟩)))]
def zcd6:List ap:=[Qo 6 (.mov (ci 0))]
def zcd7:List ap:=[Qa 20 6,
 Qa 21 0,
 Qo 22 (.lenL (t 21)),
 Qo 23 (.bin .lss (t 20) (t 22))]
def zcd9:List ap:=[Qa 26 0,
 Qa 27 6,
 Qo 28 (.indexSl 1 (t 26) (t 27)),
 Qb 29 28,
 Qo 30 (.lenS (t 29)),
 Qo 31 (.bin .gtr (t 30) (ci 200))]
def zcea:List ap:=[Qo 32 (.call fq []),
 Qa 4 32]
def zceb:List ap:=[Qa 33 0,
 Qa 34 6,
 Qo 35 (.indexSl 1 (t 33) (t 34)),
 Qb 36 35,
 Qa 38 0,
 Qa 39 6,
 Qo 40 (.indexSl 1 (t 38) (t 39)),
 Qb 41 40,
 Qo 37 (.call nf [(t 36)]),
 Qo 42 (.call vn [(t 41)]),
 Qo 43 (.bin .neq (t 37) (t 42))]
def zv:List ap:=[Qo 4 (.mov QF)]
def zu:List ap:=[Qa 44 5,
 Qa 45 0,
 Qa 46 6,
 Qo 47 (.indexSl 1 (t 45) (t 46)),
 Qb 48 47,
 Qo 49 (.call vn [(t 48)]),
 Qo 50 (.bin .add (t 44) (t 49)),
 Qa 5 50]
def zcd8:List ap:=[Qa 24 6,
 Qo 25 (.bin .add (t 24) (ci 1)),
 Qa 6 25]
def ib:TC:=(.seq (.seq (.ops zcd7) (.clean [0,1,5,6,23] (.cond (t 23) .skip (.exit 0)))) (.clean [0,1,5,6] (.seq (.block 1 [0,1,5,6] (.seq (.seq (.ops zcd9) (.clean [0,1,5,6,31] (.cond (t 31) (.seq (.ops zcea) (.ret [4])) .skip))) (.clean [0,1,5,6] (.seq (.seq (.draw (pl zceb)) (.clean [0,1,5,6,43] (.cond (t 43) (.seq (.ops zv) (.ret [4])) .skip))) (.clean [0,1,5,6] (.ops zu)))))) (.clean [0,1,5,6] (.ops zcd8)))))
def zt:List ap:=[Qa 52 5,
 Qa 53 1,
 Qo 54 (.bin .add (t 52) (t 53)),
 Qo 55 (.call ie [(t 54)]),
 Qa 51 55,
 Qo 56 (.extract (t 51) 0),
 Qo 57 (.extract (t 51) 1),
 Qa 7 56,
 Qa 8 57]
def zq:List ap:=[Qa 59 5,
 Qa 60 1,
 Qo 61 (.bin .add (t 59) (t 60)),
 Qo 62 (.call uj [(t 61)]),
 Qa 58 62,
 Qo 63 (.extract (t 58) 0),
 Qo 64 (.extract (t 58) 1),
 Qa 9 63,
 Qa 10 64]
def zp:List ap:=[Qa 65 7,
 Qa 66 9,
 Qo 67 (.call jr [(t 65),(t 66)]),
 Qa 68 67,
 Qt 68 69 (.mov (t 8)),
 Qt 68 70 (.mov (t 10)),
 Qt 68 71 (.bin .eql (t 69) (t 70)),
 Qo 72 (.pick (t 68) (t 71) QF),
 Qa 73 72,
 Qt 73 74 (.mov (t 8)),
 Qt 73 75 (.mov (t 5)),
 Qt 73 76 (.lenS (t 75)),
 Qt 73 77 (.bin .geq (t 74) (t 76)),
 Qo 78 (.pick (t 73) (t 77) QF),
 Qa 79 78,
 Qt 79 80 (.mov (t 7)),
 Qt 79 81 (.lenL (t 80)),
 Qt 79 82 (.mov (t 0)),
 Qt 79 83 (.lenL (t 82)),
 Qt 79 84 (.bin .geq (t 81) (t 83)),
 Qo 85 (.pick (t 79) (t 84) QF),
 Qa 86 85,
 Qt 86 87 (.call fq []),
 Qo 88 (.pick (t 86) (t 87) QF),
 Qa 4 88]
def uq:TC:=(.seq (.ops zcdu) (.clean [0,1] (.seq (.seq (.ops zcdv) (.clean [0,1,18] (.cond (t 18) (.seq (.ops zcd4) (.ret [4])) .skip))) (.clean [0,1] (.seq (.ops zcd5) (.clean [0,1,5] (.seq (.seq (.ops zcd6) (.block 0 [0,1,5] (.clean [0,1,5,6] (.loop [0,1,5,6] ib)))) (.clean [0,1,5] (.seq (.ops zt) (.clean [0,1,5,7,8] (.seq (.ops zq) (.clean [0,5,7,8,9,10] (.seq (.ops zp) (.ret [4]))))))))))))))
def ve:TFn:=⟨89,uq,[.tmp 4],false⟩
theorem zb83:ud Try.prog [(9,⟨[0,1,2,3,5,6,7,8,4,9,10],[0,0,3,7,15,0,0,96,224,511,1023],[],[],.nil⟩)] kl = some (89,uq.erase,[.tmp 4]):=by kernel_rfl
def zby3:List ap:=[Qo 0 (.mov QF)]
def zby4:List ap:=[Qo 6 (.call nf [(.const (Go.Value.string ⟨#[97]⟩))]),
 Qo 7 (.call nf [(.const (Go.Value.string ⟨#[]⟩))]),
 Qo 8 (.bin .add (t 6) (t 7)),
 Qo 9 (.bin .add (t 8) (.const (Go.Value.string ⟨#[120]⟩))),
 Qa 1 9]
def zby5:List ap:=[Qa 11 1,
 Qo 12 (.call ie [(t 11)]),
 Qa 10 12,
 Qo 13 (.extract (t 10) 0),
 Qo 14 (.extract (t 10) 1),
 Qa 2 13,
 Qa 3 14]
def zby6:List ap:=[Qo 16 (.call ie [(.const (Go.Value.string ⟨#[]⟩))]),
 Qa 15 16,
 Qo 17 (.extract (t 15) 0),
 Qo 18 (.extract (t 15) 1),
 Qa 4 17,
 Qa 5 18]
def zby7:List ap:=[Qa 19 2,
 Qo 20 (.lenL (t 19)),
 Qo 21 (.bin .eql (t 20) (ci 2)),
 Qa 22 21,
 Qt 22 23 (.mov (t 2)),
 Qt 22 24 (.indexSl 1 (t 23) (ci 0)),
 Qt 22 25 (.load1 (t 24)),
 Qt 22 26 (.bin .eql (t 25) (.const (Go.Value.string ⟨#[97]⟩))),
 Qo 27 (.pick (t 22) (t 26) QF),
 Qa 28 27,
 Qt 28 29 (.mov (t 2)),
 Qt 28 30 (.indexSl 1 (t 29) (ci 1)),
 Qt 28 31 (.load1 (t 30)),
 Qt 28 32 (.bin .eql (t 31) (.const (Go.Value.string ⟨#[]⟩))),
 Qo 33 (.pick (t 28) (t 32) QF),
 Qa 34 33,
 Qt 34 35 (.mov (t 3)),
 Qt 34 36 (.mov (t 1)),
 Qt 34 37 (.lenS (t 36)),
 Qt 34 38 (.bin .sub (t 37) (ci 1)),
 Qt 34 39 (.bin .eql (t 35) (t 38)),
 Qo 40 (.pick (t 34) (t 39) QF),
 Qa 41 40,
 Qt 41 42 (.mov (t 4)),
 Qt 41 43 (.lenL (t 42)),
 Qt 41 44 (.bin .eql (t 43) (ci 0)),
 Qo 45 (.pick (t 41) (t 44) QF),
 Qa 46 45,
 Qt 46 47 (.mov (t 5)),
 Qt 46 48 (.bin .eql (t 47) (ci 0)),
 Qo 49 (.pick (t 46) (t 48) QF),
 Qa 0 49]
def zbo7:TC:=(.seq (.ops zby3) (.clean [] (.seq (.ops zby4) (.clean [1] (.seq (.ops zby5) (.clean [1,2,3] (.seq (.ops zby6) (.clean [1,2,3,4,5] (.seq (.ops zby7) (.ret [0]))))))))))
def zboy:TFn:=⟨50,zbo7,[.tmp 0],false⟩
theorem pz:type_of% (ai @zby3.eq_1 (ai @zby4.eq_1 (ai @zby5.eq_1 (ai @zby6.eq_1 (ai @zby7.eq_1 (ai @zbo7.eq_1 @zboy.eq_1)))))):=⟨rfl,rfl,rfl,rfl,rfl,rfl,rfl⟩
theorem zceq:ud Try.prog [] fq = some (50,zbo7.erase,[.tmp 0]):=by kernel_rfl
def zbxa:List ap:=[Qo 2 (.mov (.const (Go.Value.string ⟨#[]⟩)))]
def zbxb:List ap:=[Qa 3 0,
 Qo 4 (.call ou [(t 3)]),
 Qa 5 0,
 Qo 6 (.call qb [(t 5)]),
 Qo 7 (.bin .add (t 4) (t 6)),
 Qa 2 7]
def zbn6:TC:=(.seq (.ops zbxa) (.clean [0] (.seq (.ops zbxb) (.ret [2]))))
def zbnz:TFn:=⟨8,zbn6,[.tmp 2],false⟩
theorem zbat:type_of% (ai @zbxa.eq_1 (ai @zbxb.eq_1 (ai @zbn6.eq_1 @zbnz.eq_1))):=⟨rfl,rfl,rfl,rfl⟩
theorem za93:ud Try.prog [] nf = some (8,zbn6.erase,[.tmp 2]):=by kernel_rfl
def zbzy:List ap:=[Qo 2 (.mov (.const (Go.Value.string ⟨#[]⟩)))]
def zbzz:List ap:=[Qa 3 0,
 Qo 4 (.lenS (t 3)),
 Qo 5 (.call qd [(t 4)]),
 Qa 6 0,
 Qo 7 (.bin .add (t 5) (t 6)),
 Qa 2 7]
def zbph:TC:=(.seq (.ops zbzy) (.clean [0] (.seq (.ops zbzz) (.ret [2]))))
def zbpd:TFn:=⟨8,zbph,[.tmp 2],false⟩
theorem zb7f:type_of% (ai @zbzy.eq_1 (ai @zbzz.eq_1 (ai @zbph.eq_1 @zbpd.eq_1))):=⟨rfl,rfl,rfl,rfl⟩
theorem zb7d:ud Try.prog [] ou = some (8,zbph.erase,[.tmp 2]):=by kernel_rfl
def zbzc:List ap:=[Qo 2 (.mov (.const (Go.Value.string ⟨#[]⟩)))]
def zbzd:List ap:=[Qm 1 5 (.makeSl a9 1 [(.int .u8 0)] (ci 8) (ci 8)),
 Qa 3 5]
def zbze:List ap:=[Qa 6 3,
 Qo 7 (.lenL (t 6)),
 Qo 8 (.mov (ci 0))]
def zbzf:List ap:=[Qo 9 (.bin .lss (t 8) (t 7))]
def zbzg:List ap:=[Qa 10 8,
 Qa 4 10]
def zbzh:List ap:=[Qa 11 3,
 Qa 12 4,
 Qa 13 0,
 Qa 14 4,
 Qo 15 (.bin .sub (ci 7) (t 14)),
 Qo 16 (.bin .mul (ci 8) (t 15)),
 Qo 17 (.bin .shr (t 13) (t 16)),
 Qo 18 (.conv .u8 (t 17)),
 Qo 19 (.indexSl 1 (t 11) (t 12)),
 ⟨⟨none,.store 1 (t 19) (t 18),none⟩,0⟩]
def zbzi:List ap:=[Qo 20 (.bin .add (t 8) (ci 1)),
 Qa 8 20]
def tx:TC:=(.seq (.ops zbzf) (.clean [0,3,7,8,9] (.seq (.cond (t 9) .skip (.exit 0)) (.clean [0,3,7,8] (.seq (.block 1 [0,3,7,8] (.seq (.ops zbzg) (.clean [0,3,4,7,8] (.ops zbzh)))) (.clean [0,3,7,8] (.ops zbzi)))))))
def zbzj:List ap:=[Qa 21 3,
 Qo 22 (.toStr (t 21)),
 Qa 2 22]
def zbo9:TC:=(.seq (.ops zbzc) (.clean [0] (.seq (.ops zbzd) (.clean [0,3] (.seq (.seq (.ops zbze) (.block 0 [3] (.clean [0,3,7,8] (.loop [0,3,7,8] tx)))) (.clean [3] (.seq (.ops zbzj) (.ret [2]))))))))
def zbo0:TFn:=⟨23,zbo9,[.tmp 2],false⟩
theorem zbml:type_of% (ai @zbzc.eq_1 (ai @zbzd.eq_1 (ai @zbze.eq_1 (ai @zbzf.eq_1 (ai @zbzg.eq_1 (ai @zbzh.eq_1 (ai @zbzi.eq_1 (ai @zbzj.eq_1 (ai @zbo9.eq_1 @zbo0.eq_1))))))))):=⟨rfl,rfl,rfl,rfl,rfl,rfl,rfl,rfl,rfl,rfl⟩
theorem zcfc:ud Try.prog [] qd = some (23,zbo9.erase,[.tmp 2]):=by kernel_rfl
def zbyr:List ap:=[Qo 2 (.mov (.const (Go.Value.string ⟨#[]⟩)))]
def zbyf:List ap:=[Qa 3 0,
 Qo 4 (.call sa [(t 3)]),
 Qo 5 (.sliceStr (t 4) none (some (ci 8))),
 Qa 2 5]
def zbos:TC:=(.seq (.ops zbyr) (.clean [0] (.seq (.ops zbyf) (.ret [2]))))
def zboq:TFn:=⟨6,zbos,[.tmp 2],false⟩
theorem oq:type_of% (ai @zbyr.eq_1 (ai @zbyf.eq_1 (ai @zbos.eq_1 @zboq.eq_1))):=⟨rfl,rfl,rfl,rfl⟩
theorem m7:ud Try.prog [] qb = some (6,zbos.erase,[.tmp 2]):=by kernel_rfl
def zbw0:List ap:=[Qo 2 (.mov (.const (Go.Value.string ⟨#[]⟩)))]
def zbw1:List ap:=[Qa 12 0,
 Qo 13 (.lenS (t 12)),
 Qo 14 (.conv .u64 (t 13)),
 Qo 15 (.bin .mul (t 14) (.const (Go.Value.int Go.IntKind.u64 8))),
 Qa 3 15]
def zbw2:List ap:=[Qo 4 (.box aw 2 (.const (.agg #[(.pointer none),(.slice none 0 0)])))]
def zbw3:List ap:=[Qa 16 0,
 Qo 17 (.call bg [(t 4),(t 16)])]
def zbw4:List ap:=[Qo 18 (.call bg [(t 4),(.const (Go.Value.string ⟨#[128]⟩))])]
def zbw5:List ap:=[Qo 19 (.call en [(t 4)]),
 Qo 20 (.bin .rem (t 19) (ci 64)),
 Qo 21 (.bin .neq (t 20) (ci 56))]
def zbw6:List ap:=[Qo 22 (.call bp [(t 4),(.const (Go.Value.int Go.IntKind.u8 0))])]
def zbmi:TC:=(.seq (.seq (.ops zbw5) (.clean [3,4,21] (.cond (t 21) .skip (.exit 0)))) (.block 1 [3,4] (.ops zbw6)))
def zbw7:List ap:=[Qo 23 (.mov (ci 0))]
def zbw8:List ap:=[Qo 24 (.bin .lss (t 23) (ci 8))]
def zbw9:List ap:=[Qa 25 23,
 Qa 5 25]
def zbx4:List ap:=[Qa 26 3,
 Qa 27 5,
 Qo 28 (.bin .mul (ci 8) (t 27)),
 Qo 29 (.bin .sub (ci 56) (t 28)),
 Qo 30 (.bin .shr (t 26) (t 29)),
 Qo 31 (.conv .u8 (t 30)),
 Qo 32 (.call bp [(t 4),(t 31)])]
def zbx5:List ap:=[Qo 33 (.bin .add (t 23) (ci 1)),
 Qa 23 33]
def zbmj:TC:=(.seq (.ops zbw8) (.clean [3,4,23,24] (.seq (.cond (t 24) .skip (.exit 2)) (.clean [3,4,23] (.seq (.block 3 [3,4,23] (.seq (.ops zbw9) (.clean [3,4,5,23] (.ops zbx4)))) (.clean [3,4,23] (.ops zbx5)))))))
def zbx6:List ap:=[Qo 34 (.call qc []),
 Qo 35 (.call jq []),
 Qo 6 (.box ew 8 (.const (.agg #[(.int .u32 0),(.int .u32 0),(.int .u32 0),(.int .u32 0),(.int .u32 0),(.int .u32 0),(.int .u32 0),(.int .u32 0)]))),
 Qo 7 (.box bd 64 (.const (.agg #[(.int .u32 0),(.int .u32 0),(.int .u32 0),(.int .u32 0),(.int .u32 0),(.int .u32 0),(.int .u32 0),(.int .u32 0),(.int .u32 0),(.int .u32 0),(.int .u32 0),(.int .u32 0),(.int .u32 0),(.int .u32 0),(.int .u32 0),(.int .u32 0),(.int .u32 0),(.int .u32 0),(.int .u32 0),(.int .u32 0),(.int .u32 0),(.int .u32 0),(.int .u32 0),(.int .u32 0),(.int .u32 0),(.int .u32 0),(.int .u32 0),(.int .u32 0),(.int .u32 0),(.int .u32 0),(.int .u32 0),(.int .u32 0),(.int .u32 0),(.int .u32 0),(.int .u32 0),(.int .u32 0),(.int .u32 0),(.int .u32 0),(.int .u32 0),(.int .u32 0),(.int .u32 0),(.int .u32 0),(.int .u32 0),(.int .u32 0),(.int .u32 0),(.int .u32 0),(.int .u32 0),(.int .u32 0),(.int .u32 0),(.int .u32 0),(.int .u32 0),(.int .u32 0),(.int .u32 0),(.int .u32 0),(.int .u32 0),(.int .u32 0),(.int .u32 0),(.int .u32 0),(.int .u32 0),(.int .u32 0),(.int .u32 0),(.int .u32 0),(.int .u32 0),(.int .u32 0)]))),
 ⟨⟨none,.store 8 (t 6) (t 34),none⟩,0⟩,
 ⟨⟨none,.store 64 (t 7) (t 35),none⟩,0⟩]
def zbx7:List ap:=[Qo 36 (.call bf [(t 4)]),
 Qa 8 36]
def zbx8:List ap:=[Qa 37 8,
 Qo 38 (.bin .neq (t 37) (.const (Go.Value.string ⟨#[]⟩)))]
def zbyj:List ap:=[Qa 41 8,
 Qo 42 (.sliceStr (t 41) none (some (ci 64))),
 Qo 43 (.call jp [(t 6),(t 42),(t 7)])]
def zbyi:List ap:=[Qa 39 8,
 Qo 40 (.sliceStr (t 39) (some (ci 64)) none),
 Qa 8 40]
def zbmk:TC:=(.seq (.seq (.ops zbx8) (.clean [6,7,8,38] (.cond (t 38) .skip (.exit 4)))) (.clean [6,7,8] (.seq (.block 5 [6,7,8] (.ops zbyj)) (.clean [6,7,8] (.ops zbyi)))))
def zbyk:List ap:=[Qm 2 44 (.makeSl a9 1 [(.int .u8 0)] (ci 0) (ci 32)),
 Qa 9 44]
def zbyl:List ap:=[Qo 45 (.loadN 8 (t 6)),
 Qo 46 (.mov (ci 0))]
def zbym:List ap:=[Qo 47 (.bin .lss (t 46) (ci 8))]
def zbyn:List ap:=[Qo 48 (.indexAgg 8 (t 45) (t 46)),
 Qa 11 48]
def zbyo:List ap:=[Qa 49 9,
 Qa 50 11,
 Qo 51 (.bin .shr (t 50) (.const (Go.Value.int Go.IntKind.u64 24))),
 Qo 52 (.conv .u8 (t 51)),
 Qa 53 11,
 Qo 54 (.bin .shr (t 53) (.const (Go.Value.int Go.IntKind.u64 16))),
 Qo 55 (.conv .u8 (t 54)),
 Qa 56 11,
 Qo 57 (.bin .shr (t 56) (.const (Go.Value.int Go.IntKind.u64 8))),
 Qo 58 (.conv .u8 (t 57)),
 Qa 59 11,
 Qo 60 (.conv .u8 (t 59)),
 Qo 61 (.buildSl a9 1 4 [(.int .u8 0),(.int .u8 0),(.int .u8 0),(.int .u8 0)] [(0,1,(t 52)),(1,1,(t 55)),(2,1,(t 58)),(3,1,(t 60))]),
 Qo 62 (.append a9 1 1 (t 49) (t 61)),
 Qa 9 62]
def zbyp:List ap:=[Qo 63 (.bin .add (t 46) (ci 1)),
 Qa 46 63]
def ny:TC:=(.seq (.ops zbym) (.clean [9,45,46,47] (.seq (.cond (t 47) .skip (.exit 6)) (.clean [9,45,46] (.seq (.block 7 [9,45,46] (.seq (.ops zbyn) (.clean [9,11,45,46] (.ops zbyo)))) (.clean [9,45,46] (.ops zbyp)))))))
def zbyq:List ap:=[Qa 64 9,
 Qo 65 (.toStr (t 64)),
 Qa 2 65]
def zbn5:TC:=(.seq (.ops zbw0) (.clean [0] (.seq (.ops zbw1) (.clean [0,3] (.seq (.ops zbw2) (.clean [0,3,4] (.seq (.ops zbw3) (.clean [3,4] (.seq (.ops zbw4) (.clean [3,4] (.seq (.block 0 [3,4] (.clean [3,4] (.loop [3,4] zbmi))) (.clean [3,4] (.seq (.seq (.ops zbw7) (.block 2 [4] (.clean [3,4,23] (.loop [3,4,23] zbmj)))) (.clean [4] (.seq (.ops zbx6) (.clean [4,6,7] (.seq (.seq (.ops zbx7) (.block 4 [6] (.clean [6,7,8] (.loop [6,7,8] zbmk)))) (.clean [6] (.seq (.ops zbyk) (.clean [6,9] (.seq (.seq (.ops zbyl) (.block 6 [9] (.clean [9,45,46] (.loop [9,45,46] ny)))) (.clean [9] (.seq (.ops zbyq) (.ret [2]))))))))))))))))))))))))
def zbny:TFn:=⟨66,zbn5,[.tmp 2],false⟩
theorem il:type_of% (ai @zbw0.eq_1 (ai @zbw1.eq_1 (ai @zbw2.eq_1 (ai @zbw3.eq_1 (ai @zbw4.eq_1 (ai @zbw5.eq_1 (ai @zbw6.eq_1 (ai @zbw7.eq_1 (ai @zbw8.eq_1 (ai @zbw9.eq_1 (ai @zbx4.eq_1 (ai @zbx5.eq_1 (ai @zbx6.eq_1 (ai @zbx7.eq_1 (ai @zbx8.eq_1 (ai @zbyj.eq_1 (ai @zbyi.eq_1 (ai @zbyk.eq_1 (ai @zbyl.eq_1 (ai @zbym.eq_1 (ai @zbyn.eq_1 (ai @zbyo.eq_1 (ai @zbyp.eq_1 (ai @zbyq.eq_1 (ai @zbn5.eq_1 @zbny.eq_1))))))))))))))))))))))))):=⟨rfl,rfl,rfl,rfl,rfl,rfl,rfl,rfl,rfl,rfl,rfl,rfl,rfl,rfl,rfl,rfl,rfl,rfl,rfl,rfl,rfl,rfl,rfl,rfl,rfl,rfl⟩
theorem za94:ud Try.prog [] sa = some (66,zbn5.erase,[.tmp 2]):=by kernel_rfl
def jh:List ap:=[Qo 4 (.mov (ci 0)),
 Qo 5 (.mov (.const Go.Value.nilIface))]
def jg:List ap:=[Qa 6 0,
 Qo 7 (.call be [(t 6)])]
def jf:List ap:=[Qa 8 0,
 Qa 9 0,
 Qo 10 (.nilchk (t 9)),
 Qo 11 (.fieldAddr 1 (t 10)),
 Qm 2 12 (.load1 (t 11)),
 Qa 13 1,
 Qo 14 (.appendS a9 (t 12) (t 13)),
 Qo 15 (.nilchk (t 8)),
 Qo 16 (.fieldAddr 1 (t 15)),
 ⟨⟨none,.store 1 (t 16) (t 14),none⟩,2⟩]
def je:List ap:=[Qa 17 1,
 Qo 18 (.lenS (t 17)),
 Qa 4 18,
 Qo 5 (.mov (.const Go.Value.nilIface))]
def fv:TC:=(.seq (.ops jh) (.clean [0,1] (.seq (.ops jg) (.clean [0,1] (.seq (.ops jf) (.clean [1] (.seq (.ops je) (.ret [4,5]))))))))
def fx:TFn:=⟨19,fv,[.tmp 4,.tmp 5],false⟩
theorem kh:type_of% (ai @jh.eq_1 (ai @jg.eq_1 (ai @jf.eq_1 (ai @je.eq_1 (ai @fv.eq_1 @fx.eq_1))))):=⟨rfl,rfl,rfl,rfl,rfl,rfl⟩
theorem sy:ud Try.prog [] bg = some (19,fv.erase,[.tmp 4,.tmp 5]):=by kernel_rfl
def pc:List ap:=[Qo 2 (.mov (ci 0))]
def pb:List ap:=[Qa 3 0,
 Qo 4 (.nilchk (t 3)),
 Qo 5 (.fieldAddr 1 (t 4)),
 Qb 6 5,
 Qo 7 (.lenL (t 6)),
 Qa 2 7]
def kn:TC:=(.seq (.ops pc) (.clean [0] (.seq (.ops pb) (.ret [2]))))
def ko:TFn:=⟨8,kn,[.tmp 2],false⟩
theorem ry:type_of% (ai @pc.eq_1 (ai @pb.eq_1 (ai @kn.eq_1 @ko.eq_1))):=⟨rfl,rfl,rfl,rfl⟩
theorem zcdp:ud Try.prog [] en = some (8,kn.erase,[.tmp 2]):=by kernel_rfl
def kd:List ap:=[Qo 4 (.mov (.const Go.Value.nilIface))]
def kc:List ap:=[Qa 5 0,
 Qo 6 (.call be [(t 5)])]
def kb:List ap:=[Qa 7 0,
 Qa 8 0,
 Qo 9 (.nilchk (t 8)),
 Qo 10 (.fieldAddr 1 (t 9)),
 Qm 2 11 (.load1 (t 10)),
 Qa 12 1,
 Qo 13 (.buildSl a9 1 1 [(.int .u8 0)] [(0,1,(t 12))]),
 Qo 14 (.append a9 1 1 (t 11) (t 13)),
 Qo 15 (.nilchk (t 7)),
 Qo 16 (.fieldAddr 1 (t 15)),
 ⟨⟨none,.store 1 (t 16) (t 14),none⟩,2⟩]
def ka:List ap:=[Qo 4 (.mov (.const Go.Value.nilIface))]
def gi:TC:=(.seq (.ops kd) (.clean [0,1] (.seq (.ops kc) (.clean [0,1] (.seq (.ops kb) (.clean [] (.seq (.ops ka) (.ret [4]))))))))
def gm:TFn:=⟨17,gi,[.tmp 4],false⟩
theorem lp:type_of% (ai @kd.eq_1 (ai @kc.eq_1 (ai @kb.eq_1 (ai @ka.eq_1 (ai @gi.eq_1 @gm.eq_1))))):=⟨rfl,rfl,rfl,rfl,rfl,rfl⟩
theorem vh:ud Try.prog [] bp = some (17,gi.erase,[.tmp 4]):=by kernel_rfl
def zbzk:List ap:=[Qo 0 (.box ew 8 (.const (.agg #[(.int .u32 0),(.int .u32 0),(.int .u32 0),(.int .u32 0),(.int .u32 0),(.int .u32 0),(.int .u32 0),(.int .u32 0)])))]
def zbzl:List ap:=[Qo 1 (.build [(.int .u32 0),(.int .u32 0),(.int .u32 0),(.int .u32 0),(.int .u32 0),(.int .u32 0),(.int .u32 0),(.int .u32 0)] [(0,1,(.const (Go.Value.int Go.IntKind.u32 1779033703))),(1,1,(.const (Go.Value.int Go.IntKind.u32 3144134277))),(2,1,(.const (Go.Value.int Go.IntKind.u32 1013904242))),(3,1,(.const (Go.Value.int Go.IntKind.u32 2773480762))),(4,1,(.const (Go.Value.int Go.IntKind.u32 1359893119))),(5,1,(.const (Go.Value.int Go.IntKind.u32 2600822924))),(6,1,(.const (Go.Value.int Go.IntKind.u32 528734635))),(7,1,(.const (Go.Value.int Go.IntKind.u32 1541459225)))]),
 ⟨⟨none,.store 8 (t 0) (t 1),none⟩,0⟩]
def zbpa:TC:=(.seq (.ops zbzk) (.clean [0] (.seq (.ops zbzl) (.ret [0]))))
def zbo1:TFn:=⟨2,zbpa,[.cellN 0 8],false⟩
theorem zcem:type_of% (ai @zbzk.eq_1 (ai @zbzl.eq_1 (ai @zbpa.eq_1 @zbo1.eq_1))):=⟨rfl,rfl,rfl,rfl⟩
theorem zcfd:ud Try.prog [] qc = some (2,zbpa.erase,[.cellN 0 8]):=by kernel_rfl
def zf:List ap:=[Qo 0 (.box bd 64 (.const (.agg #[(.int .u32 0),(.int .u32 0),(.int .u32 0),(.int .u32 0),(.int .u32 0),(.int .u32 0),(.int .u32 0),(.int .u32 0),(.int .u32 0),(.int .u32 0),(.int .u32 0),(.int .u32 0),(.int .u32 0),(.int .u32 0),(.int .u32 0),(.int .u32 0),(.int .u32 0),(.int .u32 0),(.int .u32 0),(.int .u32 0),(.int .u32 0),(.int .u32 0),(.int .u32 0),(.int .u32 0),(.int .u32 0),(.int .u32 0),(.int .u32 0),(.int .u32 0),(.int .u32 0),(.int .u32 0),(.int .u32 0),(.int .u32 0),(.int .u32 0),(.int .u32 0),(.int .u32 0),(.int .u32 0),(.int .u32 0),(.int .u32 0),(.int .u32 0),(.int .u32 0),(.int .u32 0),(.int .u32 0),(.int .u32 0),(.int .u32 0),(.int .u32 0),(.int .u32 0),(.int .u32 0),(.int .u32 0),(.int .u32 0),(.int .u32 0),(.int .u32 0),(.int .u32 0),(.int .u32 0),(.int .u32 0),(.int .u32 0),(.int .u32 0),(.int .u32 0),(.int .u32 0),(.int .u32 0),(.int .u32 0),(.int .u32 0),(.int .u32 0),(.int .u32 0),(.int .u32 0)])))]
def ze:List ap:=[Qo 1 (.build [(.int .u32 0),(.int .u32 0),(.int .u32 0),(.int .u32 0),(.int .u32 0),(.int .u32 0),(.int .u32 0),(.int .u32 0),(.int .u32 0),(.int .u32 0),(.int .u32 0),(.int .u32 0),(.int .u32 0),(.int .u32 0),(.int .u32 0),(.int .u32 0),(.int .u32 0),(.int .u32 0),(.int .u32 0),(.int .u32 0),(.int .u32 0),(.int .u32 0),(.int .u32 0),(.int .u32 0),(.int .u32 0),(.int .u32 0),(.int .u32 0),(.int .u32 0),(.int .u32 0),(.int .u32 0),(.int .u32 0),(.int .u32 0),(.int .u32 0),(.int .u32 0),(.int .u32 0),(.int .u32 0),(.int .u32 0),(.int .u32 0),(.int .u32 0),(.int .u32 0),(.int .u32 0),(.int .u32 0),(.int .u32 0),(.int .u32 0),(.int .u32 0),(.int .u32 0),(.int .u32 0),(.int .u32 0),(.int .u32 0),(.int .u32 0),(.int .u32 0),(.int .u32 0),(.int .u32 0),(.int .u32 0),(.int .u32 0),(.int .u32 0),(.int .u32 0),(.int .u32 0),(.int .u32 0),(.int .u32 0),(.int .u32 0),(.int .u32 0),(.int .u32 0),(.int .u32 0)] [(0,1,(.const (Go.Value.int Go.IntKind.u32 1116352408))),(1,1,(.const (Go.Value.int Go.IntKind.u32 1899447441))),(2,1,(.const (Go.Value.int Go.IntKind.u32 3049323471))),(3,1,(.const (Go.Value.int Go.IntKind.u32 3921009573))),(4,1,(.const (Go.Value.int Go.IntKind.u32 961987163))),(5,1,(.const (Go.Value.int Go.IntKind.u32 1508970993))),(6,1,(.const (Go.Value.int Go.IntKind.u32 2453635748))),(7,1,(.const (Go.Value.int Go.IntKind.u32 2870763221))),(8,1,(.const (Go.Value.int Go.IntKind.u32 3624381080))),(9,1,(.const (Go.Value.int Go.IntKind.u32 310598401))),(10,1,(.const (Go.Value.int Go.IntKind.u32 607225278))),(11,1,(.const (Go.Value.int Go.IntKind.u32 1426881987))),(12,1,(.const (Go.Value.int Go.IntKind.u32 1925078388))),(13,1,(.const (Go.Value.int Go.IntKind.u32 2162078206))),(14,1,(.const (Go.Value.int Go.IntKind.u32 2614888103))),(15,1,(.const (Go.Value.int Go.IntKind.u32 3248222580))),(16,1,(.const (Go.Value.int Go.IntKind.u32 3835390401))),(17,1,(.const (Go.Value.int Go.IntKind.u32 4022224774))),(18,1,(.const (Go.Value.int Go.IntKind.u32 264347078))),(19,1,(.const (Go.Value.int Go.IntKind.u32 604807628))),(20,1,(.const (Go.Value.int Go.IntKind.u32 770255983))),(21,1,(.const (Go.Value.int Go.IntKind.u32 1249150122))),(22,1,(.const (Go.Value.int Go.IntKind.u32 1555081692))),(23,1,(.const (Go.Value.int Go.IntKind.u32 1996064986))),(24,1,(.const (Go.Value.int Go.IntKind.u32 2554220882))),(25,1,(.const (Go.Value.int Go.IntKind.u32 2821834349))),(26,1,(.const (Go.Value.int Go.IntKind.u32 2952996808))),(27,1,(.const (Go.Value.int Go.IntKind.u32 3210313671))),(28,1,(.const (Go.Value.int Go.IntKind.u32 3336571891))),(29,1,(.const (Go.Value.int Go.IntKind.u32 3584528711))),(30,1,(.const (Go.Value.int Go.IntKind.u32 113926993))),(31,1,(.const (Go.Value.int Go.IntKind.u32 338241895))),(32,1,(.const (Go.Value.int Go.IntKind.u32 666307205))),(33,1,(.const (Go.Value.int Go.IntKind.u32 773529912))),(34,1,(.const (Go.Value.int Go.IntKind.u32 1294757372))),(35,1,(.const (Go.Value.int Go.IntKind.u32 1396182291))),(36,1,(.const (Go.Value.int Go.IntKind.u32 1695183700))),(37,1,(.const (Go.Value.int Go.IntKind.u32 1986661051))),(38,1,(.const (Go.Value.int Go.IntKind.u32 2177026350))),(39,1,(.const (Go.Value.int Go.IntKind.u32 2456956037))),(40,1,(.const (Go.Value.int Go.IntKind.u32 2730485921))),(41,1,(.const (Go.Value.int Go.IntKind.u32 2820302411))),(42,1,(.const (Go.Value.int Go.IntKind.u32 3259730800))),(43,1,(.const (Go.Value.int Go.IntKind.u32 3345764771))),(44,1,(.const (Go.Value.int Go.IntKind.u32 3516065817))),(45,1,(.const (Go.Value.int Go.IntKind.u32 3600352804))),(46,1,(.const (Go.Value.int Go.IntKind.u32 4094571909))),(47,1,(.const (Go.Value.int Go.IntKind.u32 275423344))),(48,1,(.const (Go.Value.int Go.IntKind.u32 430227734))),(49,1,(.const (Go.Value.int Go.IntKind.u32 506948616))),(50,1,(.const (Go.Value.int Go.IntKind.u32 659060556))),(51,1,(.const (Go.Value.int Go.IntKind.u32 883997877))),(52,1,(.const (Go.Value.int Go.IntKind.u32 958139571))),(53,1,(.const (Go.Value.int Go.IntKind.u32 1322822218))),(54,1,(.const (Go.Value.int Go.IntKind.u32 1537002063))),(55,1,(.const (Go.Value.int Go.IntKind.u32 1747873779))),(56,1,(.const (Go.Value.int Go.IntKind.u32 1955562222))),(57,1,(.const (Go.Value.int Go.IntKind.u32 2024104815))),(58,1,(.const (Go.Value.int Go.IntKind.u32 2227730452))),(59,1,(.const (Go.Value.int Go.IntKind.u32 2361852424))),(60,1,(.const (Go.Value.int Go.IntKind.u32 2428436474))),(61,1,(.const (Go.Value.int Go.IntKind.u32 2756734187))),(62,1,(.const (Go.Value.int Go.IntKind.u32 3204031479))),(63,1,(.const (Go.Value.int Go.IntKind.u32 3329325298)))]),
 ⟨⟨none,.store 64 (t 0) (t 1),none⟩,0⟩]
def sg:TC:=(.seq (.ops zf) (.clean [0] (.seq (.ops ze) (.ret [0]))))
def sr:TFn:=⟨2,sg,[.cellN 0 64],false⟩
theorem zb9d:type_of% (ai @zf.eq_1 (ai @ze.eq_1 (ai @sg.eq_1 @sr.eq_1))):=⟨rfl,rfl,rfl,rfl⟩
theorem zb9g:ud Try.prog [] jq = some (2,sg.erase,[.cellN 0 64]):=by kernel_rfl
def zd:List ap:=[Qo 6 (.box bd 64 (.const (.agg #[(.int .u32 0),(.int .u32 0),(.int .u32 0),(.int .u32 0),(.int .u32 0),(.int .u32 0),(.int .u32 0),(.int .u32 0),(.int .u32 0),(.int .u32 0),(.int .u32 0),(.int .u32 0),(.int .u32 0),(.int .u32 0),(.int .u32 0),(.int .u32 0),(.int .u32 0),(.int .u32 0),(.int .u32 0),(.int .u32 0),(.int .u32 0),(.int .u32 0),(.int .u32 0),(.int .u32 0),(.int .u32 0),(.int .u32 0),(.int .u32 0),(.int .u32 0),(.int .u32 0),(.int .u32 0),(.int .u32 0),(.int .u32 0),(.int .u32 0),(.int .u32 0),(.int .u32 0),(.int .u32 0),(.int .u32 0),(.int .u32 0),(.int .u32 0),(.int .u32 0),(.int .u32 0),(.int .u32 0),(.int .u32 0),(.int .u32 0),(.int .u32 0),(.int .u32 0),(.int .u32 0),(.int .u32 0),(.int .u32 0),(.int .u32 0),(.int .u32 0),(.int .u32 0),(.int .u32 0),(.int .u32 0),(.int .u32 0),(.int .u32 0),(.int .u32 0),(.int .u32 0),(.int .u32 0),(.int .u32 0),(.int .u32 0),(.int .u32 0),(.int .u32 0),(.int .u32 0)])))]
def zc:List ap:=[Qo 23 (.mov (ci 0))]
def zb:List ap:=[Qo 24 (.bin .lss (t 23) (ci 64))]
def za:List ap:=[Qa 25 23,
 Qa 7 25]
def yz:List ap:=[Qa 26 7,
 Qo 27 (.bin .lss (t 26) (ci 16))]
def yx:List ap:=[Qa 28 7,
 Qa 29 1,
 Qa 30 7,
 Qo 31 (.bin .mul (ci 4) (t 30)),
 Qo 32 (.sliceStr (t 29) (some (t 31)) none),
 Qo 33 (.call ot [(t 32)]),
 Qo 34 (.indexPtr 64 1 (t 6) (t 28)),
 ⟨⟨none,.store 1 (t 34) (t 33),none⟩,0⟩]
def yw:List ap:=[Qa 35 7,
 Qo 36 (.bin .sub (t 35) (ci 15)),
 Qo 37 (.indexPtr 64 1 (t 6) (t 36)),
 Qb 38 37,
 Qa 39 7,
 Qo 40 (.bin .sub (t 39) (ci 2)),
 Qo 41 (.indexPtr 64 1 (t 6) (t 40)),
 Qb 42 41,
 Qa 8 38,
 Qa 9 42]
def yv:List ap:=[Qa 43 7,
 Qa 44 7,
 Qo 45 (.bin .sub (t 44) (ci 16)),
 Qo 46 (.indexPtr 64 1 (t 6) (t 45)),
 Qb 47 46,
 Qa 48 8,
 Qa 50 8,
 Qa 53 8,
 Qo 54 (.bin .shr (t 53) (.const (Go.Value.int Go.IntKind.u64 3))),
 Qa 57 7,
 Qo 58 (.bin .sub (t 57) (ci 7)),
 Qo 59 (.indexPtr 64 1 (t 6) (t 58)),
 Qb 60 59,
 Qa 62 9,
 Qa 64 9,
 Qa 67 9,
 Qo 68 (.bin .shr (t 67) (.const (Go.Value.int Go.IntKind.u64 10))),
 Qo 49 (.call du [(t 48),(ci 7)]),
 Qo 51 (.call du [(t 50),(ci 18)]),
 Qo 52 (.bin .xor (t 49) (t 51)),
 Qo 55 (.bin .xor (t 52) (t 54)),
 Qo 56 (.bin .add (t 47) (t 55)),
 Qo 61 (.bin .add (t 56) (t 60)),
 Qo 63 (.call du [(t 62),(ci 17)]),
 Qo 65 (.call du [(t 64),(ci 19)]),
 Qo 66 (.bin .xor (t 63) (t 65)),
 Qo 69 (.bin .xor (t 66) (t 68)),
 Qo 70 (.bin .add (t 61) (t 69)),
 Qo 71 (.indexPtr 64 1 (t 6) (t 43)),
 ⟨⟨none,.store 1 (t 71) (t 70),none⟩,0⟩]
def yu:List ap:=[Qo 72 (.bin .add (t 23) (ci 1)),
 Qa 23 72]
def ji:TC:=(.seq (.ops zb) (.clean [0,1,2,6,23,24] (.seq (.cond (t 24) .skip (.exit 0)) (.clean [0,1,2,6,23] (.seq (.block 1 [0,1,2,6,23] (.seq (.ops za) (.clean [0,1,2,6,7,23] (.seq (.seq (.ops yz) (.clean [0,1,2,6,7,23,27] (.cond (t 27) (.seq (.ops yx) (.exit 1)) .skip))) (.clean [0,1,2,6,7,23] (.seq (.draw (pl yw)) (.clean [0,1,2,6,7,8,9,23] (.draw (pl yv))))))))) (.clean [0,1,2,6,23] (.ops yu)))))))
def yr:List ap:=[Qa 73 0,
 Qo 74 (.nilchk (t 73)),
 Qo 75 (.indexPtr 8 1 (t 74) (ci 0)),
 Qb 76 75,
 Qa 77 0,
 Qo 78 (.nilchk (t 77)),
 Qo 79 (.indexPtr 8 1 (t 78) (ci 1)),
 Qb 80 79,
 Qa 81 0,
 Qo 82 (.nilchk (t 81)),
 Qo 83 (.indexPtr 8 1 (t 82) (ci 2)),
 Qb 84 83,
 Qa 85 0,
 Qo 86 (.nilchk (t 85)),
 Qo 87 (.indexPtr 8 1 (t 86) (ci 3)),
 Qb 88 87,
 Qa 89 0,
 Qo 90 (.nilchk (t 89)),
 Qo 91 (.indexPtr 8 1 (t 90) (ci 4)),
 Qb 92 91,
 Qa 93 0,
 Qo 94 (.nilchk (t 93)),
 Qo 95 (.indexPtr 8 1 (t 94) (ci 5)),
 Qb 96 95,
 Qa 97 0,
 Qo 98 (.nilchk (t 97)),
 Qo 99 (.indexPtr 8 1 (t 98) (ci 6)),
 Qb 100 99,
 Qa 101 0,
 Qo 102 (.nilchk (t 101)),
 Qo 103 (.indexPtr 8 1 (t 102) (ci 7)),
 Qb 104 103,
 Qa 10 76,
 Qa 11 80,
 Qa 12 84,
 Qa 13 88,
 Qa 14 92,
 Qa 15 96,
 Qa 16 100,
 Qa 17 104]
def wu:List ap:=[Qo 105 (.mov (ci 0))]
def wq:List ap:=[Qo 106 (.bin .lss (t 105) (ci 64))]
def wj:List ap:=[Qa 107 105,
 Qa 18 107]
def wg:List ap:=[Qa 108 17,
 Qa 109 14,
 Qa 111 14,
 Qa 114 14,
 Qa 118 14,
 Qa 119 15,
 Qo 120 (.bin .and (t 118) (t 119)),
 Qa 121 14,
 Qo 122 (.un .xor (t 121)),
 Qa 123 16,
 Qo 124 (.bin .and (t 122) (t 123)),
 Qo 125 (.bin .xor (t 120) (t 124)),
 Qa 127 2,
 Qa 128 18,
 Qo 129 (.nilchk (t 127)),
 Qo 130 (.indexPtr 64 1 (t 129) (t 128)),
 Qb 131 130,
 Qa 133 18,
 Qo 134 (.indexPtr 64 1 (t 6) (t 133)),
 Qb 135 134,
 Qo 110 (.call du [(t 109),(ci 6)]),
 Qo 112 (.call du [(t 111),(ci 11)]),
 Qo 113 (.bin .xor (t 110) (t 112)),
 Qo 115 (.call du [(t 114),(ci 25)]),
 Qo 116 (.bin .xor (t 113) (t 115)),
 Qo 117 (.bin .add (t 108) (t 116)),
 Qo 126 (.bin .add (t 117) (t 125)),
 Qo 132 (.bin .add (t 126) (t 131)),
 Qo 136 (.bin .add (t 132) (t 135)),
 Qa 19 136]
def we:List ap:=[Qa 137 10,
 Qo 138 (.call du [(t 137),(ci 2)]),
 Qa 139 10,
 Qo 140 (.call du [(t 139),(ci 13)]),
 Qo 141 (.bin .xor (t 138) (t 140)),
 Qa 142 10,
 Qo 143 (.call du [(t 142),(ci 22)]),
 Qo 144 (.bin .xor (t 141) (t 143)),
 Qa 145 10,
 Qa 146 11,
 Qo 147 (.bin .and (t 145) (t 146)),
 Qa 148 10,
 Qa 149 12,
 Qo 150 (.bin .and (t 148) (t 149)),
 Qo 151 (.bin .xor (t 147) (t 150)),
 Qa 152 11,
 Qa 153 12,
 Qo 154 (.bin .and (t 152) (t 153)),
 Qo 155 (.bin .xor (t 151) (t 154)),
 Qo 156 (.bin .add (t 144) (t 155)),
 Qa 20 156]
def wd:List ap:=[Qa 157 19,
 Qa 158 20,
 Qo 159 (.bin .add (t 157) (t 158)),
 Qa 160 10,
 Qa 161 11,
 Qa 162 12,
 Qa 163 13,
 Qa 164 19,
 Qo 165 (.bin .add (t 163) (t 164)),
 Qa 166 14,
 Qa 167 15,
 Qa 168 16,
 Qa 10 159,
 Qa 11 160,
 Qa 12 161,
 Qa 13 162,
 Qa 14 165,
 Qa 15 166,
 Qa 16 167,
 Qa 17 168]
def wb:List ap:=[Qo 169 (.bin .add (t 105) (ci 1)),
 Qa 105 169]
def l0:TC:=(.seq (.ops wq) (.clean [0,2,6,10,11,12,13,14,15,16,17,105,106] (.seq (.cond (t 106) .skip (.exit 2)) (.clean [0,2,6,10,11,12,13,14,15,16,17,105] (.seq (.block 3 [0,2,6,10,11,12,13,14,15,16,17,105] (.seq (.ops wj) (.clean [0,2,6,10,11,12,13,14,15,16,17,18,105] (.seq (.draw (pl wg)) (.clean [0,2,6,10,11,12,13,14,15,16,19,105] (.seq (.ops we) (.clean [0,2,6,10,11,12,13,14,15,16,19,20,105] (.ops wd)))))))) (.clean [0,2,6,10,11,12,13,14,15,16,17,105] (.ops wb)))))))
def wa:List ap:=[Qa 170 10,
 Qa 171 11,
 Qa 172 12,
 Qa 173 13,
 Qa 174 14,
 Qa 175 15,
 Qa 176 16,
 Qa 177 17,
 Qo 178 (.build [(.int .u32 0),(.int .u32 0),(.int .u32 0),(.int .u32 0),(.int .u32 0),(.int .u32 0),(.int .u32 0),(.int .u32 0)] [(0,1,(t 170)),(1,1,(t 171)),(2,1,(t 172)),(3,1,(t 173)),(4,1,(t 174)),(5,1,(t 175)),(6,1,(t 176)),(7,1,(t 177))]),
 Qo 179 (.mov (ci 0))]
def vz:List ap:=[Qo 180 (.bin .lss (t 179) (ci 8))]
def vy:List ap:=[Qa 181 179,
 Qo 182 (.indexAgg 8 (t 178) (t 179)),
 Qa 21 181,
 Qa 22 182]
def vx:List ap:=[Qa 183 0,
 Qa 184 21,
 Qo 185 (.nilchk (t 183)),
 Qo 186 (.indexPtr 8 1 (t 185) (t 184)),
 Qb 187 186,
 Qa 188 22,
 Qo 189 (.bin .add (t 187) (t 188)),
 Qo 190 (.nilchk (t 183)),
 Qo 191 (.indexPtr 8 1 (t 190) (t 184)),
 ⟨⟨none,.store 1 (t 191) (t 189),none⟩,0⟩]
def vv:List ap:=[Qo 192 (.bin .add (t 179) (ci 1)),
 Qa 179 192]
def lz:TC:=(.seq (.ops vz) (.clean [0,178,179,180] (.seq (.cond (t 180) .skip (.exit 4)) (.clean [0,178,179] (.seq (.block 5 [0,178,179] (.seq (.ops vy) (.clean [0,21,22,178,179] (.draw (pl vx))))) (.clean [0,178,179] (.ops vv)))))))
def sf:TC:=(.seq (.ops zd) (.clean [0,1,2,6] (.seq (.seq (.ops zc) (.block 0 [0,2,6] (.clean [0,1,2,6,23] (.loop [0,1,2,6,23] ji)))) (.clean [0,2,6] (.seq (.draw (pl yr)) (.clean [0,2,6,10,11,12,13,14,15,16,17] (.seq (.seq (.ops wu) (.block 2 [0,10,11,12,13,14,15,16,17] (.clean [0,2,6,10,11,12,13,14,15,16,17,105] (.loop [0,2,6,10,11,12,13,14,15,16,17,105] l0)))) (.clean [0,10,11,12,13,14,15,16,17] (.seq (.ops wa) (.block 4 [] (.clean [0,178,179] (.loop [0,178,179] lz))))))))))))
def sq:TFn:=⟨193,sf,[],false⟩
theorem da:type_of% (ai @zd.eq_1 (ai @zc.eq_1 (ai @zb.eq_1 (ai @za.eq_1 (ai @yz.eq_1 (ai @yx.eq_1 (ai @yw.eq_1 (ai @yv.eq_1 (ai @yu.eq_1 (ai @yr.eq_1 (ai @wu.eq_1 (ai @wq.eq_1 (ai @wj.eq_1 (ai @wg.eq_1 (ai @we.eq_1 (ai @wd.eq_1 (ai @wb.eq_1 (ai @wa.eq_1 (ai @vz.eq_1 (ai @vy.eq_1 (ai @vx.eq_1 (ai @vv.eq_1 (ai @sf.eq_1 @sq.eq_1))))))))))))))))))))))):=⟨rfl,rfl,rfl,rfl,rfl,rfl,rfl,rfl,rfl,rfl,rfl,rfl,rfl,rfl,rfl,rfl,rfl,rfl,rfl,rfl,rfl,rfl,rfl,rfl⟩
theorem zb86:ud Try.prog [(6,⟨[0,1,2,3,4,5,6,7,8,9],[0,1,3,7,0,16,48,112,15,511],[],[],.nil⟩),(7,⟨[0,1,2,3,4,5,7,10,11,14,15,16,17,19,21,24,25,6,8,9,12,13,18,20,22,23,26,27,28,29],[0,0,2,6,14,0,32,0,224,480,0,1024,4064,8190,0,16384,49152,114688,262142,0,524768,0,3670496,7864800,0,16777216,66585056,134217726,268435455,536870911],[],[],.nil⟩),(9,⟨[0,1,2,3,4,5,6,7,8,9,10,11,12,13,14,15,16,17,18,19,20,21,22,23,24,25,26,27,28,29,30,31,32,33,34,35,36,37,38,39],[0,1,3,7,0,16,48,112,0,256,768,1792,0,4096,12288,28672,0,65536,196608,458752,0,1048576,3145728,7340032,0,16777216,50331648,117440512,0,268435456,805306368,1879048192,15,4294967551,12884905983,30064836607,64425558015,133160763391,270851375103,549755813887],[],[],.nil⟩),(13,⟨[0,1,3,6,10,11,12,13,14,15,16,17,19,20,21,22,23,25,26,27,2,4,5,7,8,9,18,24,28,29],[0,0,2,0,14,30,0,94,254,511,0,0,3072,0,8192,0,57344,130048,262143,0,0,524288,3670016,7864320,16777215,0,33554432,100663296,268435455,536870911],[],[],.nil⟩),(20,⟨[0,1,2,3,4,5,6,7,8,9],[0,0,1,7,15,0,63,1,255,511],[],[],.nil⟩)] jp = some (193,sf.erase,[]):=by kernel_rfl
def zbz0:List ap:=[Qo 2 (.mov (.const (Go.Value.int Go.IntKind.u32 0)))]
def zbz3:List ap:=[Qa 3 0,
 Qo 4 (.indexStr (t 3) (ci 0)),
 Qo 5 (.conv .u32 (t 4)),
 Qo 6 (.bin .shl (t 5) (.const (Go.Value.int Go.IntKind.u64 24))),
 Qa 7 0,
 Qo 8 (.indexStr (t 7) (ci 1)),
 Qo 9 (.conv .u32 (t 8)),
 Qo 10 (.bin .shl (t 9) (.const (Go.Value.int Go.IntKind.u64 16))),
 Qo 11 (.bin .or (t 6) (t 10)),
 Qa 12 0,
 Qo 13 (.indexStr (t 12) (ci 2)),
 Qo 14 (.conv .u32 (t 13)),
 Qo 15 (.bin .shl (t 14) (.const (Go.Value.int Go.IntKind.u64 8))),
 Qo 16 (.bin .or (t 11) (t 15)),
 Qa 17 0,
 Qo 18 (.indexStr (t 17) (ci 3)),
 Qo 19 (.conv .u32 (t 18)),
 Qo 20 (.bin .or (t 16) (t 19)),
 Qa 2 20]
def zbpi:TC:=(.seq (.ops zbz0) (.clean [0] (.seq (.draw (pl zbz3)) (.ret [2]))))
def zbpe:TFn:=⟨21,zbpi,[.tmp 2],false⟩
theorem zb7g:type_of% (ai @zbz0.eq_1 (ai @zbz3.eq_1 (ai @zbpi.eq_1 @zbpe.eq_1))):=⟨rfl,rfl,rfl,rfl⟩
theorem zb7e:ud Try.prog [(1,⟨[0,1,2,3,4,5,6,7,8,9,10,11,12,13,14,15,16,17,18],[0,1,3,7,0,16,48,112,255,0,512,1536,3584,8191,0,16384,49152,131071,262143],[],[],.nil⟩)] ot = some (21,zbpi.erase,[.tmp 2]):=by kernel_rfl
def zbzm:List ap:=[Qo 4 (.mov (.const (Go.Value.int Go.IntKind.u32 0)))]
def zbzn:List ap:=[Qa 5 0,
 Qa 6 1,
 Qo 7 (.un .neg (t 6)),
 Qo 8 (.call cy [(t 5),(t 7)]),
 Qa 4 8]
def zbpb:TC:=(.seq (.ops zbzm) (.clean [0,1] (.seq (.ops zbzn) (.ret [4]))))
def zbo2:TFn:=⟨9,zbpb,[.tmp 4],false⟩
theorem zcen:type_of% (ai @zbzm.eq_1 (ai @zbzn.eq_1 (ai @zbpb.eq_1 @zbo2.eq_1))):=⟨rfl,rfl,rfl,rfl⟩
theorem zcfe:ud Try.prog [] du = some (9,zbpb.erase,[.tmp 4]):=by kernel_rfl
def l9:List ap:=[Qo 4 (.mov (.const (Go.Value.int Go.IntKind.u32 0)))]
def l7:List ap:=[Qa 6 1,
 Qo 7 (.conv .u64 (t 6)),
 Qo 8 (.bin .and (t 7) (.const (Go.Value.int Go.IntKind.u64 31))),
 Qa 5 8]
def l6:List ap:=[Qa 9 0,
 Qa 10 5,
 Qo 11 (.bin .shl (t 9) (t 10)),
 Qa 12 0,
 Qa 13 5,
 Qo 14 (.bin .sub (.const (Go.Value.int Go.IntKind.u64 32)) (t 13)),
 Qo 15 (.bin .shr (t 12) (t 14)),
 Qo 16 (.bin .or (t 11) (t 15)),
 Qa 4 16]
def io:TC:=(.seq (.ops l9) (.clean [0,1] (.seq (.ops l7) (.clean [0,5] (.seq (.ops l6) (.ret [4]))))))
def ip:TFn:=⟨17,io,[.tmp 4],false⟩
theorem zcec:type_of% (ai @l9.eq_1 (ai @l7.eq_1 (ai @l6.eq_1 (ai @io.eq_1 @ip.eq_1)))):=⟨rfl,rfl,rfl,rfl,rfl⟩
theorem zced:ud Try.prog [] cy = some (17,io.erase,[.tmp 4]):=by kernel_rfl
def zcdn:List ap:=[Qo 1 (.box zbob 1 (t 0)),
 Qo 2 (.mov (.const Go.Value.nilFunc))]
def zcdo:List ap:=[Qo 3 (.mkFunc (.func pk) [] [(t 1)]),
 Qa 2 3]
def xp:TC:=(.seq (.ops zcdn) (.clean [1] (.seq (.ops zcdo) (.ret [2]))))
def x6:TFn:=⟨4,xp,[.tmp 2],false⟩
theorem zb75:ud Try.prog [] zb0q = some (4,xp.erase,[.tmp 2]):=by kernel_rfl
def yq:List ap:=[Qb 6 1,
 Qo 7 (.call qe [(t 6)]),
 Qa 3 7]
def yp:List ap:=[Qa 8 3,
 Qo 9 (.call fo [(t 8),(ci 1048576)]),
 Qa 4 9]
def yo:List ap:=[Qb 10 1,
 Qo 11 (.lenS (t 10)),
 Qa 12 3,
 Qo 13 (.call dx [(t 12)]),
 Qo 14 (.bin .sub (t 11) (t 13)),
 Qa 5 14]
def yn:List ap:=[Qa 15 3,
 Qo 16 (.call ge [(t 15)]),
 Qa 17 16,
 Qf 17 18 (.mov (t 3)),
 Qf 17 19 (.call dx [(t 18)]),
 Qf 17 20 (.bin .lss (t 19) (ci 8)),
 Qo 21 (.pick (t 17) QT (t 20)),
 Qa 22 21,
 Qf 22 23 (.load1 (t 1)),
 Qf 22 24 (.mov (t 5)),
 Qf 22 25 (.mov (t 5)),
 Qf 22 26 (.bin .add (t 25) (ci 8)),
 Qf 22 27 (.sliceStr (t 23) (some (t 24)) (some (t 26))),
 Qf 22 28 (.mov (t 4)),
 Qf 22 29 (.call qb [(t 28)]),
 Qf 22 30 (.bin .neq (t 27) (t 29)),
 Qo 31 (.pick (t 22) QT (t 30)),
 Qa 32 31,
 Qf 32 33 (.mov (t 0)),
 Qf 32 34 (.mov (t 5)),
 Qf 32 35 (.bin .add (t 34) (ci 8)),
 Qf 32 36 (.mov (t 4)),
 Qf 32 37 (.callv (t 33) [(t 35),(t 36)]),
 Qf 32 38 (.un .not (t 37)),
 Qo 39 (.pick (t 32) QT (t 38))]
def ym:List ap:=[Qb 40 1,
 Qa 41 5,
 Qo 42 (.bin .add (t 41) (ci 8)),
 Qo 43 (.sliceStr (t 40) (some (t 42)) none),
 ⟨⟨none,.store 1 (t 1) (t 43),none⟩,0⟩]
def zcaz:TC:=(.block 1 [0,1] (.seq (.ops yq) (.clean [0,1,3] (.seq (.ops yp) (.clean [0,1,3,4] (.seq (.draw (pl yo)) (.clean [0,1,3,4,5] (.seq (.seq (.draw (pl yn)) (.clean [0,1,5,39] (.cond (t 39) (.ret []) .skip))) (.clean [0,1,5] (.ops ym))))))))))
def se:TC:=(.block 0 [] (.clean [0,1] (.loop [0,1] zcaz)))
def sp:TFn:=⟨44,se,[],false⟩
theorem zb87:ud Try.prog [(2,⟨[0,1,2,3,4,5],[0,1,0,4,15,31],[],[],.nil⟩),(3,⟨[0,1,2,3,4,5,6,7,8,9,10,11,12,13,14,15,16,17,18,19,20,21,22,23,24],[0,1,3,7,15,31,63,127,255,255,255,1279,4095,255,8447,32767,65535,131071,262143,262143,786431,262143,4194303,8388607,16777215],[],[],.nil⟩)] pk = some (44,se.erase,[]):=by kernel_rfl
def zbza:List ap:=[Qo 2 (.mov (.const (Go.Value.pointer none)))]
def zbzb:List ap:=[Qa 3 0,
 Qo 4 (.build [(.string ⟨#[]⟩),(.bool false)] [(0,1,(t 3))]),
 Qo 5 (.box aq 2 (t 4)),
 Qa 2 5]
def zbo8:TC:=(.seq (.ops zbza) (.clean [0] (.seq (.ops zbzb) (.ret [2]))))
def zboz:TFn:=⟨6,zbo8,[.tmp 2],false⟩
theorem zcel:type_of% (ai @zbza.eq_1 (ai @zbzb.eq_1 (ai @zbo8.eq_1 @zboz.eq_1))):=⟨rfl,rfl,rfl,rfl⟩
theorem zcfb:ud Try.prog [] qe = some (6,zbo8.erase,[.tmp 2]):=by kernel_rfl
def rm:List ap:=[Qo 4 (.mov (.const (Go.Value.string ⟨#[]⟩)))]
def rk:List ap:=[Qa 6 0,
 Qa 7 1,
 Qo 8 (.call fb [(t 6),(t 7)]),
 Qa 5 8]
def rj:List ap:=[Qa 9 0,
 Qa 10 5,
 Qo 11 (.call dv [(t 9),(t 10)]),
 Qa 4 11]
def me:TC:=(.seq (.ops rm) (.clean [0,1] (.seq (.ops rk) (.clean [0,5] (.seq (.ops rj) (.ret [4]))))))
def mi:TFn:=⟨12,me,[.tmp 4],false⟩
theorem zccc:type_of% (ai @rm.eq_1 (ai @rk.eq_1 (ai @rj.eq_1 (ai @me.eq_1 @mi.eq_1)))):=⟨rfl,rfl,rfl,rfl,rfl⟩
theorem zcby:ud Try.prog [] fo = some (12,me.erase,[.tmp 4]):=by kernel_rfl
def po:List ap:=[Qo 4 (.mov (ci 0))]
def pn:List ap:=[Qa 5 0,
 Qa 6 0,
 Qo 7 (.mkFunc (.func dg) [(t 6)] []),
 Qa 8 1,
 Qo 9 (.call gu [(t 5),(t 7),(t 8)]),
 Qa 4 9]
def kx:TC:=(.seq (.ops po) (.clean [0,1] (.seq (.ops pn) (.ret [4]))))
def lg:TFn:=⟨10,kx,[.tmp 4],false⟩
theorem zcc5:type_of% (ai @po.eq_1 (ai @pn.eq_1 (ai @kx.eq_1 @lg.eq_1))):=⟨rfl,rfl,rfl,rfl⟩
theorem zcc6:ud Try.prog [] fb = some (10,kx.erase,[.tmp 4]):=by kernel_rfl
def u9:List ap:=[Qo 6 (.mov (ci 0))]
def u7:List ap:=[Qa 8 1,
 Qo 9 (.callv (t 8) []),
 Qa 7 9]
def u6:List ap:=[Qa 10 7,
 Qo 11 (.bin .lss (t 10) (ci 0)),
 Qa 12 11,
 Qf 12 13 (.mov (t 7)),
 Qf 12 14 (.mov (t 2)),
 Qf 12 15 (.bin .gtr (t 13) (t 14)),
 Qo 16 (.pick (t 12) QT (t 15))]
def u5:List ap:=[Qa 17 0,
 Qo 18 (.call dw [(t 17)])]
def u4:List ap:=[Qo 6 (.mov (ci 0))]
def uz:List ap:=[Qa 19 7,
 Qa 6 19]
def o7:TC:=(.seq (.ops u9) (.clean [0,1,2] (.seq (.ops u7) (.clean [0,2,7] (.seq (.seq (.ops u6) (.clean [0,7,16] (.cond (t 16) (.seq (.ops u5) (.clean [] (.seq (.ops u4) (.ret [6])))) .skip))) (.clean [7] (.seq (.ops uz) (.ret [6]))))))))
def pf:TFn:=⟨20,o7,[.tmp 6],false⟩
theorem pw:type_of% (ai @u9.eq_1 (ai @u7.eq_1 (ai @u6.eq_1 (ai @u5.eq_1 (ai @u4.eq_1 (ai @uz.eq_1 (ai @o7.eq_1 @pf.eq_1))))))):=⟨rfl,rfl,rfl,rfl,rfl,rfl,rfl,rfl⟩
theorem zcaq:ud Try.prog [] gu = some (20,o7.erase,[.tmp 6]):=by kernel_rfl
def ri:List ap:=[Qa 2 0,
 Qa 3 0,
 Qo 4 (.nilchk (t 2)),
 Qo 5 (.fieldAddr 0 (t 4)),
 ⟨⟨none,.store 1 (t 5) (.const (Go.Value.string ⟨#[]⟩)),none⟩,0⟩,
 Qo 6 (.nilchk (t 3)),
 Qo 7 (.fieldAddr 1 (t 6)),
 ⟨⟨none,.store 1 (t 7) QT,none⟩,0⟩]
def mc:TC:=(.ops ri)
def mh:TFn:=⟨8,mc,[],false⟩
theorem zccd:type_of% (ai @ri.eq_1 (ai @mc.eq_1 @mh.eq_1)):=⟨rfl,rfl,rfl⟩
theorem zcbz:ud Try.prog [] dw = some (8,mc.erase,[]):=by kernel_rfl
def tn:List ap:=[Qo 2 (.mov (ci 0))]
def tm:List ap:=[Qo 3 (.mov (ci 0))]
def tj:List ap:=[Qa 6 0,
 Qo 7 (.call dv [(t 6),(ci 8)]),
 Qo 8 (.toBytes a9 (t 7)),
 Qo 9 (.lenL (t 8)),
 Qo 10 (.mov (ci 0))]
def ti:List ap:=[Qo 11 (.bin .lss (t 10) (t 9))]
def th:List ap:=[Qo 12 (.indexSl 1 (t 8) (t 10)),
 Qb 13 12,
 Qa 5 13]
def tf:List ap:=[Qa 14 3,
 Qo 15 (.bin .shl (t 14) (.const (Go.Value.int Go.IntKind.u64 8))),
 Qa 16 5,
 Qo 17 (.conv .i64 (t 16)),
 Qo 18 (.bin .or (t 15) (t 17)),
 Qa 3 18]
def te:List ap:=[Qo 19 (.bin .add (t 10) (ci 1)),
 Qa 10 19]
def ix:TC:=(.seq (.ops ti) (.clean [3,8,9,10,11] (.seq (.cond (t 11) .skip (.exit 0)) (.clean [3,8,9,10] (.seq (.block 1 [3,8,9,10] (.seq (.ops th) (.clean [3,5,8,9,10] (.ops tf)))) (.clean [3,8,9,10] (.ops te)))))))
def td:List ap:=[Qa 20 3,
 Qa 2 20]
def nr:TC:=(.seq (.ops tn) (.clean [0] (.seq (.ops tm) (.clean [0,3] (.seq (.seq (.ops tj) (.block 0 [3] (.clean [3,8,9,10] (.loop [3,8,9,10] ix)))) (.clean [3] (.seq (.ops td) (.ret [2]))))))))
def nz:TFn:=⟨21,nr,[.tmp 2],false⟩
theorem kv:type_of% (ai @tn.eq_1 (ai @tm.eq_1 (ai @tj.eq_1 (ai @ti.eq_1 (ai @th.eq_1 (ai @tf.eq_1 (ai @te.eq_1 (ai @td.eq_1 (ai @nr.eq_1 @nz.eq_1))))))))):=⟨rfl,rfl,rfl,rfl,rfl,rfl,rfl,rfl,rfl,rfl⟩
theorem zca2:ud Try.prog [] dg = some (21,nr.erase,[.tmp 2]):=by kernel_rfl
def rh:List ap:=[Qo 4 (.mov (.const (Go.Value.string ⟨#[]⟩)))]
def rg:List ap:=[Qa 6 0,
 Qo 7 (.nilchk (t 6)),
 Qo 8 (.fieldAddr 1 (t 7)),
 Qb 9 8,
 Qa 10 9,
 Qf 10 11 (.mov (t 1)),
 Qf 10 12 (.bin .lss (t 11) (ci 0)),
 Qo 13 (.pick (t 10) QT (t 12)),
 Qa 14 13,
 Qf 14 15 (.mov (t 1)),
 Qf 14 16 (.mov (t 0)),
 Qf 14 17 (.nilchk (t 16)),
 Qf 14 18 (.fieldAddr 0 (t 17)),
 Qf 14 19 (.load1 (t 18)),
 Qf 14 20 (.lenS (t 19)),
 Qf 14 21 (.bin .gtr (t 15) (t 20)),
 Qo 22 (.pick (t 14) QT (t 21))]
def rf:List ap:=[Qa 23 0,
 Qo 24 (.call dw [(t 23)])]
def re:List ap:=[Qo 4 (.mov (.const (Go.Value.string ⟨#[]⟩)))]
def rc:List ap:=[Qa 25 0,
 Qo 26 (.nilchk (t 25)),
 Qo 27 (.fieldAddr 0 (t 26)),
 Qb 28 27,
 Qa 29 1,
 Qo 30 (.sliceStr (t 28) none (some (t 29))),
 Qa 5 30]
def rb:List ap:=[Qa 31 0,
 Qa 32 0,
 Qo 33 (.nilchk (t 32)),
 Qo 34 (.fieldAddr 0 (t 33)),
 Qb 35 34,
 Qa 36 1,
 Qo 37 (.sliceStr (t 35) (some (t 36)) none),
 Qo 38 (.nilchk (t 31)),
 Qo 39 (.fieldAddr 0 (t 38)),
 ⟨⟨none,.store 1 (t 39) (t 37),none⟩,0⟩]
def ra:List ap:=[Qa 40 5,
 Qa 4 40]
def mb:TC:=(.seq (.ops rh) (.clean [0,1] (.seq (.seq (.ops rg) (.clean [0,1,22] (.cond (t 22) (.seq (.ops rf) (.clean [] (.seq (.ops re) (.ret [4])))) .skip))) (.clean [0,1] (.seq (.ops rc) (.clean [0,1,5] (.seq (.ops rb) (.clean [5] (.seq (.ops ra) (.ret [4]))))))))))
def mg:TFn:=⟨41,mb,[.tmp 4],false⟩
theorem jy:type_of% (ai @rh.eq_1 (ai @rg.eq_1 (ai @rf.eq_1 (ai @re.eq_1 (ai @rc.eq_1 (ai @rb.eq_1 (ai @ra.eq_1 (ai @mb.eq_1 @mg.eq_1)))))))):=⟨rfl,rfl,rfl,rfl,rfl,rfl,rfl,rfl,rfl⟩
theorem zcb0:ud Try.prog [] dv = some (41,mb.erase,[.tmp 4]):=by kernel_rfl
def rp:List ap:=[Qo 2 (.mov (ci 0))]
def rn:List ap:=[Qa 3 0,
 Qo 4 (.nilchk (t 3)),
 Qo 5 (.fieldAddr 0 (t 4)),
 Qb 6 5,
 Qo 7 (.lenS (t 6)),
 Qa 2 7]
def mf:TC:=(.seq (.ops rp) (.clean [0] (.seq (.ops rn) (.ret [2]))))
def mj:TFn:=⟨8,mf,[.tmp 2],false⟩
theorem zccb:type_of% (ai @rp.eq_1 (ai @rn.eq_1 (ai @mf.eq_1 @mj.eq_1))):=⟨rfl,rfl,rfl,rfl⟩
theorem zcbx:ud Try.prog [] dx = some (8,mf.erase,[.tmp 2]):=by kernel_rfl
def tq:List ap:=[Qo 2 (.mov QF)]
def tp:List ap:=[Qa 3 0,
 Qo 4 (.nilchk (t 3)),
 Qo 5 (.fieldAddr 1 (t 4)),
 Qb 6 5,
 Qa 2 6]
def nu:TC:=(.seq (.ops tq) (.clean [0] (.seq (.ops tp) (.ret [2]))))
def n3:TFn:=⟨7,nu,[.tmp 2],false⟩
theorem zca0:type_of% (ai @tq.eq_1 (ai @tp.eq_1 (ai @nu.eq_1 @n3.eq_1))):=⟨rfl,rfl,rfl,rfl⟩
theorem zca1:ud Try.prog [] ge = some (7,nu.erase,[.tmp 2]):=by kernel_rfl
def zb9k:List ap:=[Qo 2 (.mov (.const (Go.Value.string ⟨#[]⟩)))]
def zb9l:List ap:=[Qa 3 0,
 Qo 4 (.call uk [(t 3)]),
 Qa 5 0,
 Qo 6 (.call vo [(t 5)]),
 Qo 7 (.sliceStr (t 6) none (some (ci 8))),
 Qo 8 (.bin .add (t 4) (t 7)),
 Qa 2 8]
def zbyt:TC:=(.seq (.ops zb9k) (.clean [0] (.seq (.ops zb9l) (.ret [2]))))
def zcat:TFn:=⟨9,zbyt,[.tmp 2],false⟩
theorem za95:ud Try.prog [] vn = some (9,zbyt.erase,[.tmp 2]):=by kernel_rfl
def zcae:List ap:=[Qo 2 (.mov (.const (Go.Value.string ⟨#[]⟩)))]
def zcaf:List ap:=[Qa 3 0,
 Qo 4 (.lenS (t 3)),
 Qo 5 (.call ng [(t 4)]),
 Qa 6 0,
 Qo 7 (.bin .add (t 5) (t 6)),
 Qa 2 7]
def zbzu:TC:=(.seq (.ops zcae) (.clean [0] (.seq (.ops zcaf) (.ret [2]))))
def zcb4:TFn:=⟨8,zbzu,[.tmp 2],false⟩
theorem na:ud Try.prog [] uk = some (8,zbzu.erase,[.tmp 2]):=by kernel_rfl
def zbws:List ap:=[Qo 2 (.mov (.const (Go.Value.string ⟨#[]⟩)))]
def zbwt:List ap:=[Qa 6 0,
 Qo 7 (.conv .u64 (t 6)),
 Qa 3 7]
def zbwu:List ap:=[Qm 1 4 (.mov (.const (Go.Value.slice none 0 0)))]
def zbwv:List ap:=[Qo 5 (.mov (ci 0))]
def zbww:List ap:=[Qa 8 5,
 Qo 9 (.bin .lss (t 8) (ci 8))]
def zbwy:List ap:=[Qa 12 4,
 Qa 13 3,
 Qa 14 5,
 Qo 15 (.bin .mul (ci 8) (t 14)),
 Qo 16 (.bin .sub (ci 56) (t 15)),
 Qo 17 (.conv .u64 (t 16)),
 Qo 18 (.bin .shr (t 13) (t 17)),
 Qo 19 (.conv .u8 (t 18)),
 Qo 20 (.buildSl a9 1 1 [(.int .u8 0)] [(0,1,(t 19))]),
 Qo 21 (.append a9 1 1 (t 12) (t 20)),
 Qa 4 21]
def zbwx:List ap:=[Qa 10 5,
 Qo 11 (.bin .add (t 10) (ci 1)),
 Qa 5 11]
def zbmh:TC:=(.seq (.seq (.ops zbww) (.clean [3,4,5,9] (.cond (t 9) .skip (.exit 0)))) (.clean [3,4,5] (.seq (.block 1 [3,4,5] (.ops zbwy)) (.clean [3,4,5] (.ops zbwx)))))
def zbwz:List ap:=[Qa 22 4,
 Qo 23 (.toStr (t 22)),
 Qa 2 23]
def zbn4:TC:=(.seq (.ops zbws) (.clean [0] (.seq (.ops zbwt) (.clean [3] (.seq (.ops zbwu) (.clean [3,4] (.seq (.seq (.ops zbwv) (.block 0 [4] (.clean [3,4,5] (.loop [3,4,5] zbmh)))) (.clean [4] (.seq (.ops zbwz) (.ret [2]))))))))))
def zbnx:TFn:=⟨24,zbn4,[.tmp 2],false⟩
theorem zbly:type_of% (ai @zbws.eq_1 (ai @zbwt.eq_1 (ai @zbwu.eq_1 (ai @zbwv.eq_1 (ai @zbww.eq_1 (ai @zbwy.eq_1 (ai @zbwx.eq_1 (ai @zbwz.eq_1 (ai @zbn4.eq_1 @zbnx.eq_1))))))))):=⟨rfl,rfl,rfl,rfl,rfl,rfl,rfl,rfl,rfl,rfl⟩
theorem za96:ud Try.prog [] ng = some (24,zbn4.erase,[.tmp 2]):=by kernel_rfl
def zb9m:List ap:=[Qo 2 (.mov (.const (Go.Value.string ⟨#[]⟩)))]
def zb9n:List ap:=[Qa 11 0,
 Qm 2 12 (.toBytes a9 (t 11)),
 Qo 13 (.buildSl a9 1 1 [(.int .u8 0)] [(0,1,(.const (Go.Value.int Go.IntKind.u8 128)))]),
 Qo 14 (.append a9 1 1 (t 12) (t 13)),
 Qa 3 14]
def zb9o:List ap:=[Qa 15 3,
 Qo 16 (.lenL (t 15)),
 Qo 17 (.bin .rem (t 16) (ci 64)),
 Qo 18 (.bin .neq (t 17) (ci 56))]
def zb9p:List ap:=[Qa 19 3,
 Qo 20 (.buildSl a9 1 1 [(.int .u8 0)] [(0,1,(.const (Go.Value.int Go.IntKind.u8 0)))]),
 Qo 21 (.append a9 1 1 (t 19) (t 20)),
 Qa 3 21]
def zcdz:TC:=(.seq (.seq (.ops zb9o) (.clean [0,3,18] (.cond (t 18) .skip (.exit 0)))) (.block 1 [0,3] (.ops zb9p)))
def zb9q:List ap:=[Qa 22 0,
 Qo 23 (.lenS (t 22)),
 Qo 24 (.conv .u64 (t 23)),
 Qo 25 (.bin .mul (t 24) (.const (Go.Value.int Go.IntKind.u64 8))),
 Qa 4 25]
def zb9r:List ap:=[Qo 5 (.mov (ci 0))]
def zb9s:List ap:=[Qa 26 5,
 Qo 27 (.bin .lss (t 26) (ci 8))]
def zb9i:List ap:=[Qa 30 3,
 Qa 31 4,
 Qa 32 5,
 Qo 33 (.bin .mul (ci 8) (t 32)),
 Qo 34 (.bin .sub (ci 56) (t 33)),
 Qo 35 (.conv .u64 (t 34)),
 Qo 36 (.bin .shr (t 31) (t 35)),
 Qo 37 (.conv .u8 (t 36)),
 Qo 38 (.buildSl a9 1 1 [(.int .u8 0)] [(0,1,(t 37))]),
 Qo 39 (.append a9 1 1 (t 30) (t 38)),
 Qa 3 39]
def zb9h:List ap:=[Qa 28 5,
 Qo 29 (.bin .add (t 28) (ci 1)),
 Qa 5 29]
def zcd0:TC:=(.seq (.seq (.ops zb9s) (.clean [3,4,5,27] (.cond (t 27) .skip (.exit 2)))) (.clean [3,4,5] (.seq (.block 3 [3,4,5] (.ops zb9i)) (.clean [3,4,5] (.ops zb9h)))))
def zb9j:List ap:=[Qa 40 3,
 Qo 41 (.toStr (t 40)),
 Qa 6 41]
def zcao:List ap:=[Qo 42 (.build [(.int .u32 0),(.int .u32 0),(.int .u32 0),(.int .u32 0),(.int .u32 0),(.int .u32 0),(.int .u32 0),(.int .u32 0)] [(0,1,(.const (Go.Value.int Go.IntKind.u32 1779033703))),(1,1,(.const (Go.Value.int Go.IntKind.u32 3144134277))),(2,1,(.const (Go.Value.int Go.IntKind.u32 1013904242))),(3,1,(.const (Go.Value.int Go.IntKind.u32 2773480762))),(4,1,(.const (Go.Value.int Go.IntKind.u32 1359893119))),(5,1,(.const (Go.Value.int Go.IntKind.u32 2600822924))),(6,1,(.const (Go.Value.int Go.IntKind.u32 528734635))),(7,1,(.const (Go.Value.int Go.IntKind.u32 1541459225)))]),
 Qo 7 (.box ce 8 (.const (.agg #[(.int .u32 0),(.int .u32 0),(.int .u32 0),(.int .u32 0),(.int .u32 0),(.int .u32 0),(.int .u32 0),(.int .u32 0)]))),
 ⟨⟨none,.store 8 (t 7) (t 42),none⟩,0⟩]
def zcap:List ap:=[Qo 8 (.mov (ci 0))]
def zb93:List ap:=[Qa 43 8,
 Qa 44 6,
 Qo 45 (.lenS (t 44)),
 Qo 46 (.bin .lss (t 43) (t 45))]
def zb95:List ap:=[Qo 49 (.loadN 8 (t 7)),
 Qa 50 6,
 Qa 51 8,
 Qa 52 8,
 Qo 53 (.bin .add (t 52) (ci 64)),
 Qo 54 (.sliceStr (t 50) (some (t 51)) (some (t 53))),
 Qo 55 (.call qh [(t 49),(t 54)]),
 ⟨⟨none,.store 8 (t 7) (t 55),none⟩,0⟩]
def zb94:List ap:=[Qa 47 8,
 Qo 48 (.bin .add (t 47) (ci 64)),
 Qa 8 48]
def zcd1:TC:=(.seq (.seq (.ops zb93) (.clean [6,7,8,46] (.cond (t 46) .skip (.exit 4)))) (.clean [6,7,8] (.seq (.block 5 [6,7,8] (.draw (pl zb95))) (.clean [6,7,8] (.ops zb94)))))
def zb96:List ap:=[Qm 1 9 (.mov (.const (Go.Value.slice none 0 0)))]
def zb97:List ap:=[Qo 10 (.mov (ci 0))]
def zb98:List ap:=[Qa 56 10,
 Qo 57 (.bin .lss (t 56) (ci 8))]
def zcaa:List ap:=[Qa 60 9,
 Qa 61 10,
 Qo 62 (.indexPtr 8 1 (t 7) (t 61)),
 Qb 63 62,
 Qo 64 (.bin .shr (t 63) (.const (Go.Value.int Go.IntKind.u64 24))),
 Qo 65 (.conv .u8 (t 64)),
 Qa 66 10,
 Qo 67 (.indexPtr 8 1 (t 7) (t 66)),
 Qb 68 67,
 Qo 69 (.bin .shr (t 68) (.const (Go.Value.int Go.IntKind.u64 16))),
 Qo 70 (.conv .u8 (t 69)),
 Qa 71 10,
 Qo 72 (.indexPtr 8 1 (t 7) (t 71)),
 Qb 73 72,
 Qo 74 (.bin .shr (t 73) (.const (Go.Value.int Go.IntKind.u64 8))),
 Qo 75 (.conv .u8 (t 74)),
 Qa 76 10,
 Qo 77 (.indexPtr 8 1 (t 7) (t 76)),
 Qb 78 77,
 Qo 79 (.conv .u8 (t 78)),
 Qo 80 (.buildSl a9 1 4 [(.int .u8 0),(.int .u8 0),(.int .u8 0),(.int .u8 0)] [(0,1,(t 65)),(1,1,(t 70)),(2,1,(t 75)),(3,1,(t 79))]),
 Qo 81 (.append a9 1 1 (t 60) (t 80)),
 Qa 9 81]
def zb99:List ap:=[Qa 58 10,
 Qo 59 (.bin .add (t 58) (ci 1)),
 Qa 10 59]
def zcd2:TC:=(.seq (.seq (.ops zb98) (.clean [7,9,10,57] (.cond (t 57) .skip (.exit 6)))) (.clean [7,9,10] (.seq (.block 7 [7,9,10] (.draw (pl zcaa))) (.clean [7,9,10] (.ops zb99)))))
def zcab:List ap:=[Qa 82 9,
 Qo 83 (.toStr (t 82)),
 Qa 2 83]
def zbys:TC:=(.seq (.ops zb9m) (.clean [0] (.seq (.ops zb9n) (.clean [0,3] (.seq (.block 0 [0,3] (.clean [0,3] (.loop [0,3] zcdz))) (.clean [0,3] (.seq (.ops zb9q) (.clean [3,4] (.seq (.seq (.ops zb9r) (.block 2 [3] (.clean [3,4,5] (.loop [3,4,5] zcd0)))) (.clean [3] (.seq (.ops zb9j) (.clean [6] (.seq (.ops zcao) (.clean [6,7] (.seq (.seq (.ops zcap) (.block 4 [7] (.clean [6,7,8] (.loop [6,7,8] zcd1)))) (.clean [7] (.seq (.ops zb96) (.clean [7,9] (.seq (.seq (.ops zb97) (.block 6 [9] (.clean [7,9,10] (.loop [7,9,10] zcd2)))) (.clean [9] (.seq (.ops zcab) (.ret [2]))))))))))))))))))))))
def zcas:TFn:=⟨84,zbys,[.tmp 2],false⟩
theorem za97:ud Try.prog [(14,⟨[0,1,2,3,4,5,6,7],[0,0,0,0,8,30,63,127],[],[],.nil⟩),(19,⟨[0,1,2,3,4,5,6,7,8,9,10,11,12,13,14,15,16,17,18,19,20,21,22],[0,0,2,6,14,30,0,64,192,448,960,0,2048,6144,14336,30720,0,65536,196608,458752,1048574,2097151,4194303],[],[],.nil⟩)] vo = some (84,zbys.erase,[.tmp 2]):=by kernel_rfl
def zca7:List ap:=[Qo 2 (.box ce 8 (t 0)),
 Qo 4 (.box ce 8 (.const (.agg #[(.int .u32 0),(.int .u32 0),(.int .u32 0),(.int .u32 0),(.int .u32 0),(.int .u32 0),(.int .u32 0),(.int .u32 0)])))]
def zca8:List ap:=[Qo 5 (.box bd 64 (.const (.agg #[(.int .u32 0),(.int .u32 0),(.int .u32 0),(.int .u32 0),(.int .u32 0),(.int .u32 0),(.int .u32 0),(.int .u32 0),(.int .u32 0),(.int .u32 0),(.int .u32 0),(.int .u32 0),(.int .u32 0),(.int .u32 0),(.int .u32 0),(.int .u32 0),(.int .u32 0),(.int .u32 0),(.int .u32 0),(.int .u32 0),(.int .u32 0),(.int .u32 0),(.int .u32 0),(.int .u32 0),(.int .u32 0),(.int .u32 0),(.int .u32 0),(.int .u32 0),(.int .u32 0),(.int .u32 0),(.int .u32 0),(.int .u32 0),(.int .u32 0),(.int .u32 0),(.int .u32 0),(.int .u32 0),(.int .u32 0),(.int .u32 0),(.int .u32 0),(.int .u32 0),(.int .u32 0),(.int .u32 0),(.int .u32 0),(.int .u32 0),(.int .u32 0),(.int .u32 0),(.int .u32 0),(.int .u32 0),(.int .u32 0),(.int .u32 0),(.int .u32 0),(.int .u32 0),(.int .u32 0),(.int .u32 0),(.int .u32 0),(.int .u32 0),(.int .u32 0),(.int .u32 0),(.int .u32 0),(.int .u32 0),(.int .u32 0),(.int .u32 0),(.int .u32 0),(.int .u32 0)])))]
def zca9:List ap:=[Qo 18 (.call qg []),
 Qo 6 (.box bd 64 (.const (.agg #[(.int .u32 0),(.int .u32 0),(.int .u32 0),(.int .u32 0),(.int .u32 0),(.int .u32 0),(.int .u32 0),(.int .u32 0),(.int .u32 0),(.int .u32 0),(.int .u32 0),(.int .u32 0),(.int .u32 0),(.int .u32 0),(.int .u32 0),(.int .u32 0),(.int .u32 0),(.int .u32 0),(.int .u32 0),(.int .u32 0),(.int .u32 0),(.int .u32 0),(.int .u32 0),(.int .u32 0),(.int .u32 0),(.int .u32 0),(.int .u32 0),(.int .u32 0),(.int .u32 0),(.int .u32 0),(.int .u32 0),(.int .u32 0),(.int .u32 0),(.int .u32 0),(.int .u32 0),(.int .u32 0),(.int .u32 0),(.int .u32 0),(.int .u32 0),(.int .u32 0),(.int .u32 0),(.int .u32 0),(.int .u32 0),(.int .u32 0),(.int .u32 0),(.int .u32 0),(.int .u32 0),(.int .u32 0),(.int .u32 0),(.int .u32 0),(.int .u32 0),(.int .u32 0),(.int .u32 0),(.int .u32 0),(.int .u32 0),(.int .u32 0),(.int .u32 0),(.int .u32 0),(.int .u32 0),(.int .u32 0),(.int .u32 0),(.int .u32 0),(.int .u32 0),(.int .u32 0)]))),
 ⟨⟨none,.store 64 (t 6) (t 18),none⟩,0⟩]
def zcba:List ap:=[Qo 7 (.mov (ci 0))]
def zcbb:List ap:=[Qa 19 7,
 Qo 20 (.bin .lss (t 19) (ci 16))]
def zcbd:List ap:=[Qa 23 7,
 Qa 24 1,
 Qa 25 7,
 Qo 26 (.bin .mul (ci 4) (t 25)),
 Qo 27 (.indexStr (t 24) (t 26)),
 Qo 28 (.conv .u32 (t 27)),
 Qo 29 (.bin .shl (t 28) (.const (Go.Value.int Go.IntKind.u64 24))),
 Qa 30 1,
 Qa 31 7,
 Qo 32 (.bin .mul (ci 4) (t 31)),
 Qo 33 (.bin .add (t 32) (ci 1)),
 Qo 34 (.indexStr (t 30) (t 33)),
 Qo 35 (.conv .u32 (t 34)),
 Qo 36 (.bin .shl (t 35) (.const (Go.Value.int Go.IntKind.u64 16))),
 Qo 37 (.bin .or (t 29) (t 36)),
 Qa 38 1,
 Qa 39 7,
 Qo 40 (.bin .mul (ci 4) (t 39)),
 Qo 41 (.bin .add (t 40) (ci 2)),
 Qo 42 (.indexStr (t 38) (t 41)),
 Qo 43 (.conv .u32 (t 42)),
 Qo 44 (.bin .shl (t 43) (.const (Go.Value.int Go.IntKind.u64 8))),
 Qo 45 (.bin .or (t 37) (t 44)),
 Qa 46 1,
 Qa 47 7,
 Qo 48 (.bin .mul (ci 4) (t 47)),
 Qo 49 (.bin .add (t 48) (ci 3)),
 Qo 50 (.indexStr (t 46) (t 49)),
 Qo 51 (.conv .u32 (t 50)),
 Qo 52 (.bin .or (t 45) (t 51)),
 Qo 53 (.indexPtr 64 1 (t 5) (t 23)),
 ⟨⟨none,.store 1 (t 53) (t 52),none⟩,0⟩]
def zcbc:List ap:=[Qa 21 7,
 Qo 22 (.bin .add (t 21) (ci 1)),
 Qa 7 22]
def t7:TC:=(.seq (.seq (.ops zcbb) (.clean [1,2,4,5,6,7,20] (.cond (t 20) .skip (.exit 0)))) (.clean [1,2,4,5,6,7] (.seq (.block 1 [1,2,4,5,6,7] (.draw (pl zcbd))) (.clean [1,2,4,5,6,7] (.ops zcbc)))))
def zcbe:List ap:=[Qo 8 (.mov (ci 16))]
def zcbf:List ap:=[Qa 54 8,
 Qo 55 (.bin .lss (t 54) (ci 64))]
def zcc1:List ap:=[Qa 58 8,
 Qo 59 (.bin .sub (t 58) (ci 15)),
 Qo 60 (.indexPtr 64 1 (t 5) (t 59)),
 Qb 61 60,
 Qa 63 8,
 Qo 64 (.bin .sub (t 63) (ci 15)),
 Qo 65 (.indexPtr 64 1 (t 5) (t 64)),
 Qb 66 65,
 Qa 69 8,
 Qo 70 (.bin .sub (t 69) (ci 15)),
 Qo 71 (.indexPtr 64 1 (t 5) (t 70)),
 Qb 72 71,
 Qo 73 (.bin .shr (t 72) (.const (Go.Value.int Go.IntKind.u64 3))),
 Qo 62 (.call fp [(t 61),(.const (Go.Value.int Go.IntKind.u64 7))]),
 Qo 67 (.call fp [(t 66),(.const (Go.Value.int Go.IntKind.u64 18))]),
 Qo 68 (.bin .xor (t 62) (t 67)),
 Qo 74 (.bin .xor (t 68) (t 73)),
 Qa 9 74]
def zcc2:List ap:=[Qa 75 8,
 Qo 76 (.bin .sub (t 75) (ci 2)),
 Qo 77 (.indexPtr 64 1 (t 5) (t 76)),
 Qb 78 77,
 Qa 80 8,
 Qo 81 (.bin .sub (t 80) (ci 2)),
 Qo 82 (.indexPtr 64 1 (t 5) (t 81)),
 Qb 83 82,
 Qa 86 8,
 Qo 87 (.bin .sub (t 86) (ci 2)),
 Qo 88 (.indexPtr 64 1 (t 5) (t 87)),
 Qb 89 88,
 Qo 90 (.bin .shr (t 89) (.const (Go.Value.int Go.IntKind.u64 10))),
 Qo 79 (.call fp [(t 78),(.const (Go.Value.int Go.IntKind.u64 17))]),
 Qo 84 (.call fp [(t 83),(.const (Go.Value.int Go.IntKind.u64 19))]),
 Qo 85 (.bin .xor (t 79) (t 84)),
 Qo 91 (.bin .xor (t 85) (t 90)),
 Qa 10 91]
def zcc3:List ap:=[Qa 92 8,
 Qa 93 8,
 Qo 94 (.bin .sub (t 93) (ci 16)),
 Qo 95 (.indexPtr 64 1 (t 5) (t 94)),
 Qb 96 95,
 Qa 97 9,
 Qo 98 (.bin .add (t 96) (t 97)),
 Qa 99 8,
 Qo 100 (.bin .sub (t 99) (ci 7)),
 Qo 101 (.indexPtr 64 1 (t 5) (t 100)),
 Qb 102 101,
 Qo 103 (.bin .add (t 98) (t 102)),
 Qa 104 10,
 Qo 105 (.bin .add (t 103) (t 104)),
 Qo 106 (.indexPtr 64 1 (t 5) (t 92)),
 ⟨⟨none,.store 1 (t 106) (t 105),none⟩,0⟩]
def zcbg:List ap:=[Qa 56 8,
 Qo 57 (.bin .add (t 56) (ci 1)),
 Qa 8 57]
def t6:TC:=(.seq (.seq (.ops zcbf) (.clean [2,4,5,6,8,55] (.cond (t 55) .skip (.exit 2)))) (.clean [2,4,5,6,8] (.seq (.block 3 [2,4,5,6,8] (.seq (.draw (pl zcc1)) (.clean [2,4,5,6,8,9] (.seq (.draw (pl zcc2)) (.clean [2,4,5,6,8,9,10] (.draw (pl zcc3))))))) (.clean [2,4,5,6,8] (.ops zcbg)))))
def zcc4:List ap:=[Qo 107 (.loadN 8 (t 2)),
 Qo 11 (.box ce 8 (.const (.agg #[(.int .u32 0),(.int .u32 0),(.int .u32 0),(.int .u32 0),(.int .u32 0),(.int .u32 0),(.int .u32 0),(.int .u32 0)]))),
 ⟨⟨none,.store 8 (t 11) (t 107),none⟩,0⟩]
def zcce:List ap:=[Qo 12 (.mov (ci 0))]
def zccf:List ap:=[Qa 108 12,
 Qo 109 (.bin .lss (t 108) (ci 64))]
def zcch:List ap:=[Qo 112 (.indexPtr 8 1 (t 11) (ci 4)),
 Qb 113 112,
 Qo 115 (.indexPtr 8 1 (t 11) (ci 4)),
 Qb 116 115,
 Qo 119 (.indexPtr 8 1 (t 11) (ci 4)),
 Qb 120 119,
 Qo 114 (.call fp [(t 113),(.const (Go.Value.int Go.IntKind.u64 6))]),
 Qo 117 (.call fp [(t 116),(.const (Go.Value.int Go.IntKind.u64 11))]),
 Qo 118 (.bin .xor (t 114) (t 117)),
 Qo 121 (.call fp [(t 120),(.const (Go.Value.int Go.IntKind.u64 25))]),
 Qo 122 (.bin .xor (t 118) (t 121)),
 Qa 13 122]
def zcci:List ap:=[Qo 123 (.indexPtr 8 1 (t 11) (ci 7)),
 Qb 124 123,
 Qa 125 13,
 Qo 126 (.bin .add (t 124) (t 125)),
 Qo 127 (.indexPtr 8 1 (t 11) (ci 4)),
 Qb 128 127,
 Qo 129 (.indexPtr 8 1 (t 11) (ci 5)),
 Qb 130 129,
 Qo 131 (.bin .and (t 128) (t 130)),
 Qo 132 (.indexPtr 8 1 (t 11) (ci 4)),
 Qb 133 132,
 Qo 134 (.un .xor (t 133)),
 Qo 135 (.indexPtr 8 1 (t 11) (ci 6)),
 Qb 136 135,
 Qo 137 (.bin .and (t 134) (t 136)),
 Qo 138 (.bin .xor (t 131) (t 137)),
 Qo 139 (.bin .add (t 126) (t 138)),
 Qa 140 12,
 Qo 141 (.indexPtr 64 1 (t 6) (t 140)),
 Qb 142 141,
 Qo 143 (.bin .add (t 139) (t 142)),
 Qa 144 12,
 Qo 145 (.indexPtr 64 1 (t 5) (t 144)),
 Qb 146 145,
 Qo 147 (.bin .add (t 143) (t 146)),
 Qa 14 147]
def zccj:List ap:=[Qo 148 (.indexPtr 8 1 (t 11) (ci 0)),
 Qb 149 148,
 Qo 151 (.indexPtr 8 1 (t 11) (ci 0)),
 Qb 152 151,
 Qo 155 (.indexPtr 8 1 (t 11) (ci 0)),
 Qb 156 155,
 Qo 150 (.call fp [(t 149),(.const (Go.Value.int Go.IntKind.u64 2))]),
 Qo 153 (.call fp [(t 152),(.const (Go.Value.int Go.IntKind.u64 13))]),
 Qo 154 (.bin .xor (t 150) (t 153)),
 Qo 157 (.call fp [(t 156),(.const (Go.Value.int Go.IntKind.u64 22))]),
 Qo 158 (.bin .xor (t 154) (t 157)),
 Qa 15 158]
def zcck:List ap:=[Qa 159 15,
 Qo 160 (.indexPtr 8 1 (t 11) (ci 0)),
 Qb 161 160,
 Qo 162 (.indexPtr 8 1 (t 11) (ci 1)),
 Qb 163 162,
 Qo 164 (.bin .and (t 161) (t 163)),
 Qo 165 (.indexPtr 8 1 (t 11) (ci 0)),
 Qb 166 165,
 Qo 167 (.indexPtr 8 1 (t 11) (ci 2)),
 Qb 168 167,
 Qo 169 (.bin .and (t 166) (t 168)),
 Qo 170 (.bin .xor (t 164) (t 169)),
 Qo 171 (.indexPtr 8 1 (t 11) (ci 1)),
 Qb 172 171,
 Qo 173 (.indexPtr 8 1 (t 11) (ci 2)),
 Qb 174 173,
 Qo 175 (.bin .and (t 172) (t 174)),
 Qo 176 (.bin .xor (t 170) (t 175)),
 Qo 177 (.bin .add (t 159) (t 176)),
 Qa 16 177]
def zccl:List ap:=[Qa 178 14,
 Qa 179 16,
 Qo 180 (.bin .add (t 178) (t 179)),
 Qo 181 (.indexPtr 8 1 (t 11) (ci 0)),
 Qb 182 181,
 Qo 183 (.indexPtr 8 1 (t 11) (ci 1)),
 Qb 184 183,
 Qo 185 (.indexPtr 8 1 (t 11) (ci 2)),
 Qb 186 185,
 Qo 187 (.indexPtr 8 1 (t 11) (ci 3)),
 Qb 188 187,
 Qa 189 14,
 Qo 190 (.bin .add (t 188) (t 189)),
 Qo 191 (.indexPtr 8 1 (t 11) (ci 4)),
 Qb 192 191,
 Qo 193 (.indexPtr 8 1 (t 11) (ci 5)),
 Qb 194 193,
 Qo 195 (.indexPtr 8 1 (t 11) (ci 6)),
 Qb 196 195,
 Qo 197 (.build [(.int .u32 0),(.int .u32 0),(.int .u32 0),(.int .u32 0),(.int .u32 0),(.int .u32 0),(.int .u32 0),(.int .u32 0)] [(0,1,(t 180)),(1,1,(t 182)),(2,1,(t 184)),(3,1,(t 186)),(4,1,(t 190)),(5,1,(t 192)),(6,1,(t 194)),(7,1,(t 196))]),
 ⟨⟨none,.store 8 (t 11) (t 197),none⟩,0⟩]
def zccg:List ap:=[Qa 110 12,
 Qo 111 (.bin .add (t 110) (ci 1)),
 Qa 12 111]
def t5:TC:=(.seq (.seq (.ops zccf) (.clean [2,4,5,6,11,12,109] (.cond (t 109) .skip (.exit 4)))) (.clean [2,4,5,6,11,12] (.seq (.block 5 [2,4,5,6,11,12] (.seq (.draw (pl zcch)) (.clean [2,4,5,6,11,12,13] (.seq (.draw (pl zcci)) (.clean [2,4,5,6,11,12,14] (.seq (.draw (pl zccj)) (.clean [2,4,5,6,11,12,14,15] (.seq (.ops zcck) (.clean [2,4,5,6,11,12,14,16] (.ops zccl)))))))))) (.clean [2,4,5,6,11,12] (.ops zccg)))))
def zccm:List ap:=[Qo 17 (.mov (ci 0))]
def zccn:List ap:=[Qa 198 17,
 Qo 199 (.bin .lss (t 198) (ci 8))]
def zccp:List ap:=[Qa 202 17,
 Qa 203 17,
 Qo 204 (.indexPtr 8 1 (t 2) (t 203)),
 Qb 205 204,
 Qa 206 17,
 Qo 207 (.indexPtr 8 1 (t 11) (t 206)),
 Qb 208 207,
 Qo 209 (.bin .add (t 205) (t 208)),
 Qo 210 (.indexPtr 8 1 (t 2) (t 202)),
 ⟨⟨none,.store 1 (t 210) (t 209),none⟩,0⟩]
def zcco:List ap:=[Qa 200 17,
 Qo 201 (.bin .add (t 200) (ci 1)),
 Qa 17 201]
def t4:TC:=(.seq (.seq (.ops zccn) (.clean [2,4,11,17,199] (.cond (t 199) .skip (.exit 6)))) (.clean [2,4,11,17] (.seq (.block 7 [2,4,11,17] (.draw (pl zccp))) (.clean [2,4,11,17] (.ops zcco)))))
def zccq:List ap:=[Qo 211 (.loadN 8 (t 2)),
 ⟨⟨none,.store 8 (t 4) (t 211),none⟩,0⟩]
def zb0l:TC:=(.seq (.ops zca7) (.clean [1,2,4] (.seq (.ops zca8) (.clean [1,2,4,5] (.seq (.ops zca9) (.clean [1,2,4,5,6] (.seq (.seq (.ops zcba) (.block 0 [2,4,5,6] (.clean [1,2,4,5,6,7] (.loop [1,2,4,5,6,7] t7)))) (.clean [2,4,5,6] (.seq (.seq (.ops zcbe) (.block 2 [2,4,5,6] (.clean [2,4,5,6,8] (.loop [2,4,5,6,8] t6)))) (.clean [2,4,5,6] (.seq (.ops zcc4) (.clean [2,4,5,6,11] (.seq (.seq (.ops zcce) (.block 4 [2,4,11] (.clean [2,4,5,6,11,12] (.loop [2,4,5,6,11,12] t5)))) (.clean [2,4,11] (.seq (.seq (.ops zccm) (.block 6 [2,4] (.clean [2,4,11,17] (.loop [2,4,11,17] t4)))) (.clean [2,4] (.seq (.ops zccq) (.ret [4]))))))))))))))))))
def zcdd:TFn:=⟨212,zb0l,[.cellN 4 8],false⟩
theorem zcer:ud Try.prog [(6,⟨[0,1,2,3,4,5,6,7,8,9,10,11,12,13,14,15,16,17,18,19,20,21,22,23,24,25,26,27,28,29,30,31],[0,0,0,4,14,30,62,0,0,256,768,1920,3968,8064,16382,0,0,65536,196608,491520,1015808,2064384,4194302,0,0,16777216,50331648,125829120,260046848,536870910,1073741823,2147483647],[],[],.nil⟩),(10,⟨[0,1,2,3,5,6,7,8,11,12,13,14,15,4,9,10,16,17],[0,1,3,7,15,0,32,96,224,511,1023,0,2048,6144,14336,30720,65535,131071],[],[],.nil⟩),(11,⟨[0,1,2,3,5,6,7,8,11,12,13,14,15,4,9,10,16,17],[0,1,3,7,15,0,32,96,224,511,1023,0,2048,6144,14336,30720,65535,131071],[],[],.nil⟩),(12,⟨[0,1,2,3,4,5,6,7,8,9,10,11,12,13,14,15],[0,0,2,6,14,0,62,0,128,384,896,2046,0,8190,16383,32767],[],[],.nil⟩),(17,⟨[0,1,3,4,7,8,2,5,6,9,10,11],[0,1,3,0,8,31,63,0,128,447,1023,2047],[],[],.nil⟩),(18,⟨[0,1,2,3,4,5,6,7,8,9,10,11,12,13,14,15,16,17,18,19,20,21,22,23,24,25],[0,1,0,7,0,16,0,64,240,0,512,1536,0,4096,15872,32752,65535,0,131072,393216,1048575,0,2097152,6291456,16777215,33554431],[],[],.nil⟩),(19,⟨[0,1,3,4,7,8,2,5,6,9,10,11],[0,1,3,0,8,31,63,0,128,447,1023,2047],[],[],.nil⟩),(25,⟨[0,1,2,3,4,5,6,7,8,9],[0,0,2,6,0,16,48,126,255,511],[],[],.nil⟩)] qh = some (212,zb0l.erase,[.cellN 4 8]):=by kernel_rfl
def zcbh:List ap:=[Qo 0 (.box bd 64 (.const (.agg #[(.int .u32 0),(.int .u32 0),(.int .u32 0),(.int .u32 0),(.int .u32 0),(.int .u32 0),(.int .u32 0),(.int .u32 0),(.int .u32 0),(.int .u32 0),(.int .u32 0),(.int .u32 0),(.int .u32 0),(.int .u32 0),(.int .u32 0),(.int .u32 0),(.int .u32 0),(.int .u32 0),(.int .u32 0),(.int .u32 0),(.int .u32 0),(.int .u32 0),(.int .u32 0),(.int .u32 0),(.int .u32 0),(.int .u32 0),(.int .u32 0),(.int .u32 0),(.int .u32 0),(.int .u32 0),(.int .u32 0),(.int .u32 0),(.int .u32 0),(.int .u32 0),(.int .u32 0),(.int .u32 0),(.int .u32 0),(.int .u32 0),(.int .u32 0),(.int .u32 0),(.int .u32 0),(.int .u32 0),(.int .u32 0),(.int .u32 0),(.int .u32 0),(.int .u32 0),(.int .u32 0),(.int .u32 0),(.int .u32 0),(.int .u32 0),(.int .u32 0),(.int .u32 0),(.int .u32 0),(.int .u32 0),(.int .u32 0),(.int .u32 0),(.int .u32 0),(.int .u32 0),(.int .u32 0),(.int .u32 0),(.int .u32 0),(.int .u32 0),(.int .u32 0),(.int .u32 0)])))]
def zcbi:List ap:=[Qo 1 (.build [(.int .u32 0),(.int .u32 0),(.int .u32 0),(.int .u32 0),(.int .u32 0),(.int .u32 0),(.int .u32 0),(.int .u32 0),(.int .u32 0),(.int .u32 0),(.int .u32 0),(.int .u32 0),(.int .u32 0),(.int .u32 0),(.int .u32 0),(.int .u32 0),(.int .u32 0),(.int .u32 0),(.int .u32 0),(.int .u32 0),(.int .u32 0),(.int .u32 0),(.int .u32 0),(.int .u32 0),(.int .u32 0),(.int .u32 0),(.int .u32 0),(.int .u32 0),(.int .u32 0),(.int .u32 0),(.int .u32 0),(.int .u32 0),(.int .u32 0),(.int .u32 0),(.int .u32 0),(.int .u32 0),(.int .u32 0),(.int .u32 0),(.int .u32 0),(.int .u32 0),(.int .u32 0),(.int .u32 0),(.int .u32 0),(.int .u32 0),(.int .u32 0),(.int .u32 0),(.int .u32 0),(.int .u32 0),(.int .u32 0),(.int .u32 0),(.int .u32 0),(.int .u32 0),(.int .u32 0),(.int .u32 0),(.int .u32 0),(.int .u32 0),(.int .u32 0),(.int .u32 0),(.int .u32 0),(.int .u32 0),(.int .u32 0),(.int .u32 0),(.int .u32 0),(.int .u32 0)] [(0,1,(.const (Go.Value.int Go.IntKind.u32 1116352408))),(1,1,(.const (Go.Value.int Go.IntKind.u32 1899447441))),(2,1,(.const (Go.Value.int Go.IntKind.u32 3049323471))),(3,1,(.const (Go.Value.int Go.IntKind.u32 3921009573))),(4,1,(.const (Go.Value.int Go.IntKind.u32 961987163))),(5,1,(.const (Go.Value.int Go.IntKind.u32 1508970993))),(6,1,(.const (Go.Value.int Go.IntKind.u32 2453635748))),(7,1,(.const (Go.Value.int Go.IntKind.u32 2870763221))),(8,1,(.const (Go.Value.int Go.IntKind.u32 3624381080))),(9,1,(.const (Go.Value.int Go.IntKind.u32 310598401))),(10,1,(.const (Go.Value.int Go.IntKind.u32 607225278))),(11,1,(.const (Go.Value.int Go.IntKind.u32 1426881987))),(12,1,(.const (Go.Value.int Go.IntKind.u32 1925078388))),(13,1,(.const (Go.Value.int Go.IntKind.u32 2162078206))),(14,1,(.const (Go.Value.int Go.IntKind.u32 2614888103))),(15,1,(.const (Go.Value.int Go.IntKind.u32 3248222580))),(16,1,(.const (Go.Value.int Go.IntKind.u32 3835390401))),(17,1,(.const (Go.Value.int Go.IntKind.u32 4022224774))),(18,1,(.const (Go.Value.int Go.IntKind.u32 264347078))),(19,1,(.const (Go.Value.int Go.IntKind.u32 604807628))),(20,1,(.const (Go.Value.int Go.IntKind.u32 770255983))),(21,1,(.const (Go.Value.int Go.IntKind.u32 1249150122))),(22,1,(.const (Go.Value.int Go.IntKind.u32 1555081692))),(23,1,(.const (Go.Value.int Go.IntKind.u32 1996064986))),(24,1,(.const (Go.Value.int Go.IntKind.u32 2554220882))),(25,1,(.const (Go.Value.int Go.IntKind.u32 2821834349))),(26,1,(.const (Go.Value.int Go.IntKind.u32 2952996808))),(27,1,(.const (Go.Value.int Go.IntKind.u32 3210313671))),(28,1,(.const (Go.Value.int Go.IntKind.u32 3336571891))),(29,1,(.const (Go.Value.int Go.IntKind.u32 3584528711))),(30,1,(.const (Go.Value.int Go.IntKind.u32 113926993))),(31,1,(.const (Go.Value.int Go.IntKind.u32 338241895))),(32,1,(.const (Go.Value.int Go.IntKind.u32 666307205))),(33,1,(.const (Go.Value.int Go.IntKind.u32 773529912))),(34,1,(.const (Go.Value.int Go.IntKind.u32 1294757372))),(35,1,(.const (Go.Value.int Go.IntKind.u32 1396182291))),(36,1,(.const (Go.Value.int Go.IntKind.u32 1695183700))),(37,1,(.const (Go.Value.int Go.IntKind.u32 1986661051))),(38,1,(.const (Go.Value.int Go.IntKind.u32 2177026350))),(39,1,(.const (Go.Value.int Go.IntKind.u32 2456956037))),(40,1,(.const (Go.Value.int Go.IntKind.u32 2730485921))),(41,1,(.const (Go.Value.int Go.IntKind.u32 2820302411))),(42,1,(.const (Go.Value.int Go.IntKind.u32 3259730800))),(43,1,(.const (Go.Value.int Go.IntKind.u32 3345764771))),(44,1,(.const (Go.Value.int Go.IntKind.u32 3516065817))),(45,1,(.const (Go.Value.int Go.IntKind.u32 3600352804))),(46,1,(.const (Go.Value.int Go.IntKind.u32 4094571909))),(47,1,(.const (Go.Value.int Go.IntKind.u32 275423344))),(48,1,(.const (Go.Value.int Go.IntKind.u32 430227734))),(49,1,(.const (Go.Value.int Go.IntKind.u32 506948616))),(50,1,(.const (Go.Value.int Go.IntKind.u32 659060556))),(51,1,(.const (Go.Value.int Go.IntKind.u32 883997877))),(52,1,(.const (Go.Value.int Go.IntKind.u32 958139571))),(53,1,(.const (Go.Value.int Go.IntKind.u32 1322822218))),(54,1,(.const (Go.Value.int Go.IntKind.u32 1537002063))),(55,1,(.const (Go.Value.int Go.IntKind.u32 1747873779))),(56,1,(.const (Go.Value.int Go.IntKind.u32 1955562222))),(57,1,(.const (Go.Value.int Go.IntKind.u32 2024104815))),(58,1,(.const (Go.Value.int Go.IntKind.u32 2227730452))),(59,1,(.const (Go.Value.int Go.IntKind.u32 2361852424))),(60,1,(.const (Go.Value.int Go.IntKind.u32 2428436474))),(61,1,(.const (Go.Value.int Go.IntKind.u32 2756734187))),(62,1,(.const (Go.Value.int Go.IntKind.u32 3204031479))),(63,1,(.const (Go.Value.int Go.IntKind.u32 3329325298)))]),
 ⟨⟨none,.store 64 (t 0) (t 1),none⟩,0⟩]
def zb0m:TC:=(.seq (.ops zcbh) (.clean [0] (.seq (.ops zcbi) (.ret [0]))))
def zcde:TFn:=⟨2,zb0m,[.cellN 0 64],false⟩
theorem zce9:ud Try.prog [] qg = some (2,zb0m.erase,[.cellN 0 64]):=by kernel_rfl
def zcac:List ap:=[Qo 4 (.mov (.const (Go.Value.int Go.IntKind.u32 0)))]
def zcad:List ap:=[Qa 5 0,
 Qa 6 1,
 Qo 7 (.bin .shr (t 5) (t 6)),
 Qa 8 0,
 Qa 9 1,
 Qo 10 (.bin .sub (.const (Go.Value.int Go.IntKind.u64 32)) (t 9)),
 Qo 11 (.bin .shl (t 8) (t 10)),
 Qo 12 (.bin .or (t 7) (t 11)),
 Qa 4 12]
def zbzt:TC:=(.seq (.ops zcac) (.clean [0,1] (.seq (.ops zcad) (.ret [4]))))
def zcb3:TFn:=⟨13,zbzt,[.tmp 4],false⟩
theorem nj:ud Try.prog [] fp = some (13,zbzt.erase,[.tmp 4]):=by kernel_rfl
def zcag:List ap:=[Qo 2 (.mov (.const (Go.Value.slice none 0 0))),
 Qo 3 (.mov (ci 0))]
def zcah:List ap:=[Qm 1 4 (.mov (.const (Go.Value.slice none 0 0)))]
def zcai:List ap:=[Qo 5 (.mov (ci 0))]
def zcaj:List ap:=[Qa 8 0,
 Qa 9 5,
 Qo 10 (.sliceStr (t 8) (some (t 9)) none),
 Qo 11 (.build [(.string ⟨#[]⟩),(.bool false)] [(0,1,(t 10))]),
 Qo 12 (.box kp 2 (t 11)),
 Qa 6 12]
def zcak:List ap:=[Qa 13 6,
 Qo 14 (.call ov [(t 13),(ci 1048576)]),
 Qa 7 14]
def zcal:List ap:=[Qa 15 6,
 Qo 16 (.nilchk (t 15)),
 Qo 17 (.fieldAddr 1 (t 16)),
 Qb 18 17,
 Qa 19 18,
 Qf 19 20 (.mov (t 6)),
 Qf 19 21 (.nilchk (t 20)),
 Qf 19 22 (.fieldAddr 0 (t 21)),
 Qf 19 23 (.load1 (t 22)),
 Qf 19 24 (.lenS (t 23)),
 Qf 19 25 (.bin .lss (t 24) (ci 8)),
 Qo 26 (.pick (t 19) QT (t 25)),
 Qa 27 26,
 Qf 27 28 (.mov (t 6)),
 Qf 27 29 (.nilchk (t 28)),
 Qf 27 30 (.fieldAddr 0 (t 29)),
 Qf 27 31 (.load1 (t 30)),
 Qf 27 32 (.sliceStr (t 31) none (some (ci 8))),
 Qf 27 33 (.mov (t 7)),
 Qf 27 34 (.call vo [(t 33)]),
 Qf 27 35 (.sliceStr (t 34) none (some (ci 8))),
 Qf 27 36 (.bin .neq (t 32) (t 35)),
 Qo 37 (.pick (t 27) QT (t 36))]
def zcam:List ap:=[Qa 38 4,
 Qa 39 5,
 Qa 2 38,
 Qa 3 39]
def zcan:List ap:=[Qa 40 4,
 Qa 41 7,
 Qo 42 (.buildSl zbob 1 1 [(.string ⟨#[]⟩)] [(0,1,(t 41))]),
 Qo 43 (.append zbob 1 16 (t 40) (t 42)),
 Qa 44 5,
 Qa 45 7,
 Qo 46 (.lenS (t 45)),
 Qo 47 (.bin .add (t 44) (t 46)),
 Qo 48 (.bin .add (t 47) (ci 16)),
 Qa 4 43,
 Qa 5 48]
def oh:TC:=(.block 1 [0,4,5] (.seq (.ops zcaj) (.clean [0,4,5,6] (.seq (.ops zcak) (.clean [0,4,5,6,7] (.seq (.seq (.draw (pl zcal)) (.clean [0,4,5,7,37] (.cond (t 37) (.seq (.ops zcam) (.ret [2,3])) .skip))) (.clean [0,4,5,7] (.ops zcan))))))))
def zbzv:TC:=(.seq (.ops zcag) (.clean [0] (.seq (.ops zcah) (.clean [0,4] (.seq (.ops zcai) (.block 0 [2,3] (.clean [0,4,5] (.loop [0,4,5] oh))))))))
def zcb5:TFn:=⟨49,zbzv,[.tmp 2,.tmp 3],false⟩
theorem m9:ud Try.prog [(5,⟨[0,1,2,3,4,5,6,7,8,9,10,11,12,13,14,15,16,17,18,19,20,21,22],[0,1,3,7,15,31,63,127,255,511,1023,2047,4095,8191,16383,32767,65535,131071,8191,270335,794623,2097151,4194303],[],[],.nil⟩)] uj = some (49,zbzv.erase,[.tmp 2,.tmp 3]):=by kernel_rfl
def zcct:List ap:=[Qo 4 (.mov (.const (Go.Value.string ⟨#[]⟩)))]
def zccu:List ap:=[Qa 7 0,
 Qa 8 1,
 Qo 9 (.call l5 [(t 7),(t 8)]),
 Qa 5 9]
def zccv:List ap:=[Qa 10 0,
 Qo 11 (.nilchk (t 10)),
 Qo 12 (.fieldAddr 1 (t 11)),
 Qb 13 12,
 Qa 14 13,
 Qf 14 15 (.mov (t 5)),
 Qf 14 16 (.mov (t 0)),
 Qf 14 17 (.nilchk (t 16)),
 Qf 14 18 (.fieldAddr 0 (t 17)),
 Qf 14 19 (.load1 (t 18)),
 Qf 14 20 (.lenS (t 19)),
 Qf 14 21 (.bin .gtr (t 15) (t 20)),
 Qo 22 (.pick (t 14) QT (t 21))]
def zccw:List ap:=[Qa 23 0,
 Qo 24 (.call jx [(t 23)])]
def zccx:List ap:=[Qo 4 (.mov (.const (Go.Value.string ⟨#[]⟩)))]
def zccy:List ap:=[Qa 25 0,
 Qo 26 (.nilchk (t 25)),
 Qo 27 (.fieldAddr 0 (t 26)),
 Qb 28 27,
 Qa 29 5,
 Qo 30 (.sliceStr (t 28) none (some (t 29))),
 Qa 6 30]
def zccz:List ap:=[Qa 31 0,
 Qa 32 0,
 Qo 33 (.nilchk (t 32)),
 Qo 34 (.fieldAddr 0 (t 33)),
 Qb 35 34,
 Qa 36 5,
 Qo 37 (.sliceStr (t 35) (some (t 36)) none),
 Qo 38 (.nilchk (t 31)),
 Qo 39 (.fieldAddr 0 (t 38)),
 ⟨⟨none,.store 1 (t 39) (t 37),none⟩,0⟩]
def zcc0:List ap:=[Qa 40 6,
 Qa 4 40]
def zb03:TC:=(.seq (.ops zcct) (.clean [0,1] (.seq (.ops zccu) (.clean [0,5] (.seq (.seq (.ops zccv) (.clean [0,5,22] (.cond (t 22) (.seq (.ops zccw) (.clean [] (.seq (.ops zccx) (.ret [4])))) .skip))) (.clean [0,5] (.seq (.ops zccy) (.clean [0,5,6] (.seq (.ops zccz) (.clean [6] (.seq (.ops zcc0) (.ret [4]))))))))))))
def zcdy:TFn:=⟨41,zb03,[.tmp 4],false⟩
theorem zb7c:ud Try.prog [] ov = some (41,zb03.erase,[.tmp 4]):=by kernel_rfl
def zcdh:List ap:=[Qo 4 (.mov (ci 0))]
def zcdi:List ap:=[Qa 6 0,
 Qo 7 (.call qf [(t 6)]),
 Qa 5 7]
def zcdj:List ap:=[Qa 8 0,
 Qo 9 (.nilchk (t 8)),
 Qo 10 (.fieldAddr 1 (t 9)),
 Qb 11 10,
 Qa 12 11,
 Qf 12 13 (.mov (t 5)),
 Qf 12 14 (.bin .lss (t 13) (ci 0)),
 Qo 15 (.pick (t 12) QT (t 14)),
 Qa 16 15,
 Qf 16 17 (.mov (t 5)),
 Qf 16 18 (.mov (t 1)),
 Qf 16 19 (.bin .gtr (t 17) (t 18)),
 Qo 20 (.pick (t 16) QT (t 19))]
def zcdk:List ap:=[Qa 21 0,
 Qo 22 (.call jx [(t 21)])]
def zcdl:List ap:=[Qo 4 (.mov (ci 0))]
def zcdm:List ap:=[Qa 23 5,
 Qa 4 23]
def xq:TC:=(.seq (.ops zcdh) (.clean [0,1] (.seq (.ops zcdi) (.clean [0,1,5] (.seq (.seq (.ops zcdj) (.clean [0,5,20] (.cond (t 20) (.seq (.ops zcdk) (.clean [] (.seq (.ops zcdl) (.ret [4])))) .skip))) (.clean [5] (.seq (.ops zcdm) (.ret [4]))))))))
def x7:TFn:=⟨24,xq,[.tmp 4],false⟩
theorem zb74:ud Try.prog [] l5 = some (24,xq.erase,[.tmp 4]):=by kernel_rfl
def zccr:List ap:=[Qa 2 0,
 Qa 3 0,
 Qo 4 (.nilchk (t 2)),
 Qo 5 (.fieldAddr 0 (t 4)),
 ⟨⟨none,.store 1 (t 5) (.const (Go.Value.string ⟨#[]⟩)),none⟩,0⟩,
 Qo 6 (.nilchk (t 3)),
 Qo 7 (.fieldAddr 1 (t 6)),
 ⟨⟨none,.store 1 (t 7) QT,none⟩,0⟩]
def zb02:TC:=(.ops zccr)
def zcdx:TFn:=⟨8,zb02,[],false⟩
theorem zb7b:ud Try.prog [] jx = some (8,zb02.erase,[]):=by kernel_rfl
def zcbn:List ap:=[Qo 2 (.mov (ci 0))]
def zcbo:List ap:=[Qa 5 0,
 Qo 6 (.nilchk (t 5)),
 Qo 7 (.fieldAddr 1 (t 6)),
 Qb 8 7,
 Qa 9 8,
 Qf 9 10 (.mov (t 0)),
 Qf 9 11 (.nilchk (t 10)),
 Qf 9 12 (.fieldAddr 0 (t 11)),
 Qf 9 13 (.load1 (t 12)),
 Qf 9 14 (.lenS (t 13)),
 Qf 9 15 (.bin .lss (t 14) (ci 8)),
 Qo 16 (.pick (t 9) QT (t 15))]
def zcbp:List ap:=[Qa 17 0,
 Qo 18 (.call jx [(t 17)])]
def zcbq:List ap:=[Qo 2 (.mov (ci 0))]
def zcbr:List ap:=[Qo 3 (.mov (.const (Go.Value.int Go.IntKind.u64 0)))]
def zcbs:List ap:=[Qo 4 (.mov (ci 0))]
def zcbt:List ap:=[Qa 19 4,
 Qo 20 (.bin .lss (t 19) (ci 8))]
def zcbv:List ap:=[Qa 23 3,
 Qo 24 (.bin .shl (t 23) (.const (Go.Value.int Go.IntKind.u64 8))),
 Qa 25 0,
 Qo 26 (.nilchk (t 25)),
 Qo 27 (.fieldAddr 0 (t 26)),
 Qb 28 27,
 Qa 29 4,
 Qo 30 (.indexStr (t 28) (t 29)),
 Qo 31 (.conv .u64 (t 30)),
 Qo 32 (.bin .or (t 24) (t 31)),
 Qa 3 32]
def zcbu:List ap:=[Qa 21 4,
 Qo 22 (.bin .add (t 21) (ci 1)),
 Qa 4 22]
def tz:TC:=(.seq (.seq (.ops zcbt) (.clean [0,3,4,20] (.cond (t 20) .skip (.exit 0)))) (.clean [0,3,4] (.seq (.block 1 [0,3,4] (.ops zcbv)) (.clean [0,3,4] (.ops zcbu)))))
def zcbw:List ap:=[Qa 33 0,
 Qa 34 0,
 Qo 35 (.nilchk (t 34)),
 Qo 36 (.fieldAddr 0 (t 35)),
 Qb 37 36,
 Qo 38 (.sliceStr (t 37) (some (ci 8)) none),
 Qo 39 (.nilchk (t 33)),
 Qo 40 (.fieldAddr 0 (t 39)),
 ⟨⟨none,.store 1 (t 40) (t 38),none⟩,0⟩]
def zccs:List ap:=[Qa 41 3,
 Qo 42 (.conv .i64 (t 41)),
 Qa 2 42]
def zb0n:TC:=(.seq (.ops zcbn) (.clean [0] (.seq (.seq (.ops zcbo) (.clean [0,16] (.cond (t 16) (.seq (.ops zcbp) (.clean [] (.seq (.ops zcbq) (.ret [2])))) .skip))) (.clean [0] (.seq (.ops zcbr) (.clean [0,3] (.seq (.seq (.ops zcbs) (.block 0 [0,3] (.clean [0,3,4] (.loop [0,3,4] tz)))) (.clean [0,3] (.seq (.ops zcbw) (.clean [3] (.seq (.ops zccs) (.ret [2]))))))))))))
def zcdf:TFn:=⟨43,zb0n,[.tmp 2],false⟩
theorem zcfa:ud Try.prog [] qf = some (43,zb0n.erase,[.tmp 2]):=by kernel_rfl
def zo:List ap:=[Qo 4 (.mov QF)]
def zn:List ap:=[Qa 6 0,
 Qo 7 (.lenL (t 6)),
 Qa 8 1,
 Qo 9 (.lenL (t 8)),
 Qo 10 (.bin .neq (t 7) (t 9))]
def zm:List ap:=[Qo 4 (.mov QF)]
def zl:List ap:=[Qo 5 (.mov (ci 0))]
def zk:List ap:=[Qa 11 5,
 Qa 12 0,
 Qo 13 (.lenL (t 12)),
 Qo 14 (.bin .lss (t 11) (t 13))]
def zi:List ap:=[Qa 17 0,
 Qa 18 5,
 Qo 19 (.indexSl 1 (t 17) (t 18)),
 Qb 20 19,
 Qa 21 1,
 Qa 22 5,
 Qo 23 (.indexSl 1 (t 21) (t 22)),
 Qb 24 23,
 Qo 25 (.bin .neq (t 20) (t 24))]
def zh:List ap:=[Qo 4 (.mov QF)]
def zj:List ap:=[Qa 15 5,
 Qo 16 (.bin .add (t 15) (ci 1)),
 Qa 5 16]
def jj:TC:=(.seq (.seq (.ops zk) (.clean [0,1,5,14] (.cond (t 14) .skip (.exit 0)))) (.clean [0,1,5] (.seq (.block 1 [0,1,5] (.seq (.draw (pl zi)) (.clean [0,1,5,25] (.cond (t 25) (.seq (.ops zh) (.ret [4])) .skip)))) (.clean [0,1,5] (.ops zj)))))
def zg:List ap:=[Qo 4 (.mov QT)]
def si:TC:=(.seq (.ops zo) (.clean [0,1] (.seq (.seq (.ops zn) (.clean [0,1,10] (.cond (t 10) (.seq (.ops zm) (.ret [4])) .skip))) (.clean [0,1] (.seq (.seq (.ops zl) (.block 0 [] (.clean [0,1,5] (.loop [0,1,5] jj)))) (.clean [] (.seq (.ops zg) (.ret [4]))))))))
def ss:TFn:=⟨26,si,[.tmp 4],false⟩
theorem zb9f:ud Try.prog [(6,⟨[0,1,2,3,4,5,6,7,8],[0,0,3,7,0,0,48,112,255],[],[],.nil⟩)] jr = some (26,si.erase,[.tmp 4]):=by kernel_rfl
def z8:List ap:=[Qo 4 (.mov QF)]
def z7:List ap:=[Qa 13 0,
 Qo 14 (.lenL (t 13)),
 Qo 15 (.bin .gtr (t 14) (ci 20))]
def z6:List ap:=[Qo 16 (.call fq []),
 Qa 4 16]
def z5:List ap:=[Qo 5 (.mov (.const (Go.Value.string ⟨#[]⟩)))]
def z4:List ap:=[Qm 1 6 (.mov (.const (Go.Value.slice none 0 0)))]
def z3:List ap:=[Qo 7 (.mov (ci 0))]
def zz:List ap:=[Qa 17 7,
 Qa 18 0,
 Qo 19 (.lenL (t 18)),
 Qo 20 (.bin .lss (t 17) (t 19))]
def zx:List ap:=[Qa 23 0,
 Qa 24 7,
 Qo 25 (.indexSl 1 (t 23) (t 24)),
 Qb 26 25,
 Qo 27 (.lenS (t 26)),
 Qo 28 (.bin .gtr (t 27) (ci 200))]
def zw:List ap:=[Qo 29 (.call fq []),
 Qa 4 29]
def xm:List ap:=[Qa 30 5,
 Qa 31 0,
 Qa 32 7,
 Qo 33 (.indexSl 1 (t 31) (t 32)),
 Qb 34 33,
 Qo 35 (.call nf [(t 34)]),
 Qo 36 (.bin .add (t 30) (t 35)),
 Qa 5 36]
def xl:List ap:=[Qa 37 6,
 Qa 38 5,
 Qo 39 (.lenS (t 38)),
 Qo 40 (.buildSl zb5k 1 1 [(.int .i64 0)] [(0,1,(t 39))]),
 Qo 41 (.append zb5k 1 8 (t 37) (t 40)),
 Qa 6 41]
def zy:List ap:=[Qa 21 7,
 Qo 22 (.bin .add (t 21) (ci 1)),
 Qa 7 22]
def jm:TC:=(.seq (.seq (.ops zz) (.clean [0,1,5,6,7,20] (.cond (t 20) .skip (.exit 0)))) (.clean [0,1,5,6,7] (.seq (.block 1 [0,1,5,6,7] (.seq (.seq (.ops zx) (.clean [0,1,5,6,7,28] (.cond (t 28) (.seq (.ops zw) (.ret [4])) .skip))) (.clean [0,1,5,6,7] (.seq (.ops xm) (.clean [0,1,5,6,7] (.ops xl)))))) (.clean [0,1,5,6,7] (.ops zy)))))
def xk:List ap:=[Qa 42 5,
 Qo 43 (.lenS (t 42)),
 Qa 44 0,
 Qo 45 (.lenL (t 44)),
 Qo 46 (.bin .mul (ci 16) (t 45)),
 Qo 47 (.bin .lss (t 43) (t 46))]
def xj:List ap:=[Qo 4 (.mov QF)]
def xi:List ap:=[Qa 48 1,
 Qa 49 5,
 Qo 50 (.lenS (t 49)),
 Qo 51 (.bin .add (t 50) (ci 1)),
 Qo 52 (.call j9 [(t 48),(t 51)]),
 Qa 8 52]
def xh:List ap:=[Qa 54 5,
 Qa 55 8,
 Qo 56 (.sliceStr (t 54) none (some (t 55))),
 Qo 57 (.call ie [(t 56)]),
 Qa 53 57,
 Qo 58 (.extract (t 53) 0),
 Qo 59 (.extract (t 53) 1),
 Qa 9 58,
 Qa 10 59]
def xg:List ap:=[Qo 11 (.mov (ci 0))]
def xf:List ap:=[Qa 60 11,
 Qa 61 6,
 Qo 62 (.lenL (t 61)),
 Qo 63 (.bin .lss (t 60) (t 62)),
 Qa 64 63,
 Qt 64 65 (.mov (t 6)),
 Qt 64 66 (.mov (t 11)),
 Qt 64 67 (.indexSl 1 (t 65) (t 66)),
 Qt 64 68 (.load1 (t 67)),
 Qt 64 69 (.mov (t 8)),
 Qt 64 70 (.bin .leq (t 68) (t 69)),
 Qo 71 (.pick (t 64) (t 70) QF)]
def xd:List ap:=[Qa 72 11,
 Qo 73 (.bin .add (t 72) (ci 1)),
 Qa 11 73]
def jl:TC:=(.seq (.seq (.ops xf) (.clean [0,6,8,9,10,11,71] (.cond (t 71) .skip (.exit 2)))) (.block 3 [0,6,8,9,10,11] (.ops xd)))
def xc:List ap:=[Qa 74 9,
 Qo 75 (.lenL (t 74)),
 Qa 76 11,
 Qo 77 (.bin .neq (t 75) (t 76)),
 Qa 78 77,
 Qf 78 79 (.mov (t 11)),
 Qf 78 80 (.bin .gtr (t 79) (ci 0)),
 Qf 78 81 (.mov (t 80)),
 Qt 81 82 (.mov (t 10)),
 Qt 81 83 (.mov (t 6)),
 Qt 81 84 (.mov (t 11)),
 Qt 81 85 (.bin .sub (t 84) (ci 1)),
 Qt 81 86 (.indexSl 1 (t 83) (t 85)),
 Qt 81 87 (.load1 (t 86)),
 Qt 81 88 (.bin .neq (t 82) (t 87)),
 Qf 78 89 (.pick (t 81) (t 88) QF),
 Qo 90 (.pick (t 78) QT (t 89)),
 Qa 91 90,
 Qf 91 92 (.mov (t 11)),
 Qf 91 93 (.bin .eql (t 92) (ci 0)),
 Qf 91 94 (.mov (t 93)),
 Qt 94 95 (.mov (t 10)),
 Qt 94 96 (.bin .neq (t 95) (ci 0)),
 Qf 91 97 (.pick (t 94) (t 96) QF),
 Qo 98 (.pick (t 91) QT (t 97))]
def xb:List ap:=[Qo 4 (.mov QF)]
def xa:List ap:=[Qo 12 (.mov (ci 0))]
def w9:List ap:=[Qa 99 12,
 Qa 100 11,
 Qo 101 (.bin .lss (t 99) (t 100))]
def wy:List ap:=[Qa 104 9,
 Qa 105 12,
 Qo 106 (.indexSl 1 (t 104) (t 105)),
 Qb 107 106,
 Qa 108 0,
 Qa 109 12,
 Qo 110 (.indexSl 1 (t 108) (t 109)),
 Qb 111 110,
 Qo 112 (.bin .neq (t 107) (t 111))]
def wx:List ap:=[Qo 4 (.mov QF)]
def wz:List ap:=[Qa 102 12,
 Qo 103 (.bin .add (t 102) (ci 1)),
 Qa 12 103]
def jk:TC:=(.seq (.seq (.ops w9) (.clean [0,9,11,12,101] (.cond (t 101) .skip (.exit 4)))) (.clean [0,9,11,12] (.seq (.block 5 [0,9,11,12] (.seq (.draw (pl wy)) (.clean [0,9,11,12,112] (.cond (t 112) (.seq (.ops wx) (.ret [4])) .skip)))) (.clean [0,9,11,12] (.ops wz)))))
def wv:List ap:=[Qo 113 (.call fq []),
 Qa 4 113]
def sj:TC:=(.seq (.ops z8) (.clean [0,1] (.seq (.seq (.ops z7) (.clean [0,1,15] (.cond (t 15) (.seq (.ops z6) (.ret [4])) .skip))) (.clean [0,1] (.seq (.ops z5) (.clean [0,1,5] (.seq (.ops z4) (.clean [0,1,5,6] (.seq (.seq (.ops z3) (.block 0 [0,1,5,6] (.clean [0,1,5,6,7] (.loop [0,1,5,6,7] jm)))) (.clean [0,1,5,6] (.seq (.seq (.ops xk) (.clean [0,1,5,6,47] (.cond (t 47) (.seq (.ops xj) (.ret [4])) .skip))) (.clean [0,1,5,6] (.seq (.ops xi) (.clean [0,5,6,8] (.seq (.ops xh) (.clean [0,6,8,9,10] (.seq (.ops xg) (.clean [0,6,8,9,10,11] (.seq (.block 2 [0,6,9,10,11] (.clean [0,6,8,9,10,11] (.loop [0,6,8,9,10,11] jl))) (.clean [0,6,9,10,11] (.seq (.seq (.ops xc) (.clean [0,9,11,98] (.cond (t 98) (.seq (.ops xb) (.ret [4])) .skip))) (.clean [0,9,11] (.seq (.seq (.ops xa) (.block 4 [] (.clean [0,9,11,12] (.loop [0,9,11,12] jk)))) (.clean [] (.seq (.ops wv) (.ret [4]))))))))))))))))))))))))))
def su:TFn:=⟨114,sj,[.tmp 4],false⟩
theorem zb9e:ud Try.prog [(24,⟨[0,1,2,3,4,5,6,7,8],[0,0,3,7,0,0,48,112,255],[],[],.nil⟩)] jt = some (114,sj.erase,[.tmp 4]):=by kernel_rfl
def zbyy:List ap:=[Qo 4 (.mov (ci 0))]
def zbyz:List ap:=[Qa 6 0,
 Qa 7 1,
 Qo 8 (.bin .rem (t 6) (t 7)),
 Qa 5 8]
def zby0:List ap:=[Qa 9 5,
 Qo 10 (.bin .lss (t 9) (ci 0))]
def zby1:List ap:=[Qa 11 5,
 Qa 12 1,
 Qo 13 (.bin .add (t 11) (t 12)),
 Qa 5 13]
def zby2:List ap:=[Qa 14 5,
 Qa 4 14]
def zbo6:TC:=(.seq (.ops zbyy) (.clean [0,1] (.seq (.ops zbyz) (.clean [1,5] (.seq (.seq (.ops zby0) (.clean [1,5,10] (.cond (t 10) (.ops zby1) .skip))) (.clean [5] (.seq (.ops zby2) (.ret [4]))))))))
def zbo4:TFn:=⟨15,zbo6,[.tmp 4],false⟩
theorem zbwk:type_of% (ai @zbyy.eq_1 (ai @zbyz.eq_1 (ai @zby0.eq_1 (ai @zby1.eq_1 (ai @zby2.eq_1 (ai @zbo6.eq_1 @zbo4.eq_1)))))):=⟨rfl,rfl,rfl,rfl,rfl,rfl,rfl⟩
theorem zcep:ud Try.prog [] j9 = some (15,zbo6.erase,[.tmp 4]):=by kernel_rfl
def zb0b:List ap:=[Qo 6 (.mov QF)]
def zb0c:List ap:=[Qa 12 0,
 Qo 13 (.lenS (t 12)),
 Qo 14 (.bin .gtr (t 13) (ci 300))]
def zb0d:List ap:=[Qo 15 (.call fq []),
 Qa 6 15]
def zb0e:List ap:=[Qa 16 0,
 Qo 17 (.call nf [(t 16)]),
 Qa 7 17]
def zb0f:List ap:=[Qa 18 7,
 Qo 19 (.lenS (t 18)),
 Qo 20 (.bin .lss (t 19) (ci 16)),
 Qa 21 20,
 Qf 21 22 (.mov (t 7)),
 Qf 21 23 (.mov (t 0)),
 Qf 21 24 (.lenS (t 23)),
 Qf 21 25 (.call ng [(t 24)]),
 Qf 21 26 (.mov (t 0)),
 Qf 21 27 (.bin .add (t 25) (t 26)),
 Qf 21 28 (.mov (t 0)),
 Qf 21 29 (.call sa [(t 28)]),
 Qf 21 30 (.mov (t 0)),
 Qf 21 31 (.call sa [(t 30)]),
 Qf 21 32 (.lenS (t 31)),
 Qf 21 33 (.min (ci 8) (t 32)),
 Qf 21 34 (.sliceStr (t 29) none (some (t 33))),
 Qf 21 35 (.bin .add (t 27) (t 34)),
 Qf 21 36 (.bin .neq (t 22) (t 35)),
 Qo 37 (.pick (t 21) QT (t 36))]
def zb0g:List ap:=[Qo 6 (.mov QF)]
def zb0h:List ap:=[Qa 38 7,
 Qa 8 38]
def zb0i:List ap:=[Qa 39 1,
 Qo 40 (.call j9 [(t 39),(ci 4)])]
def zb0k:List ap:=[Qo 52 (.bin .eql (t 40) (ci 0)),
 Qa 51 52]
def zb0u:List ap:=[Qa 53 0,
 Qo 54 (.lenS (t 53)),
 Qo 55 (.bin .sub (ci (-1)) (t 54)),
 Qa 57 7,
 Qo 58 (.sliceStr (t 57) (some (ci 8)) none),
 Qo 56 (.call ng [(t 55)]),
 Qo 59 (.bin .add (t 56) (t 58)),
 Qa 8 59]
def zb0v:List ap:=[Qo 61 (.bin .eql (t 40) (ci 1)),
 Qa 60 61]
def zb0w:List ap:=[Qa 63 7,
 Qo 64 (.sliceStr (t 63) (some (ci 8)) none),
 Qo 62 (.call ng [(ci 1099511627776)]),
 Qo 65 (.bin .add (t 62) (t 64)),
 Qa 8 65]
def zb0x:List ap:=[Qo 67 (.bin .eql (t 40) (ci 2)),
 Qa 66 67]
def zb0y:List ap:=[Qa 68 7,
 Qm 1 69 (.toBytes a9 (t 68)),
 Qa 9 69]
def zb0z:List ap:=[Qa 70 9,
 Qa 71 9,
 Qo 72 (.lenL (t 71)),
 Qo 73 (.bin .sub (t 72) (ci 1)),
 Qa 74 2,
 Qa 79 2,
 Qo 80 (.bin .quo (t 79) (ci 8)),
 Qo 75 (.call j9 [(t 74),(ci 8)]),
 Qo 76 (.bin .sub (t 73) (t 75)),
 Qo 77 (.indexSl 1 (t 70) (t 76)),
 Qb 78 77,
 Qo 81 (.call j9 [(t 80),(ci 255)]),
 Qo 82 (.bin .add (ci 1) (t 81)),
 Qo 83 (.conv .u8 (t 82)),
 Qo 84 (.bin .xor (t 78) (t 83)),
 Qo 85 (.indexSl 1 (t 70) (t 76)),
 ⟨⟨none,.store 1 (t 85) (t 84),none⟩,0⟩]
def zb00:List ap:=[Qa 86 9,
 Qo 87 (.toStr (t 86)),
 Qa 8 87]
def zb0j:List ap:=[Qa 41 0,
 Qo 42 (.lenS (t 41)),
 Qo 43 (.bin .add (t 42) (ci 9)),
 Qa 44 7,
 Qo 45 (.lenS (t 44)),
 Qo 46 (.bin .add (t 43) (t 45)),
 Qa 48 7,
 Qo 49 (.sliceStr (t 48) (some (ci 8)) none),
 Qo 47 (.call ng [(t 46)]),
 Qo 50 (.bin .add (t 47) (t 49)),
 Qa 8 50]
def zb01:List ap:=[Qa 89 7,
 Qa 90 8,
 Qo 91 (.bin .add (t 89) (t 90)),
 Qa 92 7,
 Qo 93 (.bin .add (t 91) (t 92)),
 Qo 94 (.call ie [(t 93)]),
 Qa 88 94,
 Qo 95 (.extract (t 88) 0),
 Qo 96 (.extract (t 88) 1),
 Qa 10 95,
 Qa 11 96]
def z9:List ap:=[Qa 97 10,
 Qo 98 (.lenL (t 97)),
 Qo 99 (.bin .eql (t 98) (ci 1)),
 Qa 100 99,
 Qt 100 101 (.mov (t 10)),
 Qt 100 102 (.indexSl 1 (t 101) (ci 0)),
 Qt 100 103 (.load1 (t 102)),
 Qt 100 104 (.mov (t 0)),
 Qt 100 105 (.bin .eql (t 103) (t 104)),
 Qo 106 (.pick (t 100) (t 105) QF),
 Qa 107 106,
 Qt 107 108 (.mov (t 11)),
 Qt 107 109 (.mov (t 7)),
 Qt 107 110 (.lenS (t 109)),
 Qt 107 111 (.bin .eql (t 108) (t 110)),
 Qo 112 (.pick (t 107) (t 111) QF),
 Qa 113 112,
 Qt 113 114 (.call fq []),
 Qo 115 (.pick (t 113) (t 114) QF),
 Qa 6 115]
def ur:TC:=(.seq (.ops zb0b) (.clean [0,1,2] (.seq (.seq (.ops zb0c) (.clean [0,1,2,14] (.cond (t 14) (.seq (.ops zb0d) (.ret [6])) .skip))) (.clean [0,1,2] (.seq (.ops zb0e) (.clean [0,1,2,7] (.seq (.seq (.ops zb0f) (.clean [0,1,2,7,37] (.cond (t 37) (.seq (.ops zb0g) (.ret [6])) .skip))) (.clean [0,1,2,7] (.seq (.ops zb0h) (.clean [0,1,2,7] (.seq (.seq (.ops zb0i) (.block 0 [0,7,8] (.seq (.ops zb0k) (.clean [0,2,7,40,51] (.cond (t 51) (.draw (pl zb0u)) (.seq (.ops zb0v) (.clean [0,2,7,40,60] (.cond (t 60) (.draw (pl zb0w)) (.seq (.ops zb0x) (.clean [0,2,7,66] (.cond (t 66) (.seq (.ops zb0y) (.clean [0,2,7,9] (.seq (.draw (pl zb0z)) (.clean [0,7,9] (.ops zb00))))) (.draw (pl zb0j))))))))))))) (.clean [0,7,8] (.seq (.ops zb01) (.clean [0,7,10,11] (.seq (.ops z9) (.ret [6]))))))))))))))))
def vf:TFn:=⟨116,ur,[.tmp 6],false⟩
theorem bc:type_of% (ai @zb0b.eq_1 (ai @zb0c.eq_1 (ai @zb0d.eq_1 (ai @zb0e.eq_1 (ai @zb0f.eq_1 (ai @zb0g.eq_1 (ai @zb0h.eq_1 (ai @zb0i.eq_1 (ai @zb0k.eq_1 (ai @zb0u.eq_1 (ai @zb0v.eq_1 (ai @zb0w.eq_1 (ai @zb0x.eq_1 (ai @zb0y.eq_1 (ai @zb0z.eq_1 (ai @zb00.eq_1 (ai @zb0j.eq_1 (ai @zb01.eq_1 (ai @z9.eq_1 (ai @ur.eq_1 @vf.eq_1)))))))))))))))))))):=⟨rfl,rfl,rfl,rfl,rfl,rfl,rfl,rfl,rfl,rfl,rfl,rfl,rfl,rfl,rfl,rfl,rfl,rfl,rfl,rfl,rfl⟩
theorem zb82:ud Try.prog [(10,⟨[0,1,2,4,5,3,6,7],[0,1,3,7,0,16,63,127],[],[],.nil⟩),(12,⟨[1,2,0,3,4],[0,0,2,7,15],[],[],.nil⟩),(15,⟨[0,1,2,3,4,9,10,5,6,7,8,11,12,13,14,15,16],[0,0,2,6,0,16,62,127,255,0,512,1584,3632,7728,16383,32767,65535],[],[],.nil⟩),(8,⟨[0,1,2,3,4,5,7,8,6,9,10],[0,1,3,0,8,31,63,0,128,511,1023],[],[],.nil⟩)] km = some (116,ur.erase,[.tmp 6]):=by kernel_rfl
end Ic
end Go.Proofs.Ytgkkienmocpnbaa
