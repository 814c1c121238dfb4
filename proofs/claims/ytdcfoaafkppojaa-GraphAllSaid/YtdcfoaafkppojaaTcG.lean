import Derived.Test.YtdcfoaafkppojaaTcT
import Derived.Test.YtdcfoaafkppojaaM14
/- The table of functions of the tree level. -/
namespace Go.Proofs.Ytdcfoaafkppojaa
open Go Go.RowKit Sh
namespace Ic
def gl : List (Nat × TG) := [(r6,.code zcfz),(ve,.code zce5),(pq,.code zcf0),(za,.code zcd6),(zb42,.code zcdb),(zb44,.code zcdd),(vf,.code zce4),(ni,.code zcel),(zb6w,.code zcd5),(zb17,.code zcct),(zb5g,.code zcd8),(zb5h,.code zcdw),(lp,.code zcde),(zz,.code zcem),(zy,.code zcen),(qz,.code zcd7),(y0,.code zcdx),(zb43,.code zcdc),(o7,.code zcfa),(po,.code zcf3),(o6,.code zceq),(ur,.code zcd3),(ny,.code zccv),(uq,.code zcer),(bz,.code ja),(cg,.code kf),(jc,.code zcf6),(zb47,.code zcdi),(jd,.code zcf5),(iu,.prim zbsi),(j8,.prim zbsk),(mb,.prim zbsj),(dg,.code ma),(fg,.code nw),(cz,.code mr),(gu,.code pe),(kj,.code zcfb),(j9,.code zcf4),(mj,.code zcgm),(en,.code ym),(dt,.code oh),(ix,.code ql),(qf,.code zcep),(bn,.code ij),(b9,.code ji),(je,.code zcf2),(qy,.code zce8),(ms,.code zcfc),(km,.code zcgd),(qx,.code zce9),(kl,.code zcge),(ut,.code zceo),(pt,.code zcdy),(zx,.code zcdf),(vd,.code zce6),(vc,.code zce7),(zb45,.code zcdg),(yz,.code zcd2),(pp,.code zcf1),(zb5k,.code zcd1),(zb46,.code zcdh),(zb4x,.code zccu),(zb5i,.code zcdz),(zb5j,.code zcd0)]
def G : FuncId → Option TG := zbnu gl
theorem gok : GOK Try.prog G := zbxz (a9 zdfg (a9 zdd8 (a9 zdfh (a9 zdam (a9 zbod (a9 zbob (a9 zdd7 (a9 zda6 (a9 zdal (a9 zbut (a9 zdao (a9 zdap (a9 zboa (a9 zda7 (a9 zda8 (a9 zdan (a9 zdaq (a9 zboc (a9 zded (a9 zdfk (a9 zdbb (a9 zc94 (a9 zbur (a9 zdbc (a9 yn (a9 zdd0 (a9 zdfn (a9 zbn6 (a9 zdfm (zcg2 zddi (zcg2 zddf (zcg2 zddc (a9 zddv (a9 zddl (a9 zddr (a9 zddd (a9 zdee (a9 zdfl (a9 zdgv (a9 zdc2 (a9 zddk (a9 zdda (a9 zdba (a9 wq (a9 z3 (a9 zdfj (a9 zdeb (a9 zdef (a9 zdf5 (a9 zdec (a9 zdf6 (a9 zda9 (a9 zc9z (a9 zbn9 (a9 zdd9 (a9 zdea (a9 zbn8 (a9 zc93 (a9 zdfi (a9 zc92 (a9 zbn7 (a9 zbus (a9 zc90 (a9 zc91 zb3s))))))))))))))))))))))))))))))))))))))))))))))))))))))))))))))))
theorem zdfo : G r6 = some (.code zcfz) := by kernel_rfl
theorem zdek : G ve = some (.code zce5) := by kernel_rfl
theorem zdfp : G pq = some (.code zcf0) := by kernel_rfl
theorem zc98 : G za = some (.code zcd6) := by kernel_rfl
theorem zbn2 : G zb42 = some (.code zcdb) := by kernel_rfl
theorem zbn0 : G zb44 = some (.code zcdd) := by kernel_rfl
theorem zdej : G vf = some (.code zce4) := by kernel_rfl
theorem zdbr : G ni = some (.code zcel) := by kernel_rfl
theorem zc97 : G zb6w = some (.code zcd5) := by kernel_rfl
theorem zbt8 : G zb17 = some (.code zcct) := by kernel_rfl
theorem zdaa : G zb5g = some (.code zcd8) := by kernel_rfl
theorem zdab : G zb5h = some (.code zcdw) := by kernel_rfl
theorem zbnz : G lp = some (.code zcde) := by kernel_rfl
theorem zdbs : G zz = some (.code zcem) := by kernel_rfl
theorem zdbt : G zy = some (.code zcen) := by kernel_rfl
theorem zc99 : G qz = some (.code zcd7) := by kernel_rfl
theorem zdac : G y0 = some (.code zcdx) := by kernel_rfl
theorem zbn1 : G zb43 = some (.code zcdc) := by kernel_rfl
theorem zde4 : G o7 = some (.code zcfa) := by kernel_rfl
theorem zdfs : G po = some (.code zcf3) := by kernel_rfl
theorem zdbw : G o6 = some (.code zceq) := by kernel_rfl
theorem zdai : G ur = some (.code zcd3) := by kernel_rfl
theorem zbt6 : G ny = some (.code zccv) := by kernel_rfl
theorem zdbx : G uq = some (.code zcer) := by kernel_rfl
theorem yl : G bz = some (.code ja) := by kernel_rfl
theorem zdd1 : G cg = some (.code kf) := by kernel_rfl
theorem zdfv : G jc = some (.code zcf6) := by kernel_rfl
theorem zbnv : G zb47 = some (.code zcdi) := by kernel_rfl
theorem zdfu : G jd = some (.code zcf5) := by kernel_rfl
theorem zdcy : G iu = some (.prim zbsi) := by kernel_rfl
theorem zdcd : G j8 = some (.prim zbsk) := by kernel_rfl
theorem zdgj : G mb = some (.prim zbsj) := by kernel_rfl
theorem zddw : G dg = some (.code ma) := by kernel_rfl
theorem zddm : G fg = some (.code nw) := by kernel_rfl
theorem zddp : G cz = some (.code mr) := by kernel_rfl
theorem zdde : G gu = some (.code pe) := by kernel_rfl
theorem zde5 : G kj = some (.code zcfb) := by kernel_rfl
theorem zdft : G j9 = some (.code zcf4) := by kernel_rfl
theorem zdgw : G mj = some (.code zcgm) := by kernel_rfl
theorem zdcx : G en = some (.code ym) := by kernel_rfl
theorem zddh : G dt = some (.code oh) := by kernel_rfl
theorem zddb : G ix = some (.code ql) := by kernel_rfl
theorem zdbv : G qf = some (.code zcep) := by kernel_rfl
theorem wj : G bn = some (.code ij) := by kernel_rfl
theorem z1 : G b9 = some (.code ji) := by kernel_rfl
theorem zdfr : G je = some (.code zcf2) := by kernel_rfl
theorem zde2 : G qy = some (.code zce8) := by kernel_rfl
theorem zcsh : G ms = some (.code zcfc) := by kernel_rfl
theorem zdgh : G km = some (.code zcgd) := by kernel_rfl
theorem zde3 : G qx = some (.code zce9) := by kernel_rfl
theorem zdgi : G kl = some (.code zcge) := by kernel_rfl
theorem zdbu : G ut = some (.code zceo) := by kernel_rfl
theorem zdad : G pt = some (.code zcdy) := by kernel_rfl
theorem zbny : G zx = some (.code zcdf) := by kernel_rfl
theorem zdel : G vd = some (.code zce6) := by kernel_rfl
theorem zde1 : G vc = some (.code zce7) := by kernel_rfl
theorem zbnx : G zb45 = some (.code zcdg) := by kernel_rfl
theorem zdah : G yz = some (.code zcd2) := by kernel_rfl
theorem zdfq : G pp = some (.code zcf1) := by kernel_rfl
theorem zdag : G zb5k = some (.code zcd1) := by kernel_rfl
theorem zbnw : G zb46 = some (.code zcdh) := by kernel_rfl
theorem zbt7 : G zb4x = some (.code zccu) := by kernel_rfl
theorem zdae : G zb5i = some (.code zcdz) := by kernel_rfl
theorem zdaf : G zb5j = some (.code zcd0) := by kernel_rfl
end Ic
end Go.Proofs.Ytdcfoaafkppojaa
