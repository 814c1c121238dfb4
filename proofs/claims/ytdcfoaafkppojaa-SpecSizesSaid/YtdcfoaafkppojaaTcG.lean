import Derived.Test.YtdcfoaafkppojaaTcT
import Derived.Test.YtdcfoaafkppojaaM15
/- The table of functions of the tree level. -/
namespace Go.Proofs.Ytdcfoaafkppojaa
open Go Go.RowKit Sh
namespace Ic
def gl : List (Nat × TG) := [(qx,.code zcd4),(up,.code zccb),(zb0k,.code zcbx),(zb26,.code zcbz),(va,.code zcdq),(nk,.code zcc2),(zb4u,.code zccc),(zb0i,.code zcbf),(zb3j,.code zccf),(zb3k,.code zccg),(lp,.code zcb0),(zb3m,.code zcc3),(zb3n,.code zcc4),(sc,.code zcce),(yx,.code zcch),(zb25,.code zcby),(zb3i,.code zccd),(uo,.code zcck),(pi,.code zcc7),(um,.code zccm),(n5,.code zcbg),(ul,.code zcc8),(cw,.code iq),(dl,.code ka),(ir,.code zcdy),(zb27,.code zcb1),(iu,.code zcdx),(ib,.prim zbp3),(jq,.prim zbp5),(mc,.prim zbp4),(ee,.code l9),(fx,.code n4),(zb3l,.code zcci),(dt,.code zcdr),(li,.code wa),(d6,.code uc),(bp,.code ym),(jf,.code vy),(jg,.code vz),(nu,.code zced),(ik,.code rx),(nh,.code zcds),(je,.code vx),(ke,.code ub),(ng,.code zcdt),(o7,.code zcd9),(ml,.code yn),(lm,.code wb),(rq,.code zcc6),(ly,.code zcd3),(jt,.code zcc5),(fk,.code zccj),(kc,.code yl),(a9,.code l7),(dx,.prim zb2v),(bu,.prim zb0b),(lx,.code zcdw),(jr,.code sr),(lg,.code vv),(qw,.code zcd5),(yw,.code zccl),(nf,.code zcdu),(du,.code mn),(az,.code cv),(d4,.code kw),(il,.code ry)]
def G : FuncId → Option TG := zbk9 gl
theorem gok : GOK Try.prog G := zbvq (bk zdbr (bk zc4a (bk zblm (bk zblk (bk zdaf (bk zc5b (bk zc4b (bk zbsc (bk zc4e (bk zc4f (bk zblj (bk zc5c (bk zc5d (bk zc4d (bk zc4g (bk zbll (bk zc4c (bk zc45 (bk zc5g (bk zc47 (bk zbsb (bk zc5h (bk yo (bk zc9h (bk zdbj (bk zbli (bk zdbi (zb4b zc8y (zb4b zc8o (zb4b zc8e (bk zc85 (bk zc8v (bk zc43 (bk zdag (bk zc7b (bk zc7s (bk zc6v (bk zc7d (bk zc7c (bk zc6l (bk zc8a (bk zdah (bk zc7e (bk zc7t (bk zdai (bk zc57 (bk zc6u (bk zc7a (bk zc5f (bk zdbg (bk zc5e (bk zc44 (bk zc6w (bk zc86 (zb4b wd (zb4b zc9k (bk zdbh (bk zc7y (bk zc7f (bk zdbs (bk zc46 (bk zdaj (bk zc82 (bk lw (bk zc89 (bk zc79 zb1y))))))))))))))))))))))))))))))))))))))))))))))))))))))))))))))))))
theorem zc5o : G qx = some (.code zcd4) := by kernel_rfl
theorem zc4j : G up = some (.code zccb) := by kernel_rfl
theorem zble : G zb0k = some (.code zcbx) := by kernel_rfl
theorem zblc : G zb26 = some (.code zcbz) := by kernel_rfl
theorem zdap : G va = some (.code zcdq) := by kernel_rfl
theorem zc9o : G nk = some (.code zcc2) := by kernel_rfl
theorem zc4k : G zb4u = some (.code zccc) := by kernel_rfl
theorem zbrs : G zb0i = some (.code zcbf) := by kernel_rfl
theorem zc4n : G zb3j = some (.code zccf) := by kernel_rfl
theorem zc4o : G zb3k = some (.code zccg) := by kernel_rfl
theorem zblb : G lp = some (.code zcb0) := by kernel_rfl
theorem zc9x : G zb3m = some (.code zcc3) := by kernel_rfl
theorem zc9y : G zb3n = some (.code zcc4) := by kernel_rfl
theorem zc4m : G sc = some (.code zcce) := by kernel_rfl
theorem zc4p : G yx = some (.code zcch) := by kernel_rfl
theorem zbld : G zb25 = some (.code zcby) := by kernel_rfl
theorem zc4l : G zb3i = some (.code zccd) := by kernel_rfl
theorem zc4s : G uo = some (.code zcck) := by kernel_rfl
theorem zc91 : G pi = some (.code zcc7) := by kernel_rfl
theorem zc4u : G um = some (.code zccm) := by kernel_rfl
theorem zbrr : G n5 = some (.code zcbg) := by kernel_rfl
theorem zc92 : G ul = some (.code zcc8) := by kernel_rfl
theorem yk : G cw = some (.code iq) := by kernel_rfl
theorem zc9i : G dl = some (.code ka) := by kernel_rfl
theorem zdbn : G ir = some (.code zcdy) := by kernel_rfl
theorem zbla : G zb27 = some (.code zcb1) := by kernel_rfl
theorem zdbm : G iu = some (.code zcdx) := by kernel_rfl
theorem zc64 : G ib = some (.prim zbp3) := by kernel_rfl
theorem zc6o : G jq = some (.prim zbp5) := by kernel_rfl
theorem zc5q : G mc = some (.prim zbp4) := by kernel_rfl
theorem zc87 : G ee = some (.code l9) := by kernel_rfl
theorem zc8w : G fx = some (.code n4) := by kernel_rfl
theorem zc4q : G zb3l = some (.code zcci) := by kernel_rfl
theorem zdaq : G dt = some (.code zcdr) := by kernel_rfl
theorem zc7j : G li = some (.code wa) := by kernel_rfl
theorem zc7w : G d6 = some (.code uc) := by kernel_rfl
theorem zc62 : G bp = some (.code ym) := by kernel_rfl
theorem zc7l : G jf = some (.code vy) := by kernel_rfl
theorem zc7k : G jg = some (.code vz) := by kernel_rfl
theorem zc6n : G nu = some (.code zced) := by kernel_rfl
theorem zc8d : G ik = some (.code rx) := by kernel_rfl
theorem zdaz : G nh = some (.code zcds) := by kernel_rfl
theorem zc7o : G je = some (.code vx) := by kernel_rfl
theorem zc7x : G ke = some (.code ub) := by kernel_rfl
theorem zda0 : G ng = some (.code zcdt) := by kernel_rfl
theorem zc59 : G o7 = some (.code zcd9) := by kernel_rfl
theorem zc61 : G ml = some (.code yn) := by kernel_rfl
theorem zc7i : G lm = some (.code wb) := by kernel_rfl
theorem zc90 : G rq = some (.code zcc6) := by kernel_rfl
theorem zdbk : G ly = some (.code zcd3) := by kernel_rfl
theorem zc9z : G jt = some (.code zcc5) := by kernel_rfl
theorem zc4r : G fk = some (.code zccj) := by kernel_rfl
theorem zc63 : G kc = some (.code yl) := by kernel_rfl
theorem zc88 : G a9 = some (.code l7) := by kernel_rfl
theorem zc8z : G dx = some (.prim zb2v) := by kernel_rfl
theorem zc8k : G bu = some (.prim zb0b) := by kernel_rfl
theorem zdbl : G lx = some (.code zcdw) := by kernel_rfl
theorem zc78 : G jr = some (.code sr) := by kernel_rfl
theorem zc7p : G lg = some (.code vv) := by kernel_rfl
theorem zc5p : G qw = some (.code zcd5) := by kernel_rfl
theorem zc4t : G yw = some (.code zccl) := by kernel_rfl
theorem zda1 : G nf = some (.code zcdu) := by kernel_rfl
theorem zc83 : G du = some (.code mn) := by kernel_rfl
theorem lu : G az = some (.code cv) := by kernel_rfl
theorem zc9a : G d4 = some (.code kw) := by kernel_rfl
theorem zc8c : G il = some (.code ry) := by kernel_rfl
end Ic
end Go.Proofs.Ytdcfoaafkppojaa
