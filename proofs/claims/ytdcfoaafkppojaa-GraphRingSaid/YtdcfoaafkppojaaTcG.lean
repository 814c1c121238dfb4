import Derived.Test.YtdcfoaafkppojaaTcT
import Derived.Test.YtdcfoaafkppojaaM15
/- The table of functions of the tree level. -/
namespace Go.Proofs.Ytdcfoaafkppojaa
open Go Go.RowKit Sh
namespace Ic
def gl : List (Nat × TG) := [(nu,.code yg),(qp,.code zb0q),(xk,.code zb0c),(zl,.code zb0e),(rf,.code zb1p),(lf,.code zb07),(zbt7,.code zb0r),(zbp8,.code zbzt),(xi,.code zb0u),(xh,.code zb0w),(jd,.code zb0f),(vd,.code zb08),(vc,.code zb09),(od,.code zb0t),(ul,.code zb0x),(zm,.code zb0d),(xj,.code zb0s),(oa,.code zb1s),(m6,.code zb14),(mq,.code zb1b),(qo,.code zb0y),(lz,.code zbzu),(qn,.code zb1c),(bq,.code fu),(ca,.code ij),(fv,.code z8),(zk,.code zb0g),(fx,.code z9),(fj,.prim zbgx),(g7,.prim zbgz),(jw,.prim zbgy),(db,.code ju),(dy,.code ly),(cn,.code ki),(eh,.code m4),(il,.code zb1t),(g8,.code zb15),(kb,.code w9),(du,.code ug),(dh,.code mh),(fo,.code n6),(iv,.code zb1a),(bh,.code ep),(bv,.code gi),(fy,.code zb13),(re,.code zb1q),(kj,.code zb1u),(io,.code yf),(rc,.code zb1r),(im,.code ye)]
def G : FuncId → Option TG := zbck gl
theorem gok : GOK Try.prog G := zblw (bd zcqq (bd zcs8 (bd zbcw (bd zbcu (bd zcpm (bd zct4 (bd zcs9 (bd zbi1 (bd zctc (bd zctd (bd zbct (bd zct5 (bd zct6 (bd zctb (bd zctu (bd zbcv (bd zcta (bd zcpp (bd zcqi (bd zct8 (bd zctv (bd zbi0 (bd zct3 (bd uh (bd vx (bd zcql (bd zbcs (bd zcqk (zby2 zcsw (zby2 zcsx (zby2 zcso (bd yi (bd zcsz (bd zcs3 (bd zcsr (bd zcpq (bd zcqj (bd zcrk (bd zcr8 (bd zcsu (bd zcsm (bd zct7 (bd sf (bd vg (bd zcqh (bd zcpn (bd zcpr (bd zcqr (bd zcpo (bd zcqs zbrq))))))))))))))))))))))))))))))))))))))))))))))))))
theorem zcrb : G nu = some (.code yg) := by kernel_rfl
theorem zcte : G qp = some (.code zb0q) := by kernel_rfl
theorem zbcp : G xk = some (.code zb0c) := by kernel_rfl
theorem zbcn : G zl = some (.code zb0e) := by kernel_rfl
theorem zcp9 : G rf = some (.code zb1p) := by kernel_rfl
theorem zcua : G lf = some (.code zb07) := by kernel_rfl
theorem zctf : G zbt7 = some (.code zb0r) := by kernel_rfl
theorem zbih : G zbp8 = some (.code zbzt) := by kernel_rfl
theorem zcti : G xi = some (.code zb0u) := by kernel_rfl
theorem zctj : G xh = some (.code zb0w) := by kernel_rfl
theorem zbcm : G jd = some (.code zb0f) := by kernel_rfl
theorem zcub : G vd = some (.code zb08) := by kernel_rfl
theorem zcuc : G vc = some (.code zb09) := by kernel_rfl
theorem zcth : G od = some (.code zb0t) := by kernel_rfl
theorem zctk : G ul = some (.code zb0x) := by kernel_rfl
theorem zbco : G zm = some (.code zb0d) := by kernel_rfl
theorem zctg : G xj = some (.code zb0s) := by kernel_rfl
theorem zcpu : G oa = some (.code zb1s) := by kernel_rfl
theorem zcqu : G m6 = some (.code zb14) := by kernel_rfl
theorem zcue : G mq = some (.code zb1b) := by kernel_rfl
theorem zctl : G qo = some (.code zb0y) := by kernel_rfl
theorem zbig : G lz = some (.code zbzu) := by kernel_rfl
theorem zcuf : G qn = some (.code zb1c) := by kernel_rfl
theorem uf : G bq = some (.code fu) := by kernel_rfl
theorem vv : G ca = some (.code ij) := by kernel_rfl
theorem zcqx : G fv = some (.code z8) := by kernel_rfl
theorem zbcl : G zk = some (.code zb0g) := by kernel_rfl
theorem zcqw : G fx = some (.code z9) := by kernel_rfl
theorem zcsd : G fj = some (.prim zbgx) := by kernel_rfl
theorem zcrz : G g7 = some (.prim zbgz) := by kernel_rfl
theorem zcq4 : G jw = some (.prim zbgy) := by kernel_rfl
theorem yd : G db = some (.code ju) := by kernel_rfl
theorem zcs0 : G dy = some (.code ly) := by kernel_rfl
theorem z7 : G cn = some (.code ki) := by kernel_rfl
theorem zcss : G eh = some (.code m4) := by kernel_rfl
theorem zcpv : G il = some (.code zb1t) := by kernel_rfl
theorem zcqv : G g8 = some (.code zb15) := by kernel_rfl
theorem zcrl : G kb = some (.code w9) := by kernel_rfl
theorem zcsg : G du = some (.code ug) := by kernel_rfl
theorem zcsv : G dh = some (.code mh) := by kernel_rfl
theorem zcsn : G fo = some (.code n6) := by kernel_rfl
theorem zcud : G iv = some (.code zb1a) := by kernel_rfl
theorem se : G bh = some (.code ep) := by kernel_rfl
theorem vf : G bv = some (.code gi) := by kernel_rfl
theorem zcqm : G fy = some (.code zb13) := by kernel_rfl
theorem zcqa : G re = some (.code zb1q) := by kernel_rfl
theorem zcaq : G kj = some (.code zb1u) := by kernel_rfl
theorem zcrc : G io = some (.code yf) := by kernel_rfl
theorem zcqb : G rc = some (.code zb1r) := by kernel_rfl
theorem zcq3 : G im = some (.code ye) := by kernel_rfl
end Ic
end Go.Proofs.Ytdcfoaafkppojaa
