import Derived.Test.YtdcfoaafkppojaaTcT
import Derived.Test.YtdcfoaafkppojaaM15
/- The table of functions of the tree level. -/
namespace Go.Proofs.Ytdcfoaafkppojaa
open Go Go.RowKit Sh
namespace Ic
def gl : List (Nat × TG) := [(l9,.code xf),(xp,.code zb1w),(xo,.code zb1r),(zx,.code zb1t),(re,.code zb2u),(kq,.code zb2m),(zbva,.code zb1x),(zbq9,.code zb0z),(xm,.code zb10),(xl,.code zb11),(ja,.code zb1u),(ve,.code zb2n),(vd,.code zb2o),(n5,.code zb1z),(ul,.code zb12),(zy,.code zb1s),(xn,.code zb1y),(mj,.code zb24),(mv,.code zb29),(mi,.code zb2q),(qo,.code zb13),(lm,.code zb00),(qn,.code zb2r),(bp,.code fx),(ca,.code ik),(fy,.code zb3c),(zw,.code zb1v),(gc,.code zb3b),(fo,.prim zbhs),(g8,.prim zbhu),(jn,.prim zbht),(da,.code jm),(dx,.code li),(cp,.code ka),(ei,.code mq),(il,.code zb25),(g9,.code zb3a),(jw,.code xd),(dp,.code ue),(dd,.code l7),(fq,.code nw),(qp,.code zb2p),(bg,.code er),(bu,.code gm),(gf,.code zb28),(rc,.code zb2v),(kd,.code zb26),(io,.code yj),(rb,.code zb2w),(im,.code yi),(jq,.code uf)]
def G : FuncId → Option TG := zbc9 gl
theorem gok : GOK Try.prog G := zbmp (bb zctd (bb zcuu (bb zbdl (bb zbdj (bb zcqx (bb zcvp (bb zcuv (bb zbjz (bb zcuy (bb zcuz (bb zbdi (bb zcvq (bb zcvr (bb zcux (bb zcu0 (bb zbdk (bb zcuw (bb zcq0 (bb zcry (bb zcvt (bb zcu1 (bb zbjy (bb zcvu (bb uh (bb wa (bb zcr1 (bb zbdh (bb zcr0 (zb0c zcuj (zb0c zcuc (zb0c zct8 (bb yl (bb zcuo (bb zcum (bb zcug (bb zcq1 (bb zcrz (bb zcte (bb zctu (bb zcuf (bb zct6 (bb zcvs (bb sc (bb vh (bb zcrx (bb zcqy (bb zcq2 (bb zcse (bb zcqz (bb zcsf (bb zctt zbsp)))))))))))))))))))))))))))))))))))))))))))))))))))
theorem zcsv : G l9 = some (.code xf) := by kernel_rfl
theorem zcu4 : G xp = some (.code zb1w) := by kernel_rfl
theorem zbde : G xo = some (.code zb1r) := by kernel_rfl
theorem zbdc : G zx = some (.code zb1t) := by kernel_rfl
theorem zcq6 : G re = some (.code zb2u) := by kernel_rfl
theorem zcv8 : G kq = some (.code zb2m) := by kernel_rfl
theorem zcu5 : G zbva = some (.code zb1x) := by kernel_rfl
theorem zbjg : G zbq9 = some (.code zb0z) := by kernel_rfl
theorem zcu8 : G xm = some (.code zb10) := by kernel_rfl
theorem zcvb : G xl = some (.code zb11) := by kernel_rfl
theorem zbdb : G ja = some (.code zb1u) := by kernel_rfl
theorem zcv9 : G ve = some (.code zb2n) := by kernel_rfl
theorem zcwa : G vd = some (.code zb2o) := by kernel_rfl
theorem zcu7 : G n5 = some (.code zb1z) := by kernel_rfl
theorem zcvc : G ul = some (.code zb12) := by kernel_rfl
theorem zbdd : G zy = some (.code zb1s) := by kernel_rfl
theorem zcu6 : G xn = some (.code zb1y) := by kernel_rfl
theorem zcq9 : G mj = some (.code zb24) := by kernel_rfl
theorem zcr3 : G mv = some (.code zb29) := by kernel_rfl
theorem zcwc : G mi = some (.code zb2q) := by kernel_rfl
theorem zcvd : G qo = some (.code zb13) := by kernel_rfl
theorem zbjf : G lm = some (.code zb00) := by kernel_rfl
theorem zcwd : G qn = some (.code zb2r) := by kernel_rfl
theorem ud : G bp = some (.code fx) := by kernel_rfl
theorem vz : G ca = some (.code ik) := by kernel_rfl
theorem zcr6 : G fy = some (.code zb3c) := by kernel_rfl
theorem zbda : G zw = some (.code zb1v) := by kernel_rfl
theorem zcr5 : G gc = some (.code zb3b) := by kernel_rfl
theorem zcty : G fo = some (.prim zbhs) := by kernel_rfl
theorem zctf : G g8 = some (.prim zbhu) := by kernel_rfl
theorem zcsj : G jn = some (.prim zbht) := by kernel_rfl
theorem yh : G da = some (.code jm) := by kernel_rfl
theorem zcup : G dx = some (.code li) := by kernel_rfl
theorem zcun : G cp = some (.code ka) := by kernel_rfl
theorem zcuh : G ei = some (.code mq) := by kernel_rfl
theorem zcra : G il = some (.code zb25) := by kernel_rfl
theorem zcr4 : G g9 = some (.code zb3a) := by kernel_rfl
theorem zcsw : G jw = some (.code xd) := by kernel_rfl
theorem zctx : G dp = some (.code ue) := by kernel_rfl
theorem zcui : G dd = some (.code l7) := by kernel_rfl
theorem zct7 : G fq = some (.code nw) := by kernel_rfl
theorem zcwb : G qp = some (.code zb2p) := by kernel_rfl
theorem sb : G bg = some (.code er) := by kernel_rfl
theorem vg : G bu = some (.code gm) := by kernel_rfl
theorem zcr2 : G gf = some (.code zb28) := by kernel_rfl
theorem zcq7 : G rc = some (.code zb2v) := by kernel_rfl
theorem zccu : G kd = some (.code zb26) := by kernel_rfl
theorem zcsh : G io = some (.code yj) := by kernel_rfl
theorem zcq8 : G rb = some (.code zb2w) := by kernel_rfl
theorem zcsi : G im = some (.code yi) := by kernel_rfl
theorem zctw : G jq = some (.code uf) := by kernel_rfl
end Ic
end Go.Proofs.Ytdcfoaafkppojaa
