import Derived.Test.YtgkkienmocpnbaaTcT
import Derived.Test.YtgkkienmocpnbaaM15
/- The table of functions of the tree level. -/
namespace Go.Proofs.Ytgkkienmocpnbaa
open Go Go.RowKit Sh
namespace Ic
noncomputable def gl:List (Nat × TG):=[(kl,.code ve),(fq,.code zbpa),(nf,.code zbog),(ou,.code zbpq),(qd,.code zbpc),(qb,.code zbo3),(sa,.code zbof),(bg,.code fx),(be,.prim zbim),(en,.code ko),(bp,.code gm),(qc,.code zbpd),(jq,.code sr),(bf,.prim zbgk),(jp,.code sq),(ot,.code zbpr),(du,.code zbpe),(cy,.code ip),(ie,.prim zbcn),(zb0p,.code x6),(pk,.code sp),(qe,.code zbpb),(fo,.code mi),(fb,.code lg),(gu,.code pf),(dw,.code mh),(dg,.code nz),(dv,.code mg),(dx,.code mj),(ge,.code n3),(vn,.code zcay),(uk,.code zccb),(ng,.code zcax),(vo,.code zcaw),(qh,.code zcdm),(qg,.code zcdn),(fp,.code zcca),(uj,.code zccc),(ov,.code zceh),(l5,.code x7),(jx,.code zceg),(qf,.code zcdo),(jr,.code ss),(jt,.code su),(j9,.code zbpg),(km,.code vf)]
noncomputable def G:FuncId → Option TG:=nm gl
theorem gok:GOK Try.prog G:=zbc4 (ba zb8x (ba zcfi (ba zban (ba zb66 (ba zcf4 (ba oq (ba zbao (ba sy (zbnx mm (ba zcdy (ba vh (ba zcf5 (ba zb9b (zbnx ph (ba zb8z (ba zb67 (ba zcf6 (ba zcex (zbnx zca8 (ba zb7z (ba zb80 (ba zcf3 (ba zcb5 (ba zcdd (ba zcau (ba zcb6 (ba zca7 (ba zcb7 (ba zcb4 (ba zca6 (ba zbap (ba pj (ba zbaq (ba zbar (ba zcfj (ba zcf1 (ba py (ba pi (ba zb65 (ba zb7y (ba zb64 (ba zcf2 (ba zb9a (ba zb89 (ba zcfh (ba zb8w zbhm))))))))))))))))))))))))))))))))))))))))))))))
theorem zcfo:G fq = some (.code zbpa):=by kernel_rfl
theorem za93:G nf = some (.code zbog):=by kernel_rfl
theorem zb7e:G ou = some (.code zbpq):=by kernel_rfl
theorem zcfq:G qd = some (.code zbpc):=by kernel_rfl
theorem nn:G qb = some (.code zbo3):=by kernel_rfl
theorem za94:G sa = some (.code zbof):=by kernel_rfl
theorem sn:G bg = some (.code fx):=by kernel_rfl
theorem vc:G be = some (.prim zbim):=by kernel_rfl
theorem zcdp:G en = some (.code ko):=by kernel_rfl
theorem vd:G bp = some (.code gm):=by kernel_rfl
theorem zcfr:G qc = some (.code zbpd):=by kernel_rfl
theorem zb82:G jq = some (.code sr):=by kernel_rfl
theorem zcez:G bf = some (.prim zbgk):=by kernel_rfl
theorem zb83:G jp = some (.code sq):=by kernel_rfl
theorem zb7f:G ot = some (.code zbpr):=by kernel_rfl
theorem zcfs:G du = some (.code zbpe):=by kernel_rfl
theorem zcey:G cy = some (.code ip):=by kernel_rfl
theorem n1:G ie = some (.prim zbcn):=by kernel_rfl
theorem zcfp:G qe = some (.code zbpb):=by kernel_rfl
theorem zcce:G fo = some (.code mi):=by kernel_rfl
theorem zcdg:G fb = some (.code lg):=by kernel_rfl
theorem zcaz:G gu = some (.code pf):=by kernel_rfl
theorem zccf:G dw = some (.code mh):=by kernel_rfl
theorem zcbs:G dg = some (.code nz):=by kernel_rfl
theorem zccg:G dv = some (.code mg):=by kernel_rfl
theorem zccd:G dx = some (.code mj):=by kernel_rfl
theorem zcbr:G ge = some (.code n3):=by kernel_rfl
theorem zb81:G jt = some (.code su):=by kernel_rfl
theorem zcfn:G j9 = some (.code zbpg):=by kernel_rfl
end Ic
end Go.Proofs.Ytgkkienmocpnbaa
