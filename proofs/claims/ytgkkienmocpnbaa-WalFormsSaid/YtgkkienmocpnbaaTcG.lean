import Derived.Test.YtgkkienmocpnbaaTcT
import Derived.Test.YtgkkienmocpnbaaM15
/- The table of functions of the tree level. -/
namespace Go.Proofs.Ytgkkienmocpnbaa
open Go Go.RowKit Sh
namespace Ic
noncomputable def gl:List (Nat × TG):=[(kl,.code ve),(fq,.code zboy),(nf,.code zbnz),(ou,.code zbpd),(qd,.code zbo0),(qb,.code zboq),(sa,.code zbny),(bg,.code fx),(be,.prim zbh1),(en,.code ko),(bp,.code gm),(qc,.code zbo1),(jq,.code sr),(bf,.prim zbf0),(jp,.code sq),(ot,.code zbpe),(du,.code zbo2),(cy,.code ip),(ie,.prim zbb4),(zb0q,.code x6),(pk,.code sp),(qe,.code zboz),(fo,.code mi),(fb,.code lg),(gu,.code pf),(dw,.code mh),(dg,.code nz),(dv,.code mg),(dx,.code mj),(ge,.code n3),(vn,.code zcat),(uk,.code zcb4),(ng,.code zbnx),(vo,.code zcas),(qh,.code zcdd),(qg,.code zcde),(fp,.code zcb3),(uj,.code zcb5),(ov,.code zcdy),(l5,.code x7),(jx,.code zcdx),(qf,.code zcdf),(jr,.code ss),(jt,.code su),(j9,.code zbo4),(km,.code vf)]
noncomputable def G:FuncId → Option TG:=mv gl
theorem gok:GOK Try.prog G:=zbck (ba zb83 (ba zceq (ba za93 (ba zb7d (ba zcfc (ba m7 (ba za94 (ba sy (zbne mm (ba zcdp (ba vh (ba zcfd (ba zb9g (zbne ph (ba zb86 (ba zb7e (ba zcfe (ba zced (zbne zca3 (ba zb75 (ba zb87 (ba zcfb (ba zcby (ba zcc6 (ba zcaq (ba zcbz (ba zca2 (ba zcb0 (ba zcbx (ba zca1 (ba za95 (ba na (ba za96 (ba za97 (ba zcer (ba zce9 (ba nj (ba m9 (ba zb7c (ba zb74 (ba zb7b (ba zcfa (ba zb9f (ba zb9e (ba zcep (ba zb82 zbg1))))))))))))))))))))))))))))))))))))))))))))))
theorem zcew:G fq = some (.code zboy):=by kernel_rfl
theorem za9i:G nf = some (.code zbnz):=by kernel_rfl
theorem zb7l:G ou = some (.code zbpd):=by kernel_rfl
theorem zcey:G qd = some (.code zbo0):=by kernel_rfl
theorem mw:G qb = some (.code zboq):=by kernel_rfl
theorem za9j:G sa = some (.code zbny):=by kernel_rfl
theorem sn:G bg = some (.code fx):=by kernel_rfl
theorem vc:G be = some (.prim zbh1):=by kernel_rfl
theorem zcdg:G en = some (.code ko):=by kernel_rfl
theorem vd:G bp = some (.code gm):=by kernel_rfl
theorem zcez:G qc = some (.code zbo1):=by kernel_rfl
theorem zb88:G jq = some (.code sr):=by kernel_rfl
theorem zcef:G bf = some (.prim zbf0):=by kernel_rfl
theorem zb89:G jp = some (.code sq):=by kernel_rfl
theorem zb7m:G ot = some (.code zbpe):=by kernel_rfl
theorem zce0:G du = some (.code zbo2):=by kernel_rfl
theorem zcee:G cy = some (.code ip):=by kernel_rfl
theorem my:G ie = some (.prim zbb4):=by kernel_rfl
theorem zcex:G qe = some (.code zboz):=by kernel_rfl
theorem zcb7:G fo = some (.code mi):=by kernel_rfl
theorem zcc9:G fb = some (.code lg):=by kernel_rfl
theorem zcau:G gu = some (.code pf):=by kernel_rfl
theorem zcb8:G dw = some (.code mh):=by kernel_rfl
theorem zcbl:G dg = some (.code nz):=by kernel_rfl
theorem zcb9:G dv = some (.code mg):=by kernel_rfl
theorem zcb6:G dx = some (.code mj):=by kernel_rfl
theorem zcbk:G ge = some (.code n3):=by kernel_rfl
theorem za9k:G ng = some (.code zbnx):=by kernel_rfl
theorem zcev:G j9 = some (.code zbo4):=by kernel_rfl
theorem zb85:G km = some (.code vf):=by kernel_rfl
end Ic
end Go.Proofs.Ytgkkienmocpnbaa
