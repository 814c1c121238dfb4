import Derived.Test.YtgkkienmocpnbaaTcT
import Derived.Test.YtgkkienmocpnbaaM15
/- The table of functions of the tree level. -/
namespace Go.Proofs.Ytgkkienmocpnbaa
open Go Go.RowKit Sh
namespace Ic
noncomputable def gl:List (Nat × TG):=[(kl,.code ve),(fq,.code zbtp),(nf,.code zbsr),(ou,.code zbub),(qd,.code zbtu),(qb,.code zbti),(sa,.code zbsq),(bg,.code fx),(be,.prim zbmg),(en,.code ko),(bp,.code gm),(qc,.code zbtv),(jq,.code sr),(bf,.prim zbj6),(jp,.code sq),(ot,.code zbuc),(du,.code zbtw),(cy,.code ip),(ie,.prim zbfz),(zb8g,.code x6),(pk,.code sp),(qe,.code zbtt),(fo,.code mi),(fb,.code lg),(gu,.code pf),(dw,.code mh),(dg,.code nz),(dv,.code mg),(dx,.code mj),(ge,.code n3),(vn,.code zbsp),(uk,.code zbtg),(ng,.code zbso),(vo,.code zbsn),(qh,.code zbtq),(qg,.code zbtr),(fp,.code zbtf),(uj,.code zbth),(ov,.code zbua),(l5,.code x7),(jx,.code zbt9),(qf,.code zbts),(jr,.code ss),(jt,.code su),(j9,.code zcjk),(km,.code vf)]
noncomputable def G:FuncId → Option TG:=za4v gl
theorem gok:GOK Try.prog G:=zbgh (ba zcg4 (ba zckl (ba zbdw (ba zce0 (ba zcla (ba za77 (ba zbdx (ba sy (zbr6 mm (ba zcjh (ba vh (ba zclb (ba zchj (zbr6 ph (ba zcg7 (ba zce1 (ba zclc (ba zcj0 (zbr6 zcic (ba zcfw (ba zcg8 (ba zck9 (ba zcir (ba zci6 (ba zch1 (ba zcis (ba zcib (ba zcit (ba zciq (ba zcia (ba zbdy (ba za79 (ba zbdz (ba zbd0 (ba zckm (ba zck7 (ba za8a (ba za78 (ba zcez (ba zcfv (ba zcey (ba zck8 (ba zchi (ba zchh (ba zckk (ba zcg3 zbld))))))))))))))))))))))))))))))))))))))))))))))
theorem zcg6:G kl = some (.code ve):=by kernel_rfl
theorem zckr:G fq = some (.code zbtp):=by kernel_rfl
theorem zbc8:G nf = some (.code zbsr):=by kernel_rfl
theorem zcfc:G ou = some (.code zbub):=by kernel_rfl
theorem zckw:G qd = some (.code zbtu):=by kernel_rfl
theorem za4w:G qb = some (.code zbti):=by kernel_rfl
theorem zbc9:G sa = some (.code zbsq):=by kernel_rfl
theorem sn:G bg = some (.code fx):=by kernel_rfl
theorem vc:G be = some (.prim zbmg):=by kernel_rfl
theorem zcje:G en = some (.code ko):=by kernel_rfl
theorem vd:G bp = some (.code gm):=by kernel_rfl
theorem zckx:G qc = some (.code zbtv):=by kernel_rfl
theorem zcha:G jq = some (.code sr):=by kernel_rfl
theorem zcj2:G bf = some (.prim zbj6):=by kernel_rfl
theorem zchb:G jp = some (.code sq):=by kernel_rfl
theorem zcfd:G ot = some (.code zbuc):=by kernel_rfl
theorem zcky:G du = some (.code zbtw):=by kernel_rfl
theorem zcj1:G cy = some (.code ip):=by kernel_rfl
theorem za4x:G ie = some (.prim zbfz):=by kernel_rfl
theorem zckv:G qe = some (.code zbtt):=by kernel_rfl
theorem zcix:G fo = some (.code mi):=by kernel_rfl
theorem zci9:G fb = some (.code lg):=by kernel_rfl
theorem zch3:G gu = some (.code pf):=by kernel_rfl
theorem zciy:G dw = some (.code mh):=by kernel_rfl
theorem zcio:G dg = some (.code nz):=by kernel_rfl
theorem zciz:G dv = some (.code mg):=by kernel_rfl
theorem zciw:G dx = some (.code mj):=by kernel_rfl
theorem zcin:G ge = some (.code n3):=by kernel_rfl
theorem zbda:G vn = some (.code zbsp):=by kernel_rfl
theorem za5e:G uk = some (.code zbtg):=by kernel_rfl
theorem zbdb:G ng = some (.code zbso):=by kernel_rfl
theorem zbdc:G vo = some (.code zbsn):=by kernel_rfl
theorem zcks:G qh = some (.code zbtq):=by kernel_rfl
theorem zckt:G qg = some (.code zbtr):=by kernel_rfl
theorem za5f:G fp = some (.code zbtf):=by kernel_rfl
theorem za5d:G uj = some (.code zbth):=by kernel_rfl
theorem zcfb:G ov = some (.code zbua):=by kernel_rfl
theorem zcf1:G l5 = some (.code x7):=by kernel_rfl
theorem zcfa:G jx = some (.code zbt9):=by kernel_rfl
theorem zcku:G qf = some (.code zbts):=by kernel_rfl
theorem zcg9:G jr = some (.code ss):=by kernel_rfl
end Ic
end Go.Proofs.Ytgkkienmocpnbaa
