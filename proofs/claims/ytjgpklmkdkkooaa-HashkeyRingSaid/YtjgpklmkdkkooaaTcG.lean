import Derived.Test.YtjgpklmkdkkooaaTcT
import Derived.Test.YtjgpklmkdkkooaaM15
/- The table of functions of the tree level. -/
namespace Go.Proofs.Ytjgpklmkdkkooaa
open Go Go.RowKit Sh
namespace Ic
def gl : List (Nat × TG):=[(pv,.code zckf),(x7,.code zcht),(j8,.code zcjz),(yq,.code zcja),(vn,.code zcjk),(sb,.code zci6),(cb,.code nv),(dz,.code qg),(xz,.code zch5),(qi,.code zck0),(xx,.code zci7),(bf,.code jx),(ca,.code l9),(jz,.code zcjq),(zb7e,.code zchs),(j0,.code zcjp),(jq,.prim zbsp),(lw,.prim zbsr),(ny,.prim zbsq),(eu,.code ov),(ik,.code sq),(me,.code zcjb),(lx,.code zcjl),(rk,.code zcj7),(gn,.code zckh),(ft,.code rb),(jt,.code uo),(pm,.code zcjn),(zbzb,.code zckz),(bk,.code nu),(dt,.prim zb6v),(cd,.prim zb2x),(lu,.code vt),(er,.code ou),(zb7q,.code zch3),(ug,.code zcj0),(uf,.code zcj1),(zb7v,.code zci5),(ki,.code zch4),(il,.code sr),(zb7t,.code zcio),(cz,.code jk),(dl,.code kd),(j9,.code zcjj),(ri,.code zcj9),(mc,.code zcki),(zb7u,.code zciq),(zb3b,.code zchr),(fy,.code zci4),(zbww,.code zcky),(uu,.code zch2),(m6,.code zcjo),(zb3c,.code zchv),(zbzd,.code zchm),(zb82,.code zchu),(sf,.code zcim),(po,.code zcil),(vo,.code zchn),(zb24,.code zckx),(zb7o,.code zchx),(zb7p,.code zchy),(mv,.code zchp),(zb7s,.code zcin),(uw,.code zchw),(zb3d,.code zchz),(zb7d,.code zcho),(yr,.code zci9),(m7,.code zcjm),(zb3a,.code zchq),(zb3f,.code zch1),(se,.code zcip),(zb3e,.code zch0),(rj,.code zcj8),(pw,.code zdg3),(qj,.code zdgk),(yp,.code zdff),(gi,.code zdgl),(i8,.code zdgm),(iz,.code zdgn),(uv,.code zdd9),(x6,.code zdep)]
def G : FuncId → Option TG:=za9c gl
theorem gok : GOK Try.prog G:=zbx8 (aw zdi1 (aw zc9v (aw zdh2 (aw zdcz (aw zddc (aw zdbg (aw zdgi (aw zdfr (aw zc98 (aw zbuo (aw zdbh (aw zdg5 (aw zdgy (aw zddi (aw zbf3 (aw zddh (zb94 zdfh (zb94 zde8 (zb94 zdem (aw zdfv (aw zde4 (aw zdc0 (aw zddd (aw zdig (aw zdjg (aw zdfk (aw zdek (aw zddf (aw zbup (aw zdgj (zb94 z3 (zb94 zdg2 (aw zdd8 (aw zdfw (aw zc96 (aw zdhr (aw zdhs (aw zdbf (aw zc97 (aw zde3 (aw zdbb (aw z0 (aw zdgz (aw zddb (aw zdii (aw zdjh (aw zdbd (aw zbgs (aw zdbe (aw zbuq (aw zc95 (aw zddg (aw zc9x (aw zbje (aw zc9w (aw zda8 (aw zda7 (aw zbi6 (aw zbur (aw zc9z (aw zc90 (aw zbin (aw zda9 (aw zc9y (aw zc91 (aw zbi5 (aw zdcy (aw zdde (aw zbh8 (aw zc94 (aw zdbc (aw zc93 (aw zdih (aw zdi0 (aw zdh1 (aw zdc1 (aw zdh3 (aw zdhp (aw zdhq (aw zc92 (aw zdba zb5m)))))))))))))))))))))))))))))))))))))))))))))))))))))))))))))))))))))))))))))))))
theorem zdi3 : G pv = some (.code zckf):=by kernel_rfl
theorem zdaw : G x7 = some (.code zcht):=by kernel_rfl
theorem zdhu : G j8 = some (.code zcjz):=by kernel_rfl
theorem zdcl : G yq = some (.code zcja):=by kernel_rfl
theorem zddk : G vn = some (.code zcjk):=by kernel_rfl
theorem zdbu : G sb = some (.code zci6):=by kernel_rfl
theorem ve : G cb = some (.code nv):=by kernel_rfl
theorem zj : G dz = some (.code qg):=by kernel_rfl
theorem zdal : G xz = some (.code zch5):=by kernel_rfl
theorem zbtz : G qi = some (.code zck0):=by kernel_rfl
theorem zdbv : G xx = some (.code zci7):=by kernel_rfl
theorem qf : G bf = some (.code jx):=by kernel_rfl
theorem sy : G ca = some (.code l9):=by kernel_rfl
theorem zdhh : G jz = some (.code zcjq):=by kernel_rfl
theorem za92 : G zb7e = some (.code zchs):=by kernel_rfl
theorem zdhg : G j0 = some (.code zcjp):=by kernel_rfl
theorem zdjl : G jq = some (.prim zbsp):=by kernel_rfl
theorem zdi4 : G lw = some (.prim zbsr):=by kernel_rfl
theorem zdhx : G ny = some (.prim zbsq):=by kernel_rfl
theorem zdfx : G eu = some (.code ov):=by kernel_rfl
theorem zdes : G ik = some (.code sq):=by kernel_rfl
theorem zdcm : G me = some (.code zcjb):=by kernel_rfl
theorem zddl : G lx = some (.code zcjl):=by kernel_rfl
theorem zdij : G rk = some (.code zcj7):=by kernel_rfl
theorem zdjj : G gn = some (.code zckh):=by kernel_rfl
theorem zdfg : G ft = some (.code rb):=by kernel_rfl
theorem zdel : G jt = some (.code uo):=by kernel_rfl
theorem zddn : G pm = some (.code zcjn):=by kernel_rfl
theorem zbt0 : G zbzb = some (.code zckz):=by kernel_rfl
theorem zdgo : G bk = some (.code nu):=by kernel_rfl
theorem zdf3 : G dt = some (.prim zb6v):=by kernel_rfl
theorem zdet : G cd = some (.prim zb2x):=by kernel_rfl
theorem zdef : G lu = some (.code vt):=by kernel_rfl
theorem zdfy : G er = some (.code ou):=by kernel_rfl
theorem zdaj : G zb7q = some (.code zch3):=by kernel_rfl
theorem zdhv : G ug = some (.code zcj0):=by kernel_rfl
theorem zdhw : G uf = some (.code zcj1):=by kernel_rfl
theorem zdbt : G zb7v = some (.code zci5):=by kernel_rfl
theorem zdak : G ki = some (.code zch4):=by kernel_rfl
theorem zder : G il = some (.code sr):=by kernel_rfl
theorem zdbp : G zb7t = some (.code zcio):=by kernel_rfl
theorem zy : G cz = some (.code jk):=by kernel_rfl
theorem zdg0 : G dl = some (.code kd):=by kernel_rfl
theorem zddj : G j9 = some (.code zcjj):=by kernel_rfl
theorem zdil : G ri = some (.code zcj9):=by kernel_rfl
theorem zdjk : G mc = some (.code zcki):=by kernel_rfl
theorem zdbr : G zb7u = some (.code zciq):=by kernel_rfl
theorem zbav : G zb3b = some (.code zchr):=by kernel_rfl
theorem zdbs : G fy = some (.code zci4):=by kernel_rfl
theorem zcq5 : G zbww = some (.code zcky):=by kernel_rfl
theorem zdai : G uu = some (.code zch2):=by kernel_rfl
theorem zddo : G m6 = some (.code zcjo):=by kernel_rfl
theorem zday : G zb3c = some (.code zchv):=by kernel_rfl
theorem zbdo : G zbzd = some (.code zchm):=by kernel_rfl
theorem zdax : G zb82 = some (.code zchu):=by kernel_rfl
theorem zdbn : G sf = some (.code zcim):=by kernel_rfl
theorem zdbm : G po = some (.code zcil):=by kernel_rfl
theorem zbc7 : G vo = some (.code zchn):=by kernel_rfl
theorem zbt1 : G zb24 = some (.code zckx):=by kernel_rfl
theorem zda0 : G zb7o = some (.code zchx):=by kernel_rfl
theorem zda1 : G zb7p = some (.code zchy):=by kernel_rfl
theorem zbc0 : G mv = some (.code zchp):=by kernel_rfl
theorem zdbo : G zb7s = some (.code zcin):=by kernel_rfl
theorem zdaz : G uw = some (.code zchw):=by kernel_rfl
theorem zda2 : G zb3d = some (.code zchz):=by kernel_rfl
theorem zbc2 : G zb7d = some (.code zcho):=by kernel_rfl
theorem zdck : G yr = some (.code zci9):=by kernel_rfl
theorem zddm : G m7 = some (.code zcjm):=by kernel_rfl
theorem zbbj : G zb3a = some (.code zchq):=by kernel_rfl
theorem zdah : G zb3f = some (.code zch1):=by kernel_rfl
theorem zdbq : G se = some (.code zcip):=by kernel_rfl
theorem zdag : G zb3e = some (.code zch0):=by kernel_rfl
theorem zdik : G rj = some (.code zcj8):=by kernel_rfl
end Ic
end Go.Proofs.Ytjgpklmkdkkooaa
