import Derived.Test.YtjgpklmkdkkooaaTcT
import Derived.Test.YtjgpklmkdkkooaaM15
/- The table of functions of the tree level. -/
namespace Go.Proofs.Ytjgpklmkdkkooaa
open Go Go.RowKit Sh
namespace Ic
def gl:List (Nat × TG):=[(pv,.code zdik),(x7,.code zcir),(j8,.code zck4),(yq,.code zckc),(vn,.code zcko),(sb,.code zcj8),(cb,.code nv),(dz,.code qg),(xz,.code zci4),(qi,.code zcma),(xx,.code zcj9),(bf,.code jx),(ca,.code l9),(jz,.code zcku),(zb70,.code zciq),(j0,.code zckt),(jq,.prim zbty),(lw,.prim zbt0),(ny,.prim zbtz),(eu,.code ov),(ik,.code sq),(me,.code zckd),(lx,.code zckp),(rk,.code zclj),(gn,.code zclr),(ft,.code rb),(jt,.code uo),(pm,.code zckr),(zb0d,.code zcl9),(bk,.code nu),(dt,.prim zb7k),(cd,.prim zb3o),(lu,.code vt),(er,.code ou),(zb8c,.code zci2),(ug,.code zck8),(uf,.code zck9),(zb8i,.code zcj7),(ki,.code zci3),(il,.code sr),(zb8g,.code zcjq),(cz,.code jk),(dl,.code kd),(j9,.code zckn),(ri,.code zclk),(mc,.code zcls),(zb8h,.code zcjs),(zb34,.code zcip),(fy,.code zcj6),(zbx1,.code zcl8),(uu,.code zci1),(m6,.code zcks),(zb35,.code zcit),(zb0e,.code zcik),(zb9t,.code zcis),(sf,.code zcjn),(po,.code zcjm),(vo,.code zcil),(zb3x,.code zcl7),(zb8a,.code zciv),(zb8b,.code zciw),(mv,.code zcin),(zb8f,.code zcjo),(uw,.code zciu),(zb36,.code zcix),(zb7z,.code zcim),(yr,.code zckb),(m7,.code zckq),(zb33,.code zcio),(zb38,.code zci0),(se,.code zcjr),(zb37,.code zciz),(rj,.code zdia),(pw,.code zclp),(qj,.code zck3),(yp,.code zcke),(gi,.code zck5),(i8,.code zck6),(iz,.code zck7),(uv,.code zciy),(x6,.code zcjp)]
def G:FuncId → Option TG:=zbpy gl
theorem gok:GOK Try.prog G:=zbzd (aw zdkq (aw zdce (aw zdjq (aw zdfl (aw zdfy (aw zddz (aw zdh1 (aw zdhc (aw zdcr (aw zbvv (aw zdd0 (aw zdim (aw zdid (aw zdf4 (aw zbp8 (aw zdf3 (zcav zdg4 (zcav zdg1 (zcav zdgs (aw zdhg (aw zdg0 (aw zdfm (aw zdfz (aw zdj4 (aw zdk7 (aw zdg6 (aw zdgq (aw zdf1 (aw zbvw (aw zdh2 (zcav z3 (zcav zdij (aw zdgm (aw zdhh (aw zdcp (aw zdjb (aw zdjc (aw zddy (aw zdcq (aw zdgz (aw zddu (aw z0 (aw zdig (aw zdfx (aw zdj6 (aw zdk8 (aw zddw (aw zbp9 (aw zddx (aw zbvx (aw zdco (aw zdf2 (aw zdcg (aw zbqe (aw zdcf (aw zddr (aw zddq (aw zbqd (aw zbvy (aw zdci (aw zdcj (aw zbqb (aw zdds (aw zdch (aw zdck (aw zbqc (aw zdfk (aw zdf0 (aw zbqa (aw zdcn (aw zddv (aw zdcm (aw zdj5 (aw zdkp (aw zdjp (aw zdfn (aw zdjr (aw zdi9 (aw zdja (aw zdcl (aw zddt zb6a)))))))))))))))))))))))))))))))))))))))))))))))))))))))))))))))))))))))))))))))))
theorem zddg:G x7 = some (.code zcir):=by kernel_rfl
theorem zdjf:G j8 = some (.code zck4):=by kernel_rfl
theorem zde6:G yq = some (.code zckc):=by kernel_rfl
theorem zdf6:G vn = some (.code zcko):=by kernel_rfl
theorem zdef:G sb = some (.code zcj8):=by kernel_rfl
theorem ve:G cb = some (.code nv):=by kernel_rfl
theorem zj:G dz = some (.code qg):=by kernel_rfl
theorem zdc5:G xz = some (.code zci4):=by kernel_rfl
theorem zbu6:G qi = some (.code zcma):=by kernel_rfl
theorem zdeg:G xx = some (.code zcj9):=by kernel_rfl
theorem qf:G bf = some (.code jx):=by kernel_rfl
theorem sy:G ca = some (.code l9):=by kernel_rfl
theorem zdi1:G jz = some (.code zcku):=by kernel_rfl
theorem zbpz:G zb70 = some (.code zciq):=by kernel_rfl
theorem zdi0:G j0 = some (.code zckt):=by kernel_rfl
theorem zdlc:G jq = some (.prim zbty):=by kernel_rfl
theorem zdkt:G lw = some (.prim zbt0):=by kernel_rfl
theorem zdjl:G ny = some (.prim zbtz):=by kernel_rfl
theorem zdhi:G eu = some (.code ov):=by kernel_rfl
theorem zdgw:G ik = some (.code sq):=by kernel_rfl
theorem zde7:G me = some (.code zckd):=by kernel_rfl
theorem zdf7:G lx = some (.code zckp):=by kernel_rfl
theorem zdj8:G rk = some (.code zclj):=by kernel_rfl
theorem zdla:G gn = some (.code zclr):=by kernel_rfl
theorem zdg3:G ft = some (.code rb):=by kernel_rfl
theorem zdgr:G jt = some (.code uo):=by kernel_rfl
theorem zdf9:G pm = some (.code zckr):=by kernel_rfl
theorem zbu7:G zb0d = some (.code zcl9):=by kernel_rfl
theorem zdh3:G bk = some (.code nu):=by kernel_rfl
theorem zdhv:G dt = some (.prim zb7k):=by kernel_rfl
theorem zdgx:G cd = some (.prim zb3o):=by kernel_rfl
theorem zdgn:G lu = some (.code vt):=by kernel_rfl
theorem zdhj:G er = some (.code ou):=by kernel_rfl
theorem zdc3:G zb8c = some (.code zci2):=by kernel_rfl
theorem zdjj:G ug = some (.code zck8):=by kernel_rfl
theorem zdjk:G uf = some (.code zck9):=by kernel_rfl
theorem zdee:G zb8i = some (.code zcj7):=by kernel_rfl
theorem zdc4:G ki = some (.code zci3):=by kernel_rfl
theorem zdgv:G il = some (.code sr):=by kernel_rfl
theorem zdea:G zb8g = some (.code zcjq):=by kernel_rfl
theorem zy:G cz = some (.code jk):=by kernel_rfl
theorem zdih:G dl = some (.code kd):=by kernel_rfl
theorem zdf5:G j9 = some (.code zckn):=by kernel_rfl
theorem zdj9:G ri = some (.code zclk):=by kernel_rfl
theorem zdlb:G mc = some (.code zcls):=by kernel_rfl
theorem zdec:G zb8h = some (.code zcjs):=by kernel_rfl
theorem zbp0:G zb34 = some (.code zcip):=by kernel_rfl
theorem zded:G fy = some (.code zcj6):=by kernel_rfl
theorem zcsf:G zbx1 = some (.code zcl8):=by kernel_rfl
theorem zdc2:G uu = some (.code zci1):=by kernel_rfl
theorem zdga:G m6 = some (.code zcks):=by kernel_rfl
theorem zddi:G zb35 = some (.code zcit):=by kernel_rfl
theorem zbp5:G zb0e = some (.code zcik):=by kernel_rfl
theorem zddh:G zb9t = some (.code zcis):=by kernel_rfl
theorem zdd7:G sf = some (.code zcjn):=by kernel_rfl
theorem zdd6:G po = some (.code zcjm):=by kernel_rfl
theorem zbp4:G vo = some (.code zcil):=by kernel_rfl
theorem zbu8:G zb3x = some (.code zcl7):=by kernel_rfl
theorem zddk:G zb8a = some (.code zciv):=by kernel_rfl
theorem zddl:G zb8b = some (.code zciw):=by kernel_rfl
theorem zbp2:G mv = some (.code zcin):=by kernel_rfl
theorem zdd8:G zb8f = some (.code zcjo):=by kernel_rfl
theorem zddj:G uw = some (.code zciu):=by kernel_rfl
theorem zddm:G zb36 = some (.code zcix):=by kernel_rfl
theorem zbp3:G zb7z = some (.code zcim):=by kernel_rfl
theorem zde5:G yr = some (.code zckb):=by kernel_rfl
theorem zdf8:G m7 = some (.code zckq):=by kernel_rfl
theorem zbp1:G zb33 = some (.code zcio):=by kernel_rfl
theorem zdc1:G zb38 = some (.code zci0):=by kernel_rfl
theorem zdeb:G se = some (.code zcjr):=by kernel_rfl
theorem zdc0:G zb37 = some (.code zciz):=by kernel_rfl
theorem zdks:G pw = some (.code zclp):=by kernel_rfl
theorem zdje:G qj = some (.code zck3):=by kernel_rfl
theorem zde8:G yp = some (.code zcke):=by kernel_rfl
theorem zdjg:G gi = some (.code zck5):=by kernel_rfl
theorem zdjh:G i8 = some (.code zck6):=by kernel_rfl
theorem zdji:G iz = some (.code zck7):=by kernel_rfl
theorem zdcz:G uv = some (.code zciy):=by kernel_rfl
theorem zdd9:G x6 = some (.code zcjp):=by kernel_rfl
end Ic
end Go.Proofs.Ytjgpklmkdkkooaa
