import Derived.Test.YtdcfoaafkppojaaTcT
import Derived.Test.YtdcfoaafkppojaaM14
/- The table of functions of the tree level. -/
namespace Go.Proofs.Ytdcfoaafkppojaa
open Go Go.RowKit Sh
namespace Ic
def gl : List (Nat × TG) := [(qi,.code zadd),(ua,.code zalv),(zabq,.code zapw),(zaer,.code zapu),(uo,.code zagq),(m6,.code zai4),(zafp,.code zalu),(zafo,.code zaur),(zabo,.code zalr),(zabn,.code zalq),(lc,.code zapt),(zo,.code zai3),(zn,.code zai2),(rp,.code zals),(yg,.code zalp),(zaes,.code zapv),(zabp,.code zalt),(t9,.code zalm),(o6,.code zaiz),(t8,.code zalk),(nk,.code zauq),(t7,.code zaiy),(cw,.code io),(dk,.code j0),(ip,.code zafd),(zaeq,.code zaps),(iq,.code zafe),(g9,.prim onceS),(jo,.prim onceA),(l6,.prim onceI),(ee,.code l0),(fw,.code nj),(zabm,.code zalo),(dq,.code zagp),(kx,.code vi),(d6,.code tp),(bo,.code xx),(jd,.code vg),(je,.code vh),(nc,.code zaak),(ig,.code rf),(mz,.code zago),(jc,.code vf),(kb,.code tn),(my,.code zagn),(oh,.code zabh),(mf,.code xz),(ky,.code vj),(qy,.code zai0),(lm,.code zafg),(jq,.code zai1),(fj,.code zaln),(j9,.code xw),(a9,.code lz),(dx,.prim zamh),(bu,.prim zap8),(li,.code zaff),(jp,.code sb),(kw,.code ve),(qh,.code zadc),(yf,.code zall),(mw,.code zagm),(dt,.code mh),(az,.code cv),(d4,.code kn),(ij,.code rg)]
def G : FuncId → Option TG := gfind gl
theorem gok : GOK Try.prog G := gok_list (bk zazr (bk zbb7 (bk c_L00_Ring (bk c_L00_arcs (bk za4q (bk za9n (bk zbb6 (bk c_R01_Sum (bk zbb3 (bk zbb2 (bk c_R01_turn (bk za9m (bk za9l (bk zbb4 (bk zbb1 (bk c_L00_Seed (bk zbb5 (bk zbby (bk za9i (bk zbbw (bk c_spec_in (bk za9h (bk x8 (bk zaas (bk za0m (bk c_spec_arc (bk za0n (zas7 zagk (zas7 zahb (zas7 zajz (bk zadg (bk zaft (bk zbb0 (bk za4p (bk zap5 (bk zamu (bk zato (bk zap3 (bk zap4 (bk zaut (bk zaj4 (bk za4o (bk zap2 (bk zamt (bk za4n (bk zawr (bk zatp (bk zap6 (bk za9j (bk za0p (bk za9k (bk zbbz (bk zatn (bk zadf (zas7 vk (zas7 zaal (bk za0o (bk zal3 (bk zap1 (bk zazq (bk zbbx (bk za4m (bk zaef (bk lg (bk zac3 (bk zaj5 gok_nil))))))))))))))))))))))))))))))))))))))))))))))))))))))))))))))))))
theorem zaza : G qi = some (.code zadd) := by kernel_rfl
theorem zbbm : G ua = some (.code zalv) := by kernel_rfl
theorem g_L00_Ring : G zabq = some (.code zapw) := by kernel_rfl
theorem g_L00_arcs : G zaer = some (.code zapu) := by kernel_rfl
theorem za38 : G uo = some (.code zagq) := by kernel_rfl
theorem za76 : G m6 = some (.code zai4) := by kernel_rfl
theorem zbbl : G zafp = some (.code zalu) := by kernel_rfl
theorem g_R01_Sum : G zafo = some (.code zaur) := by kernel_rfl
theorem zbbi : G zabo = some (.code zalr) := by kernel_rfl
theorem zbbh : G zabn = some (.code zalq) := by kernel_rfl
theorem g_R01_turn : G lc = some (.code zapt) := by kernel_rfl
theorem za75 : G zo = some (.code zai3) := by kernel_rfl
theorem za74 : G zn = some (.code zai2) := by kernel_rfl
theorem zbbj : G rp = some (.code zals) := by kernel_rfl
theorem zbbg : G yg = some (.code zalp) := by kernel_rfl
theorem g_L00_Seed : G zaes = some (.code zapv) := by kernel_rfl
theorem zbbk : G zabp = some (.code zalt) := by kernel_rfl
theorem zbbd : G t9 = some (.code zalm) := by kernel_rfl
theorem za71 : G o6 = some (.code zaiz) := by kernel_rfl
theorem zbbb : G t8 = some (.code zalk) := by kernel_rfl
theorem g_spec_in : G nk = some (.code zauq) := by kernel_rfl
theorem za70 : G t7 = some (.code zaiy) := by kernel_rfl
theorem xv : G cw = some (.code io) := by kernel_rfl
theorem zaar : G dk = some (.code j0) := by kernel_rfl
theorem za0h : G ip = some (.code zafd) := by kernel_rfl
theorem g_spec_arc : G zaeq = some (.code zaps) := by kernel_rfl
theorem za0i : G iq = some (.code zafe) := by kernel_rfl
theorem zas9 : G g9 = some (.prim onceS) := by kernel_rfl
theorem zauo : G jo = some (.prim onceA) := by kernel_rfl
theorem zay8 : G l6 = some (.prim onceI) := by kernel_rfl
theorem zadb : G ee = some (.code l0) := by kernel_rfl
theorem zafs : G fw = some (.code nj) := by kernel_rfl
theorem zbbf : G zabm = some (.code zalo) := by kernel_rfl
theorem za37 : G dq = some (.code zagp) := by kernel_rfl
theorem zapp : G kx = some (.code vi) := by kernel_rfl
theorem zamp : G d6 = some (.code tp) := by kernel_rfl
theorem zatb : G bo = some (.code xx) := by kernel_rfl
theorem zapn : G jd = some (.code vg) := by kernel_rfl
theorem zapo : G je = some (.code vh) := by kernel_rfl
theorem zaup : G nc = some (.code zaak) := by kernel_rfl
theorem zaj0 : G ig = some (.code rf) := by kernel_rfl
theorem za36 : G mz = some (.code zago) := by kernel_rfl
theorem zapm : G jc = some (.code vf) := by kernel_rfl
theorem zamo : G kb = some (.code tn) := by kernel_rfl
theorem za35 : G my = some (.code zagn) := by kernel_rfl
theorem zawo : G oh = some (.code zabh) := by kernel_rfl
theorem zatc : G mf = some (.code xz) := by kernel_rfl
theorem zapq : G ky = some (.code vj) := by kernel_rfl
theorem za72 : G qy = some (.code zai0) := by kernel_rfl
theorem za0k : G lm = some (.code zafg) := by kernel_rfl
theorem za73 : G jq = some (.code zai1) := by kernel_rfl
theorem zbbe : G fj = some (.code zaln) := by kernel_rfl
theorem zata : G j9 = some (.code xw) := by kernel_rfl
theorem zada : G a9 = some (.code lz) := by kernel_rfl
theorem zafc : G dx = some (.prim zamh) := by kernel_rfl
theorem zahz : G bu = some (.prim zap8) := by kernel_rfl
theorem za0j : G li = some (.code zaff) := by kernel_rfl
theorem zalj : G jp = some (.code sb) := by kernel_rfl
theorem zapl : G kw = some (.code ve) := by kernel_rfl
theorem zay9 : G qh = some (.code zadc) := by kernel_rfl
theorem zbbc : G yf = some (.code zall) := by kernel_rfl
theorem za34 : G mw = some (.code zagm) := by kernel_rfl
theorem zaee : G dt = some (.code mh) := by kernel_rfl
theorem lf : G az = some (.code cv) := by kernel_rfl
theorem zacy : G d4 = some (.code kn) := by kernel_rfl
theorem zaj1 : G ij = some (.code rg) := by kernel_rfl
end Ic
end Go.Proofs.Ytdcfoaafkppojaa
