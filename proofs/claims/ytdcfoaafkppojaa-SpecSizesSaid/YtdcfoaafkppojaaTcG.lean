import Derived.Test.YtdcfoaafkppojaaTcT
import Derived.Test.YtdcfoaafkppojaaM14
/- The table of functions of the tree level. -/
namespace Go.Proofs.Ytdcfoaafkppojaa
open Go Go.RowKit Sh
namespace Ic
def gl : List (Nat × TG) := [(qk,.code zadj),(uc,.code zalx),(zabu,.code zapz),(zaex,.code zapx),(uq,.code zagu),(m7,.code zai6),(zafw,.code zalw),(zafv,.code zaut),(zabs,.code zalt),(zabr,.code zals),(lc,.code zapw),(zq,.code zai5),(zp,.code zai4),(rr,.code zalu),(yi,.code zalr),(zaey,.code zapy),(zabt,.code zalv),(ub,.code zalo),(o9,.code zai1),(ua,.code zalm),(nr,.code zaus),(t9,.code zai0),(cw,.code io),(dk,.code j0),(ip,.code zafl),(zaew,.code zapv),(iq,.code zafm),(g9,.prim onceS),(jo,.prim onceA),(l6,.prim onceI),(ee,.code l0),(fw,.code nm),(zabq,.code zalq),(dq,.code zagt),(kx,.code vk),(d6,.code tu),(bp,.code x8),(jd,.code vi),(je,.code vj),(nf,.code zaan),(ig,.code rh),(m5,.code zags),(jc,.code vh),(kb,.code tq),(mz,.code zagr),(om,.code zabk),(mf,.code ya),(ky,.code vl),(ra,.code zai2),(lm,.code zafo),(jq,.code zai3),(fj,.code zalp),(j9,.code xz),(a9,.code lz),(dx,.prim zamk),(bu,.prim zaqb),(li,.code zafn),(jp,.code sd),(kw,.code vg),(qj,.code zadi),(yh,.code zaln),(my,.code zagq),(dt,.code mh),(az,.code cv),(d4,.code kn),(ij,.code ri)]
def G : FuncId → Option TG := gfind gl
theorem gok : GOK Try.prog G := gok_list (bk zazs (bk zbca (bk c_L00_Ring (bk c_L00_arcs (bk za4t (bk za9p (bk zbb9 (bk c_R01_Sum (bk zbb6 (bk zbb5 (bk c_R01_turn (bk za9o (bk za9n (bk zbb7 (bk zbb4 (bk c_L00_Seed (bk zbb8 (bk zbb1 (bk za9k (bk zbbz (bk c_spec_in (bk za9j (bk yb (bk zaav (bk za0n (bk c_spec_arc (bk za0o (zata zago (zata zahf (zata zaj1 (bk zadm (bk zaf0 (bk zbb3 (bk za4s (bk zap8 (bk zamx (bk zatq (bk zap6 (bk zap7 (bk zauv (bk zaj6 (bk za4r (bk zap5 (bk zamw (bk za4q (bk zawt (bk zatr (bk zap9 (bk za9l (bk za0q (bk za9m (bk zbb2 (bk zatp (bk zadl (zata vm (zata zaao (bk za0p (bk zal5 (bk zap4 (bk zazr (bk zbb0 (bk za4p (bk zaek (bk lg (bk zac9 (bk zaj7 gok_nil))))))))))))))))))))))))))))))))))))))))))))))))))))))))))))))))))
theorem zazb : G qk = some (.code zadj) := by kernel_rfl
theorem zbbp : G uc = some (.code zalx) := by kernel_rfl
theorem g_L00_Ring : G zabu = some (.code zapz) := by kernel_rfl
theorem g_L00_arcs : G zaex = some (.code zapx) := by kernel_rfl
theorem za4b : G uq = some (.code zagu) := by kernel_rfl
theorem za79 : G m7 = some (.code zai6) := by kernel_rfl
theorem zbbo : G zafw = some (.code zalw) := by kernel_rfl
theorem g_R01_Sum : G zafv = some (.code zaut) := by kernel_rfl
theorem zbbl : G zabs = some (.code zalt) := by kernel_rfl
theorem zbbk : G zabr = some (.code zals) := by kernel_rfl
theorem g_R01_turn : G lc = some (.code zapw) := by kernel_rfl
theorem za78 : G zq = some (.code zai5) := by kernel_rfl
theorem za77 : G zp = some (.code zai4) := by kernel_rfl
theorem zbbm : G rr = some (.code zalu) := by kernel_rfl
theorem zbbj : G yi = some (.code zalr) := by kernel_rfl
theorem g_L00_Seed : G zaey = some (.code zapy) := by kernel_rfl
theorem zbbn : G zabt = some (.code zalv) := by kernel_rfl
theorem zbbg : G ub = some (.code zalo) := by kernel_rfl
theorem za74 : G o9 = some (.code zai1) := by kernel_rfl
theorem zbbe : G ua = some (.code zalm) := by kernel_rfl
theorem g_spec_in : G nr = some (.code zaus) := by kernel_rfl
theorem za73 : G t9 = some (.code zai0) := by kernel_rfl
theorem xx : G cw = some (.code io) := by kernel_rfl
theorem zaau : G dk = some (.code j0) := by kernel_rfl
theorem za0i : G ip = some (.code zafl) := by kernel_rfl
theorem g_spec_arc : G zaew = some (.code zapv) := by kernel_rfl
theorem za0j : G iq = some (.code zafm) := by kernel_rfl
theorem zatb : G g9 = some (.prim onceS) := by kernel_rfl
theorem zauq : G jo = some (.prim onceA) := by kernel_rfl
theorem zay9 : G l6 = some (.prim onceI) := by kernel_rfl
theorem zadh : G ee = some (.code l0) := by kernel_rfl
theorem zafz : G fw = some (.code nm) := by kernel_rfl
theorem zbbi : G zabq = some (.code zalq) := by kernel_rfl
theorem za4a : G dq = some (.code zagt) := by kernel_rfl
theorem zaps : G kx = some (.code vk) := by kernel_rfl
theorem zams : G d6 = some (.code tu) := by kernel_rfl
theorem zatd : G bp = some (.code x8) := by kernel_rfl
theorem zapq : G jd = some (.code vi) := by kernel_rfl
theorem zapr : G je = some (.code vj) := by kernel_rfl
theorem zaur : G nf = some (.code zaan) := by kernel_rfl
theorem zaj2 : G ig = some (.code rh) := by kernel_rfl
theorem za39 : G m5 = some (.code zags) := by kernel_rfl
theorem zapp : G jc = some (.code vh) := by kernel_rfl
theorem zamr : G kb = some (.code tq) := by kernel_rfl
theorem za38 : G mz = some (.code zagr) := by kernel_rfl
theorem zawq : G om = some (.code zabk) := by kernel_rfl
theorem zate : G mf = some (.code ya) := by kernel_rfl
theorem zapt : G ky = some (.code vl) := by kernel_rfl
theorem za75 : G ra = some (.code zai2) := by kernel_rfl
theorem za0l : G lm = some (.code zafo) := by kernel_rfl
theorem za76 : G jq = some (.code zai3) := by kernel_rfl
theorem zbbh : G fj = some (.code zalp) := by kernel_rfl
theorem zatc : G j9 = some (.code xz) := by kernel_rfl
theorem zadg : G a9 = some (.code lz) := by kernel_rfl
theorem zafk : G dx = some (.prim zamk) := by kernel_rfl
theorem zah2 : G bu = some (.prim zaqb) := by kernel_rfl
theorem za0k : G li = some (.code zafn) := by kernel_rfl
theorem zall : G jp = some (.code sd) := by kernel_rfl
theorem zapo : G kw = some (.code vg) := by kernel_rfl
theorem zaza : G qj = some (.code zadi) := by kernel_rfl
theorem zbbf : G yh = some (.code zaln) := by kernel_rfl
theorem za37 : G my = some (.code zagq) := by kernel_rfl
theorem zaej : G dt = some (.code mh) := by kernel_rfl
theorem lf : G az = some (.code cv) := by kernel_rfl
theorem zac4 : G d4 = some (.code kn) := by kernel_rfl
theorem zaj3 : G ij = some (.code ri) := by kernel_rfl
end Ic
end Go.Proofs.Ytdcfoaafkppojaa
