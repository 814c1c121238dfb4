import Derived.Test.YtdcfoaafkppojaaTcT
import Derived.Test.YtdcfoaafkppojaaM14
/- The table of functions of the tree level. -/
namespace Go.Proofs.Ytdcfoaafkppojaa
open Go Go.RowKit Sh
namespace Ic
def gl : List (Nat × TG) := [(ql,.code zadl),(ud,.code zal0),(zabv,.code zap2),(zaez,.code zap0),(ut,.code zagw),(nc,.code zai7),(zafy,.code zalz),(zafx,.code zauw),(zabt,.code zalw),(zabs,.code zalv),(lc,.code zapz),(zu,.code zai6),(zt,.code zai5),(ru,.code zalx),(yk,.code zalu),(zae0,.code zap1),(zabu,.code zaly),(uc,.code zalr),(pa,.code zai2),(ub,.code zalp),(nu,.code zauv),(ua,.code zai1),(cw,.code io),(dk,.code j8),(ip,.code zafn),(zaey,.code zapy),(iq,.code zafo),(g9,.prim onceS),(jo,.prim onceA),(l7,.prim onceI),(ee,.code l4),(fw,.code nr),(zabr,.code zalt),(dt,.code zagv),(kx,.code vm),(d6,.code tw),(bp,.code yb),(jd,.code vk),(je,.code vl),(nh,.code zaao),(ig,.code ri),(m7,.code zagu),(jc,.code vj),(kc,.code tu),(m6,.code zagt),(oo,.code zabl),(mg,.code yc),(ky,.code vn),(rc,.code zai3),(lp,.code zafq),(jq,.code zai4),(fj,.code zals),(ka,.code ya),(a9,.code l0),(dx,.prim zamn),(bu,.prim zaqe),(lm,.code zafp),(jp,.code se),(kw,.code vi),(qk,.code zadk),(yj,.code zalq),(m5,.code zags),(du,.code mi),(az,.code cv),(d4,.code kn),(ij,.code rj)]
def G : FuncId → Option TG := gfind gl
theorem gok : GOK Try.prog G := gok_list (bk zazw (bk zbcf (bk c_L00_Ring (bk c_L00_arcs (bk za4x (bk za9t (bk zbce (bk c_R01_Sum (bk zbcb (bk zbca (bk c_R01_turn (bk za9s (bk za9r (bk zbcc (bk zbb9 (bk c_L00_Seed (bk zbcd (bk zbb6 (bk za9o (bk zbb4 (bk c_spec_in (bk za9n (bk yd (bk zaaw (bk za0q (bk c_spec_arc (bk za0r (zatc zagq (zatc zahg (zatc zaj3 (bk zado (bk zaf2 (bk zbb8 (bk za4w (bk zaqb (bk zam0 (bk zats (bk zap9 (bk zaqa (bk zauy (bk zaj8 (bk za4v (bk zap8 (bk zamz (bk za4u (bk zawx (bk zatt (bk zaqc (bk za9p (bk za0t (bk za9q (bk zbb7 (bk zatr (bk zadn (zatc vo (zatc zaap (bk za0s (bk zal8 (bk zap7 (bk zazv (bk zbb5 (bk za4t (bk zaem (bk li (bk zada (bk zaj9 gok_nil))))))))))))))))))))))))))))))))))))))))))))))))))))))))))))))))))
theorem zazg : G ql = some (.code zadl) := by kernel_rfl
theorem zbbt : G ud = some (.code zal0) := by kernel_rfl
theorem g_L00_Ring : G zabv = some (.code zap2) := by kernel_rfl
theorem g_L00_arcs : G zaez = some (.code zap0) := by kernel_rfl
theorem za4f : G ut = some (.code zagw) := by kernel_rfl
theorem za8d : G nc = some (.code zai7) := by kernel_rfl
theorem zbbs : G zafy = some (.code zalz) := by kernel_rfl
theorem g_R01_Sum : G zafx = some (.code zauw) := by kernel_rfl
theorem zbbp : G zabt = some (.code zalw) := by kernel_rfl
theorem zbbo : G zabs = some (.code zalv) := by kernel_rfl
theorem g_R01_turn : G lc = some (.code zapz) := by kernel_rfl
theorem za8c : G zu = some (.code zai6) := by kernel_rfl
theorem za8b : G zt = some (.code zai5) := by kernel_rfl
theorem zbbq : G ru = some (.code zalx) := by kernel_rfl
theorem zbbn : G yk = some (.code zalu) := by kernel_rfl
theorem g_L00_Seed : G zae0 = some (.code zap1) := by kernel_rfl
theorem zbbr : G zabu = some (.code zaly) := by kernel_rfl
theorem zbbk : G uc = some (.code zalr) := by kernel_rfl
theorem za78 : G pa = some (.code zai2) := by kernel_rfl
theorem zbbi : G ub = some (.code zalp) := by kernel_rfl
theorem g_spec_in : G nu = some (.code zauv) := by kernel_rfl
theorem za77 : G ua = some (.code zai1) := by kernel_rfl
theorem x8 : G cw = some (.code io) := by kernel_rfl
theorem zaav : G dk = some (.code j8) := by kernel_rfl
theorem za0l : G ip = some (.code zafn) := by kernel_rfl
theorem g_spec_arc : G zaey = some (.code zapy) := by kernel_rfl
theorem za0m : G iq = some (.code zafo) := by kernel_rfl
theorem zatd : G g9 = some (.prim onceS) := by kernel_rfl
theorem zaut : G jo = some (.prim onceA) := by kernel_rfl
theorem zaze : G l7 = some (.prim onceI) := by kernel_rfl
theorem zadj : G ee = some (.code l4) := by kernel_rfl
theorem zaf1 : G fw = some (.code nr) := by kernel_rfl
theorem zbbm : G zabr = some (.code zalt) := by kernel_rfl
theorem za4e : G dt = some (.code zagv) := by kernel_rfl
theorem zapv : G kx = some (.code vm) := by kernel_rfl
theorem zamv : G d6 = some (.code tw) := by kernel_rfl
theorem zatf : G bp = some (.code yb) := by kernel_rfl
theorem zapt : G jd = some (.code vk) := by kernel_rfl
theorem zapu : G je = some (.code vl) := by kernel_rfl
theorem zauu : G nh = some (.code zaao) := by kernel_rfl
theorem zaj4 : G ig = some (.code ri) := by kernel_rfl
theorem za4d : G m7 = some (.code zagu) := by kernel_rfl
theorem zaps : G jc = some (.code vj) := by kernel_rfl
theorem zamu : G kc = some (.code tu) := by kernel_rfl
theorem za4c : G m6 = some (.code zagt) := by kernel_rfl
theorem zawu : G oo = some (.code zabl) := by kernel_rfl
theorem zatg : G mg = some (.code yc) := by kernel_rfl
theorem zapw : G ky = some (.code vn) := by kernel_rfl
theorem za79 : G rc = some (.code zai3) := by kernel_rfl
theorem za0o : G lp = some (.code zafq) := by kernel_rfl
theorem za8a : G jq = some (.code zai4) := by kernel_rfl
theorem zbbl : G fj = some (.code zals) := by kernel_rfl
theorem zate : G ka = some (.code ya) := by kernel_rfl
theorem zadi : G a9 = some (.code l0) := by kernel_rfl
theorem zafm : G dx = some (.prim zamn) := by kernel_rfl
theorem zah3 : G bu = some (.prim zaqe) := by kernel_rfl
theorem za0n : G lm = some (.code zafp) := by kernel_rfl
theorem zalo : G jp = some (.code se) := by kernel_rfl
theorem zapr : G kw = some (.code vi) := by kernel_rfl
theorem zazf : G qk = some (.code zadk) := by kernel_rfl
theorem zbbj : G yj = some (.code zalq) := by kernel_rfl
theorem za4b : G m5 = some (.code zags) := by kernel_rfl
theorem zael : G du = some (.code mi) := by kernel_rfl
theorem lg : G az = some (.code cv) := by kernel_rfl
theorem zac5 : G d4 = some (.code kn) := by kernel_rfl
theorem zaj5 : G ij = some (.code rj) := by kernel_rfl
end Ic
end Go.Proofs.Ytdcfoaafkppojaa
