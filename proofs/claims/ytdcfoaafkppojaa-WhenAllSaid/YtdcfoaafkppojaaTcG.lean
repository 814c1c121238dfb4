/- The table of functions of the tree level. -/
import Derived.Test.YtdcfoaafkppojaaTcT
import Derived.Test.YtdcfoaafkppojaaOnce
namespace Go.Proofs.Ytdcfoaafkppojaa
open Go Go.RowKit Sh
namespace Ic
def gl : List (Nat × TG) := [(ny,.code xt),(nz,.code xu),(qk,.code zad7),(gf,.code t6),(wa,.code zal2),(nc,.code z8),(m9,.code zad0),(ix,.code zal3),(m7,.code z7),(bg,.code ey),(bl,.code ga),(fa,.code vk),(uw,.code zahv),(fb,.code vl),(er,.prim onceS),(ft,.prim onceA),(gx,.prim onceI),(bz,.code gw),(dj,.code iw),(jz,.code t5),(qi,.code zadz),(qz,.code zaht),(m6,.code z5),(u5,.code zah2),(uz,.code zah0),(n4,.code xv),(im,.code zaab),(wd,.code zad8),(wb,.code zal5),(tc,.code zad5),(ta,.code zad4),(gq,.code zahz),(rc,.code zaaa),(rb,.code z9),(kg,.code zad6),(qj,.code zad3),(u4,.code zah1),(il,.code vm),(nd,.code zad2),(ra,.code zahy),(nw,.code xq),(nv,.code xp),(uy,.code zahx),(ux,.code zahw),(zh,.code zal4),(kn,.code vn),(sy,.code zad1)]
def G : FuncId → Option TG := gfind gl
theorem gok : GOK Try.prog G := gok_list (bc zavz (bc zav0 (bc za2r (bc zare (bc c_when_of (bc za0a (bc za2k (bc c_spec_in (bc zaz9 (bc pz (bc r8 (bc zasc (bc c_spec_arc (bc zasd (zavf xn (zavf yg (zavf zab3 (bc t7 (bc wj (bc zard (bc za2j (bc c_when_End (bc zaz8 (bc c_L00_Ring (bc c_L00_arcs (bc zav1 (bc za0d (bc za2s (bc c_R01_Sum (bc za2p (bc za2o (bc c_R01_turn (bc za0c (bc za0b (bc za2q (bc za2n (bc c_L00_Seed (bc zase (bc za2m (bc c_R04_Name (bc zavy (bc zavx (bc c_R04_arcs (bc c_R06_Last (bc c_R06_End (bc zasf (bc za2l gok_nil)))))))))))))))))))))))))))))))))))))))))))))))
theorem zavi : G ny = some (.code xt) := by kernel_rfl
theorem zavj : G nz = some (.code xu) := by kernel_rfl
theorem za19 : G qk = some (.code zad7) := by kernel_rfl
theorem zaq0 : G gf = some (.code t6) := by kernel_rfl
theorem g_when_of : G wa = some (.code zal2) := by kernel_rfl
theorem zayy : G nc = some (.code z8) := by kernel_rfl
theorem za12 : G m9 = some (.code zad0) := by kernel_rfl
theorem g_spec_in : G ix = some (.code zal3) := by kernel_rfl
theorem zayx : G m7 = some (.code z7) := by kernel_rfl
theorem py : G bg = some (.code ey) := by kernel_rfl
theorem r7 : G bl = some (.code ga) := by kernel_rfl
theorem zar7 : G fa = some (.code vk) := by kernel_rfl
theorem g_spec_arc : G uw = some (.code zahv) := by kernel_rfl
theorem zar8 : G fb = some (.code vl) := by kernel_rfl
theorem zakj : G er = some (.prim onceS) := by kernel_rfl
theorem zal1 : G ft = some (.prim onceA) := by kernel_rfl
theorem zaq1 : G gx = some (.prim onceI) := by kernel_rfl
theorem t4 : G bz = some (.code gw) := by kernel_rfl
theorem wg : G dj = some (.code iw) := by kernel_rfl
theorem zaqz : G jz = some (.code t5) := by kernel_rfl
theorem za11 : G qi = some (.code zadz) := by kernel_rfl
theorem g_when_End : G qz = some (.code zaht) := by kernel_rfl
theorem zayw : G m6 = some (.code z5) := by kernel_rfl
theorem g_L00_Ring : G u5 = some (.code zah2) := by kernel_rfl
theorem g_L00_arcs : G uz = some (.code zah0) := by kernel_rfl
theorem zavk : G n4 = some (.code xv) := by kernel_rfl
theorem zay1 : G im = some (.code zaab) := by kernel_rfl
theorem za2a : G wd = some (.code zad8) := by kernel_rfl
theorem g_R01_Sum : G wb = some (.code zal5) := by kernel_rfl
theorem za17 : G tc = some (.code zad5) := by kernel_rfl
theorem za16 : G ta = some (.code zad4) := by kernel_rfl
theorem g_R01_turn : G gq = some (.code zahz) := by kernel_rfl
theorem zay0 : G rc = some (.code zaaa) := by kernel_rfl
theorem zayz : G rb = some (.code z9) := by kernel_rfl
theorem za18 : G kg = some (.code zad6) := by kernel_rfl
theorem za15 : G qj = some (.code zad3) := by kernel_rfl
theorem g_L00_Seed : G u4 = some (.code zah1) := by kernel_rfl
theorem zar9 : G il = some (.code vm) := by kernel_rfl
theorem za14 : G nd = some (.code zad2) := by kernel_rfl
theorem g_R04_Name : G ra = some (.code zahy) := by kernel_rfl
theorem zavh : G nw = some (.code xq) := by kernel_rfl
theorem zavg : G nv = some (.code xp) := by kernel_rfl
theorem g_R04_arcs : G uy = some (.code zahx) := by kernel_rfl
theorem g_R06_Last : G ux = some (.code zahw) := by kernel_rfl
theorem g_R06_End : G zh = some (.code zal4) := by kernel_rfl
theorem zasa : G kn = some (.code vn) := by kernel_rfl
theorem za13 : G sy = some (.code zad1) := by kernel_rfl
end Ic
end Go.Proofs.Ytdcfoaafkppojaa
