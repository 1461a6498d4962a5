/- PointOrder: its chain, evaluated; the law's walk. -/
import Derived.Test.YtnkbpigjdojakaaGreatLPtOrder
import Derived.OpenShut
namespace af
def oL:=pM fD 0 (BM ⟨1,2⟩ [Db] [2,1]) 0 5
def ol:=oL.getD default
def oG:=fC ol.1 1 (BM ⟨3,4⟩ [Dc] [2]) ol.2.2 5
def og:=oG.getD default
def oF:=fC og.1 2 ol.2.1 (og.2.2.1.out.getD default) 5
def oF9:=oF.getD default
def oText:List UInt8:=[97,32,116,101,120,116,32,116,104,97,116,32,104,97,115,32,115,111,109,101,32,112,97,114,116,115,32,111,102,32,105,116,115,32,111,119,110]
def oS:=xp oF9.1 oF9.2.1 0 oText
def os:=oS.getD default
def oH:=fC os.1 3 og.2.1 os.2.2 5
def oh:=oH.getD default
def Sc:Bool:=oL.isSome&&oG.isSome&&og.2.2.1.out.isSome&&decide (og.2.2.2=0)&&oF.isSome&&oF9.2.2.1.out.isNone&&decide (oF9.2.2.2=0)&&decide (oF9.2.2.1.h=og.2.2.1.h)&&oS.isSome&&oH.isSome&&oh.2.2.1.out.isNone&&decide (oh.2.2.2=0)&&decide (oh.2.2.1.text=oText)&&oh.2.2.1.yes&&decide (oh.2.2.1.h=og.2.2.1.h)&&decide (0<og.2.2.1.h)
theorem order_ok:Sc=true:=eU
end af
namespace Go.Proofs.N0
open Go.RowKit Go.Maps Go.ChangeMaps af
theorem Vm {W:World} {a:Option Addr} {len cap:Nat} {zs:List Int} (h:Zl .u8 W a len cap zs):KV W a len fun i=>(zs.getD i 0).toNat:=by
 intro i hi;rcases h with ⟨_,h,_⟩|⟨x,rfl,hl,hm,hz,hc,hw⟩
 ·omega
 ·obtain ⟨b,off,rfl,hc'⟩:=ints_at hc ax;have hiz:i<zs.length:=ax;have hb:0≤zs.getD i 0∧zs.getD i 0≤255:=by rw [ux,lz hiz,uy];exact bounds_u8 (hw _ (KX hiz))
  have hcell:=hc' i hiz;have hlt:(zs.getD i 0).toNat<256:=by revert hb;generalize zs.getD i 0=z;intro hb;omega
  refine ⟨b,off,rfl,World.block_lt_of_cell? W _ hcell,?_,hlt⟩;rw [hcell,Int.toNat_of_nonneg hb.1]
theorem yC (a:Int) (a1:Option Addr) (len1 cap1:Nat) (z1:List Int) (W:World) (wa:(Lit.int .u8 a).wf=true) (w1:Zl .u8 W a1 len1 cap1 z1) :
 Calls Tryz.prog 8 #[.int .u8 a,.slice a1 len1 cap1] W fun e w'=>e=.returned (.bool true)∧Below W.heap.size W w':=by
 have b0:=bounds_u8 wa
 obtain ⟨x,rfl⟩:=cR b0.1
 have h:=order_ok
 unfold Sc at h
 simp only [gi,decide_eq_true_eq] at h
 obtain ⟨⟨⟨⟨⟨⟨⟨⟨⟨⟨⟨⟨⟨⟨⟨h1,h2⟩,h3⟩,h4⟩,h5⟩,h6⟩,h7⟩,h8⟩,h9⟩,h10⟩,h11⟩,h12⟩,yJ⟩,Ae⟩,N5⟩,Sy⟩:=h
 have hz:(8:Int)≤8+(x:Int) % 24∧8+(x:Int) % 24≤1000:=ax
 exact Vl W (Im (g:=ol) rfl h1) (Dp (g:=og) rfl h2 h3 rfl h4 rfl rfl rfl rfl rfl) (mg (g:=oF9) rfl h5 h6 h7 rfl rfl rfl h8 rfl) (Im (g:=os) rfl h9) (mg (g:=oh) rfl h10 h11 h12 rfl yJ Ae N5 rfl) Sy hz (Vm w1) rfl ax (Dd (one:=[2,1]) (two:=[2]) W aG aG aG aG hz.1 hz.2)
end Go.Proofs.N0
