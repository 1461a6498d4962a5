/- Another secret of both is put into a peer's slot: plain, and its contract (layer 21). -/
import Derived.Test.YtnkbpigjdojakaaGreatG1
import Derived.Test.YtnkbpigjdojakaaGreatG9
import Derived.Test.YtnkbpigjdojakaaGreatG8
namespace af
def nt (st:Store) (c:Core) (w:Nat) (slot:Int) (x:Int):Option Core :=
 Ky (decide (w<c.aj.length)&&st.has x&&lS x) {c with aj:=c.aj.set w ((c.aj.getD w sM).turn slot x)}
end af
namespace Go.Proofs.N0
open Go.RowKit Go.Maps Go.ChangeMaps
section
variable {S:List Nat} {w0 W:World} {p b:Nat} {L:List (Nat×Obj)} {R:List aW} {st:af.Store} {c c1:af.Core} {size:Int} {ms w:Nat} {x:Int}
theorem KV (cP:af.nt st c w 0 x=some c1) (h:NF S w0 W (ah p st::bK p b (c.pt size ms)::R) L) :
 Calls Tryz.prog 21 #[vP b 0,vI w,vI 0,vI x] W fun e w'=>e=.returned (vI 0)∧NF S w0 w' (ah p st::bK p b (c1.pt size ms)::R) L:=by
 unfold af.nt at cP
 obtain ⟨hb,rfl⟩:=af.eJ cP
 simp only [gi,decide_eq_true_eq] at hb
 refine (UI (w:=w) h hb.1.1 hb.1.2 (af.cO hb.2)).mono ?_
 rintro e w' ⟨rfl,g⟩
 refine ⟨rfl,?_⟩
 simpa [af.Core.pt,tV] using g
theorem KW (cP:af.nt st c w 1 x=some c1) (h:NF S w0 W (ah p st::bK p b (c.pt size ms)::R) L) :
 Calls Tryz.prog 21 #[vP b 0,vI w,vI 1,vI x] W fun e w'=>e=.returned (vI 0)∧NF S w0 w' (ah p st::bK p b (c1.pt size ms)::R) L:=by
 unfold af.nt at cP
 obtain ⟨hb,rfl⟩:=af.eJ cP
 simp only [gi,decide_eq_true_eq] at hb
 refine (UJ (w:=w) h hb.1.1 hb.1.2 (af.cO hb.2)).mono ?_
 rintro e w' ⟨rfl,g⟩
 refine ⟨rfl,?_⟩
 simpa [af.Core.pt,tV] using g
end
end Go.Proofs.N0
/- The chains of PointTurns, whatever the size of parts: n: the slot that is turned, k: the slot of the handshake. -/
namespace af
def tA0:Core:=BM ⟨1,2⟩ [Db] [1]
def tB0:Core:=BM ⟨3,4⟩ [Dc] [1]
def tS:Store:=BN fD 9
def tX:Int:=(KR fD 9:Nat)
def tA1 (n:Int):Core:=(nt tS tA0 0 n tX).getD default
def tL (n k:Int):=pM tS 0 (tA1 n) k 5
def tl (n k:Int):=(tL n k).getD default
def tG (n k:Int):=fC (tl n k).1 1 tB0 (tl n k).2.2 5
def tg (n k:Int):=(tG n k).getD default
def tB2 (n k:Int):Core:=(nt (tg n k).1 (tg n k).2.1 0 n tX).getD default
def tM (n k:Int):=pM (tg n k).1 2 (tl n k).2.1 k 6
def tm (n k:Int):=(tM n k).getD default
def tO (n k:Int):=fC (tm n k).1 3 (tB2 n k) (tm n k).2.2 6
def to (n k:Int):=(tO n k).getD default
def tP (n k:Int):=fC (to n k).1 4 (tm n k).2.1 ((to n k).2.2.1.out.getD default) 6
def tp (n k:Int):=(tP n k).getD default
end af
