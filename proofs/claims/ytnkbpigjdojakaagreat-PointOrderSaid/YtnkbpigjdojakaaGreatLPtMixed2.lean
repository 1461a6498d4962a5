/- A message's packets, in another order: in the words of PtCore. -/
import Derived.Test.YtnkbpigjdojakaaGreatG1
import Derived.Test.YtnkbpigjdojakaaGreatLPtMixed
import Derived.Test.YtnkbpigjdojakaaGreatG9
namespace Go.Proofs.N0
open Go.RowKit Go.Maps Go.ChangeMaps
section
variable {w0 W:World} {p b:Nat} {L:List (Nat×Obj)} {R:List aW} {st bO:af.Store} {c c1:af.Core} {an:af.AZ} {size:Int} {ms er n:Nat} {v:Value}
theorem tX {mm:af.bJ} {id tS PE:Nat} {ao:Option Addr} {zf:Nat→Nat} (cP:af.fC st n c mm 5=some (bO,c1,an,er)) (nY:ms<1000000) (hs1:8≤size) (hs2:size≤1000) (hid:1≤id∧id<1000000) (hB:KV w0 ao tS zf)
 (h:NF [] w0 W (ah p (af.BN st n)::bK p b (c.pt size ms)::bA v (af.bM mm id size)::R) L) :
 Calls Tryz.prog 23 #[vP b 0,v,.slice ao tS PE,.agg #[vI (af.KR st n:Nat),vI (af.Qb st n:Nat),vI (af.Vb st n:Nat)]] W fun e w'=>∃ (oq:Option Addr) (ol oc:Nat),e=.returned (.tuple #[.agg (eM an.peer an.text an.yes an.h (.slice oq ol oc) an.code),vI er])∧NF [] w0 w' (bA (.slice oq ol oc) (an.got ms size).out::ah p bO::bK p b (c1.pt size (an.ms ms))::bA v (af.bM mm id size)::R) L:=by
 unfold af.fC at cP
 split at cP
 ·rename_i hb;obtain ⟨Mm,hsh,hp1⟩:=hb;unfold af.short at hsh;simp only [gi,decide_eq_true_eq] at hsh;have hc:af.lC mm.encode id size.toNat:=af.Di hid.1 ax ax ax hsh.1.2 hsh.2;have hpk:=af.Dh (m:=mm) (size:=size) hc rfl ax;have hpos:=hc.pos;have hm16:=hc.m;generalize hN:af.many mm.encode.length size.toNat=N at hpk hpos hm16;refine UJ (n:=N) (g1:=an.got ms size) (bO:=bO) (t1:=c1.pt size (an.ms ms)) (er:=er) (en:=fun j=>(af.IZ id mm.encode size.toNat j).encode) (h.up 2) hpk ax hpos hB fun idx hi=>?_;have hil:=hi.len;refine ⟨fun j=>if j=N then bO else af.BN st n,fun j=>if j=N then c1.pt size (an.ms ms) else c.held size ms id mm.encode 5 idx j,fun j=>if j=N then an.got ms size else af.nJ,fun j=>if j=N then er else if j=0 then 5 else 0,?_,?_,?_,?_,?_,?_,?_,?_,?_,?_⟩
  ·simp only [if_neg (show ¬0=N by omega)]
  ·simp only [if_neg (show ¬0=N by omega)];exact af.Core.Dg af.U8 hp1
  ·simp only [if_true]
  ·simp only [if_true]
  ·simp only [if_true]
  ·simp only [if_true]
  ·simp only [if_neg (show ¬0=N by omega),if_true]
  ·intro j hj;simp only [if_neg (show ¬j=N by omega)]
  ·intro j h0 hj;simp only [if_neg (show ¬j=N by omega),if_neg (show ¬j=0 by omega)]
  ·intro j i hji;obtain ⟨hjl,rfl⟩:=List.getElem?_eq_some_iff.1 hji;have hst:=Po (p:=p) (b:=b) (k:=j) (now:=5) cP nY aG hp1 hc (by rw [hN];exact hi) (Prod.ext rfl Mm) hjl;rw [hil] at hst hjl;simp only [if_neg (show ¬j=N by omega),if_neg (show ¬j+1=0 by omega)];exact hst
 ·cases cP
end
end Go.Proofs.N0
