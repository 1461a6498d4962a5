/- The walk of soughlaw21.PointOrder. (Printed by wip/tools/mkpt26.py.) -/
import Derived.Test.YtnkbpigjdojakaaGreatG1
import Derived.Test.YtnkbpigjdojakaaGreatG9
import Derived.Test.YtnkbpigjdojakaaGreatLPtMixed2
set_option maxRecDepth 100000
set_option maxHeartbeats 6400000
namespace Go.Proofs.N0
open Go.RowKit Go.Maps Go.ChangeMaps
theorem Vl {A0 B0 A1 A2 B1 B2 A3:af.Core} {s1 s2 s3 s4 s5:af.Store} {m1 m2 m3:af.bJ} {size tS PE:Nat} {ao:Option Addr} {zf:Nat→Nat} {sz Mx Mz hh Pu Pv IC IE:Int} {MB Px:List UInt8} {MC Py:Bool} (W:World) (hH1:af.pM af.fD 0 A0 0 5=some (s1,A1,m1)) (hH2:af.fC s1 1 B0 m1 5=some (s2,B1,⟨Mx,MB,MC,hh,some m2,Mz⟩,0)) (hH3:af.fC s2 2 A1 m2 5=some (s3,A2,⟨Pu,Px,Py,hh,none,Pv⟩,0)) (hH4:af.xp s3 A2 0 [97,32,116,101,120,116,32,116,104,97,116,32,104,97,115,32,115,111,109,101,32,112,97,114,116,115,32,111,102,32,105,116,115,32,111,119,110]=some (s4,A3,m3)) (hH5:af.fC s4 3 B1 m3 5=some (s5,B2,⟨IC,[97,32,116,101,120,116,32,116,104,97,116,32,104,97,115,32,115,111,109,101,32,112,97,114,116,115,32,111,102,32,105,116,115,32,111,119,110],true,hh,none,IE⟩,0)) (hHP:0<hh) (hHZ:8≤sz∧sz≤1000) (hHB:KV W ao tS zf) (hs:(8:Int)+(size:Int) % 24=sz) (hb:size<256)
 (CT:Calls Tryz.prog 10 #[.string ⟨#[2,1]⟩,.string ⟨#[2]⟩,vI sz] W fun e w'=>∃ p b1 b2,e=.returned (.tuple #[vP p 0,vP b1 0,vP b2 0])∧NF [] W w' [ah p af.fD,bK p b1 (A0.pt sz 1),bK p b2 (B0.pt sz 1)] []) :
 Calls Tryz.prog 8 #[.int .u8 size,.slice ao tS PE] W fun e w'=>e=.returned (.bool true)∧Below W.heap.size W w':=by
 have H1:=Hi hH1
 have H2:=Hi hH2
 have H3:=Hi hH3
 have H4:=Hi hH4
 have H5:=Hi hH5
 have HP:=Hi hHP
 have HZ:=Hi hHZ
 have HB:=Hi hHB
 have HCT:=Hi CT
 clear hH1 hH2 hH3 hH4 hH5 hHP hHZ hHB CT
 go_enter Tryz.func8,Tryz.ntmps8
 go_wp2_with fail
 refine HCT.out.mono ?_
 rintro e w1 ⟨p,pa,pb,rfl,g⟩
 obtain ⟨L9,hL9⟩:∃ L9:List (Nat×Obj),L9=[]:=⟨_,rfl⟩
 have F0:Hid (NF [] W w1 [ah p af.fD,bK p pa (A0.pt sz 1),bK p pb (B0.pt sz 1)] L9):=Hi (by rw [hL9];exact g)
 clear g HCT hL9
 go_wp2_with fail
 refine (dJ (n:=0) F0.out aG).mono ?_
 rintro e w1 ⟨rfl,g⟩
 have F1:=Hi g
 clear g F0
 go_wp2_with fail
 refine (um (ms:=1) H1.out aG aG F1.out).mono ?_
 rintro e w2 ⟨v,rfl,g⟩
 obtain ⟨f9,⟨bE,-⟩,-⟩:=g.tell
 obtain ⟨qr2,cr2,rfl⟩:=gl bE
 clear bE
 have F2:=Hi g
 clear g F1
 go_wp2_with fail
 refine (dJ (n:=1) (F2.out.up 1) aG).mono ?_
 rintro e w3 ⟨rfl,g⟩
 have F3:=Hi g
 clear g F2
 go_wp2_with fail
 refine Calls.mono (R:=fun e w'=>∃ (oq:Option Addr) (ol oc:Nat),e=.returned (.tuple #[.agg (eM Mx MB MC hh (.slice oq ol oc) Mz),vI 0])∧NF [] W w' (bA (.slice oq ol oc) (af.bM m2 1 sz)::ah p (s2)::bK p pb (B1.pt sz 2)::_) _) (tX (ms:=1) (id:=1) (mm:=m1) H2.out aG HZ.out.1 HZ.out.2 ⟨aG,aG⟩ HB.out (F3.out.up 1|>.up 3|>.up 2)) ?_
 rintro e w4 ⟨KW,Mq,Mr,rfl,g⟩
 have F4:=Hi (g.alloc (cl (eM Mx MB MC hh (.slice KW Mq Mr) Mz) 35))
 clear g F3
 obtain ⟨RR,pH⟩:∃ RR:List aW,RR=bK p pb (B1.pt sz 2)::bA (.slice qr2 (af.bM m1 1 sz).length cr2) (af.bM m1 1 sz)::[]:=⟨_,rfl⟩
 have FS:=Hi (F4.out.up 4|>.up 2)
 rw [←pH] at FS
 have uw:=Hi pH
 clear pH F4
 have CG:Hid (∀ (W1:World) (L1:List (Nat×Obj)),NF [] W W1 (ah p (af.BN (s2) 2)::bK p pa (A1.pt sz 2)::bA (.slice KW Mq Mr) (af.bM m2 1 sz)::RR) L1→Calls Tryz.prog 23 #[vP pa 0,.slice KW Mq Mr,.slice ao tS PE,.agg #[vI (af.KR (s2) 2:Nat),vI (af.Qb (s2) 2:Nat),vI (af.Vb (s2) 2:Nat)]] W1 fun e w'=>∃ (oq:Option Addr) (ol oc:Nat),e=.returned (.tuple #[.agg (eM Pu Px Py hh (.slice oq ol oc) Pv),vI 0])∧NF [] W w' (bA (.slice oq ol oc) ([])::ah p (s3)::bK p pa (A2.pt sz 2)::bA (.slice KW Mq Mr) (af.bM m2 1 sz)::RR) L1):=Hi fun W1 L1 h9=>tX (ms:=2) (id:=1) (mm:=m2) H3.out aG HZ.out.1 HZ.out.2 ⟨aG,aG⟩ HB.out h9
 obtain ⟨LB,hLB⟩:∃ LB:List (Nat×Obj),LB=L9:=⟨_,rfl⟩
 have FT:=Hi (FS.out)
 rw [←hLB] at FT
 have HLB:=Hi hLB
 clear hLB FS
 go_wp2_with fail
 refine XK (n:=118) [5,6,7,8,11] [10] (tb [vP pa 0,vP w4.heap.size 4,some (.slice KW Mq Mr),some (.slice ao tS PE),vP p 0,some (.agg #[vI (af.KR (s2) 2:Nat),vI (af.Qb (s2) 2:Nat),vI (af.Vb (s2) 2:Nat)]),none,none,none,vI 0,none,none,vI 0]) ((w4.heap.size,cl (eM Mx MB MC hh (.slice KW Mq Mr) Mz) 35)::[]) [kN [] W [(10,cl (dK) 35)] (ah p (s2)::bK p pa (A1.pt sz 2)::bA (.slice KW Mq Mr) (af.bM m2 1 sz)::RR) ((w4.heap.size,cl (eM Mx MB MC hh (.slice KW Mq Mr) Mz) 35)::LB),
  kN [] W [(10,cl (dK) 35)] (ah p (af.BN (s2) 2)::bK p pa (A1.pt sz 2)::bA (.slice KW Mq Mr) (af.bM m2 1 sz)::RR) ((w4.heap.size,cl (eM Mx MB MC hh (.slice KW Mq Mr) Mz) 35)::LB),
  jW (α:=Option Addr×Nat×Nat×Unit) [] W (fun ch=>[(6,.tuple #[.agg (eM Pu Px Py hh (.slice ch.1 ch.2.1 ch.2.2.1) Pv),vI 0])]) (fun _=>[(10,cl (dK) 35)]) (fun ch=>bA (.slice ch.1 ch.2.1 ch.2.2.1) ([])::ah p (s3)::bK p pa (A2.pt sz 2)::bA (.slice KW Mq Mr) (af.bM m2 1 sz)::RR) (fun _=>(w4.heap.size,cl (eM Mx MB MC hh (.slice KW Mq Mr) Mz) 35)::LB),
  jW (α:=Option Addr×Nat×Nat×Unit) [] W (fun ch=>[(6,.tuple #[.agg (eM Pu Px Py hh (.slice ch.1 ch.2.1 ch.2.2.1) Pv),vI 0]),(7,.tuple #[.agg (eM Pu Px Py hh (.slice ch.1 ch.2.1 ch.2.2.1) Pv),vI 0])]) (fun _=>[(10,cl (dK) 35)]) (fun ch=>bA (.slice ch.1 ch.2.1 ch.2.2.1) ([])::ah p (s3)::bK p pa (A2.pt sz 2)::bA (.slice KW Mq Mr) (af.bM m2 1 sz)::RR) (fun _=>(w4.heap.size,cl (eM Mx MB MC hh (.slice KW Mq Mr) Mz) 35)::LB),
  jW (α:=Option Addr×Nat×Nat×Unit) [] W (fun ch=>[(6,.tuple #[.agg (eM Pu Px Py hh (.slice ch.1 ch.2.1 ch.2.2.1) Pv),vI 0]),(7,.tuple #[.agg (eM Pu Px Py hh (.slice ch.1 ch.2.1 ch.2.2.1) Pv),vI 0]),(8,.agg (eM Pu Px Py hh (.slice ch.1 ch.2.1 ch.2.2.1) Pv))]) (fun _=>[(10,cl (dK) 35)]) (fun ch=>bA (.slice ch.1 ch.2.1 ch.2.2.1) ([])::ah p (s3)::bK p pa (A2.pt sz 2)::bA (.slice KW Mq Mr) (af.bM m2 1 sz)::RR) (fun _=>(w4.heap.size,cl (eM Mx MB MC hh (.slice KW Mq Mr) Mz) 35)::LB),
  jW (α:=Option Addr×Nat×Nat×Unit) [] W (fun ch=>[(6,.tuple #[.agg (eM Pu Px Py hh (.slice ch.1 ch.2.1 ch.2.2.1) Pv),vI 0]),(7,.tuple #[.agg (eM Pu Px Py hh (.slice ch.1 ch.2.1 ch.2.2.1) Pv),vI 0]),(8,.agg (eM Pu Px Py hh (.slice ch.1 ch.2.1 ch.2.2.1) Pv))]) (fun ch=>[(10,cl (eM Pu Px Py hh (.slice ch.1 ch.2.1 ch.2.2.1) Pv) 35)]) (fun ch=>bA (.slice ch.1 ch.2.1 ch.2.2.1) ([])::ah p (s3)::bK p pa (A2.pt sz 2)::bA (.slice KW Mq Mr) (af.bM m2 1 sz)::RR) (fun _=>(w4.heap.size,cl (eM Mx MB MC hh (.slice KW Mq Mr) Mz) 35)::LB)] (FT.out) ⟨sP,sP,sP,sP,sP,?_,?_,sY,sY,sE 2,sA 4 (cl (dK) 35),?_,sP,trivial⟩ ?_
 ·refine wC ?_;intro D v qq x h0;exact mo (dJ (n:=2) h0 aG)
 ·exact SX
 ·exact QT
 ·intro v qq x ch hF hS hA h
  obtain ⟨oqx,olx,ocx,_⟩:=ch
  simp only [tH,and_true] at hS
  simp only [SA,SC] at hA h
  generalize qq 10=VF at hA h
  have FV:=Hi h
  simp only [PU,bF,Nat.reduceAdd,gT hF 12,hA,hS]
  clear hF hS hA h
  have FU:=FV.out.lA (A:=[_])
  rw [uw.out,HLB.out] at FU
  have FU:=Hi FU
  clear CG FV FT uw HLB RR LB
  skip
  go_wp2_with fail
  refine (C9 (ms:=2) (w:=0) (text:=[97,32,116,101,120,116,32,116,104,97,116,32,104,97,115,32,115,111,109,101,32,112,97,114,116,115,32,111,102,32,105,116,115,32,111,119,110]) H4.out aG FU.out).mono ?_
  rintro e w5 ⟨v,rfl,g⟩
  obtain ⟨f9,⟨bE,-⟩,-⟩:=g.tell
  obtain ⟨qr5,cr5,rfl⟩:=gl bE
  clear bE
  have F5:=Hi g
  clear g FU
  go_wp2_with fail
  refine (dJ (n:=3) (F5.out.up 1) aG).mono ?_
  rintro e w6 ⟨rfl,g⟩
  have F6:=Hi g
  clear g F5
  go_wp2_with fail
  refine Calls.mono (R:=fun e w'=>∃ (oq:Option Addr) (ol oc:Nat),e=.returned (.tuple #[.agg #[vI IC,.string ⟨#[97,32,116,101,120,116,32,116,104,97,116,32,104,97,115,32,115,111,109,101,32,112,97,114,116,115,32,111,102,32,105,116,115,32,111,119,110]⟩,.bool true,vI hh,.slice oq ol oc,vI IE],vI 0])∧NF [] W w' (bA (.slice oq ol oc) ([])::ah p (s5)::bK p pb (B2.pt sz 2)::_) _) (tX (ms:=2) (id:=2) (mm:=m3) H5.out aG HZ.out.1 HZ.out.2 ⟨aG,aG⟩ HB.out (F6.out.up 1|>.up 4|>.up 2)) ?_
  rintro e w7 ⟨oq7,ol7,oc7,rfl,g⟩
  have F7:=Hi ((g.lA (A:=[_])).alloc (cl #[vI IC,.string ⟨#[97,32,116,101,120,116,32,116,104,97,116,32,104,97,115,32,115,111,109,101,32,112,97,114,116,115,32,111,102,32,105,116,115,32,111,119,110]⟩,.bool true,vI hh,.slice oq7 ol7 oc7,vI IE] 35))
  clear g F6
  have e2:decide ((0:Int)<hh)=true:=by have:=HP.out;simp;omega
  have e2b:0<hh:=HP.out
  have r:=rl F7.out.mem.rules
  go_wp2_with fail
  clear r
  refine (KU _).mono ?_
  rintro e w9 ⟨rfl,yN⟩
  have nB:=Hi (NF.dZ ((F7.out.later yN).sub (sj _)))
  clear F7 yN
  go_wp2_with fail
  go_ret
  exact ⟨rfl,nB.out⟩
end Go.Proofs.N0
