/- The walk of soughlaw21.PointTurns. (Printed by wip/tools/mkpt24.py.) -/
import Derived.Test.YtnkbpigjdojakaaGreatG1
import Derived.Test.YtnkbpigjdojakaaGreatG9
import Derived.Test.YtnkbpigjdojakaaGreatLPtTurns0
set_option maxRecDepth 100000
set_option maxHeartbeats 6400000
variable {A:Prop}
theorem a951 (h:A:=by
 rintro a' Vw ⟨gs13,cs13,K13,rfl,g9⟩;change cX _ VI _ 35 _ _;simp only [Act.put,bf,aY,aX,NG,BD,xY];clear FF UR;have FF:=Hi g9;clear g9;refine fs 35 38 ?_;go_wp2_with fail;refine (KU _).mono ?_;rintro e w9 ⟨rfl,yN⟩;have nB:=Hi (NF.dZ ((FF.out.later yN).sub (Bq _)));clear FF yN;go_wp2_with fail;change cX _ VI _ 38 _ _;refine Dk (by rw [yB.out];rfl) ?_;go_wp2_with fail;go_ret;exact ⟨rfl,nB.out⟩):A:=h
theorem a960 (h:A:=by
 go_wp2_with fail;refine (Dq (ms:=mb) (w:=0) H3.out HN.out F7.out).mono ?_;rintro e w8 ⟨rfl,g⟩;have F8:=Hi g;clear g F7;clear r e0 e1 e2;go_wp2_with fail;refine (dJ (n:=2) F8.out (by decide)).mono ?_;rintro e w9 ⟨rfl,g⟩;have F9:=Hi g;clear g F8;go_wp2_with fail;refine (um (ms:=2) H4.out (by decide) (by decide) (F9.out.up 4|>.up 1)).mono ?_;rintro e JF ⟨v,rfl,g⟩;obtain ⟨f9,⟨bE,-⟩,-⟩:=g.tell;obtain ⟨YI,YJ,rfl⟩:=gl bE;clear bE;have qR:=Hi g;clear g F9;go_wp2_with fail;refine (dJ (n:=3) (qR.out.up 1) (by decide)).mono ?_;rintro e P2 ⟨rfl,g⟩;have qd:=Hi g;clear g qR;go_wp2_with fail;refine Calls.mono (R:=fun e w'=>∃ (oq:Option Addr) (ol oc:Nat),e=.returned (.tuple #[.agg (eM IC Vl Vm hh (.slice oq ol oc) IE),vI 0])∧NF [] W w' (bA (.slice oq ol oc) (af.bM m4 mb sz)::ah p (s4)::bK p pb (B3.pt sz (mb+1))::_) _) (ij (ms:=mb) (id:=2) (mm:=m3) H5.out (by have:=HMB.out.2;omega) (by decide) HZ.out.1 HZ.out.2 ⟨by decide,by decide⟩ (qd.out.up 1|>.up 3|>.up 2)) ?_;rintro e E9 ⟨nh,nj,nr,rfl,g⟩;have xJ:=Hi (g.alloc (cl (eM IC Vl Vm hh (.slice nh nj nr) IE) 35));clear g qd;obtain ⟨RR,pH⟩:∃ RR:List aW,RR=bK p pb (B3.pt sz ((mb+1)))::bA (.slice YI (af.bM m3 2 sz).length YJ) (af.bM m3 2 sz)::bA (.slice oq6 ol6 oc6) (ob)::bA (.slice qr4 (af.bM m1 1 sz).length cr4) (af.bM m1 1 sz)::[]:=⟨_,rfl⟩
 have FS:=Hi (xJ.out.up 4|>.up 2);rw [←pH] at FS;have uw:=Hi pH;clear pH xJ;have CG:Hid (∀ (W1:World) (L1:List (Nat×Obj)),NF [] W W1 (ah p (af.BN (s4) 4)::bK p pa (A3.pt sz 3)::bA (.slice nh nj nr) (af.bM m4 mb sz)::RR) L1→Calls Tryz.prog 13 #[vP pa 0,.slice nh nj nr,vU 6,.agg #[vI (af.KR (s4) 4:Nat),vI (af.Qb (s4) 4:Nat),vI (af.Vb (s4) 4:Nat)]] W1 fun e w'=>∃ (oq:Option Addr) (ol oc:Nat),e=.returned (.tuple #[.agg (eM Pz PA PB hh (.slice oq ol oc) PC),vI 0])∧NF [] W w' (bA (.slice oq ol oc) ([])::ah p (s5)::bK p pa (A4.pt sz 3)::bA (.slice nh nj nr) (af.bM m4 mb sz)::RR) L1):=Hi fun W1 L1 h9=>ij (ms:=3) (id:=mb) (mm:=m4) H6.out (by decide) (by decide) HZ.out.1 HZ.out.2 ⟨HMB.out.1,by have:=HMB.out.2;omega⟩ h9;obtain ⟨LB,hLB⟩:∃ LB:List (Nat×Obj),LB=(w6.heap.size,cl (eM Mx MB MC h2 (.slice oq6 ol6 oc6) Mz) 35)::(w1.heap.size,cl #[vI (af.KR (af.fD) 9:Nat),vI (af.Qb (af.fD) 9:Nat),vI (af.Vb (af.fD) 9:Nat)] 32)::L9:=⟨_,rfl⟩
 have FT:=Hi (FS.out);rw [←hLB] at FT;have HLB:=Hi hLB;clear hLB FS;go_wp2_with fail;refine XK (n:=169) [4,5,6,7,10] [9] (tb [vP pa 0,vP E9.heap.size 4,some (.slice nh nj nr),vP p 0,some (.agg #[vI (af.KR (s4) 4:Nat),vI (af.Qb (s4) 4:Nat),vI (af.Vb (s4) 4:Nat)]),none,none,none,vI 0,none,none,vI 0]) ((E9.heap.size,cl (eM IC Vl Vm hh (.slice nh nj nr) IE) 35)::[]) [kN [] W [(9,cl (dK) 35)] (ah p (s4)::bK p pa (A3.pt sz 3)::bA (.slice nh nj nr) (af.bM m4 mb sz)::RR) ((E9.heap.size,cl (eM IC Vl Vm hh (.slice nh nj nr) IE) 35)::LB),
  kN [] W [(9,cl (dK) 35)] (ah p (af.BN (s4) 4)::bK p pa (A3.pt sz 3)::bA (.slice nh nj nr) (af.bM m4 mb sz)::RR) ((E9.heap.size,cl (eM IC Vl Vm hh (.slice nh nj nr) IE) 35)::LB),
  jW (α:=Option Addr×Nat×Nat×Unit) [] W (fun ch=>[(5,.tuple #[.agg (eM Pz PA PB hh (.slice ch.1 ch.2.1 ch.2.2.1) PC),vI 0])]) (fun _=>[(9,cl (dK) 35)]) (fun ch=>bA (.slice ch.1 ch.2.1 ch.2.2.1) ([])::ah p (s5)::bK p pa (A4.pt sz 3)::bA (.slice nh nj nr) (af.bM m4 mb sz)::RR) (fun _=>(E9.heap.size,cl (eM IC Vl Vm hh (.slice nh nj nr) IE) 35)::LB),
  jW (α:=Option Addr×Nat×Nat×Unit) [] W (fun ch=>[(5,.tuple #[.agg (eM Pz PA PB hh (.slice ch.1 ch.2.1 ch.2.2.1) PC),vI 0]),(6,.tuple #[.agg (eM Pz PA PB hh (.slice ch.1 ch.2.1 ch.2.2.1) PC),vI 0])]) (fun _=>[(9,cl (dK) 35)]) (fun ch=>bA (.slice ch.1 ch.2.1 ch.2.2.1) ([])::ah p (s5)::bK p pa (A4.pt sz 3)::bA (.slice nh nj nr) (af.bM m4 mb sz)::RR) (fun _=>(E9.heap.size,cl (eM IC Vl Vm hh (.slice nh nj nr) IE) 35)::LB),
  jW (α:=Option Addr×Nat×Nat×Unit) [] W (fun ch=>[(5,.tuple #[.agg (eM Pz PA PB hh (.slice ch.1 ch.2.1 ch.2.2.1) PC),vI 0]),(6,.tuple #[.agg (eM Pz PA PB hh (.slice ch.1 ch.2.1 ch.2.2.1) PC),vI 0]),(7,.agg (eM Pz PA PB hh (.slice ch.1 ch.2.1 ch.2.2.1) PC))]) (fun _=>[(9,cl (dK) 35)]) (fun ch=>bA (.slice ch.1 ch.2.1 ch.2.2.1) ([])::ah p (s5)::bK p pa (A4.pt sz 3)::bA (.slice nh nj nr) (af.bM m4 mb sz)::RR) (fun _=>(E9.heap.size,cl (eM IC Vl Vm hh (.slice nh nj nr) IE) 35)::LB),
  jW (α:=Option Addr×Nat×Nat×Unit) [] W (fun ch=>[(5,.tuple #[.agg (eM Pz PA PB hh (.slice ch.1 ch.2.1 ch.2.2.1) PC),vI 0]),(6,.tuple #[.agg (eM Pz PA PB hh (.slice ch.1 ch.2.1 ch.2.2.1) PC),vI 0]),(7,.agg (eM Pz PA PB hh (.slice ch.1 ch.2.1 ch.2.2.1) PC))]) (fun ch=>[(9,cl (eM Pz PA PB hh (.slice ch.1 ch.2.1 ch.2.2.1) PC) 35)]) (fun ch=>bA (.slice ch.1 ch.2.1 ch.2.2.1) ([])::ah p (s5)::bK p pa (A4.pt sz 3)::bA (.slice nh nj nr) (af.bM m4 mb sz)::RR) (fun _=>(E9.heap.size,cl (eM IC Vl Vm hh (.slice nh nj nr) IE) 35)::LB)] (FT.out) ⟨sP,sP,sP,sP,?_,?_,sY,sY,sE 2,sA 4 (cl (dK) 35),?_,sP,trivial⟩ ?_
 ·refine wC ?_;intro D v qq x h0;exact mo (dJ (n:=4) h0 (by decide))
 ·refine wX ?_;intro D v qq x ch hS h0;refine (CG.out _ _ h0).mono ?_;rintro e z ⟨oqx,olx,ocx,rfl,h⟩;exact ⟨(oqx,olx,ocx,()),xE,h⟩
 ·exact Yg
 ·intro v qq x ch hF hS hA h;obtain ⟨oqx,olx,ocx,_⟩:=ch;simp only [tH,and_true] at hS;simp only [SA,SC] at hA h;generalize qq 9=q9 at hA h;have FV:=Hi h;simp only [PU,bF,Nat.reduceAdd,gT hF 11,hA,hS];clear hF hS hA h;have FU:=FV.out.lA (A:=[_]);rw [uw.out,HLB.out] at FU;have FU:=Hi FU;clear CG FV FT uw HLB RR LB;have e2:decide ((0:Int)<hh)=true:=by have:=HP.out;simp;omega
  have e2b:0<hh:=HP.out;go_wp2_with fail;refine Bh ?_;intro VI Vi;refine xV (by kernel_rfl) ?_;have FD:=Hi (FU.out.later (Below.refl _ _).drew);generalize World.drew _=wd at FD ⊢;clear FU;have yB:=Hi Vi;clear Vi;obtain ⟨RA,hRA⟩:∃ RA:List aW,RA=bA (.slice nh nj nr) (af.bM m4 mb sz)::bK p pb (B3.pt sz ((mb+1)))::bA (.slice YI (af.bM m3 2 sz).length YJ) (af.bM m3 2 sz)::bA (.slice oq6 ol6 oc6) (ob)::bA (.slice qr4 (af.bM m1 1 sz).length cr4) (af.bM m1 1 sz)::[]:=⟨_,rfl⟩
  obtain ⟨LA,hLA⟩:∃ LA:List (Nat×Obj),LA=(q9,cl (eM Pz PA PB hh (.slice oqx olx ocx) PC) 35)::(E9.heap.size,cl (eM IC Vl Vm hh (.slice nh nj nr) IE) 35)::(w6.heap.size,cl (eM Mx MB MC h2 (.slice oq6 ol6 oc6) Mz) 35)::(w1.heap.size,cl #[vI (af.KR (af.fD) 9:Nat),vI (af.Qb (af.fD) 9:Nat),vI (af.Vb (af.fD) 9:Nat)] 32)::L9:=⟨_,rfl⟩
  have FF:Hid (NF [] W wd (ah p (s5)::bK p pa (A4.pt sz 3)::RA) LA):=Hi (by rw [hRA,hLA];exact FD.out);clear FD;obtain ⟨HRA,HLA⟩:=hi2 hRA hLA;clear hRA hLA;refine fq 0 3 ?_;refine fQ ?_;intro wq FF;refine fq 3 7 ?_;refine fQ ?_;intro wq FF;refine fq 7 11 ?_;refine fQ ?_;intro wq FF;refine fq 11 15 ?_;refine fQ ?_;intro wq FF;refine fq 15 22 ?_;refine fR ?_;intro wq FF;refine fq 22 27 ?_;refine fR ?_;intro wq FF;have UR:Hid (∀ (W9:World) (L8:List (Nat×Obj)),NF [] W W9 (ah p (s5)::bK p pa (A4.pt sz 3)::RA) L8→Calls Tryz.prog 17 #[vP pa 0,vI 0] W9 fun e w'=>∃ v,e=.returned v∧NF [] W w' (EW v [hh]::ah p (s5)::bK p pa (A4.pt sz 3)::RA) L8):=Hi (fun W9 L8 h9=>iP (w:=0) T1.out h9);refine fw 27 35 ?_;simp only [Dr,qg,List.length_nil,bF,Nat.reduceAdd];refine any_merge (fun a0 a' w'=>∃ (gs cs K:Nat),a'=(((((((a0.put (some 159) (vP pa 0)).put (some 160) (vL gs 0 1 cs)).put (some 161) (vP q9 3)).put (some 162) (vI hh)).put (some 163) (vL K 0 1 1)).put (some 164) (.bool true)).put (some 165) (.bool true)).put (some 166) (.bool true)∧NF [] W w' (ah p (s5)::bK p pa (A4.pt sz 3)::RA) LA) ?_ ?_
  ·have r:=FF.out.mem.rules;rewrite [HLA.out] at r;replace r:=rl r;refine wpAny_take (i:=0) (v:=vP pa 0) rfl (by kernel_rfl) (by kernel_rfl) (by kernel_rfl) (fun _ _ _ h=>h) (Or.inl ⟨by rfl,by intro w;go_simp⟩) ?_;refine wpAny_take (i:=2) (v:=vP q9 3) rfl (by kernel_rfl) (by kernel_rfl) (by kernel_rfl) (fun _ _ _ h=>h) (Or.inl ⟨by rfl,by intro w;go_simp⟩) ?_;exact a90
  exact a951):A:=h
namespace Go.Proofs.N0
open Go.RowKit Go.Maps Go.ChangeMaps
variable {n:Nat}
section
variable {S:List Nat} {w0 W:World} {p b:Nat} {L:List (Nat×Obj)} {R:List aW} {st:af.Store} {c c1:af.Core} {size:Int} {ms w:Nat} {x:Int}
theorem Dq (cP:af.nt st c w (n:Nat) x=some c1) (hn:n<2) (h:NF S w0 W (ah p st::bK p b (c.pt size ms)::R) L) :
 Calls Tryz.prog 21 #[vP b 0,vI w,vI (n:Nat),vI x] W fun e w'=>e=.returned (vI 0)∧NF S w0 w' (ah p st::bK p b (c1.pt size ms)::R) L:=by
 rcases (by omega:n=0∨n=1) with rfl|rfl
 ·exact KV cP h
 ·exact KW cP h
end
theorem PD {A0 B0 A1 A2 B1 B2 A3 B3 A4:af.Core} {s1 s2 s3 s4 s5:af.Store} {m1 m3 m4:af.bJ} {g2:af.AZ} {er2 k size tu sl:Nat} {sz IC IE hh Pz PC:Int} {Vl PA:List UInt8} {Vm PB:Bool} (W:World) (hH0:af.nt (af.BN af.fD 9) A0 0 (n:Nat) (af.KR af.fD 9:Nat)=some A1) (hH1:af.pM (af.BN af.fD 9) 0 A1 (k:Nat) 5=some (s1,A2,m1)) (hH2:af.fC s1 1 B0 m1 5=some (s2,B1,g2,er2)) (hH3:af.nt s2 B1 0 (n:Nat) (af.KR af.fD 9:Nat)=some B2) (hH4:af.pM s2 2 A2 (k:Nat) 6=some (s3,A3,m3)) (hH5:af.fC s3 3 B2 m3 6=some (s4,B3,⟨IC,Vl,Vm,hh,some m4,IE⟩,0)) (hH6:af.fC s4 4 A3 m4 6=some (s5,A4,⟨Pz,PA,PB,hh,none,PC⟩,0)) (hHP:0<hh) (hT1:af.dM A4 0=some [hh]) (hHC:(n=k∧er2=9∧g2.h=0∧af.dM B1 0=some [])∨(n≠k∧er2=0∧0<g2.h)) (hHZ:8≤sz∧sz≤1000) (hn:(tu:Int) % 2=(n:Int)) (hk:(sl:Int) % 2=(k:Int)) (hn2:n<2) (hs:(8:Int)+(size:Int)=sz) (hb:size<256∧tu<256∧sl<256)
 (CT:Calls Tryz.prog 10 #[.string ⟨#[1]⟩,.string ⟨#[1]⟩,vI sz] W fun e w'=>∃ p b1 b2,e=.returned (.tuple #[vP p 0,vP b1 0,vP b2 0])∧NF [] W w' [ah p af.fD,bK p b1 (A0.pt sz 1),bK p b2 (B0.pt sz 1)] []) :
 Calls Tryz.prog 5 #[.int .u8 size,.int .u8 tu,.int .u8 sl] W fun e w'=>e=.returned (.bool true)∧Below W.heap.size W w':=by
 have H0:=Hi hH0
 have H1:=Hi hH1
 have H2:=Hi hH2
 have H3:=Hi hH3
 have H4:=Hi hH4
 have H5:=Hi hH5
 have H6:=Hi hH6
 have HP:=Hi hHP
 have T1:=Hi hT1
 have HC:=Hi hHC
 have HZ:=Hi hHZ
 obtain ⟨HN,HCT⟩:=hi2 hn2 CT
 obtain ⟨hb1,hb2,hb3⟩:=hb
 clear hH0 hH1 hH2 hH3 hH4 hH5 hH6 hHP hT1 hHC hHZ hn2 CT
 go_enter Tryz.func5,Tryz.ntmps5
 go_wp2_with fail
 refine HCT.out.mono ?_
 rintro e w1 ⟨p,pa,pb,rfl,g⟩
 obtain ⟨L9,hL9⟩:∃ L9:List (Nat×Obj),L9=[]:=⟨_,rfl⟩
 have F0:Hid (NF [] W w1 [ah p af.fD,bK p pa (A0.pt sz 1),bK p pb (B0.pt sz 1)] L9):=Hi (by rw [hL9];exact g)
 clear g HCT hL9
 go_wp2_with fail
 refine (dJ (n:=9) F0.out aG).mono ?_
 rintro e w1 ⟨rfl,g⟩
 have F1:=Hi (g.alloc (cl #[vI (af.KR (af.fD) 9:Nat),vI (af.Qb (af.fD) 9:Nat),vI (af.Vb (af.fD) 9:Nat)] 32))
 clear g F0
 have r:=rl F1.out.mem.rules
 go_wp2_with fail
 refine (Dq (ms:=1) (w:=0) H0.out HN.out F1.out).mono ?_
 rintro e w2 ⟨rfl,g⟩
 have F2:=Hi g
 clear g F1
 clear r
 go_wp2_with fail
 refine (dJ (n:=0) F2.out aG).mono ?_
 rintro e w3 ⟨rfl,g⟩
 have F3:=Hi g
 clear g F2
 go_wp2_with fail
 refine (um (ms:=1) H1.out aG aG F3.out).mono ?_
 rintro e w4 ⟨v,rfl,g⟩
 obtain ⟨f9,⟨bE,-⟩,-⟩:=g.tell
 obtain ⟨qr4,cr4,rfl⟩:=gl bE
 clear bE
 have F4:=Hi g
 clear g F3
 go_wp2_with fail
 refine (dJ (n:=1) (F4.out.up 1) aG).mono ?_
 rintro e w5 ⟨rfl,g⟩
 have F5:=Hi g
 clear g F4
 go_wp2_with fail
 refine (ij (ms:=1) (id:=1) (mm:=m1) H2.out aG aG HZ.out.1 HZ.out.2 ⟨aG,aG⟩ (F5.out.up 1|>.up 3|>.up 2)).mono ?_
 rintro e w6 ⟨oq6,ol6,oc6,rfl,g⟩
 have HMB:Hid (1≤g2.ms 1∧g2.ms 1+1<1000000):=Hi (by unfold af.AZ.ms;cases g2.out<;>simp)
 have F6:=Hi (g.alloc (cl (eM g2.peer g2.text g2.yes g2.h (.slice oq6 ol6 oc6) g2.code) 35))
 generalize (g2.got 1 sz).out=ob at F6
 generalize g2.ms 1=mb at F6 HMB
 clear g F5
 generalize g2.h=h2 at HC F6 ⊢
 generalize g2.peer=Mx at F6 ⊢
 generalize g2.text=MB at F6 ⊢
 generalize g2.yes=MC at F6 ⊢
 generalize g2.code=Mz at F6 ⊢
 rcases HC.out with hc|hc
 ·clear HC;obtain ⟨hne,rfl,hpos,hs2⟩:=hc;have Wc:=Hi hs2;clear hs2;have r:=rl F6.out.mem.rules;have e0:((n:Int)==(k:Int))=true:=aR;have e1:((n:Int) != (k:Int))=false:=aR;have e2:(h2 != 0)=false:=aR;clear hne hpos;go_wp2_with fail;clear r;refine (iP (w:=0) Wc.out (F6.out.up 2|>.up 2)).mono ?_;rintro e w7 ⟨v9,rfl,g⟩;obtain ⟨f9,⟨bE,-⟩,-⟩:=g.tell;have cH:w7.ownsRow 0 3 1 v9 0 []:=bE;obtain ⟨qs9,cs9,rfl⟩:=gl cH;have F7:=Hi (g.lA (A:=[_]));clear F6 g cH bE Wc;have r:=rl F7.out.mem.rules;exact a960
 ·clear HC;obtain ⟨hne,rfl,hpos⟩:=hc;have F7:=Hi (F6.out.up 2|>.up 2);clear F6;have r:=rl F7.out.mem.rules;have e0:((n:Int)==(k:Int))=false:=aR;have e1:((n:Int) != (k:Int))=true:=aR;have e2:decide (h2<1)=false:=aR;clear hne hpos;exact a960
end Go.Proofs.N0
