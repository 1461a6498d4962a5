/- Texts YtnkbpigjdojakaaGreatHdBegin .. YtnkbpigjdojakaaGreatGuard, joined. What they prove: the contracts of the functions that the law reaches, and plain law. -/
import Derived.Test.YtnkbpigjdojakaaGreatG4
import Derived.StillTailTactics
import Derived.Lib.IndexAny
import Derived.Laws.StructEq
import Derived.Laws.Tables
import Derived.KernelRfl
import Derived.WalkKit
import Derived.Lib.Hide
set_option maxRecDepth 100000
set_option maxHeartbeats 6400000
theorem tV:type_of% @Array.getElem?_toList:=@Array.getElem?_toList
variable {A:Prop}
theorem LU (h:A:=by
 exact F7.sub ((zq _ _).trans ((zq _ _).trans (zq _ _)))):A:=h
theorem a9128 (h:A:=by
 refine (iW (er:=3) (by omega) _).mono ?_;rintro e w19 ⟨rfl,rfl⟩;exact oA rfl rfl rfl Eh.out vg (by simpa [af.dr] using Ad.out)):A:=h
theorem ZG (h:A:=by
 refine wM ?_;intro D v qq x h0 yy;exact ⟨_,((((h0.ai (B:=[_]) 0 (vI c15.1.ck)).ai (B:=[_]) 1 (vI c15.1.k)).ai (B:=[_]) 2 (vI c15.1.h)).ai (B:=[_]) 3 (vU c15.1.n)),wE⟩):A:=h
theorem YR (h:A:=by
 refine wM ?_;intro D v qq x h0 yy;exact ⟨_,(h0.ai (B:=[_]) 4 (vI d0)),wE⟩):A:=h
theorem YW (h:A:=by
 refine wM ?_;intro D v qq x h0 yy;exact ⟨_,(h0.ai (B:=[_]) 5 (vI d1)),wE⟩):A:=h
theorem YV (h:A:=by
 refine wM ?_;intro D v qq x h0 yy;exact ⟨_,(h0.ai (B:=[_]) 6 (vS m.offer)),wE⟩):A:=h
theorem PI (h:A:=by
 refine wM ?_;intro D v qq x h0 yy;exact ⟨_,(h0.ai (B:=[]) 0 (vI 0)),wE⟩):A:=h
theorem tP (h:A:=by
 refine bH (by decide) rfl rfl ?_;intro i v x hS hF hB;simp only [aq,Act.put,aX,jr,aY];exact Dq):A:=h
theorem TA (h:A:=by
 simp only [aq,Act.put,aX,jr,aY,e0];exact Dq):A:=h
theorem a975 (h:A:=by
 simp only [aq,Act.put,aX,jr,aY,e2];exact Dq):A:=h
theorem aag (h:A:=by
 refine bH (by decide) rfl rfl ?_;intro i v x hS hF hB;have e2:v 2=vS [c]:=hF 2 _ (by decide) rfl;exact a975):A:=h
theorem aao (h:A:=by
 exact wpQuiet_nil rfl):A:=h
theorem a979 (h:A:=by
 refine bH (by decide) rfl rfl ?_;intro i v x hS hF hB;have e1:v 1=vS pd.offer:=hF 1 _ (by decide) rfl;have e3:v 3=.int .u8 (c.toNat:Int):=hF 3 _ (by decide) rfl;simp only [aq,Act.put,aX,jr,aY,e1,e3];go_big_quiet_step ((go_at_call 149;exact Calls.tA (CI.out _)));exact aao):A:=h
theorem a987 (h:A:=by
 simp only [aq,Act.put,aX,jr,aY,e4];exact Dq):A:=h
theorem Y5 (h:A:=by
 refine bH (by decide) rfl rfl ?_;intro i v x hS hF hB;have e4:v 4=vI kx:=hF 4 _ (by decide) rfl;exact a987):A:=h
theorem Hz (h:A:=by
 go_wp2_with fail
 go_roundw
 case rel=>exact HR.out
 case measure=>simp [intOf];omega):A:=h
theorem Zz (h:A:=by
 rintro e w1 ⟨rfl,rfl⟩;go_wp2_with fail;go_ret;exact ⟨rfl,Below.refl _ _⟩):A:=h
theorem YU (h:A:=by
 rintro e w1 ⟨rfl,rfl⟩;go_wp2_with fail;go_ret2;exact ⟨rfl,Below.refl _ _⟩):A:=h
theorem N2 (h:A:=by simp [HGL.out]):A:=h
theorem a992 (h:A:=by
 refine bH (by decide) rfl rfl ?_;intro i v x hS hF hB;have e1:v 1=vL g 0 n cap:=hF 1 _ (by decide) rfl;have e3:v 3=vI (ix:Int):=hF 3 _ (by decide) rfl;simp only [aq,Act.put,aX,jr,aY,e1,e3];exact Dq):A:=h
theorem a9103 (h:A:=by
 refine bH (by decide) rfl rfl ?_;intro i v x hS hF hB;have e6:v 6=vP g (ix*4):=hF 6 _ (by decide) rfl;simp only [aq,Act.put,aX,jr,aY,e6];exact Dq):A:=h
theorem a990 (h:A:=by
 refine bH (by decide) rfl rfl ?_;intro i v x hS hF hB;have e7:v 7=vP g (ix*4+2):=hF 7 _ (by decide) rfl;have e5:v 5=vI (sl:Int):=hF 5 _ (by decide) rfl;simp only [aq,Act.put,aX,jr,aY,e7,e5];exact Dq):A:=h
theorem aap (h:A:=by
 simp only [aq,Act.put,aX,jr,aY,e8];exact Dq):A:=h
theorem Sd (h:A:=by unfold af.Cl;simp):A:=h
theorem a961 (h:A:=by
 simp only [aq,Act.put,aX,jr,aY];exact Dq):A:=h
theorem Sg (h:A:=by
 refine bH (by decide) rfl rfl ?_;intro i v x hS hF hB;have yy:=rl (SF.iV hS);exact a961):A:=h
theorem ZB (h:A:=by
 simp only [af.vR,af.eR,Prod.mk.injEq] at hf;obtain ⟨rfl,rfl,rfl,rfl⟩:=hf;exact ⟨hc,hw _ _ _ rfl⟩):A:=h
theorem ZJ (h:A:=by
 simp only [af.vR,af.eR,Prod.mk.injEq] at hf;obtain ⟨rfl,rfl,rfl⟩:=hf;exact ⟨hc,hw _ _ rfl⟩):A:=h
theorem ZC (h:A:=by
 have r:=rl F0.out.mem.rules;go_enter Tryz.func77,Tryz.ntmps77;go_wp2_with fail;go_ret;exact ⟨rfl,F0.out.dZ⟩):A:=h
theorem c955 (h:A:=by simp [results,Tryz.results124,go_sem,r4]):A:=h
theorem a938 (h:A:=by
 have F2:=Hi (((NF.gR W).alloc (cl #[vU l.prev.id,vU l.prev.to,vU l.prev.born,vU l.cur.id,vU l.cur.to,vU l.cur.born,vU l.next.id,vU l.next.to,vU l.next.born] 107)).alloc (cl #[vU l.prev.id,vU l.prev.to,vU l.prev.born,vU l.cur.id,vU l.cur.to,vU l.cur.born,vU l.next.id,vU l.next.to,vU l.next.born] 107));simp only [World.size_alloc] at F2;have r:=rl F0.out.mem.rules;have r2:=rl F2.out.mem.rules;go_enter Tryz.func127,Tryz.ntmps127;go_wp2_with fail;exact bodyPost_ret (v:=.agg #[vU l.prev.id,vU l.prev.to,vU l.prev.born,vU l.cur.id,vU l.cur.to,vU l.cur.born,vU l.next.id,vU l.next.to,vU l.next.born]) (by simp [results,Tryz.results127,go_sem,r2]) rfl ⟨rfl,F2.out.dZ⟩):A:=h
theorem a940 (h:A:=by
 clear h hv;go_enter Tryz.func145,Tryz.ntmps145;go_wp2_with fail;have rq:=rl F0.out.mem.ei;refine ay (by kernel_rfl) (by kernel_rfl) ?_;repeat go_big_quiet_step (fail)
 refine wpQuiet_nil ?_;rintro ⟨w1,hb⟩;change Exit.then _ _ _ _ w1;have F1:=Hi (F0.out.later hb);clear hb rq F0 c;go_wp2_with fail;go_ret;exact ⟨rfl,F1.out⟩):A:=h
theorem a976 (h:A:=by
 have CC:=Hi C;have e1:decide ((i:Int)<0)=false:=by simp
 have e2:decide ((i:Int)≥(n:Int))=false:=by simp;omega
 have e3:(0:Int)≤(i:Int):=by omega
 have e4:(i:Int)<8:=by omega
 have e5:i<8:=by omega
 clear C;go_enter Tryz.func144,Tryz.ntmps144;go_wp2_with fail;refine CC.out.mono ?_;rintro e w1 ⟨rfl,g1⟩;go_wp2_with fail;go_ret;exact ⟨rfl,g1⟩):A:=h
namespace Go.Proofs.N0
open Go.RowKit Go.Maps Go.ChangeMaps
variable {st s:af.Store} {y:af.Sym} {S:List Nat} {w0 W:World} {p:Nat} {L:List (Nat×Obj)}
theorem kF {q d:Int} {z:af.Sym×Int} (h:st.Ok) (hd:af.Int64 d) (hy:y.Wf) (hf:af.pN st y q d=(s,.ok z)):af.Int64 z.2∧z.1.Wf:=by
 unfold af.pN at hf;obtain ⟨s1,r1,h1⟩:∃ s r,af.Dx (af.eZ st q d)=(s,r):=⟨_,_,rfl⟩
 have hk:=af.nE (q:=q) h hd;have ho:=af.qC (q:=q) h hd;rw [h1] at hf;rcases r1 with er|b
 ·simp [af.dr] at hf
 obtain ⟨a,c,h2,rfl⟩:=af.rR h1;rw [h2] at hk ho;obtain ⟨s2,r2,h3⟩:∃ s r,af.cE s1 y a=(s,r):=⟨_,_,rfl⟩
 simp only [af.dr,h3] at hf;rcases r2 with er|z1
 ·simp at hf
 have hz:=af.aU ho hy h3;have ho2:s2.Ok:=by have:=af.mq (y:=y) (x:=(a:Int)) ho hy.h hk.1;rw [af.fK h3] at this;exact this
 obtain ⟨s3,r3,h4⟩:∃ s r,af.gK s2 z1 c=(s,r):=⟨_,_,rfl⟩
 simp only [h4] at hf;rcases r3 with er|z2
 ·simp at hf
 simp only [Prod.mk.injEq,Except.ok.injEq] at hf;obtain ⟨rfl,rfl⟩:=hf;exact ⟨hk.1,af.bY ho2 hz hk.2 h4⟩
theorem aM {α β:Type} {r:af.aW α} {f:af.Store→α→af.aW β} {b:β} (h:af.dr r f=(s,.ok b)):∃ s1 a,r=(s1,.ok a)∧f s1 a=(s,.ok b):=by
 obtain ⟨s1,r⟩:=r
 cases r with
 | error e=>simp [af.dr] at h
 | ok a=>exact ⟨s1,a,rfl,h⟩
theorem cF {z:af.Sym} {x:Int} (h:st.Ok) (hy:y.Wf) (hx:af.Int64 x) (hf:af.cE st y x=(s,.ok z)):s.Ok:=by
 have:=af.mq (y:=y) h hy.h hx;rw [af.fK hf] at this;exact this
theorem kG {l:List UInt8} {z:Int} (h:st.Ok) (hl:l.length≤9223372036854775807) (hf:af.mC st l=(s,.ok z)):s.Ok:=by
 obtain ⟨n,h1,_⟩:=af.fe hf
 have:=af.kD (s:=l) h hl;rw [h1] at this;exact this
theorem lW {text:List UInt8} {slot:Int} {q:af.Pair} (h:st.Ok) (ht:text.length≤9223372036854775807) (ha:af.Int64 q.dh) (hb:af.Int64 q.cD) (hf:af.firstT st text slot q=(s,.ok y)):y.Wf:=by
 unfold af.firstT at hf;obtain ⟨s1,y1,h1,hf⟩:=aM hf;have w1:=nG h h1;have o1:s1.Ok:=by have:=af.qB (s:=af.Fg) h (by decide);rw [af.fK h1] at this;exact this
 obtain ⟨s2,x2,h2,hf⟩:=aM hf;have o2:=kG o1 ht h2;obtain ⟨s3,y3,h3,hf⟩:=aM hf;have n2:=af.di o1 h2;have w3:=af.aU o2 w1 h3;have o3:=cF o2 w1 n2 h3;obtain ⟨s4,x4,h4,hf⟩:=aM hf;have hl:(af.mD slot).length≤9223372036854775807:=by unfold af.mD;split<;>simp
 have o4:=kG o3 hl h4;have n4:=af.di o3 h4;obtain ⟨s5,y5,h5,hf⟩:=aM hf;have w5:=af.aU o4 w3 h5;have o5:=cF o4 w3 n4 h5;obtain ⟨s6,y6,h6,hf⟩:=aM hf;have w6:=af.aU o5 w5 h6;have o6:=cF o5 w5 ha h6;exact af.aU o6 w6 hf
section
variable {S:List Nat} {w0 W:World} {p:Nat} {st:af.Store} {A B:List (Nat×Obj)}
end
theorem xG (f sl e ek b c1 c2:Int) (o:List UInt8):bR (af.uI f o sl e ek b c1 c2)=#[vI 1,vU f,vU 0,vS o,vI sl,vI 0,vI e,vI ek,vI b,vI c1,vI c2,vU 0,vU 0]:=by simp [bR,af.uI]
theorem Gm {f sl e ek b c1 c2:Int} {o:List UInt8} (hf:0≤f∧f≤18446744073709551615) (ho:o.length≤9223372036854775807) (hs:sl=0∨sl=1) (he:af.Int64 e) (hk:af.Int64 ek) (hb:af.Int64 b) (h1:af.Int64 c1) (h2:af.Int64 c2):(af.uI f o sl e ek b c1 c2).Wf:=by
 have jN:af.Int64 sl:=by rcases hs with rfl|rfl<;>exact ⟨by decide,by decide⟩
 refine ⟨fun c hc=>?_,fun c hc=>?_,ho⟩
 ·simp only [gF,Bp,or_false] at hc;rcases hc with rfl|rfl|rfl|rfl|rfl|rfl|rfl|rfl<;>simp [af.uI]<;>first|exact jN|exact he|exact hk|exact hb|exact h1|exact h2|skip
 ·simp only [gF,Bp,or_false] at hc;rcases hc with rfl|rfl|rfl|rfl<;>simp [af.uI]<;>first|exact hf|skip
def pendC (q:af.cz):Array Value:=(vM q)
def vq (S:List Nat) (w0:World) (p:Nat) (L:List (Nat×Obj)) (r:af.aW (af.bJ×af.cz)) (e:Ending) (w':World):Prop:=match r with
 | (s,.ok z)=>e=.returned (.tuple #[.agg (bR z.1),.agg (pendC z.2),vI 0])∧SF S w0 w' p s L
 | (s,.error er)=>e=.returned (.tuple #[.agg (lF),.agg #[vI 0,vI 0,vI 0,vU 0,vI 0,vI 0,.string ⟨#[]⟩],vI er])∧SF S w0 w' p s L
theorem oA {q:World} {E Pn M er:Nat} {L':List (Nat×Obj)} {tmps:Array Value} {R:af.aW (af.bJ×af.cz)} (h12:tmps[12]?=some (vP M 0)) (yJ:tmps[13]?=some (vP Pn 0)) (Ae:tmps[14]?=some (vP E 0))
 (g:SF S w0 q p s L') (hs:((E,cl #[vI 0] 28)::(Pn,cl #[vI 0,vI 0,vI 0,vU 0,vI 0,vI 0,.string ⟨#[]⟩] 86)::(M,cl (lF) 82)::L).Sublist L') (hR:(s,.error er)=R) :
 Leaves Tryz.prog Tryz.f28 tmps (vq S w0 p L R) [{target:=.fn (.func 54) #[],args:=#[vP E 0]}] (.panicking (bI er)) q:=by
 have F5:=g.sub hs
 have hc:=F5.get 0 rfl
 refine mO rfl (old:=vI 0) (by simp [World.cell?,hc]) (by simp [World.frozen?,hc]) ?_
 have F7:=(F5.later ((Below.refl _ _).alloc (cC _) (cl #[vI er] 227))).set 0 (vI er)
 have g0:=F7.get 0 rfl
 have g1:=F7.get 1 rfl
 have g2:=F7.get 2 rfl
 rw [←hR]
 refine ⟨.tuple #[.agg (lF),.agg #[vI 0,vI 0,vI 0,vU 0,vI 0,vI 0,.string ⟨#[]⟩],vI er],?_,rfl,?_⟩
 ·simp [results,Tryz.results28,go_sem,World.cell?,g0,g1,g2,h12,yJ,Ae]
 ·exact LU
theorem SF.iV (h:SF S w0 W p st L):∀ z:Later W,bZ z.world L:=h.mem.ei
theorem Gn {k:Nat} {cs:Array Value} {T:TypeId} (h:W.heap[k]?=some (.cells cs T (0,0))):gC W k 0 cs.toList:=by
 have:=(Mem.with (Mem.start W) h).rules
 exact this.1
-- one call;a panic goes through the door
theorem W8 {stamp:Nat} {me:af.Pair} {pr:af.dG} {m:af.bJ} {d0 d1 d2:Int} {R:af.aW (af.bJ×af.cz)} (h:SF S w0 W p st L) (hm:m.Wf) (h4:m.v 4=0) (hst:stamp<18446744073709551616)
 (hme:af.Int64 me.dh∧af.Int64 me.cD) (sr:af.Int64 pr.jo.dh∧af.Int64 pr.jo.cD∧af.Int64 pr.p0∧af.Int64 pr.p1) (hd:af.Int64 d0∧af.Int64 d1∧af.Int64 d2) (hf:af.iY st me pr m stamp d0 d1 d2=R) :
 Calls Tryz.prog 28 #[vP p 0,.agg #[vI me.dh,vI me.cD],.agg (pU pr),.agg (dW m),vU stamp,.agg #[vI d0,vI d1,vI d2]] W (vq S w0 p L R):=by
 obtain ⟨Sh,uu,uv,HD,HST⟩:=vT hm hme sr hd hst
 have HR:=Hi hf
 unfold af.iY at HR
 simp only [h4,af.need,af.dG.Bi,true_or,decide_true,if_true,af.dr] at HR
 first|rw [h4]|(unfold dW;rw [h4])
 have F0:=Hi (((((((h.alloc (cl #[vI me.dh,vI me.cD] 62)).alloc (cl (pU pr) 65)).alloc (cl (oM m 0) 82)).alloc (cl #[vI d0,vI d1,vI d2] 32)).alloc (cl (lF) 82)).alloc (cl #[vI 0,vI 0,vI 0,vU 0,vI 0,vI 0,.string ⟨#[]⟩] 86)).alloc (cl #[vI 0] 28))
 simp only [World.size_alloc] at F0
 clear h hm h4 hme sr hd hf hst
 go_enter_defers Tryz.func28,Tryz.ntmps28
 go_wp2_with fail
 refine (jB _).mono ?_
 rintro e w1 ⟨rfl,rfl⟩
 go_wp2_with fail
 have N3:=Hi F0.out.ok
 obtain ⟨s1,r1,h1⟩:∃ s r,af.firstT st m.offer 0 pr.jo=(s,r):=⟨_,_,rfl⟩
 rcases r1 with er|y1
 ·have hq:=HR.out;simp only [h1] at hq;refine (oB F0.out Sh.out.text (.inl rfl) uv.out.1 uv.out.2.1 h1).mono ?_;rintro e w2 ⟨rfl,g⟩;exact oA rfl rfl rfl g vg hq
 have hq:=HR.out;simp only [h1] at hq
 have tN:=Hi hq
 clear hq HR
 have Eb:=Hi (lW N3.out Sh.out.text uv.out.1 uv.out.2.1 h1)
 refine (oB F0.out Sh.out.text (.inl rfl) uv.out.1 uv.out.2.1 h1).mono ?_
 rintro e w2 ⟨t,rfl,g⟩
 have F1:=Hi ((g.alloc (cl (jM m 0 0 0 0 0 0) 82)).perm (List.Perm.swap _ _ _))
 have r:=dw g.mem.rules
 clear g h1 F0
 have r1:=dw F1.out.mem.rules
 go_wp2_with fail
 clear r r1
 have NI:=Hi F1.out.ok
 refine gM (af.eD s1 d0) (fun _ _ h2=>gN tN h2 (kE F1.out HD.out.1 h2)) fun s2 e2 zM=>?_
 refine cg tN zM (jc F1.out HD.out.1 zM.out) ?_
 intro w3 oJ F2
 clear F1 tN
 have r:=dw F2.out.mem.rules
 go_wp2_with fail
 clear r
 have LO:Hid (SF S w0 (w3.setCell ⟨w2.heap.size,6,none⟩ (vI e2)) p s2 ((t,aA p (y1))::(w2.heap.size,cl (jM m 0 e2 0 0 0 0) 82)::_)):=Hi (F2.out.ai (A:=[_]) 6 (vI e2))
 clear F2
 have Si:=Hi (af.dR NI.out zM.out)
 have NJ:=Hi LO.out.ok
 refine gM (af.cE s2 y1 e2) (fun _ _ h3=>gN oJ h3 (dx LO.out Eb.out Si.out h3)) fun s3 y3 wD=>?_
 refine cg oJ wD (dg LO.out Eb.out Si.out wD.out) ?_
 intro w4 uq F3
 clear LO oJ
 have r:=dw F3.out.mem.rules
 go_wp2_with fail
 clear r
 have zN:=Hi (af.aU NJ.out Eb.out wD.out)
 have NK:=Hi F3.out.ok
 refine gM (af.eG s3 d1) (fun _ _ h4=>gN uq h4 (oV F3.out HD.out.2.1 h4)) fun s4 k4 wF=>?_
 refine cg uq wF (oU F3.out HD.out.2.1 wF.out) ?_
 intro w5 ur F4
 clear F3 uq
 have r:=dw F4.out.mem.rules
 go_wp2_with fail
 clear r
 have Xa:Hid (SF S w0 (w5.setCell ⟨w2.heap.size,7,none⟩ (vI k4)) p s4 ((t,aA p (y3))::(w2.heap.size,cl (jM m 0 e2 k4 0 0 0) 82)::_)):=Hi (F4.out.ai (A:=[_]) 7 (vI k4))
 clear F4
 have Xb:=Hi (af.jC NK.out wF.out)
 have NL:=Hi Xa.out.ok
 refine gM (af.cE s4 y3 k4) (fun _ _ h5=>gN ur h5 (dx Xa.out zN.out Xb.out h5)) fun s5 y5 wG=>?_
 refine cg ur wG (dg Xa.out zN.out Xb.out wG.out) ?_
 intro w6 wH F5
 clear Xa ur
 have r:=dw F5.out.mem.rules
 go_wp2_with fail
 clear r
 have Ec:=Hi (af.aU NL.out zN.out wG.out)
 have NM:=Hi F5.out.ok
 refine gM (af.cV s5 d0 pr.jo.dh) (fun _ _ h6=>gN wH h6 (eT F5.out HD.out.1 h6)) fun s6 x6 wI=>?_
 refine cg wH wI (eO F5.out HD.out.1 wI.out) ?_
 intro w7 yG F6
 clear F5 wH
 have r:=dw F6.out.mem.rules
 go_wp2_with fail
 clear r
 have Sj:=Hi (af.bt NM.out wI.out)
 have PZ:=Hi F6.out.ok
 refine gM (af.gK s6 y5 x6) (fun _ _ h7=>gN yG h7 (fN F6.out Ec.out Sj.out h7)) fun s7 y7 Ei=>?_
 refine cg yG Ei (fL F6.out Ec.out Sj.out Ei.out) ?_
 intro w8 zO F7
 clear F6 yG
 have r:=dw F7.out.mem.rules
 go_wp2_with fail
 clear r
 have Ej:=Hi (af.bY PZ.out Ec.out Sj.out Ei.out)
 have JE:=Hi F7.out.ok
 refine gM (af.pN s7 y7 pr.jo.cD d2) (fun _ _ h8=>gN zO h8 (zK F7.out Ej.out HD.out.2.2 h8)) fun s8 b8 Ek=>?_
 refine cg zO Ek (zJ F7.out Ej.out HD.out.2.2 Ek.out) ?_
 intro w9 El F8
 clear F7 zO
 have r:=dw F8.out.mem.rules
 go_wp2_with fail
 clear r
 have LP:=Hi (kF JE.out HD.out.2.2 Ej.out Ek.out)
 have P0:Hid (SF S w0 (w9.setCell ⟨w2.heap.size,8,none⟩ (vI b8.2)) p s8 ((t,aA p (b8.1))::(w2.heap.size,cl (jM m 0 e2 k4 b8.2 0 0) 82)::_)):=Hi (F8.out.ai (A:=[_]) 8 (vI b8.2))
 clear F8
 have Xc:=Hi P0.out.ok
 refine gM (af.eD s8 me.dh) (fun _ _ h9=>gN El h9 (kE P0.out uu.out.1 h9)) fun s9 x9 Em=>?_
 refine cg El Em (jc P0.out uu.out.1 Em.out) ?_
 intro JF En F9
 clear P0 El
 have r:=dw F9.out.mem.rules
 go_wp2_with fail
 clear r
 have Sk:=Hi (af.dR Xc.out Em.out)
 have P1:=Hi F9.out.ok
 refine gM (af.nt s9 b8.1 x9) (fun _ _ h10=>gN En h10 (qG F9.out LP.out.2 Sk.out h10)) fun Eo c10 nw=>?_
 refine cg En nw (qF F9.out LP.out.2 Sk.out nw.out) ?_
 intro P2 oY qR
 clear F9 En
 have r:=dw qR.out.mem.rules
 go_wp2_with fail
 clear r
 have qT:=Hi (af.oy P1.out LP.out.2 Sk.out nw.out)
 have vt:Hid (SF S w0 (P2.setCell ⟨w2.heap.size,9,none⟩ (vI c10.2)) p Eo ((t,aA p (c10.1))::(w2.heap.size,cl (jM m 0 e2 k4 b8.2 c10.2 0) 82)::_)):=Hi (qR.out.ai (A:=[_]) 9 (vI c10.2))
 clear qR
 have JG:=Hi vt.out.ok
 refine gM (af.cV Eo me.dh pr.jo.dh) (fun _ _ h11=>gN oY h11 (eT vt.out uu.out.1 h11)) fun xH x11 wN=>?_
 refine cg oY wN (eO vt.out uu.out.1 wN.out) ?_
 intro E9 qU qd
 clear vt oY
 have r:=dw qd.out.mem.rules
 go_wp2_with fail
 clear r
 have JH:=Hi (af.bt JG.out wN.out)
 have N4:=Hi qd.out.ok
 refine gM (af.gK xH c10.1 x11) (fun _ _ h12=>gN qU h12 (fN qd.out qT.out JH.out h12)) fun s12 y12 BG=>?_
 refine cg qU BG (fL qd.out qT.out JH.out BG.out) ?_
 intro Vw tY xJ
 clear qd qU
 have r:=dw xJ.out.mem.rules
 go_wp2_with fail
 clear r
 have JI:=Hi (af.bY N4.out qT.out JH.out BG.out)
 have Xd:=Hi xJ.out.ok
 refine gM (af.gK s12 y12 pr.p0) (fun _ _ yJ=>gN tY yJ (fN xJ.out JI.out uv.out.2.2.1 yJ)) fun s13 y13 JJ=>?_
 refine cg tY JJ (fL xJ.out JI.out uv.out.2.2.1 JJ.out) ?_
 intro Vx su Cm
 clear xJ tY
 have r:=dw Cm.out.mem.rules
 go_wp2_with fail
 clear r
 have Sl:=Hi (af.bY Xd.out JI.out uv.out.2.2.1 JJ.out)
 refine (qQ stamp ax (by have:=HST.out;omega) _).mono ?_
 rintro e w15 ⟨rfl,Sm⟩
 have Fa:=Hi (Cm.out.later Sm)
 clear Sm Cm
 have Fb:=Hi (show (af.put stamp).length≤9223372036854775807 by have:=(af.gz stamp).2;omega)
 have Wj:((stamp:Nat):Int).toNat=stamp:=aH
 rw [Wj]
 clear Wj
 go_wp2_with fail
 have Sn:=Hi Fa.out.ok
 refine gM (af.mC s13 (af.put stamp)) (fun _ _ Ae=>gN su Ae (mM Fa.out Fb.out Ae)) fun s14 x14 JK=>?_
 refine cg su JK (mL Fa.out Fb.out JK.out) ?_
 intro w16 vu LQ
 clear Fa su
 have r:=dw LQ.out.mem.rules
 go_wp2_with fail
 clear r
 have Sq:=Hi (af.di Sn.out JK.out)
 have HO14:=Hi LQ.out.ok
 refine gM (af.nt s14 y13 x14) (fun _ _ N5=>gN vu N5 (qG LQ.out Sl.out Sq.out N5)) fun Af c15 Ag=>?_
 refine cg vu Ag (qF LQ.out Sl.out Sq.out Ag.out) ?_
 intro w17 wO Iu
 clear LQ vu
 have r:=dw Iu.out.mem.rules
 go_wp2_with fail
 clear r
 have Sr:Hid (SF S w0 (w17.setCell ⟨w2.heap.size,10,none⟩ (vI c15.2)) p Af ((t,aA p (c15.1))::(w2.heap.size,cl (jM m 0 e2 k4 b8.2 c10.2 c15.2) 82)::_)):=Hi (Iu.out.ai (A:=[_]) 10 (vI c15.2))
 clear Iu
 have HC:=Hi (xG (m.v 1) 0 e2 k4 b8.2 c10.2 c15.2 m.offer)
 have tR:=Hi (Gm (o:=m.offer) (Sh.out.pT 1 aH) Sh.out.text (.inl rfl) Si.out Xb.out LP.out.1 (af.mK P1.out nw.out) (af.mK HO14.out Ag.out))
 obtain ⟨x,hx⟩:∃ x,x=af.uI (m.v 1) m.offer 0 e2 k4 b8.2 c10.2 c15.2:=⟨_,rfl⟩
 have HX:=Hi hx
 rw [←hx] at HC tR wO
 clear hx
 obtain ⟨rb,hrb⟩:∃ b,x.right=b:=⟨_,rfl⟩
 have CR:=jG hrb
 rw [HC.out] at CR
 have hq:=wO.out
 simp only [hrb] at hq
 have Ad:=Hi hq
 clear hq hrb wO
 refine (CR _ tR.out).mono ?_
 rintro e w18 ⟨rfl,Gp⟩
 have Eh:=Hi (Sr.out.later Gp)
 clear Gp Sr CR
 go_wp2_with fail
 cases rb
 ·exact a9128
 refine (jB _).mono ?_
 rintro e w19 ⟨rfl,rfl⟩
 go_wp2_with fail
 have qV:=Eh.out.nf
 unfold aA at qV
 have qV:=Hi (qV.PN 4|>.PN 4|>.PN 4)
 clear Eh
 refine wpS (n:=124) [11,12,14,16,18,20,21] [] (tb [some (.agg (jM m 0 e2 k4 b8.2 c10.2 c15.2)),vP t 0,vP t 0,vP t 1,some (.agg (eK c15.1)),vP (W.heap.size+1+1+1) 0,vI d0,vP (W.heap.size+1+1+1) 1,vI d1,vP (W.heap.size+1+1) 3,vS m.offer,none,none,vP (W.heap.size+1+1+1+1+1) 0,none,vP (W.heap.size+1+1+1+1+1) 4,none,vP (W.heap.size+1+1+1+1+1) 5,none,vP (W.heap.size+1+1+1+1+1) 6]) ((t,cl (ko p c15.1) 159)::(w2.heap.size,cl (jM m 0 e2 k4 b8.2 c10.2 c15.2) 82)::(W.heap.size+1+1+1,cl #[vI d0,vI d1,vI d2] 32)::(W.heap.size+1+1,cl (oM m 0) 82)::[]) [kN S w0 [] ([ah p Af]) ((W.heap.size+1+1+1+1+1+1,cl #[vI 0] 28)::(W.heap.size+1+1+1+1+1,cl #[vI 0,vI 0,vI 0,vU 0,vI 0,vI 0,.string ⟨#[]⟩] 86)::(W.heap.size+1+1+1+1,cl (lF) 82)::(t,cl (ko p c15.1) 159)::(w2.heap.size,cl (jM m 0 e2 k4 b8.2 c10.2 c15.2) 82)::(W.heap.size+1+1+1,cl #[vI d0,vI d1,vI d2] 32)::(W.heap.size+1+1,cl (oM m 0) 82)::(W.heap.size+1,cl (pU pr) 65)::(W.heap.size,cl #[vI me.dh,vI me.cD] 62)::L),
  kN S w0 [] ([ah p Af]) ((W.heap.size+1+1+1+1+1+1,cl #[vI 0] 28)::(W.heap.size+1+1+1+1+1,cl #[vI 0,vI 0,vI 0,vU 0,vI 0,vI 0,.string ⟨#[]⟩] 86)::(W.heap.size+1+1+1+1,cl (jM m 0 e2 k4 b8.2 c10.2 c15.2) 82)::(t,cl (ko p c15.1) 159)::(w2.heap.size,cl (jM m 0 e2 k4 b8.2 c10.2 c15.2) 82)::(W.heap.size+1+1+1,cl #[vI d0,vI d1,vI d2] 32)::(W.heap.size+1+1,cl (oM m 0) 82)::(W.heap.size+1,cl (pU pr) 65)::(W.heap.size,cl #[vI me.dh,vI me.cD] 62)::L),
  kN S w0 [] ([ah p Af]) ((W.heap.size+1+1+1+1+1+1,cl #[vI 0] 28)::(W.heap.size+1+1+1+1+1,cl #[vI 0,vI 0,vI 0,vU 0,vI 0,vI 0,.string ⟨#[]⟩] 86)::(W.heap.size+1+1+1+1,cl (jM m 0 e2 k4 b8.2 c10.2 c15.2) 82)::(t,cl (ko p c15.1) 159)::(w2.heap.size,cl (jM m 0 e2 k4 b8.2 c10.2 c15.2) 82)::(W.heap.size+1+1+1,cl #[vI d0,vI d1,vI d2] 32)::(W.heap.size+1+1,cl (oM m 0) 82)::(W.heap.size+1,cl (pU pr) 65)::(W.heap.size,cl #[vI me.dh,vI me.cD] 62)::L),
  kN S w0 [] ([ah p Af]) ((W.heap.size+1+1+1+1+1+1,cl #[vI 0] 28)::(W.heap.size+1+1+1+1+1,cl #[vI c15.1.ck,vI c15.1.k,vI c15.1.h,vU c15.1.n,vI 0,vI 0,.string ⟨#[]⟩] 86)::(W.heap.size+1+1+1+1,cl (jM m 0 e2 k4 b8.2 c10.2 c15.2) 82)::(t,cl (ko p c15.1) 159)::(w2.heap.size,cl (jM m 0 e2 k4 b8.2 c10.2 c15.2) 82)::(W.heap.size+1+1+1,cl #[vI d0,vI d1,vI d2] 32)::(W.heap.size+1+1,cl (oM m 0) 82)::(W.heap.size+1,cl (pU pr) 65)::(W.heap.size,cl #[vI me.dh,vI me.cD] 62)::L),
  kN S w0 [] ([ah p Af]) ((W.heap.size+1+1+1+1+1+1,cl #[vI 0] 28)::(W.heap.size+1+1+1+1+1,cl #[vI c15.1.ck,vI c15.1.k,vI c15.1.h,vU c15.1.n,vI d0,vI 0,.string ⟨#[]⟩] 86)::(W.heap.size+1+1+1+1,cl (jM m 0 e2 k4 b8.2 c10.2 c15.2) 82)::(t,cl (ko p c15.1) 159)::(w2.heap.size,cl (jM m 0 e2 k4 b8.2 c10.2 c15.2) 82)::(W.heap.size+1+1+1,cl #[vI d0,vI d1,vI d2] 32)::(W.heap.size+1+1,cl (oM m 0) 82)::(W.heap.size+1,cl (pU pr) 65)::(W.heap.size,cl #[vI me.dh,vI me.cD] 62)::L),
  kN S w0 [] ([ah p Af]) ((W.heap.size+1+1+1+1+1+1,cl #[vI 0] 28)::(W.heap.size+1+1+1+1+1,cl #[vI c15.1.ck,vI c15.1.k,vI c15.1.h,vU c15.1.n,vI d0,vI d1,.string ⟨#[]⟩] 86)::(W.heap.size+1+1+1+1,cl (jM m 0 e2 k4 b8.2 c10.2 c15.2) 82)::(t,cl (ko p c15.1) 159)::(w2.heap.size,cl (jM m 0 e2 k4 b8.2 c10.2 c15.2) 82)::(W.heap.size+1+1+1,cl #[vI d0,vI d1,vI d2] 32)::(W.heap.size+1+1,cl (oM m 0) 82)::(W.heap.size+1,cl (pU pr) 65)::(W.heap.size,cl #[vI me.dh,vI me.cD] 62)::L),
  kN S w0 [] ([ah p Af]) ((W.heap.size+1+1+1+1+1+1,cl #[vI 0] 28)::(W.heap.size+1+1+1+1+1,cl #[vI c15.1.ck,vI c15.1.k,vI c15.1.h,vU c15.1.n,vI d0,vI d1,vS m.offer] 86)::(W.heap.size+1+1+1+1,cl (jM m 0 e2 k4 b8.2 c10.2 c15.2) 82)::(t,cl (ko p c15.1) 159)::(w2.heap.size,cl (jM m 0 e2 k4 b8.2 c10.2 c15.2) 82)::(W.heap.size+1+1+1,cl #[vI d0,vI d1,vI d2] 32)::(W.heap.size+1+1,cl (oM m 0) 82)::(W.heap.size+1,cl (pU pr) 65)::(W.heap.size,cl #[vI me.dh,vI me.cD] 62)::L),
  kN S w0 [] ([ah p Af]) ((W.heap.size+1+1+1+1+1+1,cl #[vI 0] 28)::(W.heap.size+1+1+1+1+1,cl #[vI c15.1.ck,vI c15.1.k,vI c15.1.h,vU c15.1.n,vI d0,vI d1,vS m.offer] 86)::(W.heap.size+1+1+1+1,cl (jM m 0 e2 k4 b8.2 c10.2 c15.2) 82)::(t,cl (ko p c15.1) 159)::(w2.heap.size,cl (jM m 0 e2 k4 b8.2 c10.2 c15.2) 82)::(W.heap.size+1+1+1,cl #[vI d0,vI d1,vI d2] 32)::(W.heap.size+1+1,cl (oM m 0) 82)::(W.heap.size+1,cl (pU pr) 65)::(W.heap.size,cl #[vI me.dh,vI me.cD] 62)::L)] (qV.out) ⟨sP,sP,sP,sP,sP,sP,sP,sP,sP,sP,sP,QK,sW7,sP,?_,sP,?_,sP,?_,sP,?_,?_,trivial⟩ ?_
 ·exact ZG
 ·exact YR
 ·exact YW
 ·exact YV
 ·exact PI
 ·intro v qq x hF hA h;simp only [Lb] at h;have yK:=Hi h;simp only [PU,bF,Nat.reduceAdd];clear hF hA h;have F20:=Hi (yK.out.later ((Below.refl _ _).alloc (cC _) (cl #[vI 0] 227))).QI;clear yK;go_wp2_with fail;refine oC rfl ?_;have g0:=F20.out.get 0 rfl;have g1:=F20.out.get 1 rfl;have g2:=F20.out.get 2 rfl;have hR:=Ad.out;simp only [if_true,af.dr] at hR;rw [←hR];refine ⟨.tuple #[.agg (jM m 0 e2 k4 b8.2 c10.2 c15.2),.agg #[vI c15.1.ck,vI c15.1.k,vI c15.1.h,vU c15.1.n,vI d0,vI d1,vS m.offer],vI 0],?_,?_,F20.out.sub vg⟩
  ·simp [results,Tryz.results28,go_sem,World.cell?,g0,g1,g2]
  ·rw [HC.out];rfl
end Go.Proofs.N0
namespace Go.Proofs.N0
open Go.RowKit Go.Maps Go.ChangeMaps
variable {S:List Nat} {w0:World} {p:Nat} {L:List (Nat×Obj)}
def ZK (q:af.jq):Array Value:=(iH q)
def Gq (S:List Nat) (w0:World) (p:Nat) (L:List (Nat×Obj)) (r:af.aW (af.bJ×af.jq)) (e:Ending) (w':World):Prop:=match r with
 | (s,.ok z)=>e=.returned (.tuple #[.agg (bR z.1),.agg (ZK z.2),vI 0])∧SF S w0 w' p s L
 | (s,.error er)=>e=.returned (.tuple #[.agg (lF),.agg #[vI 0,vI 0,vI 0,vI 0],vI er])∧SF S w0 w' p s L
theorem zL {q:World} {E Pn M er:Nat} {s:af.Store} {L':List (Nat×Obj)} {tmps:Array Value} {R:af.aW (af.bJ×af.jq)} (h12:tmps[10]?=some (vP M 0)) (yJ:tmps[11]?=some (vP Pn 0)) (Ae:tmps[12]?=some (vP E 0))
 (g:SF S w0 q p s L') (hs:((E,cl #[vI 0] 28)::(Pn,cl #[vI 0,vI 0,vI 0,vI 0] 113)::(M,cl (lF) 82)::L).Sublist L') (hR:(s,.error er)=R) :
 Leaves Tryz.prog Tryz.f119 tmps (Gq S w0 p L R) [{target:=.fn (.func 54) #[],args:=#[vP E 0]}] (.panicking (bI er)) q:=by
 have F5:=g.sub hs
 have hc:=F5.get 0 rfl
 refine mO rfl (old:=vI 0) (by simp [World.cell?,hc]) (by simp [World.frozen?,hc]) ?_
 have F7:=(F5.later ((Below.refl _ _).alloc (cC _) (cl #[vI er] 227))).set 0 (vI er)
 have g0:=F7.get 0 rfl
 have g1:=F7.get 1 rfl
 have g2:=F7.get 2 rfl
 rw [←hR]
 refine ⟨.tuple #[.agg (lF),.agg #[vI 0,vI 0,vI 0,vI 0],vI er],?_,rfl,?_⟩
 ·simp [results,Tryz.results119,go_sem,World.cell?,g0,g1,g2,h12,yJ,Ae]
 ·exact LU
theorem Gr (f t e b c1:Int):bR (af.uJ f t e b c1)=(si f t e b c1):=by simp [bR,af.uJ]
theorem Ss {f t e b c1:Int} (hf:0≤f∧f≤18446744073709551615) (ht:0≤t∧t≤18446744073709551615) (he:af.Int64 e) (hb:af.Int64 b) (h1:af.Int64 c1):(af.uJ f t e b c1).Wf:=by
 refine ⟨fun c hc=>?_,fun c hc=>?_,by simp [af.uJ]⟩
 ·simp only [gF,Bp,or_false] at hc;rcases hc with rfl|rfl|rfl|rfl|rfl|rfl|rfl|rfl<;>simp [af.uJ]<;>first|exact he|exact hb|exact h1|skip
 ·simp only [gF,Bp,or_false] at hc;rcases hc with rfl|rfl|rfl|rfl<;>simp [af.uJ]<;>first|exact hf|exact ht|skip
theorem JL {W:World} {st:af.Store} {o:af.eE} {bW to:Int} {d0 d1:Int} {R:af.aW (af.bJ×af.jq)} (h:SF S w0 W p st L) (hy:o.y.Wf) (ho:af.Int64 o.version∧af.Int64 o.e∧af.Int64 o.ek∧af.Int64 o.jo) (hft:(0≤bW∧bW≤18446744073709551615)∧(0≤to∧to≤18446744073709551615)) (hd:af.Int64 d0∧af.Int64 d1) (hf:af.kK st o bW to d0 d1=R) :
 Calls Tryz.prog 119 #[vP p 0,.agg (iw o o.peer),vU bW,vU to,.agg #[vI d0,vI d1]] W (Gq S w0 p L R):=by
 obtain ⟨Eb,HO,HFT,HD⟩:=hi4 hy ho hft hd
 have tN:=Hi hf
 unfold af.kK at tN
 have yV:=RG (UInt8.ofNat (o.version % 256).toNat) (o.version % 256) (by rw [af.yR _ (by omega)];omega)
 have hconv2:∀ (w:World) (a:Addr) (v:Value),(convert 22 9 (vL w.heap.size 0 1 1)).run Tryz.prog ((w.setCell a v).alloc (cl #[.int .u8 (o.version % 256)] 5))=.ok (vS [UInt8.ofNat (o.version % 256).toNat]) ((w.setCell a v).alloc (cl #[.int .u8 (o.version % 256)] 5)):=fun w a v=>by have:=yV (w.setCell a v);rwa [size_setCell] at this
 have F1:=Hi ((((((((h.alloc (cl (iw o o.peer) 257)).alloc (cl #[vI d0,vI d1] 49)).alloc (cl (lF) 82)).alloc (cl #[vI 0,vI 0,vI 0,vI 0] 113)).alloc (cl #[vI 0] 28)).alloc (aA p o.y)).alloc (cl (si bW to 0 0 0) 82)).perm (List.Perm.swap _ _ _))
 simp only [World.size_alloc] at F1
 clear h hy ho hft hd hf
 have r:=dw F1.out.mem.rules
 go_enter_defers Tryz.func119,Tryz.ntmps119
 go_wp2_with fail
 clear r
 have NI:=Hi F1.out.ok
 refine gM (af.eD st d0) (fun _ _ h2=>gN tN h2 (kE F1.out HD.out.1 h2)) fun s2 e2 zM=>?_
 refine cg tN zM (jc F1.out HD.out.1 zM.out) ?_
 intro w3 oJ F2
 clear F1 tN
 have r:=dw F2.out.mem.rules
 go_wp2_with fail
 clear r
 have LO:Hid (SF S w0 (w3.setCell ⟨W.heap.size+1+1+1+1+1+1,6,none⟩ (vI e2)) p s2 ((W.heap.size+1+1+1+1+1,aA p (o.y))::(W.heap.size+1+1+1+1+1+1,cl (si bW to e2 0 0) 82)::_)):=Hi (F2.out.ai (A:=[_]) 6 (vI e2))
 clear F2
 have Si:=Hi (af.dR NI.out zM.out)
 have NJ:=Hi LO.out.ok
 refine gM (af.cE s2 o.y e2) (fun _ _ h3=>gN oJ h3 (dx LO.out Eb.out Si.out h3)) fun s3 y3 wD=>?_
 refine cg oJ wD (dg LO.out Eb.out Si.out wD.out) ?_
 intro w4 uq F3
 clear LO oJ
 have r:=dw F3.out.mem.rules
 go_wp2_with fail
 clear r
 have zN:=Hi (af.aU NJ.out Eb.out wD.out)
 have NK:=Hi F3.out.ok
 refine gM (af.cV s3 d0 o.e) (fun _ _ h4=>gN uq h4 (eT F3.out HD.out.1 h4)) fun s4 x4 wF=>?_
 refine cg uq wF (eO F3.out HD.out.1 wF.out) ?_
 intro w5 ur F4
 clear F3 uq
 have r:=dw F4.out.mem.rules
 go_wp2_with fail
 clear r
 have WN:=Hi (af.bt NK.out wF.out)
 have NL:=Hi F4.out.ok
 refine gM (af.gK s4 y3 x4) (fun _ _ h5=>gN ur h5 (fN F4.out zN.out WN.out h5)) fun s5 y5 wG=>?_
 refine cg ur wG (fL F4.out zN.out WN.out wG.out) ?_
 intro w6 wH F5
 clear F4 ur
 have r:=dw F5.out.mem.rules
 go_wp2_with fail
 clear r
 have Ec:=Hi (af.bY NL.out zN.out WN.out wG.out)
 have NM:=Hi F5.out.ok
 refine gM (af.cV s5 d0 o.jo) (fun _ _ h6=>gN wH h6 (eT F5.out HD.out.1 h6)) fun s6 x6 wI=>?_
 refine cg wH wI (eO F5.out HD.out.1 wI.out) ?_
 intro w7 yG F6
 clear F5 wH
 have r:=dw F6.out.mem.rules
 go_wp2_with fail
 clear r
 have Sj:=Hi (af.bt NM.out wI.out)
 have PZ:=Hi F6.out.ok
 refine gM (af.gK s6 y5 x6) (fun _ _ h7=>gN yG h7 (fN F6.out Ec.out Sj.out h7)) fun s7 y7 Ei=>?_
 refine cg yG Ei (fL F6.out Ec.out Sj.out Ei.out) ?_
 intro w8 zO F7
 clear F6 yG
 have r:=dw F7.out.mem.rules
 go_wp2_with fail
 clear r
 have Ej:=Hi (af.bY PZ.out Ec.out Sj.out Ei.out)
 have JE:=Hi F7.out.ok
 refine gM (af.pN s7 y7 o.ek d1) (fun _ _ h8=>gN zO h8 (zK F7.out Ej.out HD.out.2 h8)) fun s8 b8 Ek=>?_
 refine cg zO Ek (zJ F7.out Ej.out HD.out.2 Ek.out) ?_
 intro w9 El F8
 clear F7 zO
 have r:=dw F8.out.mem.rules
 go_wp2_with fail
 clear r
 have LP:=Hi (kF JE.out HD.out.2 Ej.out Ek.out)
 have P0:Hid (SF S w0 (w9.setCell ⟨W.heap.size+1+1+1+1+1+1,8,none⟩ (vI b8.2)) p s8 ((W.heap.size+1+1+1+1+1,aA p (b8.1))::(W.heap.size+1+1+1+1+1+1,cl (si bW to e2 b8.2 0) 82)::_)):=Hi (F8.out.ai (A:=[_]) 8 (vI b8.2))
 clear F8
 have F8t:=Hi (P0.out.later ((Below.refl _ _).alloc (cC _) (cl #[.int .u8 (o.version % 256)] 5)))
 clear P0
 have Xc:=Hi F8t.out.ok
 refine gM (af.mC s8 [UInt8.ofNat (o.version % 256).toNat]) (fun _ _ h9=>gN El h9 (mM F8t.out aH h9)) fun s9 x9 Em=>?_
 refine cg El Em (mL F8t.out aH Em.out) ?_
 intro JF En F9
 clear F8t El
 have r:=dw F9.out.mem.rules
 go_wp2_with fail
 clear r
 have Sk:=Hi (af.di Xc.out Em.out)
 have P1:=Hi F9.out.ok
 refine gM (af.nt s9 b8.1 x9) (fun _ _ h10=>gN En h10 (qG F9.out LP.out.2 Sk.out h10)) fun Eo c10 nw=>?_
 refine cg En nw (qF F9.out LP.out.2 Sk.out nw.out) ?_
 intro P2 oY qR
 clear F9 En
 have r:=dw qR.out.mem.rules
 go_wp2_with fail
 clear r
 have qT:=Hi (af.oy P1.out LP.out.2 Sk.out nw.out)
 have vt:Hid (SF S w0 (P2.setCell ⟨W.heap.size+1+1+1+1+1+1,9,none⟩ (vI c10.2)) p Eo ((W.heap.size+1+1+1+1+1,aA p (c10.1))::(W.heap.size+1+1+1+1+1+1,cl (si bW to e2 b8.2 c10.2) 82)::_)):=Hi (qR.out.ai (A:=[_]) 9 (vI c10.2))
 clear qR
 have JG:=Hi vt.out.ok
 refine gM (af.tq Eo c10.1) (fun _ _ h11=>gN oY h11 (Ch vt.out qT.out h11)) fun xH ab wN=>?_
 refine cg oY wN (Cg vt.out qT.out wN.out) ?_
 intro E9 qU qd
 clear vt oY
 have r:=dw qd.out.mem.rules
 go_wp2_with fail
 clear r
 have HC:=Hi (Gr bW to e2 b8.2 c10.2)
 have tR:=Hi (Ss HFT.out.1 HFT.out.2 Si.out LP.out.1 (af.mK P1.out nw.out))
 obtain ⟨x,hx⟩:∃ x,x=af.uJ bW to e2 b8.2 c10.2:=⟨_,rfl⟩
 have HX:=Hi hx
 rw [←hx] at HC tR qU
 clear hx
 obtain ⟨rb,hrb⟩:∃ b,x.right=b:=⟨_,rfl⟩
 have CR:=jG hrb
 rw [HC.out] at CR
 have hq:=qU.out
 simp only [af.need,hrb] at hq
 have Ad:=Hi hq
 clear hq hrb qU
 refine (CR _ tR.out).mono ?_
 rintro e w18 ⟨rfl,Gp⟩
 have Eh:=Hi (qd.out.later Gp)
 clear Gp qd CR
 go_wp2_with fail
 cases rb
 ·refine (iW (er:=3) ax _).mono ?_;rintro e w19 ⟨rfl,rfl⟩;exact zL rfl rfl rfl Eh.out vg (by simpa [af.dr] using Ad.out)
 refine (jB _).mono ?_
 rintro e w19 ⟨rfl,rfl⟩
 go_wp2_with fail
 have qV:=Eh.out.nf
 unfold aA at qV
 have qV:=Hi (qV.PN 4|>.PN 4|>.PN 4)
 clear Eh
 refine wpS (n:=89) [10,11,13,15,17,19,20] [] (tb [some (.agg (si bW to e2 b8.2 c10.2)),vP (W.heap.size+1+1+1+1+1) 0,vP (W.heap.size+1+1+1+1+1) 0,vP (W.heap.size+1+1+1+1+1) 1,vP (W.heap.size+1+1+1+1+1) 3,vI c10.1.h,vI ab.2,vI ab.1,vP W.heap.size 5,vI o.version,none,none,vP (W.heap.size+1+1+1) 0,none,vP (W.heap.size+1+1+1) 1,none,vP (W.heap.size+1+1+1) 2,none,vP (W.heap.size+1+1+1) 3]) ((W.heap.size+1+1+1+1+1,cl (ko p c10.1) 159)::(W.heap.size+1+1+1+1+1+1,cl (si bW to e2 b8.2 c10.2) 82)::(W.heap.size+1,cl #[vI d0,vI d1] 49)::(W.heap.size,cl (iw o o.peer) 257)::[]) [kN S w0 [] ([ah p xH]) ((W.heap.size+1+1+1+1,cl #[vI 0] 28)::(W.heap.size+1+1+1,cl #[vI 0,vI 0,vI 0,vI 0] 113)::(W.heap.size+1+1,cl (lF) 82)::(W.heap.size+1+1+1+1+1,cl (ko p c10.1) 159)::(W.heap.size+1+1+1+1+1+1,cl (si bW to e2 b8.2 c10.2) 82)::(W.heap.size+1,cl #[vI d0,vI d1] 49)::(W.heap.size,cl (iw o o.peer) 257)::L),
  kN S w0 [] ([ah p xH]) ((W.heap.size+1+1+1+1,cl #[vI 0] 28)::(W.heap.size+1+1+1,cl #[vI 0,vI 0,vI 0,vI 0] 113)::(W.heap.size+1+1,cl (si bW to e2 b8.2 c10.2) 82)::(W.heap.size+1+1+1+1+1,cl (ko p c10.1) 159)::(W.heap.size+1+1+1+1+1+1,cl (si bW to e2 b8.2 c10.2) 82)::(W.heap.size+1,cl #[vI d0,vI d1] 49)::(W.heap.size,cl (iw o o.peer) 257)::L),
  kN S w0 [] ([ah p xH]) ((W.heap.size+1+1+1+1,cl #[vI 0] 28)::(W.heap.size+1+1+1,cl #[vI 0,vI 0,vI 0,vI 0] 113)::(W.heap.size+1+1,cl (si bW to e2 b8.2 c10.2) 82)::(W.heap.size+1+1+1+1+1,cl (ko p c10.1) 159)::(W.heap.size+1+1+1+1+1+1,cl (si bW to e2 b8.2 c10.2) 82)::(W.heap.size+1,cl #[vI d0,vI d1] 49)::(W.heap.size,cl (iw o o.peer) 257)::L),
  kN S w0 [] ([ah p xH]) ((W.heap.size+1+1+1+1,cl #[vI 0] 28)::(W.heap.size+1+1+1,cl #[vI c10.1.h,vI 0,vI 0,vI 0] 113)::(W.heap.size+1+1,cl (si bW to e2 b8.2 c10.2) 82)::(W.heap.size+1+1+1+1+1,cl (ko p c10.1) 159)::(W.heap.size+1+1+1+1+1+1,cl (si bW to e2 b8.2 c10.2) 82)::(W.heap.size+1,cl #[vI d0,vI d1] 49)::(W.heap.size,cl (iw o o.peer) 257)::L),
  kN S w0 [] ([ah p xH]) ((W.heap.size+1+1+1+1,cl #[vI 0] 28)::(W.heap.size+1+1+1,cl #[vI c10.1.h,vI ab.2,vI 0,vI 0] 113)::(W.heap.size+1+1,cl (si bW to e2 b8.2 c10.2) 82)::(W.heap.size+1+1+1+1+1,cl (ko p c10.1) 159)::(W.heap.size+1+1+1+1+1+1,cl (si bW to e2 b8.2 c10.2) 82)::(W.heap.size+1,cl #[vI d0,vI d1] 49)::(W.heap.size,cl (iw o o.peer) 257)::L),
  kN S w0 [] ([ah p xH]) ((W.heap.size+1+1+1+1,cl #[vI 0] 28)::(W.heap.size+1+1+1,cl #[vI c10.1.h,vI ab.2,vI ab.1,vI 0] 113)::(W.heap.size+1+1,cl (si bW to e2 b8.2 c10.2) 82)::(W.heap.size+1+1+1+1+1,cl (ko p c10.1) 159)::(W.heap.size+1+1+1+1+1+1,cl (si bW to e2 b8.2 c10.2) 82)::(W.heap.size+1,cl #[vI d0,vI d1] 49)::(W.heap.size,cl (iw o o.peer) 257)::L),
  kN S w0 [] ([ah p xH]) ((W.heap.size+1+1+1+1,cl #[vI 0] 28)::(W.heap.size+1+1+1,cl #[vI c10.1.h,vI ab.2,vI ab.1,vI o.version] 113)::(W.heap.size+1+1,cl (si bW to e2 b8.2 c10.2) 82)::(W.heap.size+1+1+1+1+1,cl (ko p c10.1) 159)::(W.heap.size+1+1+1+1+1+1,cl (si bW to e2 b8.2 c10.2) 82)::(W.heap.size+1,cl #[vI d0,vI d1] 49)::(W.heap.size,cl (iw o o.peer) 257)::L),
  kN S w0 [] ([ah p xH]) ((W.heap.size+1+1+1+1,cl #[vI 0] 28)::(W.heap.size+1+1+1,cl #[vI c10.1.h,vI ab.2,vI ab.1,vI o.version] 113)::(W.heap.size+1+1,cl (si bW to e2 b8.2 c10.2) 82)::(W.heap.size+1+1+1+1+1,cl (ko p c10.1) 159)::(W.heap.size+1+1+1+1+1+1,cl (si bW to e2 b8.2 c10.2) 82)::(W.heap.size+1,cl #[vI d0,vI d1] 49)::(W.heap.size,cl (iw o o.peer) 257)::L)] (qV.out) ⟨sP,sP,sP,sP,sP,sP,sP,sP,sP,sP,QK,Y2,sP,?_,sP,?_,sP,?_,sP,?_,?_,trivial⟩ ?_
 ·refine wM ?_;intro D v qq x h0 yy;exact ⟨_,(h0.ai (B:=[_]) 0 (vI c10.1.h)),wE⟩
 ·refine wM ?_;intro D v qq x h0 yy;exact ⟨_,(h0.ai (B:=[_]) 1 (vI ab.2)),wE⟩
 ·refine wM ?_;intro D v qq x h0 yy;exact ⟨_,(h0.ai (B:=[_]) 2 (vI ab.1)),wE⟩
 ·refine wM ?_;intro D v qq x h0 yy;exact ⟨_,(h0.ai (B:=[_]) 3 (vI o.version)),wE⟩
 ·exact PI
 ·intro v qq x hF hA h;simp only [Lb] at h;have yK:=Hi h;simp only [PU,bF,Nat.reduceAdd];clear hF hA h;have F20:=Hi (yK.out.later ((Below.refl _ _).alloc (cC _) (cl #[vI 0] 227))).QI;clear yK;go_wp2_with fail;refine oC rfl ?_;have g0:=F20.out.get 0 rfl;have g1:=F20.out.get 1 rfl;have g2:=F20.out.get 2 rfl;have hR:=Ad.out;simp only [if_true,af.dr] at hR;rw [←hR];refine ⟨.tuple #[.agg (si bW to e2 b8.2 c10.2),.agg #[vI c10.1.h,vI ab.2,vI ab.1,vI o.version],vI 0],?_,?_,F20.out.sub vg⟩
  ·simp [results,Tryz.results119,go_sem,World.cell?,g0,g1,g2]
  ·rw [HC.out];rfl
end Go.Proofs.N0
namespace Go.Proofs.N0
open Go.RowKit Go.Maps Go.ChangeMaps
variable {S:List Nat} {w0 W:World} {p:Nat} {L:List (Nat×Obj)} {st:af.Store} {me:af.Pair} {pd:af.cz} {m:af.bJ}
def vw (S:List Nat) (w0:World) (p:Nat) (L:List (Nat×Obj)) (r:af.aW af.jq) (e:Ending) (w':World):Prop:=match r with
 | (s,.ok z)=>e=.returned (.tuple #[.agg (ZK z),vI 0])∧SF S w0 w' p s L
 | (s,.error er)=>e=.returned (.tuple #[.agg #[vI 0,vI 0,vI 0,vI 0],vI er])∧SF S w0 w' p s L
theorem mN {q:World} {E Pn er:Nat} {s:af.Store} {L':List (Nat×Obj)} {tmps:Array Value} {R:af.aW af.jq} (yJ:tmps[8]?=some (vP Pn 0)) (Ae:tmps[9]?=some (vP E 0))
 (g:SF S w0 q p s L') (hs:((E,cl #[vI 0] 28)::(Pn,cl #[vI 0,vI 0,vI 0,vI 0] 113)::L).Sublist L') (hR:(s,.error er)=R) :
 Leaves Tryz.prog Tryz.f123 tmps (vw S w0 p L R) [{target:=.fn (.func 54) #[],args:=#[vP E 0]}] (.panicking (bI er)) q:=by
 have F5:=g.sub hs
 have hc:=F5.get 0 rfl
 refine mO rfl (old:=vI 0) (by simp [World.cell?,hc]) (by simp [World.frozen?,hc]) ?_
 have F7:=(F5.later ((Below.refl _ _).alloc (cC _) (cl #[vI er] 227))).set 0 (vI er)
 have g0:=F7.get 0 rfl
 have g1:=F7.get 1 rfl
 rw [←hR]
 refine ⟨.tuple #[.agg #[vI 0,vI 0,vI 0,vI 0],vI er],?_,rfl,?_⟩
 ·simp [results,Tryz.results123,go_sem,World.cell?,g0,g1,yJ,Ae]
 ·exact F7.sub ((zq _ _).trans (zq _ _))
theorem LR {l:List UInt8} {c:UInt8} {k:Int} (hk:k=Lib.indexByte l c) (w:World):Calls Tryz.prog 149 #[vS l,.int .u8 (c.toNat:Int)] w fun e w'=>e=.returned (vI k)∧w=w':=by refine (Tryz.strings_IndexByte ⟨l.toArray⟩ (c.toNat:Int) w).mono ?_;rintro e w' ⟨rfl,rfl⟩;refine ⟨?_,rfl⟩;rw [hk];simp
theorem Gs {R:af.aW af.jq} (h:SF S w0 W p st L) (hme:af.Int64 me.dh) (hy:pd.y.Wf) (ZL:af.Int64 pd.e∧af.Int64 pd.ek∧pd.offer.length≤9223372036854775807) (hm:m.Wf) (hk:(m.v 0==2)=false) (hf:af.iU st me pd m=R) :
 Calls Tryz.prog 123 #[vP p 0,.agg #[vI me.dh,vI me.cD],.agg (vM pd),.agg (dW m)] W (vw S w0 p L R):=by
 have hq:(st,.error 3)=R:=by rw [←hf];unfold af.iU af.need;have:¬m.v 0=2:=ow;simp [this,af.dr]
 have HQ:=Hi hq
 obtain ⟨uu,HY0,HPD,HM⟩:=hi4 hme hy ZL hm
 have F0:=Hi (((((h.alloc (cl #[vI me.dh,vI me.cD] 62)).alloc (cl (vM pd) 86)).alloc (cl (dW m) 82)).alloc (cl #[vI 0,vI 0,vI 0,vI 0] 113)).alloc (cl #[vI 0] 28))
 simp only [World.size_alloc] at F0
 clear h hme hy ZL hm hf hq
 go_enter_defers Tryz.func123,Tryz.ntmps123
 go_wp2_with fail
 refine (iW (er:=3) ax _).mono ?_
 rintro e w1 ⟨rfl,rfl⟩
 exact mN rfl rfl F0.out vg HQ.out
theorem Ep {R:af.aW af.jq} (h:SF S w0 W p st L) (hme:af.Int64 me.dh) (hy:pd.y.Wf) (ZL:af.Int64 pd.e∧af.Int64 pd.ek∧pd.offer.length≤9223372036854775807) (hm:m.Wf) (hk:(m.v 0==2)=true) (hf:af.iU st me pd m=R) :
 Calls Tryz.prog 123 #[vP p 0,.agg #[vI me.dh,vI me.cD],.agg (vM pd),.agg (dW m)] W (vw S w0 p L R):=by
 have hq:=hf
 unfold af.iU at hq
 obtain ⟨rb,hrb⟩:∃ b,m.right=b:=⟨_,rfl⟩
 have CR:=Hi (jG hrb)
 simp only [hrb,show decide (m.v 0=2)=true by simpa using hk,DK,af.need] at hq
 have HQ:=Hi hq
 obtain ⟨uu,HY0,HPD,HM⟩:=hi4 hme hy ZL hm
 have F0:=Hi (((((h.alloc (cl #[vI me.dh,vI me.cD] 62)).alloc (cl (vM pd) 86)).alloc (cl (dW m) 82)).alloc (cl #[vI 0,vI 0,vI 0,vI 0] 113)).alloc (cl #[vI 0] 28))
 simp only [World.size_alloc] at F0
 clear h hme hy ZL hm hf hq hrb
 unfold bR at CR
 go_enter_defers Tryz.func123,Tryz.ntmps123
 go_wp2_with fail
 refine (CR.out _ HM.out).mono ?_
 rintro e w1 ⟨rfl,hb1⟩
 have G0:=Hi (F0.out.later hb1)
 clear hb1 F0
 cases rb
 ·go_wp2_with fail;refine (iW (er:=3) ax _).mono ?_;rintro e w2 ⟨rfl,rfl⟩;exact mN rfl rfl G0.out vg (by simpa [af.dr] using HQ.out)
 have hq:=HQ.out
 simp only [if_true,af.dr] at hq
 have tN:=Hi hq
 clear hq HQ
 go_wp2_with fail
 refine (jB _).mono ?_
 rintro e w2 ⟨rfl,rfl⟩
 have F1:=Hi (G0.out.alloc (aA p pd.y))
 have r0:=dw G0.out.mem.rules
 have r:=dw F1.out.mem.rules
 have HE6:=Hi (show af.Int64 (m.v 6) from HM.out.ints 6 aH)
 have HE8:=Hi (show af.Int64 (m.v 8) from HM.out.ints 8 aH)
 have HE9:=Hi (show af.Int64 (m.v 9) from HM.out.ints 9 aH)
 go_wp2_with fail
 clear r r0 G0
 have NI:=Hi F1.out.ok
 refine gM (af.cE st pd.y (m.v 6)) (fun _ _ h2=>gN tN h2 (dx F1.out HY0.out HE6.out h2)) fun s2 y2 zM=>?_
 refine cg tN zM (dg F1.out HY0.out HE6.out zM.out) ?_
 intro w3 oJ F2
 clear F1 tN
 have r:=dw F2.out.mem.rules
 go_wp2_with fail
 clear r
 have Vy:=Hi (af.aU NI.out HY0.out zM.out)
 have NJ:=Hi F2.out.ok
 refine gM (af.cV s2 pd.e (m.v 6)) (fun _ _ h3=>gN oJ h3 (eT F2.out HPD.out.1 h3)) fun s3 x3 wD=>?_
 refine cg oJ wD (eO F2.out HPD.out.1 wD.out) ?_
 intro w4 uq F3
 clear F2 oJ
 have r:=dw F3.out.mem.rules
 go_wp2_with fail
 clear r
 have VA:=Hi (af.bt NJ.out wD.out)
 have NK:=Hi F3.out.ok
 refine gM (af.gK s3 y2 x3) (fun _ _ h4=>gN uq h4 (fN F3.out Vy.out VA.out h4)) fun s4 y4 wF=>?_
 refine cg uq wF (fL F3.out Vy.out VA.out wF.out) ?_
 intro w5 ur F4
 clear F3 uq
 have r:=dw F4.out.mem.rules
 go_wp2_with fail
 clear r
 have HY4:=Hi (af.bY NK.out Vy.out VA.out wF.out)
 have NL:=Hi F4.out.ok
 refine gM (af.cV s4 me.dh (m.v 6)) (fun _ _ h5=>gN ur h5 (eT F4.out uu.out h5)) fun s5 x5 wG=>?_
 refine cg ur wG (eO F4.out uu.out wG.out) ?_
 intro w6 wH F5
 clear F4 ur
 have r:=dw F5.out.mem.rules
 go_wp2_with fail
 clear r
 have HX5:=Hi (af.bt NL.out wG.out)
 have NM:=Hi F5.out.ok
 refine gM (af.gK s5 y4 x5) (fun _ _ h6=>gN wH h6 (fN F5.out HY4.out HX5.out h6)) fun s6 y6 wI=>?_
 refine cg wH wI (fL F5.out HY4.out HX5.out wI.out) ?_
 intro w7 yG F6
 clear F5 wH
 have r:=dw F6.out.mem.rules
 go_wp2_with fail
 clear r
 have PV:=Hi (af.bY NM.out HY4.out HX5.out wI.out)
 have PZ:=Hi F6.out.ok
 refine gM (af.cE s6 y6 (m.v 8)) (fun _ _ h7=>gN yG h7 (dx F6.out PV.out HE8.out h7)) fun s7 y7 Ei=>?_
 refine cg yG Ei (dg F6.out PV.out HE8.out Ei.out) ?_
 intro w8 zO F7
 clear F6 yG
 have r:=dw F7.out.mem.rules
 go_wp2_with fail
 clear r
 have Ej:=Hi (af.aU PZ.out PV.out Ei.out)
 have JE:=Hi F7.out.ok
 refine gM (af.gJ s7 pd.ek (m.v 8)) (fun _ _ h8=>gN zO h8 (sK F7.out HPD.out.2.1 h8)) fun s8 x8 Ek=>?_
 refine cg zO Ek (sJ F7.out HPD.out.2.1 Ek.out) ?_
 intro w9 El F8
 clear F7 zO
 have r:=dw F8.out.mem.rules
 go_wp2_with fail
 clear r
 have HX8:=Hi (af.iX JE.out Ek.out)
 have Xc:=Hi F8.out.ok
 refine gM (af.gK s8 y7 x8) (fun _ _ h9=>gN El h9 (fN F8.out Ej.out HX8.out h9)) fun s9 y9 Em=>?_
 refine cg El Em (fL F8.out Ej.out HX8.out Em.out) ?_
 intro JF En F9
 clear F8 El
 have r:=dw F9.out.mem.rules
 go_wp2_with fail
 clear r
 have HY9:=Hi (af.bY Xc.out Ej.out HX8.out Em.out)
 have P1:=Hi F9.out.ok
 refine gM (af.qi s9 y9 (m.v 9)) (fun _ _ h10=>gN En h10 (zI F9.out HY9.out HE9.out h10)) fun Eo yv nw=>?_
 refine cg En nw (zH F9.out HY9.out HE9.out nw.out) ?_
 intro P2 oY qR
 clear F9 En
 have r:=dw qR.out.mem.rules
 go_wp2_with fail
 clear r
 have qT:=Hi (af.qD P1.out HY9.out nw.out)
 have JG:=Hi qR.out.ok
 refine gM (af.qj Eo yv.2) (fun _ _ h11=>gN oY h11 (FR qR.out h11)) fun xH v wN=>?_
 refine cg oY wN (FQ qR.out wN.out) ?_
 intro E9 qU qd
 clear qR oY
 have r:=dw qd.out.mem.rules
 go_wp2_with fail
 clear r
 have tY:=qU
 clear qU
 by_cases hv:v.length=1
 rotate_left
 ·rw [show ((v.length:Int)==1)=false by simp;omega];refine (iW (er:=3) ax _).mono ?_;rintro e Vw ⟨rfl,rfl⟩;exact mN rfl rfl qd.out vg (by have:=tY.out;simpa [af.dr,hv] using this)
 obtain ⟨c,rfl⟩:=List.length_eq_one_iff.1 hv
 clear hv
 rw [show (((([c]:List UInt8).length:Nat):Int)==1)=true from rfl]
 refine (jB _).mono ?_
 rintro e Vw ⟨rfl,rfl⟩
 obtain ⟨kx,hk⟩:∃ k,k=Lib.indexByte pd.offer c:=⟨_,rfl⟩
 obtain ⟨cb,hcb⟩:∃ cb,pd.offer.contains c=cb:=⟨_,rfl⟩
 have hd:decide (0≤kx)=cb:=by rw [hk,←hcb,Lib.contains_iff_indexByte]
 have CI:=Hi fun (w:World)=>LR hk w
 have hq:=tY.out
 simp only [List.length_singleton,decide_true,if_true,af.dr,List.headD_cons,hcb] at hq
 have su:=Hi hq
 have HCB:=Hi hcb
 have hcw:IntKind.i64.wrap (c.toNat:Int)=(c.toNat:Int):=IntWalk.i64_in _ (by have:=c.toNat_lt;omega)
 clear hk hcb hq tY
 go_wp2_with fail
 cases cb
 ·have hz:=su.out
  refine qo (n:=95) [6] (fun k=>match k with
   | 0=>some (vP (W.heap.size+1) 6)
   | 1=>some (vS pd.offer)
   | 2=>some (vS [c])
   | 3=>some (.int .u8 (c.toNat:Int))
   | 4=>some (vI kx)
   | 5=>some (.bool false)
   | _=>none) (fun i x=>SF S w0 x p xH ((w1.heap.size,aA p yv.1)::(W.heap.size+1+1+1+1,cl #[vI 0] 28)::(W.heap.size+1+1+1,cl #[vI 0,vI 0,vI 0,vI 0] 113)::(W.heap.size+1+1,cl (dW m) 82)::(W.heap.size+1,cl (vM pd) 86)::(W.heap.size,cl #[vI me.dh,vI me.cD] 62)::L)∧i=0) aI aI aI ?_ ?_ ?_ ?_
  ·exact ⟨qd.out.later (Below.refl _ _).drew,rfl⟩
  ·exact fun i x y h hb=>⟨h.1.later hb,h.2⟩
  ·refine ⟨?_,?_,?_,?_,?_,?_,?_,trivial⟩
   ·exact tP
   ·refine bH aG rfl rfl ?_;intro i v x hS hF hB;have e0:v 0=vP (W.heap.size+1) 6:=hF 0 _ aG rfl;have yy:=dw (SF.iV hS.1);exact TA
   ·exact tP
   ·exact aag
   ·exact a979
   ·exact Y5
   ·refine qp 0 rfl rfl ?_;intro v x hS hF;have e5:v 5=.bool false:=hF 5 _ aG rfl;refine Oper.wp_mono (K:=fun _ _=>False) (fun _ _ h=>h.elim) ?_;simp only [aq,Act.put,aX,jr,aY,e5];unfold Oper.wp;go_simp;refine (iW (er:=11) ax _).mono ?_;rintro e q ⟨rfl,rfl⟩;exact mN rfl rfl hS.1 vg (by have:=su.out;simpa [af.dr] using this)
  ·intro v x hF hS;exact absurd hS.2 aH
 ·have hz:=su.out
  have hq:=su.out
  simp only [if_true,af.dr] at hq
  have vu:=Hi hq
  clear hq
  refine qo (n:=95) [6] (fun k=>match k with
   | 0=>some (vP (W.heap.size+1) 6)
   | 1=>some (vS pd.offer)
   | 2=>some (vS [c])
   | 3=>some (.int .u8 (c.toNat:Int))
   | 4=>some (vI kx)
   | 5=>some (.bool true)
   | _=>none) (fun _ x=>SF S w0 x p xH ((w1.heap.size,aA p yv.1)::(W.heap.size+1+1+1+1,cl #[vI 0] 28)::(W.heap.size+1+1+1,cl #[vI 0,vI 0,vI 0,vI 0] 113)::(W.heap.size+1+1,cl (dW m) 82)::(W.heap.size+1,cl (vM pd) 86)::(W.heap.size,cl #[vI me.dh,vI me.cD] 62)::L)) aI aI aI ?_ ?_ ?_ ?_
  ·exact qd.out.later (Below.refl _ _).drew
  ·exact fun i x y h hb=>h.later hb
  ·refine ⟨?_,?_,?_,?_,?_,?_,?_,trivial⟩
   ·exact tP
   ·refine bH aG rfl rfl ?_;intro i v x hS hF hB;have e0:v 0=vP (W.heap.size+1) 6:=hF 0 _ aG rfl;have yy:=dw (SF.iV hS);exact TA
   ·exact tP
   ·exact aag
   ·exact a979
   ·exact Y5
   ·refine qp 0 rfl rfl ?_;intro v x hS hF;have e5:v 5=.bool true:=hF 5 _ aG rfl;simp only [aq,Act.put,aX,jr,aY,e5];refine mJ (fun q=>SF S w0 q p xH ((w1.heap.size,aA p yv.1)::(W.heap.size+1+1+1+1,cl #[vI 0] 28)::(W.heap.size+1+1+1,cl #[vI 0,vI 0,vI 0,vI 0] 113)::(W.heap.size+1+1,cl (dW m) 82)::(W.heap.size+1,cl (vM pd) 86)::(W.heap.size,cl #[vI me.dh,vI me.cD] 62)::L)) (fun q hq=>⟨.tuple #[],fun u' h=>(by cases h),rfl,hq⟩) ?_;unfold Oper.wp;go_simp;refine (jB _).mono ?_;rintro e q ⟨rfl,rfl⟩;exact ⟨rfl,hS⟩
  ·intro v x hF hS;have xJ:=Hi hS;clear hS hF qd;simp only [aq,Act.put,aX,jr,aY];go_wp2_with fail;have N4:=Hi xJ.out.ok;refine gM (af.tq xH yv.1) (fun _ _ h12=>gN vu h12 (Ch xJ.out qT.out h12)) fun s12 ab BG=>?_;refine cg vu BG (Cg xJ.out qT.out BG.out) ?_;intro Vx wO Cm;clear xJ vu;have r:=dw Cm.out.mem.rules;go_wp2_with fail;clear r;have qV:=Cm.out.nf;unfold aA at qV;generalize hLX:(_::_::_::L:List (Nat×Obj))=LX at qV;have qV:=Hi (qV.PN 2|>.PN 2);clear Cm;refine wpS (n:=95) [10,12,14,16,18,19] [] (tb [vP w1.heap.size 0,vP w1.heap.size 0,vP w1.heap.size 1,vP w1.heap.size 3,vI yv.1.h,vI ab.1,vI ab.2,vS [c],some (.int .u8 (c.toNat:Int)),vI (c.toNat:Int),none,vP (W.heap.size+1+1+1) 0,none,vP (W.heap.size+1+1+1) 1,none,vP (W.heap.size+1+1+1) 2,none,vP (W.heap.size+1+1+1) 3]) ((w1.heap.size,cl (ko p yv.1) 159)::[]) [kN S w0 [] ([ah p s12]) ((W.heap.size+1+1+1+1,cl #[vI 0] 28)::(W.heap.size+1+1+1,cl #[vI 0,vI 0,vI 0,vI 0] 113)::(w1.heap.size,cl (ko p yv.1) 159)::LX),
    kN S w0 [] ([ah p s12]) ((W.heap.size+1+1+1+1,cl #[vI 0] 28)::(W.heap.size+1+1+1,cl #[vI 0,vI 0,vI 0,vI 0] 113)::(w1.heap.size,cl (ko p yv.1) 159)::LX),
    kN S w0 [] ([ah p s12]) ((W.heap.size+1+1+1+1,cl #[vI 0] 28)::(W.heap.size+1+1+1,cl #[vI yv.1.h,vI 0,vI 0,vI 0] 113)::(w1.heap.size,cl (ko p yv.1) 159)::LX),
    kN S w0 [] ([ah p s12]) ((W.heap.size+1+1+1+1,cl #[vI 0] 28)::(W.heap.size+1+1+1,cl #[vI yv.1.h,vI ab.1,vI 0,vI 0] 113)::(w1.heap.size,cl (ko p yv.1) 159)::LX),
    kN S w0 [] ([ah p s12]) ((W.heap.size+1+1+1+1,cl #[vI 0] 28)::(W.heap.size+1+1+1,cl #[vI yv.1.h,vI ab.1,vI ab.2,vI 0] 113)::(w1.heap.size,cl (ko p yv.1) 159)::LX),
    kN S w0 [] ([ah p s12]) ((W.heap.size+1+1+1+1,cl #[vI 0] 28)::(W.heap.size+1+1+1,cl #[vI yv.1.h,vI ab.1,vI ab.2,vI (c.toNat:Int)] 113)::(w1.heap.size,cl (ko p yv.1) 159)::LX),
    kN S w0 [] ([ah p s12]) ((W.heap.size+1+1+1+1,cl #[vI 0] 28)::(W.heap.size+1+1+1,cl #[vI yv.1.h,vI ab.1,vI ab.2,vI (c.toNat:Int)] 113)::(w1.heap.size,cl (ko p yv.1) 159)::LX)] (qV.out) ⟨sP,sP,sP,sP,sP,sP,sP,sP,sP,sP,Y2,sP,?_,sP,?_,sP,?_,sP,?_,?_,trivial⟩ ?_
   ·refine wM ?_;intro D v qq x h0 yy;exact ⟨_,(h0.ai (B:=[_]) 0 (vI yv.1.h)),wE⟩
   ·refine wM ?_;intro D v qq x h0 yy;exact ⟨_,(h0.ai (B:=[_]) 1 (vI ab.1)),wE⟩
   ·refine wM ?_;intro D v qq x h0 yy;exact ⟨_,(h0.ai (B:=[_]) 2 (vI ab.2)),wE⟩
   ·refine wM ?_;intro D v qq x h0 yy;exact ⟨_,(h0.ai (B:=[_]) 3 (vI (c.toNat:Int))),wE⟩
   ·exact PI
   ·intro v qq x hF hA h;simp only [Lb] at h;have yK:=Hi h;simp only [PU,bF,Nat.reduceAdd];clear hF hA h;rw [←hLX] at yK;have F20:=Hi (yK.out.later ((Below.refl _ _).alloc (cC _) (cl #[vI 0] 227))).QI;clear yK;go_wp2_with fail;refine oC rfl ?_;have g0:=F20.out.get 0 rfl;have g1:=F20.out.get 1 rfl;rw [←wO.out];refine ⟨.tuple #[.agg #[vI yv.1.h,vI ab.1,vI ab.2,vI (c.toNat:Int)],vI 0],?_,rfl,F20.out.sub vg⟩;simp [results,Tryz.results123,go_sem,World.cell?,g0,g1]
theorem JM {R:af.aW af.jq} (h:SF S w0 W p st L) (hme:af.Int64 me.dh) (hy:pd.y.Wf) (ZL:af.Int64 pd.e∧af.Int64 pd.ek∧pd.offer.length≤9223372036854775807) (hm:m.Wf) (hf:af.iU st me pd m=R) :
 Calls Tryz.prog 123 #[vP p 0,.agg #[vI me.dh,vI me.cD],.agg (vM pd),.agg (dW m)] W (vw S w0 p L R):=by
 by_cases hk:m.v 0=2
 ·exact Ep h hme hy ZL hm ow hf
 ·exact Gs h hme hy ZL hm ow hf
end Go.Proofs.N0
namespace Go.Proofs.N0
open Go.RowKit Go.Maps Go.ChangeMaps
variable {B i:Nat} {l a b:List UInt8} {v:Value} {w:World} {x:Int}
def Su (a b:List UInt8) (w:World) (ov iv:Value) (wr:World):Prop:=∃ k:Nat,k≤a.length∧iv=vI k ∧
 wr.ownsRow w.heap.size 5 1 ov ((a.take k).filter fun c=>b.contains c).length (lq ((a.take k).filter fun c=>b.contains c))∧Below w.heap.size w wr
theorem Sv {wr w1:World} {v':Value} (x:UInt8) (hB:B≤wr.heap.size) (tmp:Obj) (h:wr.ownsRow B 5 1 v l.length (lq l))
 (hown':w1.ownsRow B 5 1 v' (l.length+1) (lq l++[.int .u8 (x.toNat:Int)])) (hgrow:(wr.alloc tmp).grownBy w1 v.ownBlock) :
 w1.ownsRow B 5 1 v' (l++[x]).length (lq (l++[x]))∧Below B wr w1:=by
 refine ⟨by simpa [lq] using hown',((Below.refl B wr).alloc hB tmp).grown hgrow aR (fun k hk=>?_)⟩
 rcases h.2 with ⟨rfl,_⟩|⟨g,cap,cur,rfl,hg,hh,_⟩
 ·simp [Value.ownBlock] at hk
 ·simp only [Value.ownBlock,Option.some.injEq] at hk;omega
theorem Sw (h:w.ownsRow B 5 1 v l.length (lq l)) :
 ∃ a cap,v=.slice a l.length cap∧(convert 22 9 v).run Tryz.prog w=.ok (vS l) w:=by
 have hc:=fun g (hg:v.ownBlock=some g)=>h.cells hg
 rcases h.2 with ⟨hv,h1⟩|⟨g,cap,cur,hv,_⟩
 ·obtain rfl:=List.length_eq_zero_iff.1 h1;subst hv;exact ⟨none,0,rfl,by rw [run_convert_bytes_string w 22 9 5 none 0 0 Tryz.underlying22 Tryz.underlying5 Tryz.underlying9];rfl⟩
 ·refine ⟨some ⟨g,0,none⟩,cap,hv,?_⟩;subst hv;exact run_convert_bytes_back (P:=Tryz.prog) w 22 9 5 ⟨g,0,none⟩ cap l Tryz.underlying22 Tryz.underlying5 Tryz.underlying9 (fun j hj=>hc g rfl j _ (by simp [lq,hj]))
theorem N6 {s t:ByteArray} (hs:s.data.toList=a) (ht:t=⟨b.toArray⟩) (ha:af.cL a=true) (hb:af.cL b=true) (hl:a.filter (fun c=>b.contains c)=l) (w:World) (h1:s.size≤maxLen) (h2:t.size≤maxLen) :
 Calls Tryz.prog 166 #[.string s,.string t] w fun e w'=>e=.returned (vS l)∧Below w.heap.size w w':=by
 have hsz:s.size=a.length:=by rw [←hs];simp
 have hsm:s.size≤9223372036854775807:=h1
 have hat:∀ k (hk:k<s.size) (hka:k<a.length),a[k]=s[k]:=fun k hk hka=>by have h1:s[k]=s.data[k]:=rfl;subst hs;rw [h1,Array.getElem_toList]
 have htl:t.data.toList=b:=by rw [ht]
 have CA:=Hi fun w=>gY hs ha w h1
 have CB:=Hi fun w=>gY htl hb w h2
 have CI:=Hi fun c k (hk:k=Lib.indexByte b c) w=>LR (l:=b) (c:=c) (k:=k) hk w
 try unfold vS at CI
 rw [←ht] at CI
 obtain ⟨HAT,HSZ,HL⟩:=ju hat hsz hl
 obtain ⟨i0,mE,hz0,hz1,hz2⟩:=info_parts Zu
 have Sy:a.length≤16:=by have:af.cL a=true:=ha;unfold af.cL at this;rw [gi,decide_eq_true_eq] at this;omega
 have H16:=Hi Sy
 clear hs ha hb hl hsz hat htl ht h1 h2 Sy
 go_enter Tryz.func166,Tryz.ntmps166
 go_wp2_with fail
 refine (CA.out _).mono ?_
 rintro e w1 ⟨rfl,rfl⟩
 go_wp2_with fail
 refine (CB.out _).mono ?_
 rintro e w1 ⟨rfl,rfl⟩
 go_wp2_with fail
 go_loopw [5,17] (fun ov iv wr=>Su a b w ov iv wr) (fun _ iv _=>s.size - (intOf iv).toNat)
 case atStart=>exact ⟨0,pR _,rfl,World.ownsRow_nil _ _ _ _,Below.refl _ _⟩
 case round =>
  obtain ⟨k,hk,rfl,hown,iK⟩:=hrel;by_cases hlt:k<s.size
  ·have hka:k<a.length:=by rw [←HSZ.out];exact hlt
   have PO:a.take (k+1)=a.take k++[s[k]]:=by rw [Fv hka,HAT.out k hlt hka]
   have HTK:=Hi PO;obtain ⟨c,hc⟩:∃ c,c=s[k]:=⟨_,rfl⟩
   obtain ⟨kx,hkx⟩:∃ kx,kx=Lib.indexByte b c:=⟨_,rfl⟩
   obtain ⟨cb,hcb⟩:∃ cb,b.contains c=cb:=⟨_,rfl⟩
   have hd:decide (0≤kx)=cb:=by rw [hkx,←hcb,Lib.contains_iff_indexByte]
   have CI2:=Hi fun (w:World)=>CI.out c kx hkx w;obtain ⟨HO,HB,HCB⟩:=ju hown iK hcb;have HC:=Hi hc;have hfl:((a.take k).filter fun c=>b.contains c).length≤16:=Fc (lG _ _) (by rw [fJ];have:=H16.out;omega);obtain ⟨u,hu⟩:∃ u,u=(a.take k).filter fun c=>b.contains c:=⟨_,rfl⟩
   have HU:=Hi hu;rw [←hu] at hfl;clear PO hkx hcb hown iK hu;go_wp2_with fail;rw [←hc];refine (CI2.out _).mono ?_;rintro e w1 ⟨rfl,rfl⟩;cases cb
   ·have hu2:(a.take (k+1)).filter (fun c=>b.contains c)=u:=by rw [HTK.out,List.filter_append,←HC.out,HU.out];simp only [oO,Fu,HCB.out,dY,if_false,List.append_nil]
    have HR:Hid (Su a b w _ (vI ((k:Int)+1)) wr):=Hi ⟨k+1,ax,ym,by rw [hu2,HU.out];exact HO.out,HB.out⟩;clear hu2;exact Hz
   ·have hu2:(a.take (k+1)).filter (fun c=>b.contains c)=u++[c]:=by rw [HTK.out,List.filter_append,←HC.out,HU.out];simp only [oO,Fu,HCB.out,if_true]
    have HU2:=Hi hu2
    have hown:=HO.out
    rw [←HU.out] at hown
    clear hu2
    go_wp2_with (at_builtin;rw [←hc];refine wpList_append_own _ rfl _ _ 22 rfl w.heap.size 5 i0 (.int .u8 0) 1 1 Tryz.underlying22 mE hz0 hz1 hz2 rfl aG _ _ _ rfl (hown.alloc _) ⟨wr.heap.size,0,none⟩ 1 1 [.int .u8 (c.toNat:Int)] rfl rfl ?c1 ?c2 ?c3 ?c4 ?c5 ?_)
    case c1 =>
     exact QO
    case c2=>intro u hu;simp at hu;subst hu;rfl
    case c3=>unfold maxLen;omega
    case c4=>omega
    case c5=>have:=HB.out.size;simp;omega
    intro v' w2 hown' hgrow' _
    rw [←HC.out] at hown'
    obtain ⟨hown2,ZM⟩:=Sv c HB.out.size _ hown hown' hgrow'
    have HR:Hid (Su a b w v' (vI ((k:Int)+1)) w2):=Hi ⟨k+1,ax,ym,by rw [HU2.out];exact hown2,HB.out.trans ZM⟩
    clear hown hown2 ZM hown' hgrow'
    exact Hz
  ·rw [BD (by have:=HSZ.out;omega),HL.out] at hown;have HB:=Hi iK;obtain ⟨g,cap,rfl,yV⟩:=Sw hown;clear hown iK;go_wp2;go_ret;exact ⟨rfl,HB.out⟩
theorem Sz (hl:af.BS a b=l) (ha:a.length≤maxLen) (hb:b.length≤maxLen) (w:World) :
 Calls Tryz.prog 166 #[vS a,vS b] w fun e w'=>e=.returned (vS l)∧Below w.heap.size w w':=by
 obtain ⟨ra,wQ⟩:∃ x,af.cL a=x:=⟨_,rfl⟩
 obtain ⟨rb,hrb⟩:∃ x,af.cL b=x:=⟨_,rfl⟩
 unfold af.BS at hl
 rw [wQ,hrb] at hl
 have za:(⟨a.toArray⟩:ByteArray).size≤maxLen:=ha
 have zb:(⟨b.toArray⟩:ByteArray).size≤maxLen:=hb
 cases ra
 ·simp only [dY,false_and,if_false] at hl;subst hl;have CA:=Hi fun w=>gY (s:=⟨a.toArray⟩) (l:=a) rfl wQ w za;clear wQ hrb za zb ha hb;go_enter Tryz.func166,Tryz.ntmps166;go_wp2_with fail;refine (CA.out _).mono ?_;exact Zz
 cases rb
 ·simp only [dY,and_false,if_false] at hl;subst hl;have CA:=Hi fun w=>gY (s:=⟨a.toArray⟩) (l:=a) rfl wQ w za;have CB:=Hi fun w=>gY (s:=⟨b.toArray⟩) (l:=b) rfl hrb w zb;clear wQ hrb za zb ha hb;go_enter Tryz.func166,Tryz.ntmps166;go_wp2_with fail;refine (CA.out _).mono ?_;rintro e w1 ⟨rfl,rfl⟩;go_wp2_with fail;refine (CB.out _).mono ?_;exact Zz
 simp only [and_self,if_true] at hl
 exact N6 (s:=⟨a.toArray⟩) rfl rfl wQ hrb hl w za zb
theorem SB {v er:Nat} (hl:af.xx a b=(v,er)) (ha:a.length≤maxLen) (hb:b.length≤maxLen) (w:World) :
 Calls Tryz.prog 139 #[vS a,vS b] w fun e w'=>e=.returned (.tuple #[vI v,vI er])∧Below w.heap.size w w':=by
 obtain ⟨ra,wQ⟩:∃ x,af.cL a=x:=⟨_,rfl⟩
 obtain ⟨rb,hrb⟩:∃ x,af.cL b=x:=⟨_,rfl⟩
 obtain ⟨l,ZN⟩:∃ x,af.BS a b=x:=⟨_,rfl⟩
 unfold af.xx at hl
 rw [wQ,hrb,ZN] at hl
 have CA:=Hi fun w=>gY (s:=⟨a.toArray⟩) (l:=a) rfl wQ w ha
 have CB:=Hi fun w=>gY (s:=⟨b.toArray⟩) (l:=b) rfl hrb w hb
 have CC:=Hi fun w=>Sz ZN ha hb w
 clear wQ hrb ZN ha hb
 cases ra
 ·simp at hl;obtain ⟨rfl,rfl⟩:=hl;go_enter Tryz.func139,Tryz.ntmps139;go_wp2_with fail;refine (CA.out _).mono ?_;exact YU
 cases rb
 ·simp at hl;obtain ⟨rfl,rfl⟩:=hl;go_enter Tryz.func139,Tryz.ntmps139;go_wp2_with fail;refine (CA.out _).mono ?_;rintro e w1 ⟨rfl,rfl⟩;go_wp2_with fail;refine (CB.out _).mono ?_;exact YU
 simp only [Bool.true_eq_false,or_self,if_false] at hl
 rcases l with _|⟨c,l⟩
 ·simp at hl;obtain ⟨rfl,rfl⟩:=hl;go_enter Tryz.func139,Tryz.ntmps139;go_wp2_with fail;refine (CA.out _).mono ?_;rintro e w1 ⟨rfl,rfl⟩;go_wp2_with fail;refine (CB.out _).mono ?_;rintro e w1 ⟨rfl,rfl⟩;go_wp2_with fail;refine (CC.out _).mono ?_;rintro e w1 ⟨rfl,hb⟩;go_wp2_with fail;go_ret2;exact ⟨rfl,hb⟩
 ·simp at hl;obtain ⟨rfl,rfl⟩:=hl;have hne2:decide ((⟨(c::l).toArray⟩:ByteArray)=⟨#[]⟩)=false:=aH;have hsz:(⟨(c::l).toArray⟩:ByteArray).size=l.length+1:=rfl;have hcw:wrap64 (c.toNat:Int)=(c.toNat:Int):=IntWalk.wrap64_in _ (by have:=c.toNat_lt;omega);go_enter Tryz.func139,Tryz.ntmps139;go_wp2_with fail;refine (CA.out _).mono ?_;rintro e w1 ⟨rfl,rfl⟩;go_wp2_with fail;refine (CB.out _).mono ?_;rintro e w1 ⟨rfl,rfl⟩;go_wp2_with fail;refine (CC.out _).mono ?_;rintro e w1 ⟨rfl,hb⟩;go_wp2_with fail;go_ret2;exact ⟨congrArg (fun z=>Ending.returned (.tuple #[vI z,vI 0])) hcw,hb⟩
def eA (p:af.dG):List Value:=[vI p.jo.dh,vI p.jo.cD,vI p.p0,vI p.p1]
def Er (w:World) (v:Value) (l:List af.dG):Prop:=(l=[]∧v=.slice none 0 0)∨∃ g cap T cs,v=vL g 0 l.length cap∧l.length≤cap∧cap≤9223372036854775807∧w.heap[g]?=some (.cells cs T (0,0))∧l.flatMap eA <+: cs.toList
theorem tZ (l:List af.dG):∀ (i:Nat) (hi:i<l.length) (j:Nat),j<4→(l.flatMap eA)[i*4+j]?=(eA l[i])[j]?:=by
 induction l with
 | nil=>intro i hi;simp at hi
 | cons p l ih =>
  intro i hi j hj
  cases i with
  | zero =>
   simp only [tB,yY,Nat.zero_mul,bF];rw [MK (by simp [eA];omega)]
  | succ i =>
   simp only [tB,JD];rw [lg (by simp [eA];omega),←ih i D9 j hj];congr 1;simp [eA];omega
theorem lM {α:Type} {a b:List α} (h:a <+: b) {x:α} (hx:a[i]?=some x):b[i]?=some x:=by obtain ⟨t,rfl⟩:=h;rw [MK (List.getElem?_eq_some_iff.1 hx).1];exact hx
theorem qW {g:Nat} {l:List af.dG} {T:TypeId} {cs:Array Value} (h:w.heap[g]?=some (.cells cs T (0,0))) (hp:l.flatMap eA <+: cs.toList) (hi:i<l.length) :
 w.cell? ⟨g,i*4,none⟩=some (vI l[i].jo.dh)∧w.cell? ⟨g,i*4+1,none⟩=some (vI l[i].jo.cD)∧w.cell? ⟨g,i*4+2,none⟩=some (vI l[i].p0)∧w.cell? ⟨g,i*4+3,none⟩=some (vI l[i].p1):=by
 have hf:=tZ l i hi
 refine ⟨?_,?_,?_,?_⟩<;>simp only [World.cell?,h,←tV]
 ·exact lM hp ((hf 0 aG).trans rfl)
 ·exact lM hp ((hf 1 aG).trans rfl)
 ·exact lM hp ((hf 2 aG).trans rfl)
 ·exact lM hp ((hf 3 aG).trans rfl)
def WhoR (l:List af.dG) (x:Int) (w:World) (iv:Value) (wr:World):Prop:=∃ i:Nat,i≤l.length∧iv=vI i∧(∀ j (h:j<l.length),j<i→l[j].jo.dh≠x)∧Below w.heap.size w wr
theorem SD {l:List af.dG} (h:∀ j (h:j<l.length),l[j].jo.dh≠x):(l.findIdx? fun p=>decide (p.jo.dh=x))=none:=by rw [List.findIdx?_eq_none_iff];intro p hp;obtain ⟨j,hj,rfl⟩:=List.mem_iff_getElem.1 hp;simpa using h j hj
theorem SE {l:List af.dG} (hi:i<l.length) (h:∀ j (h:j<l.length),j<i→l[j].jo.dh≠x) (hx:l[i].jo.dh=x):(l.findIdx? fun p=>decide (p.jo.dh=x))=some i:=by rw [List.findIdx?_eq_some_iff_getElem];exact ⟨hi,by simpa using hx,fun j hj=>by simpa using h j (by omega) hj⟩
def WhoTo (r:Option Nat) (e:Ending):Prop:=match r with
 | some i=>e=.returned (vI i)
 | none=>e=.panicked (bI 5)
theorem Xe {l:List af.dG} {r:Option Nat} (w:World) (hv:Er w v l) (hr:(l.findIdx? fun p=>decide (p.jo.dh=x))=r) :
 Calls Tryz.prog 142 #[v,vI x] w fun e w'=>WhoTo r e∧Below w.heap.size w w':=by
 rcases hv with ⟨rfl,rfl⟩|⟨g,cap,T,cs,rfl,hcap,hcap2,hg,hpre⟩
 ·simp only [List.findIdx?_nil] at hr
  subst hr
  go_enter Tryz.func142,Tryz.ntmps142
  go_wp2_with fail
  go_loopw [9] (fun iv wr=>iv=vI 0∧wr=w) (fun _ _=>0)
  case atStart=>exact ⟨rfl,rfl⟩
  case round =>
   obtain ⟨rfl,rfl⟩:=hrel;go_wp2_with fail;refine (jz (er:=5) ax _).mono ?_;rintro e w1 ⟨rfl,rfl⟩;exact ⟨rfl,rfl,Below.refl _ _⟩
 ·obtain ⟨HG,HR,uv⟩:=ju hg hr hpre
  clear hg hr hpre
  obtain ⟨n,hn⟩:∃ n,n=l.length:=⟨_,rfl⟩
  have HN:=Hi hn
  rw [←hn] at hcap ⊢
  clear hn
  go_enter Tryz.func142,Tryz.ntmps142
  go_wp2_with fail
  go_loopw [9] (fun iv wr=>WhoR l x w iv wr) (fun iv _=>n - (intOf iv).toNat)
  case atStart=>exact ⟨0,pR _,rfl,fun j _ h=>absurd h (Nat.not_lt_zero _),Below.refl _ _⟩
  case round =>
   obtain ⟨i,hi,rfl,hno,iK⟩:=hrel;rw [←HN.out] at hi;obtain ⟨HO,HB⟩:=hi2 hno iK;by_cases hlt:i<n
   ·have hil:i<l.length:=FX;obtain ⟨c0,c1,c2,c3⟩:=qW ((HB.out.block _ (lt_of_block HG.out)).trans HG.out) uv.out hil;obtain ⟨q,hq⟩:∃ q,q=l[i]:=⟨_,rfl⟩
    rw [←hq] at c0 c1 c2 c3;have HQ:=Hi hq;obtain ⟨b,hb⟩:∃ b,(q.jo.dh==x)=b:=⟨_,rfl⟩
    have hb':decide (q.jo.dh=x)=b:=hb;clear hq hno iK;cases b
    ·have hne:q.jo.dh≠x:=Qq
     have oJ:Hid (WhoR l x w (vI ((i:Int)+1)) (wr.alloc (cl (pU q) 65))):=Hi ⟨i+1,ax,ym,fun j hj hji=>by
      rcases Ds j i with h|h
      ·exact HO.out j hj h
      ·obtain rfl:j=i:=ax;rw [←HQ.out];exact hne,HB.out.alloc HB.out.size _⟩
     clear hne
     go_wp2_with fail
     go_roundw
     case rel=>exact oJ.out
     case measure=>simp [intOf];omega
    ·have hr:r=some i:=by rw [←HR.out];exact SE hil HO.out (by rw [←HQ.out];simpa using hb)
     subst hr;go_wp2_with fail;go_ret;exact ⟨rfl,HB.out.alloc HB.out.size _⟩
   ·obtain rfl:i=n:=ax;have hr:r=none:=by rw [←HR.out];exact SD fun j hj=>HO.out j hj (by rw [HN.out];exact hj)
    subst hr;clear hno iK;go_wp2_with fail;refine (jz (er:=5) ax _).mono ?_;rintro e w1 ⟨rfl,rfl⟩;exact ⟨rfl,rfl,HB.out⟩
end Go.Proofs.N0
namespace Go.Proofs.N0
open Go.RowKit Go.Maps Go.ChangeMaps
variable {S:List Nat} {w0 W:World} {p er i sl t:Nat} {s st s0 s1:af.Store} {L:List (Nat×Obj)} {v:Value} {l aj:List af.dG} {T:TypeId} {x:Int} {me:af.Pair} {m:af.bJ} {y0 y1:af.Sym} {text:List UInt8}
def openC (o:af.eE):Array Value:=(iw o o.peer)
def Ah (S:List Nat) (w0:World) (p:Nat) (L:List (Nat×Obj)) (r:af.aW af.eE) (e:Ending) (w':World):Prop:=match r with
 | (s,.ok z)=>e=.returned (.tuple #[.agg (openC z),vI 0])∧SF S w0 w' p s L
 | (s,.error er)=>e=.returned (.tuple #[.agg (qa),vI er])∧SF S w0 w' p s L
theorem iL {q:World} {E Pn:Nat} {ov:Value} {L':List (Nat×Obj)} {tmps:Array Value} {R:af.aW af.eE} (yJ:tmps[10]?=some (vP Pn 0)) (Ae:tmps[11]?=some (vP E 0))
 (g:SF S w0 q p s L') (hs:((E,cl #[ov] 28)::(Pn,cl (qa) 257)::L).Sublist L') (hR:(s,.error er)=R) :
 Leaves Tryz.prog Tryz.f117 tmps (Ah S w0 p L R) [{target:=.fn (.func 54) #[],args:=#[vP E 0]}] (.panicking (bI er)) q:=by
 have F5:=g.sub hs
 have hc:=F5.get 0 rfl
 refine mO rfl (old:=ov) (by simp [World.cell?,hc]) (by simp [World.frozen?,hc]) ?_
 have F7:=(F5.later ((Below.refl _ _).alloc (cC _) (cl #[vI er] 227))).set 0 (vI er)
 have g0:=F7.get 0 rfl
 have g1:=F7.get 1 rfl
 rw [←hR]
 refine ⟨.tuple #[.agg (qa),vI er],?_,rfl,?_⟩
 ·simp [results,Tryz.results117,go_sem,World.cell?,g0,g1,yJ,Ae]
 ·exact F7.sub ((zq _ _).trans (zq _ _))
def oZ (L:List (Nat×Obj)) (v:Value) (l:List af.dG):Prop:=(l=[]∧v=.slice none 0 0)∨∃ g cap T cs,v=vL g 0 l.length cap∧l.length≤cap∧cap≤9223372036854775807∧(g,.cells cs T (0,0))∈L∧l.flatMap eA <+: cs.toList
theorem oZ.at (hv:oZ L v l) (h:SF S w0 W p st L):Er W v l:=by
 rcases hv with hv|⟨g,cap,T,cs,h1,h2,h3,h4,h5⟩
 ·exact .inl hv
 ·exact .inr ⟨g,cap,T,cs,h1,h2,h3,(h.blk _ h4).1,h5⟩
theorem lX {w:World} {g:Nat} {cs:Array Value} (h:w.heap[g]?=some (.cells cs T (0,0))) (hp:l.flatMap eA <+: cs.toList) (hi:i<l.length) (hs:sl<2) :
 w.cell? ⟨g,i*4+2+sl,none⟩=some (vI ((l.getD i ⟨⟨0,0⟩,0,0⟩).Bi (sl:Int))):=by
 obtain ⟨_,_,c2,c3⟩:=qW h hp hi
 rw [ux,lz hi]
 match sl,hs with
 | 0,_=>exact c2
 | 1,_=>exact c3
theorem SG (h:(l.findIdx? fun p=>decide (p.jo.dh=x))=some i):i<l.length:=(List.findIdx?_eq_some_iff_getElem.1 h).1
theorem Gt {r:af.Store×Nat×Nat} (h:af.yT r=(s,.error er)):er≠0:=by
 unfold af.yT at h;simp only [Prod.mk.injEq] at h;obtain ⟨_,h⟩:=h;split at h
 ·cases h
 ·rename_i hz;cases h;exact hz
theorem Es (h:af.dX st me=(s,.error er)):er≠0:=by
 unfold af.dX at h;obtain ⟨s1,r1,h1⟩:∃ s r,af.eD st me.dh=(s,r):=⟨_,_,rfl⟩
 rw [h1] at h;rcases r1 with e1|x1
 ·simp only [af.dr,Prod.mk.injEq,Except.error.injEq] at h;rw [←h.2];exact Gt h1
 ·simp only [af.dr] at h;obtain ⟨s2,r2,h2⟩:∃ s r,af.eG s1 me.cD=(s,r):=⟨_,_,rfl⟩
  rw [h2] at h;rcases r2 with e2|x2
  ·simp only [Prod.mk.injEq,Except.error.injEq] at h;rw [←h.2];exact Gt h2
  ·simp at h
theorem nW {z:af.Pair} (h:st.Ok) (ha:af.Int64 me.dh) (hb:af.Int64 me.cD) (hf:af.dX st me=(s,.ok z)):af.Int64 z.dh∧af.Int64 z.cD:=by
 unfold af.dX at hf;obtain ⟨s1,x1,h1,hf⟩:=aM hf;obtain ⟨s2,x2,h2,hf⟩:=aM hf;simp only [Prod.mk.injEq,Except.ok.injEq] at hf;obtain ⟨rfl,rfl⟩:=hf;have o1:s1.Ok:=by
  obtain ⟨n,e,_⟩:=af.fe h1
  have:=af.Store.Ok.put (t:=⟨3,[],0,me.dh,0,0⟩) h (af.iD ax aH ax ha af.aL af.aL)
  unfold af.kQ at e
  rw [e] at this;exact this
 exact ⟨af.dR h h1,af.jC o1 h2⟩
theorem N7 {l:List UInt8} (h:st.Ok) (hf:af.qj st x=(s,.ok l)):l.length≤9223372036854775807:=by
 unfold af.qj at hf;split at hf
 ·simp only [Prod.mk.injEq,Except.ok.injEq] at hf;obtain ⟨rfl,rfl⟩:=hf;exact (af.sG h x).s
 ·simp at hf
theorem N8 (hk:m.v 0=1) (hr:m.right=true):∃ sl:Nat,m.v 4=sl∧sl<2:=by
 unfold af.bJ.right at hr
 rw [hk,gi,gi,Bq] at hr
 have:=hr.1.2 ⟨4,0,1⟩ aG
 unfold af.iE at this
 simp at this
 exact ⟨(m.v 4).toNat,ax,ax⟩
section
variable {S:List Nat} {w0 W:World} {p:Nat} {st:af.Store} {A B:List (Nat×Obj)}
theorem SF.m10 {k:Nat} {a0 a1 a2 a3 a4 a5 a6 a7 a8 a9:Value} (h:SF S w0 W p st (A++(k,.cells #[a0,a1,a2,a3,a4,a5,a6,a7,a8,a9] T (0,0))::B)) (v0 v1 v2 v3 v4 v5 v6 v7 v8 v9:Value):SF S w0 ((((((((((W.setCell ⟨k,0,none⟩ v0).setCell ⟨k,1,none⟩ v1).setCell ⟨k,2,none⟩ v2).setCell ⟨k,3,none⟩ v3).setCell ⟨k,4,none⟩ v4).setCell ⟨k,5,none⟩ v5).setCell ⟨k,6,none⟩ v6).setCell ⟨k,7,none⟩ v7).setCell ⟨k,8,none⟩ v8).setCell ⟨k,9,none⟩ v9) p st (A++(k,.cells #[v0,v1,v2,v3,v4,v5,v6,v7,v8,v9] T (0,0))::B):=by
 have:=(SF.ai (SF.ai (SF.ai (SF.ai (SF.ai (SF.ai (SF.ai (SF.ai (SF.ai (SF.ai h 0 v0) 1 v1) 2 v2) 3 v3) 4 v4) 5 v5) 6 v6) 7 v7) 8 v8) 9 v9)
 simpa only [aX,jr,aY] using this
end
def Gu (S:List Nat) (w0:World) (p t:Nat) (s0 s1:af.Store) (y0 y1:af.Sym) (L:List (Nat×Obj)):Nat→World→Prop
 | 0,x=>SF S w0 x p s0 ((t,aA p y0)::L)
 | _+1,x=>SF S w0 x p s1 ((t,aA p y1)::L)
theorem wR {x:World} (h:Gu S w0 p t s0 s1 y0 y1 L i x):∃ s y,SF S w0 x p s ((t,aA p y)::L):=by
 cases i with
 | zero=>exact ⟨_,_,h⟩
 | succ i=>exact ⟨_,_,h⟩
theorem Gv {x y:World} (h:Gu S w0 p t s0 s1 y0 y1 L i x) (hb:Below x.heap.size x y):Gu S w0 p t s0 s1 y0 y1 L i y:=by
 cases i with
 | zero=>exact SF.later h hb
 | succ i=>exact SF.later h hb
theorem N9 {R:af.aW af.eE} (h:SF S w0 W p st L) (hme:af.Int64 me.dh∧af.Int64 me.cD) (hv:oZ L v aj) (Ai:∀ q∈aj,af.Int64 q.p0∧af.Int64 q.p1) (ht:text.length≤maxLen) (hm:m.Wf) (hk:(m.v 0==1)=false) (hf:af.gB st me aj text m=R) :
 Calls Tryz.prog 117 #[vP p 0,.agg #[vI me.dh,vI me.cD],v,vS text,.agg (dW m)] W (Ah S w0 p L R):=by
 have hq:(st,.error 3)=R:=by rw [←hf];unfold af.gB af.need;have:¬m.v 0=1:=ow;simp [this,af.dr]
 have HQ:=Hi hq
 obtain ⟨uu,HM,HT,HPE,HV⟩:=vT hme hm ht Ai hv
 have F0:=Hi ((((h.alloc (cl #[vI me.dh,vI me.cD] 62)).alloc (cl (dW m) 82)).alloc (cl (qa) 257)).alloc (cl #[vI 0] 28))
 simp only [World.size_alloc] at F0
 clear h hme hv Ai ht hm hf hq
 go_enter_defers Tryz.func117,Tryz.ntmps117
 go_wp2_with fail
 refine (iW (er:=3) ax _).mono ?_
 rintro e w1 ⟨rfl,rfl⟩
 exact iL (ov:=vI 0) rfl rfl F0.out vg HQ.out
theorem JN {R:af.aW af.eE} (h:SF S w0 W p st L) (hme:af.Int64 me.dh∧af.Int64 me.cD) (hv:oZ L v aj) (Ai:∀ q∈aj,af.Int64 q.p0∧af.Int64 q.p1) (ht:text.length≤maxLen) (hm:m.Wf) (hk:(m.v 0==1)=true) (hr:m.right=false) (hf:af.gB st me aj text m=R) :
 Calls Tryz.prog 117 #[vP p 0,.agg #[vI me.dh,vI me.cD],v,vS text,.agg (dW m)] W (Ah S w0 p L R):=by
 have hq:(st,.error 3)=R:=by rw [←hf];unfold af.gB af.need;simp [hr,af.dr]
 have HQ:=Hi hq
 have CR:=Hi (jG hr)
 obtain ⟨uu,HM,HT,HPE,HV⟩:=vT hme hm ht Ai hv
 have F0:=Hi ((((h.alloc (cl #[vI me.dh,vI me.cD] 62)).alloc (cl (dW m) 82)).alloc (cl (qa) 257)).alloc (cl #[vI 0] 28))
 simp only [World.size_alloc] at F0
 clear h hme hv Ai ht hm hf hq hr
 unfold bR at CR
 go_enter_defers Tryz.func117,Tryz.ntmps117
 go_wp2_with fail
 refine (CR.out _ HM.out).mono ?_
 rintro e w1 ⟨rfl,hb1⟩
 have G0:=Hi (F0.out.later hb1)
 clear hb1 F0
 go_wp2_with fail
 refine (iW (er:=3) ax _).mono ?_
 rintro e w2 ⟨rfl,rfl⟩
 exact iL (ov:=vI 0) rfl rfl G0.out vg HQ.out
theorem JO {R:af.aW af.eE} (h:SF S w0 W p st L) (hme:af.Int64 me.dh∧af.Int64 me.cD) (hv:oZ L v aj) (Ai:∀ q∈aj,af.Int64 q.p0∧af.Int64 q.p1) (ht:text.length≤maxLen) (hm:m.Wf) (hk:(m.v 0==1)=true) (hr:m.right=true) (h4:m.v 4=(sl:Int)) (jN:sl<2) (hf:af.gB st me aj text m=R) :
 Calls Tryz.prog 117 #[vP p 0,.agg #[vI me.dh,vI me.cD],v,vS text,.agg (dW m)] W (Ah S w0 p L R):=by
 obtain ⟨bv,ber,ZN⟩:∃ bv ber,af.xx text m.offer=(bv,ber):=⟨_,_,rfl⟩
 have CBO:=Hi fun w=>SB ZN ht hm.text w
 have hq:=hf
 unfold af.gB at hq
 simp only [hr,show decide (m.v 0=1)=true by simpa using hk,DK,af.need,if_true,af.dr,ZN,h4] at hq
 have HR0:=Hi hq
 have CR:=jG hr
 unfold bR at CR
 first|rw [h4] at CR|(unfold dW at CR;rw [h4] at CR)
 have CR:=Hi CR
 first|rw [h4]|(unfold dW;rw [h4])
 have Cn:=Hi jN
 obtain ⟨uu,HM,HT,HPE,HV⟩:=vT hme hm ht Ai hv
 have F0:=Hi ((((h.alloc (cl #[vI me.dh,vI me.cD] 62)).alloc (cl (oM m (sl:Int)) 82)).alloc (cl (qa) 257)).alloc (cl #[vI 0] 28))
 simp only [World.size_alloc] at F0
 clear h hme hv Ai ht hm hf hq hr ZN
 go_enter_defers Tryz.func117,Tryz.ntmps117
 go_wp2_with fail
 refine (CR.out _ HM.out).mono ?_
 rintro e w1 ⟨rfl,hb1⟩
 have G0:=Hi (F0.out.later hb1)
 clear hb1 F0 CR
 go_wp2_with fail
 refine (jB _).mono ?_
 rintro e w2 ⟨rfl,rfl⟩
 have r:=dw G0.out.mem.rules
 go_wp2_with fail
 clear r
 refine (CBO.out _).mono ?_
 rintro e w2 ⟨rfl,hb2⟩
 have G1:=Hi (G0.out.later hb2)
 have G2:Hid (SF S w0 (w2.setCell ⟨W.heap.size+1+1+1,0,none⟩ (vI (ber:Int))) p st ((W.heap.size+1+1+1,cl #[vI (ber:Int)] 28)::(W.heap.size+1+1,cl (qa) 257)::(W.heap.size+1,cl (oM m (sl:Int)) 82)::(W.heap.size,cl #[vI me.dh,vI me.cD] 62)::L)):=Hi (SF.set G1.out 0 (vI (ber:Int)))
 clear hb2 G0 CBO
 have r:=dw G1.out.mem.rules
 have r2:=dw G2.out.mem.rules
 go_wp2_with fail
 clear r r2 G1
 by_cases hbe:ber=0
 rotate_left
 ·refine (jz hbe _).mono ?_;rintro e w3 ⟨rfl,rfl⟩;exact iL (ov:=vI (ber:Int)) rfl rfl G2.out vg (by simpa [hbe] using HR0.out)
 subst hbe
 have hq:=HR0.out
 simp only [decide_true,if_true] at hq
 have tN:=Hi hq
 clear hq HR0
 have G2:Hid (SF S w0 (w2.setCell ⟨W.heap.size+1+1+1,0,none⟩ (vI 0)) p st ((W.heap.size+1+1+1,cl #[vI 0] 28)::(W.heap.size+1+1,cl (qa) 257)::(W.heap.size+1,cl (oM m (sl:Int)) 82)::(W.heap.size,cl #[vI me.dh,vI me.cD] 62)::L)):=G2
 refine (jy _).mono ?_
 rintro e w3 ⟨rfl,rfl⟩
 have r:=dw G2.out.mem.rules
 go_wp2_with fail
 clear r
 have N3:=Hi G2.out.ok
 obtain ⟨s1,r1,h1⟩:∃ s r,af.dX st me=(s,r):=⟨_,_,rfl⟩
 have CP:=lJ (a:=me.dh) (b:=me.cD) G2.out uu.out.1 uu.out.2 h1
 rcases r1 with er|pb
 ·have hq:=tN.out;simp only [h1] at hq;refine CP.mono ?_;rintro e wP ⟨rfl,g⟩;have g2:SF S w0 ((wP.alloc (cl #[vI 0,vI 0] 62)).setCell ⟨W.heap.size+1+1+1,0,none⟩ (vI (er:Int))) p s1 ((wP.heap.size,cl #[vI 0,vI 0] 62)::(W.heap.size+1+1+1,cl #[vI (er:Int)] 28)::(W.heap.size+1+1,cl (qa) 257)::(W.heap.size+1,cl (oM m (sl:Int)) 82)::(W.heap.size,cl #[vI me.dh,vI me.cD] 62)::L):=(g.alloc (cl #[vI 0,vI 0] 62)).ai (A:=[_]) 0 (vI (er:Int));have hne:=Es h1;have G35:=Hi (g.alloc (cl #[vI 0,vI 0] 62));obtain ⟨G3,G4,HQ,Gd⟩:=hi4 g g2 hq hne;clear g g2 hq hne h1 CP;have r:=dw G3.out.mem.rules;have r3:=dw G35.out.mem.rules;have r2:=dw G4.out.mem.rules;go_wp2_with fail;clear r r2 r3;refine (jz Gd.out _).mono ?_;rintro e w4 ⟨rfl,rfl⟩;exact iL (ov:=vI (er:Int)) rfl rfl G4.out vg HQ.out
 have hq:=tN.out;simp only [h1] at hq
 have oJ:=Hi hq
 clear hq tN
 have ZO:=Hi (nW N3.out uu.out.1 uu.out.2 h1)
 refine CP.mono ?_
 rintro e wP ⟨rfl,g⟩
 have G3:=Hi g
 have G35:=Hi (g.alloc (cl #[vI pb.dh,vI pb.cD] 62))
 have G4:Hid (SF S w0 ((wP.alloc (cl #[vI pb.dh,vI pb.cD] 62)).setCell ⟨W.heap.size+1+1+1,0,none⟩ (vI 0)) p s1 ((wP.heap.size,cl #[vI pb.dh,vI pb.cD] 62)::(W.heap.size+1+1+1,cl #[vI 0] 28)::(W.heap.size+1+1,cl (qa) 257)::(W.heap.size+1,cl (oM m (sl:Int)) 82)::(W.heap.size,cl #[vI me.dh,vI me.cD] 62)::L)):=Hi ((g.alloc (cl #[vI pb.dh,vI pb.cD] 62)).ai (A:=[_]) 0 (vI 0))
 clear g h1 CP G2
 have r:=dw G3.out.mem.rules
 have r3:=dw G35.out.mem.rules
 have r2:=dw G4.out.mem.rules
 go_wp2_with fail
 refine (jy _).mono ?_
 rintro e w4 ⟨rfl,rfl⟩
 go_wp2_with fail
 clear r r2 r3 G3 G35
 have NI:=Hi G4.out.ok
 have hs01:((sl:Int)=0∨(sl:Int)=1):=by have:=Cn.out;omega
 have HS01:=Hi hs01
 clear hs01
 obtain ⟨s2,r2,h2⟩:∃ s r,af.firstT s1 m.offer (sl:Int) pb=(s,r):=⟨_,_,rfl⟩
 have CF:=oB (a:=pb.dh) (b:=pb.cD) G4.out HM.out.text HS01.out ZO.out.1 ZO.out.2 h2
 rcases r2 with er|y2
 ·have hq:=oJ.out;simp only [h2] at hq;refine CF.mono ?_;rintro e w5 ⟨rfl,g⟩;exact iL (ov:=vI 0) rfl rfl g vg hq
 have hq:=oJ.out;simp only [h2] at hq
 have uq:=Hi hq
 clear hq oJ
 have Vy:=Hi (lW NI.out HM.out.text ZO.out.1 ZO.out.2 h2)
 refine CF.mono ?_
 rintro e w5 ⟨t,rfl,g⟩
 have F1:=Hi g
 clear g h2 G4 CF
 have r:=dw F1.out.mem.rules
 have HE6:=Hi (show af.Int64 (m.v 6) from HM.out.ints 6 aH)
 have HE7:=Hi (show af.Int64 (m.v 7) from HM.out.ints 7 aH)
 have HE8:=Hi (show af.Int64 (m.v 8) from HM.out.ints 8 aH)
 have HE9:=Hi (show af.Int64 (m.v 9) from HM.out.ints 9 aH)
 have HE10:=Hi (show af.Int64 (m.v 10) from HM.out.ints 10 aH)
 go_wp2_with fail
 clear r
 have NJ:=Hi F1.out.ok
 refine gM (af.cE s2 y2 (m.v 6)) (fun _ _ h3=>gN uq h3 (dx F1.out Vy.out HE6.out h3)) fun s3 y3 wD=>?_
 refine cg uq wD (dg F1.out Vy.out HE6.out wD.out) ?_
 intro w6 ur F2
 clear F1 uq
 have r:=dw F2.out.mem.rules
 go_wp2_with fail
 clear r
 have zN:=Hi (af.aU NJ.out Vy.out wD.out)
 have NK:=Hi F2.out.ok
 refine gM (af.cE s3 y3 (m.v 7)) (fun _ _ h4=>gN ur h4 (dx F2.out zN.out HE7.out h4)) fun s4 y4 wF=>?_
 refine cg ur wF (dg F2.out zN.out HE7.out wF.out) ?_
 intro w7 wH F3
 clear F2 ur
 have r:=dw F3.out.mem.rules
 go_wp2_with fail
 clear r
 have HY4:=Hi (af.aU NK.out zN.out wF.out)
 have NL:=Hi F3.out.ok
 refine gM (af.cV s4 me.dh (m.v 6)) (fun _ _ h5=>gN wH h5 (eT F3.out uu.out.1 h5)) fun s5 x5 wG=>?_
 refine cg wH wG (eO F3.out uu.out.1 wG.out) ?_
 intro w8 yG F4
 clear F3 wH
 have r:=dw F4.out.mem.rules
 go_wp2_with fail
 clear r
 have HX5:=Hi (af.bt NL.out wG.out)
 have NM:=Hi F4.out.ok
 refine gM (af.gK s5 y4 x5) (fun _ _ h6=>gN yG h6 (fN F4.out HY4.out HX5.out h6)) fun s6 y6 wI=>?_
 refine cg yG wI (fL F4.out HY4.out HX5.out wI.out) ?_
 intro w9 zO F5
 clear F4 yG
 have r:=dw F5.out.mem.rules
 go_wp2_with fail
 clear r
 have PV:=Hi (af.bY NM.out HY4.out HX5.out wI.out)
 have PZ:=Hi F5.out.ok
 refine gM (af.cE s6 y6 (m.v 8)) (fun _ _ h7=>gN zO h7 (dx F5.out PV.out HE8.out h7)) fun s7 y7 Ei=>?_
 refine cg zO Ei (dg F5.out PV.out HE8.out Ei.out) ?_
 intro JF El F6
 clear F5 zO
 have r:=dw F6.out.mem.rules
 go_wp2_with fail
 clear r
 have Ej:=Hi (af.aU PZ.out PV.out Ei.out)
 have JE:=Hi F6.out.ok
 refine gM (af.gJ s7 me.cD (m.v 8)) (fun _ _ h8=>gN El h8 (sK F6.out uu.out.2 h8)) fun s8 x8 Ek=>?_
 refine cg El Ek (sJ F6.out uu.out.2 Ek.out) ?_
 intro P2 En F7
 clear F6 El
 have r:=dw F7.out.mem.rules
 go_wp2_with fail
 clear r
 have HX8:=Hi (af.iX JE.out Ek.out)
 have Xc:=Hi F7.out.ok
 refine gM (af.gK s8 y7 x8) (fun _ _ h9=>gN En h9 (fN F7.out Ej.out HX8.out h9)) fun s9 y9 Em=>?_
 refine cg En Em (fL F7.out Ej.out HX8.out Em.out) ?_
 intro wX oY F8
 clear F7 En
 have HY9:=Hi (af.bY Xc.out Ej.out HX8.out Em.out)
 have F9:=Hi ((F8.out.alloc (cl #[vI 0,vI 0,vI 0,vU 0,vI 0,vI (bv:Int),vU 0,vI (m.v 6),vI (m.v 7),vI 0] 257)).perm (List.Perm.swap _ _ _))
 have r:=dw F8.out.mem.rules
 have r2:=dw F9.out.mem.rules
 go_wp2_with fail
 clear r r2 F8
 have P1:=Hi F9.out.ok
 refine gM (af.qi s9 y9 (m.v 9)) (fun _ _ h10=>gN oY h10 (zI F9.out HY9.out HE9.out h10)) fun Eo yp nw=>?_
 refine cg oY nw (zH F9.out HY9.out HE9.out nw.out) ?_
 intro Vw qU qR
 clear F9 oY
 have qT:=Hi (af.qD P1.out HY9.out nw.out)
 have qd:Hid (SF S w0 (Vw.setCell ⟨wX.heap.size,9,none⟩ (vI yp.2)) p Eo ((t,aA p yp.1)::(wX.heap.size,cl #[vI 0,vI 0,vI 0,vU 0,vI 0,vI (bv:Int),vU 0,vI (m.v 6),vI (m.v 7),vI yp.2] 257)::_)):=Hi (qR.out.ai (A:=[_]) 9 (vI yp.2))
 have r:=dw qR.out.mem.rules
 have r2:=dw qd.out.mem.rules
 go_wp2_with fail
 clear r r2 qR
 obtain ⟨ri,hri⟩:∃ r,(aj.findIdx? fun p=>decide (p.jo.dh=yp.2))=r:=⟨_,rfl⟩
 have hpa:Er (Vw.setCell ⟨wX.heap.size,9,none⟩ (vI yp.2)) v aj:=HV.out.at (qd.out.sub vg)
 have hq:=qU.out
 simp only [af.whoT,hri] at hq
 have HRI:=Hi hri
 have CW:=Xe _ hpa hri
 clear hri hpa
 rcases ri with _|ix
 ·refine CW.mono ?_;rintro e Vx ⟨he,hb⟩;obtain rfl:e=.panicked (bI 5):=he;exact iL (ov:=vI 0) rfl rfl (qd.out.later hb) vg hq
 have tY:=Hi hq
 clear hq qU
 refine CW.mono ?_
 rintro e Vx ⟨he,hb⟩
 obtain rfl:e=.returned (vI (ix:Int)):=he
 have xJ:=Hi (qd.out.later hb)
 have Cm:Hid (SF S w0 (Vx.setCell ⟨wX.heap.size,4,none⟩ (vI (ix:Int))) p Eo ((t,aA p yp.1)::(wX.heap.size,cl #[vI 0,vI 0,vI 0,vU 0,vI (ix:Int),vI (bv:Int),vU 0,vI (m.v 6),vI (m.v 7),vI yp.2] 257)::_)):=Hi (xJ.out.ai (A:=[_]) 4 (vI (ix:Int)))
 clear hb CW qd
 have r:=dw xJ.out.mem.rules
 have r2:=dw Cm.out.mem.rules
 go_wp2_with fail
 clear r r2 xJ
 have JG:=Hi Cm.out.ok
 refine gM (af.cV Eo me.dh yp.2) (fun _ _ N5=>gN tY N5 (eT Cm.out uu.out.1 N5)) fun Af x15 Ag=>?_
 refine cg tY Ag (eO Cm.out uu.out.1 Ag.out) ?_
 intro w15 su Fa
 clear Cm tY
 have r:=dw Fa.out.mem.rules
 go_wp2_with fail
 clear r
 have HX15:=Hi (af.bt JG.out Ag.out)
 have N4:=Hi Fa.out.ok
 refine gM (af.gK Af yp.1 x15) (fun _ _ Sy=>gN su Sy (fN Fa.out qT.out HX15.out Sy)) fun s16 y16 Hh16=>?_
 refine cg su Hh16 (fL Fa.out qT.out HX15.out Hh16.out) ?_
 intro w16 vu Iu
 clear Fa su
 have r:=dw Iu.out.mem.rules
 go_wp2_with fail
 clear r
 have HY16:=Hi (af.bY N4.out qT.out HX15.out Hh16.out)
 have Xf:=Hi (SG HRI.out)
 have hpk:af.Int64 ((aj.getD ix ⟨⟨0,0⟩,0,0⟩).Bi (sl:Int)):=by
  have h1:=Xf.out;have h2:=HPE.out (aj[ix]) (KX _);rw [ux,lz h1];unfold af.dG.Bi;split
  ·exact h2.1
  ·exact h2.2
 have LS:=Hi hpk
 clear hpk
 have hv2:∃ g cap T cs,v=vL g 0 aj.length cap∧aj.length≤cap∧cap≤9223372036854775807∧(g,.cells cs T (0,0))∈L∧aj.flatMap eA <+: cs.toList:=by
  rcases HV.out with ⟨h1,_⟩|h1
  ·have:=Xf.out;rw [h1] at this;exact absurd this (Nat.not_lt_zero _)
  ·exact h1
 obtain ⟨g,cap,T,cs,rfl,hcap,hcap2,hgl,hpre⟩:=hv2
 have uv:=Hi hpre
 clear hpre
 have HGL:=Hi hgl
 have hin:=Xf.out
 obtain ⟨n,hn⟩:∃ n,n=aj.length:=⟨_,rfl⟩
 rw [←hn] at hcap hin ⊢
 have HN:=Hi hn
 clear hn hgl
 obtain ⟨s17,r17,h17⟩:∃ s r,af.gK s16 y16 ((aj.getD ix ⟨⟨0,0⟩,0,0⟩).Bi (sl:Int))=(s,r):=⟨_,_,rfl⟩
 rcases r17 with er|y17
 ·have HRE:Hid ((s17,.error er)=R):=Hi (by have hq:=vu.out;simpa only [h17] using hq)
  refine qo (n:=144) [10] (fun k=>match k with
   | 0=>some (vP t 0)
   | 1=>some (vL g 0 n cap)
   | 2=>some (vP wX.heap.size 4)
   | 3=>some (vI (ix:Int))
   | 4=>some (vP (W.heap.size+1) 4)
   | 5=>some (vI (sl:Int))
   | 6=>some (vP g (ix*4))
   | 7=>some (vP g (ix*4+2))
   | 8=>some (vP g (ix*4+2+sl))
   | 9=>some (vI ((aj.getD ix ⟨⟨0,0⟩,0,0⟩).Bi (sl:Int)))
   | _=>none) (fun i x=>SF S w0 x p s16 ((t,aA p y16)::(wX.heap.size,cl #[vI 0,vI 0,vI 0,vU 0,vI (ix:Int),vI (bv:Int),vU 0,vI (m.v 6),vI (m.v 7),vI yp.2] 257)::(wP.heap.size,cl #[vI pb.dh,vI pb.cD] 62)::(W.heap.size+1+1+1,cl #[vI 0] 28)::(W.heap.size+1+1,cl (qa) 257)::(W.heap.size+1,cl (oM m (sl:Int)) 82)::(W.heap.size,cl #[vI me.dh,vI me.cD] 62)::L)∧i=0) aI aI aI ?_ ?_ ?_ ?_
  ·exact ⟨Iu.out.later (Below.refl _ _).drew,rfl⟩
  ·exact fun i x y h hb=>⟨h.1.later hb,h.2⟩
  ·refine ⟨?_,?_,?_,?_,?_,?_,?_,?_,?_,?_,?_,trivial⟩
   ·exact tP
   ·exact tP
   ·exact tP
   ·refine bH aG rfl rfl ?_;intro i v x hS hF hB;have e2:v 2=vP wX.heap.size 4:=hF 2 _ aG rfl;have yp:∀ z:Later x,z.world.cell? ⟨g,ix*4+2+sl,none⟩=some (vI ((aj.getD ix ⟨⟨0,0⟩,0,0⟩).Bi (sl:Int))):=fun z=>lX (SF.blk (hS.1.later z.below) (g,.cells cs T (0,0)) N2).1 uv.out Xf.out Cn.out;have yy:=dw (SF.iV hS.1);exact a975
   ·exact tP
   ·refine bH aG rfl rfl ?_;intro i v x hS hF hB;have e4:v 4=vP (W.heap.size+1) 4:=hF 4 _ aG rfl;have yp:∀ z:Later x,z.world.cell? ⟨g,ix*4+2+sl,none⟩=some (vI ((aj.getD ix ⟨⟨0,0⟩,0,0⟩).Bi (sl:Int))):=fun z=>lX (SF.blk (hS.1.later z.below) (g,.cells cs T (0,0)) N2).1 uv.out Xf.out Cn.out;have yy:=dw (SF.iV hS.1);exact a987
   ·exact a992
   ·exact a9103
   ·exact a990
   ·refine bH aG rfl rfl ?_;intro i v x hS hF hB;have e8:v 8=vP g (ix*4+2+sl):=hF 8 _ aG rfl;have yp:∀ z:Later x,z.world.cell? ⟨g,ix*4+2+sl,none⟩=some (vI ((aj.getD ix ⟨⟨0,0⟩,0,0⟩).Bi (sl:Int))):=fun z=>lX (SF.blk (hS.1.later z.below) (g,.cells cs T (0,0)) N2).1 uv.out Xf.out Cn.out;have yy:=dw (SF.iV hS.1);exact aap
   ·refine qp 0 rfl rfl ?_;intro v x hS hF;have e0:v 0=vP t 0:=hF 0 _ aG rfl;have e9:v 9=vI ((aj.getD ix ⟨⟨0,0⟩,0,0⟩).Bi (sl:Int)):=hF 9 _ aG rfl;refine Oper.wp_mono (K:=fun _ _=>False) (fun _ _ h=>h.elim) ?_;simp only [aq,Act.put,aX,jr,aY,e0,e9];unfold Oper.wp;go_simp;refine (fN hS.1 HY16.out LS.out h17).mono ?_;rintro e q ⟨rfl,_,gq⟩;exact iL (ov:=vI 0) rfl rfl gq vg HRE.out
  ·intro v x hF hS;exact absurd hS.2 aH
 have wO:=Hi (by have hq:=vu.out;simp only [h17] at hq;exact hq)
 have HY17:=Hi (af.bY Iu.out.ok HY16.out LS.out h17)
 refine qo (n:=144) [10] (fun k=>match k with
  | 0=>some (vP t 0)
  | 1=>some (vL g 0 n cap)
  | 2=>some (vP wX.heap.size 4)
  | 3=>some (vI (ix:Int))
  | 4=>some (vP (W.heap.size+1) 4)
  | 5=>some (vI (sl:Int))
  | 6=>some (vP g (ix*4))
  | 7=>some (vP g (ix*4+2))
  | 8=>some (vP g (ix*4+2+sl))
  | 9=>some (vI ((aj.getD ix ⟨⟨0,0⟩,0,0⟩).Bi (sl:Int)))
  | _=>none) (Gu S w0 p t s16 s17 y16 y17 ((wX.heap.size,cl #[vI 0,vI 0,vI 0,vU 0,vI (ix:Int),vI (bv:Int),vU 0,vI (m.v 6),vI (m.v 7),vI yp.2] 257)::(wP.heap.size,cl #[vI pb.dh,vI pb.cD] 62)::(W.heap.size+1+1+1,cl #[vI 0] 28)::(W.heap.size+1+1,cl (qa) 257)::(W.heap.size+1,cl (oM m (sl:Int)) 82)::(W.heap.size,cl #[vI me.dh,vI me.cD] 62)::L)) aI aI aI ?_ ?_ ?_ ?_
 ·exact Iu.out.later (Below.refl _ _).drew
 ·exact fun i x y h hb=>Gv h hb
 ·refine ⟨?_,?_,?_,?_,?_,?_,?_,?_,?_,?_,?_,trivial⟩
  ·exact tP
  ·exact tP
  ·exact tP
  ·refine bH aG rfl rfl ?_;intro i v x hS hF hB;have e2:v 2=vP wX.heap.size 4:=hF 2 _ aG rfl;obtain ⟨zs,zy,hZ⟩:=wR hS;have yp:∀ z:Later x,z.world.cell? ⟨g,ix*4+2+sl,none⟩=some (vI ((aj.getD ix ⟨⟨0,0⟩,0,0⟩).Bi (sl:Int))):=fun z=>lX (SF.blk (hZ.later z.below) (g,.cells cs T (0,0)) N2).1 uv.out Xf.out Cn.out;have yy:=dw (SF.iV hZ);exact a975
  ·exact tP
  ·refine bH aG rfl rfl ?_;intro i v x hS hF hB;have e4:v 4=vP (W.heap.size+1) 4:=hF 4 _ aG rfl;obtain ⟨zs,zy,hZ⟩:=wR hS;have yp:∀ z:Later x,z.world.cell? ⟨g,ix*4+2+sl,none⟩=some (vI ((aj.getD ix ⟨⟨0,0⟩,0,0⟩).Bi (sl:Int))):=fun z=>lX (SF.blk (hZ.later z.below) (g,.cells cs T (0,0)) N2).1 uv.out Xf.out Cn.out;have yy:=dw (SF.iV hZ);exact a987
  ·exact a992
  ·exact a9103
  ·exact a990
  ·refine bH aG rfl rfl ?_;intro i v x hS hF hB;have e8:v 8=vP g (ix*4+2+sl):=hF 8 _ aG rfl;obtain ⟨zs,zy,hZ⟩:=wR hS;have yp:∀ z:Later x,z.world.cell? ⟨g,ix*4+2+sl,none⟩=some (vI ((aj.getD ix ⟨⟨0,0⟩,0,0⟩).Bi (sl:Int))):=fun z=>lX (SF.blk (hZ.later z.below) (g,.cells cs T (0,0)) N2).1 uv.out Xf.out Cn.out;have yy:=dw (SF.iV hZ);exact aap
  ·refine qp 0 rfl rfl ?_;intro v x hS hF;have e0:v 0=vP t 0:=hF 0 _ aG rfl;have e9:v 9=vI ((aj.getD ix ⟨⟨0,0⟩,0,0⟩).Bi (sl:Int)):=hF 9 _ aG rfl;simp only [aq,Act.put,aX,jr,aY,e0,e9];refine mJ (fun q=>Gu S w0 p t s16 s17 y16 y17 ((wX.heap.size,cl #[vI 0,vI 0,vI 0,vU 0,vI (ix:Int),vI (bv:Int),vU 0,vI (m.v 6),vI (m.v 7),vI yp.2] 257)::(wP.heap.size,cl #[vI pb.dh,vI pb.cD] 62)::(W.heap.size+1+1+1,cl #[vI 0] 28)::(W.heap.size+1+1,cl (qa) 257)::(W.heap.size+1,cl (oM m (sl:Int)) 82)::(W.heap.size,cl #[vI me.dh,vI me.cD] 62)::L) 1 q) (fun q hq=>⟨.tuple #[],fun u' h=>(by cases h),rfl,hq⟩) ?_;unfold Oper.wp;go_simp;refine (fL hS HY16.out LS.out h17).mono ?_;rintro e q ⟨rfl,hq⟩;exact ⟨rfl,hq⟩
 ·intro v x hF hS;have Eh:Hid (SF S w0 x p s17 ((t,aA p y17)::(wX.heap.size,cl #[vI 0,vI 0,vI 0,vU 0,vI (ix:Int),vI (bv:Int),vU 0,vI (m.v 6),vI (m.v 7),vI yp.2] 257)::(wP.heap.size,cl #[vI pb.dh,vI pb.cD] 62)::(W.heap.size+1+1+1,cl #[vI 0] 28)::(W.heap.size+1+1,cl (qa) 257)::(W.heap.size+1,cl (oM m (sl:Int)) 82)::(W.heap.size,cl #[vI me.dh,vI me.cD] 62)::L)):=Hi hS;clear hS hF Iu;simp only [aq,Act.put,aX,jr,aY];have r:=dw Eh.out.mem.rules;go_wp2_with fail;clear r;have Xd:=Hi Eh.out.ok;refine gM (af.qi s17 y17 (m.v 10)) (fun _ _ ZP=>gN wO ZP (zI Eh.out HY17.out HE10.out ZP)) fun s18 yz Hh18=>?_;refine cg wO Hh18 (zH Eh.out HY17.out HE10.out Hh18.out) ?_;intro w18 Ad qV;clear Eh wO;have r:=dw qV.out.mem.rules;go_wp2_with fail;clear r;have Sn:=Hi qV.out.ok;refine gM (af.qj s18 yz.2) (fun _ _ h19=>gN Ad h19 (FR qV.out h19)) fun s19 ss Hh19=>?_;refine cg Ad Hh19 (FQ qV.out Hh19.out) ?_;intro w19 HR17 F19a;clear qV Ad;have r:=dw F19a.out.mem.rules;go_wp2_with fail;clear r;have Vs:=Hi (N7 Sn.out Hh19.out);obtain ⟨sn,sp,ser,JP⟩:∃ n p er,af.get ss 0=(n,p,er):=⟨_,_,_,rfl⟩
  have hq:=HR17.out;simp only [af.IJ,JP] at hq;have Xg:=Hi hq;clear hq HR17;refine (eu (s:=⟨ss.toArray⟩) (k:=0) JP _ Vs.out).mono ?_;rintro e w20 ⟨rfl,hb20⟩;have yK:=Hi (F19a.out.later hb20);clear hb20 F19a JP;by_cases hse:ser=0;rotate_left
  ·have e1:((ser:Int)==0)=false:=aR;have e2:(ser==0)=false:=aR;go_wp2_with fail;refine (iW (er:=3) ax _).mono ?_;rintro e w21 ⟨rfl,rfl⟩;exact iL (ov:=vI 0) rfl rfl yK.out vg (by have:=Xg.out;simpa [af.dr,hse] using this)
  subst hse;by_cases hsp:sp=ss.length;rotate_left
  ·have e1:((sp:Int)==(ss.length:Int))=false:=aR;have e2:(sp==ss.length)=false:=aR;go_wp2_with fail;refine (iW (er:=3) ax _).mono ?_;rintro e w21 ⟨rfl,rfl⟩;exact iL (ov:=vI 0) rfl rfl yK.out vg (by have:=Xg.out;simpa [af.dr,hsp] using this)
  subst hsp;have hq:=Xg.out;simp only [and_self,if_true] at hq;have HR20:=Hi hq;clear hq Xg;go_wp2_with fail;refine (jB _).mono ?_;rintro e w21 ⟨rfl,rfl⟩;go_wp2_with fail;have qV:=yK.out.nf;unfold aA at qV;generalize hLX:(_::_::_::_::_::L:List (Nat×Obj))=LX at qV;have qV:=Hi (qV.PN 1);clear yK;refine wpS (n:=144) [6,8] [] (tb [vU (sn:Int),vP t 0,vP t 0,vP t 1,some (.agg (eK yz.1)),vP wX.heap.size 6,none,vP wX.heap.size 0]) ((t,cl (ko p yz.1) 159)::[]) [kN S w0 [] ([ah p s19]) ((wX.heap.size,cl #[vI 0,vI 0,vI 0,vU 0,vI (ix:Int),vI (bv:Int),vU 0,vI (m.v 6),vI (m.v 7),vI yp.2] 257)::(t,cl (ko p yz.1) 159)::LX),
   kN S w0 [] ([ah p s19]) ((wX.heap.size,cl #[vI 0,vI 0,vI 0,vU 0,vI (ix:Int),vI (bv:Int),vU (sn:Int),vI (m.v 6),vI (m.v 7),vI yp.2] 257)::(t,cl (ko p yz.1) 159)::LX),
   kN S w0 [] ([ah p s19]) ((wX.heap.size,cl #[vI yz.1.ck,vI yz.1.k,vI yz.1.h,vU yz.1.n,vI (ix:Int),vI (bv:Int),vU (sn:Int),vI (m.v 6),vI (m.v 7),vI yp.2] 257)::(t,cl (ko p yz.1) 159)::LX)] (qV.out) ⟨sP,sP,sP,sP,sP,sP,?_,sP,?_,trivial⟩ ?_
  ·refine wM ?_;intro D v qq x h0 yy;exact ⟨_,(h0.ai (B:=[]) 6 (vU (sn:Int))),wE⟩
  ·refine wM ?_;intro D v qq x h0 yy;exact ⟨_,((((h0.ai (B:=[]) 0 (vI yz.1.ck)).ai (B:=[]) 1 (vI yz.1.k)).ai (B:=[]) 2 (vI yz.1.h)).ai (B:=[]) 3 (vU yz.1.n)),wE⟩
  ·intro v qq x hF hA h;simp only [Lb] at h;have yK:=Hi h;simp only [PU,bF,Nat.reduceAdd];clear hF hA h;rw [←hLX] at yK;have F20:=Hi yK.out.QI;clear yK;have r:=dw F20.out.mem.rules;go_wp2_with fail;clear r;have F21:=Hi ((SF.set (((F20.out.m10 (A:=[_,_,_,_]) (vI yz.1.ck) (vI yz.1.k) (vI yz.1.h) (vU yz.1.n) (vI (ix:Int)) (vI (bv:Int)) (vU (sn:Int)) (vI (m.v 6)) (vI (m.v 7)) (vI yp.2)).perm (tE (l₁:=[_,_,_]))) ) 0 (vI 0)).later ((Below.refl _ _).alloc (cC _) (cl #[vI 0] 227)));refine oC rfl ?_;have g0:=F21.out.get 0 rfl;have g1:=F21.out.get 4 rfl;rw [←HR20.out];refine ⟨.tuple #[.agg #[vI yz.1.ck,vI yz.1.k,vI yz.1.h,vU yz.1.n,vI (ix:Int),vI (bv:Int),vU (sn:Int),vI (m.v 6),vI (m.v 7),vI yp.2],vI 0],?_,rfl,F21.out.sub vg⟩;simp [results,Tryz.results117,go_sem,World.cell?,g0,g1]
theorem SH {R:af.aW af.eE} (h:SF S w0 W p st L) (hme:af.Int64 me.dh∧af.Int64 me.cD) (hv:oZ L v aj) (Ai:∀ q∈aj,af.Int64 q.p0∧af.Int64 q.p1) (ht:text.length≤maxLen) (hm:m.Wf) (hf:af.gB st me aj text m=R) :
 Calls Tryz.prog 117 #[vP p 0,.agg #[vI me.dh,vI me.cD],v,vS text,.agg (dW m)] W (Ah S w0 p L R):=by
 by_cases hk:m.v 0=1
 ·by_cases hr:m.right=true
  ·obtain ⟨sl,h4,jN⟩:=N8 hk hr;exact JO h hme hv Ai ht hm ow hr h4 jN hf
  ·exact JN h hme hv Ai ht hm ow QS hf
 ·exact N9 h hme hv Ai ht hm ow hf
end Go.Proofs.N0
namespace af
def Cl (i:Nat):Term:=⟨2,[],100+i,0,0,0⟩
def Oa:Store:=⟨(List.range 14).map Cl,5000⟩
def two1:Store:=⟨Oa.l++[⟨3,[],0,1,0,0⟩,⟨5,[],0,2,0,0⟩],5000⟩
def fD:Store:=⟨two1.l++[⟨3,[],0,3,0,0⟩,⟨5,[],0,4,0,0⟩],5000⟩
theorem Xh:∀ i<14,(⟨Oa.l.take i,5000⟩:Store).put (Cl i)=(⟨Oa.l.take (i+1),5000⟩,i+1,0):=eU
instance decExcept {α:Type} [DecidableEq α]:DecidableEq (Except Nat α):=fun a b=>match a,b with
 | .ok x,.ok y=>if h:x=y then .isTrue (by rw [h]) else .isFalse (fun e=>h (by cases e;rfl))
 | .error x,.error y=>if h:x=y then .isTrue (by rw [h]) else .isFalse (fun e=>h (by cases e;rfl))
 | .ok _,.error _=>.isFalse (fun e=>by cases e)
 | .error _,.ok _=>.isFalse (fun e=>by cases e)
theorem SI:dX Oa ⟨1,2⟩=(two1,.ok ⟨15,16⟩):=eU
theorem SJ:dX two1 ⟨3,4⟩=(fD,.ok ⟨17,18⟩):=eU
end af
namespace Go.Proofs.N0
open Go.RowKit Go.Maps Go.ChangeMaps
theorem Xi {most:Nat} (hm:most≤1048576) (w:World):Calls Tryz.prog 48 #[vI most] w fun e w'=>∃ p S,e=.returned (.tuple #[vP p 0,vI 0])∧aC w' p ⟨[],most⟩ S∧(∀ i∈S,w.heap.size≤i)∧Below w.heap.size w w':=by
 have hmm:=@run_makeMap Tryz.prog;have h2:decide ((1048576:Int)<(most:Int))=false:=aR;go_enter Tryz.func48,Tryz.ntmps48;go_wp2_with fail;go_ret2;have M:=((((Mem.start w).alloc (cl (tL) 95)).alloc (cl #[vI 0] 3)).alloc (.map #[] 0)).alloc (cl #[vL w.heap.size 0 1 1,vL (w.heap.size+1) 0 1 1,.map (some (w.heap.size+1+1)),vI most] 170);simp only [World.size_alloc] at M;refine ⟨_,_,rfl,⟨w.heap.size,1,w.heap.size+1,1,w.heap.size+1+1,[0],.map [],⟨?_,?_,?_,?_,?_,nC.start,?_⟩,rfl⟩,?_,M.dZ⟩
 ·exact M.get 0 rfl
 ·exact ⟨by simp [DT,fk],.inr ⟨w.heap.size,1,_,rfl,pR _,M.get 3 rfl,cC _,KY,rfl,by simp [DT,fk,af.uz]⟩⟩
 ·exact ⟨aH,.inr ⟨w.heap.size+1,1,_,rfl,pR _,M.get 2 rfl,cC _,KY,rfl,aH⟩⟩
 ·simp
 ·have hm:=(World.ownsMap_made ((w.alloc (cl (tL) 95)).alloc (cl #[vI 0] 3)) Tryz.prog 95 (plainElem (H:=Unit) Tryz.prog 3)).alloc (cl #[vL w.heap.size 0 1 1,vL (w.heap.size+1) 0 1 1,.map (some (w.heap.size+1+1)),vI most] 170);simp only [World.size_alloc] at hm;exact hm
 ·simp;omega
 ·simp;omega
theorem SF.new {W W1 w':World} {p:Nat} {st:af.Store} {S:List Nat} {L:List (Nat×Obj)} (hM:Mem W L W1) (hlow:∀ x∈L,W.heap.size≤x.1) (hn:(L.map (·.1)).Nodup) (hb:Below W1.heap.size W1 w') (hS:aC w' p st S) (hf:∀ i∈S,W1.heap.size≤i) (hok:st.Ok):SF [] W w' p st L :=
 ⟨⟨S,hS,fun i hi=>.inr (Fc hM.dZ.size (hf i hi)),fun x hx hi=>by have:=hf _ hi;have:=lt_of_block (hM.blk x hx);omega⟩,hok,az.below (S:=[]) (hM.dZ.trans (hb.mono hM.dZ.size)),fun x hx=>⟨(hb.block _ (lt_of_block (hM.blk x hx))).trans (hM.blk x hx),.inr (hlow x hx)⟩,hn⟩
def twoA:Nat→Array Value
 | 0=>#[vI 0,vI 0,vI 0,vI 0]
 | _+1=>#[vI 1,vI 2,vI 3,vI 4]
def twoB:Nat→Array Value
 | 0=>#[vI 0,vI 0,vI 0,vI 0,vI 0,vI 0,vI 0,vI 0]
 | 1=>#[vI 0,vI 0,vI 0,vI 0,vI 0,vI 0,vI 0,vI 0]
 | _+2=>#[vI 17,vI 18,vI 5,vI 6,vI 15,vI 16,vI 5,vI 6]
def TwoR (W:World) (p:Nat) (iv:Value) (wr:World):Prop:=∃ i:Nat,i≤14∧iv=vI i∧SF [] W wr p ⟨af.Oa.l.take i,5000⟩ ((W.heap.size+1+1+1,cl #[vI 1,vI 2,vI 3,vI 4] 63)::(W.heap.size+1+1,cl #[vI 0,vI 0,vI 0,vI 0,vI 0,vI 0,vI 0,vI 0] 66)::(W.heap.size+1,cl #[vI 0,vI 0,vI 0,vI 0,vI 0,vI 0,vI 0,vI 0] 66)::(W.heap.size,cl #[vI 0,vI 0,vI 0,vI 0] 63)::[])
theorem Xj (W:World):Calls Tryz.prog 25 #[] W fun e w'=>∃ p,e=.returned (.tuple #[vP p 0,.agg #[vI 1,vI 2,vI 3,vI 4],.agg #[vI 17,vI 18,vI 5,vI 6,vI 15,vI 16,vI 5,vI 6]])∧SF [] W w' p af.fD []:=by
 have M:=(((((Mem.start W).alloc (cl #[vI 0,vI 0,vI 0,vI 0] 63)).alloc (cl #[vI 0,vI 0,vI 0,vI 0,vI 0,vI 0,vI 0,vI 0] 66)).alloc (cl #[vI 0,vI 0,vI 0,vI 0,vI 0,vI 0,vI 0,vI 0] 66)).alloc (cl #[vI 1,vI 2,vI 3,vI 4] 63))
 simp only [World.size_alloc] at M
 have HM:=Hi M
 clear M
 go_enter Tryz.func25,Tryz.ntmps25
 go_wp2_with fail
 refine (Xi (most:=5000) ax _).mono ?_
 rintro e w1 ⟨p,S,rfl,hS,hfr,hb⟩
 have F0:Hid (SF [] W w1 p ⟨[],5000⟩ ((W.heap.size+1+1+1,cl #[vI 1,vI 2,vI 3,vI 4] 63)::(W.heap.size+1+1,cl #[vI 0,vI 0,vI 0,vI 0,vI 0,vI 0,vI 0,vI 0] 66)::(W.heap.size+1,cl #[vI 0,vI 0,vI 0,vI 0,vI 0,vI 0,vI 0,vI 0] 66)::(W.heap.size,cl #[vI 0,vI 0,vI 0,vI 0] 63)::[])):=Hi (SF.new HM.out aR aR hb hS hfr ⟨aG,aG,aH,aH,aH⟩)
 clear HM hS hfr hb
 go_wp2_with fail
 go_loopw [7] (fun iv wr=>TwoR W p iv wr) (fun iv _=>14 - (intOf iv).toNat)
 case atStart=>exact ⟨0,ax,rfl,F0.out⟩
 case round =>
  obtain ⟨i,hi,rfl,hF⟩:=hrel;have F1:=Hi hF;clear hF;by_cases hlt:i<14
  ·have hw:IntKind.u64.wrap (100+(i:Int))=((100+i:Nat):Int):=by simp [IntKind.wrap,IntKind.signed,IntKind.bits];omega
   have hw2:(100+(i:Int)) % 18446744073709551616=((100+i:Nat):Int):=ax;have CP:=Hi (F1.out.put (t:=af.Cl i) ⟨Sd,Sd,Sd,Sd,by unfold af.Cl;simp only;omega,Sd⟩ (af.Xh i hlt));unfold af.Cl at CP;go_wp2_with fail;refine (CP.out).mono ?_;rintro e w2 ⟨rfl,hF⟩;have HR:Hid (TwoR W p (vI ((i:Int)+1)) w2):=Hi ⟨i+1,ax,ym,hF⟩;clear hF CP;exact Hz
  ·obtain rfl:i=14:=ax
   have F2:Hid (SF [] W wr p af.Oa ((W.heap.size+1+1+1,cl #[vI 1,vI 2,vI 3,vI 4] 63)::(W.heap.size+1+1,cl #[vI 0,vI 0,vI 0,vI 0,vI 0,vI 0,vI 0,vI 0] 66)::(W.heap.size+1,cl #[vI 0,vI 0,vI 0,vI 0,vI 0,vI 0,vI 0,vI 0] 66)::(W.heap.size,cl #[vI 0,vI 0,vI 0,vI 0] 63)::[])):=F1
   clear F1 F0
   have r:=dw F2.out.mem.rules
   go_wp2_with fail
   clear r
   refine (lJ (a:=1) (b:=2) F2.out ⟨aG,aG⟩ ⟨aG,aG⟩ af.SI).mono ?_
   rintro e w2 ⟨rfl,g⟩
   have F3:=Hi g
   have F4:=Hi (g.alloc (cl #[vI 15,vI 16] 62))
   clear g F2
   have r:=dw F3.out.mem.rules
   have r2:=dw F4.out.mem.rules
   go_wp2_with fail
   clear r r2 F3
   refine (lJ (a:=3) (b:=4) F4.out ⟨aG,aG⟩ ⟨aG,aG⟩ af.SJ).mono ?_
   rintro e w3 ⟨rfl,g⟩
   have F5:=Hi g
   have F8:=Hi (g.alloc (cl #[vI 17,vI 18] 62))
   clear g F4
   have r:=dw F5.out.mem.rules
   have r2:=dw F8.out.mem.rules
   go_wp2_with fail
   clear r r2 F5
   refine qo (n:=69) [10,11] (fun k=>match k with
    | 0=>some (vP p 0)
    | 1=>some (.agg #[vI 1,vI 2,vI 3,vI 4])
    | 2=>some (.agg #[vI 17,vI 18])
    | 3=>some (.agg #[vI 5,vI 6])
    | 4=>some (.agg #[vI 17,vI 18,vI 5,vI 6])
    | 5=>some (.agg #[vI 15,vI 16])
    | 6=>some (.agg #[vI 5,vI 6])
    | 7=>some (.agg #[vI 15,vI 16,vI 5,vI 6])
    | 8=>some (.agg #[vI 17,vI 18,vI 5,vI 6,vI 15,vI 16,vI 5,vI 6])
    | 9=>some (vP p 0)
    | _=>none) (fun i x=>SF [] W x p af.fD ((w3.heap.size,cl #[vI 17,vI 18] 62)::(w2.heap.size,cl #[vI 15,vI 16] 62)::(W.heap.size+1+1+1,cl #[vI 1,vI 2,vI 3,vI 4] 63)::(W.heap.size+1+1,cl #[vI 0,vI 0,vI 0,vI 0,vI 0,vI 0,vI 0,vI 0] 66)::(W.heap.size+1,cl (twoB i) 66)::(W.heap.size,cl (twoA i) 63)::[])) aI aI aI ?_ ?_ ?_ ?_
   ·exact F8.out.later (Below.refl _ _).drew
   ·exact fun i x y h hb=>h.later hb
   ·refine ⟨?_,?_,?_,?_,?_,?_,?_,?_,?_,?_,?_,?_,trivial⟩
    ·exact tP
    ·exact Sg
    ·exact Sg
    ·exact tP
    ·refine bH aG rfl rfl ?_;intro i v x hS hF hB;have e2:v 2=.agg #[vI 17,vI 18]:=hF 2 _ aG rfl;have e3:v 3=.agg #[vI 5,vI 6]:=hF 3 _ aG rfl;simp only [aq,Act.put,aX,jr,aY,e2,e3];exact Dq
    ·exact Sg
    ·exact tP
    ·refine bH aG rfl rfl ?_;intro i v x hS hF hB;have e5:v 5=.agg #[vI 15,vI 16]:=hF 5 _ aG rfl;have e6:v 6=.agg #[vI 5,vI 6]:=hF 6 _ aG rfl;simp only [aq,Act.put,aX,jr,aY,e5,e6];exact Dq
    ·refine bH aG rfl rfl ?_;intro i v x hS hF hB;have e4:v 4=.agg #[vI 17,vI 18,vI 5,vI 6]:=hF 4 _ aG rfl;have e7:v 7=.agg #[vI 15,vI 16,vI 5,vI 6]:=hF 7 _ aG rfl;simp only [aq,Act.put,aX,jr,aY,e4,e7];exact Dq
    ·refine bH aG rfl rfl ?_;intro i v x hS hF hB;have e0:v 0=vP p 0:=hF 0 _ aG rfl;exact TA
    ·refine BW 0 rfl rfl rfl ?_;intro v x hS hF;have e1:v 1=.agg #[vI 1,vI 2,vI 3,vI 4]:=hF 1 _ aG rfl;have hS2:SF [] W x p af.fD ((w3.heap.size,cl #[vI 17,vI 18] 62)::(w2.heap.size,cl #[vI 15,vI 16] 62)::(W.heap.size+1+1+1,cl #[vI 1,vI 2,vI 3,vI 4] 63)::(W.heap.size+1+1,cl #[vI 0,vI 0,vI 0,vI 0,vI 0,vI 0,vI 0,vI 0] 66)::(W.heap.size+1,cl #[vI 0,vI 0,vI 0,vI 0,vI 0,vI 0,vI 0,vI 0] 66)::(W.heap.size,cl #[vI 0,vI 0,vI 0,vI 0] 63)::[]):=hS;have hc:=hS2.get 5 rfl;have HS:Hid (SF [] W _ p af.fD ((w3.heap.size,cl #[vI 17,vI 18] 62)::(w2.heap.size,cl #[vI 15,vI 16] 62)::(W.heap.size+1+1+1,cl #[vI 1,vI 2,vI 3,vI 4] 63)::(W.heap.size+1+1,cl #[vI 0,vI 0,vI 0,vI 0,vI 0,vI 0,vI 0,vI 0] 66)::(W.heap.size+1,cl #[vI 0,vI 0,vI 0,vI 0,vI 0,vI 0,vI 0,vI 0] 66)::(W.heap.size,cl #[vI 1,vI 2,vI 3,vI 4] 63)::[])):=Hi (SF.ai (A:=[_,_,_,_,_]) (SF.ai (A:=[_,_,_,_,_]) (SF.ai (A:=[_,_,_,_,_]) (SF.ai (A:=[_,_,_,_,_]) (hS2) 0 (vI 1)) 1 (vI 2)) 2 (vI 3)) 3 (vI 4));have cc:=Gn hc;simp only [gC,bF,Nat.reduceAdd] at cc;clear hc hS2 hS hF;refine ⟨_,HS.out,?_⟩;simp only [aq,Act.put,aX,jr,aY,e1];unfold Oper.wp;go_simp
    ·refine BW 1 rfl rfl rfl ?_;intro v x hS hF;have e8:v 8=.agg #[vI 17,vI 18,vI 5,vI 6,vI 15,vI 16,vI 5,vI 6]:=hF 8 _ aG rfl;have hS2:SF [] W x p af.fD ((w3.heap.size,cl #[vI 17,vI 18] 62)::(w2.heap.size,cl #[vI 15,vI 16] 62)::(W.heap.size+1+1+1,cl #[vI 1,vI 2,vI 3,vI 4] 63)::(W.heap.size+1+1,cl #[vI 0,vI 0,vI 0,vI 0,vI 0,vI 0,vI 0,vI 0] 66)::(W.heap.size+1,cl #[vI 0,vI 0,vI 0,vI 0,vI 0,vI 0,vI 0,vI 0] 66)::(W.heap.size,cl #[vI 1,vI 2,vI 3,vI 4] 63)::[]):=hS;have hc:=hS2.get 4 rfl;have HS:Hid (SF [] W _ p af.fD ((w3.heap.size,cl #[vI 17,vI 18] 62)::(w2.heap.size,cl #[vI 15,vI 16] 62)::(W.heap.size+1+1+1,cl #[vI 1,vI 2,vI 3,vI 4] 63)::(W.heap.size+1+1,cl #[vI 0,vI 0,vI 0,vI 0,vI 0,vI 0,vI 0,vI 0] 66)::(W.heap.size+1,cl #[vI 17,vI 18,vI 5,vI 6,vI 15,vI 16,vI 5,vI 6] 66)::(W.heap.size,cl #[vI 1,vI 2,vI 3,vI 4] 63)::[])):=Hi (SF.ai (A:=[_,_,_,_]) (SF.ai (A:=[_,_,_,_]) (SF.ai (A:=[_,_,_,_]) (SF.ai (A:=[_,_,_,_]) (SF.ai (A:=[_,_,_,_]) (SF.ai (A:=[_,_,_,_]) (SF.ai (A:=[_,_,_,_]) (SF.ai (A:=[_,_,_,_]) (hS2) 0 (vI 17)) 1 (vI 18)) 2 (vI 5)) 3 (vI 6)) 4 (vI 15)) 5 (vI 16)) 6 (vI 5)) 7 (vI 6));have cc:=Gn hc;simp only [gC,bF,Nat.reduceAdd] at cc;clear hc hS2 hS hF;refine ⟨_,HS.out,?_⟩;simp only [aq,Act.put,aX,jr,aY,e8];unfold Oper.wp;go_simp
   ·intro v x hF hS;have e9:v 9=vP p 0:=hF 9 _ aG rfl;have F9:Hid (SF [] W x p af.fD ((w3.heap.size,cl #[vI 17,vI 18] 62)::(w2.heap.size,cl #[vI 15,vI 16] 62)::(W.heap.size+1+1+1,cl #[vI 1,vI 2,vI 3,vI 4] 63)::(W.heap.size+1+1,cl #[vI 0,vI 0,vI 0,vI 0,vI 0,vI 0,vI 0,vI 0] 66)::(W.heap.size+1,cl #[vI 17,vI 18,vI 5,vI 6,vI 15,vI 16,vI 5,vI 6] 66)::(W.heap.size,cl #[vI 1,vI 2,vI 3,vI 4] 63)::[])):=Hi hS;clear hS hF;simp only [aq,Act.put,aX,jr,aY,e9];go_wp2_with fail;have g0:=F9.out.get 5 rfl;have g1:=F9.out.get 4 rfl;refine bodyPost_ret (v:=.tuple #[vP p 0,.agg #[vI 1,vI 2,vI 3,vI 4],.agg #[vI 17,vI 18,vI 5,vI 6,vI 15,vI 16,vI 5,vI 6]]) (by simp [results,Tryz.results25,go_sem,World.cell?,g0,g1]) rfl ⟨p,rfl,F9.out.sub (sj _)⟩
end Go.Proofs.N0
namespace af
variable {r d0 d1:Int} {text:List UInt8}
def eR {α:Type} (r:aW α):Nat:=match r.2 with
 | .ok _=>0
 | .error e=>e
def vR {α:Type} (d:α) (r:aW α):α:=match r.2 with
 | .ok a=>a
 | .error _=>d
def qX:bJ:=⟨fun _=>0,[]⟩
def Aj:cz:=⟨fj,0,0,[]⟩
def SK:eE:=⟨fj,0,0,0,0,0,0⟩
def sL:jq:=⟨0,0,0,0⟩
def sM:dG:=⟨⟨0,0⟩,0,0⟩
def me0:Pair:=⟨1,2⟩
def me1:Pair:=⟨3,4⟩
def peer0:dG:=⟨⟨17,18⟩,5,6⟩
def peer1:dG:=⟨⟨15,16⟩,5,6⟩
def JQ (bW:Int) (offer:List UInt8) (slot:Int):bJ:=⟨fun c=>if c=1 then bW else if c=4 then slot else 0,offer⟩
def fB:aW (bJ×cz):=iY fD me0 peer0 (JQ 7 [3,1] 1) 300 7 8 9
def fM:bJ:=(vR (qX,Aj) fB).1
def fQ:cz:=(vR (qX,Aj) fB).2
def fO:aW eE:=gB fB.1 me1 [sM,peer1] [2,1] fM
def fA:aW (bJ×jq):=kK fO.1 (vR SK fO) 9 7 10 11
def fY:bJ:=(vR (qX,sL) fA).1
def fF:aW jq:=iU fA.1 me0 fQ fY
theorem t1:eR fB=0:=eU
theorem t2:eR fO=0:=eU
theorem t3:eR fA=0:=eU
theorem t4:eR fF=0∧(vR sL fF).h=(vR (qX,sL) fA).2.h:=eU
open Go.Proofs.N0 (aM cF kG lW nW kF)
theorem jk {b:Bool} {e:Nat} {st s:Store} {u:Unit} (h:need b e st=(s,.ok u)):b=true∧s=st:=by
 unfold need at h;split at h
 ·simp at h;exact ⟨by assumption,h.symm⟩
 ·simp at h
section
variable {st s:Store} {y z:Sym} {x q:Int}
theorem fu (h:st.Ok) (hy:y.Wf) (hx:Int64 x) (hf:gK st y x=(s,.ok z)):s.Ok:=by
 have:=BP (y:=y) (x:=x) h hy.ck hx;rw [fK hf] at this;exact this
theorem nH (h:st.Ok) (hx:Int64 x) (hf:eD st x=(s,.ok q)):s.Ok:=by
 obtain ⟨n,e,_⟩:=fe hf
 have:=Cc h hx;rw [e] at this;exact this
theorem sO (h:st.Ok) (hx:Int64 x) (hf:eG st x=(s,.ok q)):s.Ok:=by
 obtain ⟨n,e,_⟩:=fe hf
 have:=xC h hx;rw [e] at this;exact this
theorem fE (h:st.Ok) (hx:Int64 x) (hf:cV st x r=(s,.ok q)):s.Ok:=by
 obtain ⟨n,e,_⟩:=fe hf
 have:=FN (q:=r) h hx;rw [e] at this;exact this
theorem qY (h:st.Ok) (hx:Int64 x) (hf:gJ st x r=(s,.ok q)):s.Ok:=by
 obtain ⟨n,e,_⟩:=fe hf
 have:=uW (q:=r) h hx;rw [e] at this;exact this
theorem Co {z:Sym×Int} (h:st.Ok) (hy:y.Wf) (hx:Int64 x) (hf:nt st y x=(s,.ok z)):s.Ok:=by
 have:=zx (y:=y) (x:=x) h hy hx;rw [kT hf] at this;exact this
theorem Cp {z:Sym×Int} (h:st.Ok) (hy:y.Wf) (hx:Int64 x) (hf:qi st y x=(s,.ok z)):s.Ok:=by
 have:=zA (y:=y) (x:=x) h hy hx;rw [kT hf] at this;exact this
theorem vz {z:Int×Int} (h:st.Ok) (hy:y.Wf) (hf:tq st y=(s,.ok z)):Int64 z.1∧Int64 z.2:=by
 obtain ⟨a,b,e,rfl⟩:=rR hf;unfold iC at e;split at e
 ·simp only [Prod.mk.injEq] at e;obtain ⟨_,_,_,e⟩:=e;contradiction
 ·have ho:(st.aZ []).1.Ok:=kD h aH
  have:=oT (st:=(st.aZ []).1) (a:=y.ck) (b:=(st.aZ []).2.1) ho hy.ck (eC (cY h _))
  rw [e] at this
  exact this
theorem Cq {z:Sym×Int} {d:Int} (h:st.Ok) (hd:Int64 d) (hy:y.Wf) (hf:pN st y q d=(s,.ok z)):s.Ok:=by unfold pN at hf;replace hf:=aM hf;obtain ⟨s1,b,h1,hf⟩:=hf;have hk:=nE (q:=q) h hd;have ho:=qC (q:=q) h hd;obtain ⟨a,c,h2,rfl⟩:=rR h1;rw [h2] at hk ho;replace hf:=aM hf;obtain ⟨s2,z1,h3,hf⟩:=hf;have o2:=cF ho hy hk.1 h3;have w2:=aU ho hy h3;replace hf:=aM hf;obtain ⟨s3,z2,h4,hf⟩:=hf;have o3:=fu o2 w2 hk.2 h4;simp only [Prod.mk.injEq] at hf;rw [←hf.1];exact o3
theorem Ak {slot:Int} {p:Pair} (h:st.Ok) (ht:text.length≤9223372036854775807) (ha:Int64 p.dh) (hb:Int64 p.cD) (hf:firstT st text slot p=(s,.ok y)):s.Ok:=by
 unfold firstT at hf;replace hf:=aM hf;obtain ⟨s1,y1,h1,hf⟩:=hf;have w1:=Go.Proofs.N0.nG h h1;have o1:s1.Ok:=by have:=qB (s:=Fg) h (by decide);rw [fK h1] at this;exact this
 replace hf:=aM hf;obtain ⟨s2,x2,h2,hf⟩:=hf;have o2:=kG o1 ht h2;replace hf:=aM hf;obtain ⟨s3,y3,h3,hf⟩:=hf;have n2:=di o1 h2;have w3:=aU o2 w1 h3;have o3:=cF o2 w1 n2 h3;replace hf:=aM hf;obtain ⟨s4,x4,h4,hf⟩:=hf;have hl:(mD slot).length≤9223372036854775807:=by unfold mD;split<;>simp
 have o4:=kG o3 hl h4;have n4:=di o3 h4;replace hf:=aM hf;obtain ⟨s5,y5,h5,hf⟩:=hf;have w5:=aU o4 w3 h5;have o5:=cF o4 w3 n4 h5;replace hf:=aM hf;obtain ⟨s6,y6,h6,hf⟩:=hf;have w6:=aU o5 w5 h6;have o6:=cF o5 w5 ha h6;exact cF o6 w6 hb hf
theorem Et {a b:Pair} (h:st.Ok) (ha:Int64 a.dh) (hb:Int64 a.cD) (hf:dX st a=(s,.ok b)):s.Ok:=by unfold dX at hf;replace hf:=aM hf;obtain ⟨s1,x1,h1,hf⟩:=hf;have o1:=nH h ha h1;replace hf:=aM hf;obtain ⟨s2,x2,h2,hf⟩:=hf;have o2:=sO o1 hb h2;simp only [Prod.mk.injEq] at hf;rw [←hf.1];exact o2
end
theorem JR {m:bJ} (hr:m.right=true) (c:Nat) (hc:c∈gu):0≤m.v c∧m.v c≤4294967296:=by
 unfold bJ.right at hr;rw [gi,gi] at hr;obtain ⟨⟨h1,h2⟩,h3⟩:=hr;by_cases h0:c=0
 ·subst h0;rcases mh (m.v 0) with ⟨e,_⟩|⟨e,_⟩|⟨e,_⟩|⟨e,_⟩|⟨_,_,_,_,e⟩
  ·rw [e];decide
  ·rw [e];decide
  ·rw [e];decide
  ·rw [e];decide
  ·rw [e] at h1;simp at h1
 unfold bJ.same at h3;rw [gi,Bq] at h3;have hv:=h3.1 c hc;simp only [jf,decide_eq_true_eq,if_neg h0] at hv;by_cases hh:Bl (bk (m.v 0)) c=true
 ·unfold Bl at hh
  rw [List.any_eq_true] at hh
  obtain ⟨f,hf,e⟩:=hh
  simp only [beq_iff_eq] at e
  subst e
  have h3:¬f.c=3:=fun e=>by rw [e] at hc;revert hc;decide
  have:=List.all_eq_true.1 h2 f hf
  unfold iE at this
  rw [if_neg h3,decide_eq_true_eq] at this
  have hb:=mA hf
  omega
 ·rw [if_neg (fun h=>hh h.1)] at hv;rw [hv];decide
theorem Gw {m:bJ} (hr:m.right=true):m.Wf:=by
 have hc:=JR hr;refine ⟨fun c h=>?_,fun c h=>?_,?_⟩
 ·have:=hc c (by revert h;simp [gu];omega)
  omega
 ·have:=hc c (by revert h;simp [gu];omega)
  omega
 ·unfold bJ.right at hr;rw [gi,gi] at hr;obtain ⟨⟨h1,h2⟩,h3⟩:=hr;unfold bJ.same at h3;rw [gi,decide_eq_true_eq] at h3;have hv:=h3.2;simp only [jf] at hv;by_cases hh:Bl (bk (m.v 0)) 3=true
  ·unfold Bl at hh
   rw [List.any_eq_true] at hh
   obtain ⟨f,hf,e⟩:=hh
   simp only [beq_iff_eq] at e
   have:=List.all_eq_true.1 h2 f hf
   unfold iE cL at this
   rw [if_pos e,gi,decide_eq_true_eq] at this
   omega
  ·rw [if_neg hh] at hv;rw [hv];simp
structure cz.Wf (q:cz):Prop where
 y:q.y.Wf
 e:Int64 q.e
 ek:Int64 q.ek
 offer:q.offer.length≤9223372036854775807
structure eE.Wf (o:eE):Prop where
 y:o.y.Wf
 version:Int64 o.version
 e:Int64 o.e
 ek:Int64 o.ek
 jo:Int64 o.jo
structure jq.Wf (z:jq):Prop where
 h:Int64 z.h
 send:Int64 z.send
 recv:Int64 z.recv
theorem Gx:qX.Wf:=⟨fun c _=>by simp [qX],fun c _=>by simp [qX],aG⟩
theorem Ob:Aj.Wf:=⟨kR,aL,aL,aG⟩
theorem SL:SK.Wf:=⟨kR,aL,aL,aL,aL⟩
theorem Gy:sL.Wf:=⟨aL,aL,aL⟩
theorem Oc {st s:Store} {me:Pair} {pr:dG} {m x:bJ} {stamp:Nat} {d2:Int} {q:cz} (h:st.Ok) (hm:m.Wf) (hme:Int64 me.dh∧Int64 me.cD) (sr:Int64 pr.jo.dh∧Int64 pr.jo.cD∧Int64 pr.p0∧Int64 pr.p1) (hd:Int64 d0∧Int64 d1∧Int64 d2)
 (hf:iY st me pr m stamp d0 d1 d2=(s,.ok (x,q))):x.Wf∧q.Wf:=by
 unfold iY at hf
 replace hf:=aM hf
 obtain ⟨s0,u0,h0,hf⟩:=hf
 obtain ⟨_,rfl⟩:=jk h0
 replace hf:=aM hf
 obtain ⟨s1,y1,h1,hf⟩:=hf
 have w1:=lW h hm.text sr.1 sr.2.1 h1
 have o1:=Ak h hm.text sr.1 sr.2.1 h1
 replace hf:=aM hf
 obtain ⟨s2,e2,h2,hf⟩:=hf
 have o2:=nH o1 hd.1 h2
 have n2:=dR o1 h2
 replace hf:=aM hf
 obtain ⟨s3,y3,h3,hf⟩:=hf
 have w3:=aU o2 w1 h3
 have o3:=cF o2 w1 n2 h3
 replace hf:=aM hf
 obtain ⟨s4,e4,h4,hf⟩:=hf
 have o4:=sO o3 hd.2.1 h4
 have n4:=jC o3 h4
 replace hf:=aM hf
 obtain ⟨s5,y5,h5,hf⟩:=hf
 have w5:=aU o4 w3 h5
 have o5:=cF o4 w3 n4 h5
 replace hf:=aM hf
 obtain ⟨s6,x6,h6,hf⟩:=hf
 have o6:=fE o5 hd.1 h6
 have n6:=bt o5 h6
 replace hf:=aM hf
 obtain ⟨s7,y7,h7,hf⟩:=hf
 have w7:=bY o6 w5 n6 h7
 have o7:=fu o6 w5 n6 h7
 replace hf:=aM hf
 obtain ⟨s8,b8,h8,hf⟩:=hf
 have w8:=kF o7 hd.2.2 w7 h8
 have o8:=Cq o7 hd.2.2 w7 h8
 replace hf:=aM hf
 obtain ⟨s9,x9,h9,hf⟩:=hf
 have o9:=nH o8 hme.1 h9
 have n9:=dR o8 h9
 replace hf:=aM hf
 obtain ⟨Eo,c10,h10,hf⟩:=hf
 have JF:=oy o9 w8.2 n9 h10
 have ZQ:=Co o9 w8.2 n9 h10
 replace hf:=aM hf
 obtain ⟨xH,x11,h11,hf⟩:=hf
 have o11:=fE ZQ hme.1 h11
 have n11:=bt ZQ h11
 replace hf:=aM hf
 obtain ⟨s12,y12,h12,hf⟩:=hf
 have E9:=bY o11 JF n11 h12
 have o12:=fu o11 JF n11 h12
 replace hf:=aM hf
 obtain ⟨s13,y13,yJ,hf⟩:=hf
 have hp:Int64 (pr.Bi (m.v 4)):=by unfold dG.Bi;split<;>first|exact sr.2.2.1|exact sr.2.2.2
 have Vw:=bY o12 E9 hp yJ
 have o13:=fu o12 E9 hp yJ
 replace hf:=aM hf
 obtain ⟨s14,x14,Ae,hf⟩:=hf
 have hl:(put stamp).length≤9223372036854775807:=by have:=(gz stamp).2;omega
 have o14:=kG o13 hl Ae
 have n14:=di o13 Ae
 replace hf:=aM hf
 obtain ⟨Af,c15,N5,hf⟩:=hf
 have w15:=oy o14 Vw n14 N5
 replace hf:=aM hf
 obtain ⟨s16,u16,Sy,hf⟩:=hf
 obtain ⟨hr,rfl⟩:=jk Sy
 simp only [Prod.mk.injEq,Except.ok.injEq] at hf
 obtain ⟨_,rfl,rfl⟩:=hf
 exact ⟨Gw hr,w15,hd.1,hd.2.1,hm.text⟩
theorem JS {st s:Store} {me:Pair} {aj:List dG} {m:bJ} {o:eE} (h:st.Ok) (hme:Int64 me.dh∧Int64 me.cD) (Ai:∀ q∈aj,Int64 q.p0∧Int64 q.p1) (hm:m.Wf) (hf:gB st me aj text m=(s,.ok o)):o.Wf∧o.stamp<18446744073709551616∧0≤o.peer∧o.peer<aj.length:=by
 unfold gB at hf;replace hf:=aM hf;obtain ⟨s0,u0,h0,hf⟩:=hf;obtain ⟨_,rfl⟩:=jk h0;replace hf:=aM hf;obtain ⟨s1,u1,h1,hf⟩:=hf;obtain ⟨_,rfl⟩:=jk h1;replace hf:=aM hf;obtain ⟨s2,pb,h2,hf⟩:=hf;have n2:=nW h hme.1 hme.2 h2;have o2:=Et h hme.1 hme.2 h2;replace hf:=aM hf;obtain ⟨s3,y3,h3,hf⟩:=hf;have w3:=lW o2 hm.text n2.1 n2.2 h3;have o3:=Ak o2 hm.text n2.1 n2.2 h3;have hv:∀ c,c=6∨c=7∨c=8∨c=9∨c=10→Int64 (m.v c):=fun c hc=>hm.ints c aR;replace hf:=aM hf;obtain ⟨s4,y4,h4,hf⟩:=hf;have w4:=aU o3 w3 h4;have o4:=cF o3 w3 (hv 6 ax) h4;replace hf:=aM hf;obtain ⟨s5,y5,h5,hf⟩:=hf;have w5:=aU o4 w4 h5;have o5:=cF o4 w4 (hv 7 ax) h5;replace hf:=aM hf;obtain ⟨s6,x6,h6,hf⟩:=hf;have o6:=fE o5 hme.1 h6;have n6:=bt o5 h6;replace hf:=aM hf;obtain ⟨s7,y7,h7,hf⟩:=hf;have w7:=bY o6 w5 n6 h7;have o7:=fu o6 w5 n6 h7;replace hf:=aM hf;obtain ⟨s8,y8,h8,hf⟩:=hf;have w8:=aU o7 w7 h8;have o8:=cF o7 w7 (hv 8 ax) h8;replace hf:=aM hf;obtain ⟨s9,x9,h9,hf⟩:=hf;have o9:=qY o8 hme.2 h9;have n9:=iX o8 h9;replace hf:=aM hf;obtain ⟨Eo,y10,h10,hf⟩:=hf;have JF:=bY o9 w8 n9 h10;have ZQ:=fu o9 w8 n9 h10;replace hf:=aM hf;obtain ⟨xH,yp,h11,hf⟩:=hf;have P2:=qD ZQ JF h11;have n11:=Jn ZQ h11;have o11:=Cp ZQ JF (hv 9 ax) h11;replace hf:=aM hf;obtain ⟨s12,i,h12,hf⟩:=hf;have hi:i<aj.length∧s12=xH:=by
  unfold whoT at h12;split at h12
  ·rename_i j hj;simp only [Prod.mk.injEq,Except.ok.injEq] at h12;obtain ⟨rfl,rfl⟩:=h12;exact ⟨Go.Proofs.N0.SG hj,rfl⟩
  ·simp at h12
 obtain ⟨hi,rfl⟩:=hi;replace hf:=aM hf;obtain ⟨s13,x13,yJ,hf⟩:=hf;have o13:=fE o11 hme.1 yJ;have n13:=bt o11 yJ;replace hf:=aM hf;obtain ⟨s14,y14,Ae,hf⟩:=hf;have Vx:=bY o13 P2 n13 Ae;have o14:=fu o13 P2 n13 Ae;replace hf:=aM hf;obtain ⟨Af,y15,N5,hf⟩:=hf;have hp:Int64 ((aj.getD i ⟨⟨0,0⟩,0,0⟩).Bi (m.v 4)):=by
  have h2:=Ai (aj[i]) (KX _);rw [ux,lz hi];unfold dG.Bi;split
  ·exact h2.1
  ·exact h2.2
 have w15:=bY o14 Vx hp N5;have o15:=fu o14 Vx hp N5;replace hf:=aM hf;obtain ⟨s16,yz,Sy,hf⟩:=hf;have w16:=qD o15 w15 Sy;replace hf:=aM hf;obtain ⟨s17,ss,h17,hf⟩:=hf;replace hf:=aM hf;obtain ⟨s18,n,ZP,hf⟩:=hf;have hn:n<18446744073709551616:=by
  unfold IJ at ZP;split at ZP
  ·simp only [Prod.mk.injEq,Except.ok.injEq] at ZP;rw [←ZP.2];exact (BQ ss 0).2
  ·simp at ZP
 simp only [Prod.mk.injEq,Except.ok.injEq] at hf;obtain ⟨_,rfl⟩:=hf;have hb:Int64 ((xx text m.offer).1:Nat):=by
  unfold xx;split
  ·exact aL
  ·split
   ·exact aL
   ·have:=((BS text m.offer).headD 0).toNat_lt
    exact eC c94
 exact ⟨⟨w16,hb,hv 6 ax,hv 7 ax,n11⟩,hn,c94,c94⟩
theorem JT {st s:Store} {o:eE} {bW to:Int} {x:bJ} {z:jq} (h:st.Ok) (ho:o.Wf) (hd:Int64 d0∧Int64 d1) (hf:kK st o bW to d0 d1=(s,.ok (x,z))):x.Wf∧z.Wf:=by unfold kK at hf;replace hf:=aM hf;obtain ⟨s1,e1,h1,hf⟩:=hf;have o1:=nH h hd.1 h1;have n1:=dR h h1;replace hf:=aM hf;obtain ⟨s2,y2,h2,hf⟩:=hf;have w2:=aU o1 ho.y h2;have o2:=cF o1 ho.y n1 h2;replace hf:=aM hf;obtain ⟨s3,x3,h3,hf⟩:=hf;have o3:=fE o2 hd.1 h3;have n3:=bt o2 h3;replace hf:=aM hf;obtain ⟨s4,y4,h4,hf⟩:=hf;have w4:=bY o3 w2 n3 h4;have o4:=fu o3 w2 n3 h4;replace hf:=aM hf;obtain ⟨s5,x5,h5,hf⟩:=hf;have o5:=fE o4 hd.1 h5;have n5:=bt o4 h5;replace hf:=aM hf;obtain ⟨s6,y6,h6,hf⟩:=hf;have w6:=bY o5 w4 n5 h6;have o6:=fu o5 w4 n5 h6;replace hf:=aM hf;obtain ⟨s7,b7,h7,hf⟩:=hf;have w7:=kF o6 hd.2 w6 h7;have o7:=Cq o6 hd.2 w6 h7;replace hf:=aM hf;obtain ⟨s8,x8,h8,hf⟩:=hf;have o8:=kG o7 aH h8;have n8:=di o7 h8;replace hf:=aM hf;obtain ⟨s9,c9,h9,hf⟩:=hf;have w9:=oy o8 w7.2 n8 h9;have o9:=Co o8 w7.2 n8 h9;replace hf:=aM hf;obtain ⟨Eo,ab,h10,hf⟩:=hf;have n10:=vz o9 w9 h10;replace hf:=aM hf;obtain ⟨xH,u11,h11,hf⟩:=hf;obtain ⟨hr,rfl⟩:=jk h11;simp only [Prod.mk.injEq,Except.ok.injEq] at hf;obtain ⟨_,rfl,rfl⟩:=hf;exact ⟨Gw hr,w9.h,n10.2,n10.1⟩
theorem JU {st s:Store} {me:Pair} {p:cz} {m:bJ} {z:jq} (h:st.Ok) (hme:Int64 me.dh) (hp:p.Wf) (hm:m.Wf) (hf:iU st me p m=(s,.ok z)):z.Wf:=by
 unfold iU at hf;have hv:∀ c,c=6∨c=8∨c=9→Int64 (m.v c):=fun c hc=>hm.ints c aR;replace hf:=aM hf;obtain ⟨s0,u0,h0,hf⟩:=hf;obtain ⟨_,rfl⟩:=jk h0;replace hf:=aM hf;obtain ⟨s2,y2,h2,hf⟩:=hf;have w2:=aU h hp.y h2;have o2:=cF h hp.y (hv 6 ax) h2;replace hf:=aM hf;obtain ⟨s3,x3,h3,hf⟩:=hf;have o3:=fE o2 hp.e h3;have n3:=bt o2 h3;replace hf:=aM hf;obtain ⟨s4,y4,h4,hf⟩:=hf;have w4:=bY o3 w2 n3 h4;have o4:=fu o3 w2 n3 h4;replace hf:=aM hf;obtain ⟨s5,x5,h5,hf⟩:=hf;have o5:=fE o4 hme h5;have n5:=bt o4 h5;replace hf:=aM hf;obtain ⟨s6,y6,h6,hf⟩:=hf;have w6:=bY o5 w4 n5 h6;have o6:=fu o5 w4 n5 h6;replace hf:=aM hf;obtain ⟨s7,y7,h7,hf⟩:=hf;have w7:=aU o6 w6 h7;have o7:=cF o6 w6 (hv 8 ax) h7;replace hf:=aM hf;obtain ⟨s8,x8,h8,hf⟩:=hf;have o8:=qY o7 hp.ek h8;have n8:=iX o7 h8;replace hf:=aM hf;obtain ⟨s9,y9,h9,hf⟩:=hf;have w9:=bY o8 w7 n8 h9;have o9:=fu o8 w7 n8 h9;replace hf:=aM hf;obtain ⟨Eo,yv,h10,hf⟩:=hf;have JF:=qD o9 w9 h10;have ZQ:=Cp o9 w9 (hv 9 ax) h10;replace hf:=aM hf;obtain ⟨xH,v,h11,hf⟩:=hf;have e11:xH=Eo:=by unfold qj at h11;split at h11<;>simp at h11;exact h11.1.symm
 subst e11;replace hf:=aM hf;obtain ⟨s12,u12,h12,hf⟩:=hf;obtain ⟨_,rfl⟩:=jk h12;replace hf:=aM hf;obtain ⟨s13,u13,yJ,hf⟩:=hf;obtain ⟨_,rfl⟩:=jk yJ;replace hf:=aM hf;obtain ⟨s14,ab,Ae,hf⟩:=hf;have n14:=vz ZQ JF Ae;simp only [Prod.mk.injEq,Except.ok.injEq] at hf;obtain ⟨_,rfl⟩:=hf;exact ⟨JF.h,n14.1,n14.2⟩
end af
namespace Go.Proofs.N0
open Go.RowKit Go.Maps Go.ChangeMaps
variable {S:List Nat} {w0 W:World} {p stamp:Nat} {st:af.Store} {L:List (Nat×Obj)} {me:af.Pair} {pr:af.dG} {m:af.bJ} {d0 d1 d2:Int}
theorem Xk {R:af.aW (af.bJ×af.cz)} (h:SF S w0 W p st L) (hm:m.Wf) (h4:m.v 4=1) (hst:stamp<18446744073709551616)
 (hme:af.Int64 me.dh∧af.Int64 me.cD) (sr:af.Int64 pr.jo.dh∧af.Int64 pr.jo.cD∧af.Int64 pr.p0∧af.Int64 pr.p1) (hd:af.Int64 d0∧af.Int64 d1∧af.Int64 d2) (hf:af.iY st me pr m stamp d0 d1 d2=R) :
 Calls Tryz.prog 28 #[vP p 0,.agg #[vI me.dh,vI me.cD],.agg (pU pr),.agg (dW m),vU stamp,.agg #[vI d0,vI d1,vI d2]] W (vq S w0 p L R):=by
 obtain ⟨Sh,uu,uv,HD,HST⟩:=vT hm hme sr hd hst
 have HR:=Hi hf
 unfold af.iY at HR
 simp only [h4,af.need,af.dG.Bi,true_or,or_true,decide_true,Int.reduceEq,if_false,reduceIte,if_true,af.dr] at HR
 first|rw [h4]|(unfold dW;rw [h4])
 have F0:=Hi (((((((h.alloc (cl #[vI me.dh,vI me.cD] 62)).alloc (cl (pU pr) 65)).alloc (cl (oM m 1) 82)).alloc (cl #[vI d0,vI d1,vI d2] 32)).alloc (cl (lF) 82)).alloc (cl #[vI 0,vI 0,vI 0,vU 0,vI 0,vI 0,.string ⟨#[]⟩] 86)).alloc (cl #[vI 0] 28))
 simp only [World.size_alloc] at F0
 clear h hm h4 hme sr hd hf hst
 go_enter_defers Tryz.func28,Tryz.ntmps28
 go_wp2_with fail
 refine (jB _).mono ?_
 rintro e w1 ⟨rfl,rfl⟩
 go_wp2_with fail
 have N3:=Hi F0.out.ok
 obtain ⟨s1,r1,h1⟩:∃ s r,af.firstT st m.offer 1 pr.jo=(s,r):=⟨_,_,rfl⟩
 rcases r1 with er|y1
 ·have hq:=HR.out;simp only [h1] at hq;refine (oB F0.out Sh.out.text (.inr rfl) uv.out.1 uv.out.2.1 h1).mono ?_;rintro e w2 ⟨rfl,g⟩;exact oA rfl rfl rfl g vg hq
 have hq:=HR.out;simp only [h1] at hq
 have tN:=Hi hq
 clear hq HR
 have Eb:=Hi (lW N3.out Sh.out.text uv.out.1 uv.out.2.1 h1)
 refine (oB F0.out Sh.out.text (.inr rfl) uv.out.1 uv.out.2.1 h1).mono ?_
 rintro e w2 ⟨t,rfl,g⟩
 have F1:=Hi ((g.alloc (cl (jM m 1 0 0 0 0 0) 82)).perm (List.Perm.swap _ _ _))
 have r:=dw g.mem.rules
 clear g h1 F0
 have r1:=dw F1.out.mem.rules
 go_wp2_with fail
 clear r r1
 have NI:=Hi F1.out.ok
 refine gM (af.eD s1 d0) (fun _ _ h2=>gN tN h2 (kE F1.out HD.out.1 h2)) fun s2 e2 zM=>?_
 refine cg tN zM (jc F1.out HD.out.1 zM.out) ?_
 intro w3 oJ F2
 clear F1 tN
 have r:=dw F2.out.mem.rules
 go_wp2_with fail
 clear r
 have LO:Hid (SF S w0 (w3.setCell ⟨w2.heap.size,6,none⟩ (vI e2)) p s2 ((t,aA p (y1))::(w2.heap.size,cl (jM m 1 e2 0 0 0 0) 82)::_)):=Hi (F2.out.ai (A:=[_]) 6 (vI e2))
 clear F2
 have Si:=Hi (af.dR NI.out zM.out)
 have NJ:=Hi LO.out.ok
 refine gM (af.cE s2 y1 e2) (fun _ _ h3=>gN oJ h3 (dx LO.out Eb.out Si.out h3)) fun s3 y3 wD=>?_
 refine cg oJ wD (dg LO.out Eb.out Si.out wD.out) ?_
 intro w4 uq F3
 clear LO oJ
 have r:=dw F3.out.mem.rules
 go_wp2_with fail
 clear r
 have zN:=Hi (af.aU NJ.out Eb.out wD.out)
 have NK:=Hi F3.out.ok
 refine gM (af.eG s3 d1) (fun _ _ h4=>gN uq h4 (oV F3.out HD.out.2.1 h4)) fun s4 k4 wF=>?_
 refine cg uq wF (oU F3.out HD.out.2.1 wF.out) ?_
 intro w5 ur F4
 clear F3 uq
 have r:=dw F4.out.mem.rules
 go_wp2_with fail
 clear r
 have Xa:Hid (SF S w0 (w5.setCell ⟨w2.heap.size,7,none⟩ (vI k4)) p s4 ((t,aA p (y3))::(w2.heap.size,cl (jM m 1 e2 k4 0 0 0) 82)::_)):=Hi (F4.out.ai (A:=[_]) 7 (vI k4))
 clear F4
 have Xb:=Hi (af.jC NK.out wF.out)
 have NL:=Hi Xa.out.ok
 refine gM (af.cE s4 y3 k4) (fun _ _ h5=>gN ur h5 (dx Xa.out zN.out Xb.out h5)) fun s5 y5 wG=>?_
 refine cg ur wG (dg Xa.out zN.out Xb.out wG.out) ?_
 intro w6 wH F5
 clear Xa ur
 have r:=dw F5.out.mem.rules
 go_wp2_with fail
 clear r
 have Ec:=Hi (af.aU NL.out zN.out wG.out)
 have NM:=Hi F5.out.ok
 refine gM (af.cV s5 d0 pr.jo.dh) (fun _ _ h6=>gN wH h6 (eT F5.out HD.out.1 h6)) fun s6 x6 wI=>?_
 refine cg wH wI (eO F5.out HD.out.1 wI.out) ?_
 intro w7 yG F6
 clear F5 wH
 have r:=dw F6.out.mem.rules
 go_wp2_with fail
 clear r
 have Sj:=Hi (af.bt NM.out wI.out)
 have PZ:=Hi F6.out.ok
 refine gM (af.gK s6 y5 x6) (fun _ _ h7=>gN yG h7 (fN F6.out Ec.out Sj.out h7)) fun s7 y7 Ei=>?_
 refine cg yG Ei (fL F6.out Ec.out Sj.out Ei.out) ?_
 intro w8 zO F7
 clear F6 yG
 have r:=dw F7.out.mem.rules
 go_wp2_with fail
 clear r
 have Ej:=Hi (af.bY PZ.out Ec.out Sj.out Ei.out)
 have JE:=Hi F7.out.ok
 refine gM (af.pN s7 y7 pr.jo.cD d2) (fun _ _ h8=>gN zO h8 (zK F7.out Ej.out HD.out.2.2 h8)) fun s8 b8 Ek=>?_
 refine cg zO Ek (zJ F7.out Ej.out HD.out.2.2 Ek.out) ?_
 intro w9 El F8
 clear F7 zO
 have r:=dw F8.out.mem.rules
 go_wp2_with fail
 clear r
 have LP:=Hi (kF JE.out HD.out.2.2 Ej.out Ek.out)
 have P0:Hid (SF S w0 (w9.setCell ⟨w2.heap.size,8,none⟩ (vI b8.2)) p s8 ((t,aA p (b8.1))::(w2.heap.size,cl (jM m 1 e2 k4 b8.2 0 0) 82)::_)):=Hi (F8.out.ai (A:=[_]) 8 (vI b8.2))
 clear F8
 have Xc:=Hi P0.out.ok
 refine gM (af.eD s8 me.dh) (fun _ _ h9=>gN El h9 (kE P0.out uu.out.1 h9)) fun s9 x9 Em=>?_
 refine cg El Em (jc P0.out uu.out.1 Em.out) ?_
 intro JF En F9
 clear P0 El
 have r:=dw F9.out.mem.rules
 go_wp2_with fail
 clear r
 have Sk:=Hi (af.dR Xc.out Em.out)
 have P1:=Hi F9.out.ok
 refine gM (af.nt s9 b8.1 x9) (fun _ _ h10=>gN En h10 (qG F9.out LP.out.2 Sk.out h10)) fun Eo c10 nw=>?_
 refine cg En nw (qF F9.out LP.out.2 Sk.out nw.out) ?_
 intro P2 oY qR
 clear F9 En
 have r:=dw qR.out.mem.rules
 go_wp2_with fail
 clear r
 have qT:=Hi (af.oy P1.out LP.out.2 Sk.out nw.out)
 have vt:Hid (SF S w0 (P2.setCell ⟨w2.heap.size,9,none⟩ (vI c10.2)) p Eo ((t,aA p (c10.1))::(w2.heap.size,cl (jM m 1 e2 k4 b8.2 c10.2 0) 82)::_)):=Hi (qR.out.ai (A:=[_]) 9 (vI c10.2))
 clear qR
 have JG:=Hi vt.out.ok
 refine gM (af.cV Eo me.dh pr.jo.dh) (fun _ _ h11=>gN oY h11 (eT vt.out uu.out.1 h11)) fun xH x11 wN=>?_
 refine cg oY wN (eO vt.out uu.out.1 wN.out) ?_
 intro E9 qU qd
 clear vt oY
 have r:=dw qd.out.mem.rules
 go_wp2_with fail
 clear r
 have JH:=Hi (af.bt JG.out wN.out)
 have N4:=Hi qd.out.ok
 refine gM (af.gK xH c10.1 x11) (fun _ _ h12=>gN qU h12 (fN qd.out qT.out JH.out h12)) fun s12 y12 BG=>?_
 refine cg qU BG (fL qd.out qT.out JH.out BG.out) ?_
 intro Vw tY xJ
 clear qd qU
 have r:=dw xJ.out.mem.rules
 go_wp2_with fail
 clear r
 have JI:=Hi (af.bY N4.out qT.out JH.out BG.out)
 have Xd:=Hi xJ.out.ok
 refine gM (af.gK s12 y12 pr.p1) (fun _ _ yJ=>gN tY yJ (fN xJ.out JI.out uv.out.2.2.2 yJ)) fun s13 y13 JJ=>?_
 refine cg tY JJ (fL xJ.out JI.out uv.out.2.2.2 JJ.out) ?_
 intro Vx su Cm
 clear xJ tY
 have r:=dw Cm.out.mem.rules
 go_wp2_with fail
 clear r
 have Sl:=Hi (af.bY Xd.out JI.out uv.out.2.2.2 JJ.out)
 refine (qQ stamp ax (by have:=HST.out;omega) _).mono ?_
 rintro e w15 ⟨rfl,Sm⟩
 have Fa:=Hi (Cm.out.later Sm)
 clear Sm Cm
 have Fb:=Hi (show (af.put stamp).length≤9223372036854775807 by have:=(af.gz stamp).2;omega)
 have Wj:((stamp:Nat):Int).toNat=stamp:=aH
 rw [Wj]
 clear Wj
 go_wp2_with fail
 have Sn:=Hi Fa.out.ok
 refine gM (af.mC s13 (af.put stamp)) (fun _ _ Ae=>gN su Ae (mM Fa.out Fb.out Ae)) fun s14 x14 JK=>?_
 refine cg su JK (mL Fa.out Fb.out JK.out) ?_
 intro w16 vu LQ
 clear Fa su
 have r:=dw LQ.out.mem.rules
 go_wp2_with fail
 clear r
 have Sq:=Hi (af.di Sn.out JK.out)
 have HO14:=Hi LQ.out.ok
 refine gM (af.nt s14 y13 x14) (fun _ _ N5=>gN vu N5 (qG LQ.out Sl.out Sq.out N5)) fun Af c15 Ag=>?_
 refine cg vu Ag (qF LQ.out Sl.out Sq.out Ag.out) ?_
 intro w17 wO Iu
 clear LQ vu
 have r:=dw Iu.out.mem.rules
 go_wp2_with fail
 clear r
 have Sr:Hid (SF S w0 (w17.setCell ⟨w2.heap.size,10,none⟩ (vI c15.2)) p Af ((t,aA p (c15.1))::(w2.heap.size,cl (jM m 1 e2 k4 b8.2 c10.2 c15.2) 82)::_)):=Hi (Iu.out.ai (A:=[_]) 10 (vI c15.2))
 clear Iu
 have HC:=Hi (xG (m.v 1) 1 e2 k4 b8.2 c10.2 c15.2 m.offer)
 have tR:=Hi (Gm (o:=m.offer) (Sh.out.pT 1 aH) Sh.out.text (.inr rfl) Si.out Xb.out LP.out.1 (af.mK P1.out nw.out) (af.mK HO14.out Ag.out))
 obtain ⟨x,hx⟩:∃ x,x=af.uI (m.v 1) m.offer 1 e2 k4 b8.2 c10.2 c15.2:=⟨_,rfl⟩
 have HX:=Hi hx
 rw [←hx] at HC tR wO
 clear hx
 obtain ⟨rb,hrb⟩:∃ b,x.right=b:=⟨_,rfl⟩
 have CR:=jG hrb
 rw [HC.out] at CR
 have hq:=wO.out
 simp only [hrb] at hq
 have Ad:=Hi hq
 clear hq hrb wO
 refine (CR _ tR.out).mono ?_
 rintro e w18 ⟨rfl,Gp⟩
 have Eh:=Hi (Sr.out.later Gp)
 clear Gp Sr CR
 go_wp2_with fail
 cases rb
 ·exact a9128
 refine (jB _).mono ?_
 rintro e w19 ⟨rfl,rfl⟩
 go_wp2_with fail
 have qV:=Eh.out.nf
 unfold aA at qV
 have qV:=Hi (qV.PN 4|>.PN 4|>.PN 4)
 clear Eh
 refine wpS (n:=124) [11,12,14,16,18,20,21] [] (tb [some (.agg (jM m 1 e2 k4 b8.2 c10.2 c15.2)),vP t 0,vP t 0,vP t 1,some (.agg (eK c15.1)),vP (W.heap.size+1+1+1) 0,vI d0,vP (W.heap.size+1+1+1) 1,vI d1,vP (W.heap.size+1+1) 3,vS m.offer,none,none,vP (W.heap.size+1+1+1+1+1) 0,none,vP (W.heap.size+1+1+1+1+1) 4,none,vP (W.heap.size+1+1+1+1+1) 5,none,vP (W.heap.size+1+1+1+1+1) 6]) ((t,cl (ko p c15.1) 159)::(w2.heap.size,cl (jM m 1 e2 k4 b8.2 c10.2 c15.2) 82)::(W.heap.size+1+1+1,cl #[vI d0,vI d1,vI d2] 32)::(W.heap.size+1+1,cl (oM m 1) 82)::[]) [kN S w0 [] ([ah p Af]) ((W.heap.size+1+1+1+1+1+1,cl #[vI 0] 28)::(W.heap.size+1+1+1+1+1,cl #[vI 0,vI 0,vI 0,vU 0,vI 0,vI 0,.string ⟨#[]⟩] 86)::(W.heap.size+1+1+1+1,cl (lF) 82)::(t,cl (ko p c15.1) 159)::(w2.heap.size,cl (jM m 1 e2 k4 b8.2 c10.2 c15.2) 82)::(W.heap.size+1+1+1,cl #[vI d0,vI d1,vI d2] 32)::(W.heap.size+1+1,cl (oM m 1) 82)::(W.heap.size+1,cl (pU pr) 65)::(W.heap.size,cl #[vI me.dh,vI me.cD] 62)::L),
  kN S w0 [] ([ah p Af]) ((W.heap.size+1+1+1+1+1+1,cl #[vI 0] 28)::(W.heap.size+1+1+1+1+1,cl #[vI 0,vI 0,vI 0,vU 0,vI 0,vI 0,.string ⟨#[]⟩] 86)::(W.heap.size+1+1+1+1,cl (jM m 1 e2 k4 b8.2 c10.2 c15.2) 82)::(t,cl (ko p c15.1) 159)::(w2.heap.size,cl (jM m 1 e2 k4 b8.2 c10.2 c15.2) 82)::(W.heap.size+1+1+1,cl #[vI d0,vI d1,vI d2] 32)::(W.heap.size+1+1,cl (oM m 1) 82)::(W.heap.size+1,cl (pU pr) 65)::(W.heap.size,cl #[vI me.dh,vI me.cD] 62)::L),
  kN S w0 [] ([ah p Af]) ((W.heap.size+1+1+1+1+1+1,cl #[vI 0] 28)::(W.heap.size+1+1+1+1+1,cl #[vI 0,vI 0,vI 0,vU 0,vI 0,vI 0,.string ⟨#[]⟩] 86)::(W.heap.size+1+1+1+1,cl (jM m 1 e2 k4 b8.2 c10.2 c15.2) 82)::(t,cl (ko p c15.1) 159)::(w2.heap.size,cl (jM m 1 e2 k4 b8.2 c10.2 c15.2) 82)::(W.heap.size+1+1+1,cl #[vI d0,vI d1,vI d2] 32)::(W.heap.size+1+1,cl (oM m 1) 82)::(W.heap.size+1,cl (pU pr) 65)::(W.heap.size,cl #[vI me.dh,vI me.cD] 62)::L),
  kN S w0 [] ([ah p Af]) ((W.heap.size+1+1+1+1+1+1,cl #[vI 0] 28)::(W.heap.size+1+1+1+1+1,cl #[vI c15.1.ck,vI c15.1.k,vI c15.1.h,vU c15.1.n,vI 0,vI 0,.string ⟨#[]⟩] 86)::(W.heap.size+1+1+1+1,cl (jM m 1 e2 k4 b8.2 c10.2 c15.2) 82)::(t,cl (ko p c15.1) 159)::(w2.heap.size,cl (jM m 1 e2 k4 b8.2 c10.2 c15.2) 82)::(W.heap.size+1+1+1,cl #[vI d0,vI d1,vI d2] 32)::(W.heap.size+1+1,cl (oM m 1) 82)::(W.heap.size+1,cl (pU pr) 65)::(W.heap.size,cl #[vI me.dh,vI me.cD] 62)::L),
  kN S w0 [] ([ah p Af]) ((W.heap.size+1+1+1+1+1+1,cl #[vI 0] 28)::(W.heap.size+1+1+1+1+1,cl #[vI c15.1.ck,vI c15.1.k,vI c15.1.h,vU c15.1.n,vI d0,vI 0,.string ⟨#[]⟩] 86)::(W.heap.size+1+1+1+1,cl (jM m 1 e2 k4 b8.2 c10.2 c15.2) 82)::(t,cl (ko p c15.1) 159)::(w2.heap.size,cl (jM m 1 e2 k4 b8.2 c10.2 c15.2) 82)::(W.heap.size+1+1+1,cl #[vI d0,vI d1,vI d2] 32)::(W.heap.size+1+1,cl (oM m 1) 82)::(W.heap.size+1,cl (pU pr) 65)::(W.heap.size,cl #[vI me.dh,vI me.cD] 62)::L),
  kN S w0 [] ([ah p Af]) ((W.heap.size+1+1+1+1+1+1,cl #[vI 0] 28)::(W.heap.size+1+1+1+1+1,cl #[vI c15.1.ck,vI c15.1.k,vI c15.1.h,vU c15.1.n,vI d0,vI d1,.string ⟨#[]⟩] 86)::(W.heap.size+1+1+1+1,cl (jM m 1 e2 k4 b8.2 c10.2 c15.2) 82)::(t,cl (ko p c15.1) 159)::(w2.heap.size,cl (jM m 1 e2 k4 b8.2 c10.2 c15.2) 82)::(W.heap.size+1+1+1,cl #[vI d0,vI d1,vI d2] 32)::(W.heap.size+1+1,cl (oM m 1) 82)::(W.heap.size+1,cl (pU pr) 65)::(W.heap.size,cl #[vI me.dh,vI me.cD] 62)::L),
  kN S w0 [] ([ah p Af]) ((W.heap.size+1+1+1+1+1+1,cl #[vI 0] 28)::(W.heap.size+1+1+1+1+1,cl #[vI c15.1.ck,vI c15.1.k,vI c15.1.h,vU c15.1.n,vI d0,vI d1,vS m.offer] 86)::(W.heap.size+1+1+1+1,cl (jM m 1 e2 k4 b8.2 c10.2 c15.2) 82)::(t,cl (ko p c15.1) 159)::(w2.heap.size,cl (jM m 1 e2 k4 b8.2 c10.2 c15.2) 82)::(W.heap.size+1+1+1,cl #[vI d0,vI d1,vI d2] 32)::(W.heap.size+1+1,cl (oM m 1) 82)::(W.heap.size+1,cl (pU pr) 65)::(W.heap.size,cl #[vI me.dh,vI me.cD] 62)::L),
  kN S w0 [] ([ah p Af]) ((W.heap.size+1+1+1+1+1+1,cl #[vI 0] 28)::(W.heap.size+1+1+1+1+1,cl #[vI c15.1.ck,vI c15.1.k,vI c15.1.h,vU c15.1.n,vI d0,vI d1,vS m.offer] 86)::(W.heap.size+1+1+1+1,cl (jM m 1 e2 k4 b8.2 c10.2 c15.2) 82)::(t,cl (ko p c15.1) 159)::(w2.heap.size,cl (jM m 1 e2 k4 b8.2 c10.2 c15.2) 82)::(W.heap.size+1+1+1,cl #[vI d0,vI d1,vI d2] 32)::(W.heap.size+1+1,cl (oM m 1) 82)::(W.heap.size+1,cl (pU pr) 65)::(W.heap.size,cl #[vI me.dh,vI me.cD] 62)::L)] (qV.out) ⟨sP,sP,sP,sP,sP,sP,sP,sP,sP,sP,sP,QK,sW7,sP,?_,sP,?_,sP,?_,sP,?_,?_,trivial⟩ ?_
 ·exact ZG
 ·exact YR
 ·exact YW
 ·exact YV
 ·exact PI
 ·intro v qq x hF hA h;simp only [Lb] at h;have yK:=Hi h;simp only [PU,bF,Nat.reduceAdd];clear hF hA h;have F20:=Hi (yK.out.later ((Below.refl _ _).alloc (cC _) (cl #[vI 0] 227))).QI;clear yK;go_wp2_with fail;refine oC rfl ?_;have g0:=F20.out.get 0 rfl;have g1:=F20.out.get 1 rfl;have g2:=F20.out.get 2 rfl;have hR:=Ad.out;simp only [if_true,af.dr] at hR;rw [←hR];refine ⟨.tuple #[.agg (jM m 1 e2 k4 b8.2 c10.2 c15.2),.agg #[vI c15.1.ck,vI c15.1.k,vI c15.1.h,vU c15.1.n,vI d0,vI d1,vS m.offer],vI 0],?_,?_,F20.out.sub vg⟩
  ·simp [results,Tryz.results28,go_sem,World.cell?,g0,g1,g2]
  ·rw [HC.out];rfl
theorem SM {R:af.aW (af.bJ×af.cz)} (h:SF S w0 W p st L) (hm:m.Wf) (h40:(m.v 4==0)=false) (h41:(m.v 4==1)=false) (hst:stamp<18446744073709551616)
 (hme:af.Int64 me.dh∧af.Int64 me.cD) (sr:af.Int64 pr.jo.dh∧af.Int64 pr.jo.cD∧af.Int64 pr.p0∧af.Int64 pr.p1) (hd:af.Int64 d0∧af.Int64 d1∧af.Int64 d2) (hf:af.iY st me pr m stamp d0 d1 d2=R) :
 Calls Tryz.prog 28 #[vP p 0,.agg #[vI me.dh,vI me.cD],.agg (pU pr),.agg (dW m),vU stamp,.agg #[vI d0,vI d1,vI d2]] W (vq S w0 p L R):=by
 have hq:(st,.error 1)=R:=by rw [←hf];unfold af.iY af.need;rw [if_neg (by simp at h40 h41;simp [h40,h41])];rfl
 have HQ:=Hi hq
 have F0:=Hi (((((((h.alloc (cl #[vI me.dh,vI me.cD] 62)).alloc (cl (pU pr) 65)).alloc (cl (dW m) 82)).alloc (cl #[vI d0,vI d1,vI d2] 32)).alloc (cl (lF) 82)).alloc (cl #[vI 0,vI 0,vI 0,vU 0,vI 0,vI 0,.string ⟨#[]⟩] 86)).alloc (cl #[vI 0] 28))
 simp only [World.size_alloc] at F0
 clear h hm hme sr hd hf hst hq
 go_enter_defers Tryz.func28,Tryz.ntmps28
 go_wp2_with fail
 refine (iW (er:=1) ax _).mono ?_
 rintro e w1 ⟨rfl,rfl⟩
 exact oA rfl rfl rfl F0.out vg HQ.out
theorem Od {R:af.aW (af.bJ×af.cz)} (h:SF S w0 W p st L) (hm:m.Wf) (hst:stamp<18446744073709551616)
 (hme:af.Int64 me.dh∧af.Int64 me.cD) (sr:af.Int64 pr.jo.dh∧af.Int64 pr.jo.cD∧af.Int64 pr.p0∧af.Int64 pr.p1) (hd:af.Int64 d0∧af.Int64 d1∧af.Int64 d2) (hf:af.iY st me pr m stamp d0 d1 d2=R) :
 Calls Tryz.prog 28 #[vP p 0,.agg #[vI me.dh,vI me.cD],.agg (pU pr),.agg (dW m),vU stamp,.agg #[vI d0,vI d1,vI d2]] W (vq S w0 p L R):=by
 by_cases h0:m.v 4=0
 ·exact W8 h hm h0 hst hme sr hd hf
 by_cases h1:m.v 4=1
 ·exact Xk h hm h1 hst hme sr hd hf
 exact SM h hm (by simpa using h0) ML hst hme sr hd hf
end Go.Proofs.N0
namespace af
def Am (st:Store) (me:Pair) (pr:dG) (m:bJ) (stamp:Nat) (d0 d1 d2:Int):Store×bJ×cz×Nat :=
 ((iY st me pr m stamp d0 d1 d2).1,(vR (qX,Aj) (iY st me pr m stamp d0 d1 d2)).1,(vR (qX,Aj) (iY st me pr m stamp d0 d1 d2)).2,eR (iY st me pr m stamp d0 d1 d2))
def xM (st:Store) (me:Pair) (aj:List dG) (text:List UInt8) (m:bJ):Store×eE×Nat :=
 ((gB st me aj text m).1,vR SK (gB st me aj text m),eR (gB st me aj text m))
def vA (st:Store) (o:eE) (bW to d0 d1:Int):Store×bJ×jq×Nat :=
 ((kK st o bW to d0 d1).1,(vR (qX,sL) (kK st o bW to d0 d1)).1,(vR (qX,sL) (kK st o bW to d0 d1)).2,eR (kK st o bW to d0 d1))
def vB (st:Store) (me:Pair) (p:cz) (m:bJ):Store×jq×Nat :=
 ((iU st me p m).1,vR sL (iU st me p m),eR (iU st me p m))
end af
namespace Go.Proofs.N0
open Go.RowKit Go.Maps Go.ChangeMaps
section
variable {S:List Nat} {w0 W:World} {p er:Nat} {st s:af.Store} {L:List (Nat×Obj)} {me:af.Pair} {m x:af.bJ} {pr:af.dG} {aj:List af.dG} {d0 d1 d2:Int} {q:af.cz} {o:af.eE} {z:af.jq}
theorem Gz {stamp:Nat} (h:SF S w0 W p st L) (hm:m.Wf) (hst:stamp<18446744073709551616)
 (hme:af.Int64 me.dh∧af.Int64 me.cD) (sr:af.Int64 pr.jo.dh∧af.Int64 pr.jo.cD∧af.Int64 pr.p0∧af.Int64 pr.p1) (hd:af.Int64 d0∧af.Int64 d1∧af.Int64 d2) (hf:af.Am st me pr m stamp d0 d1 d2=(s,x,q,er)) :
 (Calls Tryz.prog 28 #[vP p 0,.agg #[vI me.dh,vI me.cD],.agg (pU pr),.agg (dW m),vU stamp,.agg #[vI d0,vI d1,vI d2]] W fun e w'=>e=.returned (.tuple #[.agg (dW x),.agg (vM q),vI er])∧SF S w0 w' p s L)∧x.Wf∧q.Wf:=by
 unfold af.Am at hf
 obtain ⟨R,hR⟩:∃ R,af.iY st me pr m stamp d0 d1 d2=R:=⟨_,rfl⟩
 have hc:=Od h hm hst hme sr hd hR
 have hw:=fun s x q (e:R=(s,.ok (x,q)))=>af.Oc h.ok hm hme sr hd (hR.trans e)
 rw [hR] at hf
 rcases R with ⟨s1,e1|⟨x1,q1⟩⟩
 ·simp only [af.vR,af.eR,Prod.mk.injEq] at hf;obtain ⟨rfl,rfl,rfl,rfl⟩:=hf;exact ⟨hc,af.Gx,af.Ob⟩
 ·exact ZB
theorem nI {v:Value} {text:List UInt8} (h:SF S w0 W p st L) (hme:af.Int64 me.dh∧af.Int64 me.cD) (hv:oZ L v aj) (Ai:∀ q∈aj,af.Int64 q.p0∧af.Int64 q.p1) (ht:text.length≤maxLen) (hm:m.Wf) (hf:af.xM st me aj text m=(s,o,er)) :
 (Calls Tryz.prog 117 #[vP p 0,.agg #[vI me.dh,vI me.cD],v,vS text,.agg (dW m)] W fun e w'=>e=.returned (.tuple #[.agg (iw o o.peer),vI er])∧SF S w0 w' p s L)∧o.Wf:=by
 unfold af.xM at hf
 obtain ⟨R,hR⟩:∃ R,af.gB st me aj text m=R:=⟨_,rfl⟩
 have hc:=SH h hme hv Ai ht hm hR
 have hw:=fun s o (e:R=(s,.ok o))=>(af.JS h.ok hme Ai hm (hR.trans e)).1
 rw [hR] at hf
 rcases R with ⟨s1,e1|o1⟩
 ·simp only [af.vR,af.eR,Prod.mk.injEq] at hf;obtain ⟨rfl,rfl,rfl⟩:=hf;exact ⟨hc,af.SL⟩
 ·exact ZJ
theorem Cr {bW to:Int} (h:SF S w0 W p st L) (ho:o.Wf) (hft:(0≤bW∧bW≤18446744073709551615)∧(0≤to∧to≤18446744073709551615)) (hd:af.Int64 d0∧af.Int64 d1) (hf:af.vA st o bW to d0 d1=(s,x,z,er)) :
 (Calls Tryz.prog 119 #[vP p 0,.agg (iw o o.peer),vU bW,vU to,.agg #[vI d0,vI d1]] W fun e w'=>e=.returned (.tuple #[.agg (dW x),.agg (iH z),vI er])∧SF S w0 w' p s L)∧x.Wf∧z.Wf:=by
 unfold af.vA at hf
 obtain ⟨R,hR⟩:∃ R,af.kK st o bW to d0 d1=R:=⟨_,rfl⟩
 have hc:=JL h ho.y ⟨ho.version,ho.e,ho.ek,ho.jo⟩ hft hd hR
 have hw:=fun s x q (e:R=(s,.ok (x,q)))=>af.JT h.ok ho hd (hR.trans e)
 rw [hR] at hf
 rcases R with ⟨s1,e1|⟨x1,q1⟩⟩
 ·simp only [af.vR,af.eR,Prod.mk.injEq] at hf;obtain ⟨rfl,rfl,rfl,rfl⟩:=hf;exact ⟨hc,af.Gx,af.Gy⟩
 ·exact ZB
theorem finish_at (h:SF S w0 W p st L) (hme:af.Int64 me.dh) (hq:q.Wf) (hm:m.Wf) (hf:af.vB st me q m=(s,z,er)) :
 (Calls Tryz.prog 123 #[vP p 0,.agg #[vI me.dh,vI me.cD],.agg (vM q),.agg (dW m)] W fun e w'=>e=.returned (.tuple #[.agg (iH z),vI er])∧SF S w0 w' p s L)∧z.Wf:=by
 unfold af.vB at hf
 obtain ⟨R,hR⟩:∃ R,af.iU st me q m=R:=⟨_,rfl⟩
 have hc:=JM h hme hq.y ⟨hq.e,hq.ek,hq.offer⟩ hm hR
 have hw:=fun s x (e:R=(s,.ok x))=>af.JU h.ok hme hq hm (hR.trans e)
 rw [hR] at hf
 rcases R with ⟨s1,e1|x1⟩
 ·simp only [af.vR,af.eR,Prod.mk.injEq] at hf;obtain ⟨rfl,rfl,rfl⟩:=hf;exact ⟨hc,af.Gy⟩
 ·exact ZJ
end
end Go.Proofs.N0
namespace af
structure pW where
 peer:Int
 q:cz
 born:Nat
deriving DecidableEq
structure Pt where
 me:Pair
 aj:List dG
 offer:List UInt8
 size:Int
 ak:Nat
 messages:Nat
 stamp:Nat
 guard:List (Option Nat)
 aO:List aP
 slots:List aS
 begun:List (Nat×pW)
 live:List (Nat×dm)
structure SN where
 peer:Int
 text:List UInt8
 yes:Bool
 h:Int
 out:List (List UInt8)
 code:Int
deriving DecidableEq
def nJ:SN:=⟨0,[],false,0,[],0⟩
section
variable {α:Type}
def ua (l:List (Nat×α)) (k:Nat):Option α:=(l.find? fun p=>p.1==k).map (·.2)
def Eu (l:List (Nat×α)) (k:Nat):List (Nat×α):=l.filter fun p=>!(p.1==k)
def aPut (l:List (Nat×α)) (k:Nat) (v:α):List (Nat×α):=Eu l k++[(k,v)]
def lN (l:List (Nat×α)) (k:Nat) (v:α):List (Nat×α):=l.map fun p=>if p.1==k then (k,v) else p
end
def bN:aP:=⟨4,4096,[]⟩
def Pt.has (p:Pt) (who:Int):Bool:=decide (0≤who)&&decide (who<p.aj.length)
def Pt.pack (p:Pt) (m:bJ):Pt×List (List UInt8):=({p with messages:=(p.messages+1) % 18446744073709551616},((cut m.encode p.messages p.size).1).map bC.encode)
def Pt.kept (p:Pt):Pt:={ p with live:=p.live.filter fun x=>p.slots.any fun s=>(s.find x.1).isSome}
def Pt.whose (p:Pt) (id:Nat):Option Nat:=p.slots.findIdx? fun s=>(s.find id).isSome
def nK (to code:Int):bJ:=⟨fun c=>if c=0 then 3 else if c=2 then to else if c=5 then code else 0,[]⟩
def iM (to aF n c1:Int):bJ:=⟨fun c=>if c=0 then 4 else if c=2 then to else if c=11 then aF else if c=12 then n else if c=9 then c1 else 0,[]⟩
def Pt.join (p:Pt) (who:Nat) (o:One) (y:dm) (sl:aS):Pt:=Pt.kept {p with slots:=p.slots.set who sl,live:=aPut p.live o.id y}
def Pt.cur (p:Pt) (who:Int):Option (dm×One)×Nat :=
 if p.has who=false then (none,5)
 else match ua p.live (p.slots.getD who.toNat eL).cur.id with
  | none=>(none,7)
  | some y=>(some (y,(p.slots.getD who.toNat eL).cur),0)
def dG.turn (q:dG) (slot:Int) (x:Int):dG:=if slot=0 then {q with p0:=x} else {q with p1:=x}
def pW.old (now:Nat) (b:pW):Bool:=decide (b.born<now)&&decide (50<now - b.born)
def JV (p:Pt) (now:Nat):Pt×Nat :=
 let q:={ p with begun:=p.begun.filter fun (x:Nat×pW)=>!x.2.old now,aO:=p.aO.map fun (x:aP)=>x.expire now,slots:=p.slots.map fun (s:aS)=>s.expire now 1000}
 (q.kept,(p.begun.length - q.begun.length)+(p.live.length - q.kept.live.length))
end af
namespace Go.Proofs.N0
open Go.RowKit Go.Maps Go.ChangeMaps
variable {W:World} {R:List aW} {L:List (Nat×Obj)} {t b id:Nat} {o:af.One} {l l':af.aS}
theorem NF.gR (W:World):NF [] W W [] []:=⟨⟨[],⟨rfl,fun z hz=>absurd hz aH,fun x hx=>absurd hx aH,aH⟩,fun i hi=>absurd hi aH⟩,fun x hx=>absurd hx aH,az.refl _ _⟩
theorem NF.dZ {w':World} (h:NF [] W w' R L):Below W.heap.size W w':=h.jh.toBelow (fun i hi=>absurd hi aH) (cC _)
theorem NF.quiet {S:List Nat} {w0:World} {P:Program} {f:FuncId} {args:Array Value} {E:Ending} (h:NF S w0 W R L) (hc:Calls P f args W fun e w'=>e=E∧Below W.heap.size W w'):Calls P f args W fun e w'=>e=E∧NF S w0 w' R L:=hc.mono fun _ _ hh=>⟨hh.1,h.later hh.2⟩
def eV (o:af.One):Value:=.agg #[vU o.id,vU o.to,vU o.born]
def oK (l:af.aS):Value:=.agg #[vU l.prev.id,vU l.prev.to,vU l.prev.born,vU l.cur.id,vU l.cur.to,vU l.cur.born,vU l.next.id,vU l.next.to,vU l.next.born]
def Xl (l:af.aS):Value:=.agg #[vU l.cur.id,vU l.cur.to,vU l.cur.born,vU l.next.id,vU l.next.to,vU l.next.born,vU l.prev.id,vU l.prev.to,vU l.prev.born]
theorem GD {i:Nat} (hi:i≠0) (W:World):Calls Tryz.prog 77 #[.agg #[vU i,vU t,vU b]] W fun e w'=>e=.returned (.bool true)∧Below W.heap.size W w':=by have F0:=Hi ((NF.gR W).alloc (cl #[vU i,vU t,vU b] 98));have e1:((i:Int) != 0)=true:=aR;exact ZC
theorem JW (W:World):Calls Tryz.prog 77 #[.agg #[vU 0,vU t,vU b]] W fun e w'=>e=.returned (.bool false)∧Below W.heap.size W w':=by have F0:=Hi ((NF.gR W).alloc (cl #[vU 0,vU t,vU b] 98));exact ZC
theorem aT {b:Bool} (hb:o.there=b) (W:World):Calls Tryz.prog 77 #[eV o] W fun e w'=>e=.returned (.bool b)∧Below W.heap.size W w':=by
 obtain ⟨i,t,c⟩:=o;unfold af.One.there at hb;subst hb;by_cases hi:i=0
 ·subst hi;exact JW W
 ·simpa [hi,eV] using GD (t:=t) (b:=c) hi W
theorem xN (W:World):Calls Tryz.prog 76 #[oK l] W fun e w'=>e=.returned (Xl l)∧Below W.heap.size W w':=by unfold oK Xl;have F1:=Hi (((NF.gR W).alloc (cl #[vU l.prev.id,vU l.prev.to,vU l.prev.born,vU l.cur.id,vU l.cur.to,vU l.cur.born,vU l.next.id,vU l.next.to,vU l.next.born] 107)).alloc (cl #[vU l.cur.id,vU l.cur.to,vU l.cur.born,vU l.next.id,vU l.next.to,vU l.next.born,vU l.prev.id,vU l.prev.to,vU l.prev.born] 190));have F0:=Hi (((NF.gR W).alloc (cl #[vU l.prev.id,vU l.prev.to,vU l.prev.born,vU l.cur.id,vU l.cur.to,vU l.cur.born,vU l.next.id,vU l.next.to,vU l.next.born] 107)).alloc (cl #[vU 0,vU 0,vU 0,vU 0,vU 0,vU 0,vU 0,vU 0,vU 0] 190));simp only [World.size_alloc] at F0 F1;have r:=rl F0.out.mem.rules;have r1:=rl F1.out.mem.rules;go_enter Tryz.func76,Tryz.ntmps76;go_wp2_with fail;exact bodyPost_ret (v:=.agg #[vU l.cur.id,vU l.cur.to,vU l.cur.born,vU l.next.id,vU l.next.to,vU l.next.born,vU l.prev.id,vU l.prev.to,vU l.prev.born]) (by simp [results,Tryz.results76,go_sem,r1]) rfl ⟨rfl,F1.out.dZ⟩
theorem JX (hb:l.next.there=true) (W:World):Calls Tryz.prog 124 #[oK l,eV o] W fun e w'=>e=.returned (.agg #[vU l.next.id,vU l.next.to,vU l.next.born,vU o.id,vU o.to,vU o.born,vU 0,vU 0,vU 0])∧Below W.heap.size W w':=by unfold oK eV;have T:=fun W=>Hi (aT hb W);unfold eV at T;have F0:=Hi ((((NF.gR W).alloc (cl #[vU l.prev.id,vU l.prev.to,vU l.prev.born,vU l.cur.id,vU l.cur.to,vU l.cur.born,vU l.next.id,vU l.next.to,vU l.next.born] 107)).alloc (cl #[vU o.id,vU o.to,vU o.born] 98)).alloc (cl #[vU 0,vU 0,vU 0,vU 0,vU 0,vU 0,vU 0,vU 0,vU 0] 107));simp only [World.size_alloc] at F0;have F1:=Hi (F0.out.alloc (cl #[vU l.cur.id,vU l.cur.to,vU l.cur.born] 98));simp only [World.size_alloc] at F1;clear hb;have r:=rl F0.out.mem.rules;have r1:=rl F1.out.mem.rules;go_enter Tryz.func124,Tryz.ntmps124;go_wp2_with fail;refine (T _).out.mono ?_;rintro e w1 ⟨rfl,hb1⟩;have F2:=Hi (F1.out.later hb1);clear T hb1 r r1 F0 F1;have F3:=Hi (((F2.out.set 0 (vU l.next.id)).set 1 (vU l.next.to)).set 2 (vU l.next.born));simp only [aX,aY,jr,bQ,bG] at F3;have F4:=Hi (((((((((F3.out.ai (B:=[_]) 0 (vU l.next.id)).ai (B:=[_]) 1 (vU l.next.to)).ai (B:=[_]) 2 (vU l.next.born)).ai (B:=[_]) 3 (vU o.id)).ai (B:=[_]) 4 (vU o.to)).ai (B:=[_]) 5 (vU o.born)).ai (B:=[_]) 6 (vU 0)).ai (B:=[_]) 7 (vU 0)).ai (B:=[_]) 8 (vU 0));simp only [aX,aY,jr,bQ,bG] at F4;have r2:=rl F2.out.mem.rules;have r3:=rl F3.out.mem.rules;have r4:=rl F4.out.mem.rules;go_wp2_with fail;exact bodyPost_ret (v:=.agg #[vU l.next.id,vU l.next.to,vU l.next.born,vU o.id,vU o.to,vU o.born,vU 0,vU 0,vU 0]) c955 rfl ⟨rfl,F4.out.dZ⟩
theorem Oe (hb:l.next.there=false) (W:World):Calls Tryz.prog 124 #[oK l,eV o] W fun e w'=>e=.returned (.agg #[vU l.cur.id,vU l.cur.to,vU l.cur.born,vU o.id,vU o.to,vU o.born,vU 0,vU 0,vU 0])∧Below W.heap.size W w':=by unfold oK eV;have T:=fun W=>Hi (aT hb W);unfold eV at T;have F0:=Hi ((((NF.gR W).alloc (cl #[vU l.prev.id,vU l.prev.to,vU l.prev.born,vU l.cur.id,vU l.cur.to,vU l.cur.born,vU l.next.id,vU l.next.to,vU l.next.born] 107)).alloc (cl #[vU o.id,vU o.to,vU o.born] 98)).alloc (cl #[vU 0,vU 0,vU 0,vU 0,vU 0,vU 0,vU 0,vU 0,vU 0] 107));simp only [World.size_alloc] at F0;have F1:=Hi (F0.out.alloc (cl #[vU l.cur.id,vU l.cur.to,vU l.cur.born] 98));simp only [World.size_alloc] at F1;clear hb;have r:=rl F0.out.mem.rules;have r1:=rl F1.out.mem.rules;go_enter Tryz.func124,Tryz.ntmps124;go_wp2_with fail;refine (T _).out.mono ?_;rintro e w1 ⟨rfl,hb1⟩;have F2:=Hi (F1.out.later hb1);clear T hb1 r r1 F0 F1;have F3:=F2;have F4:=Hi (((((((((F3.out.ai (B:=[_]) 0 (vU l.cur.id)).ai (B:=[_]) 1 (vU l.cur.to)).ai (B:=[_]) 2 (vU l.cur.born)).ai (B:=[_]) 3 (vU o.id)).ai (B:=[_]) 4 (vU o.to)).ai (B:=[_]) 5 (vU o.born)).ai (B:=[_]) 6 (vU 0)).ai (B:=[_]) 7 (vU 0)).ai (B:=[_]) 8 (vU 0));simp only [aX,aY,jr,bQ,bG] at F4;have r2:=rl F2.out.mem.rules;have r3:=rl F3.out.mem.rules;have r4:=rl F4.out.mem.rules;go_wp2_with fail;exact bodyPost_ret (v:=.agg #[vU l.cur.id,vU l.cur.to,vU l.cur.born,vU o.id,vU o.to,vU o.born,vU 0,vU 0,vU 0]) c955 rfl ⟨rfl,F4.out.dZ⟩
theorem JY (hl:l.mine o=l') (W:World):Calls Tryz.prog 124 #[oK l,eV o] W fun e w'=>e=.returned (oK l')∧Below W.heap.size W w':=by
 unfold af.aS.mine at hl
 subst hl
 cases hb:l.next.there with
 | true=>simpa [oK,af.bz] using JX hb W
 | false=>simpa [oK,af.bz] using Oe hb W
theorem GF (W:World):Calls Tryz.prog 121 #[oK l,eV o] W fun e w'=>e=.returned (.agg #[vU l.prev.id,vU l.prev.to,vU l.prev.born,vU l.cur.id,vU l.cur.to,vU l.cur.born,vU o.id,vU o.to,vU o.born])∧Below W.heap.size W w':=by unfold oK eV;have F0:=Hi ((((NF.gR W).alloc (cl #[vU l.prev.id,vU l.prev.to,vU l.prev.born,vU l.cur.id,vU l.cur.to,vU l.cur.born,vU l.next.id,vU l.next.to,vU l.next.born] 107)).alloc (cl #[vU o.id,vU o.to,vU o.born] 98)).alloc (cl #[vU 0,vU 0,vU 0,vU 0,vU 0,vU 0,vU 0,vU 0,vU 0] 107));have F1:=Hi ((((NF.gR W).alloc (cl #[vU l.prev.id,vU l.prev.to,vU l.prev.born,vU l.cur.id,vU l.cur.to,vU l.cur.born,vU o.id,vU o.to,vU o.born] 107)).alloc (cl #[vU o.id,vU o.to,vU o.born] 98)).alloc (cl #[vU 0,vU 0,vU 0,vU 0,vU 0,vU 0,vU 0,vU 0,vU 0] 107));have F2:=Hi ((((NF.gR W).alloc (cl #[vU l.prev.id,vU l.prev.to,vU l.prev.born,vU l.cur.id,vU l.cur.to,vU l.cur.born,vU o.id,vU o.to,vU o.born] 107)).alloc (cl #[vU o.id,vU o.to,vU o.born] 98)).alloc (cl #[vU l.prev.id,vU l.prev.to,vU l.prev.born,vU l.cur.id,vU l.cur.to,vU l.cur.born,vU o.id,vU o.to,vU o.born] 107));simp only [World.size_alloc] at F0 F1 F2;have r:=rl F0.out.mem.rules;have r1:=rl F1.out.mem.rules;have r2:=rl F2.out.mem.rules;go_enter Tryz.func121,Tryz.ntmps121;go_wp2_with fail;exact bodyPost_ret (v:=.agg #[vU l.prev.id,vU l.prev.to,vU l.prev.born,vU l.cur.id,vU l.cur.to,vU l.cur.born,vU o.id,vU o.to,vU o.born]) (by simp [results,Tryz.results121,go_sem,r2]) rfl ⟨rfl,F2.out.dZ⟩
theorem Ev (hl:l.theirs o=l') (W:World):Calls Tryz.prog 121 #[oK l,eV o] W fun e w'=>e=.returned (oK l')∧Below W.heap.size W w':=by subst hl;exact GF W
theorem Ew   (W:World):Calls Tryz.prog 127 #[oK l,vU 0] W fun e w'=>e=.returned (.agg #[vU l.prev.id,vU l.prev.to,vU l.prev.born,vU l.cur.id,vU l.cur.to,vU l.cur.born,vU l.next.id,vU l.next.to,vU l.next.born])∧Below W.heap.size W w':=by unfold oK;have F0:=Hi (((NF.gR W).alloc (cl #[vU l.prev.id,vU l.prev.to,vU l.prev.born,vU l.cur.id,vU l.cur.to,vU l.cur.born,vU l.next.id,vU l.next.to,vU l.next.born] 107)).alloc (cl #[vU 0,vU 0,vU 0,vU 0,vU 0,vU 0,vU 0,vU 0,vU 0] 107));simp only [World.size_alloc] at F0;exact a938
theorem BH (h0:id≠0) (hi:id≠l.next.id) (W:World):Calls Tryz.prog 127 #[oK l,vU id] W fun e w'=>e=.returned (.agg #[vU l.prev.id,vU l.prev.to,vU l.prev.born,vU l.cur.id,vU l.cur.to,vU l.cur.born,vU l.next.id,vU l.next.to,vU l.next.born])∧Below W.heap.size W w':=by unfold oK;have F0:=Hi (((NF.gR W).alloc (cl #[vU l.prev.id,vU l.prev.to,vU l.prev.born,vU l.cur.id,vU l.cur.to,vU l.cur.born,vU l.next.id,vU l.next.to,vU l.next.born] 107)).alloc (cl #[vU 0,vU 0,vU 0,vU 0,vU 0,vU 0,vU 0,vU 0,vU 0] 107));simp only [World.size_alloc] at F0;have e1:((id:Int)==0)=false:=aR;have e2:((id:Int)==(l.next.id:Int))=false:=aR;exact a938
theorem Ey (h0:id≠0) (hi:id=l.next.id) (W:World):Calls Tryz.prog 127 #[oK l,vU id] W fun e w'=>e=.returned (.agg #[vU l.cur.id,vU l.cur.to,vU l.cur.born,vU l.next.id,vU l.next.to,vU l.next.born,vU 0,vU 0,vU 0])∧Below W.heap.size W w':=by unfold oK;have F0:=Hi (((NF.gR W).alloc (cl #[vU l.prev.id,vU l.prev.to,vU l.prev.born,vU l.cur.id,vU l.cur.to,vU l.cur.born,vU l.next.id,vU l.next.to,vU l.next.born] 107)).alloc (cl #[vU 0,vU 0,vU 0,vU 0,vU 0,vU 0,vU 0,vU 0,vU 0] 107));simp only [World.size_alloc] at F0;have e1:((id:Int)==0)=false:=aR;have e2:((id:Int)==(l.next.id:Int))=true:=aR;have F2:=Hi (((NF.gR W).alloc (cl #[vU l.prev.id,vU l.prev.to,vU l.prev.born,vU l.cur.id,vU l.cur.to,vU l.cur.born,vU l.next.id,vU l.next.to,vU l.next.born] 107)).alloc (cl #[vU l.cur.id,vU l.cur.to,vU l.cur.born,vU l.next.id,vU l.next.to,vU l.next.born,vU 0,vU 0,vU 0] 107));simp only [World.size_alloc] at F2;have r:=rl F0.out.mem.rules;have r2:=rl F2.out.mem.rules;go_enter Tryz.func127,Tryz.ntmps127;go_wp2_with fail;exact bodyPost_ret (v:=.agg #[vU l.cur.id,vU l.cur.to,vU l.cur.born,vU l.next.id,vU l.next.to,vU l.next.born,vU 0,vU 0,vU 0]) (by simp [results,Tryz.results127,go_sem,r2]) rfl ⟨rfl,F2.out.dZ⟩
theorem GG (hl:l.heard id=l') (W:World):Calls Tryz.prog 127 #[oK l,vU id] W fun e w'=>e=.returned (oK l')∧Below W.heap.size W w':=by
 unfold af.aS.heard at hl;by_cases h0:id=0
 ·rw [if_pos (.inl h0)] at hl;subst hl;subst h0;exact Ew W
 ·by_cases hi:id=l.next.id
  ·rw [if_neg (by simp [h0,hi];omega)] at hl;subst hl;exact Ey h0 hi W
  ·rw [if_pos (.inr hi)] at hl;subst hl;exact BH h0 hi W
end Go.Proofs.N0
namespace Go.Proofs.N0
open Go.RowKit Go.Maps Go.ChangeMaps
section
variable {S:List Nat} {w0 W:World} {g t i A x stamp er n:Nat} {L:List (Nat×Obj)} {R:List aW} {cs:Array Value}
theorem NF.cellAt {T:TypeId} {v:Value} (h:NF S w0 W R L) (hg:(g,Obj.cells cs T (0,0))∈L) (hi:cs[i]?=some v):∀ z:Later W,z.world.cell? ⟨g,i,none⟩=some v∧z.world.frozen? ⟨g,i,none⟩=false:=by obtain ⟨Z,hz,_⟩:=h.sep;have hb:=hz.blk _ hg;intro z;have hb2:z.world.heap[g]?=some (Obj.cells cs T (0,0)):=(z.below.block _ (lt_of_block hb)).trans hb;exact ⟨by simp [World.cell?,hb2,hi],by simp [World.frozen?,hb2]⟩
theorem JZ (h:NF S w0 W R ((t,cl #[vU stamp] 31)::(g,cl cs 225)::L)) (hv:cs[i]?=some (.pointer none)):Calls Tryz.prog 145 #[vP g i,vP t 0] W fun e w'=>e=.returned (vI 0)∧NF S w0 w' R ((t,cl #[vU stamp] 31)::(g,cl cs 225)::L):=by have F0:=Hi h;have c:=h.cellAt (g:=g) (i:=i) (xY _ (dN ..)) hv;exact a940
theorem Og (h:NF S w0 W R ((t,cl #[vU stamp] 31)::(g,cl cs 225)::L)) (hA:(A,Obj.cells #[vU x] 31 (0,0))∈L) (hv:cs[i]?=some (vP A 0)) (ho:stamp≤x):Calls Tryz.prog 145 #[vP g i,vP t 0] W fun e w'=>e=.returned (vI 12)∧NF S w0 w' R ((t,cl #[vU stamp] 31)::(g,cl cs 225)::L):=by have F0:=Hi h;have c:=h.cellAt (g:=g) (i:=i) (xY _ (dN ..)) hv;have cA:=h.cellAt (g:=A) (i:=0) (xY _ (xY _ hA)) rfl;clear hA;have e1:decide ((stamp:Int)≤(x:Int))=true:=aR;exact a940
theorem Oh (h:NF S w0 W R ((t,cl #[vU stamp] 31)::(g,cl cs 225)::L)) (hA:(A,Obj.cells #[vU x] 31 (0,0))∈L) (hv:cs[i]?=some (vP A 0)) (ho:¬stamp≤x):Calls Tryz.prog 145 #[vP g i,vP t 0] W fun e w'=>e=.returned (vI 0)∧NF S w0 w' R ((t,cl #[vU stamp] 31)::(g,cl cs 225)::L):=by have F0:=Hi h;have c:=h.cellAt (g:=g) (i:=i) (xY _ (dN ..)) hv;have cA:=h.cellAt (g:=A) (i:=0) (xY _ (xY _ hA)) rfl;clear hA;have e1:decide ((stamp:Int)≤(x:Int))=false:=aR;exact a940
theorem gTake1 (h:NF S w0 W R ((t,cl #[vU stamp] 31)::(g,cl cs 225)::L)) (hv:(cs[i]?).isSome):Calls Tryz.prog 148 #[vP g i,vP t 0] W fun e w'=>e=.returned (vI 0)∧NF S w0 w' R ((t,cl #[vU stamp] 31)::(g,cl (cs.setIfInBounds i (vP t 0)) 225)::L):=by obtain ⟨v,hv⟩:=Option.isSome_iff_exists.1 hv;have F0:=Hi h;have c:=h.cellAt (g:=g) (i:=i) (xY _ (dN ..)) hv ⟨W,Below.refl _ _⟩;simp only at c;clear h hv;go_enter Tryz.func148,Tryz.ntmps148;go_wp2_with fail;go_ret;exact ⟨rfl,F0.out.ai (B:=[_]) i _⟩
theorem gAtCan {Q:World→Prop} (c8:W.cell? ⟨g,8,none⟩=some (vI n)) (f8:W.frozen? ⟨g,8,none⟩=false) (hi:i<n) (hn:n≤8) (C:Calls Tryz.prog 145 #[vP g i,vP t 0] W fun e w'=>e=.returned (vI er)∧Q w'):Calls Tryz.prog 144 #[vP g 0,vI i,.func (.func 145) #[] #[vP t 0]] W fun e w'=>e=.returned (vI er)∧Q w':=by exact a976
theorem Xm {Q:World→Prop} (c8:W.cell? ⟨g,8,none⟩=some (vI n)) (f8:W.frozen? ⟨g,8,none⟩=false) (hi:i<n) (hn:n≤8) (C:Calls Tryz.prog 148 #[vP g i,vP t 0] W fun e w'=>e=.returned (vI er)∧Q w'):Calls Tryz.prog 144 #[vP g 0,vI i,.func (.func 148) #[] #[vP t 0]] W fun e w'=>e=.returned (vI er)∧Q w':=by exact a976
def vC (A:Nat→Nat) (gs:List (Option Nat)) (i:Nat):Value:=match gs.getD i none with
 | none=>.pointer none
 | some _=>vP (A i) 0
def mV (A:Nat→Nat) (gs:List (Option Nat)) (n:Nat):Array Value:=#[vC A gs 0,vC A gs 1,vC A gs 2,vC A gs 3,vC A gs 4,vC A gs 5,vC A gs 6,vC A gs 7,vI n]
def Xn (A:Nat→Nat) (gs:List (Option Nat)) (i:Nat):Option (Nat×Obj):=(gs.getD i none).map fun x=>(A i,Obj.cells #[vU (x:Nat)] 31 (0,0))
def jl (A:Nat→Nat) (gs:List (Option Nat)):List (Nat×Obj):=(List.range 8).filterMap (Xn A gs)
def bw (g:Nat) (gs:List (Option Nat)) (n:Nat):aW:=wj (gs.length=8∧n≤8) (exR fun A=>comp [] ((g,cl (mV A gs n) 225)::jl A gs))
theorem Cs {A:Nat→Nat} {gs:List (Option Nat)} (hi:i<8):(mV A gs n)[i]?=some (vC A gs i):=by have:i=0∨i=1∨i=2∨i=3∨i=4∨i=5∨i=6∨i=7:=ax;rcases this with rfl|rfl|rfl|rfl|rfl|rfl|rfl|rfl<;>rfl
theorem GH {A:Nat→Nat} {gs:List (Option Nat)}:(mV A gs n)[8]?=some (vI n):=rfl
theorem SQ {A:Nat→Nat} {gs:List (Option Nat)} {j:Nat} (hg:gs.length=8) (hi:i<8):vC (fun j=>if j=i then t else A j) (gs.set i (some stamp)) j=if j=i then vP t 0 else vC A gs j:=by
 unfold vC;by_cases h:j=i
 ·subst h;simp [ux,List.getElem?_set,hg,hi]
 ·simp [ux,List.getElem?_set,sg h,h]
theorem J0 {A:Nat→Nat} {gs:List (Option Nat)} (hg:gs.length=8) (hi:i<8):(mV A gs n).setIfInBounds i (vP t 0)=mV (fun j=>if j=i then t else A j) (gs.set i (some stamp)) n:=by unfold mV;simp only [SQ hg hi];have:i=0∨i=1∨i=2∨i=3∨i=4∨i=5∨i=6∨i=7:=ax;rcases this with rfl|rfl|rfl|rfl|rfl|rfl|rfl|rfl<;>simp
theorem GI {α β:Type} {f f':α→Option β}:∀ {l:List α},(∀ j∈l,f' j=f j)→l.filterMap f'=l.filterMap f
 | [],_=>rfl
 | a::l,h=>by rw [uN,uN,h a (dN ..),GI fun j hj=>h j (xY _ hj)]
theorem SR {α β:Type} [DecidableEq α] (f f':α→Option β) (i:α) (y:β) (hi':f' i=some y) (hf:∀ j,j≠i→f' j=f j):∀ l:List α,l.Nodup→i∈l→∃ r,(l.filterMap f').Perm (y::r)∧r.Sublist (l.filterMap f)
 | [],_,h=>absurd h aH
 | a::l,hn,h=>by
  rw [uM] at hn;by_cases ha:a=i
  ·subst ha;have e:l.filterMap f'=l.filterMap f:=GI fun j hj=>hf j fun e=>hn.1 (e▸hj);refine ⟨l.filterMap f,?_,?_⟩
   ·rw [uN,hi',e]
   ·rw [uN];split
    ·exact List.Sublist.refl _
    ·exact zq _ _
  ·have hm:i∈l:=by rcases List.mem_cons.1 h with h|h;exact absurd h.symm ha;exact h
   obtain ⟨r,h1,h2⟩:=SR f f' i y hi' hf l hn.2 hm
   rw [uN,uN,hf a ha]
   cases hfa:f a with
   | none=>exact ⟨r,h1,h2⟩
   | some z=>exact ⟨z::r,(h1.cons z).trans (List.Perm.swap _ _ _),h2.cons_cons z⟩
theorem Oi {A:Nat→Nat} {gs:List (Option Nat)} (hg:gs.length=8) (hi:i<8):∃ r,(jl (fun j=>if j=i then t else A j) (gs.set i (some stamp))).Perm ((t,Obj.cells #[vU (stamp:Nat)] 31 (0,0))::r)∧r.Sublist (jl A gs):=by
 refine SR _ _ i _ ?_ (fun j hj=>?_) _ List.nodup_range (List.mem_range.2 hi)
 ·unfold Xn;simp [ux,List.getElem?_set,hg,hi]
 ·unfold Xn;simp [ux,List.getElem?_set,sg hj,hj]
theorem SS {A:Nat→Nat} {gs:List (Option Nat)} (hi:i<8) (hx:gs.getD i none=some x):(A i,Obj.cells #[vU (x:Nat)] 31 (0,0))∈jl A gs :=
 List.mem_filterMap.2 ⟨i,List.mem_range.2 hi,by unfold Xn;rw [hx];rfl⟩
theorem Oj {A:Nat→Nat} {gs:List (Option Nat)} (hg:gs.length=8∧n≤8) (h:NF S w0 W R ((g,cl (mV A gs n) 225)::(jl A gs++L))):NF S w0 W (bw g gs n::R) L :=
 NF.Bu hg (NF.Vr A (NF.shut (R1:=[]) (L1:=(g,cl (mV A gs n) 225)::jl A gs) h))
theorem NF.vX {gs:List (Option Nat)} (h:NF S w0 W (bw g gs n::R) L) (hi:i<n) (hr:af.vX (gs.getD i none) stamp=er):Calls Tryz.prog 118 #[vP g 0,vI i,vU stamp] W fun e w'=>e=.returned (vI er)∧NF S w0 w' (bw g gs n::R) L:=by
 obtain ⟨hg,h⟩:=h.IX;obtain ⟨A,h⟩:=h.exO;have h:=h.op;simp only [bG,bQ] at h;have F0:=Hi (h.alloc (cl #[vU stamp] 31));have i8:i<8:=ax;have c8:=F0.out.cellAt (g:=g) (i:=8) (xY _ (dN ..)) GH ⟨_,Below.refl _ _⟩;simp only at c8;have C1:Calls Tryz.prog 145 #[vP g i,vP W.heap.size 0] (W.alloc (cl #[vU stamp] 31)) fun e w'=>e=.returned (vI er)∧NF S w0 w' R ((W.heap.size,cl #[vU stamp] 31)::(g,cl (mV A gs n) 225)::(jl A gs++L)):=by
  have hc:=Cs (A:=A) (gs:=gs) (n:=n) i8
  cases hx:gs.getD i none with
  | none =>
   rw [hx] at hr;subst hr;exact JZ F0.out (by rw [hc];simp only [vC,hx])
  | some x =>
   rw [hx] at hr;have hv:(mV A gs n)[i]?=some (vP (A i) 0):=by rw [hc];simp only [vC,hx]
   have hA:=DL L (SS (A:=A) i8 hx);by_cases ho:stamp≤x
   ·obtain rfl:12=er:=by rw [←hr];simp [af.vX,ho]
    exact Og F0.out hA hv ho
   ·obtain rfl:0=er:=by rw [←hr];simp [af.vX,ho]
    exact Oh F0.out hA hv ho
 have CA:=Hi (gAtCan c8.1 c8.2 hi hg.2 C1);have Wp:∀ (fn:Fn) (first cap:Array Value) (w:World),(Instr.makeFunc fn first cap).run Tryz.prog w=.ok (.func fn first cap) w:=fun _ _ _ _=>rfl;clear C1 c8 h hr;go_enter Tryz.func118,Tryz.ntmps118;go_wp2_with fail;refine CA.out.mono ?_;rintro e w1 ⟨rfl,g1⟩;have F1:=Hi (Oj hg (g1.sub (zq _ _)));clear g1 CA F0;go_wp2_with fail;go_ret;exact ⟨rfl,F1.out⟩
theorem NF.gTake {gs:List (Option Nat)} (h:NF S w0 W (bw g gs n::R) L) (hi:i<n) (hr:af.vX (gs.getD i none) stamp=0):Calls Tryz.prog 122 #[vP g 0,vI i,vU stamp] W fun e w'=>e=.returned (vI 0)∧NF S w0 w' (bw g (gs.set i (some stamp)) n::R) L:=by
 have F0:=Hi (h.alloc (cl #[vU stamp] 31));have CC:=Hi (F0.out.vX hi hr);have hg:=(h.IX).1;have i8:i<8:=ax;have Wp:∀ (fn:Fn) (first cap:Array Value) (w:World),(Instr.makeFunc fn first cap).run Tryz.prog w=.ok (.func fn first cap) w:=fun _ _ _ _=>rfl;have r:=rl F0.out.mem.rules;clear h hr;go_enter Tryz.func122,Tryz.ntmps122;go_wp2_with fail;refine CC.out.mono ?_;rintro e w1 ⟨rfl,g1⟩;obtain ⟨-,g1⟩:=g1.IX;obtain ⟨A,g1⟩:=g1.exO;have g1:=g1.op;simp only [bG,bQ] at g1;have g2:=g1.perm (L':=(W.heap.size,cl #[vU stamp] 31)::(g,cl (mV A gs n) 225)::(jl A gs++L)) (by
  rw [←bQ,←bQ]
  exact tE)
 have c8:=g2.cellAt (g:=g) (i:=8) (xY _ (dN ..)) GH ⟨_,Below.refl _ _⟩;simp only at c8;have CA:=Hi (Xm c8.1 c8.2 hi hg.2 (gTake1 g2 (by rw [Cs i8];rfl)));clear c8 g1 g2 CC r F0;go_wp2_with fail;refine CA.out.mono ?_;rintro e w2 ⟨rfl,g3⟩;have F3:Hid (NF S w0 w2 (bw g (gs.set i (some stamp)) n::R) L):=Hi (by
  obtain ⟨r,h1,h2⟩:=Oi (A:=A) (t:=W.heap.size) (stamp:=stamp) hg.1 i8
  refine NF.Bu ⟨by rw [List.length_set];exact hg.1,hg.2⟩ (NF.Vr (fun j=>if j=i then W.heap.size else A j) (NF.shut (R1:=[]) ?_))
  rw [J0 (stamp:=stamp) hg.1 i8] at g3
  have g4:=g3.sub (((h2.append_right L).cons_cons _).cons_cons (W.heap.size,Obj.cells #[vU stamp] 31 (0,0)))
  refine g4.perm ((List.Perm.swap _ _ _).trans ?_)
  rw [bQ]
  refine List.Perm.cons _ ?_
  rw [←bQ]
  exact h1.symm.append_right L)
 clear g3 CA;go_wp2_with fail;go_ret;exact ⟨rfl,F3.out⟩
theorem NF.gNew (h:NF S w0 W R L) (hn:n≤8):Calls Tryz.prog 50 #[vI n] W fun e w'=>∃ g,e=.returned (.tuple #[vP g 0,vI 0])∧NF S w0 w' (bw g (List.replicate 8 none) n::R) L:=by have e1:decide ((n:Int)<0)=false:=aH;have e2:decide ((n:Int)>8)=false:=aR;have F0:=Hi (h.alloc (cl #[.pointer none,.pointer none,.pointer none,.pointer none,.pointer none,.pointer none,.pointer none,.pointer none,vI n] 225));clear h;go_enter Tryz.func50,Tryz.ntmps50;go_wp2_with fail;go_ret2;exact ⟨_,rfl,NF.Bu ⟨rfl,hn⟩ (NF.Vr (fun _=>0) (NF.shut (R1:=[]) F0.out))⟩
end
end Go.Proofs.N0
