/- Texts YtnkbpigjdojakaaGreatSeChain .. YtnkbpigjdojakaaGreatRegX, joined. What they prove: the contracts of the functions that the law reaches, and plain law. -/
import Derived.Test.YtnkbpigjdojakaaGreatG5
import Derived.Test.YtnkbpigjdojakaaGreatProg
import Derived.Laws.Bits64b
import Derived.Lib.EndianBits
import Derived.WalkKit
import Derived.Lib.Hide
import Derived.Maps.RangeWalk
import Derived.Maps.Ext
import Derived.Outline
import Derived.WalkLawsBesides
import Derived.WalkSpells
import Derived.OneCell
import Derived.StillTailTactics
import Derived.Lib.BitFns
import Derived.Deep.QuietTactic
import Derived.BigQuiet
import Derived.IntWalk
import Derived.LoopTactic
set_option maxRecDepth 100000
set_option maxHeartbeats 6400000
theorem Ao:type_of% @Int.natCast_nonneg:=@Int.natCast_nonneg
theorem ud:type_of% @List.mem_singleton_self:=@List.mem_singleton_self
variable {A:Prop}
theorem a993 (h:A:=by
 clear h he;go_enter Tryz.func109,Tryz.ntmps109;go_wp2_with fail;exact bodyPost_ret (v:=.tuple #[.agg #[vI 0,vI 0],vI 13]) (by simp [results,Tryz.results109,go_sem,r]) rfl ⟨rfl,F0.out.sub ((zq _ _).trans (zq _ _))⟩):A:=h
theorem c956 (h:A:=by simp [results,Tryz.results109,go_sem,ry,rz]):A:=h
theorem YN (h:A:=by
 go_wp2_with fail;refine C1.out.mono ?_;rintro e w1 ⟨rfl,g⟩;have F1:=Hi g;clear g C1 F0;go_wp2_with fail;go_ret2;exact ⟨rfl,F1.out⟩):A:=h
theorem Zp (h:A:=by
 have r:=rl F2.out.mem.rules;clear g C2;go_wp2_with fail;go_ret2;exact ⟨rfl,F2.out.sub (zq _ _)⟩):A:=h
theorem ZT (h:A:=by
 go_enter Tryz.func183,Tryz.ntmps183;exact Kk):A:=h
theorem YL (h:A:=by
 go_wp2_with fail;go_ret;exact ⟨rfl,lO.out⟩):A:=h
theorem QL (h:A:=by
 refine wC ?_;intro D v qq x h0;exact mo (h0.gL fun S1 hs=>hs.sNext HC.out HF.out)):A:=h
theorem OJ (h:A:=by
 refine wM ?_;intro D v qq x h0 yy;first|exact ⟨_,(((h0.ai (B:=_) 0 (vI c.key)).ai (B:=_) 1 (vI c.aF)).ai (B:=_) 2 (vI 0)),wE⟩|exact ⟨_,(((h0.ai (B:=[]) 0 (vI c.key)).ai (B:=[]) 1 (vI c.aF)).ai (B:=[]) 2 (vI 0)),wE⟩|exact ⟨_,(((h0.ai (B:=[_]) 0 (vI c.key)).ai (B:=[_]) 1 (vI c.aF)).ai (B:=[_]) 2 (vI 0)),wE⟩):A:=h
theorem c957 (h:A:=by simp [results,Tryz.results35,go_sem,r1]):A:=h
theorem J1 (h:A:=by simp [aJ]):A:=h
theorem Tz (h:A:=by
 simp [execOp,hop,hit,hrun,Result.andThen];exact hK' _ _ (hDone hl)):A:=h
theorem YS (h:A:=by
 subst e4;simp [execOp,hop,hit,hrun,Result.andThen];exact hK' _ _ (hMore i s w' cnt' hs hlk hrg hlt hgr hsz hen)):A:=h
theorem aac (h:A:=by
 rw [atKey_of_not_has hh] at hv;have hno:af.partAt l i=[]:=by rw [hM.has i] at hh;unfold af.partAt;rw [List.find?_eq_none.2 fun p hp=>by simpa using List.any_eq_false.1 hh p hp];rfl
 rw [hno];exact nL hv):A:=h
theorem a986 (h:A:=by
 induction l with
 | nil=>simp at hs
 | cons x l ih =>
  rw [jQ,uM] at hn
  rcases List.mem_cons.1 hs with rfl|hs
  ·simp
  ·have:x.1≠i:=fun e=>hn.1 (by rw [e];exact mG (f:=(·.1)) hs)
   rw [List.find?_cons_of_neg (by simpa using this)]
   exact ih hn.2 hs):A:=h
theorem nX (h:A:=by cases e;simp):A:=h
theorem Ap (h:A:=by simp at e;omega):A:=h
theorem GK (h:A:=by simp at h;exact h.1):A:=h
theorem SY (h:A:=by
 go_wp2_with fail
 go_roundw
 case rel=>exact HR.out
 case measure=>exact Iw.out):A:=h
theorem Za (h:A:=by
 go_wp2_with fail
 go_roundw
 case rel=>exact HR.out
 case measure=>exact HMS4.out):A:=h
theorem Xo (h:A:=by simp at e;simp [e]):A:=h
theorem GL (h:A:=by rw [HK.out];exact cC _):A:=h
theorem Y9 (h:A:=by
 have:=GM (qZ.out.later x.below).own (qZ.out.later x.below).core.maps
 rw [Fw] at this
 exact this):A:=h
theorem a982 (h:A:=by
 clear h1;refine ay (by kernel_rfl) (by kernel_rfl) ?_;repeat go_big_quiet_step (fail)
 refine wpQuiet_nil ?_;rintro ⟨w4,hb3⟩;change Exit.then _ _ _ _ w4;have oD:=Hi (qZ.out.later hb3);clear hb3 qZ;have HA:=Hi (oD.out.done (t:=[]) (b:=false) (er:=8));clear r Wi;go_wp2_with fail;go_ret3;exact HA.out):A:=h
theorem Yg (h:A:=by
 have:=xO (nA.out.later x.below).own (nA.out.later x.below).core.maps e4 (List.mem_map.2 ⟨m,HM.out,by rw [Ez.out]⟩) true
 simp only [if_true,←Ez.out] at this ⊢
 exact this):A:=h
theorem aaq (h:A:=by
 obtain ⟨DP,hop,Iy⟩:=((qZ.out.later x.below).core.msgs m HM.out).parts;rw [HI.out];exact EA hop Iy (by omega) Iz.out.keys):A:=h
theorem Xp (h:A:=by rw [←ox.out];exact HTW.out):A:=h
theorem ZU (h:A:=by
 exact .inl (rj.out.sub _ (by simp [aJ]))):A:=h
theorem Y6 (h:A:=by
 go_wp2_with fail;go_ret3;obtain ⟨S',h1,h2⟩:=HEND.out;rw [←HR.out];exact ⟨rfl,S',h1,h2,HT8.out⟩):A:=h
namespace Go.Proofs.N0
open Go.RowKit Go.Maps Go.ChangeMaps
variable {key aF:Int}
section
variable {S:List Nat} {w0 W:World} {p n er:Nat} {st st':af.Store} {L:List (Nat×Obj)}
theorem SF.kg (h:SF S w0 W p st L) (hc:af.Int64 key) (hf:af.bV st key 1=(st',n,er)):Calls Tryz.prog 74 #[.agg #[vI key,vI aF],vP p 0] W fun e w'=>e=.returned (.tuple #[vI n,vI er])∧SF S w0 w' p st' L:=by have F0:=Hi (h.alloc (cl #[vI key,vI aF] 174));have CD:=Hi (F0.out.derive hc aG hf);have r:=rl F0.out.mem.rules;clear h hc hf;go_enter Tryz.func74,Tryz.ntmps74;go_wp2_with fail;clear r;refine CD.out.mono ?_;rintro e w1 ⟨rfl,h1⟩;have F1:=Hi h1;clear h1 CD F0;go_wp2_with fail;go_ret2;exact ⟨rfl,F1.out.sub (zq _ _)⟩
theorem SF.J2 (h:SF S w0 W p st L) (he:aF<0∨1000≤aF):Calls Tryz.prog 109 #[.agg #[vI key,vI aF],vP p 0] W fun e w'=>e=.returned (.tuple #[.agg #[vI 0,vI 0],vI 13])∧SF S w0 w' p st L:=by
 have F0:=Hi ((h.alloc (cl #[vI key,vI aF] 174)).alloc (cl #[vI 0,vI 0] 174));simp only [World.size_alloc] at F0;have r:=rl F0.out.mem.rules;by_cases h1:aF<0
 ·exact a993
 ·have h2:1000≤aF:=ax;exact a993
theorem SF.Ol (h:SF S w0 W p st L) (he:¬(aF<0∨1000≤aF)) (hc:af.Int64 key) (hf:af.bV st key 2=(st',n,0)):Calls Tryz.prog 109 #[.agg #[vI key,vI aF],vP p 0] W fun e w'=>e=.returned (.tuple #[.agg #[vI n,vI (aF+1)],vI 0])∧SF S w0 w' p st' L:=by have F0:=Hi ((h.alloc (cl #[vI key,vI aF] 174)).alloc (cl #[vI 0,vI 0] 174));simp only [World.size_alloc] at F0;have r:=rl F0.out.mem.rules;have CD:=Hi (F0.out.derive hc aG hf);have h1:¬aF<0:=ax;have h2:¬1000≤aF:=ax;clear h he hc hf;go_enter Tryz.func109,Tryz.ntmps109;go_wp2_with fail;clear r;refine CD.out.mono ?_;rintro e w1 ⟨rfl,h1⟩;have Fn:=Hi h1;have r:=rl Fn.out.mem.rules;clear h1 CD F0;go_wp2_with fail;clear r;have Fy:=Hi (Fn.out.set 0 (vI (n)));have Fz:=Hi (Fy.out.set 1 (vI (aF+1)));simp only [aX,aY,jr] at Fy Fz;have ry:=rl Fy.out.mem.rules;have rz:=rl Fz.out.mem.rules;exact bodyPost_ret (v:=.tuple #[.agg #[vI (n),vI (aF+1)],vI 0]) c956 rfl ⟨rfl,Fz.out.sub ((zq _ _).trans (zq _ _))⟩
theorem SF.Om (h:SF S w0 W p st L) (he:¬(aF<0∨1000≤aF)) (hc:af.Int64 key) (hf:af.bV st key 2=(st',n,er)) (hz:er≠0):Calls Tryz.prog 109 #[.agg #[vI key,vI aF],vP p 0] W fun e w'=>e=.returned (.tuple #[.agg #[vI 0,vI 0],vI er])∧SF S w0 w' p st' L:=by have F0:=Hi ((h.alloc (cl #[vI key,vI aF] 174)).alloc (cl #[vI 0,vI 0] 174));simp only [World.size_alloc] at F0;have r:=rl F0.out.mem.rules;have CD:=Hi (F0.out.derive hc aG hf);have h1:¬aF<0:=ax;have h2:¬1000≤aF:=ax;have e1:((er:Int)==0)=false:=aR;have e2:(er==0)=false:=aR;have e3:((er:Int) != 0)=true:=aR;clear hz;clear h he hc hf;go_enter Tryz.func109,Tryz.ntmps109;go_wp2_with fail;clear r;refine CD.out.mono ?_;rintro e w1 ⟨rfl,h1⟩;have Fn:=Hi h1;have r:=rl Fn.out.mem.rules;clear h1 CD F0;go_wp2_with fail;clear r;have Fy:=Hi (Fn.out.set 0 (vI (0)));have Fz:=Hi (Fy.out.set 1 (vI (0)));simp only [aX,aY,jr] at Fy Fz;have ry:=rl Fy.out.mem.rules;have rz:=rl Fz.out.mem.rules;exact bodyPost_ret (v:=.tuple #[.agg #[vI (0),vI (0)],vI er]) c956 rfl ⟨rfl,Fz.out.sub ((zq _ _).trans (zq _ _))⟩
theorem SF.iu {c c':af.pO} (h:SF S w0 W p st L) (hc:af.Int64 c.key) (hf:af.iu st c=(st',c',er)):Calls Tryz.prog 109 #[.agg #[vI c.key,vI c.aF],vP p 0] W fun e w'=>e=.returned (.tuple #[.agg #[vI c'.key,vI c'.aF],vI er])∧SF S w0 w' p st' L:=by
 unfold af.iu at hf;by_cases he:c.aF<0∨1000≤c.aF
 ·rw [if_pos he] at hf;obtain ⟨rfl,rfl,rfl⟩:st=st'∧af.Dy=c'∧13=er:=xZ;exact h.J2 he
 ·rw [if_neg he] at hf;obtain ⟨s1,n1,e1,hk⟩:∃ s1 n1 e1,af.bV st c.key 2=(s1,n1,e1):=⟨_,_,_,rfl⟩
  rw [hk] at hf;by_cases hz:e1=0
  ·subst hz;simp only [ne_eq,not_true_eq_false,if_false] at hf;obtain ⟨rfl,rfl,rfl⟩:s1=st'∧(⟨n1,c.aF+1⟩:af.pO)=c'∧0=er:=xZ;exact h.Ol he hc hk
  ·simp only [ne_eq,hz,not_false_eq_true,if_true] at hf;obtain ⟨rfl,rfl,rfl⟩:s1=st'∧af.Dy=c'∧e1=er:=xZ;exact h.Om he hc hk hz
end
end Go.Proofs.N0
namespace Go.Proofs.N0
open Go.RowKit Go.Maps Go.ChangeMaps
section
variable {S:List Nat} {w0 W:World} {p m er n:Nat} {st st':af.Store} {L:List (Nat×Obj)} {key beside EB:Int} {s:List UInt8}
theorem SF.aText (h:SF S w0 W p st L) (hk:af.Int64 key) (hb:af.Int64 beside) (hn:n<18446744073709551616) (hs:s.length≤9223372036854775807) (hf:af.om st key n beside s=(st',m,er)) :
 Calls Tryz.prog 75 #[vP p 0,vI key,vU n,vI beside,vS s] W fun e w'=>e=.returned (.tuple #[vI m,vI er])∧SF S w0 w' p st' L:=by
 have F0:=Hi h
 unfold af.om at hf
 by_cases h1:st.has key=false
 ·rw [if_pos (.inl h1)] at hf;obtain ⟨rfl,rfl,rfl⟩:st=st'∧0=m∧1=er:=xZ;have C1:=Hi (F0.out.Lj h1);clear h hf hk hb hn hs h1;go_enter Tryz.func75,Tryz.ntmps75;exact YN
 have h1':st.has key=true:=ML
 have C1:=Hi (F0.out.Lj h1')
 by_cases h2:st.has beside=false
 ·rw [if_pos (.inr h2)] at hf;obtain ⟨rfl,rfl,rfl⟩:st=st'∧0=m∧1=er:=xZ;have H2:=Hi h2;clear h hf hk hb hn hs h1 h1' h2;go_enter Tryz.func75,Tryz.ntmps75;go_wp2_with fail;refine C1.out.mono ?_;rintro e w1 ⟨rfl,g⟩;have C2:=Hi (g.Lj H2.out);clear g C1 F0;go_wp2_with fail;refine C2.out.mono ?_;rintro e w2 ⟨rfl,g⟩;have F2:=Hi g;clear g C2;go_wp2_with fail;go_ret2;exact ⟨rfl,F2.out⟩
 have h2':st.has beside=true:=V9
 rw [if_neg (by rw [h1',h2'];simp)] at hf
 have H2:=Hi h2'
 obtain ⟨HK,HB,HN,HS⟩:=hi4 hk hb hn hs
 obtain ⟨s1,n1,Ct,hp⟩:∃ s1 n1 Ct,st.aZ s=(s1,n1,Ct):=⟨_,_,_,rfl⟩
 rw [hp] at hf
 have HP:=Hi hp
 have Xq:Hid (af.Int64 (n1:Int)):=Hi (by have:=af.cY h.ok ⟨1,s,0,0,0,0⟩;unfold af.Store.aZ at hp;rw [hp] at this;exact ⟨by omega,by simp only at this;omega⟩)
 clear h h1 h1' h2 h2' hk hb hn hs hp
 by_cases hz:Ct=0
 ·subst hz;simp only [ne_eq,not_true_eq_false,if_false] at hf;have HF:=Hi hf;clear hf;go_enter Tryz.func75,Tryz.ntmps75;go_wp2_with fail;refine C1.out.mono ?_;rintro e w1 ⟨rfl,g⟩;have C2:=Hi (g.Lj H2.out);clear g C1 F0;go_wp2_with fail;refine C2.out.mono ?_;rintro e w2 ⟨rfl,g⟩;have C3:=Hi (g.put (t:=⟨1,s,0,0,0,0⟩) (Ir ax HS.out aG ⟨aG,aG⟩ ⟨aG,aG⟩ ⟨aG,aG⟩) HP.out);clear g C2;go_wp2_with fail;refine C3.out.mono ?_;rintro e w3 ⟨rfl,g⟩;have C4:=Hi (g.Zf HK.out HB.out Xq.out HN.out HF.out);clear g C3;go_wp2_with fail;refine C4.out.mono ?_;rintro e w4 ⟨rfl,g⟩;have F4:=Hi g;clear g C4;go_wp2_with fail;go_ret2;exact ⟨rfl,F4.out⟩
 ·simp only [ne_eq,hz,not_false_eq_true,if_true] at hf;obtain ⟨rfl,rfl,rfl⟩:s1=st'∧0=m∧Ct=er:=xZ;have e1:((Ct:Int)==0)=false:=aR;have e2:(Ct==0)=false:=aR;have e3:((Ct:Int) != 0)=true:=aR;clear hf hz;go_enter Tryz.func75,Tryz.ntmps75;go_wp2_with fail;refine C1.out.mono ?_;rintro e w1 ⟨rfl,g⟩;have C2:=Hi (g.Lj H2.out);clear g C1 F0;go_wp2_with fail;refine C2.out.mono ?_;rintro e w2 ⟨rfl,g⟩;have C3:=Hi (g.put (t:=⟨1,s,0,0,0,0⟩) (Ir ax HS.out aG ⟨aG,aG⟩ ⟨aG,aG⟩ ⟨aG,aG⟩) HP.out);clear g C2;go_wp2_with fail;refine C3.out.mono ?_;rintro e w3 ⟨rfl,g⟩;have F3:=Hi g;clear g C3;go_wp2_with fail;go_ret2;exact ⟨rfl,F3.out⟩
theorem SF.aRead (h:SF S w0 W p st L) (hf:af.oo st key n beside EB=(s,er)) :
 Calls Tryz.prog 153 #[vP p 0,vI key,vU n,vI beside,vI EB] W fun e w'=>e=.returned (.tuple #[vS s,vI er])∧SF S w0 w' p st L:=by
 have F0:=Hi h
 unfold af.oo at hf
 obtain ⟨x,Ct,hx⟩:∃ x Ct,af.fZ st key n beside EB=(x,Ct):=⟨_,_,rfl⟩
 rw [hx] at hf
 have C1:=Hi (F0.out.Zg hx)
 clear h hx
 by_cases hz:Ct=0
 ·subst hz;simp only [ne_eq,not_true_eq_false,if_false] at hf;obtain ⟨b,hb⟩:∃ b,st.has x=b:=⟨_,rfl⟩
  obtain ⟨⟨tk,ts,tn,ta,tb,tc⟩,ht⟩:∃ t,st.at x=t:=⟨_,rfl⟩
  rw [ht] at hf;obtain ⟨HB,HT⟩:=hi2 hb ht;clear hb ht;simp only at hf;by_cases hk:tk=1
  ·subst hk;simp only [ne_eq,not_true_eq_false,if_false] at hf;obtain ⟨rfl,rfl⟩:ts=s∧0=er:=xZ;clear hf;go_enter Tryz.func153,Tryz.ntmps153;go_wp2_with fail;refine C1.out.mono ?_;rintro e w1 ⟨rfl,g⟩;have C2:=Hi (g.kB HT.out HB.out);clear g C1 F0;go_wp2_with fail;refine C2.out.mono ?_;rintro e w2 ⟨rfl,g⟩;have F2:=Hi (g.alloc (cl #[vI 1,vS ts,vU tn,vI ta,vI tb,vI tc] 95));exact Zp
  ·simp only [ne_eq,hk,not_false_eq_true,if_true] at hf;obtain ⟨rfl,rfl⟩:[]=s∧9=er:=xZ;have b1:(tk != 1)=true:=ow;clear hf hk;go_enter Tryz.func153,Tryz.ntmps153;go_wp2_with fail;refine C1.out.mono ?_;rintro e w1 ⟨rfl,g⟩;have C2:=Hi (g.kB HT.out HB.out);clear g C1 F0;go_wp2_with fail;refine C2.out.mono ?_;rintro e w2 ⟨rfl,g⟩;have F2:=Hi (g.alloc (cl #[vI tk,vS ts,vU tn,vI ta,vI tb,vI tc] 95));exact Zp
 ·simp only [ne_eq,hz,not_false_eq_true,if_true] at hf;obtain ⟨rfl,rfl⟩:[]=s∧Ct=er:=xZ;have e1:((Ct:Int)==0)=false:=aR;have e2:(Ct==0)=false:=aR;have e3:((Ct:Int) != 0)=true:=aR;clear hf hz;go_enter Tryz.func153,Tryz.ntmps153;exact YN
end
end Go.Proofs.N0
namespace Go.Proofs.N0
open Go.RowKit Go.Maps Go.ChangeMaps
variable {bits n k:Nat} {w:af.tv}
theorem Oo {next:Nat} (h:next≤n) (hn:n<18446744073709551616) (W:World):Calls Tryz.prog 184 #[.agg #[vU next,vU bits],vU n] W fun e w'=>e=.returned (vU 0)∧Below W.heap.size W w':=by have HB:=Hi ((Below.refl W.heap.size W).alloc (cC _) (cl #[vU next,vU bits] 180));have d:decide ((next:Int)≤(n:Int))=true:=aR;go_enter Tryz.func184,Tryz.ntmps184;exact Kk
theorem Oq {next:Nat} (h:n<next) (h2:64≤next - 1 - n) (hn:next<18446744073709551616) (W:World):Calls Tryz.prog 184 #[.agg #[vU next,vU bits],vU n] W fun e w'=>e=.returned (vU 0)∧Below W.heap.size W w':=by have HB:=Hi ((Below.refl W.heap.size W).alloc (cC _) (cl #[vU next,vU bits] 180));have d:decide ((next:Int)≤(n:Int))=false:=aR;have d2:decide ((64:Int)≤(next:Int) - 1 - (n:Int))=true:=aR;go_enter Tryz.func184,Tryz.ntmps184;exact Kk
theorem S5 {next:Nat} (h:n<next) (hk:k=next - 1 - n) (h2:k<64) (hn:next<18446744073709551616) (W:World):Calls Tryz.prog 184 #[.agg #[vU next,vU bits],vU n] W fun e w'=>e=.returned (vU ((2^k:Nat):Int))∧Below W.heap.size W w':=by
 have HB:=Hi ((Below.refl W.heap.size W).alloc (cC _) (cl #[vU next,vU bits] 180));have d:decide ((next:Int)≤(n:Int))=false:=aR;have d2:decide ((64:Int)≤(next:Int) - 1 - (n:Int))=false:=aR;have hki:(next:Int) - 1 - (n:Int)=(k:Int):=ax;clear hk;go_enter Tryz.func184,Tryz.ntmps184;go_wp2_with fail;go_ret;refine ⟨?_,HB.out⟩;have h64:2^k<18446744073709551616:=Nat.lt_of_lt_of_le (Nat.pow_lt_pow_right aG h2) aG;have:IntKind.u64.wrap (2^k)=((2^k:Nat):Int):=by rw [show ((2:Int)^k)=((2^k:Nat):Int) by push_cast;rfl];exact u64_wrap_id _ (Ao _) (Int.ofNat_lt.2 h64)
 simp [this]
theorem Ot {d:Nat} (hw:w.Wf) (hn:n<18446744073709551616) (hd:w.digit n=d) (W:World):Calls Tryz.prog 184 #[.agg #[vU w.next,vU w.bits],vU n] W fun e w'=>e=.returned (vU d)∧Below W.heap.size W w':=by
 unfold af.tv.digit at hd;by_cases h1:w.next≤n
 ·rw [if_pos (.inl h1)] at hd;subst hd;exact Oo h1 hn W
 ·by_cases h2:64≤w.next - 1 - n
  ·rw [if_pos (.inr h2)] at hd;subst hd;exact Oq ax h2 hw.next W
  ·rw [if_neg ax] at hd;subst hd;exact S5 ax rfl ax hw.next W
theorem LV {b:Bool} (hw:w.Wf) (hn:n<18446744073709551616) (hb:w.can n=b) (W:World):Calls Tryz.prog 183 #[.agg #[vU w.next,vU w.bits],vU n] W fun e w'=>e=.returned (.bool b)∧Below W.heap.size W w':=by
 have HB:=Hi ((Below.refl W.heap.size W).alloc (cC _) (cl #[vU w.next,vU w.bits] 180));obtain ⟨d,hd⟩:∃ d,w.digit n=d:=⟨_,rfl⟩
 have CD:=Hi (fun W=>Ot hw hn hd W);have EG:Tryz.prog.eqGuardType Tryz.prog.depth 180=false:=aI;unfold af.tv.can at hb;rw [hd] at hb;have HD64:Hid (d<18446744073709551616):=Hi (by
  rw [←hd];unfold af.tv.digit;split
  ·decide
  ·rename_i h;exact Nat.lt_of_lt_of_le (Nat.pow_lt_pow_right aG (show w.next - 1 - n<64 by omega)) aG)
 obtain ⟨next,lB⟩:=w;have hw1:=hw.next;have hw2:=hw.bits;simp only at hw1 hw2 HB CD ⊢;clear hw hd;by_cases h1:n=18446744073709551615
 ·rw [if_pos h1] at hb;subst hb;have b1:((n:Int)==18446744073709551615)=true:=aR;exact ZT
 ·rw [if_neg h1] at hb;have b1:((n:Int)==18446744073709551615)=false:=aR;by_cases h2:next=0∧lB=0
  ·obtain ⟨rfl,rfl⟩:=h2;rw [if_pos (.inl rfl)] at hb;subst hb;exact ZT
  ·by_cases h3:next≤n
   ·rw [if_pos (.inr h3)] at hb;subst hb;have b3:decide ((next:Int)≤(n:Int))=true:=aR;by_cases h4:next=0
    ·subst h4;have b4:((lB:Int)==0)=false:=aR;clear h2;exact ZT
    ·have b4:((next:Int)==0)=false:=aR;clear h2 h4;exact ZT
   ·rw [if_neg (by rintro (h|h);exact h2 (by simpa [af.yU] using h);exact h3 h)] at hb;have b3:decide ((next:Int)≤(n:Int))=false:=aR;have b4:((next:Int)==0)=false:=aR;clear h2;by_cases h5:d=0
    ·subst h5;obtain rfl:b=false:=by rw [←hb];simp
     clear hb;go_enter Tryz.func183,Tryz.ntmps183;go_wp2_with fail;refine (CD.out _).mono ?_;rintro e w1 ⟨rfl,hb1⟩;have lO:=Hi (HB.out.trans (hb1.mono HB.out.size));clear hb1 CD;exact YL
    ·have b5:((d:Int) != 0)=true:=aR;have hd64:d<18446744073709551616:=HD64.out;have b7:(bits BinOp.and IntKind.u64 (lB:Int) d==0)=b:=by
      rw [bits_and_u64_nat _ _ hw2 hd64,←hb];obtain ⟨v,hv⟩:∃ v,v=lB &&& d:=⟨_,rfl⟩
      simp only [←hv];have:decide (d≠0)=true:=by simpa using h5
      rw [this,DK];by_cases hz:v=0
      ·subst hz;rfl
      ·rw [decide_eq_false hz];simp;omega
     clear hb hw2 hd64;have z:=rl (fun x:Later (W.alloc (cl #[vU next,vU lB] 180))=>Mem.rules (((Mem.start W).alloc (cl #[vU next,vU lB] 180)).later x.below));go_enter Tryz.func183,Tryz.ntmps183;go_wp2_with fail;refine (CD.out _).mono ?_;rintro e w1 ⟨rfl,hb1⟩;have lO:=Hi (HB.out.trans (hb1.mono HB.out.size));have zz:=z ⟨w1,hb1⟩;dsimp only at zz;clear hb1 CD z;exact YL
theorem GN {w W:World} {L:List (Nat×Obj)} {a b x y:Value} {T:TypeId} (h:Mem w ((k,.cells #[a,b] T (0,0))::L) W) (hk:w.heap.size≤k) (hL:∀ p∈L,p.1≠k):Mem w ((k,.cells #[x,y] T (0,0))::L) ((W.setCell ⟨k,0,none⟩ x).setCell ⟨k,1,none⟩ y) :=
 (h.set hk hL 0 x).set hk hL 1 y
theorem S6 (hw:w.Wf) (hn:n<18446744073709551615) (hb:w.can n=false) (W:World):Calls Tryz.prog 171 #[.agg #[vU w.next,vU w.bits],vU n] W fun e w'=>e=.returned (.tuple #[.agg #[vU 0,vU 0],vI 12])∧Below W.heap.size W w':=by have CC:=Hi (fun W=>LV hw ax hb W);obtain ⟨next,lB⟩:=w;have b1:((n:Int)==18446744073709551615)=false:=aR;have M:=Hi (((Mem.start W).alloc (cl #[vU next,vU lB] 180)).alloc (cl #[vU 0,vU 0] 180));simp only [World.size_alloc] at M;have z:=rl M.out.rules;clear hw hb hn;go_enter Tryz.func171,Tryz.ntmps171;go_wp2_with fail;refine (CC.out _).mono ?_;rintro e w1 ⟨rfl,hb1⟩;have M1:=Hi (M.out.later hb1);have zz:=rl M1.out.rules;clear hb1 CC z;go_wp2_with fail;have M2:=GN M1.out (x:=vU 0) (y:=vU 0) ax aH;have g:=M2.get 0 rfl;exact bodyPost_ret (v:=.tuple #[.agg #[vU 0,vU 0],vI 12]) (by simp [results,Tryz.results171,go_sem,World.cell?,g]) rfl ⟨rfl,M2.dZ⟩
theorem S7 {b':Nat} (hw:w.Wf) (hn:n<18446744073709551615) (hnx:w.next≤n) (hk:k=n+1 - w.next) (hk2:k<64) (hb':((w.bits <<< k) % 18446744073709551616) ||| 1=b') (W:World):Calls Tryz.prog 171 #[.agg #[vU w.next,vU w.bits],vU n] W fun e w'=>e=.returned (.tuple #[.agg #[vU ((n+1:Nat):Int),vU b'],vI 0])∧Below W.heap.size W w':=by
 have hb:w.can n=true:=by unfold af.tv.can;rw [if_neg (by omega),if_pos (.inr hnx)]
 have CC:=Hi (fun W=>LV hw ax hb W);obtain ⟨next,lB⟩:=w;have b1:((n:Int)==18446744073709551615)=false:=aR;have M:=Hi (((Mem.start W).alloc (cl #[vU next,vU lB] 180)).alloc (cl #[vU 0,vU 0] 180));simp only [World.size_alloc] at M;have z:=rl M.out.rules;simp only at hnx hk hb';have b3:decide ((n:Int)<(next:Int))=false:=aR;have hki:(n:Int)+1 - (next:Int)=(k:Int):=ax;have RS:bits BinOp.or IntKind.u64 (IntKind.u64.wrap ((lB:Int)*2^k)) 1=(b':Int):=by
  have hw1:IntKind.u64.wrap ((lB:Int)*2^k)=((lB*2^k % 18446744073709551616:Nat):Int):=by rw [show (lB:Int)*2^k=((lB*2^k:Nat):Int) by push_cast;rfl];generalize lB*2^k=v;simp [IntKind.wrap,IntKind.bits,IntKind.signed]
  rw [hw1,show (1:Int)=((1:Nat):Int) from rfl,bits_or_u64_nat _ _ (Nat.mod_lt _ aG) aG,←hb',Nat.shiftLeft_eq]
 clear hw hb hk hb';go_enter Tryz.func171,Tryz.ntmps171;go_wp2_with fail;refine (CC.out _).mono ?_;rintro e w1 ⟨rfl,hb1⟩;have M1:=Hi (M.out.later hb1);have zz:=rl M1.out.rules;clear hb1 CC z;go_wp2_with fail;have M2:=GN M1.out (x:=vU ((n:Int)+1)) (y:=vU b') ax aH;have g:=M2.get 0 rfl;exact bodyPost_ret (v:=.tuple #[.agg #[vU ((n+1:Nat):Int),vU b'],vI 0]) (by simp [results,Tryz.results171,go_sem,World.cell?,g]) rfl ⟨rfl,M2.dZ⟩
end Go.Proofs.N0
namespace Go.Proofs.N0
open Go.RowKit Go.Maps Go.ChangeMaps
variable {y:af.dm} {c:af.pO}
def dV (p:Nat) (y:af.dm) (ov:Value):Array Value:=(DC y ov p)
section
variable {S:List Nat} {w0 W:World} {p m er n b:Nat} {st st':af.Store} {L:List (Nat×Obj)} {R:List aW} {ov:Value}
theorem SF.sNext {key aF sent:Int} {c':af.pO} (h:SF S w0 W p st L) (hc:af.Int64 key) (hf:af.iu st ⟨key,aF⟩=(st',c',er)):Calls Tryz.prog 73 #[.agg #[vI key,vI aF,vI sent],vP p 0] W fun e w'=>e=.returned (.tuple #[.agg #[vI c'.key,vI c'.aF,vI 0],vI er])∧SF S w0 w' p st' L:=by have F0:=Hi ((h.alloc (cl #[vI key,vI aF,vI sent] 176)).alloc (cl #[vI 0,vI 0,vI 0] 176));simp only [World.size_alloc] at F0;have r:=rl F0.out.mem.rules;have CN:=Hi (F0.out.iu (c:=⟨key,aF⟩) hc hf);clear h hc hf;go_enter Tryz.func73,Tryz.ntmps73;go_wp2_with fail;clear r;refine CN.out.mono ?_;rintro e w1 ⟨rfl,g⟩;have F1:=Hi (g.alloc (cl #[vI c'.key,vI c'.aF] 174));have F2:=Hi g;clear g CN F0;have r:=rl F1.out.mem.rules;have r2:=rl F2.out.mem.rules;go_wp2_with fail;clear r r2;have Fx:=Hi (F1.out.DV 0 (vI c'.key));have Fy:=Hi (Fx.out.DV 1 (vI c'.aF));have Fz:=Hi (Fy.out.DV 2 (vI 0));simp only [aX,aY,jr] at Fx Fy Fz;have rx:=rl Fx.out.mem.rules;have ry:=rl Fy.out.mem.rules;have rz:=rl Fz.out.mem.rules;exact bodyPost_ret (v:=.tuple #[.agg #[vI c'.key,vI c'.aF,vI 0],vI er]) (by simp [results,Tryz.results73,go_sem,rx,ry,rz]) rfl ⟨rfl,Fz.out.sub ((zq _ _).trans ((zq _ _).trans (zq _ _)))⟩
theorem yE (h:NF S w0 W (ah p st::R) ((b,cl (dV p y ov) 187)::L)) (hc:af.Int64 y.out.key) (hf:af.iu st y.out=(st',c,0)):Calls Tryz.prog 32 #[vP b 0] W fun e w'=>e=.returned (vI 0)∧NF S w0 w' (ah p st'::R) ((b,cl (dV p {y with out:=c,sent:=0} ov) 187)::L):=by
 unfold dV at h;have F0:=Hi h;obtain ⟨HC,HF⟩:=hi2 hc hf;clear h hc hf;go_enter Tryz.func32,Tryz.ntmps32;go_wp2_with fail;refine sk (n:=24) [8,13] [12] (tb [vP b 0,vP b 0,vP b 0,some (.agg #[vI y.out.key,vI y.out.aF,vI y.sent]),vP b 0,vP b 0,vP b 8,vP p 0,some (.tuple #[.agg #[vI c.key,vI c.aF,vI 0],vI 0]),some (.tuple #[.agg #[vI c.key,vI c.aF,vI 0],vI 0]),some (.agg #[vI c.key,vI c.aF,vI 0]),vI 0,none,none,vI 0]) [(b,cl (DC y ov p) 187)] (L) [([(12,cl #[vI 0,vI 0,vI 0] 176)],ah p st::R,[]),
  ([(12,cl #[vI 0,vI 0,vI 0] 176)],ah p st'::R,[]),
  ([(12,cl #[vI c.key,vI c.aF,vI 0] 176)],ah p st'::R,[])] (F0.out) ⟨sP,sP,sP,sP,sP,sP,sP,sP,?_,sP,sP,sP,sA 1 (cl #[vI 0,vI 0,vI 0] 176),?_,sP,trivial⟩ ?_
 ·exact QL
 ·exact OJ
 ·intro v qq x hF hA h;simp only [SA,SC] at hA h;generalize qq 12=q12 at hA h;have F1:=Hi h;simp only [PU,bF,Nat.reduceAdd,gT hF 14,hA];clear hF hA h;have r:=rl F1.out.mem.rules;go_wp2_with fail;clear r;exact bodyPost_ret (v:=vI 0) (by simp [results,Tryz.results32,go_sem]) rfl ⟨rfl,(((F1.out.sub (zq _ _)).set 0 (vI c.key)).set 1 (vI c.aF)).set 2 (vI 0)⟩
theorem Xr (h:NF S w0 W (ah p st::R) ((b,cl (dV p y ov) 187)::L)) (hc:af.Int64 y.out.key) (hz:er≠0) (hf:af.iu st y.out=(st',c,er)):Calls Tryz.prog 32 #[vP b 0] W fun e w'=>e=.returned (vI er)∧NF S w0 w' (ah p st'::R) ((b,cl (dV p y ov) 187)::L):=by
 unfold dV at h;have F0:=Hi h;obtain ⟨HC,HF⟩:=hi2 hc hf;clear h hc hf;have e1:((er:Int)==0)=false:=aR;have e2:(er==0)=false:=aR;have e3:((er:Int) != 0)=true:=aR;clear hz;go_enter Tryz.func32,Tryz.ntmps32;go_wp2_with fail;refine sk (n:=24) [8,13] [12] (tb [vP b 0,vP b 0,vP b 0,some (.agg #[vI y.out.key,vI y.out.aF,vI y.sent]),vP b 0,vP b 0,vP b 8,vP p 0,some (.tuple #[.agg #[vI c.key,vI c.aF,vI 0],vI er]),some (.tuple #[.agg #[vI c.key,vI c.aF,vI 0],vI er]),some (.agg #[vI c.key,vI c.aF,vI 0]),vI er,none,none,vI er]) [(b,cl (DC y ov p) 187)] (L) [([(12,cl #[vI 0,vI 0,vI 0] 176)],ah p st::R,[]),
  ([(12,cl #[vI 0,vI 0,vI 0] 176)],ah p st'::R,[]),
  ([(12,cl #[vI c.key,vI c.aF,vI 0] 176)],ah p st'::R,[])] (F0.out) ⟨sP,sP,sP,sP,sP,sP,sP,sP,?_,sP,sP,sP,sA 1 (cl #[vI 0,vI 0,vI 0] 176),?_,sP,trivial⟩ ?_
 ·exact QL
 ·exact OJ
 ·intro v qq x hF hA h;simp only [SA,SC] at hA h;generalize qq 12=q12 at hA h;have F1:=Hi h;simp only [PU,bF,Nat.reduceAdd,gT hF 14,hA];clear hF hA h;have r:=rl F1.out.mem.rules;go_wp2_with fail;clear r;exact bodyPost_ret (v:=vI er) (by simp [results,Tryz.results32,go_sem]) rfl ⟨rfl,F1.out.sub (zq _ _)⟩
theorem NF.step {y2:af.dm} (h:NF S w0 W (ah p st::R) ((b,cl (dV p y ov) 187)::L)) (hc:af.Int64 y.out.key) (hf:af.Fh st y=(st',y2,er)):Calls Tryz.prog 32 #[vP b 0] W fun e w'=>e=.returned (vI er)∧NF S w0 w' (ah p st'::R) ((b,cl (dV p y2 ov) 187)::L):=by
 unfold af.Fh at hf;obtain ⟨s1,c1,Ct,hk⟩:∃ s1 c1 Ct,af.iu st y.out=(s1,c1,Ct):=⟨_,_,_,rfl⟩
 rw [hk] at hf;by_cases hz:Ct=0
 ·subst hz;simp only [ne_eq,not_true_eq_false,if_false] at hf;obtain ⟨rfl,rfl,rfl⟩:s1=st'∧{ y with out:=c1,sent:=0}=y2∧0=er:=xZ;exact yE h hc hk
 ·simp only [ne_eq,hz,not_false_eq_true,if_true] at hf;obtain ⟨rfl,rfl,rfl⟩:s1=st'∧y=y2∧Ct=er:=xZ;exact Xr h hc hz hk
theorem Xt {k c:Nat} {bO nu:af.Store} {s:List UInt8} (h:NF S w0 W (ah p st::R) ((b,cl (dV p y ov) 187)::L)) (hc:af.Int64 y.out.key) (hb:af.Int64 y.x.h) (hm:y.sent=(m:Int)) (hm2:m<256) (hs:s.length≤1000) (hf:af.kg st y.out=(bO,k,0)) (ha:af.om bO k m y.x.h s=(nu,c,0)):Calls Tryz.prog 33 #[vP b 0,vS s] W fun e w'=>e=.returned (.tuple #[vI y.out.aF,vI m,vI c,vI 0])∧NF S w0 w' (ah p nu::R) ((b,cl (dV p {y with sent:=y.sent+1} ov) 187)::L):=by
 unfold dV at h ⊢;first|simp only [DC,vN] at h ⊢|simp only at h ⊢
 rw [hm] at h ⊢;have F:=Hi h;have F0:=Hi (h.alloc (cl #[vI y.out.key,vI y.out.aF,vI m] 176));obtain ⟨HC,HF,HB,HA⟩:=hi4 hc hf hb ha;have HM:Hid (m<18446744073709551616):=Hi ax;have HS:Hid (s.length≤9223372036854775807):=Hi ax;have HK:Hid (af.Int64 (k:Int)):=Hi (by have:=af.cY h.okS ⟨9,[],1,y.out.key,0,0⟩;unfold af.kg af.bV at hf;rw [hf] at this;exact ⟨by omega,by simp only at this;omega⟩);have HW:Hid (IntKind.u64.wrap (m:Int)=m):=Hi (u64_wrap_id _ (Ao _) ax);have e1:(((s.length:Nat):Int)>1000)=False:=aR;have e2:((m:Int)≥256)=False:=aR;clear h hc hf hb hm ha;have r0:=rl F.out.mem.rules;have r:=rl F0.out.mem.rules;go_enter Tryz.func33,Tryz.ntmps33;go_wp2_with fail;clear r;refine sk (n:=84) [6] [] (tb [vP W.heap.size 0,some (.agg #[vI y.out.key,vI y.out.aF]),vP b 0,vP b 0,vP b 8,vP p 0,some (.tuple #[vI k,vI 0]),some (.tuple #[vI k,vI 0]),vI k,vI 0,vI k,vI 0]) [(W.heap.size,cl #[vI y.out.key,vI y.out.aF,vI m] 176),(b,cl #[vI y.out.key,vI y.out.aF,vI m,vI y.fX.key,vI y.fX.aF,vU y.w.next,vU y.w.bits,ov,vP p 0,vI y.x.h,vI y.x.send,vI y.x.recv,vI y.x.version] 187)] (L) [([],ah p st::R,[]),
  ([],ah p bO::R,[])] (F0.out) ⟨sP,sP,sP,sP,sP,sP,?_,sP,sP,sP,sP,sP,trivial⟩ ?_
 ·refine wC ?_;intro D v qq x h0;exact mo (h0.gL fun S1 hs=>hs.kg HC.out HF.out)
 ·intro v qq x hF hA h;simp only [SC] at h;have F2:=Hi h;simp only [PU,bF,Nat.reduceAdd,gT hF 10,gT hF 11];clear hF hA h;have r:=rl F2.out.mem.rules;go_wp2_with fail;clear r;refine sk (n:=84) [14] [] (tb [vP b 0,vP b 0,vP b 8,vP p 0,vI k,vP W.heap.size 2,vI m,vU m,vP b 0,vP b 0,vP b 9,vP b 9,vI y.x.h,vS s,some (.tuple #[vI c,vI 0]),some (.tuple #[vI c,vI 0]),vI c,vI 0,vI c,vI 0]) [(W.heap.size,cl #[vI y.out.key,vI y.out.aF,vI m] 176),(b,cl #[vI y.out.key,vI y.out.aF,vI m,vI y.fX.key,vI y.fX.aF,vU y.w.next,vU y.w.bits,ov,vP p 0,vI y.x.h,vI y.x.send,vI y.x.recv,vI y.x.version] 187)] (L) [([],ah p bO::R,[]),
   ([],ah p nu::R,[])] (F2.out) ⟨sP,sP,sP,sP,sP,sP,sP,sP,sP,sP,sP,sP,sP,sP,?_,sP,sP,sP,sP,sP,trivial⟩ ?_
  ·refine wC ?_;intro D v qq x h0;exact mo (h0.gL fun S1 hs=>hs.aText HK.out HB.out HM.out HS.out HA.out)
  ·intro v qq x hF hA h;simp only [SC] at h;have F3:=Hi h;simp only [PU,bF,Nat.reduceAdd,gT hF 18,gT hF 19];clear hF hA h;have r:=rl F3.out.mem.rules;have VB:IntKind.i64.wrap ((m:Int)+1)=(m:Int)+1:=IntWalk.i64_in _ ax;have Fx:=Hi (F3.out.set 2 (vI ((m:Int)+1)));have Fy:=Hi ((((Fx.out.ai (B:=[_]) 0 (vI y.out.key))).ai (B:=[_]) 1 (vI y.out.aF)).ai (B:=[_]) 2 (vI ((m:Int)+1)));simp only [aX,aY,jr,bQ,bG] at Fx Fy;have rx:=rl Fx.out.mem.rules;have ry:=rl Fy.out.mem.rules;go_wp2_with fail;exact bodyPost_ret (v:=.tuple #[vI y.out.aF,vI m,vI c,vI 0]) (by simp [results,Tryz.results33,go_sem]) rfl ⟨rfl,Fy.out.sub (zq _ _)⟩
end
end Go.Proofs.N0
namespace Go.Proofs.N0
open Go.RowKit Go.Maps Go.ChangeMaps
variable {key aF c:Int} {nx bits m ol oc:Nat} {y:af.dm}
section
variable {S:List Nat} {w0 W:World} {p m er n b:Nat} {st st':af.Store} {L:List (Nat×Obj)} {R:List aW} {ov:Value}
theorem SF.Xu {b':Nat} {oq:Option Addr} (h:SF S w0 W p st L) (hw:af.tv.Wf ⟨nx,bits⟩) (hm:m<256) (hnx:nx≤m) (hk:m+1 - nx<64) (hb':((bits <<< (m+1 - nx)) % 18446744073709551616) ||| 1=b') (hc:af.Int64 key) (hf:af.kg st ⟨key,aF⟩=(st',n,er)):Calls Tryz.prog 150 #[.agg #[vI key,vI aF,vU nx,vU bits,.slice oq ol oc],vP p 0,vI m] W fun e w'=>e=.returned (.tuple #[.agg #[vI key,vI aF,vU ((m:Int)+1),vU b',.slice oq ol oc],vI n,vI er])∧SF S w0 w' p st' L:=by have F0:=Hi ((h.alloc (cl #[vI key,vI aF,vU nx,vU bits,.slice oq ol oc] 185)).alloc (cl #[vI 0,vI 0,vU 0,vU 0,.slice none 0 0] 185));simp only [World.size_alloc] at F0;have HW:IntKind.u64.wrap (m:Int)=m:=u64_wrap_id _ (Ao _) ax;obtain ⟨HC,HF⟩:=hi2 hc hf;have T:=fun W=>Hi (S7 (w:=⟨nx,bits⟩) (n:=m) hw ax hnx rfl hk hb' W);clear h hc hf hw hnx hk hb';have r:=rl F0.out.mem.rules;go_enter Tryz.func150,Tryz.ntmps150;go_wp2_with fail;refine (T _).out.mono ?_;rintro e w1 ⟨rfl,hb1⟩;clear r T;have F1:=Hi ((F0.out.later hb1).alloc (cl #[vU ((m:Int)+1),vU b'] 180));have F2:=Hi ((F1.out.ai (A:=[_,_]) 2 (vU ((m:Int)+1))).ai (A:=[_,_]) 3 (vU b'));simp only [aX,aY,jr,bQ,bG] at F2;have CS:=Hi (F2.out.kg (aF:=aF) HC.out HF.out);have r1:=rl F0.out.mem.rules;have r2:=rl F1.out.mem.rules;have r3:=rl F2.out.mem.rules;go_wp2_with fail;refine CS.out.mono ?_;rintro e w2 ⟨rfl,g⟩;have F3:=Hi g;have F4:=Hi (((((g.ai (A:=[_]) 0 (vI key)).ai (A:=[_]) 1 (vI aF)).ai (A:=[_]) 2 (vU ((m:Int)+1))).ai (A:=[_]) 3 (vU b')).ai (A:=[_]) 4 (.slice oq ol oc));simp only [aX,aY,jr,bQ,bG] at F4;clear g CS r1 r2 r3 F0 F1 F2;have r1:=rl F3.out.mem.rules;have r2:=rl F4.out.mem.rules;go_wp2_with fail;exact bodyPost_ret (v:=.tuple #[.agg #[vI key,vI aF,vU ((m:Int)+1),vU b',.slice oq ol oc],vI n,vI er]) (by simp [results,Tryz.results150,go_sem,r2]) rfl ⟨rfl,F4.out.sub ((zq _ _).trans ((zq _ _).trans (zq _ _)))⟩
theorem SF.S8 {oq:Option Addr} (h:SF S w0 W p st L) (hw:af.tv.Wf ⟨nx,bits⟩) (hm:m<256) (hb':af.tv.can ⟨nx,bits⟩ m=false):Calls Tryz.prog 150 #[.agg #[vI key,vI aF,vU nx,vU bits,.slice oq ol oc],vP p 0,vI m] W fun e w'=>e=.returned (.tuple #[.agg #[vI key,vI aF,vU nx,vU bits,.slice oq ol oc],vI 0,vI 12])∧SF S w0 w' p st L:=by have F0:=Hi ((h.alloc (cl #[vI key,vI aF,vU nx,vU bits,.slice oq ol oc] 185)).alloc (cl #[vI 0,vI 0,vU 0,vU 0,.slice none 0 0] 185));simp only [World.size_alloc] at F0;have HW:IntKind.u64.wrap (m:Int)=m:=u64_wrap_id _ (Ao _) ax;have T:=fun W=>Hi (S6 (w:=⟨nx,bits⟩) (n:=m) hw ax hb' W);clear h hw hb';have r:=rl F0.out.mem.rules;go_enter Tryz.func150,Tryz.ntmps150;go_wp2_with fail;refine (T _).out.mono ?_;rintro e w1 ⟨rfl,hb1⟩;clear r T;have F1:=Hi ((F0.out.later hb1).alloc (cl #[vU 0,vU 0] 180));have F4:=Hi (((((F1.out.ai (A:=[_]) 0 (vI key)).ai (A:=[_]) 1 (vI aF)).ai (A:=[_]) 2 (vU nx)).ai (A:=[_]) 3 (vU bits)).ai (A:=[_]) 4 (.slice oq ol oc));simp only [aX,aY,jr,bQ,bG] at F4;have r2:=rl F1.out.mem.rules;have r4:=rl F4.out.mem.rules;go_wp2_with fail;exact bodyPost_ret (v:=.tuple #[.agg #[vI key,vI aF,vU nx,vU bits,.slice oq ol oc],vI 0,vI 12]) (by simp [results,Tryz.results150,go_sem,r4]) rfl ⟨rfl,F4.out.sub ((zq _ _).trans ((zq _ _).trans (zq _ _)))⟩
theorem Xv {k b2:Nat} {bO:af.Store} {s:List UInt8} {oq:Option Addr} (h:NF S w0 W (ah p st::R) ((b,cl (dV p y (.slice oq ol oc)) 187)::L)) (hc:af.Int64 y.fX.key) (hw:y.w.Wf) (hm2:m<256) (he:0≤y.fX.aF) (hs:st.has c=true) (hx:y.w.next≤m) (hx2:m+1 - y.w.next<64) (hx3:((y.w.bits <<< (m+1 - y.w.next)) % 18446744073709551616) ||| 1=b2) (hf:af.kg st y.fX=(bO,k,0)) (ha:af.oo bO k m y.x.h c=(s,0)):Calls Tryz.prog 125 #[vP b 0,vI y.fX.aF,vI m,vI c] W fun e w'=>e=.returned (.tuple #[vS s,vI 0])∧NF S w0 w' (ah p bO::R) ((b,cl (dV p {y with w:=⟨m+1,b2⟩} (.slice oq ol oc)) 187)::L):=by
 unfold dV at h ⊢;try simp only at h
 try simp only
 obtain ⟨t,ht⟩:∃ t,st.at c=t:=⟨_,rfl⟩
 have F0:=Hi h;have CG:=Hi (h.gL fun S1 K7=>K7.kB ht hs);obtain ⟨HC,HW,HM⟩:=ju hc hw hm2;obtain ⟨HX,PY,VA,HF,HA⟩:=vT hx hx2 hx3 hf ha;clear hx hx2 hx3 hf ha;have e1:((m:Int)<0)=False:=aH;have e2:((m:Int)≥256)=False:=aR;have e3:(y.fX.aF<0)=False:=aR;clear h hc hw hs ht;have r0:=rl F0.out.mem.rules;go_enter Tryz.func125,Tryz.ntmps125;go_wp2_with fail;refine CG.out.mono ?_;rintro e w1 ⟨rfl,g⟩;clear r0 CG F0;have F:=Hi (g.alloc (cl (fH t) 95));have F1:=Hi ((g.alloc (cl (fH t) 95)).alloc (cl #[vI y.fX.key,vI y.fX.aF,vU y.w.next,vU y.w.bits,.slice oq ol oc] 185));simp only [World.size_alloc] at F1;clear g;have r0:=rl F.out.mem.rules;have r:=rl F1.out.mem.rules;go_wp2_with fail;clear r r0 F;refine sk (n:=114) [6,11] [] (tb [some (.agg #[vI y.fX.key,vI y.fX.aF,vU y.w.next,vU y.w.bits,.slice oq ol oc]),vP b 0,vP b 0,vP b 8,vP p 0,vI m,some (.tuple #[.agg #[vI y.fX.key,vI y.fX.aF,vU ((m:Int)+1),vU b2,.slice oq ol oc],vI k,vI 0]),some (.tuple #[.agg #[vI y.fX.key,vI y.fX.aF,vU ((m:Int)+1),vU b2,.slice oq ol oc],vI k,vI 0]),some (.agg #[vI y.fX.key,vI y.fX.aF,vU ((m:Int)+1),vU b2,.slice oq ol oc]),vI k,vI 0,none,vI k,vI 0]) [(w1.heap.size,cl (fH t) 95),(b,cl (DC y (.slice oq ol oc) p) 187)] (L) [([],ah p st::R,[(w1.heap.size+1,cl #[vI y.fX.key,vI y.fX.aF,vU y.w.next,vU y.w.bits,.slice oq ol oc] 185)]),
  ([],ah p bO::R,[(w1.heap.size+1,cl #[vI y.fX.key,vI y.fX.aF,vU y.w.next,vU y.w.bits,.slice oq ol oc] 185)]),
  ([],ah p bO::R,[(w1.heap.size+1,cl #[vI y.fX.key,vI y.fX.aF,vU ((m:Int)+1),vU b2,.slice oq ol oc] 185)])] (F1.out) ⟨sT ((w1.heap.size+1,cl #[vI y.fX.key,vI y.fX.aF,vU y.w.next,vU y.w.bits,.slice oq ol oc] 185)::[]) 0,sP,sP,sP,sP,sP,?_,sP,sP,sP,sP,?_,sP,sP,trivial⟩ ?_
 ·refine wC ?_;intro D v qq x h0;exact mo (h0.gL fun S1 hs=>hs.Xu HW.out HM.out HX.out PY.out VA.out HC.out HF.out)
 ·refine wM ?_;intro D v qq x h0 yy;exact ⟨_,(((((h0.ai (B:=[]) 0 (vI y.fX.key)).ai (B:=[]) 1 (vI y.fX.aF)).ai (B:=[]) 2 (vU ((m:Int)+1))).ai (B:=[]) 3 (vU b2)).ai (B:=[]) 4 (.slice oq ol oc)),wE⟩
 ·intro v qq x hF hA h;simp only [SC] at h;have F2:=Hi h;simp only [PU,bF,Nat.reduceAdd,gT hF 12,gT hF 13];clear hF hA h;have r:=rl F2.out.mem.rules;go_wp2_with fail;clear r;refine sk (n:=114) [13] [] (tb [vP b 0,vP b 0,vP b 8,vP p 0,vI k,vI m,vU m,vP b 0,vP b 0,vP b 9,vP b 9,vI y.x.h,vI c,some (.tuple #[vS s,vI 0]),some (.tuple #[vS s,vI 0]),vS s,vI 0,vS s,vI 0]) [(w1.heap.size+1,cl #[vI y.fX.key,vI y.fX.aF,vU ((m:Int)+1),vU b2,.slice oq ol oc] 185),(w1.heap.size,cl (fH t) 95),(b,cl (DC y (.slice oq ol oc) p) 187)] (L) [([],ah p bO::R,[]),
   ([],ah p bO::R,[])] (F2.out) ⟨sP,sP,sP,sP,sP,sP,sP,sP,sP,sP,sP,sP,sP,?_,sP,sP,sP,sP,sP,trivial⟩ ?_
  ·refine wC ?_;intro D v qq x h0;exact mo (h0.gL fun S1 hs=>hs.aRead HA.out)
  ·intro v qq x hF hA h;simp only [SC] at h;have F3:=Hi h;simp only [PU,bF,Nat.reduceAdd,gT hF 17,gT hF 18];clear hF hA h;have r:=rl F3.out.mem.rules;have F4:=Hi (((((F3.out.ai (B:=[_,_]) 3 (vI y.fX.key)).ai (B:=[_,_]) 4 (vI y.fX.aF)).ai (B:=[_,_]) 5 (vU ((m:Int)+1))).ai (B:=[_,_]) 6 (vU b2)).ai (B:=[_,_]) 7 (.slice oq ol oc));simp only [aX,aY,jr,bQ,bG] at F4;go_wp2_with fail;exact bodyPost_ret (v:=.tuple #[vS s,vI 0]) (by simp [results,Tryz.results125,go_sem]) rfl ⟨rfl,F4.out.sub ((zq _ _).trans (zq _ _))⟩
theorem Ta {k b2:Nat} {bO:af.Store} {s:List UInt8} {oq:Option Addr} (h:NF S w0 W (ah p st::R) ((b,cl (dV p y (.slice oq ol oc)) 187)::L)) (hc:af.Int64 y.fX.key) (hw:y.w.Wf) (hm2:m<256) (he:0≤y.fX.aF) (hs:st.has c=true) (ho:af.tv.can y.w m=false):Calls Tryz.prog 125 #[vP b 0,vI y.fX.aF,vI m,vI c] W fun e w'=>e=.returned (.tuple #[.string ⟨#[]⟩,vI 12])∧NF S w0 w' (ah p st::R) ((b,cl (dV p y (.slice oq ol oc)) 187)::L):=by
 unfold dV at h ⊢;try simp only at h
 try simp only
 obtain ⟨t,ht⟩:∃ t,st.at c=t:=⟨_,rfl⟩
 have F0:=Hi h;have CG:=Hi (h.gL fun S1 K7=>K7.kB ht hs);obtain ⟨HC,HW,HM⟩:=ju hc hw hm2;have HO:=Hi ho;clear ho;have e1:((m:Int)<0)=False:=aH;have e2:((m:Int)≥256)=False:=aR;have e3:(y.fX.aF<0)=False:=aR;clear h hc hw hs ht;have r0:=rl F0.out.mem.rules;go_enter Tryz.func125,Tryz.ntmps125;go_wp2_with fail;refine CG.out.mono ?_;rintro e w1 ⟨rfl,g⟩;clear r0 CG F0;have F:=Hi (g.alloc (cl (fH t) 95));have F1:=Hi ((g.alloc (cl (fH t) 95)).alloc (cl #[vI y.fX.key,vI y.fX.aF,vU y.w.next,vU y.w.bits,.slice oq ol oc] 185));simp only [World.size_alloc] at F1;clear g;have r0:=rl F.out.mem.rules;have r:=rl F1.out.mem.rules;go_wp2_with fail;clear r r0 F;refine sk (n:=114) [6,11] [] (tb [some (.agg #[vI y.fX.key,vI y.fX.aF,vU y.w.next,vU y.w.bits,.slice oq ol oc]),vP b 0,vP b 0,vP b 8,vP p 0,vI m,some (.tuple #[.agg #[vI y.fX.key,vI y.fX.aF,vU y.w.next,vU y.w.bits,.slice oq ol oc],vI 0,vI 12]),some (.tuple #[.agg #[vI y.fX.key,vI y.fX.aF,vU y.w.next,vU y.w.bits,.slice oq ol oc],vI 0,vI 12]),some (.agg #[vI y.fX.key,vI y.fX.aF,vU y.w.next,vU y.w.bits,.slice oq ol oc]),vI 0,vI 12,none,vI 0,vI 12]) [(w1.heap.size,cl (fH t) 95),(b,cl (DC y (.slice oq ol oc) p) 187)] (L) [([],ah p st::R,[(w1.heap.size+1,cl #[vI y.fX.key,vI y.fX.aF,vU y.w.next,vU y.w.bits,.slice oq ol oc] 185)]),
  ([],ah p st::R,[(w1.heap.size+1,cl #[vI y.fX.key,vI y.fX.aF,vU y.w.next,vU y.w.bits,.slice oq ol oc] 185)]),
  ([],ah p st::R,[(w1.heap.size+1,cl #[vI y.fX.key,vI y.fX.aF,vU y.w.next,vU y.w.bits,.slice oq ol oc] 185)])] (F1.out) ⟨sT ((w1.heap.size+1,cl #[vI y.fX.key,vI y.fX.aF,vU y.w.next,vU y.w.bits,.slice oq ol oc] 185)::[]) 0,sP,sP,sP,sP,sP,?_,sP,sP,sP,sP,?_,sP,sP,trivial⟩ ?_
 ·refine wC ?_;intro D v qq x h0;exact mo (h0.gL fun S1 hs=>hs.S8 HW.out HM.out HO.out)
 ·refine wM ?_;intro D v qq x h0 yy;exact ⟨_,(((((h0.ai (B:=[]) 0 (vI y.fX.key)).ai (B:=[]) 1 (vI y.fX.aF)).ai (B:=[]) 2 (vU y.w.next)).ai (B:=[]) 3 (vU y.w.bits)).ai (B:=[]) 4 (.slice oq ol oc)),wE⟩
 ·intro v qq x hF hA h;simp only [SC] at h;have F2:=Hi h;simp only [PU,bF,Nat.reduceAdd,gT hF 12,gT hF 13];clear hF hA h;have r:=rl F2.out.mem.rules;go_wp2_with fail;clear r;exact bodyPost_ret (v:=.tuple #[.string ⟨#[]⟩,vI 12]) (by simp [results,Tryz.results125,go_sem]) rfl ⟨rfl,F2.out.sub ((zq _ _).trans (zq _ _))⟩
end
end Go.Proofs.N0
namespace Go.Proofs.N0
open Go.RowKit Go.Maps Go.ChangeMaps
variable {x:af.jq}
theorem Xw (a b c:Int) (w:World):(Instr.index 32 (.agg #[vI a,vI b,vI c]) (vI 0)).run Tryz.prog w=.ok (vI a) w:=aI
theorem Xx (a b c:Int) (w:World):(Instr.index 32 (.agg #[vI a,vI b,vI c]) (vI 1)).run Tryz.prog w=.ok (vI b) w:=aI
theorem Xy (a b c:Int) (w:World):(Instr.index 32 (.agg #[vI a,vI b,vI c]) (vI 2)).run Tryz.prog w=.ok (vI c) w:=aI
section
variable {S:List Nat} {w0 W:World} {p b:Nat} {st:af.Store} {L:List (Nat×Obj)} {R:List aW} {ov:Value}
def ic (x:af.jq):af.dm:=⟨⟨x.send,0⟩,0,⟨x.recv,0⟩,af.yU,[],x⟩
def mW (x:af.jq):Value:=.agg (iH x)
theorem SF.sNew (h:SF S w0 W p st L) (h1:st.has x.h=true) (h2:st.has x.send=true) (h3:st.has x.recv=true):Calls Tryz.prog 147 #[vP p 0,mW x] W fun e w'=>∃ b,e=.returned (.tuple #[vP b 0,vI 0])∧SF S w0 w' p st ((b,cl (dV p (ic x) (.slice none 0 0)) 187)::L):=by
 unfold mW dV ic af.yU;have F0:=Hi (h.alloc (cl (iH x) 113));obtain ⟨t1,J3⟩:∃ t,st.at x.h=t:=⟨_,rfl⟩
 obtain ⟨t2,gj⟩:∃ t,st.at x.send=t:=⟨_,rfl⟩
 obtain ⟨t3,Bj⟩:∃ t,st.at x.recv=t:=⟨_,rfl⟩
 have C1:=Hi (F0.out.kB J3 h1);obtain ⟨H2,H3,T2,T3⟩:=hi4 h2 h3 gj Bj;have i0:=Xw x.h x.send x.recv;have i1:=Xx x.h x.send x.recv;have i2:=Xy x.h x.send x.recv;clear h h1 h2 h3 J3 gj Bj;have r:=rl F0.out.mem.rules;go_enter Tryz.func147,Tryz.ntmps147;go_wp2_with fail;clear r;refine wp_loop_rounds 4 ?_;simp only [rounds_succ];go_wp2_with fail;refine C1.out.mono ?_;rintro e w1 ⟨rfl,g⟩;have F1:=Hi ((g.alloc (cl (fH t1) 95)).sub (zq _ _));have C2:=Hi (F1.out.kB T2.out H2.out);clear g C1 F0 T2 H2;go_wp2_with fail;simp only [rounds_succ];go_wp2_with fail;refine C2.out.mono ?_;rintro e w2 ⟨rfl,g⟩;have F2:=Hi ((g.alloc (cl (fH t2) 95)).sub (zq _ _));have C3:=Hi (F2.out.kB T3.out H3.out);clear g C2 F1 T3 H3;go_wp2_with fail;simp only [rounds_succ];go_wp2_with fail;refine C3.out.mono ?_;rintro e w3 ⟨rfl,g⟩;have F3:=Hi ((g.alloc (cl (fH t3) 95)).sub (zq _ _));clear g C3 F2;go_wp2_with fail;simp only [rounds_succ];have r:=rl F3.out.mem.rules;have F4:=Hi (F3.out.alloc (cl #[vI x.send,vI 0,vI 0,vI x.recv,vI 0,vU 0,vU 0,.slice none 0 0,vP p 0,vI x.h,vI x.send,vI x.recv,vI x.version] 187));simp only [World.size_alloc] at F4;go_wp2_with fail;clear r;go_ret2;exact ⟨_,rfl,F4.out.sub (List.Sublist.cons_cons _ (zq _ _))⟩
theorem NF.sNew (h:NF S w0 W (ah p st::R) L) (h1:st.has x.h=true) (h2:st.has x.send=true) (h3:st.has x.recv=true):Calls Tryz.prog 147 #[vP p 0,mW x] W fun e w'=>∃ b,e=.returned (.tuple #[vP b 0,vI 0])∧NF S w0 w' (ah p st::R) ((b,cl (dV p (ic x) (.slice none 0 0)) 187)::L):=by obtain ⟨S1,hs,hk⟩:=h.sf;refine (hs.sNew h1 h2 h3).mono ?_;rintro e w' ⟨b,rfl,g⟩;exact ⟨b,rfl,hk _ _ _ g⟩
theorem NF.sOf {y:af.dm} (h:NF S w0 W R ((b,cl (dV p y ov) 187)::L)) (hx:y.x=x):Calls Tryz.prog 35 #[vP b 0] W fun e w'=>e=.returned (mW x)∧NF S w0 w' R ((b,cl (dV p y ov) 187)::L):=by subst hx;unfold mW;unfold dV at h ⊢;have F0:=Hi (h.alloc (cl #[vI 0,vI 0,vI 0,vI 0] 113));have F1:=Hi (h.alloc (cl (iH y.x) 113));clear h;have r:=rl F0.out.mem.rules;have r1:=rl F1.out.mem.rules;go_enter Tryz.func35,Tryz.ntmps35;go_wp2_with fail;exact bodyPost_ret (v:=.agg (iH y.x)) c957 rfl ⟨rfl,F1.out.sub (zq _ _)⟩
end
end Go.Proofs.N0
namespace Go.Proofs.N0
open Go.RowKit Go.Maps Go.ChangeMaps
variable {i j b k r cnt p mb:Nat} {v:Value} {w w':World} {m:af.bX} {st:af.aP} {S:List Nat}
def dU:Value→Option (DataW Unit×List MemPlace)
 | .pointer none=>some (.nil,[])
 | .pointer (some ⟨b,0,none⟩)=>some (.lit (.int .u64 b),[])
 | _=>none
abbrev aV (i:Nat):Lit:=.int .u64 i
abbrev dy (i:Nat):Lit:=.int .i64 i
abbrev J4 (b:Nat):DataW Unit:=.lit (.int .u64 b)
abbrev LW (s:List UInt8):DataW Unit:=.lit (.string s)
theorem mX:Keyed Tryz.prog 31:=int_keyed Tryz.underlying31
theorem BI:Keyed Tryz.prog 3:=int_keyed Tryz.underlying3
theorem kV (h:aV i=aV j):i=j:=Int.ofNat.inj (by simpa [aV] using h)
theorem Aq (h:dy i=dy j):i=j:=Int.ofNat.inj (by simpa [dy] using h)
theorem iy (h:i<18446744073709551616):keyOf Tryz.prog 31 (vU i)=some (aV i):=keyOf_int_mk Tryz.underlying31 (WalkArith.wf_u64 ax)
theorem ru (h:i<9223372036854775808):keyOf Tryz.prog 3 (vI i)=some (dy i):=keyOf_int_mk Tryz.underlying3 (WalkArith.wf_i64 ax)
theorem J5 (b:Nat):dU (vP b 0)=some (J4 b,[]):=rfl
theorem rA:dU (.pointer none)=some (.nil,[]):=rfl
theorem sR {y:DataW Unit×List MemPlace} (h:dU v=some y):v=.pointer none∨∃ b,v=vP b 0∧y.1=J4 b:=by
 unfold dU at h;split at h
 ·exact .inl rfl
 ·exact .inr ⟨_,rfl,by cases h;rfl⟩
 ·cases h
theorem rB {ps:List MemPlace} (h:dU v=some (J4 b,ps)):v=vP b 0:=by
 rcases sR h with rfl|⟨b',rfl,e⟩
 ·simp [dU] at h
 ·have:b=b':=kV (by simpa [J4] using e);rw [this]
theorem yq {ps:List MemPlace} (h:dU v=some (.nil,ps)):v=.pointer none:=by
 rcases sR h with rfl|⟨b',rfl,e⟩
 ·rfl
 ·cases e
theorem nL {s:List UInt8} {ps:List MemPlace} (h:plainElem (H:=Unit) Tryz.prog 9 v=some (LW s,ps)):v=vS s:=by unfold plainElem at h;rw [Tryz.underlying9] at h;cases v<;>simp at h;obtain ⟨_,rfl,_⟩:=h;simp
structure bq {α H:Type} (key:Nat→Lit) (mk:α→DataW H) (D:DataW H) (l:List (Nat×α)):Prop where
 tidy:Tidy D
 has:∀ i,Maps.has D (key i)=l.any fun p=>p.1==i
 at_:∀ p∈l,∀ zd,D.atKey (key p.1) zd=mk p.2
 size:Maps.size D=l.length
 only:∀ kl,Maps.has D kl=true→∃ i,kl=key i
section
variable {α H:Type} {key:Nat→Lit} {mk:α→DataW H} {D:DataW H} {l:List (Nat×α)}
theorem bq.start:bq key mk (.map []) []:=⟨tidy_empty,fun _=>rfl,fun _ h=>absurd h aH,rfl,fun _ h=>absurd h (by simp [Maps.has])⟩
theorem bq.put (h:bq key mk D l) (inj:∀ {i j},key i=key j→i=j) (lit:∀ i,WideAt.IsKeyLit (key i)) (v:α) (hk:(l.any fun p=>p.1==k)=false):bq key mk (D.put (key k) (mk v)) (l++[(k,v)]):=by
 refine ⟨h.tidy.put (lit k) _,fun i=>?_,fun p hp zd=>?_,?_,fun kl sH=>?_⟩
 ·rw [List.any_append,←h.has i];by_cases e:i=k
  ·subst e;rw [has_put_same h.tidy.isMap (lit i)];simp
  ·rw [has_put_other (fun e'=>e (inj e'))];simp [sg e]
 ·rcases List.mem_append.1 hp with hp|hp
  ·have e:p.1≠k:=fun e=>by
    have:=List.any_eq_false.1 hk p hp
    simp [e] at this
   rw [atKey_put_other (fun e'=>e (inj e')),h.at_ p hp]
  ·simp only [rZ] at hp;subst hp;rw [atKey_put_same h.tidy.isMap (lit k)]
 ·rw [size_put h.tidy,h.has k,hk,h.size];simp
 ·by_cases e:kl=key k
  ·exact ⟨k,e⟩
  ·rw [has_put_other e] at sH;exact h.only kl sH
theorem bq.del (h:bq key mk D l) (inj:∀ {i j},key i=key j→i=j) (hn:(l.map (·.1)).Nodup) (k:Nat):bq key mk (D.del (key k)) (l.filter fun p=>!(p.1==k)):=by
 refine ⟨h.tidy.del _,fun i=>?_,fun p hp zd=>?_,?_,fun kl sH=>?_⟩
 ·by_cases e:i=k
  ·subst e
   rw [has_del_same]
   symm
   rw [List.any_eq_false]
   intro p hp
   have:=(List.mem_filter.1 hp).2
   simpa using this
  ·rw [has_del_other (fun e'=>e (inj e')),h.has i];exact (any_filter_keep (g:=fun p:Nat×α=>!(p.1==k)) (fun p hp=>by have:p.1=i:=(by simpa using hp);simp [this,e]) l).symm
 ·obtain ⟨hp1,LY⟩:=List.mem_filter.1 hp;have e:p.1≠k:=by simpa using LY
  rw [atKey_del_other (fun e'=>e (inj e')),h.at_ p hp1]
 ·have h1:=size_del (k:=key k) h.tidy;rw [h.has k,h.size] at h1;have h2:(l.filter fun p=>!(p.1==k)).length+(if (l.any fun p=>p.1==k)=true then 1 else 0)=l.length:=by
   clear h h1
   induction l with
   | nil=>simp
   | cons x l ih =>
    rw [jQ,uM] at hn
    have:=ih hn.2
    by_cases e:x.1=k
    ·have hr:(l.any fun p=>p.1==k)=false:=List.any_eq_false.2 fun p hp=>by have:p.1≠k:=fun e'=>hn.1 (by rw [e,←e'];exact mG hp);simpa using this
     rw [hr] at this;simp [e] at this ⊢;omega
    ·have e':(x.1==k)=false:=Ip;simp only [oO,List.any_cons,e',nS,if_true,yQ,Bool.false_or];omega
  omega
 ·by_cases e:kl=key k
  ·exact ⟨k,e⟩
  ·rw [has_del_other e] at sH;exact h.only kl sH
theorem bq.find (h:bq key mk D l) (hk:Maps.has D (key k)=true):∃ v,(k,v)∈l:=by rw [h.has k] at hk;obtain ⟨p,hp,e⟩:=List.any_eq_true.1 hk;have:p.1=k:=Ip;exact ⟨p.2,by rw [←this];exact hp⟩
end
theorem J6 (i:Nat):WideAt.IsKeyLit (aV i):=by simp [WideAt.IsKeyLit]
theorem wS (i:Nat):WideAt.IsKeyLit (dy i):=by simp [WideAt.IsKeyLit]
section
variable {H:Type} {P:Program} {k:TypeId} {R:Value→Option (DataW H×List MemPlace)} {w w':World} {b n:Nat} {D:DataW H}
theorem _root_.Go.World.ownsMap.same (h:w.ownsMap P k R b n D) (e:w'.heap[b]?=w.heap[b]?):w'.ownsMap P k R b n D:=by obtain ⟨es,clock,hb,r⟩:=h;exact ⟨es,clock,e.trans hb,r⟩
theorem _root_.Go.World.ownsMap.tight (h:w.ownsMap P k R b n D):w.ownsMap P k R b (Maps.size D) D:=by obtain ⟨es,clock,hb,F,_,rfl⟩:=h;exact ⟨es,clock,hb,F,by simp [Maps.size,length_sorted],rfl⟩
theorem _root_.Go.World.ranges.same {left:Lit→Bool} (h:w.ranges P k R b r n D left cnt) (e:w'.heap[b]?=w.heap[b]?) (e':w'.heap[r]?=w.heap[r]?):w'.ranges P k R b r n D left cnt:=by obtain ⟨es,clock,since,seen,c0,hb,F,hs,hD,hr,rest⟩:=h;exact ⟨es,clock,since,seen,c0,e.trans hb,F,hs,hD,e'.trans hr,rest⟩
theorem _root_.Go.World.ranges.mono {left:Lit→Bool} {n':Nat} (h:w.ranges P k R b r n D left cnt) (hn:n≤n'):w.ranges P k R b r n' D left cnt:=by obtain ⟨es,clock,since,seen,c0,hb,F,hs,rest⟩:=h;exact ⟨es,clock,since,seen,c0,hb,F,Fc hs hn,rest⟩
end
def jI (w:World) (b:Nat) (l:List (Nat×List UInt8)):Prop:=∃ D,w.ownsMap Tryz.prog 3 (plainElem (H:=Unit) Tryz.prog 9) b l.length D∧bq dy LW D l
def Tb (b:Nat) (m:af.bX):Array Value:=#[vI m.count,.map (some b),vU m.since]
def Cu (mb:Nat) (st:af.aP):Array Value:=#[.map (some mb),vI st.slots,vI st.room,vI st.held]
structure Cv (w:World) (a b:Nat) (m:af.bX):Prop where
 box:w.heap[a]?=some (cl (Tb b m) 204)
 parts:jI w b m.parts
def aJ (p mb:Nat) (A:Nat→Nat×Nat) (l:List af.bX):List Nat:=p::mb::l.flatMap fun m=>[(A m.id).1,(A m.id).2]
structure cG (w:World) (p mb:Nat) (st:af.aP) (A:Nat→Nat×Nat) (D:DataW Unit):Prop where
 box:w.heap[p]?=some (cl (Cu mb st) 200)
 msgs:∀ m∈st.l,Cv w (A m.id).1 (A m.id).2 m
 apart:(aJ p mb A st.l).Nodup
 maps:bq aV J4 D (st.l.map fun m=>(m.id,(A m.id).1))
def cn (w:World) (p:Nat) (st:af.aP) (S:List Nat):Prop :=
 ∃ mb A D,cG w p mb st A D∧w.ownsMap Tryz.prog 31 dU mb st.l.length D∧S=aJ p mb A st.l
theorem jI.same {l:List (Nat×List UInt8)} (h:jI w b l) (e:w'.heap[b]?=w.heap[b]?):jI w' b l:=by obtain ⟨D,h1,h2⟩:=h;exact ⟨D,h1.same e,h2⟩
theorem jI.lt {l:List (Nat×List UInt8)} (h:jI w b l):b<w.heap.size:=by obtain ⟨D,h1,_⟩:=h;exact h1.lt
theorem Cv.same {a:Nat} (h:Cv w a b m) (e:w'.heap[a]?=w.heap[a]?) (e':w'.heap[b]?=w.heap[b]?):Cv w' a b m:=⟨e.trans h.box,h.parts.same e'⟩
theorem kH {A:Nat→Nat×Nat} {l:List af.bX} (hm:m∈l):(A m.id).1∈aJ p mb A l∧(A m.id).2∈aJ p mb A l:=by have h1:(A m.id).1∈l.flatMap fun m=>[(A m.id).1,(A m.id).2]:=List.mem_flatMap.2 ⟨m,hm,aH⟩;have h2:(A m.id).2∈l.flatMap fun m=>[(A m.id).1,(A m.id).2]:=List.mem_flatMap.2 ⟨m,hm,aH⟩;exact ⟨xY _ (xY _ h1),xY _ (xY _ h2)⟩
theorem cG.lt {A:Nat→Nat×Nat} {D:DataW Unit} (h:cG w p mb st A D) (hmb:mb<w.heap.size):∀ i∈aJ p mb A st.l,i<w.heap.size:=by
 intro i hi;simp only [aJ,gF,List.mem_flatMap] at hi;rcases hi with rfl|rfl|⟨m,hm,hi⟩
 ·exact lt_of_block h.box
 ·exact hmb
 ·simp only [Bp,or_false] at hi;rcases hi with rfl|rfl
  ·exact lt_of_block (h.msgs m hm).box
  ·exact (h.msgs m hm).parts.lt
theorem cG.same {A:Nat→Nat×Nat} {D:DataW Unit} (h:cG w p mb st A D) (e:∀ i∈aJ p mb A st.l,i≠mb→w'.heap[i]?=w.heap[i]?):cG w' p mb st A D:=by
 have ha:=h.apart;simp only [aJ,uM,gF,not_or] at ha;obtain ⟨⟨hpm,_⟩,hml,_⟩:=ha;refine ⟨(e p J1 hpm).trans h.box,fun m hm=>?_,h.apart,h.maps⟩;have hb:=kH (p:=p) (mb:=mb) (A:=A) hm;refine (h.msgs m hm).same (e _ hb.1 fun e1=>hml ?_) (e _ hb.2 fun e1=>hml ?_)
 ·rw [←e1];exact List.mem_flatMap.2 ⟨m,hm,aH⟩
 ·rw [←e1];exact List.mem_flatMap.2 ⟨m,hm,aH⟩
theorem cn.same (h:cn w p st S) (e:∀ i∈S,w'.heap[i]?=w.heap[i]?):cn w' p st S:=by obtain ⟨mb,A,D,h1,h2,rfl⟩:=h;exact ⟨mb,A,D,h1.same fun i hi _=>e i hi,h2.same (e mb J1),rfl⟩
theorem cn.lt (h:cn w p st S):∀ i∈S,i<w.heap.size:=by obtain ⟨mb,A,D,h1,h2,rfl⟩:=h;exact h1.lt h2.lt
theorem cn.turned {S':List Nat} (h:cn w p st S) (ht:az S' w w') (hd:∀ i∈S,i∉S'):cn w' p st S:=h.same fun i hi=>ht.block i (h.lt i hi) (hd i hi)
theorem cn.later (h:cn w p st S) (hb:Below w.heap.size w w'):cn w' p st S:=h.same fun i hi=>hb.block i (h.lt i hi)
theorem cn.mem (h:cn w p st S):p∈S:=by obtain ⟨mb,A,D,h1,h2,rfl⟩:=h;simp [aJ]
/-! ### the laws at the operations -/
section
variable (w:World) {ops:Array Oper} {rest:List Oper} {o:Oper} {a:Act} {Q:Exit→Act→World→Prop}
theorem J7 (hg:o.guard=none) (it:Operand) (hop:o.op=Op.next it false) (b r n:Nat) (D:DataW Unit) (left:Lit→Bool) (cnt:Nat) (l:List (Nat×List UInt8)) (hit:a.eval it=.pointer (some ⟨r,0,none⟩))
 (h:w.ranges Tryz.prog 3 (plainElem (H:=Unit) Tryz.prog 9) b r n D left cnt) (hM:bq dy LW D l) (hk:∀ kl,left kl=true→∃ i,kl=dy i)
 (hDone:(∀ kl,left kl=false)→wpList Tryz.prog ops Q rest (a.put o.dst (.tuple #[.bool false])) w)
 (hMore:∀ (i:Nat) (s:List UInt8) (w':World) (cnt':Nat),(i,s)∈l→left (dy i)=true→w'.ranges Tryz.prog 3 (plainElem (H:=Unit) Tryz.prog 9) b r n D (fun z=>left z&&!z.sameKey (dy i)) cnt'→cnt'<cnt→w.grownBy w' (some r)→w'.heap.size=w.heap.size →
  (Instr.entry (vP r 0)).run Tryz.prog w'=.ok (.tuple #[vI i,vS s]) w'→wpList Tryz.prog ops Q rest (a.put o.dst (.tuple #[.bool true,vI i,vS s])) w') :
 wpList Tryz.prog ops Q (o::rest) a w:=by
 refine wpList_plain hg fun K' hK'=>?_
 unfold Oper.wp
 rcases h.next BI o.type with ⟨h0,hl,hrun⟩|⟨key,v,kl,y,w',cnt',hkey,hlk,hv,hat,hrun,hrg,hlt,hgr,hsz,hen⟩
 ·exact Tz
 ·obtain ⟨i,rfl⟩:=hk kl hlk;obtain ⟨x,rfl,e1,_⟩:=Maps.keyOf_int_inv Tryz.underlying3 hkey;obtain ⟨s,hs⟩:=hM.find (has_true_of_atKey hat);have e2:x=(i:Int):=by simpa [dy] using e1.symm
  subst e2;have e3:=hM.at_ _ hs .nil;rw [hat] at e3;have e4:v=vS s:=nL (ps:=y.2) (by rw [hv,←e3]);exact YS
theorem Ou (hg:o.guard=none) (it:Operand) (hop:o.op=Op.next it false) (b r n:Nat) (D:DataW Unit) (left:Lit→Bool) (cnt:Nat) (l:List (Nat×Nat)) (hit:a.eval it=.pointer (some ⟨r,0,none⟩))
 (h:w.ranges Tryz.prog 31 dU b r n D left cnt) (hM:bq aV J4 D l) (hk:∀ kl,left kl=true→∃ i,kl=aV i)
 (hDone:(∀ kl,left kl=false)→wpList Tryz.prog ops Q rest (a.put o.dst (.tuple #[.bool false])) w)
 (hMore:∀ (i s:Nat) (w':World) (cnt':Nat),(i,s)∈l→left (aV i)=true→w'.ranges Tryz.prog 31 dU b r n D (fun z=>left z&&!z.sameKey (aV i)) cnt'→cnt'<cnt→w.grownBy w' (some r)→w'.heap.size=w.heap.size →
  (Instr.entry (vP r 0)).run Tryz.prog w'=.ok (.tuple #[vU i,vP s 0]) w'→wpList Tryz.prog ops Q rest (a.put o.dst (.tuple #[.bool true,vU i,vP s 0])) w') :
 wpList Tryz.prog ops Q (o::rest) a w:=by
 refine wpList_plain hg fun K' hK'=>?_
 unfold Oper.wp
 rcases h.next mX o.type with ⟨h0,hl,hrun⟩|⟨key,v,kl,y,w',cnt',hkey,hlk,hv,hat,hrun,hrg,hlt,hgr,hsz,hen⟩
 ·exact Tz
 ·obtain ⟨i,rfl⟩:=hk kl hlk;obtain ⟨x,rfl,e1,_⟩:=Maps.keyOf_int_inv Tryz.underlying31 hkey;obtain ⟨s,hs⟩:=hM.find (has_true_of_atKey hat);have e2:x=(i:Int):=by simpa [aV] using e1.symm
  subst e2;have e3:=hM.at_ _ hs .nil;rw [hat] at e3;have e4:v=vP s 0:=rB (ps:=y.2) (by rw [hv,←e3]);exact YS
end
theorem sM (w:World):(zeroValue 196).run Tryz.prog w=.ok (.pointer none) w:=aI
theorem sL (w:World):(zeroValue 9).run Tryz.prog w=.ok (.string ⟨#[]⟩) w:=aI
section
variable {w:World} {b n:Nat} {D:DataW Unit}
theorem Ov {l:List (Nat×List UInt8)} (h:w.ownsMap Tryz.prog 3 (plainElem (H:=Unit) Tryz.prog 9) b n D) (hM:bq dy LW D l) (hi:i<9223372036854775808) (hn:(l.map (·.1)).Nodup) :
 (Instr.lookup 202 (.map (some b)) (vI i) false).run Tryz.prog w=.ok (vS (af.partAt l i)) w:=by
 obtain ⟨v,ps,hrun,hv⟩:=h.lookup BI Tryz.underlying202 (sL w) (zd:=LW []) (zp:=[]) (plainElem_string Tryz.underlying9 aG) (ru hi)
 rw [hrun]
 congr 2
 cases hh:Maps.has D (dy i)
 ·exact aac
 ·obtain ⟨s,hs⟩:=hM.find hh;rw [hM.at_ _ hs] at hv;have:af.partAt l i=s:=by
   unfold af.partAt;have hf:(l.find? fun p=>p.1==i)=some (i,s):=by clear hM hv hh hrun h;exact a986
   rw [hf];rfl
  rw [this];exact nL hv
theorem J8 {l:List (Nat×List UInt8)} {ps:List MemPlace} (hM:bq dy LW D l) (hn:(l.map (·.1)).Nodup) (hv:plainElem (H:=Unit) Tryz.prog 9 v=some (D.atKey (dy i) (LW []),ps)):v=vS (af.partAt l i):=by
 cases hh:Maps.has D (dy i)
 ·exact aac
 ·obtain ⟨s,hs⟩:=hM.find hh;rw [hM.at_ _ hs] at hv;have:af.partAt l i=s:=by
   unfold af.partAt;have hf:(l.find? fun p=>p.1==i)=some (i,s):=by clear hM hv hh;exact a986
   rw [hf];rfl
  rw [this];exact nL hv
theorem EA {l:List (Nat×List UInt8)} (h:w.ownsMap Tryz.prog 3 (plainElem (H:=Unit) Tryz.prog 9) b n D) (hM:bq dy LW D l) (hi:i<9223372036854775808) (hn:(l.map (·.1)).Nodup) :
 (Instr.lookup 202 (.map (some b)) (vI i) true).run Tryz.prog w=.ok (.tuple #[vS (af.partAt l i),.bool (l.any fun p=>p.1==i)]) w:=by
 obtain ⟨v,ps,hrun,hv⟩:=h.look_ok BI Tryz.underlying202 (sL w) (zd:=LW []) (zp:=[]) (plainElem_string Tryz.underlying9 aG) (ru hi)
 rw [hrun,hM.has i,J8 hM hn hv]
theorem xO {l:List (Nat×Nat)} (h:w.ownsMap Tryz.prog 31 dU b n D) (hM:bq aV J4 D l) {s:Nat} (hi:i<18446744073709551616) (hs:(i,s)∈l) (c:Bool) :
 (Instr.lookup 198 (.map (some b)) (vU i) c).run Tryz.prog w=.ok (if c then .tuple #[vP s 0,.bool true] else vP s 0) w:=by
 have hh:Maps.has D (aV i)=true:=by rw [hM.has i];exact List.any_eq_true.2 ⟨_,hs,by simp⟩
 cases c
 ·obtain ⟨v,ps,hrun,hv⟩:=h.lookup mX Tryz.underlying198 (sM w) rA (iy hi);rw [hM.at_ _ hs] at hv;rw [hrun,rB hv];rfl
 ·obtain ⟨v,ps,hrun,hv⟩:=h.look_ok mX Tryz.underlying198 (sM w) rA (iy hi);rw [hM.at_ _ hs] at hv;rw [hrun,rB hv,hh];rfl
theorem xP {l:List (Nat×Nat)} (h:w.ownsMap Tryz.prog 31 dU b n D) (hM:bq aV J4 D l) (hi:i<18446744073709551616) (hno:∀ p∈l,p.1≠i) :
 (Instr.lookup 198 (.map (some b)) (vU i) true).run Tryz.prog w=.ok (.tuple #[.pointer none,.bool false]) w:=by
 have hh:Maps.has D (aV i)=false:=by rw [hM.has i];exact List.any_eq_false.2 fun p hp=>by simpa using hno p hp
 obtain ⟨v,ps,hrun,hv⟩:=h.look_ok mX Tryz.underlying198 (sM w) rA (iy hi)
 rw [atKey_of_not_has hh] at hv
 rw [hrun,yq hv,hh]
end
section
variable {S:List Nat} {w0 W w':World} {R:List aW} {L:List (Nat×Obj)}
abbrev kW (v:Value):DataW Value:=.held v
def dz (mb:Nat) (l:List (Nat×Value)):aW where
 holds S w:=S=[mb]∧((l.map (·.1)).Nodup∧∀ x∈l,x.1<18446744073709551616)∧∃ D,w.ownsMap Tryz.prog 31 cK mb l.length D∧bq aV kW D l
 same:=by rintro S w w' ⟨rfl,h1,D,h2,h3⟩ hs;exact ⟨rfl,h1,D,h2.same (hs mb (ud _)),h3⟩
 lt:=by rintro S w ⟨rfl,h1,D,h2,h3⟩ i hi;rw [rZ] at hi;subst hi;exact h2.lt
def jU (e:TypeId) (size:Nat) (v:Value) (n:Nat) (xs:List Value):aW where
 holds S w:=w.ownsRow 0 e size v n xs∧S=v.ownBlock.toList
 same:=by
  rintro S w w' ⟨⟨hl,h⟩,rfl⟩ hs;refine ⟨⟨hl,?_⟩,rfl⟩;rcases h with h|⟨g,cap,cur,rfl,h1,h2,h3⟩
  ·exact .inl h
  ·exact .inr ⟨g,cap,cur,rfl,h1,(hs g (by simp [Value.ownBlock])).trans h2,h3⟩
 lt:=by
  rintro S w ⟨h,rfl⟩ i hi
  have:=h.lt i D9
  exact this.2
theorem NF.lQ {e:TypeId} {size n:Nat} {xs:List Value} (h:NF S w0 W R L) (hb:Below W.heap.size W w') (hr:w'.ownsRow W.heap.size e size v n xs):NF S w0 w' (jU e size v n xs::R) L:=by
 refine h.give hb (F:=v.ownBlock.toList) ⟨⟨hr.1,?_⟩,rfl⟩ ?_ fun i hi=>(hr.lt i D9).1
 ·rcases hr.2 with h|⟨g,cap,cur,h1,h2,h3⟩
  ·exact .inl h
  ·exact .inr ⟨g,cap,cur,h1,pR _,h3⟩
 ·cases v.ownBlock<;>simp
def Ar (l:List (List UInt8)):List Value:=l.map fun s=>vS s
abbrev bA (v:Value) (l:List (List UInt8)):aW:=jU 9 1 v l.length (Ar l)
def entL (e:af.PM):List Value:=[vI e.aF,vI e.key,vU e.w.next,vU e.w.bits]
abbrev J9 (v:Value) (l:List af.PM):aW:=jU 277 4 v l.length (l.flatMap entL)
def isSlice (v:Value):Prop:=∃ q l c,v=.slice q l c
def dA (p k:Nat) (y:af.dm):aW:=exR fun ov:Value=>wj (isSlice ov) (comp [J9 ov y.old] [(k,cl (dV p y ov) 187)])
def dB (q:Nat) (st:af.aP):aW where
 holds S w:=cn w q st S
 same:=fun h hs=>h.same hs
 lt:=fun h=>h.lt
def dD (q:Nat) (l:af.aS):Array Value:=(oI q l)
def dF (k:Nat) (x:af.aP×af.aS):aW:=exR fun q=>wj x.1.Ok (comp [dB q x.1] [(k,cl (dD q x.2) 109)])
def pg (x:af.pW):Value:=.agg #[vI x.peer,vI x.q.y.ck,vI x.q.y.k,vI x.q.y.h,vU x.q.y.n,vI x.q.e,vI x.q.ek,vS x.q.offer,vU x.born]
structure rT where
 g:Nat          -- the guard
 rp:Nat         -- the row of Peers
 cp:Nat
 kp:Array Value
 rq:Nat         -- the row of *peer
 cq:Nat
 kq:Array Value
 mb:Nat         -- what was begun
 lb:Nat         -- the ak
 pa:List Nat    -- the aj
 la:Nat→Nat   -- the ak,by number
@[simp,go_sem] abbrev jt (p:Nat) (a:rT) (t:af.Pt):Array Value:=vN p t.me a.rp t.aj.length a.cp t.offer t.size t.ak t.messages t.stamp a.g a.rq a.cq a.mb a.lb
def iz (a:rT) (p:Nat) (t:af.Pt):Array Value:=(vN p t.me a.rp t.aj.length a.cp t.offer t.size t.ak t.messages t.stamp a.g a.rq a.cq a.mb a.lb)
def cN (a:rT) (p b:Nat) (t:af.Pt):List (Nat×Obj):=[(b,cl (iz a p t) 80),(a.rp,cl a.kp 65),(a.rq,cl a.kq 110)]
def bU (l:List (Nat×af.pW)):List (Nat×Value):=l.map fun x=>(x.1,pg x.2)
def cu (la:Nat→Nat) (l:List (Nat×af.dm)):List (Nat×Value):=l.map fun x=>(x.1,vP (la x.1) 0)
def cS (a:rT) (p:Nat) (t:af.Pt):List aW:=bw a.g t.guard t.aj.length::dz a.mb (bU t.begun)::dz a.lb (cu a.la t.live)::(List.zipWith dF a.pa (t.aO.zip t.slots)++t.live.map fun x=>dA p (a.la x.1) x.2)
structure rT.ok (a:rT) (t:af.Pt):Prop where
 cp:t.aj.length≤a.cp∧a.cp≤maxLen
 cq:t.aj.length≤a.cq∧a.cq≤maxLen
 kp:t.aj.flatMap eA <+: a.kp.toList
 kq:a.pa.map (fun k=>Value.pointer (some ⟨k,0,none⟩)) <+: a.kq.toList
 pa:a.pa.length=t.aj.length
 aO:t.aO.length=t.aj.length
 slots:t.slots.length=t.aj.length
def _root_.af.dm.Wf (y:af.dm):Prop:=af.Int64 y.out.key∧af.Int64 y.fX.key∧af.Int64 y.x.h∧y.w.Wf∧0≤y.fX.aF∧0≤y.sent
structure _root_.af.Pt.Wf (t:af.Pt):Prop where
 me:af.Int64 t.me.dh∧af.Int64 t.me.cD
 aj:∀ q∈t.aj,af.Int64 q.jo.dh∧af.Int64 q.jo.cD∧af.Int64 q.p0∧af.Int64 q.p1
 many:t.aj.length≤8
 offer:t.offer.length≤16
 size:8≤t.size∧t.size≤1000
 ak:1≤t.ak∧t.ak<18446744073709551616
 messages:t.messages<18446744073709551616
 stamp:t.stamp<18446744073709551616
 begun:∀ x∈t.begun,x.2.q.Wf∧0≤x.2.peer∧x.2.peer<t.aj.length∧x.2.born<18446744073709551616
 live:∀ x∈t.live,x.2.Wf
 ids:(∀ x∈t.begun,x.1<t.ak)∧∀ x∈t.live,x.1≤t.ak
def bK (p b:Nat) (t:af.Pt):aW:=exR fun a:rT=>wj (a.ok t∧t.Wf) (comp (cS a p t) (cN a p b t))
variable {p b:Nat} {st:af.Store} {t:af.Pt}
theorem cx (h:NF S w0 W (ah p st::bK p b t::R) L):∃ a:rT,a.ok t∧t.Wf∧NF S w0 W (ah p st::(cS a p t++R)) (cN a p b t++L):=by have h1:=h.bP (List.Perm.swap _ _ _);obtain ⟨a,h1⟩:=h1.exO;obtain ⟨ha,h1⟩:=h1.IX;exact ⟨a,ha.1,ha.2,h1.op.bP tE⟩
theorem fP {a:rT} (ha:a.ok t) (hw:t.Wf) (h:NF S w0 W (ah p st::(cS a p t++R)) (cN a p b t++L)):NF S w0 W (ah p st::bK p b t::R) L :=
 (NF.Vr (r:=fun a:rT=>wj (a.ok t∧t.Wf) (comp (cS a p t) (cN a p b t))) a (NF.Bu ⟨ha,hw⟩ (NF.shut (h.bP List.perm_middle.symm)))).bP (List.Perm.swap _ _ _)
end
end Go.Proofs.N0
namespace Go.Proofs.N0
open Go.RowKit Go.Maps Go.ChangeMaps
variable {w:World} {p:Nat} {a b c d:Value} {T:TypeId}
def mY (left:Lit→Bool) (l:List (Nat×List UInt8)):Nat:=af.pV (l.filter fun x=>!left (dy x.1))
theorem Ka {D:DataW Unit} {l:List (Nat×List UInt8)} (h:bq dy LW D l):mY (Maps.has D) l=0:=by
 unfold mY;have:(l.filter fun x=>!Maps.has D (dy x.1))=[]:=List.filter_eq_nil_iff.2 fun x hx=>by rw [h.has];have:(l.any fun p=>p.1==x.1)=true:=List.any_eq_true.2 ⟨x,hx,aH⟩;simp [this]
 rw [this];rfl
theorem Tc {left:Lit→Bool} {l:List (Nat×List UInt8)} (h:∀ kl,left kl=false):mY left l=af.pV l:=by unfold mY;congr 1;exact List.filter_eq_self.2 fun x _=>by simp [h]
theorem Ow (i j:Nat):(dy i).sameKey (dy j)=(i==j):=by
 by_cases e:i=j
 ·subst e;rw [WideAt.sameKey_self (wS i)];simp
 ·rw [sameKey_ne (fun e'=>e (Aq e'))];simp [e]
theorem jm (i j:Nat):(aV i).sameKey (aV j)=(i==j):=by
 by_cases e:i=j
 ·subst e;rw [WideAt.sameKey_self (J6 i)];simp
 ·rw [sameKey_ne (fun e'=>e (kV e'))];simp [e]
theorem Cw {left:Lit→Bool} {i:Nat} {s:List UInt8} (hl:left (dy i)=true):∀ {l:List (Nat×List UInt8)},(l.map (·.1)).Nodup→(i,s)∈l→mY (fun z=>left z&&!z.sameKey (dy i)) l=mY left l+s.length
 | [],_,h=>absurd h aH
 | x::l,hn,h=>by
  rw [jQ,uM] at hn;have key:∀ y:Nat×List UInt8,(!(left (dy y.1)&&!(dy y.1).sameKey (dy i)))=(!left (dy y.1)||(y.1==i)):=fun y=>by rw [Ow];cases left (dy y.1)<;>simp
  rcases List.mem_cons.1 h with rfl|h
  ·have hr:(l.filter fun y=>!(left (dy y.1)&&!(dy y.1).sameKey (dy i)))=l.filter fun y=>!left (dy y.1):=by apply yX;intro y hy;rw [key];have:y.1≠i:=fun e=>hn.1 (by show i∈_;rw [←e];exact mG (f:=(·.1)) hy);simp [this]
   unfold mY;rw [oO,oO,hr,key];simp [hl,af.rO];omega
  ·have ih:=Cw hl hn.2 h;have:x.1≠i:=fun e=>hn.1 (by rw [e];exact mG (f:=(·.1)) h);unfold mY at ih ⊢;rw [oO,oO,key];have e':(x.1==i)=false:=c98;rw [e',pS];split
   ·rw [af.rO,af.rO,ih];omega
   ·exact ih
theorem LZ (left:Lit→Bool):∀ l:List (Nat×List UInt8),mY left l≤af.pV l
 | []=>by simp [mY]
 | x::l=>by
  have:=LZ left l
  unfold mY at this ⊢
  rw [oO]
  split<;>simp only [af.rO]<;>omega
def rC (mb slots room:Nat) (h:Int):Array Value:=#[.map (some mb),vI slots,vI room,vI h]
def L6 (w:World) (p mb slots room b r n held:Nat) (D:DataW Unit) (l:List (Nat×List UInt8)) (wr:World):Prop :=
 ∃ left cnt,wr.ranges Tryz.prog 3 (plainElem (H:=Unit) Tryz.prog 9) b r n D left cnt∧(∀ kl,left kl=true→∃ i,kl=dy i) ∧
  wr.heap[p]?=some (cl (rC mb slots room ((held:Int) - mY left l)) 200)∧az [p] w wr
def GQ (w:World) (p mb slots room id held:Nat) (e:Ending) (w':World):Prop :=
 e=.returned (.tuple #[])∧∃ w1,az [p] w w1∧w1.heap[p]?=some (cl (rC mb slots room held) 200) ∧
  ∃ ty,(Builtin.delete_ #[198,31] ty #[.map (some mb),vU id]).run Tryz.prog w1=.ok (.tuple #[]) w'
theorem jJ (h:w.heap[p]?=some (.cells #[a,b,c,d] T (0,0))) :
 w.cell? ⟨p,0,none⟩=some a∧w.cell? ⟨p,1,none⟩=some b∧w.cell? ⟨p,2,none⟩=some c∧w.cell? ⟨p,3,none⟩=some d∧w.frozen? ⟨p,3,none⟩=false:=by
 simp [World.cell?,World.frozen?,h]
theorem rD (h:w.heap[p]?=some (.cells #[a,b,c] T (0,0))) :
 w.cell? ⟨p,0,none⟩=some a∧w.cell? ⟨p,1,none⟩=some b∧w.cell? ⟨p,2,none⟩=some c:=by
 simp [World.cell?,h]
theorem sU (h:w.heap[p]?=some (.cells #[a,b,c,d] T (0,0))) (v:Value):(w.setCell ⟨p,3,none⟩ v).heap[p]?=some (.cells #[a,b,c,v] T (0,0)):=by simp only [World.setCell,Array.getElem?_modify,if_pos,h];simp
theorem pq {P:Program} (w:World) {ops:Array Oper} {rest:List Oper} {o:Oper} {a:Act} {Q:Exit→Act→World→Prop} (hg:o.guard=none) (m x:Operand) (t k:TypeId)
 (hop:o.op=Op.call {callee:=Callee.builtin Builtin.delete,args:=#[m,x],argTypes:=#[t,k]}) {mv key:Value} {w':World} (hm:a.eval m=mv) (hx:a.eval x=key)
 (hrun:(Builtin.delete_ #[t,k] o.type #[mv,key]).run P w=.ok (.tuple #[]) w') (hK:wpList P ops Q rest (a.put o.dst (.tuple #[])) w'):wpList P ops Q (o::rest) a w:=by
 refine wpList_plain hg fun K' hK'=>?_
 unfold Oper.wp
 simp [execOp,hop,resolve,invoke,builtin,hm,hx,hrun,Result.andThen]
 exact hK' _ _ hK
theorem Au {mb a b n nd slots room id held rest:Nat} {D DM:DataW Unit} {l:List (Nat×List UInt8)} {ml:List (Nat×Nat)} {wT since:Nat} (w:World)
 (hp:w.heap[p]?=some (cl (rC mb slots room held) 200)) (ha:w.heap[a]?=some (cl #[vI wT,.map (some b),vU since] 204))
 (ho:w.ownsMap Tryz.prog 3 (plainElem (H:=Unit) Tryz.prog 9) b nd D) (hM:bq dy LW D l) (hn:(l.map (·.1)).Nodup)
 (hmo:w.ownsMap Tryz.prog 31 dU mb n DM) (hMM:bq aV J4 DM ml) (hid:id<18446744073709551616) (hin:(id,a)∈ml)
 (hpb:p≠b) (hpm:p≠mb) (hh:held<9223372036854775808) (hl:af.pV l+rest=held) :
 Calls Tryz.prog 81 #[vP p 0,vU id] w (GQ w p mb slots room id rest):=by
 obtain ⟨p0,p1,p2,p3,_⟩:=jJ hp
 obtain ⟨a0,a1,a2⟩:=rD ha
 have lk:=xO hmo hMM hid hin false
 simp only [dY,if_false] at lk
 obtain ⟨HP,HM,HN,HO,Iz,HL,HH,Ez⟩:=hi8 hp hM hn ho hmo hl hh hid
 clear hp ha ho hM hn hmo hl hh hMM hin
 go_enter Tryz.func81,Tryz.ntmps81
 go_wp2_with (at_range;refine wpList_range_own _ rfl _ 202 rfl 3 9 BI Tryz.underlying202 _ b nd D rfl HO.out ?_;intro w0 hrg0 hg0 hs0)
 go_frame
 have IA:=Hi hs0
 clear hs0
 go_loopw [5] (fun _ wr=>L6 w p mb slots room b w.heap.size nd held D l wr) (fun _ wr=>wr.rangeLeft b w.heap.size)
 case atStart=>exact ⟨_,_,hrg0,HM.out.only,by rw [Ka HM.out,hg0.block p (lt_of_block HP.out) (by simp),HP.out];simp,az.grown hg0 aH⟩
 case round =>
  obtain ⟨left,cnt,hrg,hk,hpc,ht⟩:=hrel;obtain ⟨HPC,HT,wU,HK⟩:=hi4 hpc ht hrg hk;obtain ⟨q0,q1,q2,q3,q4⟩:=jJ hpc;clear hpc ht hrg hk p0 p1 p2 p3 a0 a1 a2 hrg0 hg0 lk;go_wp2_with (at_next;refine J7 _ rfl _ rfl b w.heap.size nd D left cnt l rfl wU.out HM.out HK.out ?_ ?_)
  ·intro hl0;have sr:((held:Int) - mY left l)=rest:=by rw [Tc hl0];have:=HL.out;omega
   rw [sr] at q3;obtain ⟨w2,hrun,_,_⟩:=(Iz.out.same (HT.out.block mb Iz.out.lt aR)).drop mX Tryz.underlying198 (iy Ez.out) 0;have HD:Hid (GQ w p mb slots room id rest (.returned (.tuple #[])) w2):=Hi ⟨rfl,wr,HT.out,by rw [←sr];exact HPC.out,0,hrun⟩;have GR:=Hi hrun;clear hrun sr hl0;go_wp2_with (at_delete;refine pq _ rfl _ _ 198 31 rfl rfl rfl GR.out ?_)
   go_end0;exact HD.out
  ·intro i s w2 cnt2 hin BU hrg2 hlt hg2 hs2 hen;have hpw:p<wr.heap.size:=lt_of_block HPC.out;have DG:p<w.heap.size:=lt_of_block HP.out;have LY:=(hg2.block p hpw aR).trans HPC.out;obtain ⟨q0,q1,q2,q3,q4⟩:=jJ LY;have hds:=Cw BU HN.out hin;have hdl:=LZ (fun z=>left z&&!z.sameKey (dy i)) l;have hs3:=sU LY (vI ((held:Int) - mY left l - s.length));have gj:=(HT.out.trans (az.grown (S:=[w.heap.size]) hg2 (fun j e=>.inl nX)) (fun j e=>.inr Ap)).trans (az.setCell (a:=⟨p,3,none⟩) (S:=[p]) aH (vI ((held:Int) - mY left l - s.length))) (fun j e=>.inl e);have LM:=HL.out;have hh1:=HH.out;have d1:(mY left l:Int)+s.length≤held:=ax;have d2:(s.length:Int)≤9223372036854775807:=ax;have d3:(held:Int)≤9223372036854775807:=ax;have d4:(0:Int)≤mY left l:=ax;have hx:((held:Int) - mY left l - s.length)=(held:Int) - (mY (fun z=>left z&&!z.sameKey (dy i)) l:Nat):=ax;have hrg3:=hrg2.same (w':=w2.setCell ⟨p,3,none⟩ (vI ((held:Int) - mY left l - s.length))) (Below.heap_setCell _ _ _ _ aR) (Below.heap_setCell _ _ _ _ aR);have HR:Hid (L6 w p mb slots room b w.heap.size nd held D l (w2.setCell ⟨p,3,none⟩ (vI ((held:Int) - mY left l - s.length)))) :=
    Hi ⟨_,cnt2,hrg3,fun kl h=>HK.out kl GK,by rw [←hx];exact hs3,gj⟩
   have Iw:Hid ((w2.setCell ⟨p,3,none⟩ (vI ((held:Int) - mY left l - s.length))).rangeLeft b w.heap.size<wr.rangeLeft b w.heap.size):=Hi (by rw [hrg3.left_eq,wU.out.left_eq];exact hlt);clear hds hdl hs3 gj LM hh1 hx hrg3 hrg2 hg2 LY hin BU;generalize mY left l=d at *;exact SY
end Go.Proofs.N0
namespace Go.Proofs.N0
open Go.RowKit Go.Maps Go.ChangeMaps
variable {p mb:Nat} {l:List af.bX} {st:af.aP} {m:af.bX}
theorem rE {α β:Type} (f:α→List β) (p:α→Bool):∀ l:List α,((l.filter p).flatMap f).Sublist (l.flatMap f)
 | []=>List.Sublist.refl _
 | x::l=>by
  rw [oO];split
  ·rw [tB,tB];exact (List.Sublist.refl _).append (rE f p l)
  ·rw [tB];exact (rE f p l).trans (List.sublist_append_right _ _)
theorem pE (p mb:Nat) (A:Nat→Nat×Nat) (l:List af.bX) (q:af.bX→Bool):(aJ p mb A (l.filter q)).Sublist (aJ p mb A l):=((rE _ q l).cons_cons _).cons_cons _
theorem fy {A:Nat→Nat×Nat} (h:(aJ p mb A l).Nodup):p≠mb∧∀ m∈l,(A m.id).1≠p∧(A m.id).2≠p∧(A m.id).1≠mb∧(A m.id).2≠mb∧(A m.id).1≠(A m.id).2:=by
 simp only [aJ,uM,gF,not_or] at h
 obtain ⟨⟨h1,h2⟩,h3,h4⟩:=h
 refine ⟨h1,fun m hm=>?_⟩
 have m1:(A m.id).1∈l.flatMap fun m=>[(A m.id).1,(A m.id).2]:=List.mem_flatMap.2 ⟨m,hm,aH⟩
 have m2:(A m.id).2∈l.flatMap fun m=>[(A m.id).1,(A m.id).2]:=List.mem_flatMap.2 ⟨m,hm,aH⟩
 refine ⟨fun e=>h2 (e▸m1),fun e=>h2 (e▸m2),fun e=>h3 (e▸m1),fun e=>h3 (e▸m2),fun e=>?_⟩
 clear h2 h3 m1 m2
 induction l with
 | nil=>simp at hm
 | cons x l ih =>
  rw [tB] at h4;rcases List.mem_cons.1 hm with h5|h5
  ·have:=(List.nodup_append.1 h4).1
   rw [←h5] at this
   simp [e] at this
  ·exact ih (List.nodup_append.1 h4).2.1 h5
theorem EC {A:Nat→Nat×Nat} (h:(aJ p mb A l).Nodup) {x y:af.bX} (hx:x∈l) (hy:y∈l) (e:x.id≠y.id):(A x.id).1≠(A y.id).2∧(A x.id).2≠(A y.id).2:=by
 simp only [aJ,uM] at h
 have h4:=h.2.2
 clear h
 induction l with
 | nil=>simp at hx
 | cons z l ih =>
  rw [tB] at h4;obtain ⟨_,h5,h6⟩:=List.nodup_append.1 h4;have fX:∀ u∈l,(A u.id).1∈l.flatMap (fun m=>[(A m.id).1,(A m.id).2])∧(A u.id).2∈l.flatMap (fun m=>[(A m.id).1,(A m.id).2]):=fun u hu=>⟨List.mem_flatMap.2 ⟨u,hu,aH⟩,List.mem_flatMap.2 ⟨u,hu,aH⟩⟩
  rcases List.mem_cons.1 hx with h1|h1<;>rcases List.mem_cons.1 hy with h2|h2
  ·exact absurd (by rw [h1,h2]) e
  ·rw [h1];exact ⟨h6 _ aH _ (fX y h2).2,h6 _ aH _ (fX y h2).2⟩
  ·rw [h2];exact ⟨fun e'=>h6 _ aH _ (fX x h1).1 e'.symm,fun e'=>h6 _ aH _ (fX x h1).2 e'.symm⟩
  ·exact ih h1 h2 h5
theorem cG.without {w w1 w3:World} {A:Nat→Nat×Nat} {D:DataW Unit} (h:cG w p mb st A D) (hi:(st.l.map (·.id)).Nodup) {id:Nat} (ht:az [p] w w1)
 (hb:w1.heap[p]?=some (cl (rC mb st.slots st.room (st.without id).held) 200)) (hm:w1.mapTurned w3 mb):cG w3 p mb (st.without id) A (D.del (aV id)):=by
 have hne:=fy h.apart
 have hp:p<w.heap.size:=lt_of_block h.box
 have hg:=hm.grown
 have hsz:=ht.size
 refine ⟨?_,fun m hm'=>?_,(pE p mb A st.l _).nodup h.apart,?_⟩
 ·rw [hg.block p ax (by simp;exact hne.1),hb];rfl
 ·have hml:m∈st.l:=(List.mem_filter.1 hm').1;have n:=hne.2 m hml;have hM:=h.msgs m hml;have l1:=lt_of_block hM.box;have l2:=hM.parts.lt;refine hM.same ?_ ?_
  ·rw [hg.block _ ax (by simp;exact n.2.2.1),ht.block _ l1 (by simp;exact n.1)]
  ·rw [hg.block _ ax (by simp;exact n.2.2.2.1),ht.block _ l2 (by simp;exact n.2.1)]
 ·have:=h.maps.del kV (by rw [List.map_map];exact hi) id
  rw [List.filter_map] at this
  exact this
theorem Td {now:Nat} {left:Lit→Bool} (hi:(l.map (·.id)).Nodup) (hm:m∈l) (ho:m.old now=true) :
 (l.filter fun x=>!x.old now||(left (aV x.id)&&!(aV x.id).sameKey (aV m.id)))=(l.filter fun x=>!x.old now||left (aV x.id)).filter fun x=>!(x.id==m.id):=by
 rw [List.filter_filter]
 apply yX
 intro x hx
 rw [jm]
 by_cases e:x.id=m.id
 ·have:x=m:=af.uP hi hx hm e;subst this;simp [ho]
 ·have e':(x.id==m.id)=false:=Ip;simp only [e',nS,Bool.and_true,DK]
theorem Te {now:Nat} {left:Lit→Bool} (hi:(l.map (·.id)).Nodup) (hm:m∈l) (ho:m.old now=false) :
 (l.filter fun x=>!x.old now||(left (aV x.id)&&!(aV x.id).sameKey (aV m.id)))=l.filter fun x=>!x.old now||left (aV x.id):=by
 apply yX
 intro x hx
 rw [jm]
 by_cases e:x.id=m.id
 ·have:x=m:=af.uP hi hx hm e;subst this;simp [ho]
 ·have e':(x.id==m.id)=false:=Ip;simp only [e',nS,Bool.and_true]
def ED (w:World) (p mb r now:Nat) (st:af.aP) (A:Nat→Nat×Nat) (nv:Value) (wr:World):Prop :=
 ∃ left cnt D L,L=(st.l.filter fun m=>!m.old now||left (aV m.id))∧cG wr p mb ⟨st.slots,st.room,L⟩ A D∧wr.ranges Tryz.prog 31 dU mb r st.l.length D left cnt∧(∀ kl,left kl=true→∃ i,kl=aV i) ∧
  nv=vI (st.l.length - L.length:Nat)∧az (aJ p mb A st.l) w wr
def GU (w:World) (p now:Nat) (st:af.aP) (S:List Nat) (e:Ending) (w':World):Prop :=
 e=.returned (vI (st.l.length - (st.expire now).l.length:Nat))∧∃ S',cn w' p (st.expire now) S'∧(∀ i∈S',i∈S)∧az S w w'
theorem Kb (h:st.Ok) (q:af.bX→Bool):(af.aP.mk st.slots st.room (st.l.filter q)).Ok :=
 ⟨h.s1,h.r1,Fc (lG _ _) h.len,Fc (af.kM _ _) h.held,(List.filter_sublist.map _).nodup h.ids,fun m hm=>h.each m (List.mem_filter.1 hm).1⟩
theorem fS {now:Nat} {A:Nat→Nat×Nat} {D0:DataW Unit} (w:World) (hc:cG w p mb st A D0) (ho:w.ownsMap Tryz.prog 31 dU mb st.l.length D0) (hok:st.Ok) (cT:now<18446744073709551616) :
 Calls Tryz.prog 42 #[vP p 0,vU now] w (GU w p now st (aJ p mb A st.l)):=by
 obtain ⟨p0,p1,p2,p3,_⟩:=jJ hc.box
 obtain ⟨HC,HO,jx⟩:=ju hc ho hok
 clear hc ho hok
 go_enter Tryz.func42,Tryz.ntmps42
 go_wp2_with (at_range;refine wpList_range_own _ rfl _ 198 rfl 31 196 mX Tryz.underlying198 _ mb st.l.length D0 rfl HO.out ?_;intro w0 hrg0 hg0 hs0)
 go_frame
 have IA:=Hi hs0
 have pP:=Hi (HC.out.lt HO.out.lt)
 clear hs0 p0 p1 p2 p3
 go_loopw [5] (fun nv wr=>ED w p mb w.heap.size now st A nv wr) (fun _ wr=>wr.rangeLeft mb w.heap.size)
 case atStart =>
  refine ⟨_,_,D0,st.l,?_,?_,hrg0,HC.out.maps.only,aH,az.grown hg0 aH⟩
  ·symm;refine List.filter_eq_self.2 fun m hm=>?_;rw [HC.out.maps.has m.id];have:(List.map (fun m:af.bX=>(m.id,(A m.id).1)) st.l).any (fun p=>p.1==m.id)=true:=List.any_eq_true.2 ⟨_,mG hm,aH⟩;rw [this];simp
  ·exact HC.out.same fun i hi _=>hg0.block i (pP.out i hi) aH
 case round =>
  obtain ⟨left,cnt,D,L,hL,ZZ,hrg,hk,rfl,ht⟩:=hrel;have hLs:∀ m∈L,m∈st.l:=fun m hm=>by rw [hL] at hm;exact (List.mem_filter.1 hm).1
  obtain ⟨HL,HCR,HT,wU,HK,HLS⟩:=Vn hL ZZ ht hrg hk hLs;clear hL ZZ ht hrg hk hLs hrg0 hg0;obtain ⟨ml,hml⟩:∃ ml,ml=L.map fun m=>(m.id,(A m.id).1):=⟨_,rfl⟩
  have HML:=Hi hml;have HMP:Hid (bq aV J4 D ml):=Hi (by rw [hml];exact HCR.out.maps);clear hml;have Sy:st.l.length≤16:=by have:=jx.out.len;have:=jx.out.s1;omega
  have hLL:L.length≤st.l.length:=by rw [HL.out];exact lG _ _
  go_wp2_with (at_next;refine Ou _ rfl _ rfl mb w.heap.size st.l.length D left cnt _ rfl wU.out HMP.out HK.out ?_ ?_)
  ·intro hl0;have hLe:L=(st.expire now).l:=by rw [HL.out];show _=st.l.filter _;apply yX;intro x _;rw [hl0];simp
   have HE:Hid (GU w p now st (aJ p mb A st.l) (.returned (vI (st.l.length - L.length:Nat))) wr):=by
    refine Hi ⟨by rw [hLe],aJ p mb A L,⟨mb,A,D,?_,?_,by rw [hLe]⟩,?_,HT.out⟩
    ·have:=HCR.out;rw [hLe] at this;exact this
    ·have:=wU.out.owns.tight
     rw [HCR.out.maps.size,Fw,hLe] at this
     exact this
    ·intro i hi;rw [HL.out] at hi;exact (pE p mb A st.l _).subset hi
   clear hl0 hLe;go_wp2_with fail;go_ret;exact HE.out
  ·intro i s w2 cnt2 hin BU hrg2 hlt hg2 hs2 hen;obtain ⟨m,hm,em⟩:=List.mem_map.1 (HML.out▸hin);simp only [Prod.mk.injEq] at em;obtain ⟨rfl,rfl⟩:=em;have nY:=HLS.out m hm;have hnb:=fy HC.out.apart;have hLT:=HT.out.size;have hsub:∀ i∈aJ p mb A L,i<w.heap.size:=fun i hi=>pP.out i (by rw [HL.out] at hi;exact (pE p mb A st.l _).subset hi);have Kc:cG w2 p mb ⟨st.slots,st.room,L⟩ A D:=HCR.out.same fun i hi _=>hg2.block i (by have:=hsub i hi;omega) (by have:=hsub i hi;simp;omega);have IB:az (aJ p mb A st.l) w w2:=HT.out.trans (az.grown (S:=[w.heap.size]) hg2 (fun j e=>.inl nX)) (fun j e=>.inr Ap);have hM:=Kc.msgs m hm;obtain ⟨a0,a1,a2⟩:=rD hM.box;have hmo:=jx.out.each m nY;have hsi:=hmo.since;have hi1:=hmo.id2;obtain ⟨Xz,wV,HM,pX,Tf,HLI,HLTC,Wc,Iz⟩:=hi9 Kc IB hM hrg2 hsub BU hlt hs2 hmo;obtain ⟨ox,yt,Iw⟩:=ju hin hm nY;clear Kc IB hM hrg2 hsub BU hlt hs2 hmo hin hm nY hnb hg2;by_cases hold:m.old now=true
   ·have ho':m.since<now∧50<now - m.since:=by simpa [af.bX.old] using hold
    have h1:m.since<now:=ho'.1;have h2:(50:Int)<(now:Int) - m.since:=ax;have HOLD:=Hi hold;clear hold ho';have HB:=Hi (af.uQ (p:=⟨st.slots,st.room,L⟩) (by rw [HL.out];exact Kb jx.out _) yt.out);have Ke:=(by rw [HL.out];exact Kb jx.out _:(af.aP.mk st.slots st.room L).Ok)
    have XA:=Hi Ke;have hhb:(af.aP.mk st.slots st.room L).held<9223372036854775808:=by have:=Ke.held;have:=Ke.r1;simp only at *;omega
    clear Ke;obtain ⟨DP,hop,Iy⟩:=HM.out.parts;have CF:=Hi (Au (w:=w2) (rest:=((af.aP.mk st.slots st.room L).without m.id).held) Xz.out.box HM.out.box hop Iy Iz.out.keys pX.out.owns Xz.out.maps (by omega:m.id<18446744073709551616) (HML.out▸ox.out)
     (by have:=(fy Xz.out.apart).2 m yt.out;omega) (fy Xz.out.apart).1 hhb (by have:=HB.out;unfold af.bX.bytes at this;omega))
    clear hop Iy hhb a0 a1;go_wp2_with fail;refine CF.out.mono ?_;rintro e w3 ⟨rfl,w1,J3,hb1,ty,hrun⟩;obtain ⟨w4,Tg,Cx,XB,hle4,hmt4⟩:=(pX.out.same (J3.block mb pX.out.owns.lt (by simp;exact sg (fy Xz.out.apart).1)) (J3.block w.heap.size pX.out.lt (by simp;have:=Tf.out p (by simp [aJ]);omega))).drop mX Tryz.underlying198 (iy (by omega:m.id<18446744073709551616)) ty;have e34:w4=w3:=by rw [hrun] at Cx;injection Cx with _ e;exact e.symm
    subst e34;rw [strike_twice] at XB;have Th:=Xz.out.without XA.out.ids J3 hb1 hmt4;have HR:Hid (ED w p mb w.heap.size now st A (vI ((st.l.length - L.length:Nat)+1)) w4):=by
     have hlen:=af.Fo (p:=⟨st.slots,st.room,L⟩) XA.out yt.out;refine Hi ⟨_,Tg,_,_,?_,Th,XB,fun kl h=>HK.out kl GK,?_,?_⟩
     ·rw [Td jx.out.ids Iw.out HOLD.out,←HL.out]
     ·have hlen':(af.aP.without ⟨st.slots,st.room,L⟩ m.id).l.length+1=L.length:=hlen;have e:(((st.l.length - L.length:Nat):Int)+1)=((st.l.length - (af.aP.without ⟨st.slots,st.room,L⟩ m.id).l.length:Nat):Int):=ax;exact congrArg (Value.int .i64) e
     ·refine (wV.out.trans J3 (fun j e=>.inl ?_)).trans (az.grown (S:=[mb]) hmt4.grown (fun j e=>.inl nX)) (fun j e=>.inl ?_)
      ·simp at e;subst e;simp [aJ]
      ·simp at e;subst e;simp [aJ]
    have HMS4:Hid (w4.rangeLeft mb w.heap.size<wr.rangeLeft mb w.heap.size):=Hi (by rw [XB.left_eq,wU.out.left_eq];have:=HLTC.out;omega);clear J3 hb1 hrun Cx XB hle4 hmt4 Th hen;exact Za
   ·have hold':m.old now=false:=by simpa using hold
    have HR:Hid (ED w p mb w.heap.size now st A (vI (st.l.length - L.length:Nat)) w2):=by refine Hi ⟨_,cnt2,D,L,?_,Xz.out,pX.out,fun kl h=>HK.out kl GK,rfl,wV.out⟩;rw [Te jx.out.ids Iw.out hold',←HL.out]
    have HMS4:Hid (w2.rangeLeft mb w.heap.size<wr.rangeLeft mb w.heap.size):=Hi (by rw [pX.out.left_eq,wU.out.left_eq];exact HLTC.out);have ho':¬(m.since<now∧50<now - m.since):=by simpa [af.bX.old] using hold'
    clear hold hold' a0 a1;by_cases h1:m.since<now
    ·have h2:¬(50:Int)<(now:Int) - m.since:=ax;clear ho';exact Za
    ·clear ho';exact Za
end Go.Proofs.N0
namespace af
variable {k id n L:Nat} {s:List UInt8}
def eB (fs:List bC) (i:Nat):bC:=fs.getD i iG
def Good (fs:List bC) (i:Nat):Prop:=(eB fs i).ok∧(eB fs i).id=(eB fs 0).id∧(eB fs i).count=fs.length∧(eB fs i).index=i
instance goodDec (fs:List bC) (i:Nat):Decidable (Good fs i):=by unfold Good;infer_instance
def joined (fs:List bC) (k:Nat):List UInt8:=(fs.take k).flatMap (·.part)
theorem GV (fs:List bC) (hk:k<fs.length):joined fs (k+1)=joined fs k++(eB fs k).part:=by unfold joined eB;rw [List.take_add_one,lz hk,jO,ux,lz hk];simp
def join (fs:List bC):List UInt8×Nat :=
 if fs.length<1∨16<fs.length then ([],3)
 else if ∀ i,i<fs.length→Good fs i then (if 4096<(joined fs fs.length).length then ([],4) else (joined fs fs.length,0)) else ([],3)
theorem Ox {fs:List bC} (hk:k<fs.length):eB fs k=fs[k]:=by simp [eB,ux,lz hk]
theorem pF (s:List UInt8) (id n:Nat):(gw s id n).length=many s.length n:=by simp [gw]
theorem wW (hk:k<many s.length n):eB (gw s id n) k=⟨id,k,many s.length n,(s.drop (k*n)).take n⟩:=by rw [Ox (by rw [pF];exact hk)];simp [gw]
theorem XC (hn:1≤n) (h:k<many L n):k*n<L:=Go.Proofs.N0.IK hn h
theorem Ma (hn:1≤n) (h:many L n≤k):L≤k*n:=Go.Proofs.N0.Qi hn h
structure lC (s:List UInt8) (id n:Nat):Prop where
 id1:1≤id
 id2:id≤4294967296
 n1:1≤n
 n2:n≤1000
 s1:1≤s.length
 s2:s.length≤4096
 m:many s.length n≤16
theorem lC.pos (h:lC s id n):1≤many s.length n:=Nat.pos_of_ne_zero fun e=>by
 have:=Ma (L:=s.length) (k:=0) h.n1 ax
 have:=h.s1
 omega
theorem lC.cuts (h:lC s id n):cut s id n=(gw s id n,0):=by
 have:=h.id1;have:=h.id2;have:=h.n1;have:=h.n2;have:=h.s1;have:=h.s2;have:=h.m
 unfold af.cut
 rw [if_neg ax,if_neg (by rw [IG];omega)]
 rfl
theorem lC.ok (h:lC s id n) (hk:k<many s.length n):(eB (gw s id n) k).ok:=by
 have:=XC h.n1 hk
 rw [wW hk]
 refine ⟨h.id1,h.id2,?_,?_,?_,?_,?_,?_⟩
 ·have:=h.pos;show (1:Int)≤(many s.length n:Int);omega
 ·have:=h.m;show (many s.length n:Int)≤16;omega
 ·show (0:Int)≤(k:Int);omega
 ·show (k:Int)<(many s.length n:Int);omega
 ·show 1≤((s.drop (k*n)).take n).length;simp only [fJ,List.length_drop];have:=h.n1;omega
 ·show ((s.drop (k*n)).take n).length≤1000;simp only [fJ,List.length_drop];have:=h.n2;omega
theorem Av {s:List UInt8} {id n:Nat} (hn:1≤n):∀ k,k≤many s.length n→joined (gw s id n) k=s.take (k*n)
 | 0,_=>by simp [joined]
 | k+1,hk=>by rw [GV _ (by rw [pF];omega),Av hn k ax,wW ax];rw [show (k+1)*n=k*n+n by rw [Nat.succ_mul],List.take_add]
theorem lC.parts (h:lC s id n):joined (gw s id n) (gw s id n).length=s:=by rw [pF,Av h.n1 _ (cC _)];exact BD (Ma h.n1 (cC _))
end af
namespace Go.Proofs.N0
open Go.RowKit Go.Shelf
variable {w w':World} {fs:List af.bC} {base size n:Nat} {e:TypeId} {v:Value} {xs:List Value}
theorem fT {f:af.bC} {b:Bool} (hr:f.right=b) (w:World) :
 Calls Tryz.prog 79 #[.agg (jg f)] w fun e w'=>e=.returned (.bool b)∧Below w.heap.size w w':=by
 subst hr
 exact mF f.id f.index f.count ⟨f.part.toArray⟩ w
def yM (w:World) (b o:Nat) (fs:List af.bC):Prop :=
 ∀ i,i<fs.length→w.cell? ⟨b,o+i*4,none⟩=some (vU (af.eB fs i).id)∧w.cell? ⟨b,o+i*4+1,none⟩=some (vI (af.eB fs i).index) ∧
  w.cell? ⟨b,o+i*4+2,none⟩=some (vI (af.eB fs i).count)∧w.cell? ⟨b,o+i*4+3,none⟩=some (vS (af.eB fs i).part)
theorem yM.later {b o:Nat} (h:yM w b o fs) (hb:Below w.heap.size w w'):yM w' b o fs:=fun i hi =>
 have k:=h i hi
 ⟨(hb.cell (World.block_lt_of_cell? w _ k.1)).trans k.1,(hb.cell (World.block_lt_of_cell? w _ k.2.1)).trans k.2.1,(hb.cell (World.block_lt_of_cell? w _ k.2.2.1)).trans k.2.2.1,(hb.cell (World.block_lt_of_cell? w _ k.2.2.2)).trans k.2.2.2⟩
theorem Ti (fs:List af.bC):∀ i,i<fs.length→(fs.flatMap dH)[i*4]?=some (vU (af.eB fs i).id)∧(fs.flatMap dH)[i*4+1]?=some (vI (af.eB fs i).index) ∧
 (fs.flatMap dH)[i*4+2]?=some (vI (af.eB fs i).count)∧(fs.flatMap dH)[i*4+3]?=some (vS (af.eB fs i).part):=by
 induction fs with
 | nil=>intro i hi;simp at hi
 | cons f fs ih =>
  intro i hi
  cases i with
  | zero=>simp [af.eB,dH]
  | succ i =>
   have:=ih i D9
   have e:∀ j,((f::fs).flatMap dH)[(i+1)*4+j]?=(fs.flatMap dH)[i*4+j]?:=fun j=>by rw [tB,lg (by simp [dH];omega)];congr 1;simp [dH];omega
   have e0:=e 0
   simp only [Nat.add_zero] at e0
   rw [e0,e 1,e 2,e 3]
   exact this
theorem GX {g cap:Nat} (h:w.ownsRow base e 4 (vL g 0 fs.length cap) fs.length (fs.flatMap dH)):yM w g 0 fs:=by intro i hi;obtain ⟨a,b,c,d⟩:=Ti fs i hi;simp only [bF];exact ⟨(h.cellAt _ ax).trans a,(h.cellAt _ ax).trans b,(h.cellAt _ ax).trans c,(h.cellAt _ ax).trans d⟩
theorem gl (h:w.ownsRow base e size v n xs):∃ a cap,v=.slice a n cap:=by
 rcases h.2 with ⟨rfl,rfl⟩|⟨g,cap,cur,rfl,_⟩
 ·exact ⟨_,_,rfl⟩
 ·exact ⟨_,_,rfl⟩
theorem kX (h:w.ownsRow base e size v n xs) (hn:0<n):∃ g cap,v=vL g 0 n cap∧n≤cap∧cap≤maxLen:=by
 rcases h.2 with ⟨_,h0⟩|⟨g,cap,_,h1,_,_,h2,h3,_⟩
 ·omega
 ·exact ⟨g,cap,h1,h2,h3⟩
theorem rU {e:Nat} (h:w.ownsRow base e size v n xs) (hb:Below w.heap.size w w'):w'.ownsRow base e size v n xs :=
 h.kept (row:=none) ⟨hb.os,hb.tape,hb.output,hb.size,fun k hk _=>hb.block k hk⟩ (by cases v.ownBlock<;>simp)
end Go.Proofs.N0
namespace Go.Proofs.N0
open Go.RowKit Go.Maps Go.ChangeMaps
variable {p mb a b slots room i id:Nat} {s:List UInt8} {w w6:World} {m:af.bX} {q:af.aP}
def Mb (w:World) (p b mb slots room held wT i:Nat) (l:List (Nat×List UInt8)) (s:List UInt8) (e:Ending) (w':World):Prop :=
 e=.returned (.bool (decide (l.length+1=wT)))∧w'.heap[p]?=some (cl (rC mb slots room (held+s.length:Nat)) 200)∧jI w' b (l++[(i,s)])∧az [p,b] w w'
theorem Oy {wT since held:Nat} {cf:Int} {D:DataW Unit} {l:List (Nat×List UInt8)} (w:World)
 (hp:w.heap[p]?=some (cl (rC mb slots room held) 200)) (ha:w.heap[a]?=some (cl #[vI wT,.map (some b),vU since] 204))
 (ho:w.ownsMap Tryz.prog 3 (plainElem (H:=Unit) Tryz.prog 9) b l.length D) (hM:bq dy LW D l) (hno:(l.any fun q=>q.1==i)=false)
 (hpa:p≠a) (hpb:p≠b) (hab:a≠b) (hi:i<1000) (hl:l.length<1000) (hs:s.length≤100000) (hh:held≤100000) :
 Calls Tryz.prog 80 #[vP p 0,vP a 0,.agg #[vU id,vI i,vI cf,vS s]] w (Mb w p b mb slots room held wT i l s):=by
 have hlp:=lt_of_block hp
 have hla:=lt_of_block ha
 have hlb:=ho.lt
 have HW:=Hi (World.size_alloc w (cl #[vU id,vI i,vI cf,vS s] 116))
 have hp1:=(Below.heap_alloc w (cl #[vU id,vI i,vI cf,vS s] 116) p hlp).trans hp
 have ha1:=(Below.heap_alloc w (cl #[vU id,vI i,vI cf,vS s] 116) a hla).trans ha
 have ho1:=ho.alloc (cl #[vU id,vI i,vI cf,vS s] 116)
 have M1:=(Mem.start w).alloc (cl #[vU id,vI i,vI cf,vS s] 116)
 have r1:=rl M1.rules
 have HHA:=Hi ha1;have HHP:=Hi hp1;have HO:=Hi ho1;have HM:=Hi hM;have XD:=Hi hno;have sW:Hid (az [p,b] w _):=Hi (az.below M1.dZ)
 have sw:=Hi M1
 obtain ⟨p0,p1,p2,p3,p4⟩:=jJ hp1
 obtain ⟨a0,a1,a2⟩:=rD ha1
 clear hp ha hp1 ha1 ho ho1 hM hno M1
 go_enter Tryz.func80,Tryz.ntmps80
 go_wp2_with fail
 generalize w.alloc (cl #[vU id,vI i,vI cf,vS s] 116)=W1 at *
 go_still_tail 8,aI
 change wpList _ _ _ _ _ W1.drew
 refine wpList_mapUpdate_own _ rfl _ _ _ 202 rfl 3 9 BI Tryz.underlying202 _ b l.length D rfl HO.out.drew KY _ _ _ rfl rfl (ru (i:=i) ax) (LW s) [] (plainElem_string Tryz.underlying9 (by show s.length≤_;unfold maxLen;omega)) ?_
 intro w2 hown2 hg2
 have LY:=(hg2.block p (lt_of_block HHP.out) aR).trans HHP.out
 have ha2:=(hg2.block a (lt_of_block HHA.out) aR).trans HHA.out
 have hm2:=(hg2.block w.heap.size (by have:=HW.out;show _<W1.heap.size;omega) aR).trans (sw.out.get 0 rfl)
 have hpt:jI w2 b (l++[(i,s)]):=⟨_,by rw [E5];exact hown2,HM.out.put Aq wS s XD.out⟩
 have gj:=(sW.out.trans (az.below (S:=[]) (Below.refl _ W1).drew) (fun j e=>absurd e aH)).trans (az.grown (S:=[b]) hg2 (fun j e=>.inl nX)) (fun j e=>.inl Xo)
 obtain ⟨HP2,uf,HPT,wV⟩:=hi4 LY ha2 hpt gj
 obtain ⟨p0,p1,p2,p3,p4⟩:=jJ LY
 obtain ⟨a0,a1,a2⟩:=rD ha2
 have r2:=jJ hm2
 clear LY ha2 hpt gj hm2 r1 hown2 hg2 HO HHA HHP sW sw
 go_wp2_with fail
 go_still_tail 10,aI
 change wpList _ _ _ _ _ w2.drew
 have hp3:w2.drew.heap[p]?=_:=HP2.out
 have ha3:w2.drew.heap[a]?=_:=uf.out
 have hpt3:jI w2.drew b (l++[(i,s)]):=HPT.out.same rfl
 have Bj:az [p,b] w w2.drew:=wV.out.trans (az.below (S:=[]) (Below.refl _ w2).drew) (fun j e=>absurd e aH)
 clear HP2 uf HPT wV r2 p0 p1 p2 p3 p4 a0 a1 a2
 generalize w2.drew=W at *
 have hx:((held:Int)+s.length)=((held+s.length:Nat):Int):=ax
 have hwr:IntKind.i64.wrap ((held:Int)+s.length)=(held:Int)+s.length:=IntWalk.i64_in _ ax
 have hp5:=sU hp3 (vI ((held:Int)+s.length))
 have ha5:=(Below.heap_setCell W ⟨p,3,none⟩ (vI ((held:Int)+s.length)) a aR).trans ha3
 have hpt5:=hpt3.same (w':=W.setCell ⟨p,3,none⟩ (vI ((held:Int)+s.length))) (Below.heap_setCell W ⟨p,3,none⟩ (vI ((held:Int)+s.length)) b aR)
 have ht5:=Bj.trans (az.setCell (S:=[p]) (w:=W) (a:=⟨p,3,none⟩) aH (vI ((held:Int)+s.length))) (fun j e=>.inl Xo)
 obtain ⟨HP5,HA5,XE,HT5,HX⟩:=vT hp5 ha5 hpt5 ht5 hx
 obtain ⟨p0,p1,p2,p3,p4⟩:=jJ hp3
 clear hp5 ha5 hpt5 ht5 hp3 ha3 hpt3 Bj hx
 go_wp2_with fail
 clear p0 p1 p2 p3 p4 hwr
 generalize W.setCell ⟨p,3,none⟩ (vI ((held:Int)+s.length))=W5 at *
 have a1:∀ x:Later W5,x.world.cell? ⟨a,1,none⟩=some (.map (some b)):=fun x=>x.cell (rD HA5.out).2.1
 have a0:∀ x:Later W5,x.world.cell? ⟨a,0,none⟩=some (vI wT):=fun x=>x.cell (rD HA5.out).1
 have Wi:∀ x:Later W5,(Builtin.len_ #[202] 3 #[.map (some b)]).run Tryz.prog x.world=.ok (vI (l.length+1:Nat)) x.world:=fun x=>by
  obtain ⟨D5,VC,hM5⟩:=XE.out.same (x.below.block b XE.out.lt)
  have:=VC.len Tryz.underlying202 3
  rw [hM5.size,E5] at this
  exact this
 refine ay aI aI ?_
 repeat go_big_quiet_step (fail)
 refine wpQuiet_nil ?_
 rintro ⟨w',hb'⟩
 go_wp2_with fail
 go_ret
 refine ⟨gH (by rw [Bool.eq_iff_iff];simp;omega),(hb'.block p (lt_of_block HP5.out)).trans (by rw [HP5.out,HX.out];rfl),XE.out.same (hb'.block b XE.out.lt),HT5.out.trans (az.below (S:=[]) hb') (fun j e=>absurd e aH)⟩
theorem GM {n:Nat} {D:DataW Unit} {ml:List (Nat×Nat)} (ho:w.ownsMap Tryz.prog 31 dU mb n D) (hM:bq aV J4 D ml):(Builtin.len_ #[198] 3 #[.map (some mb)]).run Tryz.prog w=.ok (vI ml.length) w:=by
 have:=ho.len Tryz.underlying198 3
 rw [hM.size] at this
 exact this
theorem Tj {st:af.aP} {S:List Nat} (w:World) (h:cn w p st S) :
 Calls Tryz.prog 40 #[vP p 0] w fun e w'=>e=.returned (.tuple #[vI st.l.length,vI st.held])∧Below w.heap.size w w':=by
 obtain ⟨mb,A,D,hc,ho,_⟩:=h
 have a0:∀ x:Later w,x.world.cell? ⟨p,0,none⟩=some (.map (some mb)):=fun x=>x.cell (jJ hc.box).1
 have a3:∀ x:Later w,x.world.cell? ⟨p,3,none⟩=some (vI st.held):=fun x=>x.cell (jJ hc.box).2.2.2.1
 have Wi:∀ x:Later w,(Builtin.len_ #[198] 3 #[.map (some mb)]).run Tryz.prog x.world=.ok (vI st.l.length) x.world:=fun x=>by
  have:=GM (ho.same (x.below.block mb ho.lt)) hc.maps
  rw [Fw] at this
  exact this
 clear hc ho
 go_enter Tryz.func40,Tryz.ntmps40
 go_wp2_with fail
 refine ay aI aI ?_
 repeat go_big_quiet_step (fail)
 refine wpQuiet_nil ?_
 rintro ⟨w',hb'⟩
 go_wp2_with fail
 go_ret2
 exact ⟨rfl,hb'⟩
def Z0 (slots room:Nat) (w:World) (e:Ending) (w':World):Prop :=
 ∃ p S,e=.returned (.tuple #[vP p 0,vI 0])∧cn w' p ⟨slots,room,[]⟩ S∧(∀ i∈S,w.heap.size≤i)∧Below w.heap.size w w'
theorem Oz (w:World) (h1:1≤slots) (h2:slots≤16) (h3:1≤room) (h4:room≤65536) :
 Calls Tryz.prog 53 #[vI slots,vI room] w (Z0 slots room w):=by
 have hmm:=@run_makeMap Tryz.prog
 have HN:Hid (Z0 slots room w (.returned (.tuple #[vP (w.heap.size+1) 0,vI 0])) ((w.alloc (.map #[] 0)).alloc (cl #[.map (some w.heap.size),vI slots,vI room,vI 0] 200))):=by
  refine Hi ⟨w.heap.size+1,[w.heap.size+1,w.heap.size],rfl,⟨w.heap.size,fun _=>(0,0),.map [],⟨?_,fun m hm=>absurd hm aH,?_,bq.start⟩,?_,rfl⟩,?_,((Below.refl _ _).alloc (cC _) _).alloc aH _⟩
  ·have:=heap_alloc_new (w.alloc (.map #[] 0)) (cl #[.map (some w.heap.size),vI slots,vI room,vI 0] 200)
   rw [World.size_alloc] at this
   exact this
  ·simp [aJ]
  ·exact (World.ownsMap_made w Tryz.prog 31 dU).alloc _
  ·intro i hi;simp at hi;omega
 go_enter Tryz.func53,Tryz.ntmps53
 go_wp2_with fail
 go_ret2
 exact HN.out
def nM (A:Nat→Nat×Nat) (id a b:Nat) (j:Nat):Nat×Nat:=if j=id then (a,b) else A j
theorem vE {A:Nat→Nat×Nat} {l:List af.bX} (hno:∀ x∈l,x.id≠m.id):aJ p mb (nM A m.id a b) (l++[m])=aJ p mb A l++[a,b]:=by
 have e:(l.flatMap fun x=>[(nM A m.id a b x.id).1,(nM A m.id a b x.id).2])=l.flatMap fun x=>[(A x.id).1,(A x.id).2]:=by
  induction l with
  | nil=>rfl
  | cons x l ih =>
   rw [tB,tB,ih fun y hy=>hno y (xY _ hy)];simp [nM,hno x (dN ..)]
 simp only [aJ,jO,e];simp [nM]
theorem cG.begin {A:Nat→Nat×Nat} {D:DataW Unit} (h:cG w p mb q A D) (hmb:mb<w.heap.size) (hno:∀ x∈q.l,x.id≠m.id) (ha:w.heap.size≤a) (hb:w.heap.size≤b) (hab:a≠b)
 (e:∀ i,i<w.heap.size→i≠p→i≠mb→w6.heap[i]?=w.heap[i]?) (hp:w6.heap[p]?=some (cl (Cu mb (q.begin m)) 200)) (hM:Cv w6 a b m) :
 cG w6 p mb (q.begin m) (nM A m.id a b) (D.put (aV m.id) (J4 a)):=by
 have hlt:=h.lt hmb
 have hne:=(fy h.apart).2
 refine ⟨hp,fun x hx=>?_,?_,?_⟩
 ·rcases List.mem_append.1 hx with hx|hx
  ·have hi:=hno x hx;have hbk:=kH (p:=p) (mb:=mb) (A:=A) hx;have n:=hne x hx;have ew:nM A m.id a b x.id=A x.id:=by simp [nM,hi]
   rw [ew];exact (h.msgs x hx).same (e _ (hlt _ hbk.1) n.1 n.2.2.1) (e _ (hlt _ hbk.2) n.2.1 n.2.2.2.1)
  ·simp only [rZ] at hx;subst hx;have ew:nM A x.id a b x.id=(a,b):=by simp [nM]
   rw [ew];exact hM
 ·show (aJ p mb (nM A m.id a b) (q.l++[m])).Nodup
  rw [vE hno,List.nodup_append]
  refine ⟨h.apart,by simp [hab],?_⟩
  intro x hx y hy exy
  have:=hlt x hx
  simp only [gF,Bp,or_false] at hy
  omega
 ·show bq aV J4 _ ((q.l++[m]).map _)
  rw [dc]
  have em:(q.l.map fun x=>(x.id,(nM A m.id a b x.id).1))=q.l.map fun x=>(x.id,(A x.id).1):=by apply tD;intro x hx;simp [nM,hno x hx]
  have:=h.maps.put kV J6 (k:=m.id) a (by
   rw [List.any_eq_false]
   intro y hy
   obtain ⟨x,hx,rfl⟩:=List.mem_map.1 hy
   simpa using hno x hx)
  rw [em]
  simpa [nM] using this
theorem Aw {A:Nat→Nat×Nat}:aJ p mb A (q.put id i s).l=aJ p mb A q.l:=by
 have:((q.put id i s).l.flatMap fun m=>[(A m.id).1,(A m.id).2])=q.l.flatMap fun m=>[(A m.id).1,(A m.id).2]:=by simp only [af.aP.put,List.flatMap_map];congr 1;funext m;split<;>rfl
 simp only [aJ,this]
theorem cG.put {A:Nat→Nat×Nat} {D:DataW Unit} (h:cG w p mb q A D) (hq:q.Ok) (hm:m∈q.l) (ht:az [p,(A m.id).2] w w6)
 (hp:w6.heap[p]?=some (cl (rC mb q.slots q.room (q.held+s.length:Nat)) 200)) (hP:jI w6 (A m.id).2 (m.parts++[(i,s)])):cG w6 p mb (q.put m.id i s) A D:=by
 have hne:=(fy h.apart).2
 have Vq:=af.qm hq hm
 refine ⟨?_,fun x hx=>?_,by rw [Aw];exact h.apart,?_⟩
 ·rw [hp];show _=some (Obj.cells #[_,_,_,vI ((q.put m.id i s).held)] _ _);rw [af.Be hq Vq];rfl
 ·simp only [af.aP.put,List.mem_map] at hx;obtain ⟨y,hy,rfl⟩:=hx;have hMy:=h.msgs y hy;have ny:=hne y hy;by_cases e:y.id=m.id
  ·have:y=m:=af.uP hq.ids hy hm e;subst this;simp only [BEq.rfl,if_true];exact ⟨(ht.block _ (lt_of_block hMy.box) (by simp;exact ⟨ny.1,ny.2.2.2.2⟩)).trans hMy.box,hP⟩
  ·have e':(y.id==m.id)=false:=Ip;simp only [e',dY,if_false];have nb:=EC h.apart hy hm e;exact hMy.same (ht.block _ (lt_of_block hMy.box) (by simp;exact ⟨ny.1,nb.1⟩)) (ht.block _ hMy.parts.lt (by simp;exact ⟨ny.2.1,nb.2⟩))
 ·have:((q.put m.id i s).l.map fun x=>(x.id,(A x.id).1))=q.l.map fun x=>(x.id,(A x.id).1):=by simp only [af.aP.put,List.map_map];apply tD;intro x _;simp only [Function.comp];split<;>rfl
  rw [this];exact h.maps
end Go.Proofs.N0
namespace Go.Proofs.N0
open Go.RowKit Go.Maps Go.ChangeMaps
variable {p:Nat} {st:af.aP} {S:List Nat} {f:af.bC}
def nN (w:World) (p:Nat) (S:List Nat) (r:af.aP×List UInt8×Bool×Nat) (e:Ending) (w':World):Prop :=
 e=.returned (.tuple #[vS r.2.1,.bool r.2.2.1,vI r.2.2.2])∧∃ S',cn w' p r.1 S'∧(∀ i∈S',i∈S∨w.heap.size≤i)∧az S w w'
structure AF (w0 w:World) (p mb k:Nat) (q:af.aP) (A:Nat→Nat×Nat) (D:DataW Unit) (S0:List Nat) (f:af.bC):Prop where
 core:cG w p mb q A D
 own:w.ownsMap Tryz.prog 31 dU mb q.l.length D
 box:w.heap[k]?=some (cl (jg f) 116)
 turned:az S0 w0 w
 sub:∀ i∈aJ p mb A q.l,i∈S0
 new:w0.heap.size≤k
 old:∀ i∈S0,i<w0.heap.size
section
variable {w0 w w':World} {p mb k:Nat} {q:af.aP} {A:Nat→Nat×Nat} {D:DataW Unit} {S0:List Nat} {f:af.bC}
theorem AF.later (h:AF w0 w p mb k q A D S0 f) (hb:Below w.heap.size w w'):AF w0 w' p mb k q A D S0 f :=
 ⟨h.core.same fun i hi _=>hb.block i (h.core.lt h.own.lt i hi),h.own.same (hb.block mb h.own.lt),(hb.block k (lt_of_block h.box)).trans h.box,h.turned.trans (az.below (S:=[]) hb) (fun j e=>absurd e aH),h.sub,h.new,h.old⟩
theorem AF.rules (h:AF w0 w p mb k q A D S0 f):∀ x:Later w,x.world.cell? ⟨p,0,none⟩=some (.map (some mb))∧x.world.cell? ⟨p,1,none⟩=some (vI q.slots)∧x.world.cell? ⟨p,2,none⟩=some (vI q.room)∧x.world.cell? ⟨p,3,none⟩=some (vI q.held) ∧
 x.world.cell? ⟨k,0,none⟩=some (vU f.id)∧x.world.cell? ⟨k,1,none⟩=some (vI f.index)∧x.world.cell? ⟨k,2,none⟩=some (vI f.count)∧x.world.cell? ⟨k,3,none⟩=some (vS f.part):=fun x=>by
 have h1:=jJ (h.later x.below).core.box
 have h2:=jJ (h.later x.below).box
 exact ⟨h1.1,h1.2.1,h1.2.2.1,h1.2.2.2.1,h2.1,h2.2.1,h2.2.2.1,h2.2.2.2.1⟩
theorem AF.now (h:AF w0 w p mb k q A D S0 f):w.cell? ⟨p,0,none⟩=some (.map (some mb))∧w.cell? ⟨p,1,none⟩=some (vI q.slots)∧w.cell? ⟨p,2,none⟩=some (vI q.room)∧w.cell? ⟨p,3,none⟩=some (vI q.held) ∧
 w.cell? ⟨k,0,none⟩=some (vU f.id)∧w.cell? ⟨k,1,none⟩=some (vI f.index)∧w.cell? ⟨k,2,none⟩=some (vI f.count)∧w.cell? ⟨k,3,none⟩=some (vS f.part):=h.rules ⟨w,Below.refl _ _⟩
theorem AF.msg (h:AF w0 w p mb k q A D S0 f) {m:af.bX} (hm:m∈q.l):∀ x:Later w,x.world.cell? ⟨(A m.id).1,0,none⟩=some (vI m.count)∧x.world.cell? ⟨(A m.id).1,1,none⟩=some (.map (some (A m.id).2)):=fun x=>by have h1:=rD ((h.later x.below).core.msgs m hm).box;exact ⟨h1.1,h1.2.1⟩
theorem AF.done (h:AF w0 w p mb k q A D S0 f) {t:List UInt8} {b:Bool} {er:Nat}:nN w0 p S0 (q,t,b,er) (.returned (.tuple #[vS t,.bool b,vI er])) w :=
 ⟨rfl,_,⟨mb,A,D,h.core,h.own,rfl⟩,fun i hi=>.inl (h.sub i hi),h.turned⟩
end
theorem XF {now:Nat} (w:World) (h:cn w p st S) (hf:¬f.ok) :
 Calls Tryz.prog 37 #[vP p 0,.agg (jg f),vU now] w (nN w p S (st,[],false,1)):=by
 have hr:f.right=false:=by rw [Bool.eq_false_iff];exact fun h=>hf ((af.eH f).1 h)
 have HP:=Hi h
 clear h hf
 go_enter Tryz.func37,Tryz.ntmps37
 go_wp2_with fail
 have HB:=Hi ((Mem.start w).alloc (cl (jg f) 116))
 generalize w.alloc (cl (jg f) 116)=W1 at *
 refine (fT hr _).mono ?_;rintro e w1 ⟨rfl,hb1⟩
 have lO:=Hi (HB.out.later hb1)
 clear hb1 HB
 have HA:Hid (nN w p S (st,[],false,1) (.returned (.tuple #[.string ⟨#[]⟩,.bool false,vI 1])) w1):=Hi ⟨rfl,S,HP.out.later lO.out.dZ,fun i hi=>.inl hi,az.below lO.out.dZ⟩
 go_wp2_with fail
 go_ret3
 exact HA.out
theorem add_one {now:Nat} (w:World) (h:cn w p st S) (hok:st.Ok) (cT:now<18446744073709551616) (hf:f.ok) (hc:f.count=1) :
 Calls Tryz.prog 37 #[vP p 0,.agg (jg f),vU now] w (nN w p S (st.expire now,f.part,true,0)):=by
 have hr:f.right=true:=(af.eH f).2 hf
 obtain ⟨HP,jx,HF,HC⟩:=hi4 h hok hf hc
 clear h hf hok hc
 go_enter Tryz.func37,Tryz.ntmps37
 go_wp2_with fail
 have HB:=Hi ((Mem.start w).alloc (cl (jg f) 116))
 generalize w.alloc (cl (jg f) 116)=W1 at *
 refine (fT hr _).mono ?_;rintro e w1 ⟨rfl,hb1⟩
 have lO:=Hi (HB.out.later hb1)
 clear hb1 HB
 obtain ⟨vF,A0,D0,hc0,rF,rfl⟩:=HP.out.later lO.out.dZ
 have CE:=Hi (fS w1 hc0 rF jx.out cT)
 have jS:=lO.out.get 0 rfl
 have sW:=Hi (az.below (S:=aJ p vF A0 st.l) lO.out.dZ)
 have pP:=Hi HP.out.lt
 have rY:=Hi jS
 obtain ⟨k,hk⟩:∃ k,k=w.heap.size:=⟨_,rfl⟩
 have HK:=Hi hk
 rw [←hk] at rY ⊢
 clear hc0 rF jS hk lO
 go_wp2_with fail
 refine CE.out.mono ?_
 rintro e w2 ⟨rfl,S2,⟨mb,A,D,hc2,ho2,rfl⟩,gS,gj⟩
 have nA:Hid (AF w w2 p mb k (st.expire now) A D (aJ p vF A0 st.l) f):=Hi ⟨hc2,ho2,(gj.block k (lt_of_block rY.out) (fun h=>by have:=pP.out k h;rw [HK.out] at this;omega)).trans rY.out,sW.out.trans gj (fun i hi=>.inl hi),gS,GL,pP.out⟩
 clear hc2 ho2 gS gj CE rY sW
 have r:=nA.out.now
 have HA:=Hi (nA.out.done (t:=f.part) (b:=true) (er:=0))
 rw [HC.out] at r
 go_wp2_with fail
 go_ret3
 exact HA.out
theorem Tk {now:Nat} (w:World) (h:cn w p st S) (hok:st.Ok) (cT:now<18446744073709551616) (hf:f.ok) (hc:¬f.count=1) (hn:(st.expire now).find f.id=none)
 (hfull:(st.expire now).slots≤(st.expire now).l.length∨(st.expire now).room<(st.expire now).held+f.part.length) :
 Calls Tryz.prog 37 #[vP p 0,.agg (jg f),vU now] w (nN w p S (st.expire now,[],false,8)):=by
 have hr:f.right=true:=(af.eH f).2 hf
 obtain ⟨HP,jx,HF,HC,HN,PS⟩:=Vn h hok hf hc hn hfull
 clear h hf hok hc hn hfull
 go_enter Tryz.func37,Tryz.ntmps37
 go_wp2_with fail
 have HB:=Hi ((Mem.start w).alloc (cl (jg f) 116))
 generalize w.alloc (cl (jg f) 116)=W1 at *
 refine (fT hr _).mono ?_;rintro e w1 ⟨rfl,hb1⟩
 have lO:=Hi (HB.out.later hb1)
 clear hb1 HB
 have ec:(f.count==(1:Int))=false:=by have:=HC.out;simp;omega
 obtain ⟨vF,A0,D0,hc0,rF,rfl⟩:=HP.out.later lO.out.dZ
 have CE:=Hi (fS w1 hc0 rF jx.out cT)
 have jS:=lO.out.get 0 rfl
 have sW:=Hi (az.below (S:=aJ p vF A0 st.l) lO.out.dZ)
 have pP:=Hi HP.out.lt
 have rY:=Hi jS
 obtain ⟨k,hk⟩:∃ k,k=w.heap.size:=⟨_,rfl⟩
 have HK:=Hi hk
 rw [←hk] at rY ⊢
 clear hc0 rF jS hk lO
 go_wp2_with fail
 refine CE.out.mono ?_
 rintro e w2 ⟨rfl,S2,⟨mb,A,D,hc2,ho2,rfl⟩,gS,gj⟩
 have nA:Hid (AF w w2 p mb k (st.expire now) A D (aJ p vF A0 st.l) f):=Hi ⟨hc2,ho2,(gj.block k (lt_of_block rY.out) (fun h=>by have:=pP.out k h;rw [HK.out] at this;omega)).trans rY.out,sW.out.trans gj (fun i hi=>.inl hi),gS,GL,pP.out⟩
 clear hc2 ho2 gS gj CE rY sW
 have r:=nA.out.now
 clear hr
 generalize hq:st.expire now=q at *
 have e4:f.id<18446744073709551616:=by have:=HF.out.2.1;omega
 have lk:∀ x:Later w2,(Instr.lookup 198 (.map (some mb)) (vU f.id) true).run Tryz.prog x.world=.ok (.tuple #[.pointer none,.bool false]) x.world:=fun x =>
  xP (nA.out.later x.below).own (nA.out.later x.below).core.maps e4 (fun y hy=>by obtain ⟨m,hm,rfl⟩:=List.mem_map.1 hy;exact af.kr HN.out m hm)
 have rr:=nA.out.rules
 have Tl:q.held≤100000:=by have h:=jx.out.expire now;rw [hq] at h;have:=h.held;have:=h.r1;omega
 have XG:f.part.length≤1000:=HF.out.2.2.2.2.2.2.2
 have HQ:=Hi hq
 clear hq
 go_wp2_with fail
 refine ay aI aI ?_
 repeat go_big_quiet_step (fail)
 refine wpQuiet_nil ?_
 rintro ⟨w3,hb3⟩
 change Exit.then _ _ _ _ w3
 have qZ:=Hi (nA.out.later hb3)
 clear hb3 nA
 clear lk rr r
 have r:=qZ.out.rules
 have Wi:∀ x:Later w3,(Builtin.len_ #[198] 3 #[.map (some mb)]).run Tryz.prog x.world=.ok (vI q.l.length) x.world:=fun x=>by exact Y9
 go_wp2_with fail
 have hwr:IntKind.i64.wrap ((q.held:Int)+f.part.length)=(q.held:Int)+f.part.length:=IntWalk.i64_in _ ax
 by_cases h1:q.slots≤q.l.length
 ·have d1:decide ((q.slots:Int)≤q.l.length)=true:=aR;have d1':decide (q.slots≤q.l.length)=true:=aR;exact a982
 ·have h2:q.room<q.held+f.part.length:=by have:=PS.out;omega
  have d1:decide ((q.slots:Int)≤q.l.length)=false:=aR;have d1':decide (q.slots≤q.l.length)=false:=aR;have d2:decide ((q.room:Int)<(q.held:Int)+f.part.length)=true:=aR;exact a982
theorem Kf {mb a b slots room wT since i id held:Nat} {ix cf:Int} {D:DataW Unit} {l:List (Nat×List UInt8)} {s:List UInt8} (hix:ix=i) (w:World)
 (hp:w.heap[p]?=some (cl (rC mb slots room held) 200)) (ha:w.heap[a]?=some (cl #[vI wT,.map (some b),vU since] 204))
 (ho:w.ownsMap Tryz.prog 3 (plainElem (H:=Unit) Tryz.prog 9) b l.length D) (hM:bq dy LW D l) (hno:(l.any fun q=>q.1==i)=false)
 (hpa:p≠a) (hpb:p≠b) (hab:a≠b) (hi:i<1000) (hl:l.length<1000) (hs:s.length≤100000) (hh:held≤100000) :
 Calls Tryz.prog 80 #[vP p 0,vP a 0,.agg #[vU id,vI ix,vI cf,vS s]] w (Mb w p b mb slots room held wT i l s):=by
 subst hix;exact Oy w hp ha ho hM hno hpa hpb hab hi hl hs hh
theorem OA {now:Nat} (w:World) (h:cn w p st S) (hok:st.Ok) (cT:now<18446744073709551616) (hf:f.ok) (hc:¬f.count=1) (hn:(st.expire now).find f.id=none)
 (hfull:¬((st.expire now).slots≤(st.expire now).l.length∨(st.expire now).room<(st.expire now).held+f.part.length)) :
 Calls Tryz.prog 37 #[vP p 0,.agg (jg f),vU now] w (nN w p S ((st.expire now).begin ⟨f.id,f.count.toNat,now,[(f.index.toNat,f.part)]⟩,[],false,0)):=by
 have hr:f.right=true:=(af.eH f).2 hf
 have hmm:=@run_makeMap Tryz.prog
 obtain ⟨HP,jx,HF,HC,HN,PS⟩:=Vn h hok hf hc hn hfull
 clear h hf hok hc hn hfull
 go_enter Tryz.func37,Tryz.ntmps37
 go_wp2_with fail
 have HB:=Hi ((Mem.start w).alloc (cl (jg f) 116))
 generalize w.alloc (cl (jg f) 116)=W1 at *
 refine (fT hr _).mono ?_;rintro e w1 ⟨rfl,hb1⟩
 have lO:=Hi (HB.out.later hb1)
 clear hb1 HB
 have ec:(f.count==(1:Int))=false:=by have:=HC.out;simp;omega
 obtain ⟨vF,A0,D0,hc0,rF,rfl⟩:=HP.out.later lO.out.dZ
 have CE:=Hi (fS w1 hc0 rF jx.out cT)
 have jS:=lO.out.get 0 rfl
 have sW:=Hi (az.below (S:=aJ p vF A0 st.l) lO.out.dZ)
 have pP:=Hi HP.out.lt
 have rY:=Hi jS
 obtain ⟨k,hk⟩:∃ k,k=w.heap.size:=⟨_,rfl⟩
 have HK:=Hi hk
 rw [←hk] at rY ⊢
 clear hc0 rF jS hk lO
 go_wp2_with fail
 refine CE.out.mono ?_
 rintro e w2 ⟨rfl,S2,⟨mb,A,D,hc2,ho2,rfl⟩,gS,gj⟩
 have nA:Hid (AF w w2 p mb k (st.expire now) A D (aJ p vF A0 st.l) f):=Hi ⟨hc2,ho2,(gj.block k (lt_of_block rY.out) (fun h=>by have:=pP.out k h;rw [HK.out] at this;omega)).trans rY.out,sW.out.trans gj (fun i hi=>.inl hi),gS,GL,pP.out⟩
 clear hc2 ho2 gS gj CE rY sW
 have r:=nA.out.now
 clear hr
 generalize hq:st.expire now=q at *
 have e4:f.id<18446744073709551616:=by have:=HF.out.2.1;omega
 have lk:∀ x:Later w2,(Instr.lookup 198 (.map (some mb)) (vU f.id) true).run Tryz.prog x.world=.ok (.tuple #[.pointer none,.bool false]) x.world:=fun x =>
  xP (nA.out.later x.below).own (nA.out.later x.below).core.maps e4 (fun y hy=>by obtain ⟨m,hm,rfl⟩:=List.mem_map.1 hy;exact af.kr HN.out m hm)
 have rr:=nA.out.rules
 have Tl:q.held≤100000:=by have h:=jx.out.expire now;rw [hq] at h;have:=h.held;have:=h.r1;omega
 have hq3:q.l.length≤16:=by have h:=jx.out.expire now;rw [hq] at h;have:=h.len;have:=h.s1;omega
 have XG:f.part.length≤1000:=HF.out.2.2.2.2.2.2.2
 have HQ:=Hi hq
 clear hq
 go_wp2_with fail
 refine ay aI aI ?_
 repeat go_big_quiet_step (fail)
 refine wpQuiet_nil ?_
 rintro ⟨w3,hb3⟩
 change Exit.then _ _ _ _ w3
 have qZ:=Hi (nA.out.later hb3)
 clear hb3 nA
 clear lk rr r
 have r:=qZ.out.rules
 have Wi:∀ x:Later w3,(Builtin.len_ #[198] 3 #[.map (some mb)]).run Tryz.prog x.world=.ok (vI q.l.length) x.world:=fun x=>by exact Y9
 go_wp2_with fail
 have hwr:IntKind.i64.wrap ((q.held:Int)+f.part.length)=(q.held:Int)+f.part.length:=IntWalk.i64_in _ ax
 have d1:decide ((q.slots:Int)≤q.l.length)=false:=by have:=PS.out;simp;omega
 have d1':decide (q.slots≤q.l.length)=false:=by have:=PS.out;simp;omega
 have d2:decide ((q.room:Int)<(q.held:Int)+f.part.length)=false:=by have:=PS.out;simp;omega
 refine ay aI aI ?_
 repeat go_big_quiet_step (fail)
 refine wpQuiet_nil ?_
 rintro ⟨w4,hb3⟩
 change Exit.then _ _ _ _ w4
 have oD:=Hi (qZ.out.later hb3)
 clear hb3 qZ
 clear r Wi hwr d1 d1' d2
 have r:=oD.out.now
 have hW5:Below w4.heap.size w4 ((w4.alloc (.map #[] 0)).alloc (cl #[vI f.count,.map (some w4.heap.size),vU now] 204)):=((Below.refl _ _).alloc (cC _) _).alloc aH _
 have Tm:jI ((w4.alloc (.map #[] 0)).alloc (cl #[vI f.count,.map (some w4.heap.size),vU now] 204)) w4.heap.size []:=⟨.map [],(World.ownsMap_made w4 Tryz.prog 3 (plainElem (H:=Unit) Tryz.prog 9)).alloc _,bq.start⟩
 have hb5:((w4.alloc (.map #[] 0)).alloc (cl #[vI f.count,.map (some w4.heap.size),vU now] 204)).heap[w4.heap.size+1]?=some (cl #[vI f.count,.map (some w4.heap.size),vU now] 204):=by
  have:=heap_alloc_new (w4.alloc (.map #[] 0)) (cl #[vI f.count,.map (some w4.heap.size),vU now] 204)
  rw [World.size_alloc] at this
  exact this
 have xQ:=Hi (oD.out.later hW5)
 have HM5:=Hi Tm;have HB5:=Hi hb5;have HW5:=Hi hW5;have HF4':=Hi oD
 have HSZ:=Hi (show ((w4.alloc (.map #[] 0)).alloc (cl #[vI f.count,.map (some w4.heap.size),vU now] 204)).heap.size=w4.heap.size+2 by simp)
 have HS4:=Hi oD.out.turned.size
 have HLT4:=Hi (oD.out.core.lt oD.out.own.lt)
 clear hW5 Tm hb5
 go_wp2_with fail
 generalize (w4.alloc (.map #[] 0)).alloc (cl #[vI f.count,.map (some w4.heap.size),vU now] 204)=W5 at *
 generalize hb:w4.heap.size=b at *
 have Ln:=Hi hb
 clear hb r
 have r:=xQ.out.now
 go_still_tail 7,aI
 change wpList _ _ _ _ _ W5.drew
 refine wpList_mapUpdate_own _ rfl _ _ _ 198 rfl 31 196 mX Tryz.underlying198 _ mb q.l.length D rfl xQ.out.own.drew KY _ _ _ rfl rfl (iy e4) (J4 (b+1)) [] (J5 (b+1)) ?_
 intro w6 Z3 hg6
 have hne:=fy xQ.out.core.apart
 have hsub:=xQ.out.sub
 have hmbb:mb<b:=by have:=HLT4.out mb (by simp [aJ]);omega
 have hpb:p<b:=by have:=HLT4.out p (by simp [aJ]);omega
 have hp6:=(hg6.block p (lt_of_block xQ.out.core.box) (by simp;exact hne.1)).trans xQ.out.core.box
 have P6:=(hg6.block (b+1) (lt_of_block HB5.out) aR).trans HB5.out
 have VD:=HM5.out.same (hg6.block b HM5.out.lt aR)
 have hk6:=(hg6.block k (lt_of_block xQ.out.box) (by have:=xQ.out.new;have:=xQ.out.old mb (hsub mb (by simp [aJ]));simp;omega)).trans xQ.out.box
 obtain ⟨i,hi⟩:∃ i:Nat,f.index=i:=⟨f.index.toNat,by have:=HF.out.2.2.2.2.1;omega⟩
 obtain ⟨c,hc⟩:∃ c:Nat,f.count=c:=⟨f.count.toNat,by have:=HF.out.2.2.1;omega⟩
 have Tn:i<16:=by have:=HF.out.2.2.2.2.2.1;have:=HF.out.2.2.2.1;omega
 have HC6:=Hi (by rw [hc] at P6;exact P6)
 obtain ⟨D6,ho6,hM6⟩:=VD
 have CP:=Hi (Kf (wT:=c) (cf:=f.count) (s:=f.part) (id:=f.id) (held:=q.held) hi w6 hp6 (by rw [hc] at P6;exact P6) ho6 hM6 (by rfl) ax ax ax ax aH ax Tl)
 have r6:=jJ hk6
 obtain ⟨HP6,HB6,HG6,PZ,HI,HCC,Gd,Tf⟩:=hi8 hp6 P6 hg6 Z3 hi hc hne hsub
 clear r hp6 P6 hk6 hg6 Z3 ho6 hM6 hi hc hne hsub
 go_wp2_with fail
 refine CP.out.mono ?_
 rintro e w7 ⟨rfl,Z4,hm7,GY⟩
 have Tp:decide (([]:List (Nat×List UInt8)).length+1=c)=false:=by have:=HC.out;have:=HCC.out;simp;omega
 rw [Tp]
 have HA:Hid (nN w p (aJ p vF A0 st.l) (q.begin ⟨f.id,f.count.toNat,now,[(f.index.toNat,f.part)]⟩,[],false,0) (.returned (.tuple #[.string ⟨#[]⟩,.bool false,vI 0])) w7):=by
  have hno:∀ x∈q.l,x.id≠f.id:=fun x hx=>af.kr HN.out x hx;have hin:f.index.toNat=i:=by have:=HI.out;omega
  have hcn:f.count.toNat=c:=by have:=HCC.out;omega
  rw [hin,hcn];have hold:∀ j,j<w4.heap.size→j≠p→j≠mb→w7.heap[j]?=w4.heap[j]?:=fun j hj h1 h2=>by
   have:=Ln.out
   have:=HW5.out.size
   have g:=HG6.out.size
   rw [GY.block j (by show _<w6.heap.size;have:W5.drew.heap.size=W5.heap.size:=rfl;omega) aR,HG6.out.block j (by show _<W5.heap.size;omega) aR]
   exact HW5.out.block j ax
  have hmb7:w7.ownsMap Tryz.prog 31 dU mb (q.l.length+1) (D.put (aV f.id) (J4 (b+1))):=PZ.out.same (GY.block mb PZ.out.lt (by have:=Gd.out.1;simp;omega));have ug:=HF4'.out.out.core.begin (w6:=w7) (m:=⟨f.id,c,now,[(i,f.part)]⟩) (a:=b+1) (b:=b) HF4'.out.out.own.lt hno (by have:=Ln.out;omega) (by have:=Ln.out;omega) ax hold
   (by rw [Z4];show some (Obj.cells #[_,_,_,vI _] _ _)=some (Obj.cells #[_,_,_,vI _] _ _);rw [show (q.begin ⟨f.id,c,now,[(i,f.part)]⟩).held=q.held+f.part.length by simp [af.aP.held,af.aP.begin,af.cM,af.bX.bytes,af.pV]];rfl)
   ⟨(GY.block (b+1) (lt_of_block HB6.out) aR).trans HC6.out,hm7⟩
  refine ⟨rfl,_,⟨mb,_,_,ug,by rw [show (q.begin ⟨f.id,c,now,[(i,f.part)]⟩).l.length=q.l.length+1 by simp [af.aP.begin]];exact hmb7,rfl⟩,?_,?_⟩
  ·intro j hj;rw [show (q.begin ⟨f.id,c,now,[(i,f.part)]⟩).l=q.l++[⟨f.id,c,now,[(i,f.part)]⟩] from rfl,vE hno] at hj;rcases List.mem_append.1 hj with hj|hj
   ·exact .inl (Tf.out j hj)
   ·simp only [gF,Bp,or_false] at hj
    have:=HS4.out
    omega
  ·refine (HF4'.out.out.turned.trans (az.below (S:=[]) (by rw [Ln.out];exact HW5.out)) (fun j e=>absurd e aH)).trans (?_:az [p,mb,b] W5 w7) (fun j e=>?_)
   ·exact ((az.below (S:=[p,mb,b]) (Below.refl _ W5).drew).trans (az.grown (S:=[p,mb,b]) HG6.out (fun j e=>.inl nX)) (fun j e=>.inl e)).trans (GY.mono (fun j e=>by simp at e;simp;omega):az [p,mb,b] w6 w7) (fun j e=>.inl e)
   ·simp only [gF,Bp,or_false] at e;rcases e with rfl|rfl|rfl
    ·exact .inl (Tf.out _ J1)
    ·exact .inl (Tf.out _ J1)
    ·exact .inr HS4.out
 clear Z4 hm7 GY Tp
 go_wp2_with fail
 go_ret3
 exact HA.out
end Go.Proofs.N0
namespace Go.Proofs.N0
open Go.RowKit Go.Maps Go.ChangeMaps
variable {p:Nat} {st:af.aP} {S:List Nat} {f:af.bC} {m:af.bX}
theorem Tq {now:Nat} (w:World) (h:cn w p st S) (hok:st.Ok) (cT:now<18446744073709551616) (hf:f.ok) (hc:¬f.count=1) (hn:(st.expire now).find f.id=some m)
 (hbad:(m.count:Int)≠f.count) :
 Calls Tryz.prog 37 #[vP p 0,.agg (jg f),vU now] w (nN w p S (st.expire now,[],false,3)):=by
 have hr:f.right=true:=(af.eH f).2 hf
 obtain ⟨HP,jx,HF,HC,HN,HBAD⟩:=Vn h hok hf hc hn hbad
 clear h hf hok hc hn hbad
 go_enter Tryz.func37,Tryz.ntmps37
 go_wp2_with fail
 have HB:=Hi ((Mem.start w).alloc (cl (jg f) 116))
 generalize w.alloc (cl (jg f) 116)=W1 at *
 refine (fT hr _).mono ?_;rintro e w1 ⟨rfl,hb1⟩
 have lO:=Hi (HB.out.later hb1)
 clear hb1 HB
 have ec:(f.count==(1:Int))=false:=by have:=HC.out;simp;omega
 obtain ⟨vF,A0,D0,hc0,rF,rfl⟩:=HP.out.later lO.out.dZ
 have CE:=Hi (fS w1 hc0 rF jx.out cT)
 have jS:=lO.out.get 0 rfl
 have sW:=Hi (az.below (S:=aJ p vF A0 st.l) lO.out.dZ)
 have pP:=Hi HP.out.lt
 have rY:=Hi jS
 obtain ⟨k,hk⟩:∃ k,k=w.heap.size:=⟨_,rfl⟩
 have HK:=Hi hk
 rw [←hk] at rY ⊢
 clear hc0 rF jS hk lO
 go_wp2_with fail
 refine CE.out.mono ?_
 rintro e w2 ⟨rfl,S2,⟨mb,A,D,hc2,ho2,rfl⟩,gS,gj⟩
 have nA:Hid (AF w w2 p mb k (st.expire now) A D (aJ p vF A0 st.l) f):=Hi ⟨hc2,ho2,(gj.block k (lt_of_block rY.out) (fun h=>by have:=pP.out k h;rw [HK.out] at this;omega)).trans rY.out,sW.out.trans gj (fun i hi=>.inl hi),gS,GL,pP.out⟩
 clear hc2 ho2 gS gj CE rY sW
 have r:=nA.out.now
 clear hr
 have vG:=jx.out.expire now
 generalize hq:st.expire now=q at *
 have VE:=Hi vG
 obtain ⟨hm,hid⟩:=af.ku HN.out
 have hmo:=vG.each m hm
 obtain ⟨HM,Ez,Iz⟩:=ju hm hid hmo
 obtain ⟨i,hi⟩:∃ i:Nat,f.index=i:=⟨f.index.toNat,by have:=HF.out.2.2.2.2.1;omega⟩
 have Tn:i<16:=by have:=HF.out.2.2.2.2.2.1;have:=HF.out.2.2.2.1;omega
 have HI:=Hi hi
 have hin:f.index.toNat=i:=ax
 have ox:=Hi hin
 have e4:f.id<18446744073709551616:=by have:=HF.out.2.1;omega
 have lk:∀ x:Later w2,(Instr.lookup 198 (.map (some mb)) (vU f.id) true).run Tryz.prog x.world=.ok (.tuple #[vP (A m.id).1 0,.bool true]) x.world:=fun x=>by exact Yg
 have rr:=nA.out.rules
 have Tl:q.held≤100000:=by have:=vG.held;have:=vG.r1;omega
 have XG:f.part.length≤1000:=HF.out.2.2.2.2.2.2.2
 have HQ:=Hi hq
 clear hq vG hm hid hmo hi hin
 go_wp2_with fail
 refine ay aI aI ?_
 repeat go_big_quiet_step (fail)
 refine wpQuiet_nil ?_
 rintro ⟨w3,hb3⟩
 change Exit.then _ _ _ _ w3
 have qZ:=Hi (nA.out.later hb3)
 clear hb3 nA
 clear lk rr r
 have r:=qZ.out.rules
 have r':=qZ.out.msg HM.out
 have lk:∀ x:Later w3,(Instr.lookup 202 (.map (some (A m.id).2)) (vI f.index) true).run Tryz.prog x.world=.ok (.tuple #[vS (af.partAt m.parts i),.bool (m.parts.any fun p=>p.1==i)]) x.world:=fun x=>by exact aaq
 go_wp2_with fail
 refine ay aI aI ?_
 repeat go_big_quiet_step (fail)
 refine wpQuiet_nil ?_
 rintro ⟨w4,hb3⟩
 change Exit.then _ _ _ _ w4
 have oD:=Hi (qZ.out.later hb3)
 clear hb3 qZ
 clear lk r r'
 have r:=oD.out.rules
 have r':=oD.out.msg HM.out
 go_wp2_with fail
 have hb:((m.count:Int) != f.count)=true:=by have:=HBAD.out;simp;omega
 refine ay aI aI ?_
 repeat go_big_quiet_step (fail)
 refine wpQuiet_nil ?_
 rintro ⟨w5,hb3⟩
 change Exit.then _ _ _ _ w5
 have xQ:=Hi (oD.out.later hb3)
 clear hb3 oD
 have HA:=Hi (xQ.out.done (t:=[]) (b:=false) (er:=3))
 clear r r'
 go_wp2_with fail
 go_ret3
 exact HA.out
theorem OB {now:Nat} (w:World) (h:cn w p st S) (hok:st.Ok) (cT:now<18446744073709551616) (hf:f.ok) (hc:¬f.count=1) (hn:(st.expire now).find f.id=some m)
 (rG:(m.count:Int)=f.count) (Tr:(m.parts.any fun p=>p.1==f.index.toNat)=true) :
 Calls Tryz.prog 37 #[vP p 0,.agg (jg f),vU now] w (nN w p S (st.expire now,[],false,6)):=by
 have hr:f.right=true:=(af.eH f).2 hf
 obtain ⟨HP,jx,HF,HC,HN,Ay,HTW⟩:=PL h hok hf hc hn rG Tr
 clear h hf hok hc hn rG Tr
 go_enter Tryz.func37,Tryz.ntmps37
 go_wp2_with fail
 have HB:=Hi ((Mem.start w).alloc (cl (jg f) 116))
 generalize w.alloc (cl (jg f) 116)=W1 at *
 refine (fT hr _).mono ?_;rintro e w1 ⟨rfl,hb1⟩
 have lO:=Hi (HB.out.later hb1)
 clear hb1 HB
 have ec:(f.count==(1:Int))=false:=by have:=HC.out;simp;omega
 obtain ⟨vF,A0,D0,hc0,rF,rfl⟩:=HP.out.later lO.out.dZ
 have CE:=Hi (fS w1 hc0 rF jx.out cT)
 have jS:=lO.out.get 0 rfl
 have sW:=Hi (az.below (S:=aJ p vF A0 st.l) lO.out.dZ)
 have pP:=Hi HP.out.lt
 have rY:=Hi jS
 obtain ⟨k,hk⟩:∃ k,k=w.heap.size:=⟨_,rfl⟩
 have HK:=Hi hk
 rw [←hk] at rY ⊢
 clear hc0 rF jS hk lO
 go_wp2_with fail
 refine CE.out.mono ?_
 rintro e w2 ⟨rfl,S2,⟨mb,A,D,hc2,ho2,rfl⟩,gS,gj⟩
 have nA:Hid (AF w w2 p mb k (st.expire now) A D (aJ p vF A0 st.l) f):=Hi ⟨hc2,ho2,(gj.block k (lt_of_block rY.out) (fun h=>by have:=pP.out k h;rw [HK.out] at this;omega)).trans rY.out,sW.out.trans gj (fun i hi=>.inl hi),gS,GL,pP.out⟩
 clear hc2 ho2 gS gj CE rY sW
 have r:=nA.out.now
 clear hr
 have vG:=jx.out.expire now
 generalize hq:st.expire now=q at *
 have VE:=Hi vG
 obtain ⟨hm,hid⟩:=af.ku HN.out
 have hmo:=vG.each m hm
 obtain ⟨HM,Ez,Iz⟩:=ju hm hid hmo
 obtain ⟨i,hi⟩:∃ i:Nat,f.index=i:=⟨f.index.toNat,by have:=HF.out.2.2.2.2.1;omega⟩
 have Tn:i<16:=by have:=HF.out.2.2.2.2.2.1;have:=HF.out.2.2.2.1;omega
 have HI:=Hi hi
 have hin:f.index.toNat=i:=ax
 have ox:=Hi hin
 have e4:f.id<18446744073709551616:=by have:=HF.out.2.1;omega
 have lk:∀ x:Later w2,(Instr.lookup 198 (.map (some mb)) (vU f.id) true).run Tryz.prog x.world=.ok (.tuple #[vP (A m.id).1 0,.bool true]) x.world:=fun x=>by exact Yg
 have rr:=nA.out.rules
 have Tl:q.held≤100000:=by have:=vG.held;have:=vG.r1;omega
 have XG:f.part.length≤1000:=HF.out.2.2.2.2.2.2.2
 have HQ:=Hi hq
 clear hq vG hm hid hmo hi hin
 go_wp2_with fail
 refine ay aI aI ?_
 repeat go_big_quiet_step (fail)
 refine wpQuiet_nil ?_
 rintro ⟨w3,hb3⟩
 change Exit.then _ _ _ _ w3
 have qZ:=Hi (nA.out.later hb3)
 clear hb3 nA
 clear lk rr r
 have r:=qZ.out.rules
 have r':=qZ.out.msg HM.out
 have lk:∀ x:Later w3,(Instr.lookup 202 (.map (some (A m.id).2)) (vI f.index) true).run Tryz.prog x.world=.ok (.tuple #[vS (af.partAt m.parts i),.bool (m.parts.any fun p=>p.1==i)]) x.world:=fun x=>by exact aaq
 go_wp2_with fail
 refine ay aI aI ?_
 repeat go_big_quiet_step (fail)
 refine wpQuiet_nil ?_
 rintro ⟨w4,hb3⟩
 change Exit.then _ _ _ _ w4
 have oD:=Hi (qZ.out.later hb3)
 clear hb3 qZ
 clear lk r r'
 have r:=oD.out.rules
 have r':=oD.out.msg HM.out
 go_wp2_with fail
 have hb:((m.count:Int) != f.count)=false:=by have:=Ay.out;simp;omega
 have ht:(m.parts.any fun p=>p.1==i)=true:=Xp
 rw [ht]
 refine ay aI aI ?_
 repeat go_big_quiet_step (fail)
 refine wpQuiet_nil ?_
 rintro ⟨w5,hb3⟩
 change Exit.then _ _ _ _ w5
 have xQ:=Hi (oD.out.later hb3)
 clear hb3 oD
 have HA:=Hi (xQ.out.done (t:=[]) (b:=false) (er:=6))
 clear r r'
 go_wp2_with fail
 go_ret3
 exact HA.out
theorem OC {now:Nat} (w:World) (h:cn w p st S) (hok:st.Ok) (cT:now<18446744073709551616) (hf:f.ok) (hc:¬f.count=1) (hn:(st.expire now).find f.id=some m)
 (rG:(m.count:Int)=f.count) (Tr:(m.parts.any fun p=>p.1==f.index.toNat)=false) (hfull:(st.expire now).room<(st.expire now).held+f.part.length) :
 Calls Tryz.prog 37 #[vP p 0,.agg (jg f),vU now] w (nN w p S (st.expire now,[],false,8)):=by
 have hr:f.right=true:=(af.eH f).2 hf
 obtain ⟨HP,jx,HF,HC,HN,Ay,HTW,PS⟩:=hi8 h hok hf hc hn rG Tr hfull
 clear h hf hok hc hn rG Tr hfull
 go_enter Tryz.func37,Tryz.ntmps37
 go_wp2_with fail
 have HB:=Hi ((Mem.start w).alloc (cl (jg f) 116))
 generalize w.alloc (cl (jg f) 116)=W1 at *
 refine (fT hr _).mono ?_;rintro e w1 ⟨rfl,hb1⟩
 have lO:=Hi (HB.out.later hb1)
 clear hb1 HB
 have ec:(f.count==(1:Int))=false:=by have:=HC.out;simp;omega
 obtain ⟨vF,A0,D0,hc0,rF,rfl⟩:=HP.out.later lO.out.dZ
 have CE:=Hi (fS w1 hc0 rF jx.out cT)
 have jS:=lO.out.get 0 rfl
 have sW:=Hi (az.below (S:=aJ p vF A0 st.l) lO.out.dZ)
 have pP:=Hi HP.out.lt
 have rY:=Hi jS
 obtain ⟨k,hk⟩:∃ k,k=w.heap.size:=⟨_,rfl⟩
 have HK:=Hi hk
 rw [←hk] at rY ⊢
 clear hc0 rF jS hk lO
 go_wp2_with fail
 refine CE.out.mono ?_
 rintro e w2 ⟨rfl,S2,⟨mb,A,D,hc2,ho2,rfl⟩,gS,gj⟩
 have nA:Hid (AF w w2 p mb k (st.expire now) A D (aJ p vF A0 st.l) f):=Hi ⟨hc2,ho2,(gj.block k (lt_of_block rY.out) (fun h=>by have:=pP.out k h;rw [HK.out] at this;omega)).trans rY.out,sW.out.trans gj (fun i hi=>.inl hi),gS,GL,pP.out⟩
 clear hc2 ho2 gS gj CE rY sW
 have r:=nA.out.now
 clear hr
 have vG:=jx.out.expire now
 generalize hq:st.expire now=q at *
 have VE:=Hi vG
 obtain ⟨hm,hid⟩:=af.ku HN.out
 have hmo:=vG.each m hm
 obtain ⟨HM,Ez,Iz⟩:=ju hm hid hmo
 obtain ⟨i,hi⟩:∃ i:Nat,f.index=i:=⟨f.index.toNat,by have:=HF.out.2.2.2.2.1;omega⟩
 have Tn:i<16:=by have:=HF.out.2.2.2.2.2.1;have:=HF.out.2.2.2.1;omega
 have HI:=Hi hi
 have hin:f.index.toNat=i:=ax
 have ox:=Hi hin
 have e4:f.id<18446744073709551616:=by have:=HF.out.2.1;omega
 have lk:∀ x:Later w2,(Instr.lookup 198 (.map (some mb)) (vU f.id) true).run Tryz.prog x.world=.ok (.tuple #[vP (A m.id).1 0,.bool true]) x.world:=fun x=>by exact Yg
 have rr:=nA.out.rules
 have Tl:q.held≤100000:=by have:=vG.held;have:=vG.r1;omega
 have XG:f.part.length≤1000:=HF.out.2.2.2.2.2.2.2
 have HQ:=Hi hq
 clear hq vG hm hid hmo hi hin
 go_wp2_with fail
 refine ay aI aI ?_
 repeat go_big_quiet_step (fail)
 refine wpQuiet_nil ?_
 rintro ⟨w3,hb3⟩
 change Exit.then _ _ _ _ w3
 have qZ:=Hi (nA.out.later hb3)
 clear hb3 nA
 clear lk rr r
 have r:=qZ.out.rules
 have r':=qZ.out.msg HM.out
 have lk:∀ x:Later w3,(Instr.lookup 202 (.map (some (A m.id).2)) (vI f.index) true).run Tryz.prog x.world=.ok (.tuple #[vS (af.partAt m.parts i),.bool (m.parts.any fun p=>p.1==i)]) x.world:=fun x=>by exact aaq
 go_wp2_with fail
 refine ay aI aI ?_
 repeat go_big_quiet_step (fail)
 refine wpQuiet_nil ?_
 rintro ⟨w4,hb3⟩
 change Exit.then _ _ _ _ w4
 have oD:=Hi (qZ.out.later hb3)
 clear hb3 qZ
 clear lk r r'
 have r:=oD.out.rules
 have r':=oD.out.msg HM.out
 go_wp2_with fail
 have hb:((m.count:Int) != f.count)=false:=by have:=Ay.out;simp;omega
 have ht:(m.parts.any fun p=>p.1==i)=false:=Xp
 rw [ht]
 refine ay aI aI ?_
 repeat go_big_quiet_step (fail)
 refine wpQuiet_nil ?_
 rintro ⟨w5,hb3⟩
 change Exit.then _ _ _ _ w5
 have xQ:=Hi (oD.out.later hb3)
 clear hb3 oD
 clear r r' hb
 go_wp2_with fail
 have r:=xQ.out.rules
 have hwr:IntKind.i64.wrap ((q.held:Int)+f.part.length)=(q.held:Int)+f.part.length:=IntWalk.i64_in _ ax
 have d2:decide ((q.room:Int)<(q.held:Int)+f.part.length)=true:=by have:=PS.out;simp;omega
 refine ay aI aI ?_
 repeat go_big_quiet_step (fail)
 refine wpQuiet_nil ?_
 rintro ⟨w6,hb3⟩
 change Exit.then _ _ _ _ w6
 have rj:=Hi (xQ.out.later hb3)
 clear hb3 xQ
 have HA:=Hi (rj.out.done (t:=[]) (b:=false) (er:=8))
 clear r
 go_wp2_with fail
 go_ret3
 exact HA.out
end Go.Proofs.N0
namespace af
theorem GZ (q:aP) (id i:Nat) (s:List UInt8):(q.put id i s).without id=q.without id:=by
 unfold aP.without aP.put
 congr 1
 simp only
 rw [List.filter_map]
 have:(q.l.filter ((fun m:bX=>!(m.id==id))∘fun m=>if (m.id==id)=true then m.push i s else m))=q.l.filter fun m=>!(m.id==id):=by apply yX;intro m _;simp only [Function.comp];split<;>rfl
 rw [this]
 conv=>rhs;rw [←List.map_id (q.l.filter _)]
 apply tD
 intro m hm
 have:(m.id==id)=false:=by simpa using (List.mem_filter.1 hm).2
 simp [this]
theorem OD {m:bX} (h:m.Ok) {i:Nat} {s:List UInt8} (hno:(m.parts.any fun p=>p.1==i)=false):((m.push i s).parts.map (·.1)).Nodup:=by exact a991
theorem AA (l:List (Nat×List UInt8)) (k:Nat):whole l (k+1)=whole l k++partAt l k:=by unfold whole;rw [List.range_succ,jO];simp
theorem Cy {l:List (Nat×List UInt8)} {B:Nat} (h:∀ p∈l,p.2.length≤B) (i:Nat):(partAt l i).length≤B:=by
 unfold partAt
 cases hf:l.find? fun p=>p.1==i with
 | none=>simp
 | some p=>exact h p (List.mem_of_find?_eq_some hf)
theorem AB {l:List (Nat×List UInt8)} {B:Nat} (h:∀ p∈l,p.2.length≤B):∀ k,(whole l k).length≤B*k
 | 0=>by simp [whole]
 | k+1=>by
  rw [AA,E5,Nat.mul_succ]
  have:=AB h k
  have:=Cy h k
  omega
end af
namespace Go.Proofs.N0
open Go.RowKit Go.Maps Go.ChangeMaps
variable {p:Nat} {st:af.aP} {S:List Nat} {f:af.bC} {m:af.bX}
theorem XH {now:Nat} (w:World) (h:cn w p st S) (hok:st.Ok) (cT:now<18446744073709551616) (hf:f.ok) (hc:¬f.count=1) (hn:(st.expire now).find f.id=some m)
 (rG:(m.count:Int)=f.count) (Tr:(m.parts.any fun p=>p.1==f.index.toNat)=false) (hfull:¬(st.expire now).room<(st.expire now).held+f.part.length) (DR:m.parts.length+1≠m.count) :
 Calls Tryz.prog 37 #[vP p 0,.agg (jg f),vU now] w (nN w p S ((st.expire now).put f.id f.index.toNat f.part,[],false,0)):=by
 have hr:f.right=true:=(af.eH f).2 hf
 obtain ⟨HP,jx,HF,HC,HN,Ay,HTW,PS,HFEW⟩:=hi9 h hok hf hc hn rG Tr hfull DR
 clear h hf hok hc hn rG Tr hfull DR
 go_enter Tryz.func37,Tryz.ntmps37
 go_wp2_with fail
 have HB:=Hi ((Mem.start w).alloc (cl (jg f) 116))
 generalize w.alloc (cl (jg f) 116)=W1 at *
 refine (fT hr _).mono ?_;rintro e w1 ⟨rfl,hb1⟩
 have lO:=Hi (HB.out.later hb1)
 clear hb1 HB
 have ec:(f.count==(1:Int))=false:=by have:=HC.out;simp;omega
 obtain ⟨vF,A0,D0,hc0,rF,rfl⟩:=HP.out.later lO.out.dZ
 have CE:=Hi (fS w1 hc0 rF jx.out cT)
 have jS:=lO.out.get 0 rfl
 have sW:=Hi (az.below (S:=aJ p vF A0 st.l) lO.out.dZ)
 have pP:=Hi HP.out.lt
 have rY:=Hi jS
 obtain ⟨k,hk⟩:∃ k,k=w.heap.size:=⟨_,rfl⟩
 have HK:=Hi hk
 rw [←hk] at rY ⊢
 clear hc0 rF jS hk lO
 go_wp2_with fail
 refine CE.out.mono ?_
 rintro e w2 ⟨rfl,S2,⟨mb,A,D,hc2,ho2,rfl⟩,gS,gj⟩
 have nA:Hid (AF w w2 p mb k (st.expire now) A D (aJ p vF A0 st.l) f):=Hi ⟨hc2,ho2,(gj.block k (lt_of_block rY.out) (fun h=>by have:=pP.out k h;rw [HK.out] at this;omega)).trans rY.out,sW.out.trans gj (fun i hi=>.inl hi),gS,GL,pP.out⟩
 clear hc2 ho2 gS gj CE rY sW
 have r:=nA.out.now
 clear hr
 have vG:=jx.out.expire now
 generalize hq:st.expire now=q at *
 have VE:=Hi vG
 obtain ⟨hm,hid⟩:=af.ku HN.out
 have hmo:=vG.each m hm
 obtain ⟨HM,Ez,Iz⟩:=ju hm hid hmo
 obtain ⟨i,hi⟩:∃ i:Nat,f.index=i:=⟨f.index.toNat,by have:=HF.out.2.2.2.2.1;omega⟩
 have Tn:i<16:=by have:=HF.out.2.2.2.2.2.1;have:=HF.out.2.2.2.1;omega
 have HI:=Hi hi
 have hin:f.index.toNat=i:=ax
 have ox:=Hi hin
 have e4:f.id<18446744073709551616:=by have:=HF.out.2.1;omega
 have lk:∀ x:Later w2,(Instr.lookup 198 (.map (some mb)) (vU f.id) true).run Tryz.prog x.world=.ok (.tuple #[vP (A m.id).1 0,.bool true]) x.world:=fun x=>by exact Yg
 have rr:=nA.out.rules
 have Tl:q.held≤100000:=by have:=vG.held;have:=vG.r1;omega
 have XG:f.part.length≤1000:=HF.out.2.2.2.2.2.2.2
 have HQ:=Hi hq
 clear hq vG hm hid hmo hi hin
 go_wp2_with fail
 refine ay aI aI ?_
 repeat go_big_quiet_step (fail)
 refine wpQuiet_nil ?_
 rintro ⟨w3,hb3⟩
 change Exit.then _ _ _ _ w3
 have qZ:=Hi (nA.out.later hb3)
 clear hb3 nA
 clear lk rr r
 have r:=qZ.out.rules
 have r':=qZ.out.msg HM.out
 have lk:∀ x:Later w3,(Instr.lookup 202 (.map (some (A m.id).2)) (vI f.index) true).run Tryz.prog x.world=.ok (.tuple #[vS (af.partAt m.parts i),.bool (m.parts.any fun p=>p.1==i)]) x.world:=fun x=>by exact aaq
 go_wp2_with fail
 refine ay aI aI ?_
 repeat go_big_quiet_step (fail)
 refine wpQuiet_nil ?_
 rintro ⟨w4,hb3⟩
 change Exit.then _ _ _ _ w4
 have oD:=Hi (qZ.out.later hb3)
 clear hb3 qZ
 clear lk r r'
 have r:=oD.out.rules
 have r':=oD.out.msg HM.out
 go_wp2_with fail
 have hb:((m.count:Int) != f.count)=false:=by have:=Ay.out;simp;omega
 have ht:(m.parts.any fun p=>p.1==i)=false:=Xp
 rw [ht]
 refine ay aI aI ?_
 repeat go_big_quiet_step (fail)
 refine wpQuiet_nil ?_
 rintro ⟨w5,hb3⟩
 change Exit.then _ _ _ _ w5
 have xQ:=Hi (oD.out.later hb3)
 clear hb3 oD
 clear r r' hb
 go_wp2_with fail
 have r:=xQ.out.rules
 have hwr:IntKind.i64.wrap ((q.held:Int)+f.part.length)=(q.held:Int)+f.part.length:=IntWalk.i64_in _ ax
 have d2:decide ((q.room:Int)<(q.held:Int)+f.part.length)=false:=by have:=PS.out;simp;omega
 refine ay aI aI ?_
 repeat go_big_quiet_step (fail)
 refine wpQuiet_nil ?_
 rintro ⟨w6,hb3⟩
 change Exit.then _ _ _ _ w6
 have rj:=Hi (xQ.out.later hb3)
 clear hb3 xQ
 clear r hwr d2
 have hmb:=rj.out.core.msgs m HM.out
 obtain ⟨DP,hop,Iy⟩:=hmb.parts
 have hbn:=fy rj.out.core.apart
 have n:=hbn.2 m HM.out
 have hc16:=Iz.out.c2
 have hfw:=Iz.out.few
 have CP:=Hi (Kf (wT:=m.count) (cf:=f.count) (s:=f.part) (id:=f.id) (held:=q.held) HI.out w6 rj.out.core.box hmb.box hop Iy ht ax ax ax ax ax ax Tl)
 have XI:=Hi hbn
 have r:=rj.out.now
 clear hmb hop Iy hbn n
 go_wp2_with fail
 refine CP.out.mono ?_
 rintro e w7 ⟨rfl,Z4,hP7,GY⟩
 have ug:=rj.out.core.put VE.out HM.out (GY.mono (fun j e=>Ip)) Z4 hP7
 have xA:=rj.out.own.same (GY.block mb rj.out.own.lt (by have:=XI.out.1;have:=(XI.out.2 m HM.out).2.2.2.1;simp;omega))
 have hk7:=(GY.block k (lt_of_block rj.out.box) (by
  have h1:=rj.out.new
  have h2:=rj.out.old
  have h3:=rj.out.sub
  have h4:=h2 _ (h3 p J1)
  have h5:=h2 _ (h3 _ (kH HM.out).2)
  simp;omega)).trans rj.out.box
 have HT7:Hid (az (aJ p vF A0 st.l) w w7):=Hi (rj.out.turned.trans GY (fun j e=>by
  simp only [gF,Bp,or_false] at e;rcases e with rfl|rfl
  ·exact ZU
  ·exact .inl (rj.out.sub _ (kH HM.out).2)))
 obtain ⟨HP7,HC7,JE,HK7,HT⟩:=vT hP7 ug xA hk7 ht
 clear Z4 hP7 GY ug xA hk7 r CP ht
 have hd:decide (m.parts.length+1=m.count)=false:=by have:=HFEW.out;simp;omega
 rw [hd]
 have HA:Hid (nN w p (aJ p vF A0 st.l) (q.put f.id f.index.toNat f.part,[],false,0) (.returned (.tuple #[.string ⟨#[]⟩,.bool false,vI 0])) w7):=by
  have e:=Aw (p:=p) (mb:=mb) (A:=A) (q:=q) (id:=m.id) (i:=i) (s:=f.part);rw [ox.out,←Ez.out];refine Hi ⟨rfl,_,⟨mb,A,D,HC7.out,?_,rfl⟩,fun j hj=>?_,HT7.out⟩
  ·rw [show (q.put m.id i f.part).l.length=q.l.length by simp [af.aP.put]];exact JE.out
  ·rw [e] at hj;exact .inl (rj.out.sub j hj)
 clear hd
 go_wp2_with fail
 go_ret3
 exact HA.out
def WholeR (l:List (Nat×List UInt8)) (n:Nat) (sv iv:Value):Prop:=∃ k:Nat,k≤n∧sv=vS (af.whole l k)∧iv=vI k
theorem bapp (a b:List UInt8):(⟨a.toArray⟩:ByteArray)++⟨b.toArray⟩=⟨(a++b).toArray⟩:=by apply ByteArray.ext;simp
theorem OE {now:Nat} {t:List UInt8} {r:af.aP×List UInt8×Bool×Nat} (w:World) (h:cn w p st S) (hok:st.Ok) (cT:now<18446744073709551616) (hf:f.ok) (hc:¬f.count=1) (hn:(st.expire now).find f.id=some m)
 (rG:(m.count:Int)=f.count) (Tr:(m.parts.any fun p=>p.1==f.index.toNat)=false) (hfull:¬(st.expire now).room<(st.expire now).held+f.part.length) (DR:m.parts.length+1=m.count) (htt:af.whole (m.push f.index.toNat f.part).parts m.count=t)
 (hrr:(if 4096<t.length then ((st.expire now).without f.id,[],false,4) else ((st.expire now).without f.id,t,true,0))=r) :
 Calls Tryz.prog 37 #[vP p 0,.agg (jg f),vU now] w (nN w p S r):=by
 have hr:f.right=true:=(af.eH f).2 hf
 have HP:=Hi h;have jx:=Hi hok;have HF:=Hi hf;have HC:=Hi hc;have HN:=Hi hn;have Ay:=Hi rG;have HTW:=Hi Tr;have PS:=Hi hfull;have HFEW:=Hi DR;have HTT:=Hi htt;have uw:=Hi hrr
 clear h hf hok hc hn rG Tr hfull DR htt hrr
 go_enter Tryz.func37,Tryz.ntmps37
 go_wp2_with fail
 have HB:=Hi ((Mem.start w).alloc (cl (jg f) 116))
 generalize w.alloc (cl (jg f) 116)=W1 at *
 refine (fT hr _).mono ?_;rintro e w1 ⟨rfl,hb1⟩
 have lO:=Hi (HB.out.later hb1)
 clear hb1 HB
 have ec:(f.count==(1:Int))=false:=by have:=HC.out;simp;omega
 obtain ⟨vF,A0,D0,hc0,rF,rfl⟩:=HP.out.later lO.out.dZ
 have CE:=Hi (fS w1 hc0 rF jx.out cT)
 have jS:=lO.out.get 0 rfl
 have sW:=Hi (az.below (S:=aJ p vF A0 st.l) lO.out.dZ)
 have pP:=Hi HP.out.lt
 have rY:=Hi jS
 obtain ⟨k,hk⟩:∃ k,k=w.heap.size:=⟨_,rfl⟩
 have HK:=Hi hk
 rw [←hk] at rY ⊢
 clear hc0 rF jS hk lO
 go_wp2_with fail
 refine CE.out.mono ?_
 rintro e w2 ⟨rfl,S2,⟨mb,A,D,hc2,ho2,rfl⟩,gS,gj⟩
 have nA:Hid (AF w w2 p mb k (st.expire now) A D (aJ p vF A0 st.l) f):=Hi ⟨hc2,ho2,(gj.block k (lt_of_block rY.out) (fun h=>by have:=pP.out k h;rw [HK.out] at this;omega)).trans rY.out,sW.out.trans gj (fun i hi=>.inl hi),gS,GL,pP.out⟩
 clear hc2 ho2 gS gj CE rY sW
 have r:=nA.out.now
 clear hr
 have vG:=jx.out.expire now
 generalize hq:st.expire now=q at *
 have VE:=Hi vG
 obtain ⟨hm,hid⟩:=af.ku HN.out
 have hmo:=vG.each m hm
 obtain ⟨HM,Ez,Iz⟩:=ju hm hid hmo
 obtain ⟨i,hi⟩:∃ i:Nat,f.index=i:=⟨f.index.toNat,by have:=HF.out.2.2.2.2.1;omega⟩
 have Tn:i<16:=by have:=HF.out.2.2.2.2.2.1;have:=HF.out.2.2.2.1;omega
 have HI:=Hi hi
 have hin:f.index.toNat=i:=ax
 have ox:=Hi hin
 have e4:f.id<18446744073709551616:=by have:=HF.out.2.1;omega
 have lk:∀ x:Later w2,(Instr.lookup 198 (.map (some mb)) (vU f.id) true).run Tryz.prog x.world=.ok (.tuple #[vP (A m.id).1 0,.bool true]) x.world:=fun x=>by exact Yg
 have rr:=nA.out.rules
 have Tl:q.held≤100000:=by have:=vG.held;have:=vG.r1;omega
 have XG:f.part.length≤1000:=HF.out.2.2.2.2.2.2.2
 have HQ:=Hi hq
 clear hq vG hm hid hmo hi hin
 go_wp2_with fail
 refine ay aI aI ?_
 repeat go_big_quiet_step (fail)
 refine wpQuiet_nil ?_
 rintro ⟨w3,hb3⟩
 change Exit.then _ _ _ _ w3
 have qZ:=Hi (nA.out.later hb3)
 clear hb3 nA
 clear lk rr r
 have r:=qZ.out.rules
 have r':=qZ.out.msg HM.out
 have lk:∀ x:Later w3,(Instr.lookup 202 (.map (some (A m.id).2)) (vI f.index) true).run Tryz.prog x.world=.ok (.tuple #[vS (af.partAt m.parts i),.bool (m.parts.any fun p=>p.1==i)]) x.world:=fun x=>by exact aaq
 go_wp2_with fail
 refine ay aI aI ?_
 repeat go_big_quiet_step (fail)
 refine wpQuiet_nil ?_
 rintro ⟨w4,hb3⟩
 change Exit.then _ _ _ _ w4
 have oD:=Hi (qZ.out.later hb3)
 clear hb3 qZ
 clear lk r r'
 have r:=oD.out.rules
 have r':=oD.out.msg HM.out
 go_wp2_with fail
 have hb:((m.count:Int) != f.count)=false:=by have:=Ay.out;simp;omega
 have ht:(m.parts.any fun p=>p.1==i)=false:=Xp
 rw [ht]
 refine ay aI aI ?_
 repeat go_big_quiet_step (fail)
 refine wpQuiet_nil ?_
 rintro ⟨w5,hb3⟩
 change Exit.then _ _ _ _ w5
 have xQ:=Hi (oD.out.later hb3)
 clear hb3 oD
 clear r r' hb
 go_wp2_with fail
 have r:=xQ.out.rules
 have hwr:IntKind.i64.wrap ((q.held:Int)+f.part.length)=(q.held:Int)+f.part.length:=IntWalk.i64_in _ ax
 have d2:decide ((q.room:Int)<(q.held:Int)+f.part.length)=false:=by have:=PS.out;simp;omega
 refine ay aI aI ?_
 repeat go_big_quiet_step (fail)
 refine wpQuiet_nil ?_
 rintro ⟨w6,hb3⟩
 change Exit.then _ _ _ _ w6
 have rj:=Hi (xQ.out.later hb3)
 clear hb3 xQ
 clear r hwr d2
 have hmb:=rj.out.core.msgs m HM.out
 obtain ⟨DP,hop,Iy⟩:=hmb.parts
 have hbn:=fy rj.out.core.apart
 have n:=hbn.2 m HM.out
 have hc16:=Iz.out.c2
 have hfw:=Iz.out.few
 have CP:=Hi (Kf (wT:=m.count) (cf:=f.count) (s:=f.part) (id:=f.id) (held:=q.held) HI.out w6 rj.out.core.box hmb.box hop Iy ht ax ax ax ax ax ax Tl)
 have XI:=Hi hbn
 have r:=rj.out.now
 clear hmb hop Iy hbn n
 go_wp2_with fail
 refine CP.out.mono ?_
 rintro e w7 ⟨rfl,Z4,hP7,GY⟩
 have ug:=rj.out.core.put VE.out HM.out (GY.mono (fun j e=>Ip)) Z4 hP7
 have xA:=rj.out.own.same (GY.block mb rj.out.own.lt (by have:=XI.out.1;have:=(XI.out.2 m HM.out).2.2.2.1;simp;omega))
 have hk7:=(GY.block k (lt_of_block rj.out.box) (by
  have h1:=rj.out.new
  have h2:=rj.out.old
  have h3:=rj.out.sub
  have h4:=h2 _ (h3 p J1)
  have h5:=h2 _ (h3 _ (kH HM.out).2)
  simp;omega)).trans rj.out.box
 have HT7:Hid (az (aJ p vF A0 st.l) w w7):=Hi (rj.out.turned.trans GY (fun j e=>by
  simp only [gF,Bp,or_false] at e;rcases e with rfl|rfl
  ·exact ZU
  ·exact .inl (rj.out.sub _ (kH HM.out).2)))
 obtain ⟨HP7,HC7,JE,HK7,HT⟩:=vT hP7 ug xA hk7 ht
 clear Z4 hP7 GY ug xA hk7 r CP ht
 have hd:decide (m.parts.length+1=m.count)=true:=by have:=HFEW.out;simp;omega
 rw [hd]
 obtain ⟨m',hm'⟩:∃ m',m'=m.push i f.part:=⟨_,rfl⟩
 have hmem:m'∈(q.put m.id i f.part).l:=by simp only [af.aP.put,List.mem_map];exact ⟨m,HM.out,by simp [hm']⟩
 have hid':m'.id=m.id:=by rw [hm'];rfl
 have Kg:m'.parts=m.parts++[(i,f.part)]:=by rw [hm'];rfl
 have hcnt:m'.count=m.count:=by rw [hm'];rfl
 have nY:=HC7.out.msgs m' hmem
 obtain ⟨DP,hop,Iy⟩:=nY.parts
 have hkeys:(m'.parts.map (·.1)).Nodup:=by rw [hm'];exact af.OD Iz.out HT.out
 have hids:((q.put m.id i f.part).l.map (·.id)).Nodup:=by rw [af.K8];exact VE.out.ids
 have Ts:(q.put m.id i f.part).held=q.held+f.part.length:=af.Be VE.out (af.qm VE.out HM.out)
 have hwh:=af.uQ VE.out HM.out
 have hwo:=af.GZ q m.id i f.part
 have hin':(f.id,(A m'.id).1)∈(q.put m.id i f.part).l.map fun m=>(m.id,(A m.id).1):=List.mem_map.2 ⟨m',hmem,by rw [hid',Ez.out]⟩
 have n7:=fy HC7.out.apart
 have CF:=Hi (Au (rest:=(q.without m.id).held) w7 HC7.out.box nY.box hop Iy hkeys JE.out HC7.out.maps e4 hin' (by have:=n7.2 m' hmem;omega) n7.1 (by rw [Ts];omega)
  (by rw [Ts,Kg,af.vZ];unfold af.bX.bytes at hwh;omega))
 have ZO:=Hi nY;have HKEYS:=Hi hkeys;have HIDS:=Hi hids;have HWO:=Hi hwo;have HN7:=Hi n7;have tT:=Hi hmem;have HID':=Hi hid';have HPARTS:=Hi Kg;have HCNT:=Hi hcnt
 have r:=(jJ HK7.out).1
 clear hop Iy nY hkeys hids Ts hwh hwo hin' n7 hmem hid' Kg hcnt hd
 have HM':=Hi hm'
 clear hm'
 go_wp2_with fail
 refine CF.out.mono ?_
 rintro e w8 ⟨rfl,w9,Z5,yN,ty,hrun⟩
 have hpm:mb≠p:=sg HN7.out.1
 obtain ⟨w8',hrun',cH,hmt8⟩:=(JE.out.same (Z5.block mb JE.out.lt (by simp;exact hpm))).drop mX Tryz.underlying198 (iy e4) ty
 have e88:w8'=w8:=by rw [hrun] at hrun';injection hrun' with _ e;exact e.symm
 subst e88
 have EE:cG w8' p mb ((q.put m.id i f.part).without f.id) A (D.del (aV f.id)):=HC7.out.without HIDS.out Z5 (by rw [←Ez.out,HWO.out];exact yN) hmt8
 have ht8:az [p,mb] w7 w8':=(Z5.mono (fun j e=>Xo)).trans (az.grown (S:=[mb]) hmt8.grown (fun j e=>.inl nX)) (fun j e=>.inl Xo)
 have n7:=HN7.out.2 m' tT.out
 have hms8:Cv w8' (A m'.id).1 (A m'.id).2 m':=ZO.out.same (ht8.block _ (lt_of_block ZO.out.box) aR) (ht8.block _ ZO.out.parts.lt aR)
 have HT8:Hid (az (aJ p vF A0 st.l) w w8'):=Hi (HT7.out.trans ht8 (fun j e=>by
  simp only [gF,Bp,or_false] at e;rcases e with rfl|rfl
  ·exact ZU
  ·exact .inl (rj.out.sub _ J1)))
 have HEND:Hid (∃ S',cn w8' p (q.without f.id) S'∧(∀ j∈S',j∈aJ p vF A0 st.l∨w.heap.size≤j)):=by
  have e0:(q.put m.id i f.part).without f.id=q.without f.id:=by rw [←Ez.out];exact HWO.out
  rw [e0] at EE;have hz:=cH.tight;rw [EE.maps.size,Fw] at hz;refine Hi ⟨_,⟨mb,A,_,EE,hz,rfl⟩,fun j hj=>.inl (rj.out.sub j ((pE p mb A q.l _).subset hj))⟩
 obtain ⟨DP,hop,Iy⟩:=hms8.parts
 have c8:=rD hms8.box
 rw [HCNT.out,HID'.out] at c8
 rw [HID'.out] at hop
 have hlen:∀ x∈m'.parts,x.2.length≤1000:=by
  rw [HPARTS.out];intro x hx;rcases List.mem_append.1 hx with hx|hx
  ·exact (Iz.out.each x hx).2.2
  ·simp only [rZ] at hx;subst hx;exact XG
 obtain ⟨HOP,HMP,HLEN⟩:=ju hop Iy hlen
 have HTW':Hid (af.whole m'.parts m.count=t):=by have:=HTT.out;rw [ox.out] at this;rw [HM'.out];exact Hi this
 obtain ⟨a,ha⟩:∃ a,a=(A m.id).1:=⟨_,rfl⟩
 obtain ⟨b,hb⟩:∃ b,b=(A m.id).2:=⟨_,rfl⟩
 clear hrun hrun' cH hmt8 EE ht8 Z5 yN n7 hms8 hop Iy hlen r hpm ha hb
 go_wp2_with fail
 go_loop [13,114] (fun sv iv=>WholeR m'.parts m.count sv iv) (fun _ iv=>m.count - (intOf iv).toNat)
 case atStart=>exact ⟨0,pR _,rfl,rfl⟩
 case round =>
  obtain ⟨k,hk,rfl,rfl⟩:=hrel;by_cases hlt:k<m.count
  ·have lk:=Ov HOP.out HMP.out (i:=k) ax HKEYS.out
   have LM:=af.AB HLEN.out k
   have hl2:=af.Cy HLEN.out k
   have HS:=Hi (af.AA m'.parts k)
   have hl3:(af.whole m'.parts k).length≤16000:=by have:1000*k≤1000*16:=Nat.mul_le_mul_left _ (by omega);omega
   clear LM
   go_wp2_with fail
   go_round
   case rel=>exact ⟨k+1,ax,by rw [bapp,HS.out],by go_num⟩
   case measure=>simp [intOf];omega
  ·obtain rfl:k=m.count:=ax;rw [HTW'.out];have LM:=af.AB HLEN.out m.count;rw [HTW'.out] at LM;have hl3:t.length≤16000:=by have:1000*m.count≤1000*16:=Nat.mul_le_mul_left _ (by omega);omega
   clear LM;by_cases hbig:4096<t.length
   ·have HR:Hid ((q.without f.id,[],false,4)=r):=by have:=uw.out;rw [if_pos hbig] at this;exact Hi this
    exact Y6
   ·have HR:Hid ((q.without f.id,t,true,0)=r):=by have:=uw.out;rw [if_neg hbig] at this;exact Hi this
    exact Y6
theorem add_as {now:Nat} {r:af.aP×List UInt8×Bool×Nat} (hr:st.add f now=r) (w:World) (h:cn w p st S) (hok:st.Ok) (cT:now<18446744073709551616) :
 Calls Tryz.prog 37 #[vP p 0,.agg (jg f),vU now] w (nN w p S r):=by
 subst hr
 unfold af.aP.add
 by_cases hf:f.ok
 ·rw [if_neg (fun h=>h hf)];by_cases hc:f.count=1
  ·rw [if_pos hc];exact add_one w h hok cT hf hc
  ·rw [if_neg hc]
   unfold af.aP.step
   cases hn:(st.expire now).find f.id with
   | none =>
    simp only;split
    ·rename_i hfull;exact Tk w h hok cT hf hc hn hfull
    ·rename_i hfull;exact OA w h hok cT hf hc hn hfull
   | some m =>
    simp only;split
    ·rename_i h1;exact Tq w h hok cT hf hc hn h1
    ·rename_i h1;have h1':(m.count:Int)=f.count:=ML;split
     ·rename_i h2;exact OB w h hok cT hf hc hn h1' h2
     ·rename_i h2;have h2':=Bool.eq_false_iff.2 h2;split
      ·rename_i h3;exact OC w h hok cT hf hc hn h1' h2' h3
      ·rename_i h3;split
       ·rename_i h4;exact XH w h hok cT hf hc hn h1' h2' h3 h4
       ·rename_i h4;exact OE w h hok cT hf hc hn h1' h2' h3 (by simpa using h4) rfl rfl
 ·rw [if_pos hf];exact XF w h hf
end Go.Proofs.N0
namespace af
variable {idx:List Nat} {m k d id n:Nat} {s:List UInt8}
theorem EF {f:Nat→Nat}:∀ {l l':List Nat},l.Nodup→(∀ x∈l,x∈l')→(l.map f).sum≤(l'.map f).sum
 | [],_,_,_=>aH
 | x::l,l',hn,hs=>by
  rw [uM] at hn
  have hx:x∈l':=hs x (dN ..)
  have ih:=EF (f:=f) (l':=l'.erase x) hn.2 fun y hy=>(List.mem_erase_of_ne (fun e=>hn.1 (by rw [←e];exact hy))).2 (hs y (xY _ hy))
  have hp:=(List.perm_cons_erase hx).map f
  have:=hp.sum_nat
  simp only [jQ,List.sum_cons] at this ⊢
  omega
theorem XJ {l l':List Nat} (hn:l.Nodup) (hs:∀ x∈l,x∈l'):l.length≤l'.length:=by
 have h:=EF (f:=fun _=>1) hn hs
 have e:∀ l:List Nat,(l.map fun _=>1).sum=l.length:=fun l=>by induction l with
  | nil=>rfl
  | cons x l ih=>simp only [jQ,List.sum_cons,yQ,ih];omega
 rw [e,e] at h
 exact h
structure Tt (idx:List Nat) (m:Nat):Prop where
 nodup:idx.Nodup
 len:idx.length=m
 lt:∀ j∈idx,j<m
theorem Tt.all (h:Tt idx m) (hk:k<m):k∈idx:=by
 apply Decidable.byContradiction
 intro hne
 have:=XJ (l:=k::idx) (l':=List.range m) (List.nodup_cons.2 ⟨hne,h.nodup⟩) fun x hx=>by
  rcases List.mem_cons.1 hx with rfl|hx
  ·exact List.mem_range.2 hk
  ·exact List.mem_range.2 (h.lt x hx)
 simp only [yQ,List.length_range,h.len] at this
 omega
theorem Tt.range (m:Nat):Tt (List.range m) m:=⟨List.nodup_range,List.length_range,fun _ h=>List.mem_range.1 h⟩
def pp (part:Nat→List UInt8) (idx:List Nat) (k:Nat):List (Nat×List UInt8):=(idx.take k).map fun j=>(j,part j)
theorem EH (part:Nat→List UInt8) (idx:List Nat):pp part idx 0=[]:=by simp [pp]
theorem EI {part:Nat→List UInt8} (hk:k<idx.length):pp part idx (k+1)=pp part idx k++[(idx[k],part idx[k])]:=by unfold pp;rw [Fv hk,dc];rfl
theorem pp_len {part:Nat→List UInt8} (hk:k≤idx.length):(pp part idx k).length=k:=by simp [pp];omega
theorem pp_has {part:Nat→List UInt8} (h:Tt idx m) (hk:k<idx.length):((pp part idx k).any fun p=>p.1==idx[k])=false:=by rw [List.any_eq_false];intro p hp;obtain ⟨j,hj,rfl⟩:=List.mem_map.1 hp;obtain ⟨i,hi,e⟩:=List.getElem_of_mem hj;rw [fJ] at hi;rw [List.getElem_take] at e;have:j≠idx[k]:=fun e'=>List.pairwise_iff_getElem.1 h.nodup i k ax hk ax (e.trans e');simpa using this
theorem pp_sum {part:Nat→List UInt8} (h:Tt idx m):pV (pp part idx k)≤((List.range m).map fun j=>(part j).length).sum:=by unfold pV pp;rw [List.map_map];exact EF ((List.take_sublist _ _).nodup h.nodup) fun x hx=>List.mem_range.2 (h.lt x (List.mem_of_mem_take hx))
theorem Tu {part:Nat→List UInt8} (h:Tt idx m):whole (pp part idx m) m=(List.range m).flatMap part:=by
 unfold whole;rw [List.flatMap_def,List.flatMap_def];congr 1;apply tD;intro k hk;have hk':=h.all (List.mem_range.1 hk);unfold partAt pp;rw [BD (by rw [h.len];exact cC _)];have:((idx.map fun j=>(j,part j)).find? fun p=>p.1==k)=some (k,part k):=by
  rw [List.find?_map];have:(idx.find? ((fun p:Nat×List UInt8=>p.1==k)∘fun j=>(j,part j)))=some k:=by
   have e:((fun p:Nat×List UInt8=>p.1==k)∘fun j=>(j,part j))=fun j=>j==k:=by funext j;rfl
   rw [e]
   cases hf:idx.find? (fun j=>j==k) with
   | none=>exact absurd (List.find?_eq_none.1 hf k hk') aH
   | some x=>have:=List.find?_some hf;simp at this;rw [this]
  rw [this];rfl
 rw [this];rfl
def mine (d m since:Nat) (ps:List (Nat×List UInt8)):List bX:=if ps=[] then [] else [⟨d,m,since,ps⟩]
theorem AD (d m since:Nat):mine d m since []=[]:=rfl
theorem lY {since:Nat} {ps:List (Nat×List UInt8)} (h:ps≠[]):mine d m since ps=[⟨d,m,since,ps⟩]:=if_neg h
theorem Cz (d m since:Nat) (ps:List (Nat×List UInt8)):cM (mine d m since ps)=pV ps:=by
 by_cases h:ps=[]
 ·subst h;rfl
 ·rw [lY h];simp [cM,bX.bytes]
structure Side (d now:Nat) (l:List bX):Prop where
 ids:∀ x∈l,x.id≠d
 young:∀ x∈l,x.old now=false
theorem Side.keep {now:Nat} {l:List bX} (h:Side d now l):(l.filter fun m=>!m.old now)=l:=List.filter_eq_self.2 fun m hm=>by simp [h.young m hm]
theorem Side.find {now:Nat} {l:List bX} (h:Side d now l):(l.find? fun m=>m.id==d)=none:=List.find?_eq_none.2 fun m hm=>by simpa using h.ids m hm
theorem Side.without {now:Nat} {l:List bX} (h:Side d now l):(l.filter fun m=>!(m.id==d))=l:=List.filter_eq_self.2 fun m hm=>by simpa using h.ids m hm
theorem Side.put {now:Nat} {l:List bX} (h:Side d now l) (i:Nat) (s:List UInt8):(l.map fun m=>if (m.id==d)=true then m.push i s else m)=l:=by
 conv=>rhs;rw [←List.map_id l]
 apply tD
 intro m hm
 simp [h.ids m hm]
section
variable {sl rm d m since now j:Nat} {pre post:List bX} {ps:List (Nat×List UInt8)} {s:List UInt8}
theorem CU (h1:Side d now pre) (h2:Side d now post) (hy:ps≠[]→now - since≤50):(aP.mk sl rm (pre++mine d m since ps++post)).expire now=⟨sl,rm,pre++mine d m since ps++post⟩:=by
 unfold aP.expire;simp only [List.filter_append,h1.keep,h2.keep];by_cases e:ps=[]
 ·subst e;rfl
 ·rw [lY e];have:bX.old now ⟨d,m,since,ps⟩=false:=by have:=hy e;simp [bX.old];omega
  simp [this]
theorem Kh (h1:Side d now pre) (hok:bC.ok ⟨d,j,m,s⟩) (hm:2≤m) (jN:pre.length<sl) (hrm:cM pre+s.length≤rm) :
 (aP.mk sl rm pre).add ⟨d,j,m,s⟩ now=(⟨sl,rm,pre++mine d m now [(j,s)]⟩,[],false,0):=by
 unfold aP.add
 rw [if_neg (fun h=>h hok),if_neg (by show ¬((m:Int)=1);omega)]
 have e:(aP.mk sl rm pre).expire now=⟨sl,rm,pre⟩:=by unfold aP.expire;simp only [h1.keep]
 rw [e]
 unfold aP.step
 have hf:(aP.mk sl rm pre).find d=none:=h1.find
 simp only [hf]
 rw [if_neg (by show ¬(sl≤pre.length∨rm<cM pre+s.length);omega)]
 simp [aP.begin,mine]
theorem CV (h1:Side d now pre) (hps:ps≠[]):(aP.mk sl rm (pre++mine d m since ps++post)).find d=some ⟨d,m,since,ps⟩:=by unfold aP.find;simp only [List.find?_append,h1.find,lY hps];simp
theorem Tv (h1:Side d now pre) (h2:Side d now post) (hps:ps≠[]) (hy:now - since≤50) (hok:bC.ok ⟨d,j,m,s⟩) (hm:2≤m) (hno:(ps.any fun p=>p.1==j)=false) (DR:ps.length+1≠m) (hrm:cM pre+pV ps+cM post+s.length≤rm) :
 (aP.mk sl rm (pre++mine d m since ps++post)).add ⟨d,j,m,s⟩ now=(⟨sl,rm,pre++mine d m since (ps++[(j,s)])++post⟩,[],false,0):=by
 unfold aP.add
 rw [if_neg (fun h=>h hok),if_neg (by show ¬((m:Int)=1);omega),CU h1 h2 (fun _=>hy)]
 unfold aP.step
 simp only [CV h1 hps]
 rw [if_neg aH,if_neg (by simp only [IG,hno];simp),if_neg (by
  show ¬rm<cM (pre++mine d m since ps++post)+s.length
  rw [iI,iI,Cz];omega),if_pos DR]
 simp only [aP.put,IG,dc,h1.put,h2.put,lY hps,lY (show ps++[(j,s)]≠[] by simp)]
 simp [bX.push]
theorem Ki {t:List UInt8} (h1:Side d now pre) (h2:Side d now post) (hps:ps≠[]) (hy:now - since≤50) (hok:bC.ok ⟨d,j,m,s⟩) (hm:2≤m) (hno:(ps.any fun p=>p.1==j)=false) (DR:ps.length+1=m) (hrm:cM pre+pV ps+cM post+s.length≤rm)
 (ht:whole (ps++[(j,s)]) m=t) (hl:t.length≤4096) :
 (aP.mk sl rm (pre++mine d m since ps++post)).add ⟨d,j,m,s⟩ now=(⟨sl,rm,pre++post⟩,t,true,0):=by
 unfold aP.add
 rw [if_neg (fun h=>h hok),if_neg (by show ¬((m:Int)=1);omega),CU h1 h2 (fun _=>hy)]
 unfold aP.step
 simp only [CV h1 hps]
 have e:whole (bX.push ⟨d,m,since,ps⟩ (Int.toNat (j:Int)) s).parts m=t:=by simp only [bX.push,IG];exact ht
 rw [if_neg aH,if_neg (by simp only [IG,hno];simp),if_neg (by
  show ¬rm<cM (pre++mine d m since ps++post)+s.length
  rw [iI,iI,Cz];omega),if_neg ax]
 simp only [e]
 rw [if_neg ax]
 simp only [aP.without,List.filter_append,h1.without,h2.without,lY hps]
 simp
end
theorem Kj {q:aP} {now:Nat} (hok:bC.ok ⟨d,0,1,s⟩) (hk:q.expire now=q):q.add ⟨d,0,1,s⟩ now=(q,s,true,0):=by unfold aP.add;rw [if_neg (fun h=>h hok),if_pos rfl,hk]
def part (s:List UInt8) (n j:Nat):List UInt8:=(s.drop (j*n)).take n
theorem Tw (hk:k<many s.length n):eB (gw s id n) k=⟨id,k,many s.length n,part s n k⟩:=wW hk
theorem wY (h:lC s id n):(List.range (many s.length n)).flatMap (part s n)=s:=by
 have:=h.parts
 unfold joined at this
 rw [BD (cC _)] at this
 simp only [gw,List.flatMap_map] at this
 exact this
theorem OG (h:lC s id n):((List.range (many s.length n)).map fun j=>(part s n j).length).sum=s.length:=by
 have:=congrArg List.length (wY h)
 rw [List.length_flatMap] at this
 exact this
end af
namespace Go
open Go.RowKit Go.Proofs.N0
variable {v:Nat→Value}
section
variable {P:Program} {l:List Oper} {w0:World} {Q:Exit→Act→World→Prop} {a0:Act} {Wr Al:List Nat} {F:Nat→Option Value} {Ps:List SPred} {Lc:List (Nat×Obj)} {k:Nat} {o:Oper} {u:Value} {S:List Nat} {s0:World} {α β:Type}
theorem XK {id n:Nat} (Wr Al:List Nat) (F:Nat→Option Value) (Lc:List (Nat×Obj)) {A0:List (Nat×Obj)} {R0:List aW} {L0:List (Nat×Obj)} {ez:α→List (Nat×Value)} {Az Lz:α→List (Nat×Obj)} {Rz:α→List aW} (Ps:List SPred) (hN:NF S s0 w0 R0 L0)
 (dQ:oP P l Q a0 Wr Al F Ps Lc 0 l)
 (hend:∀ v q x a,(∀ k u,k<l.length→F k=some u→v k=u)→tH v (ez a)→stA v q (Az a)→NF S s0 x (Rz a) (Lb q (Az a) (Lz a))→Q .normal (aq a0 0 l v) x)
 (DG:Ps[0]?=some (kN S s0 A0 R0 L0):=by rfl) (YT:Ps[Wr.length]?=some (jW S s0 ez Az Rz Lz):=by rfl)
 (hm:P.follows .mixedOrders=true:=by kernel_rfl) (hB:kz l n=true:=by kernel_rfl) (hC:chainB l Wr=true:=by kernel_rfl)
 (hok:uO Wr Al l.length Lc 0 Ps:=by
  repeat (first|exact True.intro|refine ⟨jW.ok (fun _=>by repeat (first|with_reducible exact sj _|with_reducible refine List.Sublist.cons_cons _ ?_|with_reducible refine List.Sublist.cons _ ?_|with_reducible refine List.sublist_append_of_sublist_right ?_)) (fun _=>rfl) rfl (fun _=>rfl),?_⟩))
 (hA0:A0.map (·.1)=Al:=by rfl) (hAz:∀ a,(Az a).map (·.1)=Al:=by intro _;rfl) (hAl:Al.all (· < l.length)=true:=by rfl):(Code.region id l.toArray true).wp P Q a0 w0:=by
 have hlt:∀ k∈Al,k<l.length:=fun k hk=>by simpa using List.all_eq_true.1 hAl k hk
 refine BX (n:=n) Wr Al F Lc Ps hm hB hC (fun p hp D v x h=>?_) (fun p hp D v x y h hb=>?_) (fun i p hp D D' v v' x hD hv h=>?_) DG (fun D v hD=>?_) YT dQ (fun D v x hF hD h=>?_)
 ·exact aai
 ·exact Zb
 ·exact UQ
 ·exact a981
 ·obtain ⟨a,q,h1,h2,h3⟩:=h;have hDz:∀ e∈Az a,D e.1=true:=fun e he=>by
   have hm:e.1∈Al:=by rw [←hAz a];exact mG (f:=(·.1)) he
   exact hD e.1 (hlt _ hm)
  rw [Lf _ _ hDz] at h3;exact hend v q x a hF h1 (Le _ h2 hDz) h3
variable {eq:α→List (Nat×Value)} {al L:α→List (Nat×Obj)} {R:α→List aW} {eq':β→List (Nat×Value)} {al' L':β→List (Nat×Obj)} {R':β→List aW}
def stT (k:Nat) (v:Nat→Value) (D:Nat→Bool) (q:Nat→Nat) (S:List Nat) (s0:World) (eq':β→List (Nat×Value)) (al':β→List (Nat×Obj)) (R':β→List aW) (L':β→List (Nat×Obj)) (u:Value) (y:World):Prop:=∃ b:β,tH (fun j=>if j=k then u else v j) (eq' b)∧NF S s0 y (R' b) (xz D q (al' b) (L' b))
theorem AE {A A':List (Nat×Obj)} {D:Nat→Bool} {q:Nat→Nat} (hA:A.map (·.1)=Al) (hA':A'.map (·.1)=Al) (hka:k∉Al) (h:Iq D v q A):Iq D (fun j=>if j=k then u else v j) q A':=(lH _).2 fun e he hD=>by
 have hm:e.1∈Al:=by rw [←hA'];exact mG (f:=(·.1)) he
 have hne:e.1≠k:=fun e'=>hka (e'▸hm);simp only [if_neg hne];obtain ⟨e2,VR,e3⟩:=List.mem_map.1 (show e.1∈A.map (·.1) by rw [hA];exact hm);rw [←e3];exact (lH _).1 h e2 VR (by rw [e3];exact hD)
theorem G5 {A:List (Nat×Value)} (hk:(A.map (·.1)).contains k=false) (h:tH v A):tH (fun j=>if j=k then u else v j) A:=(nD _).2 fun e he=>by
 have hne:e.1≠k:=fun e'=>by rw [←Bool.not_eq_true,List.contains_iff_mem] at hk;exact hk (e'▸mG (f:=(·.1)) he)
 simp only [if_neg hne];exact (nD _).1 h e he
theorem Tx {A:List (Nat×Value)} (h:tH v A) (hv:v k=u):tH v (A++[(k,u)]):=(nD _).2 fun e he=>by
 rcases List.mem_append.1 he with he|he
 ·exact (nD _).1 h e he
 ·rw [rZ] at he;subst he;exact hv
theorem sX (h:∀ D v q x (a:α),tH v (eq a)→Iq D v q (al a)→NF S s0 x (R a) (xz D q (al a) (L a))→(∀ j,j∈waits o→D j=true)→(∀ j u,j∈waits o→F j=some u→v j=u)→o.wp P (aq a0 0 l v) x (fun a' y=>∃ u,a'=(aq a0 0 l v).put o.dst u∧stT k v D q S s0 eq' al' R' L' u y) Q)
 (hu:F k=none:=by rfl) (hk:Wr[Wr.idxOf k]?=some k:=by rfl) (hka:k∉Al:=by decide) (hg:o.guard=none:=by rfl) (hp:Ps[Wr.idxOf k]?=some (jW S s0 eq al R L):=by rfl) (hq:Ps[Wr.idxOf k+1]?=some (jW S s0 eq' al' R' L'):=by rfl) (hA:∀ a,(al a).map (·.1)=Al:=by intro _;rfl) (hA':∀ a,(al' a).map (·.1)=Al:=by intro _;rfl):iq P l Q a0 Wr Al F Ps Lc k o :=
 lU (Wr.idxOf k) hk hka hg hp hq hu fun D v x ⟨a,q,h1,h2,h3⟩ _ hW hF =>
  ⟨stT k v D q S s0 eq' al' R' L',fun u z ⟨b,h4,h5⟩=>⟨b,q,h4,AE (hA a) (hA' b) hka h2,h5⟩,h D v q x a h1 h2 h3 hW hF⟩
def AG:List (Nat×Value)→Value
 | []=>undef
 | [e]=>e.2
 | _::e::r=>AG (e::r)
theorem sY {ey:α→List (Nat×Value)} (hu:F k=none:=by rfl) (hk:Wr[Wr.idxOf k]?=some k:=by rfl) (hka:k∉Al:=by decide) (hg:o.guard=none:=by rfl) (hp:Ps[Wr.idxOf k]?=some (jW S s0 eq al R L):=by rfl) (hq:Ps[Wr.idxOf k+1]?=some (jW S s0 ey al R L):=by rfl) (hA:∀ a,(al a).map (·.1)=Al:=by intro _;rfl)
 (hr:∀ a,ey a=eq a++[(k,AG (ey a))]:=by intro _;rfl) (hne:∀ a,((eq a).map (·.1)).contains k=false:=by intro _;rfl)
 (h:∀ v x (a:α),tH v (eq a)→Mem x Lc x→kS F v (waits o)→wpQuiet P #[] (fun y=>∃ z:Later x,y=z.world) (fun b=>b=(aq a0 0 l v).put o.dst (AG (ey a))) [o] (aq a0 0 l v):=by
  intro v x a hS hM hE;simp only [kS,tb,waits,oO,Fu,jQ,uL,Region.binds,reduceIte] at hE;simp only [tH,and_true] at hS;first
   | (simp only [PU,hE,hS,AG];go_big_quiet_step (fail);exact wpQuiet_nil rfl)
   | (have yy:=rl hM.ei;simp only [PU,hE,hS,AG];go_big_quiet_step (fail);exact wpQuiet_nil rfl)):iq P l Q a0 Wr Al F Ps Lc k o :=
 lU (Wr.idxOf k) hk hka hg hp hq hu fun D v x ⟨a,q,h1,h2,h3⟩ hM hW hF =>
  ⟨fun u z=>u=AG (ey a)∧Below x.heap.size x z,fun u z ⟨h4,h5⟩=>⟨a,q,by rw [hr a];refine Tx (G5 (hne a) h1) ?_;simp only [if_true,h4],AE (hA a) (hA a) hka h2,h3.later h5⟩,
   B6 (AG (ey a)) hg (fun _ hb=>⟨rfl,hb⟩) (h v x a h1 hM (Bv hF))⟩
def OH (X:SPred→Prop):List SPred→Prop
 | []=>True
 | p::r=>X p∧OH X r
theorem OH.at {X:SPred→Prop}:∀ {r:List SPred},OH X r→∀ p∈r,X p
 | [],_,p,h=>absurd h aH
 | q::r,h,p,hp=>by
  rcases List.mem_cons.1 hp with rfl|hp
  ·exact h.1
  ·exact OH.at h.2 p hp
theorem sE {j:Nat} (n:Nat) (h:OH (fun p=>∀ D v x,p D v x→kS F v (waits o)→wpQuiet P #[] (fun y=>∃ z:Later x,y=z.world) (fun b=>b=(aq a0 0 l v).put o.dst u) [o] (aq a0 0 l v)) (Ps.drop (n+1)):=by
 repeat (first|exact True.intro|(refine ⟨?_,?_⟩;· intro D v x h hE;obtain ⟨a,q,hS,_,_⟩:=h;simp only [tH,and_true] at hS;simp only [kS,tb,waits,oO,Fu,jQ,uL,Region.binds,reduceIte] at hE;simp only [PU,hE,hS];go_big_quiet_step (fail);exact wpQuiet_nil rfl)))
 (hn:Wr[n]?=some j:=by rfl) (hj:j∈waits o:=by decide) (hk:k∉Wr∧k∉Al:=by decide) (hu:F k=some u:=by rfl) (hg:o.guard=none:=by rfl):iq P l Q a0 Wr Al F Ps Lc k o :=
 MR n j hk hu hg hn hj fun m p hm hp D v x h1 hF=>OH.at h p (by
  refine IQ (i:=m - (n+1)) ?_
  rw [List.getElem?_drop,show n+1+(m - (n+1))=m by omega]
  exact hp) D v x h1 (Bv hF)
theorem qE {A:Prop} (h:A:=by
 simp only [tH,and_true] at hS;simp only [kS,tb,waits,oO,Fu,jQ,uL,Region.binds,reduceIte] at hE;simp only [PU,hE,hS];go_big_quiet_step (fail);exact wpQuiet_nil rfl):A:=h
theorem sZ {al' L':α→List (Nat×Obj)} {R':α→List aW}
 (h:∀ D v q x (a:α),tH v (eq a)→Iq D v q (al a)→NF S s0 x (R a) (xz D q (al a) (L a))→(∀ j,j∈waits o→D j=true)→(∀ j u,j∈waits o→F j=some u→v j=u)→∃ Y,NF S s0 Y (R' a) (xz D q (al' a) (L' a))∧o.wp P (aq a0 0 l v) x (fun a' y=>a'=(aq a0 0 l v).put o.dst undef∧y=Y) Q)
 (hu:F k=none:=by rfl) (hk:Wr[Wr.idxOf k]?=some k:=by rfl) (hka:k∉Al:=by decide) (hg:o.guard=none:=by rfl) (hp:Ps[Wr.idxOf k]?=some (jW S s0 eq al R L):=by rfl) (hq:Ps[Wr.idxOf k+1]?=some (jW S s0 eq al' R' L'):=by rfl) (hA:∀ a,(al a).map (·.1)=Al:=by intro _;rfl) (hA':∀ a,(al' a).map (·.1)=Al:=by intro _;rfl) (hne:∀ a,((eq a).map (·.1)).contains k=false:=by intro _;rfl):iq P l Q a0 Wr Al F Ps Lc k o :=
 lU (Wr.idxOf k) hk hka hg hp hq hu fun D v x ⟨a,q,h1,h2,h3⟩ _ hW hF=>by
  obtain ⟨Y,h4,h5⟩:=h D v q x a h1 h2 h3 hW hF;refine ⟨fun u z=>u=undef∧z=Y,?_,?_⟩
  ·rintro u z ⟨rfl,rfl⟩;exact ⟨a,q,G5 (hne a) h1,AE (hA a) (hA' a) hka h2,h4⟩
  ·refine Oper.wp_mono ?_ h5;rintro _ _ ⟨rfl,rfl⟩;exact ⟨undef,rfl,rfl,rfl⟩
theorem wX {A B:Prop} (k:B) (h:B→A:=by
 intro kk;refine sX ?_;intro D v q x a hS hP h0 hW hF;have hE:=Bv hF;have hD:=QH hW;have hT:=hS;clear hF hW;simp only [kS,tb,waits,oO,Fu,jQ,uL,Region.binds,reduceIte] at hE;simp only [MT,waits,oO,Fu,jQ,uL,Region.binds,reduceIte] at hD;try simp only [Iq,hD,forall_const,and_true,true_and] at hP
 try simp only [xz,hD,if_true,bQ,bG] at h0
 simp only [tH,and_true] at hT;simp only [PU,hE,hP,hT,xz,hD,if_true,bQ,bG];unfold Oper.wp;go_simp;clear hD hP hE hT;revert D v q x a;exact kk):A:=h k
theorem xE {A:Prop} (h:A:=by first|(simp [tH];done)|(simp only [tH,and_true] at hS;simp [tH,hS];done)):A:=h
theorem wZ {A B:Prop} (k:B) (h:B→A:=by
 intro kk;refine sZ ?_;intro D v q x a hS hP h0 hW hF;have hE:=Bv hF;have hD:=QH hW;clear hF hW;simp only [kS,tb,waits,oO,Fu,jQ,uL,Region.binds,reduceIte] at hE;simp only [MT,waits,oO,Fu,jQ,uL,Region.binds,reduceIte] at hD;try simp only [Iq,hD,forall_const,and_true,true_and] at hP
 try simp only [xz,hD,if_true,bQ,bG] at h0
 simp only [tH,and_true] at hS;have yy:=rla (h0.iV ⟨x,Below.refl _ _⟩);simp only [PU,hE,hP,hS,xz,hD,if_true,bQ,bG];clear hD hP hE hS;revert D v q x a;exact kk):A:=h k
end
end Go
