/- Texts YtnkbpigjdojakaaGreatTmMay .. YtnkbpigjdojakaaGreatHdBg, joined. What they prove: the contracts of the functions that the law reaches, and plain law. -/
import Derived.Test.YtnkbpigjdojakaaGreatG2
import Derived.Laws.AppendOwn
import Derived.Lib.MinMax
import Derived.Deep.AppendLies
import Derived.StillTailTactics
import Derived.ScopeJumps
import Derived.WalkMore
import Derived.Control
import Derived.WalkLawsBesides
import Derived.Defers
import Derived.Recover
import Derived.Laws.Pointers
set_option maxRecDepth 100000
set_option maxHeartbeats 6400000
theorem Fv:type_of% @List.take_succ_eq_append_getElem:=@List.take_succ_eq_append_getElem
theorem aN:type_of% @Bool.and_false:=@Bool.and_false
theorem zq:type_of% @List.sublist_cons_self:=@List.sublist_cons_self
theorem nS:type_of% @Bool.not_false:=@Bool.not_false
theorem Fw:type_of% @List.length_map:=@List.length_map
theorem wB:type_of% @List.getElem?_map:=@List.getElem?_map
variable {A:Prop}
theorem a926 (h:A:=by
 have HS:=Hi h;have CO:=Hi fun (W:World)=>uT (t:=⟨k,s,n,a,b,c⟩) W;have CL:=Hi fun (W:World) (hb:Below w.heap.size w W)=>kO W (HS.out.later hb) hl;clear h;have M:Hid (Mem w [(w.heap.size,cl #[vI k,vS s,vU n,vI a,vI b,vI c] 95)] (w.alloc (cl #[vI k,vS s,vU n,vI a,vI b,vI c] 95))):=Hi ((Mem.start w).alloc _);have r:=xX M.out.ei;have EG:Tryz.prog.eqGuardType Tryz.prog.depth 95=false:=by kernel_rfl
 go_enter Tryz.func70,Tryz.ntmps70;go_wp2_with fail;generalize w.alloc (cl #[vI k,vS s,vU n,vI a,vI b,vI c] 95)=W1 at *;refine ay (by kernel_rfl) (by kernel_rfl) ?_;repeat go_big_quiet_step (fail)
 refine wpQuiet_nil ?_;rintro ⟨w2,hb2⟩;change Exit.then _ _ _ _ w2;have HB:=Hi ((M.out.later hb2).dZ);clear hb2 r EG;go_wp2_with fail;go_ret;exact ⟨rfl,HB.out⟩):A:=h
theorem B7 (h:A:=by
 have HS:=Hi h;have CO:=Hi fun (W:World)=>uT (t:=⟨k,s,n,a,b,c⟩) W;have CL:=Hi fun (W:World) (hb:Below w.heap.size w W)=>kO W (HS.out.later hb) hl;clear h;have M:Hid (Mem w [(w.heap.size,cl #[vI k,vS s,vU n,vI a,vI b,vI c] 95)] (w.alloc (cl #[vI k,vS s,vU n,vI a,vI b,vI c] 95))):=Hi ((Mem.start w).alloc _);have r:=xX M.out.ei;have EG:Tryz.prog.eqGuardType Tryz.prog.depth 95=false:=by kernel_rfl
 go_enter Tryz.func70,Tryz.ntmps70;go_wp2_with fail;generalize w.alloc (cl #[vI k,vS s,vU n,vI a,vI b,vI c] 95)=W1 at *;refine ay (by kernel_rfl) (by kernel_rfl) ?_;have Y3:∀ x:Later W1,Calls Tryz.prog 108 #[.agg #[vI k,vS s,vU n,vI a,vI b,vI c]] x.world fun e w'=>e=.returned (.agg (fH o))∧Below x.world.heap.size x.world w':=fun x=>by have:=CO.out x.world;rw [HO.out] at this;exact this
 repeat (first|go_big_quiet_step (fail)|go_big_quiet_step ((go_at_call 108;exact Calls.later (Y3 _))))
 clear EQ Y3;refine wpQuiet_nil ?_;rintro ⟨w2,hb2⟩;change Exit.then _ _ _ _ w2;have HB:=Hi ((M.out.later hb2).dZ);clear hb2 r EG;go_wp2_with fail;go_ret;exact ⟨rfl,HB.out⟩):A:=h
theorem a91 (h:A:=by
 refine wpQuiet_nil ?_
 rintro ⟨w2,hb2⟩
 change Exit.then _ _ _ _ w2
 have M2:=Hi (M.out.later hb2)
 clear hb2 r EG
 have r2:=xX M2.out.rules
 go_wp2_with fail
 refine (dI (t:=⟨k,s,n,a,b,c⟩) (l:=l) HL.out _).mono ?_
 rintro e w3 ⟨v,rfl,hrow,hb3⟩
 have M3:=Hi (M2.out.later hb3)
 clear hb3 r2
 obtain ⟨m,hm⟩:∃ m,m=l.length:=⟨_,rfl⟩
 have HM:=Hi hm
 obtain ⟨x,hv,hx⟩:∃ x,v=.slice x m m∧∀ i,i<l.length→∃ g,x=some ⟨g,0,none⟩∧w3.cell? ⟨g,i,none⟩=some (vI (l.getD i 0)):=by
  rcases hrow with ⟨rfl,rfl⟩|⟨g,rfl,hg⟩
  ·subst hm;exact ⟨none,rfl,fun i hi=>absurd hi (by simp)⟩
  ·exact ⟨some ⟨g,0,none⟩,by rw [hm],fun i hi=>⟨g,rfl,zu hg hi⟩⟩
 subst hv
 have HX:=Hi hx
 have hm3:m≤3:=by have:=HL.out;have h3:=af.xw ⟨k,s,n,a,b,c⟩;rw [this,←hm] at h3;exact h3
 clear hrow hx hm
 go_wp2_with fail
 go_loopw [42] (fun iv wr=>MayR st l w3 iv wr) (fun iv _=>m - (intOf iv).toNat)
 case atStart=>exact ⟨0,pR _,rfl,rfl,rfl⟩
 case round =>
  obtain ⟨i,hi,rfl,hok,rfl⟩:=hrel
  rw [←HM.out] at hi
  have jx:=Hi hok
  clear hok
  by_cases hlt:i<m
  ·obtain ⟨g,rfl,hc⟩:=HX.out i (by rw [←HM.out];exact hlt)
   have PO:l.take (i+1)=l.take i++[l.getD i 0]:=by
    have hil:i<l.length:=by rw [←HM.out];exact hlt
    rw [Fv hil,ux,lz hil];rfl
   have HT:=Hi PO
   have js:inside st (l.getD i 0)=false→l.all (inside st)=false:=fun hf=>by
    rw [←List.take_append_drop (i+1) l,HT.out,List.all_append,List.all_append,List.all_cons,hf];simp
   have HF:=Hi js
   clear PO js
   generalize hy:l.getD i 0=y at *
   have HY:=Hi hy
   clear hy
   by_cases h7:y<1
   ·have e1:decide (y<1)=true:=by simp;omega
    have HR:Hid (l.all (inside st)=false):=Hi (HF.out (by unfold inside;rw [decide_eq_false (by omega)];rfl))
    go_wp2_with fail
    go_ret
    exact ⟨gH HR.out.symm,M3.out.dZ⟩
   ·have e1:decide (y<1)=false:=by simp;omega
    by_cases h8:(st.l.length:Int)<y
    ·have e2:decide ((st.l.length:Int)<y)=true:=by simp;omega
     have HR:Hid (l.all (inside st)=false):=Hi (HF.out (by unfold inside;rw [decide_eq_false (p:=y≤_) (by omega),aN]))
     go_wp2_with fail
     refine (CL.out _ M3.out.dZ).mono ?_
     rintro e w4 ⟨rfl,rfl⟩
     go_wp2_with fail
     go_ret
     exact ⟨gH HR.out.symm,M3.out.dZ⟩
    ·have e2:decide ((st.l.length:Int)<y)=false:=by simp;omega
     have HR:Hid ((l.take (i+1)).all (inside st)=true):=Hi (by rw [HT.out,List.all_append,jx.out];simp [inside];omega)
     go_wp2_with fail
     refine (CL.out _ M3.out.dZ).mono ?_
     rintro e w4 ⟨rfl,rfl⟩
     go_wp2_with fail
     go_roundw
     case rel=>exact ⟨i+1,by rw [←HM.out];omega,rfl,HR.out,rfl⟩
     case measure=>simp [intOf];omega
  ·obtain rfl:i=m:=by omega
   have HR:Hid (l.all (inside st)=true):=Hi (by have:=jx.out;rw [HM.out,List.take_length] at this;exact this)
   go_wp2_with fail
   go_ret
   exact ⟨gH HR.out.symm,M3.out.dZ⟩):A:=h
theorem Zw (h:A:=by
 obtain ⟨a,rfl,e⟩:=plainElem_int_inv Tryz.underlying3 hv;simp only [Prod.mk.injEq,DataW.lit.injEq,Lit.int.injEq,true_and] at e;rw [←e.1.1]):A:=h
theorem c919 (h:A:=by simp at hi;subst hi;exact .inl (by simp)):A:=h
theorem SV (h:A:=by
 have:=lt_of_block h4
 refine ⟨q,h1,h2,?_,(old q this h3).trans h4⟩
 rcases hg with e|e
 ·cases e;exact h3
 ·omega):A:=h
theorem Y8 (h:A:=by
 rw [hc] at h4;simp only [Option.some.injEq,Obj.cells.injEq] at h4;first|exact hT.1 h4.2.1|exact hT.1 h4.2.1.symm):A:=h
theorem Zc (h:A:=by
 subst e;rw [h.box] at hq;simp only [Option.some.injEq,Obj.cells.injEq] at hq;exact hT hq.2.1.symm):A:=h
theorem Uj (h:A:=by
 intro hb;obtain ⟨q,h1,h2,h3,h4⟩:=h.new1 hb;exact ⟨q,h1,h2,h3,(hne q (I3 q _ _ h4 hT.2.1)).trans h4⟩):A:=h
theorem a9167 (h:A:=by
 intro hb;obtain ⟨q,h1,h2,h3,h4⟩:=h.new2 hb;exact ⟨q,h1,h2,h3,(hne q (I3 q _ _ h4 hT.2.2)).trans h4⟩):A:=h
theorem c920 (h:A:=by rw [←HM.out];exact hlt):A:=h
theorem Dq (h:A:=by
 go_big_quiet_step (fail);exact wpQuiet_nil rfl):A:=h
theorem tW (h:A:=by
 refine eN rfl (fun y hb=>⟨rfl,g1,k1,g2,k2,hR.later hb⟩) ?_;exact Dq):A:=h
theorem Pz (h:A:=by
 intro L v x jR hW hF hbk hM;obtain ⟨g1,k1,g2,k2,hR⟩:=hM;refine ⟨aK rfl,?_⟩;simp only [aq,Act.put,aX,jr,aY];exact tW):A:=h
theorem c921 (h:A:=by simp only [bF,Nat.reduceAdd,Nat.reduceBEq,beq_self_eq_true,Bool.or_true,pS,Nat.reduceEqDiff,if_true,if_false,reduceIte];exact HR.out):A:=h
theorem YO (h:A:=by
 simp only [bF,Nat.reduceAdd,Nat.reduceBEq,beq_self_eq_true,Bool.or_true,pS,Nat.reduceEqDiff,if_true,if_false,reduceIte];rw [cs];exact this):A:=h
theorem c922 (h:A:=by simp only [bF,Nat.reduceAdd,Nat.reduceBEq,beq_self_eq_true,Bool.or_true,pS,Nat.reduceEqDiff,if_true,if_false,reduceIte];rw [hn];exact HR.out):A:=h
theorem aaf (h:A:=by
 rintro e w' ⟨rfl,hb⟩;exact ⟨rfl,h.later hb⟩):A:=h
theorem ZF (h:A:=by
 go_wp2_with fail;refine CP.out.mono ?_;rintro e w1 ⟨rfl,h1⟩;have F1:=Hi h1;clear h1;go_wp2_with fail;go_ret2;exact F1.out.done):A:=h
theorem a939 (h:A:=by
 clear h hok;go_enter Tryz.func99,Tryz.ntmps99;go_wp2_with fail;refine (CX.out).mono ?_;rintro e w1 ⟨rfl,h1⟩;have F1:=Hi (h1.alloc (cl #[vI (st.at x).k,vS (st.at x).s,vU (st.at x).n,vI (st.at x).a,vI (st.at x).b,vI (st.at x).c] 95));clear h1 F0;go_wp2_with fail;generalize w1.alloc (cl #[vI (st.at x).k,vS (st.at x).s,vU (st.at x).n,vI (st.at x).a,vI (st.at x).b,vI (st.at x).c] 95)=W1 at *;have CP:=Hi (F1.out.kB (x:=pb) (t:=t) (b:=st.has pb) ht rfl);refine (CP.out).mono ?_;rintro e w2 ⟨rfl,h1⟩;have F2:=Hi (h1.alloc (cl (fH t) 95));clear h1 F1;generalize hW:w2.alloc (cl (fH t) 95)=W2 at *;have r:=rl F2.out.mem.rules;go_wp2_with fail;go_ret2;exact F2.out.done):A:=h
theorem aak (h:A:=by
 rintro e w3 ⟨rfl,h1⟩;have F4:=Hi h1;clear h1 r;go_wp2_with fail;go_ret2;exact F4.out.done):A:=h
theorem ow (h:A:=by simpa using hk):A:=h
theorem MU (h:A:=by rw [bne,hk];rfl):A:=h
theorem MV (h:A:=by simpa using hd):A:=h
theorem a921 (h:A:=by
 obtain ⟨HX,HA⟩:=hi2 hx PR;clear hx PR;have hk2:(t.k != 5)=false:=by rw [bne,hk];rfl
 have F0:=Hi (SF.start h hok);have CP:=Hi (F0.out.kB (x:=pb) (t:=t) (b:=st.has pb) ht rfl);clear h hok ht;go_enter Tryz.func100,Tryz.ntmps100;go_wp2_with fail;refine (CP.out).mono ?_;rintro e w1 ⟨rfl,h1⟩;have F1:=Hi (h1.alloc (cl (fH t) 95));clear h1 F0;go_wp2_with fail;have F2:=Hi (F1.out.alloc (cl #[vI d] 3));simp only [World.size_alloc] at F2;refine (F2.out.there (l:=[d]) (z:=true) (by simp) (F2.out.get 0 rfl) (by simpa using hd)).mono ?_;rintro e w2 ⟨rfl,h1⟩;have F3:=Hi h1;clear h1 F2;have r:=rl F3.out.mem.rules;go_wp2_with fail;refine (F3.out.put (t:=⟨6,[],0,t.a,d,0⟩) (Ir (by omega) (by simp) (by omega) HA.out HX.out cm) HF.out).mono ?_;rintro e w3 ⟨rfl,h1⟩;have F4:=Hi h1;clear h1 r;have r:=rl F4.out.mem.rules;go_wp2_with fail;refine (F4.out.put (t:=⟨7,[],0,t.a,d,0⟩) (Ir (by omega) (by simp) (by omega) HA.out HX.out cm) HG.out).mono ?_;rintro e w4 ⟨rfl,h1⟩;have F5:=Hi h1;clear h1 r;go_wp2_with fail;go_ret3;exact F5.out.uU):A:=h
theorem a947 (h:A:=by
 have F0:=Hi (SF.start h hok);have CP:=Hi (F0.out.kB (x:=c) (t:=t) (b:=st.has c) ht rfl);clear h hok ht;go_enter Tryz.func167,Tryz.ntmps167;go_wp2_with fail;refine (CP.out).mono ?_;rintro e w1 ⟨rfl,h1⟩;have F1:=Hi (h1.alloc (cl (fH t) 95));clear h1 F0;go_wp2_with fail;have F2:=Hi (F1.out.alloc (cl #[vI x,vI c] 3));simp only [World.size_alloc] at F2;refine (F2.out.there (l:=[x,c]) (z:=true) (by simp) (F2.out.get 0 rfl) (by simpa using hd)).mono ?_;rintro e w2 ⟨rfl,h1⟩;have F3:=Hi h1;clear h1 F2 hd;have r:=rl F3.out.mem.rules;go_wp2_with fail;go_ret2;exact F3.out.done):A:=h
theorem W7 (h:A:=by
 rintro e w3 ⟨rfl,h1⟩;have F3:=Hi h1;clear h1 F2;have r:=rl F3.out.mem.rules;go_wp2_with fail;clear r;have rq:=rl F3.out.mem.ei;refine ay (by kernel_rfl) (by kernel_rfl) ?_;repeat go_big_quiet_step (fail)
 refine wpQuiet_nil ?_;rintro ⟨w4,hb⟩;change Exit.then _ _ _ _ w4;have F4:=Hi (F3.out.later hb);clear hb rq F3;go_wp2_with fail;go_ret3;exact F4.out.uU):A:=h
theorem Kk (h:A:=by
 go_wp2_with fail;go_ret;exact ⟨rfl,HB.out⟩):A:=h
theorem PW (h:A:=by
 obtain ⟨H1,H2,H3,HT⟩:=hi4 h1 h2 h3 ht;clear h1 h2 h3 ht;have F0:=Hi (SF.start h hok);clear h hok;go_enter Tryz.func175,Tryz.ntmps175;go_wp2_with fail;refine (F0.out.Lj (x:=k) (b:=true) H1.out).mono ?_;rintro e w1 ⟨rfl,h1⟩;have F1:=Hi h1;clear h1 F0;go_wp2_with fail;refine (F1.out.Lj (x:=b) (b:=true) H2.out).mono ?_;rintro e w2 ⟨rfl,h1⟩;have F2:=Hi h1;clear h1 F1;go_wp2_with fail;refine (F2.out.Lj (x:=c) (b:=true) H3.out).mono ?_;rintro e w3 ⟨rfl,h1⟩;have F3:=Hi h1;clear h1 F2;go_wp2_with fail;refine (F3.out.kB HT.out H3.out).mono ?_;rintro e w4 ⟨rfl,h1⟩;have F4:=Hi (h1.alloc (cl (fH t) 95));clear h1 F3;go_wp2_with fail;go_ret2;exact F4.out.Ll):A:=h
theorem V9 (h:A:=by simpa using h2):A:=h
theorem MW (h:A:=by simpa using e1):A:=h
theorem Zn (h:A:=by
 go_wp2_with fail;go_ret;exact ⟨rfl,(Below.refl _ _).alloc (cC _) _⟩):A:=h
theorem c928 (h:A:=by simp [results,Tryz.results137,go_sem,r]):A:=h
theorem QN (h:A:=by
 exact ⟨eC (pR _),eC (pR _)⟩):A:=h
theorem QS (h:A:=by simpa using hr):A:=h
theorem c930 (h:A:=by simp [results,Tryz.results101,go_sem,r]):A:=h
theorem c931 (h:A:=by simp [results,Tryz.results168,go_sem,r]):A:=h
theorem a937 (h:A:=by
 intro v qq x hF hA h;simp only [SA,SC] at hA h;generalize qq 13=q13 at hA h;have F1:=Hi h;simp only [PU,bF,Nat.reduceAdd,gT hF 15,hA];clear hF hA h;clear F0;go_wp2_with fail;by_cases he:er=0
 ·subst he;refine (jy _).mono ?_;rintro e w1 ⟨rfl,rfl⟩;have F2:=Hi ((((F1.out.ai (B:=[_]) 1 (vI z.ck)).ai (B:=[_]) 2 (vI z.k)).ai (B:=[_]) 3 (vI z.h)).ai (B:=[_]) 4 (vU z.n));have r:=rl F1.out.mem.rules;go_wp2_with fail;go_end0;exact ⟨rfl,(F2.out.sub (zq _ _)).QI⟩
 ·refine (jz he _).mono ?_;rintro e w1 ⟨rfl,rfl⟩;exact ⟨rfl,fun h=>absurd h he,fun _=>⟨rfl,(F1.out.sub (zq _ _)).QI⟩⟩):A:=h
theorem a935 (h:A:=by
 intro v qq x hF hA h;simp only [SA,SC] at hA h;generalize qq 14=q14 at hA h;have F1:=Hi h;simp only [PU,bF,Nat.reduceAdd,gT hF 16,gT hF 17,hA];clear hF hA h;clear F0;go_wp2_with fail;by_cases he:er=0
 ·subst he;refine (jy _).mono ?_;rintro e w1 ⟨rfl,rfl⟩;have F2:=Hi ((((F1.out.ai (B:=[_]) 1 (vI z.ck)).ai (B:=[_]) 2 (vI z.k)).ai (B:=[_]) 3 (vI z.h)).ai (B:=[_]) 4 (vU z.n));have r:=rl F1.out.mem.rules;go_wp2_with fail;go_ret;exact ⟨rfl,(F2.out.sub (zq _ _)).QI⟩
 ·refine (jz he _).mono ?_;rintro e w1 ⟨rfl,rfl⟩;exact ⟨rfl,fun h=>absurd h he,fun _=>⟨rfl,(F1.out.sub (zq _ _)).QI⟩⟩):A:=h
theorem aal (h:A:=by
 go_wp2_with fail;refine CC.out.mono ?_;rintro e w1 ⟨rfl,h1⟩;have F1:=Hi h1;clear h1 F0 CC q0;go_wp2_with fail;refine (jy _).mono ?_;rintro e w2 ⟨rfl,rfl⟩;go_wp2_with fail;go_ret;exact ⟨rfl,F1.out⟩):A:=h
theorem aam (h:A:=by
 go_wp2_with fail;refine CC.out.mono ?_;rintro e w1 ⟨rfl,h1⟩;have F1:=Hi h1;clear h1 F0 CC q0;go_wp2_with fail;refine (jz HE.out _).mono ?_;rintro e w2 ⟨rfl,rfl⟩;exact ⟨rfl,rfl,F1.out⟩):A:=h
theorem Zv (h:A:=by
 by_cases e:c=0
 ·subst e;simp at h
 ·simp [e] at h;obtain ⟨rfl,rfl⟩:=h;exact ⟨b,rfl,e⟩):A:=h
theorem ZV (h:A:=by
 by_cases e:d=0
 ·subst e;simp at h
 ·simp [e] at h;obtain ⟨rfl,rfl⟩:=h;exact ⟨b,c,rfl,e⟩):A:=h
namespace Go.Proofs.N0
open Go.RowKit Go.Maps Go.ChangeMaps
variable {p n:Nat} {st:af.Store} {S:List Nat} {k a b c:Int} {s:List UInt8} {o:af.Term} {l:List Int}
theorem zv (m q:af.Term) (w:World):(Op.equalIn 10000 95 (.agg (fH m)) (.agg (fH q))).run Tryz.prog w=.ok (decide (m=q)) w:=by
 have u1:=Tryz.underlying3;have a1:=Tryz.isAgg3;have z1:=Tryz.sizeOf3;have u2:=Tryz.underlying31;have a2:=Tryz.isAgg31;have z2:=Tryz.sizeOf31;have u3:=Tryz.underlying9;have a3:=Tryz.isAgg9;have z3:=Tryz.sizeOf9;have hS:Tryz.prog.underlying 95=some (.struct (Tryz.prog.fieldsOf 95)):=aI;rw [show (10000:Nat)=9999+1 from rfl,run_equalIn_agg w 9999 95 _ _ hS aI];simp only [Program.fieldsOf,Tryz.underlying95];go_simp;obtain ⟨k,s,n,a,b,c⟩:=m;obtain ⟨k',s',n',a',b',c'⟩:=q;by_cases h0:k=k';rotate_left
 ·simp [h0]
 subst h0;by_cases h1:s=s';rotate_left
 ·simp [h1]
 subst h1;by_cases h2:n=n';rotate_left
 ·simp [h2];omega
 subst h2;by_cases h3:a=a';rotate_left
 ·simp [h3]
 subst h3;by_cases h4:b=b';rotate_left
 ·simp [h4]
 subst h4;by_cases h5:c=c';rotate_left
 ·simp [h5]
 subst h5;simp
theorem Wa (w:World) (h:aC w p st S) (hl:st.l.length≤1048576) (h1:k<1):Calls Tryz.prog 70 #[vP p 0,.agg #[vI k,vS s,vU n,vI a,vI b,vI c]] w fun e w'=>e=.returned (.bool false)∧Below w.heap.size w w':=by have d0:decide (k<1)=true:=aR;exact a926
theorem QV (w:World) (h:aC w p st S) (hl:st.l.length≤1048576) (h1:¬k<1) (h2:12≤k):Calls Tryz.prog 70 #[vP p 0,.agg #[vI k,vS s,vU n,vI a,vI b,vI c]] w fun e w'=>e=.returned (.bool false)∧Below w.heap.size w w':=by have d0:decide (k<1)=false:=aR;have d1:decide (12≤k)=true:=aR;exact a926
theorem QW (w:World) (h:aC w p st S) (hl:st.l.length≤1048576) (h1:¬k<1) (h2:¬12≤k) (ho:af.mj ⟨k,s,n,a,b,c⟩=o) (h3:(⟨k,s,n,a,b,c⟩:af.Term)≠o):Calls Tryz.prog 70 #[vP p 0,.agg #[vI k,vS s,vU n,vI a,vI b,vI c]] w fun e w'=>e=.returned (.bool false)∧Below w.heap.size w w':=by have EQ:∀ w,(Op.equalIn 10000 95 (.agg #[vI k,vS s,vU n,vI a,vI b,vI c]) (.agg (fH o))).run Tryz.prog w=.ok false w:=fun w=>(zv ⟨k,s,n,a,b,c⟩ o w).trans (by rw [show decide ((⟨k,s,n,a,b,c⟩:af.Term)=o)=false by simp [h3]]);clear h3;have HO:=Hi ho;clear ho;have d0:decide (k<1)=false:=aR;have d1:decide (12≤k)=false:=aR;exact B7
theorem QX (w:World) (h:aC w p st S) (hl:st.l.length≤1048576) (h1:¬k<1) (h2:¬12≤k) (ho:af.mj ⟨k,s,n,a,b,c⟩=o) (h3:(⟨k,s,n,a,b,c⟩:af.Term)=o) (h4:1000<s.length):Calls Tryz.prog 70 #[vP p 0,.agg #[vI k,vS s,vU n,vI a,vI b,vI c]] w fun e w'=>e=.returned (.bool false)∧Below w.heap.size w w':=by have EQ:∀ w,(Op.equalIn 10000 95 (.agg #[vI k,vS s,vU n,vI a,vI b,vI c]) (.agg (fH o))).run Tryz.prog w=.ok true w:=fun w=>(zv ⟨k,s,n,a,b,c⟩ o w).trans (by rw [show decide ((⟨k,s,n,a,b,c⟩:af.Term)=o)=true by simp [h3]]);clear h3;have HO:=Hi ho;clear ho;have d0:decide (k<1)=false:=aR;have d1:decide (12≤k)=false:=aR;have d2:decide (1000<(s.length:Int))=true:=aR;exact B7
theorem MX (w:World) (h:aC w p st S) (hl:st.l.length≤1048576) (h1:¬k<1) (h2:¬12≤k) (ho:af.mj ⟨k,s,n,a,b,c⟩=o) (h3:(⟨k,s,n,a,b,c⟩:af.Term)=o) (h4:s.length≤1000) (h5:k=4) (h6:b<a):Calls Tryz.prog 70 #[vP p 0,.agg #[vI k,vS s,vU n,vI a,vI b,vI c]] w fun e w'=>e=.returned (.bool false)∧Below w.heap.size w w':=by have EQ:∀ w,(Op.equalIn 10000 95 (.agg #[vI k,vS s,vU n,vI a,vI b,vI c]) (.agg (fH o))).run Tryz.prog w=.ok true w:=fun w=>(zv ⟨k,s,n,a,b,c⟩ o w).trans (by rw [show decide ((⟨k,s,n,a,b,c⟩:af.Term)=o)=true by simp [h3]]);clear h3;have HO:=Hi ho;clear ho;have d0:decide (k<1)=false:=aR;have d1:decide (12≤k)=false:=aR;have d2:decide (1000<(s.length:Int))=false:=aR;have d3:(k==4)=true:=aR;have d4:decide (b<a)=true:=aR;clear h5;exact B7
def inside (st:af.Store) (x:Int):Bool:=decide (1≤x)&&decide (x≤st.l.length)
def MayR (st:af.Store) (l:List Int) (W:World) (iv:Value) (wr:World):Prop:=∃ i:Nat,i≤l.length∧iv=vI i∧(l.take i).all (inside st)=true∧wr=W
theorem zu {w:World} {g:Nat} {T:TypeId} (h:w.heap[g]?=some (.cells (l.map (Value.int .i64)).toArray T (0,0))) {i:Nat} (hi:i<l.length):w.cell? ⟨g,i,none⟩=some (vI (l.getD i 0)):=by simp [World.cell?,h,lz hi]
theorem M8 (w:World) (h:aC w p st S) (hl:st.l.length≤1048576) (h1:¬k<1) (h2:¬12≤k) (ho:af.mj ⟨k,s,n,a,b,c⟩=o) (h3:(⟨k,s,n,a,b,c⟩:af.Term)=o) (h4:s.length≤1000) (h5:¬k=4) (hp:af.partsOf ⟨k,s,n,a,b,c⟩=l):Calls Tryz.prog 70 #[vP p 0,.agg #[vI k,vS s,vU n,vI a,vI b,vI c]] w fun e w'=>e=.returned (.bool (l.all (inside st)))∧Below w.heap.size w w':=by
 have EQ:∀ w,(Op.equalIn 10000 95 (.agg #[vI k,vS s,vU n,vI a,vI b,vI c]) (.agg (fH o))).run Tryz.prog w=.ok true w:=fun w=>(zv ⟨k,s,n,a,b,c⟩ o w).trans (by rw [show decide ((⟨k,s,n,a,b,c⟩:af.Term)=o)=true by simp [h3]]);clear h3;have HO:=Hi ho;have HL:=Hi hp;clear ho hp;have d0:decide (k<1)=false:=aR;have d1:decide (12≤k)=false:=aR;have d2:decide (1000<(s.length:Int))=false:=aR;have d3:(k==4)=false:=aR;have HS:=Hi h;have CO:=Hi fun (W:World)=>uT (t:=⟨k,s,n,a,b,c⟩) W;have CL:=Hi fun (W:World) (hb:Below w.heap.size w W)=>kO W (HS.out.later hb) hl;clear h;have M:Hid (Mem w [(w.heap.size,cl #[vI k,vS s,vU n,vI a,vI b,vI c] 95)] (w.alloc (cl #[vI k,vS s,vU n,vI a,vI b,vI c] 95))):=Hi ((Mem.start w).alloc _);have r:=xX M.out.ei;have EG:Tryz.prog.eqGuardType Tryz.prog.depth 95=false:=aI;go_enter Tryz.func70,Tryz.ntmps70;go_wp2_with fail;generalize w.alloc (cl #[vI k,vS s,vU n,vI a,vI b,vI c] 95)=W1 at *;refine ay aI aI ?_;have Y3:∀ x:Later W1,Calls Tryz.prog 108 #[.agg #[vI k,vS s,vU n,vI a,vI b,vI c]] x.world fun e w'=>e=.returned (.agg (fH o))∧Below x.world.heap.size x.world w':=fun x=>by have:=CO.out x.world;rw [HO.out] at this;exact this
 repeat (first|go_big_quiet_step (fail)|go_big_quiet_step ((go_at_call 108;exact Calls.later (Y3 _))))
 clear EQ Y3;clear d0 d1 d2 d3;exact a91
theorem Na (w:World) (h:aC w p st S) (hl:st.l.length≤1048576) (h1:¬k<1) (h2:¬12≤k) (ho:af.mj ⟨k,s,n,a,b,c⟩=o) (h3:(⟨k,s,n,a,b,c⟩:af.Term)=o) (h4:s.length≤1000) (h5:k=4) (h6:¬b<a) (hp:af.partsOf ⟨k,s,n,a,b,c⟩=l):Calls Tryz.prog 70 #[vP p 0,.agg #[vI k,vS s,vU n,vI a,vI b,vI c]] w fun e w'=>e=.returned (.bool (l.all (inside st)))∧Below w.heap.size w w':=by
 have EQ:∀ w,(Op.equalIn 10000 95 (.agg #[vI k,vS s,vU n,vI a,vI b,vI c]) (.agg (fH o))).run Tryz.prog w=.ok true w:=fun w=>(zv ⟨k,s,n,a,b,c⟩ o w).trans (by rw [show decide ((⟨k,s,n,a,b,c⟩:af.Term)=o)=true by simp [h3]]);clear h3;have HO:=Hi ho;have HL:=Hi hp;clear ho hp;have d0:decide (k<1)=false:=aR;have d1:decide (12≤k)=false:=aR;have d2:decide (1000<(s.length:Int))=false:=aR;have d3:(k==4)=true:=aR;have d4:decide (b<a)=false:=aR;clear h5;have HS:=Hi h;have CO:=Hi fun (W:World)=>uT (t:=⟨k,s,n,a,b,c⟩) W;have CL:=Hi fun (W:World) (hb:Below w.heap.size w W)=>kO W (HS.out.later hb) hl;clear h;have M:Hid (Mem w [(w.heap.size,cl #[vI k,vS s,vU n,vI a,vI b,vI c] 95)] (w.alloc (cl #[vI k,vS s,vU n,vI a,vI b,vI c] 95))):=Hi ((Mem.start w).alloc _);have r:=xX M.out.ei;have EG:Tryz.prog.eqGuardType Tryz.prog.depth 95=false:=aI;go_enter Tryz.func70,Tryz.ntmps70;go_wp2_with fail;generalize w.alloc (cl #[vI k,vS s,vU n,vI a,vI b,vI c] 95)=W1 at *;refine ay aI aI ?_;have Y3:∀ x:Later W1,Calls Tryz.prog 108 #[.agg #[vI k,vS s,vU n,vI a,vI b,vI c]] x.world fun e w'=>e=.returned (.agg (fH o))∧Below x.world.heap.size x.world w':=fun x=>by have:=CO.out x.world;rw [HO.out] at this;exact this
 repeat (first|go_big_quiet_step (fail)|go_big_quiet_step ((go_at_call 108;exact Calls.later (Y3 _))))
 clear EQ Y3;clear d0 d1 d2 d3 d4;exact a91
theorem yF {t:af.Term} {z:Bool} (w:World) (h:aC w p st S) (hl:st.l.length≤1048576) (hz:st.may t=z):Calls Tryz.prog 70 #[vP p 0,.agg (fH t)] w fun e w'=>e=.returned (.bool z)∧Below w.heap.size w w':=by
 obtain ⟨k,s,n,a,b,c⟩:=t;have hin:(inside st)=fun x:Int=>decide (1≤x)&&decide (x≤st.l.length):=rfl;unfold af.Store.may af.mayT at hz;simp only [] at hz;rw [←hin] at hz;by_cases h1:k<1
 ·rw [decide_eq_false (show ¬1≤k by omega)] at hz;simp only [Bool.false_and] at hz;subst hz;exact Wa w h hl h1
 rw [decide_eq_true (show 1≤k by omega)] at hz;by_cases h2:12≤k
 ·rw [decide_eq_false (show ¬k<12 by omega)] at hz;simp only [Bool.false_and,aN] at hz;subst hz;exact QV w h hl h1 h2
 rw [decide_eq_true (show k<12 by omega)] at hz;by_cases h3:(⟨k,s,n,a,b,c⟩:af.Term)=af.mj ⟨k,s,n,a,b,c⟩;rotate_left
 ·rw [decide_eq_false h3] at hz;simp only [Bool.false_and,aN] at hz;subst hz;exact QW w h hl h1 h2 rfl h3
 rw [decide_eq_true h3] at hz;by_cases h4:s.length≤1000;rotate_left
 ·rw [decide_eq_false h4] at hz;simp only [Bool.false_and,aN] at hz;subst hz;exact QX w h hl h1 h2 rfl h3 (Nat.lt_of_not_le h4)
 rw [decide_eq_true h4] at hz;by_cases h5:k=4
 ·by_cases h6:b<a
  ·rw [decide_eq_true h5,decide_eq_true h6] at hz;simp only [Bool.and_self,Bool.not_true,aN,Bool.false_and] at hz;subst hz;exact MX w h hl h1 h2 rfl h3 h4 h5 h6
  ·rw [decide_eq_false h6] at hz;simp only [aN,nS,Bool.and_self,DK] at hz;subst hz;exact Na w h hl h1 h2 rfl h3 h4 h5 h6 rfl
 ·rw [decide_eq_false h5] at hz;simp only [Bool.false_and,nS,Bool.and_self,DK] at hz;subst hz;exact M8 w h hl h1 h2 rfl h3 h4 h5 rfl
end Go.Proofs.N0
namespace Go.Proofs.N0
open Go.RowKit Go.Maps Go.ChangeMaps
variable {w w' y:World} {S ds:List Nat} {p i mb lb cap db iJ g k:Nat} {st:af.Store} {l:List af.Term} {t:af.Term}
def ir (w:World) (S:List Nat) (p:Nat) (st:af.Store) (n er:Nat) (e:Ending) (w':World):Prop:=e=.returned (.tuple #[vI n,vI er])∧gW w S p st w'
theorem gW.below (h:aC w p st S) (hb:Below w.heap.size w w'):gW w S p st w':=⟨S,h.later hb,fun _ hi=>.inl hi,az.below hb⟩
theorem zeroI (w:World):(zeroValue 3).run Tryz.prog w=.ok (vI 0) w:=aI
theorem DY (h:(l.findIdx? fun x=>decide (x=t))=some i):∃ hi:i<l.length,l[i]=t:=by obtain ⟨hi,h1,_⟩:=List.findIdx?_eq_some_iff_getElem.1 h;exact ⟨hi,of_decide_eq_true h1⟩
def nT (l:List af.Term) (t:af.Term):Nat:=match l.findIdx? fun x=>decide (x=t) with
 | some i=>i+1
 | none=>0
theorem Nb {D:DataW Unit} (h:w.ownsMap Tryz.prog 95 (plainElem (H:=Unit) Tryz.prog 3) mb l.length D) (hN:nC D l) (ht:t.Wf) :
 (Instr.lookup 168 (.map (some mb)) (.agg (fH t)) true).run Tryz.prog w=.ok (.tuple #[vI (nT l t),.bool (decide (t∈l))]) w:=by
 obtain ⟨v,ps,hrun,hv⟩:=h.look_ok VV Tryz.underlying168 (zeroI w) (zd:=mkI 0) (zp:=[]) (plainElem_int Tryz.underlying3 aG) (zh ht)
 rw [hN.has t ht] at hrun
 refine hrun.trans ?_
 unfold nT
 cases hf:l.findIdx? fun x=>decide (x=t) with
 | none =>
  have hn:t∉l:=fun hin=>by
   have:=List.findIdx?_eq_none_iff.1 hf t hin
   simp at this
  have hh:Maps.has D (Bt t)=false:=by rw [hN.has t ht];simpa using hn
  rw [atKey_of_not_has hh] at hv;exact Zw
 | some i =>
  obtain ⟨hi,hit⟩:=DY hf;have hat:=hN.at_ i hi (mkI 0);rw [hit] at hat
  rw [hat] at hv;exact Zw
theorem gV.later {D:DataW Unit} (h:gV w p lb cap db iJ mb st ds D) (hb:Below w.heap.size w w'):gV w' p lb cap db iJ mb st ds D:=by have e:∀ i∈[p,lb,db,mb],w'.heap[i]?=w.heap[i]?:=fun i hi=>hb.block i (h.lt i hi);refine ⟨(e p aH).trans h.box,bT h.row (e lb aH),bT h.deep (e db aH),h.low,?_,h.names,h.apart⟩;obtain ⟨es,clock,hb,r⟩:=h.map;exact ⟨es,clock,(e mb aH).trans hb,r⟩
theorem gV.look {nm:Nat} {D:DataW Unit} {z:Bool} (h:gV w p lb cap db iJ mb st ds D) (ht:t.Wf) (hf:nT st.l t=nm∧decide (t∈st.l)=z) (x:Later w) :
 (Instr.lookup 168 (.map (some mb)) (.agg (fH t)) true).run Tryz.prog x.world=.ok (.tuple #[vI nm,.bool z]) x.world:=by
 have h:=h.later x.below
 have:=Nb h.map h.names ht
 rwa [hf.1,hf.2] at this
theorem I4 (h:(l.findIdx? fun x=>decide (x=t))=some i):nT l t=i+1∧decide (t∈l)=true:=by unfold nT;rw [h];obtain ⟨hi,hit⟩:=DY h;exact ⟨rfl,by rw [←hit];simp⟩
theorem qw (h:(l.findIdx? fun x=>decide (x=t))=none):nT l t=0∧decide (t∈l)=false:=by
 unfold nT
 rw [h]
 refine ⟨rfl,?_⟩
 rw [decide_eq_false_iff_not]
 intro hin
 have:=List.findIdx?_eq_none_iff.1 h t hin
 simp at this
theorem Wb (w:World) (h:aC w p st S) (hok:st.Ok) (ht:t.Wf) (hm:st.may t=false):Calls Tryz.prog 30 #[vP p 0,.agg (fH t)] w (ir w S p st 0 1):=by
 obtain ⟨HS,jx,HT⟩:=ju h hok ht;have hl:st.l.length≤1048576:=by have h1:=hok.len;have h2:=hok.most;omega
 have CM:=Hi fun (W:World) (hb:Below w.heap.size w W)=>yF (z:=false) W (HS.out.later hb) hl hm;have CL:=Hi fun (W:World) (hb:Below w.heap.size w W)=>kO W (HS.out.later hb) hl;clear h hok ht hm;have M:Hid (Mem w [(w.heap.size,cl (fH t) 95)] (w.alloc (cl (fH t) 95))):=Hi ((Mem.start w).alloc _);have r:=xX M.out.rules;go_enter Tryz.func30,Tryz.ntmps30;go_wp2_with fail;generalize w.alloc (cl (fH t) 95)=W1 at *;refine (CM.out W1 M.out.dZ).mono ?_;rintro e w2 ⟨rfl,hb2⟩;have M2:=Hi (M.out.later hb2);clear hb2 r;go_wp2_with fail;have HF:Hid (gW w S p st w2):=Hi (.below HS.out M2.out.dZ);go_ret2;exact ⟨rfl,HF.out⟩
theorem Nc (w:World) (h:aC w p st S) (hok:st.Ok) (ht:t.Wf) (hm:st.may t=true) (hf:st.find t=some i):Calls Tryz.prog 30 #[vP p 0,.agg (fH t)] w (ir w S p st (i+1) 0):=by
 have hi:i+1≤1048576:=by have:=(DY hf).1;have:=hok.len;have:=hok.most;omega
 obtain ⟨nm,hnm⟩:∃ nm:Nat,nm=i+1:=⟨_,rfl⟩
 have Zd:Hid (nT st.l t=nm∧decide (t∈st.l)=true):=Hi (by rw [hnm];exact I4 hf);rw [←hnm];clear hf hnm hi;obtain ⟨HS,jx,HT⟩:=ju h hok ht;have hl:st.l.length≤1048576:=by have h1:=hok.len;have h2:=hok.most;omega
 have CM:=Hi fun (W:World) (hb:Below w.heap.size w W)=>yF (z:=true) W (HS.out.later hb) hl hm;have CL:=Hi fun (W:World) (hb:Below w.heap.size w W)=>kO W (HS.out.later hb) hl;clear h hok ht hm;have M:Hid (Mem w [(w.heap.size,cl (fH t) 95)] (w.alloc (cl (fH t) 95))):=Hi ((Mem.start w).alloc _);have r:=xX M.out.rules;go_enter Tryz.func30,Tryz.ntmps30;go_wp2_with fail;generalize w.alloc (cl (fH t) 95)=W1 at *;refine (CM.out W1 M.out.dZ).mono ?_;rintro e w2 ⟨rfl,hb2⟩;have M2:=Hi (M.out.later hb2);clear hb2 r;have r:=xX M2.out.ei;have Wc:=Hi (HS.out.later M2.out.dZ);obtain ⟨lb,cap,db,iJ,mb,ds,D,hc,hS⟩:=Wc.out;obtain ⟨HC,Vs⟩:=hi2 hc hS;clear hc hS;have q2:∀ x:Later w2,x.world.cell? ⟨p,2,none⟩=some (.map (some mb)):=fun x=>x.cell (storeCells HC.out).1.2.2.1;have lk:=HC.out.look HT.out Zd.out;go_wp2_with fail;refine ay aI aI ?_;repeat go_big_quiet_step (fail)
 refine wpQuiet_nil ?_;rintro ⟨w3,hb3⟩;change Exit.then _ _ _ _ w3;have M3:=Hi (M2.out.later hb3);have Ze:=Hi (HC.out.later hb3);clear hb3 r lk q2;have HF:Hid (gW w S p st w3):=Hi (.below HS.out M3.out.dZ);go_wp2_with fail;go_ret2;exact ⟨rfl,HF.out⟩
theorem QY (w:World) (h:aC w p st S) (hok:st.Ok) (ht:t.Wf) (hm:st.may t=true) (hf:st.find t=none) (hfull:st.most≤st.l.length):Calls Tryz.prog 30 #[vP p 0,.agg (fH t)] w (ir w S p st 0 4):=by
 obtain ⟨nm,hnm⟩:∃ nm:Nat,nm=0:=⟨_,rfl⟩
 have Zd:Hid (nT st.l t=nm∧decide (t∈st.l)=false):=Hi (by rw [hnm];exact qw hf);clear hf hnm;have d1:decide ((st.most:Int)≤st.l.length)=true:=aR;have d1':decide (st.most≤st.l.length)=true:=aR;clear hfull;obtain ⟨HS,jx,HT⟩:=ju h hok ht;have hl:st.l.length≤1048576:=by have h1:=hok.len;have h2:=hok.most;omega
 have CM:=Hi fun (W:World) (hb:Below w.heap.size w W)=>yF (z:=true) W (HS.out.later hb) hl hm;have CL:=Hi fun (W:World) (hb:Below w.heap.size w W)=>kO W (HS.out.later hb) hl;clear h hok ht hm;have M:Hid (Mem w [(w.heap.size,cl (fH t) 95)] (w.alloc (cl (fH t) 95))):=Hi ((Mem.start w).alloc _);have r:=xX M.out.rules;go_enter Tryz.func30,Tryz.ntmps30;go_wp2_with fail;generalize w.alloc (cl (fH t) 95)=W1 at *;refine (CM.out W1 M.out.dZ).mono ?_;rintro e w2 ⟨rfl,hb2⟩;have M2:=Hi (M.out.later hb2);clear hb2 r;have r:=xX M2.out.ei;have Wc:=Hi (HS.out.later M2.out.dZ);obtain ⟨lb,cap,db,iJ,mb,ds,D,hc,hS⟩:=Wc.out;obtain ⟨HC,Vs⟩:=hi2 hc hS;clear hc hS;have q2:∀ x:Later w2,x.world.cell? ⟨p,2,none⟩=some (.map (some mb)):=fun x=>x.cell (storeCells HC.out).1.2.2.1;have lk:=HC.out.look HT.out Zd.out;go_wp2_with fail;refine ay aI aI ?_;repeat go_big_quiet_step (fail)
 refine wpQuiet_nil ?_;rintro ⟨w3,hb3⟩;change Exit.then _ _ _ _ w3;have M3:=Hi (M2.out.later hb3);have Ze:=Hi (HC.out.later hb3);clear hb3 r lk q2;have CL3:∀ x:Later w3,Calls Tryz.prog 71 #[vP p 0] x.world fun e w'=>e=.returned (vI st.l.length)∧x.world=w':=fun x=>CL.out _ (M3.out.later x.below).dZ;have q3:∀ x:Later w3,x.world.cell? ⟨p,3,none⟩=some (vI st.most):=fun x=>x.cell (storeCells Ze.out).1.2.2.2;go_wp2_with fail;refine ay aI aI ?_;repeat (first|go_big_quiet_step (fail)|go_big_quiet_step ((go_at_call 71;exact Calls.tA (CL3 _))))
 refine wpQuiet_nil ?_;rintro ⟨w4,hb4⟩;change Exit.then _ _ _ _ w4;have M4:=Hi (M3.out.later hb4);have HC4:=Hi (Ze.out.later hb4);clear hb4 CL3 q3;have HF:Hid (gW w S p st w4):=Hi (.below HS.out M4.out.dZ);go_wp2_with fail;go_ret2;exact ⟨rfl,HF.out⟩
open Go.RowKit
structure bp (w0:World) (p:Nat) (T1 T2 TS:TypeId) (s1 s2 n:Nat) (yg vO yh vQ:List Value) (o1 o2 c2 c3:Value) (S:List Nat) (a b c d e f:Bool) (u1 v1 u2 v2:Value) (g1 k1 g2 k2:Nat) (x:World):Prop where
 jh:az S w0 x
 new1:a=true→∃ g,u1=vL g 0 1 1∧w0.heap.size≤g∧g≠g1∧x.heap[g]?=some (.cells vO.toArray T1 (0,0))
 new2:d=true→∃ g,u2=vL g 0 1 1∧w0.heap.size≤g∧g≠g2∧x.heap[g]?=some (.cells vQ.toArray T2 (0,0))
 tI:(if b=true then v1 else o1)=vL g1 0 (n+b.toNat) k1
 tJ:(if e=true then v2 else o2)=vL g2 0 (n+e.toNat) k2
 qx:x.ownsRow 0 T1 s1 (vL g1 0 (n+b.toNat) k1) (n+b.toNat) (yg++if b=true then vO else [])
 qy:x.ownsRow 0 T2 s2 (vL g2 0 (n+e.toNat) k2) (n+e.toNat) (yh++if e=true then vQ else [])
 box:x.heap[p]?=some (.cells #[if c=true then v1 else o1,if f=true then v2 else o2,c2,c3] TS (0,0))
 Nd:g1∈S∨w0.heap.size≤g1
 Vt:c=true→b=true
 Vu:f=true→e=true
 Nf:g2∈S∨w0.heap.size≤g2
section
variable {w0:World} {p:Nat} {T1 T2 TS:TypeId} {s1 s2 n:Nat} {yg vO yh vQ:List Value} {o1 o2 c2 c3:Value} {S:List Nat} {a b c d e f:Bool} {u1 v1 u2 v2:Value} {g1 k1 g2 k2:Nat} {x:World}
theorem bp.lt1 (h:bp w0 p T1 T2 TS s1 s2 n yg vO yh vQ o1 o2 c2 c3 S a b c d e f u1 v1 u2 v2 g1 k1 g2 k2 x):g1<x.heap.size:=by obtain ⟨cur,hc,_⟩:=bS h.qx;exact lt_of_block hc
theorem bp.lt2 (h:bp w0 p T1 T2 TS s1 s2 n yg vO yh vQ o1 o2 c2 c3 S a b c d e f u1 v1 u2 v2 g1 k1 g2 k2 x):g2<x.heap.size:=by obtain ⟨cur,hc,_⟩:=bS h.qy;exact lt_of_block hc
theorem bp.ne1 (hT:T1≠T2∧T1≠TS∧T2≠TS) (h:bp w0 p T1 T2 TS s1 s2 n yg vO yh vQ o1 o2 c2 c3 S a b c d e f u1 v1 u2 v2 g1 k1 g2 k2 x):p≠g1:=by rintro rfl;obtain ⟨cur,hc,_⟩:=bS h.qx;rw [h.box] at hc;simp only [Option.some.injEq,Obj.cells.injEq] at hc;exact hT.2.1 hc.2.1.symm
theorem bp.ne2 (hT:T1≠T2∧T1≠TS∧T2≠TS) (h:bp w0 p T1 T2 TS s1 s2 n yg vO yh vQ o1 o2 c2 c3 S a b c d e f u1 v1 u2 v2 g1 k1 g2 k2 x):p≠g2:=by rintro rfl;obtain ⟨cur,hc,_⟩:=bS h.qy;rw [h.box] at hc;simp only [Option.some.injEq,Obj.cells.injEq] at hc;exact hT.2.2 hc.2.1.symm
theorem bp.ne21 (hT:T1≠T2∧T1≠TS∧T2≠TS) (h:bp w0 p T1 T2 TS s1 s2 n yg vO yh vQ o1 o2 c2 c3 S a b c d e f u1 v1 u2 v2 g1 k1 g2 k2 x):g2≠g1:=by rintro rfl;obtain ⟨cur,hc,_⟩:=bS h.qx;obtain ⟨cur',hc',_⟩:=bS h.qy;rw [hc] at hc';simp only [Option.some.injEq,Obj.cells.injEq] at hc';exact hT.1 hc'.2.1
theorem bp.ne12 (hT:T1≠T2∧T1≠TS∧T2≠TS) (h:bp w0 p T1 T2 TS s1 s2 n yg vO yh vQ o1 o2 c2 c3 S a b c d e f u1 v1 u2 v2 g1 k1 g2 k2 x):g1≠g2:=(h.ne21 hT).symm
theorem bp.later (h:bp w0 p T1 T2 TS s1 s2 n yg vO yh vQ o1 o2 c2 c3 S a b c d e f u1 v1 u2 v2 g1 k1 g2 k2 x) (hb:Below x.heap.size x y):bp w0 p T1 T2 TS s1 s2 n yg vO yh vQ o1 o2 c2 c3 S a b c d e f u1 v1 u2 v2 g1 k1 g2 k2 y:=by
 refine {jh:=h.jh.trans (az.below (S:=[]) hb) aH,new1:=?_,new2:=?_,tI:=h.tI,tJ:=h.tJ,qx:=bT h.qx (hb.block _ h.lt1),qy:=bT h.qy (hb.block _ h.lt2),box:=(hb.block _ (lt_of_block h.box)).trans h.box,Nd:=h.Nd,Nf:=h.Nf,Vt:=h.Vt,Vu:=h.Vu}
 ·intro hb';obtain ⟨q,h1,h2,h3,h4⟩:=h.new1 hb';exact ⟨q,h1,h2,h3,(hb.block _ (lt_of_block h4)).trans h4⟩
 ·intro hb';obtain ⟨q,h1,h2,h3,h4⟩:=h.new2 hb';exact ⟨q,h1,h2,h3,(hb.block _ (lt_of_block h4)).trans h4⟩
theorem bp.alloc1 (h:bp w0 p T1 T2 TS s1 s2 n yg vO yh vQ o1 o2 c2 c3 S false b c d e f u1 v1 u2 v2 g1 k1 g2 k2 x):bp w0 p T1 T2 TS s1 s2 n yg vO yh vQ o1 o2 c2 c3 S true b c d e f (vL x.heap.size 0 1 1) v1 u2 v2 g1 k1 g2 k2 (x.alloc (.cells vO.toArray T1)):=by have hk:=h.later ((Below.refl _ x).alloc (cC _) (.cells vO.toArray T1));have hg:=h.lt1;exact {hk with new1:=fun _=>⟨_,rfl,h.jh.size,ax,heap_alloc_new _ _⟩}
theorem bp.app1 (hT:T1≠T2∧T1≠TS∧T2≠TS) (h:bp w0 p T1 T2 TS s1 s2 n yg vO yh vQ o1 o2 c2 c3 S a false false d e f u1 v1 u2 v2 g1 k1 g2 k2 x) (hown:y.ownsRow 0 T1 s1 (vL g 0 (n+1) k) (n+1) (yg++vO)) (hgr:x.grownBy y (some g1)) (hg:some g1=some g∨g=x.heap.size):bp w0 p T1 T2 TS s1 s2 n yg vO yh vQ o1 o2 c2 c3 S a true false d e f u1 (vL g 0 (n+1) k) u2 v2 g k g2 k2 y:=by
 have hlI:=h.lt1
 have hlJ:=h.lt2
 have hp:=lt_of_block h.box
 have hpg:p≠g1:=h.ne1 hT
 have hgg:g2≠g1:=h.ne21 hT
 have old:∀ j,j<x.heap.size→j≠g1→y.heap[j]?=x.heap[j]?:=fun j hj hne=>hgr.block j hj (by simp;exact hne)
 refine {jh:=?tu,new1:=?na,new2:=?nb,tI:=rfl,tJ:=h.tJ,qx:=by simpa using hown,qy:=bT h.qy (old _ hlJ hgg),box:=(old p hp hpg).trans h.box,Nd:=?ni,Nf:=h.Nf,Vt:=fun h=>absurd h aH,Vu:=h.Vu}
 case tu =>
  refine h.jh.trans (az.grown (S:=[g1]) hgr (fun i hi=>c919)) fun i hi=>?_;simp only [rZ] at hi;subst hi;exact h.Nd
 case na =>
  intro hb;obtain ⟨q,h1,h2,h3,h4⟩:=h.new1 hb;exact SV
 case nb =>
  intro hb;obtain ⟨q,h1,h2,h3,h4⟩:=h.new2 hb;have hq:=lt_of_block h4;refine ⟨q,h1,h2,h3,(old q hq fun e=>?_).trans h4⟩;subst e;obtain ⟨cur,hc,_⟩:=bS h.qx;exact Y8
 case ni =>
  rcases hg with e|e
  ·cases e;exact h.Nd
  ·right;have:=h.jh.size;omega
theorem bp.sto1 (hT:T1≠T2∧T1≠TS∧T2≠TS) (hpS:p∈S) (h:bp w0 p T1 T2 TS s1 s2 n yg vO yh vQ o1 o2 c2 c3 S a true false d e f u1 v1 u2 v2 g1 k1 g2 k2 x):bp w0 p T1 T2 TS s1 s2 n yg vO yh vQ o1 o2 c2 c3 S a true true d e f u1 v1 u2 v2 g1 k1 g2 k2 (x.setCell ⟨p,0,none⟩ v1):=by
 have hne:∀ j,j≠p→(x.setCell ⟨p,0,none⟩ v1).heap[j]?=x.heap[j]?:=fun j hj=>Below.heap_setCell _ _ _ _ hj
 have I3:∀ q cs T,x.heap[q]?=some (.cells cs T (0,0))→T≠TS→q≠p:=fun q cs T hq hT e=>by exact Zc
 refine {jh:=h.jh.trans (az.setCell (S:=S) hpS _) (fun i hi=>.inl hi),new1:=?na,new2:=?nb,tI:=h.tI,tJ:=h.tJ,qx:=bT h.qx (hne _ (h.ne1 hT).symm),qy:=bT h.qy (hne _ (h.ne2 hT).symm),box:=?bo,Nd:=h.Nd,Nf:=h.Nf,Vt:=fun _=>rfl,Vu:=h.Vu}
 case na =>
  exact Uj
 case nb =>
  exact a9167
 case bo =>
  have:=h.box
  exact PG
theorem bp.alloc2 (h:bp w0 p T1 T2 TS s1 s2 n yg vO yh vQ o1 o2 c2 c3 S a b c false e f u1 v1 u2 v2 g1 k1 g2 k2 x):bp w0 p T1 T2 TS s1 s2 n yg vO yh vQ o1 o2 c2 c3 S a b c true e f u1 v1 (vL x.heap.size 0 1 1) v2 g1 k1 g2 k2 (x.alloc (.cells vQ.toArray T2)):=by have hk:=h.later ((Below.refl _ x).alloc (cC _) (.cells vQ.toArray T2));have hg:=h.lt2;exact {hk with new2:=fun _=>⟨_,rfl,h.jh.size,ax,heap_alloc_new _ _⟩}
theorem bp.app2 (hT:T1≠T2∧T1≠TS∧T2≠TS) (h:bp w0 p T1 T2 TS s1 s2 n yg vO yh vQ o1 o2 c2 c3 S a b c d false false u1 v1 u2 v2 g1 k1 g2 k2 x) (hown:y.ownsRow 0 T2 s2 (vL g 0 (n+1) k) (n+1) (yh++vQ)) (hgr:x.grownBy y (some g2)) (hg:some g2=some g∨g=x.heap.size):bp w0 p T1 T2 TS s1 s2 n yg vO yh vQ o1 o2 c2 c3 S a b c d true false u1 v1 u2 (vL g 0 (n+1) k) g1 k1 g k y:=by
 have hlI:=h.lt2
 have hlJ:=h.lt1
 have hp:=lt_of_block h.box
 have hpg:p≠g2:=h.ne2 hT
 have hgg:g1≠g2:=h.ne12 hT
 have old:∀ j,j<x.heap.size→j≠g2→y.heap[j]?=x.heap[j]?:=fun j hj hne=>hgr.block j hj (by simp;exact hne)
 refine {jh:=?tu,new2:=?na,new1:=?nb,tJ:=rfl,tI:=h.tI,qy:=by simpa using hown,qx:=bT h.qx (old _ hlJ hgg),box:=(old p hp hpg).trans h.box,Nf:=?ni,Nd:=h.Nd,Vu:=fun h=>absurd h aH,Vt:=h.Vt}
 case tu =>
  refine h.jh.trans (az.grown (S:=[g2]) hgr (fun i hi=>c919)) fun i hi=>?_;simp only [rZ] at hi;subst hi;exact h.Nf
 case na =>
  intro hb;obtain ⟨q,h1,h2,h3,h4⟩:=h.new2 hb;exact SV
 case nb =>
  intro hb;obtain ⟨q,h1,h2,h3,h4⟩:=h.new1 hb;have hq:=lt_of_block h4;refine ⟨q,h1,h2,h3,(old q hq fun e=>?_).trans h4⟩;subst e;obtain ⟨cur,hc,_⟩:=bS h.qy;exact Y8
 case ni =>
  rcases hg with e|e
  ·cases e;exact h.Nf
  ·right;have:=h.jh.size;omega
theorem bp.sto2 (hT:T1≠T2∧T1≠TS∧T2≠TS) (hpS:p∈S) (h:bp w0 p T1 T2 TS s1 s2 n yg vO yh vQ o1 o2 c2 c3 S a b c d true false u1 v1 u2 v2 g1 k1 g2 k2 x):bp w0 p T1 T2 TS s1 s2 n yg vO yh vQ o1 o2 c2 c3 S a b c d true true u1 v1 u2 v2 g1 k1 g2 k2 (x.setCell ⟨p,1,none⟩ v2):=by
 have hne:∀ j,j≠p→(x.setCell ⟨p,1,none⟩ v2).heap[j]?=x.heap[j]?:=fun j hj=>Below.heap_setCell _ _ _ _ hj
 have I3:∀ q cs T,x.heap[q]?=some (.cells cs T (0,0))→T≠TS→q≠p:=fun q cs T hq hT e=>by exact Zc
 refine {jh:=h.jh.trans (az.setCell (S:=S) hpS _) (fun i hi=>.inl hi),new2:=?na,new1:=?nb,tJ:=h.tJ,tI:=h.tI,qy:=bT h.qy (hne _ (h.ne2 hT).symm),qx:=bT h.qx (hne _ (h.ne1 hT).symm),box:=?bo,Nf:=h.Nf,Nd:=h.Nd,Vu:=fun _=>rfl,Vt:=h.Vt}
 case na =>
  exact a9167
 case nb =>
  exact Uj
 case bo =>
  have:=h.box
  exact PG
theorem bp.congr {u1' v1' u2' v2':Value} (h:bp w0 p T1 T2 TS s1 s2 n yg vO yh vQ o1 o2 c2 c3 S a b c d e f u1 v1 u2 v2 g1 k1 g2 k2 x) (h1:a=true→u1=u1') (h2:b=true→v1=v1') (h3:d=true→u2=u2') (h4:e=true→v2=v2'):bp w0 p T1 T2 TS s1 s2 n yg vO yh vQ o1 o2 c2 c3 S a b c d e f u1' v1' u2' v2' g1 k1 g2 k2 x:=by
 have e1:(if b=true then v1' else o1)=if b=true then v1 else o1:=by split<;>simp_all
 have e2:(if e=true then v2' else o2)=if e=true then v2 else o2:=by split<;>simp_all
 have e3:(if c=true then v1' else o1)=if c=true then v1 else o1:=by
  by_cases hc:c=true
  ·rw [if_pos hc,if_pos hc,h2 (h.Vt hc)]
  ·rw [if_neg hc,if_neg hc]
 have e4:(if f=true then v2' else o2)=if f=true then v2 else o2:=by
  by_cases hc:f=true
  ·rw [if_pos hc,if_pos hc,h4 (h.Vu hc)]
  ·rw [if_neg hc,if_neg hc]
 exact {h with new1:=fun ha=>by rw [←h1 ha];exact h.new1 ha,new2:=fun ha=>by rw [←h3 ha];exact h.new2 ha,tI:=e1.trans h.tI,tJ:=e2.trans h.tJ,box:=by rw [e3,e4];exact h.box}
end
end Go.Proofs.N0
namespace Go.Proofs.N0
open Go.RowKit Go.Maps Go.ChangeMaps
variable {p:Nat} {st:af.Store} {S:List Nat} {t:af.Term}
theorem QZ:(Tryz.prog.info? 95).map (fun i=>(i.zero,i.size,i.bytes))=some (some (.agg (tL)),6,56):=aI
theorem Wd:(Tryz.prog.info? 3).map (fun i=>(i.zero,i.size,i.bytes))=some (some (vI 0),1,8):=aI
def DeepR (l:List Int) (m:Nat) (W:World) (dv iv:Value) (wr:World):Prop:=∃ i d:Nat,i≤l.length∧iv=vI i∧dv=vI d∧d≤m∧wr=W
theorem Wh (w:World) (h:aC w p st S) (hok:st.Ok) (ht:t.Wf) (hm:st.may t=true) (hf:st.find t=none) (hfull:¬st.most≤st.l.length):Calls Tryz.prog 30 #[vP p 0,.agg (fH t)] w (ir w S p ⟨st.l++[t],st.most⟩ (st.l.length+1) 0):=by
 obtain ⟨nm,hnm⟩:∃ nm:Nat,nm=0:=⟨_,rfl⟩
 have Zd:Hid (nT st.l t=nm∧decide (t∈st.l)=false):=Hi (by rw [hnm];exact qw hf)
 obtain ⟨l,hl⟩:∃ l,af.partsOf t=l:=⟨_,rfl⟩
 have HL:=Hi hl
 have hin:l.all (inside st)=true:=by have h1:=hm;unfold af.Store.may at h1;rw [gi] at h1;have h2:=h1.2;rw [hl] at h2;exact h2
 have ox:=Hi hin
 have HMT:=Hi hm
 have HLN:=Hi (show st.l.length≤1048576 by have h1:=hok.len;have h2:=hok.most;omega)
 have HNF:=Hi hf
 have PS:=Hi hfull
 clear hf hnm hl hin
 have d1:decide ((st.most:Int)≤st.l.length)=false:=aR
 have d1':decide (st.most≤st.l.length)=false:=aR
 clear hfull
 obtain ⟨HS,jx,HT⟩:=ju h hok ht
 have hl:st.l.length≤1048576:=by have h1:=hok.len;have h2:=hok.most;omega
 have CM:=Hi fun (W:World) (hb:Below w.heap.size w W)=>yF (z:=true) W (HS.out.later hb) hl hm
 have CL:=Hi fun (W:World) (hb:Below w.heap.size w W)=>kO W (HS.out.later hb) hl
 clear h hok ht hm
 have M:Hid (Mem w [(w.heap.size,cl (fH t) 95)] (w.alloc (cl (fH t) 95))):=Hi ((Mem.start w).alloc _)
 have r:=xX M.out.rules
 go_enter Tryz.func30,Tryz.ntmps30
 go_wp2_with fail
 generalize w.alloc (cl (fH t) 95)=W1 at *
 refine (CM.out W1 M.out.dZ).mono ?_
 rintro e w2 ⟨rfl,hb2⟩
 have M2:=Hi (M.out.later hb2)
 clear hb2 r
 have r:=xX M2.out.ei
 have Wc:=Hi (HS.out.later M2.out.dZ)
 obtain ⟨lb,cap,db,iJ,mb,ds,D,hc,hS⟩:=Wc.out
 obtain ⟨HC,Vs⟩:=hi2 hc hS
 clear hc hS
 have q2:∀ x:Later w2,x.world.cell? ⟨p,2,none⟩=some (.map (some mb)):=fun x=>x.cell (storeCells HC.out).1.2.2.1
 have lk:=HC.out.look HT.out Zd.out
 go_wp2_with fail
 refine ay aI aI ?_
 repeat go_big_quiet_step (fail)
 refine wpQuiet_nil ?_
 rintro ⟨w3,hb3⟩
 change Exit.then _ _ _ _ w3
 have M3:=Hi (M2.out.later hb3)
 have Ze:=Hi (HC.out.later hb3)
 clear hb3 r lk q2
 have CL3:∀ x:Later w3,Calls Tryz.prog 71 #[vP p 0] x.world fun e w'=>e=.returned (vI st.l.length)∧x.world=w':=fun x=>CL.out _ (M3.out.later x.below).dZ
 have q3:∀ x:Later w3,x.world.cell? ⟨p,3,none⟩=some (vI st.most):=fun x=>x.cell (storeCells Ze.out).1.2.2.2
 go_wp2_with fail
 refine ay aI aI ?_
 repeat (first|go_big_quiet_step (fail)|go_big_quiet_step ((go_at_call 71;exact Calls.tA (CL3 _))))
 refine wpQuiet_nil ?_
 rintro ⟨w4,hb4⟩
 change Exit.then _ _ _ _ w4
 have M4:=Hi (M3.out.later hb4)
 have HC4:=Hi (Ze.out.later hb4)
 clear hb4 CL3 q3
 clear d1 d1'
 have r:=xX M4.out.rules
 go_wp2_with fail
 refine (dI (t:=t) (l:=l) HL.out _).mono ?_
 rintro e w5 ⟨v,rfl,hrow,hb5⟩
 have M5:=Hi (M4.out.later hb5)
 have PT:=Hi (HC4.out.later hb5)
 clear hb5 r
 obtain ⟨m,hm⟩:∃ m,m=l.length:=⟨_,rfl⟩
 have HM:=Hi hm
 obtain ⟨x,hv,hx⟩:∃ x,v=.slice x m m∧∀ i,i<l.length→∃ g,x=some ⟨g,0,none⟩∧w5.cell? ⟨g,i,none⟩=some (vI (l.getD i 0)):=by
  rcases hrow with ⟨rfl,rfl⟩|⟨g,rfl,hg⟩
  ·subst hm;exact ⟨none,rfl,fun i hi=>absurd hi aH⟩
  ·exact ⟨some ⟨g,0,none⟩,by rw [hm],fun i hi=>⟨g,rfl,zu hg hi⟩⟩
 subst hv
 have HX:=Hi hx
 have hm3:m≤3:=by have:=HL.out;have h3:=af.xw t;rw [this,←hm] at h3;exact h3
 clear hrow hx hm
 obtain ⟨q0,q1⟩:=(storeCells PT.out).1
 obtain ⟨q1,_⟩:=q1
 have Wi:st.l.length≤1048576:=HLN.out
 go_wp2_with fail
 go_loopw [8,37] (fun dv iv wr=>DeepR l st.l.length w5 dv iv wr) (fun dv iv _=>m - (intOf iv).toNat)
 case atStart=>exact ⟨0,0,pR _,rfl,rfl,pR _,rfl⟩
 case round =>
  obtain ⟨i,d,hi,rfl,rfl,hd,rfl⟩:=hrel;rw [←HM.out] at hi;by_cases hlt:i<m
  ·obtain ⟨g,rfl,hc⟩:=HX.out i c920
   have hil:i<l.length:=c920
   have hy:inside st (l.getD i 0)=true:=by
    have:=List.all_eq_true.1 ox.out l[i] (KX hil)
    rw [ux,lz hil];exact this
   clear hil
   generalize l.getD i 0=y at *
   unfold inside at hy
   rw [gi,decide_eq_true_eq,decide_eq_true_eq] at hy
   obtain ⟨k,rfl⟩:=cR (show 0≤y by omega)
   have hdl:ds.length=st.l.length+1:=by have:=PT.out.deep.1;rw [Fw] at this;omega
   have hkd:k<ds.length:=ax
   have hdk:ds[k]≤st.l.length:=PT.out.low _ (KX hkd)
   have cd:=uS PT.out.deep (i:=k) (v:=vI (ds[k]:Nat)) (by rw [wB,lz hkd];rfl)
   generalize ds[k]=dk at *
   have jS:(0:Int)≤k:=ax
   have hk2:(k:Int)<(st.l.length:Int)+1:=ax
   have hk3:k<st.l.length+1:=ax
   clear hdl hkd hy
   go_wp2_with fail
   go_roundw
   case rel=>exact ⟨i+1,max d dk,by rw [←HM.out];omega,rfl,by first|rfl|(congr 1;omega),by omega,rfl⟩
   case measure=>simp [intOf];omega
  ·obtain rfl:i=m:=ax
   clear hlt
   have b5:=M5.out.get 0 rfl
   have t0:wr.cell? ⟨w.heap.size,0,none⟩=some (vI t.k):=by simp [World.cell?,b5]
   have t1:wr.cell? ⟨w.heap.size,1,none⟩=some (vS t.s):=by simp [World.cell?,b5]
   have t2:wr.cell? ⟨w.heap.size,2,none⟩=some (vU t.n):=by simp [World.cell?,b5]
   have t3:wr.cell? ⟨w.heap.size,3,none⟩=some (vI t.a):=by simp [World.cell?,b5]
   have t4:wr.cell? ⟨w.heap.size,4,none⟩=some (vI t.b):=by simp [World.cell?,b5]
   have t5:wr.cell? ⟨w.heap.size,5,none⟩=some (vI t.c):=by simp [World.cell?,b5]
   have Vv:Hid ((⟨w.heap.size,0,none⟩:Addr).block∉[p,lb,db]):=Hi (by have h:=HS.out.lt;rw [Vs.out] at h;have h1:=h p (by simp);have h2:=h lb (by simp);have h3:=h db (by simp);simp;omega)
   have hd1:IntKind.i64.wrap ((d:Int)+1)=(d:Int)+1:=IntWalk.i64_in _ ax
   have Vv:Hid ((⟨w.heap.size,0,none⟩:Addr).block∉[p,lb,db]):=Hi (by have h:=HS.out.lt;rw [Vs.out] at h;have h1:=h p (by simp);have h2:=h lb (by simp);have h3:=h db (by simp);simp;omega)
   have hd1:IntKind.i64.wrap ((d:Int)+1)=(d:Int)+1:=IntWalk.i64_in _ ax
   have Vv:Hid ((⟨w.heap.size,0,none⟩:Addr).block∉[p,lb,db]):=Hi (by have h:=HS.out.lt;rw [Vs.out] at h;have h1:=h p (by simp);have h2:=h lb (by simp);have h3:=h db (by simp);simp;omega)
   have hd1:IntKind.i64.wrap ((d:Int)+1)=(d:Int)+1:=IntWalk.i64_in _ ax
   have Vv:Hid ((⟨w.heap.size,0,none⟩:Addr).block∉[p,lb,db]):=Hi (by have h:=HS.out.lt;rw [Vs.out] at h;have h1:=h p (by simp);have h2:=h lb (by simp);have h3:=h db (by simp);simp;omega)
   have hd1:IntKind.i64.wrap ((d:Int)+1)=(d:Int)+1:=IntWalk.i64_in _ ax
   go_wp2_with fail
   refine rP (n:=84) (fun k=>match k with
    | 0=>some (vP p 0)
    | 1=>some (vP p 0)
    | 2=>some (vP p 0)
    | 3=>some (vP p 0)
    | 4=>some (vP p 0)
    | 5=>some (vL lb 0 (st.l.length+1) cap)
    | 6=>some (.agg (fH t))
    | 9=>some (vP p 0)
    | 10=>some (vP p 0)
    | 11=>some (vP p 1)
    | 12=>some (vL db 0 (st.l.length+1) iJ)
    | 13=>some (vI d)
    | 14=>some (vI (d+1))
    | 17=>some (vP p 0)
    | 18=>some (vP p 0)
    | 20=>some (vP p 0)
    | 21=>some (vP p 1)
    | _=>none) (fun L v x=>∃ g1 k1 g2 k2,bp wr p 95 3 170 6 1 (st.l.length+1) (DT st) (fk t) (ds.map fun d:Nat=>Value.int .i64 (d:Int)) [vI (d+1)] (vL lb 0 (st.l.length+1) cap) (vL db 0 (st.l.length+1) iJ) (.map (some mb)) (vI st.most) [p,lb,db] (L 7) (L 8) (L 19) (L 15) (L 16) (L 22) (v 7) (v 8) (v 15) (v 16) g1 k1 g2 k2 x) aI aI ?_ ?_ ?_ ?_
   ·intro L v hL;rw [hL 7 aH,hL 8 aH,hL 15 aH,hL 16 aH,hL 19 aH,hL 22 aH];have h0:bp wr p 95 3 170 6 1 (st.l.length+1) (DT st) (fk t) (ds.map fun d:Nat=>Value.int .i64 (d:Int)) [vI (d+1)] (vL lb 0 (st.l.length+1) cap) (vL db 0 (st.l.length+1) iJ) (.map (some mb)) (vI st.most) [p,lb,db] false false false false false false (v 7) (v 8) (v 15) (v 16) lb cap db iJ wr :=
     {jh:=az.refl _ _,new1:=fun h=>absurd h aH,new2:=fun h=>absurd h aH,tI:=rfl,tJ:=rfl,qx:=by simpa using PT.out.row,qy:=by simpa using PT.out.deep,box:=PT.out.box,Nd:=.inl aH,Nf:=.inl aH,Vt:=fun h=>absurd h aH,Vu:=fun h=>absurd h aH}
    exact ⟨lb,cap,db,iJ,h0.later (Below.refl _ _).drew⟩
   ·intro L L' v v' x hk;rintro ⟨g1,k1,g2,k2,h⟩;have e7:=hk 7 aH rfl;have e8:=hk 8 aH rfl;have Wj:=hk 15 aH rfl;have e16:=hk 16 aH rfl;rw [e7.1,e8.1,Wj.1,e16.1,(hk 19 aH rfl).1,(hk 22 aH rfl).1] at h;exact ⟨g1,k1,g2,k2,h.congr (fun h=>e7.2 (e7.1.trans h)) (fun h=>e8.2 (e8.1.trans h)) (fun h=>Wj.2 (Wj.1.trans h)) (fun h=>e16.2 (e16.1.trans h))⟩
   ·refine ⟨?_,?_,?_,?_,?_,?_,?_,?_,?_,?_,?_,?_,?_,?_,?_,?_,?_,?_,?_,?_,?_,?_,?_,trivial⟩
    ·exact Pz
    ·exact Pz
    ·exact Pz
    ·intro L v x jR hW hF hbk hM;have e2:v 2=vP p 0:=hF 2 _ aG rfl;obtain ⟨g1,k1,g2,k2,hR⟩:=hM;refine ⟨aK rfl,?_⟩;simp only [aq,Act.put,aX,jr,aY,e2];exact tW
    ·intro L v x jR hW hF hbk hM;have e3:v 3=vP p 0:=hF 3 _ aG rfl;obtain ⟨g1,k1,g2,k2,hR⟩:=hM;refine ⟨aK rfl,?_⟩;simp only [aq,Act.put,aX,jr,aY,e3];exact tW
    ·intro L v x jR hW hF hbk hM;have e4:v 4=vP p 0:=hF 4 _ aG rfl;obtain ⟨g1,k1,g2,k2,hR⟩:=hM;have c19:L 19=false:=by
      cases hc:L 19 with
      | false=>rfl
      | true =>
       have h8:=hbk 19 8 _ rfl aG hc;have h5:=hbk 8 5 _ rfl aG h8;rw [jR] at h5;cases h5
     have zw:=hR.box;rw [c19] at zw;have y0:∀ z:Later x,z.world.cell? ⟨p,0,none⟩=some (vL lb 0 (st.l.length+1) cap):=fun z=>z.cell (by simp [World.cell?,zw]);clear zw;refine ⟨aK rfl,?_⟩;simp only [aq,Act.put,aX,jr,aY,e4];exact tW
    ·intro L v x jR hW hF hbk hM;obtain ⟨g1,k1,g2,k2,hR⟩:=hM;have y0:=gX hR.jh t0 Vv.out;have y1:=gX hR.jh t1 Vv.out;have y2:=gX hR.jh t2 Vv.out;have y3:=gX hR.jh t3 Vv.out;have y4:=gX hR.jh t4 Vv.out;have y5:=gX hR.jh t5 Vv.out;refine ⟨aK rfl,?_⟩;simp only [aq,Act.put,aX,jr,aY];exact tW
    ·intro L v x jR hW hF hbk hM;have e6:v 6=.agg (fH t):=hF 6 _ aG rfl;obtain ⟨g1,k1,g2,k2,hR⟩:=hM;rw [jR] at hR;have HR:=Hi hR.alloc1;clear hR;refine ⟨aK rfl,?_⟩;simp only [aq,Act.put,aX,jr,aY,e6];refine lT (W:=x.alloc (cl (fk t).toArray 95)) ⟨vL x.heap.size 0 1 1,rfl,g1,k1,g2,k2,c921⟩ ?_;unfold Oper.wp;go_simp;rfl
    ·intro L v x jR hW hF hbk hM
     have e5:v 5=vL lb 0 (st.l.length+1) cap:=hF 5 _ aG rfl
     have hn:=hW 7 aG
     have cs:L 19=false:=by
      cases hc:L 19 with
      | false=>rfl
      | true =>
       have h8:=hbk 19 8 _ rfl aG hc;rw [jR] at h8;cases h8
     obtain ⟨g1,k1,g2,k2,hR⟩:=hM
     rw [jR,cs] at hR
     obtain ⟨gn,en,_,_,hgn⟩:=hR.new1 hn
     have hval:=hR.tI
     simp only [dY,if_false,Value.slice.injEq,Option.some.injEq,Addr.mk.injEq] at hval
     obtain ⟨⟨rfl,_⟩,_,rfl⟩:=hval
     have hrow:=hR.qx
     rw [if_neg aH,List.append_nil] at hrow
     obtain ⟨i0,hi0,hz0,hz1,hz2⟩:=info_parts QZ
     have HR:=Hi hR
     clear hR hF hW hbk
     refine ⟨aK rfl,?_⟩
     simp only [aq,Act.put,aX,jr,aY,e5,en]
     refine wp_append_lies x (.tmp 61) (.tmp 63) 167 rfl 0 95 i0 _ 6 56 Tryz.underlying167 hi0 hz0 hz1 hz2 rfl ax (vL lb 0 (st.l.length+1) cap) (st.l.length+1) (DT st) rfl hrow ⟨gn,0,none⟩ 1 1 (fk t) rfl rfl (World.news_of_block hgn) (by simp [Value.oneCell',fk]) ax KY ax (pR _) x.heap.size rfl ?_
     intro g cap2 y hown hgr hg _
     refine ⟨_,rfl,?_⟩
     have:=HR.out.app1 ⟨aG,aG,aG⟩ hown hgr hg
     rw [en] at this
     refine ⟨g,cap2,g2,k2,?_⟩
     exact YO
    ·exact Pz
    ·intro L v x jR hW hF hbk hM;have e9:v 9=vP p 0:=hF 9 _ aG rfl;obtain ⟨g1,k1,g2,k2,hR⟩:=hM;refine ⟨aK rfl,?_⟩;simp only [aq,Act.put,aX,jr,aY,e9];exact tW
    ·intro L v x jR hW hF hbk hM;have e10:v 10=vP p 0:=hF 10 _ aG rfl;obtain ⟨g1,k1,g2,k2,hR⟩:=hM;refine ⟨aK rfl,?_⟩;simp only [aq,Act.put,aX,jr,aY,e10];exact tW
    ·intro L v x jR hW hF hbk hM;have e11:v 11=vP p 1:=hF 11 _ aG rfl;obtain ⟨g1,k1,g2,k2,hR⟩:=hM;have c22:L 22=false:=by
      cases hc:L 22 with
      | false=>rfl
      | true =>
       have h8:=hbk 22 16 _ rfl aG hc;have h5:=hbk 16 12 _ rfl aG h8;rw [jR] at h5;cases h5
     have zw:=hR.box;rw [c22] at zw;have y0:∀ z:Later x,z.world.cell? ⟨p,1,none⟩=some (vL db 0 (st.l.length+1) iJ):=fun z=>z.cell (by simp [World.cell?,zw]);clear zw;refine ⟨aK rfl,?_⟩;simp only [aq,Act.put,aX,jr,aY,e11];exact tW
    ·exact Pz
    ·intro L v x jR hW hF hbk hM;have e13:v 13=vI d:=hF 13 _ aG rfl;obtain ⟨g1,k1,g2,k2,hR⟩:=hM;refine ⟨aK rfl,?_⟩;simp only [aq,Act.put,aX,jr,aY,e13];exact tW
    ·intro L v x jR hW hF hbk hM;have e14:v 14=vI (d+1):=hF 14 _ aG rfl;obtain ⟨g1,k1,g2,k2,hR⟩:=hM;rw [jR] at hR;have HR:=Hi hR.alloc2;clear hR;refine ⟨aK rfl,?_⟩;simp only [aq,Act.put,aX,jr,aY,e14];refine lT (W:=x.alloc (cl [vI (d+1)].toArray 3)) ⟨vL x.heap.size 0 1 1,rfl,g1,k1,g2,k2,c921⟩ ?_;unfold Oper.wp;go_simp
    ·intro L v x jR hW hF hbk hM
     have e12:v 12=vL db 0 (st.l.length+1) iJ:=hF 12 _ aG rfl
     have hn:=hW 15 aG
     have cs:L 22=false:=by
      cases hc:L 22 with
      | false=>rfl
      | true =>
       have h8:=hbk 22 16 _ rfl aG hc;rw [jR] at h8;cases h8
     obtain ⟨g1,k1,g2,k2,hR⟩:=hM
     rw [jR,cs] at hR
     obtain ⟨gn,en,_,_,hgn⟩:=hR.new2 hn
     have hval:=hR.tJ
     simp only [dY,if_false,Value.slice.injEq,Option.some.injEq,Addr.mk.injEq] at hval
     obtain ⟨⟨rfl,_⟩,_,rfl⟩:=hval
     have hrow:=hR.qy
     rw [if_neg aH,List.append_nil] at hrow
     obtain ⟨i0,hi0,hz0,hz1,hz2⟩:=info_parts Wd
     have HR:=Hi hR
     clear hR hF hW hbk
     refine ⟨aK rfl,?_⟩
     simp only [aq,Act.put,aX,jr,aY,e12,en]
     refine wp_append_lies x (.tmp 68) (.tmp 71) 41 rfl 0 3 i0 _ 1 8 Tryz.underlying41 hi0 hz0 hz1 hz2 rfl ax (vL db 0 (st.l.length+1) iJ) (st.l.length+1) (ds.map fun d:Nat=>Value.int .i64 (d:Int)) rfl hrow ⟨gn,0,none⟩ 1 1 [vI (d+1)] rfl rfl (World.news_of_block hgn) (by simp [Value.oneCell',fk]) ax KY ax (pR _) x.heap.size rfl ?_
     intro g cap2 y hown hgr hg _
     refine ⟨_,rfl,?_⟩
     have:=HR.out.app2 ⟨aG,aG,aG⟩ hown hgr hg
     rw [en] at this
     refine ⟨g1,k1,g,cap2,?_⟩
     exact YO
    ·intro L v x jR hW hF hbk hM;have e0:v 0=vP p 0:=hF 0 _ aG rfl;obtain ⟨g1,k1,g2,k2,hR⟩:=hM;refine ⟨aK rfl,?_⟩;simp only [aq,Act.put,aX,jr,aY,e0];exact tW
    ·intro L v x jR hW hF hbk hM;have e17:v 17=vP p 0:=hF 17 _ aG rfl;obtain ⟨g1,k1,g2,k2,hR⟩:=hM;refine ⟨aK rfl,?_⟩;simp only [aq,Act.put,aX,jr,aY,e17];exact tW
    ·intro L v x jR hW hF hbk hM;have e18:v 18=vP p 0:=hF 18 _ aG rfl;have hn:=hW 8 aG;obtain ⟨g1,k1,g2,k2,hR⟩:=hM;rw [jR,hn] at hR;have zw:=hR.box;rw [if_neg (show ¬false=true by simp)] at zw;have HR:=Hi (hR.sto1 ⟨aG,aG,aG⟩ aH);clear hR hF hW hbk;have hu:=HR.out.tI;rw [if_pos rfl] at hu;have c0:x.cell? ⟨p,0,none⟩=some (vL lb 0 (st.l.length+1) cap):=by simp [World.cell?,zw]
     have f0:x.frozen? ⟨p,0,none⟩=false:=by simp [World.frozen?,zw]
     clear zw;refine ⟨aK rfl,?_⟩;simp only [aq,Act.put,aX,jr,aY,e18];refine lT (W:=x.setCell ⟨p,0,none⟩ (v 8)) ⟨undef,rfl,g1,k1,g2,k2,c922⟩ ?_;unfold Oper.wp;rw [hu];go_simp
    ·intro L v x jR hW hF hbk hM;have e1:v 1=vP p 0:=hF 1 _ aG rfl;obtain ⟨g1,k1,g2,k2,hR⟩:=hM;refine ⟨aK rfl,?_⟩;simp only [aq,Act.put,aX,jr,aY,e1];exact tW
    ·intro L v x jR hW hF hbk hM;have e20:v 20=vP p 0:=hF 20 _ aG rfl;obtain ⟨g1,k1,g2,k2,hR⟩:=hM;refine ⟨aK rfl,?_⟩;simp only [aq,Act.put,aX,jr,aY,e20];exact tW
    ·intro L v x jR hW hF hbk hM;have e21:v 21=vP p 1:=hF 21 _ aG rfl;have hn:=hW 16 aG;obtain ⟨g1,k1,g2,k2,hR⟩:=hM;rw [jR,hn] at hR;have zw:=hR.box;rw [if_neg (show ¬false=true by simp)] at zw;have HR:=Hi (hR.sto2 ⟨aG,aG,aG⟩ aH);clear hR hF hW hbk;have hu:=HR.out.tJ;rw [if_pos rfl] at hu;have c0:x.cell? ⟨p,1,none⟩=some (vL db 0 (st.l.length+1) iJ):=by simp [World.cell?,zw]
     have f0:x.frozen? ⟨p,1,none⟩=false:=by simp [World.frozen?,zw]
     clear zw;refine ⟨aK rfl,?_⟩;simp only [aq,Act.put,aX,jr,aY,e21];refine lT (W:=x.setCell ⟨p,1,none⟩ (v 16)) ⟨undef,rfl,g1,k1,g2,k2,c922⟩ ?_;unfold Oper.wp;rw [hu];go_simp
   ·intro L v x hL hF hM;obtain ⟨g1,k1,g2,k2,hR⟩:=hM;rw [hL 7 aH,hL 8 aH,hL 15 aH,hL 16 aH,hL 19 aH,hL 22 aH] at hR;have hb0:w.heap.size≤wr.heap.size:=M5.out.dZ.size;have y0:=hR.jh.block _ (lt_of_block b5) Vv.out;have hxb:=y0.trans b5;have r0:x.cell? ⟨w.heap.size,0,none⟩=some (vI t.k):=by simp [World.cell?,hxb]
    have r1:x.cell? ⟨w.heap.size,1,none⟩=some (vS t.s):=by simp [World.cell?,hxb]
    have r2:x.cell? ⟨w.heap.size,2,none⟩=some (vU t.n):=by simp [World.cell?,hxb]
    have r3:x.cell? ⟨w.heap.size,3,none⟩=some (vI t.a):=by simp [World.cell?,hxb]
    have r4:x.cell? ⟨w.heap.size,4,none⟩=some (vI t.b):=by simp [World.cell?,hxb]
    have r5:x.cell? ⟨w.heap.size,5,none⟩=some (vI t.c):=by simp [World.cell?,hxb]
    have zw:=hR.box;rw [if_pos rfl,if_pos rfl] at zw;have hv1:=hR.tI;have hv2:=hR.tJ;rw [if_pos rfl] at hv1 hv2;rw [hv1,hv2] at zw;have q2:x.cell? ⟨p,2,none⟩=some (.map (some mb)):=by simp [World.cell?,zw]
    have HBX2:=Hi zw;have HR:=Hi hR;clear hR zw hv1 hv2 y0 hxb t0 t1 t2 t3 t4 t5 hF hL q0 q1 b5;simp only [aq,Act.put,aX,jr,aY];go_wp2_with fail;go_still_tail 6,aI;change wpList _ _ _ _ _ x.drew;have hap:=PT.out.apart;simp only [uM,gF,Bp,or_false,not_or,not_false_eq_true,List.nodup_nil,and_true] at hap;have hmap:x.ownsMap Tryz.prog 95 (plainElem (H:=Unit) Tryz.prog 3) mb st.l.length D:=by obtain ⟨es,clock,hb,r⟩:=PT.out.map;exact ⟨es,clock,(HR.out.jh.block _ PT.out.map.lt (by simp;exact ⟨fun e=>hap.1.2.2 e.symm,fun e=>hap.2.1.2 e.symm,fun e=>hap.2.2 e.symm⟩)).trans hb,r⟩
    have HAP:=Hi hap;have HMAP:=Hi hmap;clear hap hmap;refine wpList_mapUpdate_own _ rfl _ _ _ 168 rfl 95 3 VV Tryz.underlying168 _ mb st.l.length D rfl HMAP.out.drew KY _ _ _ rfl rfl (zh HT.out) (mkI (st.l.length+1)) [] (plainElem_int Tryz.underlying3 (WalkArith.wf_i64 ax)) ?_;intro w7 xA hg7;have hwr:wr.heap.size≤x.heap.size:=HR.out.jh.size;have HG:Hid (ir w S p ⟨st.l++[t],st.most⟩ (st.l.length+1) 0 (.returned (.tuple #[vI (st.l.length+1:Nat),vI 0])) w7):=by
     refine Hi ⟨rfl,[p,g1,g2,mb],⟨g1,k1,g2,k2,mb,ds++[d+1],D.put (Bt t) (mkI (st.l.length+1)),?_,rfl⟩,fun i hi=>?_,?_⟩
     ·have hTT:95≠3∧95≠170∧3≠170:=⟨aG,aG,aG⟩
      obtain ⟨es,clock,hmb,_⟩:=HMAP.out;obtain ⟨cu1,hg1,_⟩:=bS HR.out.qx;obtain ⟨cu2,hg2,_⟩:=bS HR.out.qy;have n1:g1≠mb:=fun e=>by subst e;rw [hg1] at hmb;cases hmb
      have n2:g2≠mb:=fun e=>by subst e;rw [hg2] at hmb;cases hmb
      have n3:p≠mb:=HAP.out.1.2.2;have old:∀ i,i<x.heap.size→i≠mb→w7.heap[i]?=x.heap[i]?:=fun i hi hne=>hg7.block i hi (by simpa using hne);have e1:(st.l++[t]).length=st.l.length+1:=aH;refine ⟨?_,?_,?_,?_,?_,?_,?_⟩
      ·refine ((old p (lt_of_block HBX2.out) n3).trans HBX2.out).trans ?_;simp only [IW,e1];rfl
      ·have:=bT HR.out.qx (old g1 HR.out.lt1 n1)
       simp only [if_true,Bool.toNat_true] at this
       simp only [e1,DT,jO,tB,List.flatMap_nil,List.append_nil]
       rw [←E6]
       exact this
      ·have:=bT HR.out.qy (old g2 HR.out.lt2 n2)
       simp only [if_true,Bool.toNat_true] at this
       simp only [e1,dc,jQ,uL]
       exact this
      ·intro y hy;rw [e1];rcases List.mem_append.1 hy with hy|hy
       ·have:=PT.out.low y hy;omega
       ·simp only [rZ] at hy;omega
      ·rw [e1];exact xA
      ·refine PT.out.names.put HT.out jx.out.wf fun hin=>?_
       have:=Zd.out.2
       rw [decide_eq_false_iff_not] at this
       exact this hin
      ·simp only [uM,gF,Bp,or_false,not_or,not_false_eq_true,List.nodup_nil,and_true];exact ⟨⟨HR.out.ne1 hTT,HR.out.ne2 hTT,n3⟩,⟨HR.out.ne12 hTT,n1⟩,n2⟩
     ·simp only [gF,Bp,or_false] at hi;have hSl:∀ q∈[p,lb,db,mb],q∈S:=fun q hq=>by rw [Vs.out];exact hq
      have hin:∀ q,q∈[p,lb,db]∨wr.heap.size≤q→q∈S∨w.heap.size≤q:=fun q hq=>by
       rcases hq with hq|hq
       ·left;refine hSl q ?_;simp only [gF,Bp,or_false] at hq ⊢;rcases hq with e|e|e
        ·exact .inl e
        ·exact .inr (.inl e)
        ·exact .inr (.inr (.inl e))
       ·exact .inr ax
      rcases hi with rfl|rfl|rfl|rfl
      ·exact .inl (hSl _ aH)
      ·exact hin _ HR.out.Nd
      ·exact hin _ HR.out.Nf
      ·exact .inl (hSl _ aH)
     ·have hSl:∀ q∈[p,lb,db,mb],q∈S:=fun q hq=>by rw [Vs.out];exact hq
      refine ((az.below (S:=S) M5.out.dZ).trans HR.out.jh fun i hi=>.inl (hSl i ?_)).trans (az.grown (S:=[mb]) (w:=x) (row:=some mb) ?_ (fun i hi=>?_)) fun i hi=>.inl (hSl i ?_)
      ·simp only [gF,Bp,or_false] at hi ⊢;rcases hi with e|e|e
       ·exact .inl e
       ·exact .inr (.inl e)
       ·exact .inr (.inr (.inl e))
      ·exact ⟨hg7.os,hg7.tape,hg7.output,hg7.size,hg7.block⟩
      ·cases hi;exact .inl aH
      ·simp only [rZ] at hi;subst hi;simp
    clear xA hg7 q2 r0 r1 r2 r3 r4 r5;go_wp2_with fail;go_ret2;exact HG.out
theorem Wl {n er:Nat} {st':af.Store} (w:World) (h:aC w p st S) (hok:st.Ok) (ht:t.Wf) (hp:st.put t=(st',n,er)):Calls Tryz.prog 30 #[vP p 0,.agg (fH t)] w (ir w S p st' n er):=by
 unfold af.Store.put at hp;split at hp
 ·rename_i hm;simp only [Prod.mk.injEq] at hp;obtain ⟨rfl,rfl,rfl⟩:=hp;exact Wb w h hok ht hm
 ·rename_i hm;have hm:st.may t=true:=by simpa using hm
  split at hp
  ·rename_i i hf;simp only [Prod.mk.injEq] at hp;obtain ⟨rfl,rfl,rfl⟩:=hp;exact Nc w h hok ht hm hf
  ·rename_i hf;split at hp
   ·rename_i hl;simp only [Prod.mk.injEq] at hp;obtain ⟨rfl,rfl,rfl⟩:=hp;exact QY w h hok ht hm hf hl
   ·rename_i hl;simp only [Prod.mk.injEq] at hp;obtain ⟨rfl,rfl,rfl⟩:=hp;exact Wh w h hok ht hm hf hl
end Go.Proofs.N0
namespace Go.Proofs.N0
open Go.RowKit Go.Maps Go.ChangeMaps
variable {st' st:af.Store} {t:af.Term} {n er k p:Nat} {x b a c pb:Int} {S:List Nat}
section
variable {S:List Nat} {w0 W:World} {p:Nat} {st:af.Store} {L:List (Nat×Obj)}
theorem SF.put (h:SF S w0 W p st L) (ht:t.Wf) (hp:st.put t=(st',n,er)):Calls Tryz.prog 30 #[vP p 0,.agg (fH t)] W fun e w'=>e=.returned (.tuple #[vI n,vI er])∧SF S w0 w' p st' L :=
 h.call (by have:=h.ok.put ht;rw [hp] at this;exact this) fun S1 hs=>Wl W hs h.ok ht hp
theorem Store.Ok.small (h:st.Ok):st.l.length≤1048576:=by have h1:=h.len;have h2:=h.most;omega
theorem SF.kB {b:Bool} (h:SF S w0 W p st L) (ht:st.at x=t) (hb:st.has x=b):Calls Tryz.prog 41 #[vP p 0,vI x] W fun e w'=>e=.returned (.tuple #[.agg (fH t),.bool b])∧SF S w0 w' p st L:=by obtain ⟨S1,h1,_⟩:=h.store;refine (DW W h1 (Store.Ok.small h.ok) ht hb).mono ?_;exact aaf
theorem SF.done (h:SF S w0 W p st L):ir w0 S p st n er (.returned (.tuple #[vI n,vI er])) W:=⟨rfl,h.to⟩
end
theorem Ir {k:Int} {s:List UInt8} (hk:0≤k∧k≤100) (hs:s.length≤9223372036854775807) (hn:n<18446744073709551616) (ha:af.Int64 a) (hb:af.Int64 b) (hc:af.Int64 c):(⟨k,s,n,a,b,c⟩:af.Term).Wf:=⟨c94,ha,hb,hc,hn,hs⟩
theorem cm:af.Int64 0:=⟨aG,aG⟩
theorem Ng (h:n≤1048576):af.Int64 n:=⟨ax,ax⟩
theorem I5 (h:st.Ok) (x:Int):af.Int64 (st.at x).a∧af.Int64 (st.at x).b∧af.Int64 (st.at x).c:=⟨(af.sG h x).a,(af.sG h x).b,(af.sG h x).c⟩
-- a function that puts one term,and hands on what Put told
theorem I6 (w:World) (h:aC w p st S) (hok:st.Ok) (hx:af.Int64 x) (hf:af.kQ st x=(st',n,er)):Calls Tryz.prog 95 #[vP p 0,vI x] w (ir w S p st' n er):=by have F0:=Hi (SF.start h hok);have CP:=Hi (F0.out.put (t:=⟨3,[],0,x,0,0⟩) (Ir ax aH ax hx cm cm) hf);clear h hok hf;go_enter Tryz.func95,Tryz.ntmps95;exact ZF
theorem DZ (w:World) (h:aC w p st S) (hok:st.Ok) (hx:af.Int64 x) (hf:af.jY st x=(st',n,er)):Calls Tryz.prog 97 #[vP p 0,vI x] w (ir w S p st' n er):=by have F0:=Hi (SF.start h hok);have CP:=Hi (F0.out.put (t:=⟨5,[],0,x,0,0⟩) (Ir ax aH ax hx cm cm) hf);clear h hok hf;go_enter Tryz.func97,Tryz.ntmps97;exact ZF
theorem Nh (w:World) (h:aC w p st S) (hok:st.Ok) (ha:af.Int64 a) (hb:af.Int64 b) (hf:af.cJ st a b=(st',n,er)):Calls Tryz.prog 133 #[vP p 0,vI a,vI b] w (ir w S p st' n er):=by have F0:=Hi (SF.start h hok);have CP:=Hi (F0.out.put (t:=⟨8,[],0,a,b,0⟩) (Ir ax aH ax ha hb cm) hf);clear h hok hf;go_enter Tryz.func133,Tryz.ntmps133;exact ZF
theorem I7 (w:World) (h:aC w p st S) (hok:st.Ok) (ha:af.Int64 a) (hk:k<18446744073709551616) (hf:af.bV st a k=(st',n,er)):Calls Tryz.prog 110 #[vP p 0,vI a,vU k] w (ir w S p st' n er):=by have F0:=Hi (SF.start h hok);have CP:=Hi (F0.out.put (t:=⟨9,[],k,a,0,0⟩) (Ir ax aH hk ha cm cm) hf);clear h hok hf;go_enter Tryz.func110,Tryz.ntmps110;exact ZF
theorem Ni (w:World) (h:aC w p st S) (hok:st.Ok) (ha:af.Int64 a) (hb:af.Int64 b) (hc:af.Int64 c) (hk:k<18446744073709551616) (hf:af.gI st a k b c=(st',n,er)):Calls Tryz.prog 112 #[vP p 0,vI a,vU k,vI b,vI c] w (ir w S p st' n er):=by have F0:=Hi (SF.start h hok);have CP:=Hi (F0.out.put (t:=⟨10,[],k,a,b,c⟩) (Ir ax aH hk ha hb hc) hf);clear h hok hf;go_enter Tryz.func112,Tryz.ntmps112;exact ZF
theorem Q0 (w:World) (h:aC w p st S) (hok:st.Ok) (hb:st.has x=false) (ht:st.at pb=t):Calls Tryz.prog 99 #[vP p 0,vI x,vI pb] w (ir w S p st 0 1):=by have F0:=Hi (SF.start h hok);have CX:=Hi (F0.out.kB (x:=x) (t:=st.at x) (b:=false) rfl hb);exact a939
theorem I8 (w:World) (h:aC w p st S) (hok:st.Ok) (hb:st.has x=true) (ht:st.at pb=t) (hk:(t.k==3)=false):Calls Tryz.prog 99 #[vP p 0,vI x,vI pb] w (ir w S p st 0 1):=by have F0:=Hi (SF.start h hok);have CX:=Hi (F0.out.kB (x:=x) (t:=st.at x) (b:=true) rfl hb);exact a939
theorem Q3 (w:World) (h:aC w p st S) (hok:st.Ok) (hx:af.Int64 x) (PR:af.Int64 t.a) (hb:st.has x=true) (ht:st.at pb=t) (hk:(t.k==3)=true) (hl:¬t.a<x) (hf:st.put ⟨4,[],0,x,t.a,0⟩=(st',n,er)):Calls Tryz.prog 99 #[vP p 0,vI x,vI pb] w (ir w S p st' n er):=by obtain ⟨HX,HA,HF⟩:=ju hx PR hf;clear hf hx PR;have hl2:x≤t.a:=ax;have F0:=Hi (SF.start h hok);have CX:=Hi (F0.out.kB (x:=x) (t:=st.at x) (b:=true) rfl hb);clear h hok;go_enter Tryz.func99,Tryz.ntmps99;go_wp2_with fail;refine (CX.out).mono ?_;rintro e w1 ⟨rfl,h1⟩;have F1:=Hi (h1.alloc (cl #[vI (st.at x).k,vS (st.at x).s,vU (st.at x).n,vI (st.at x).a,vI (st.at x).b,vI (st.at x).c] 95));clear h1 F0;go_wp2_with fail;generalize w1.alloc (cl #[vI (st.at x).k,vS (st.at x).s,vU (st.at x).n,vI (st.at x).a,vI (st.at x).b,vI (st.at x).c] 95)=W1 at *;have CP:=Hi (F1.out.kB (x:=pb) (t:=t) (b:=st.has pb) ht rfl);refine (CP.out).mono ?_;rintro e w2 ⟨rfl,h1⟩;have F2:=Hi (h1.alloc (cl (fH t) 95));clear h1 F1;generalize hW:w2.alloc (cl (fH t) 95)=W2 at *;have r:=rl F2.out.mem.rules;go_wp2_with fail;have F3:=Hi (F2.out.alloc (cl #[vI x,vI t.a] 49));refine (F3.out.put (t:=⟨4,[],0,x,t.a,0⟩) (Ir ax aH ax HX.out HA.out cm) HF.out).mono ?_;exact aak
theorem I9 (w:World) (h:aC w p st S) (hok:st.Ok) (hx:af.Int64 x) (PR:af.Int64 t.a) (hb:st.has x=true) (ht:st.at pb=t) (hk:(t.k==3)=true) (hl:t.a<x) (hf:st.put ⟨4,[],0,t.a,x,0⟩=(st',n,er)):Calls Tryz.prog 99 #[vP p 0,vI x,vI pb] w (ir w S p st' n er):=by obtain ⟨HX,HA,HF⟩:=ju hx PR hf;clear hf hx PR;have F0:=Hi (SF.start h hok);have CX:=Hi (F0.out.kB (x:=x) (t:=st.at x) (b:=true) rfl hb);clear h hok;go_enter Tryz.func99,Tryz.ntmps99;go_wp2_with fail;refine (CX.out).mono ?_;rintro e w1 ⟨rfl,h1⟩;have F1:=Hi (h1.alloc (cl #[vI (st.at x).k,vS (st.at x).s,vU (st.at x).n,vI (st.at x).a,vI (st.at x).b,vI (st.at x).c] 95));clear h1 F0;go_wp2_with fail;generalize w1.alloc (cl #[vI (st.at x).k,vS (st.at x).s,vU (st.at x).n,vI (st.at x).a,vI (st.at x).b,vI (st.at x).c] 95)=W1 at *;have CP:=Hi (F1.out.kB (x:=pb) (t:=t) (b:=st.has pb) ht rfl);refine (CP.out).mono ?_;rintro e w2 ⟨rfl,h1⟩;have F2:=Hi (h1.alloc (cl (fH t) 95));clear h1 F1;generalize hW:w2.alloc (cl (fH t) 95)=W2 at *;have r:=rl F2.out.mem.rules;go_wp2_with fail;have F3:=Hi (F2.out.alloc (cl #[vI t.a,vI x] 49));refine (F3.out.put (t:=⟨4,[],0,t.a,x,0⟩) (Ir ax aH ax HA.out HX.out cm) HF.out).mono ?_;exact aak
theorem Nj (w:World) (h:aC w p st S) (hok:st.Ok) (hx:af.Int64 x) (hf:af.kI st x pb=(st',n,er)):Calls Tryz.prog 99 #[vP p 0,vI x,vI pb] w (ir w S p st' n er):=by
 unfold af.kI at hf;by_cases hb:st.has x=true
 ·by_cases hk:(st.at pb).k=3
  ·rw [if_neg (by simp [hb,hk])] at hf;have ha:=(I5 hok pb).1;by_cases hl:(st.at pb).a<x
   ·rw [if_pos hl] at hf;exact I9 w h hok hx ha hb rfl ow hl hf
   ·rw [if_neg hl] at hf;exact Q3 w h hok hx ha hb rfl ow hl hf
  ·rw [if_pos (.inr hk)] at hf;simp only [Prod.mk.injEq] at hf;obtain ⟨rfl,rfl,rfl⟩:=hf;exact I8 w h hok hb rfl ow
 ·rw [if_pos (.inl Qq)] at hf;simp only [Prod.mk.injEq] at hf;obtain ⟨rfl,rfl,rfl⟩:=hf;exact Q0 w h hok Qq rfl
end Go.Proofs.N0
namespace Go.Proofs.N0
open Go.RowKit Go.Maps Go.ChangeMaps
variable {p g a b er n n':Nat} {st st' uV:af.Store} {S:List Nat} {l:List Int} {z:Bool} {T:TypeId} {pb d x c:Int} {t:af.Term}
def ThereR (l:List Int) (st:af.Store) (w:World) (iv:Value) (wr:World):Prop:=∃ i:Nat,i≤l.length∧iv=vI i∧(l.take i).all st.has=true∧Below w.heap.size w wr
theorem Nk (w:World) (h:aC w p st S) (hok:st.Ok) (hl:l.length≤2) (hg:w.heap[g]?=some (.cells (l.map (Value.int .i64)).toArray T (0,0))) (hz:l.all st.has=z) :
 Calls Tryz.prog 135 #[vP p 0,vL g 0 l.length l.length] w fun e w'=>e=.returned (.bool z)∧Below w.heap.size w w':=by
 obtain ⟨HS,jx,HG,HZ⟩:=hi4 h hok hg hz
 clear h hok hg hz
 obtain ⟨m,hm⟩:∃ m,m=l.length:=⟨_,rfl⟩
 have HM:=Hi hm
 rw [←hm]
 rw [←hm] at hl
 clear hm
 go_enter Tryz.func135,Tryz.ntmps135
 go_wp2_with fail
 go_loopw [11] (fun iv wr=>ThereR l st w iv wr) (fun iv _=>m - (intOf iv).toNat)
 case atStart=>exact ⟨0,pR _,rfl,rfl,Below.refl _ _⟩
 case round =>
  obtain ⟨i,hi,rfl,hok,iK⟩:=hrel;rw [←HM.out] at hi;obtain ⟨HB,HT⟩:=hi2 iK hok;clear iK hok;by_cases hlt:i<m
  ·have hil:i<l.length:=c920;have hc:=zu (w:=wr) ((HB.out.block _ (lt_of_block HG.out)).trans HG.out) hil;have PO:l.take (i+1)=l.take i++[l.getD i 0]:=by rw [Fv hil,ux,lz hil];rfl
   have HTK:=Hi PO;clear PO hil;obtain ⟨y,hy⟩:∃ y,y=l.getD i 0:=⟨_,rfl⟩
   have HY:=Hi hy;rw [←hy] at hc;clear hy;obtain ⟨b,hb⟩:∃ b,st.has y=b:=⟨_,rfl⟩
   have Ln:=Hi hb;clear hb;go_wp2_with fail;refine (DW wr (HS.out.later HB.out) (Store.Ok.small jx.out) rfl Ln.out).mono ?_;rintro e w2 ⟨rfl,hb2⟩;have Bx:=Hi (vV HB.out (hb2.alloc hb2.size (cl #[vI (st.at y).k,vS (st.at y).s,vU (st.at y).n,vI (st.at y).a,vI (st.at y).b,vI (st.at y).c] 95)));clear hb2;cases b
   ·have HR:Hid (z=false):=Hi (by
     rw [←HZ.out,←List.take_append_drop (i+1) l,HTK.out,List.all_append,List.all_append,List.all_cons,←HY.out,Ln.out];simp)
    go_wp2_with fail;go_ret;exact ⟨gH HR.out.symm,Bx.out⟩
   ·have HR:Hid ((l.take (i+1)).all st.has=true):=Hi (by
     rw [HTK.out,List.all_append,List.all_cons,←HY.out,Ln.out,HT.out];rfl)
    go_wp2_with fail
    go_roundw
    case rel=>exact ⟨i+1,by rw [←HM.out];omega,rfl,HR.out,Bx.out⟩
    case measure=>simp [intOf];omega
  ·obtain rfl:i=m:=ax;have HR:Hid (z=true):=Hi (by have:=HT.out;rw [HM.out,List.take_length] at this;rw [←HZ.out];exact this);go_wp2_with fail;go_ret;exact ⟨gH HR.out.symm,HB.out⟩
def jb (w:World) (S:List Nat) (p:Nat) (st:af.Store) (a b er:Nat) (e:Ending) (w':World):Prop:=e=.returned (.tuple #[vI a,vI b,vI er])∧gW w S p st w'
section
variable {S:List Nat} {w0 W:World} {p:Nat} {st:af.Store} {L:List (Nat×Obj)}
theorem SF.uU (h:SF S w0 W p st L):jb w0 S p st a b er (.returned (.tuple #[vI a,vI b,vI er])) W:=⟨rfl,h.to⟩
theorem SF.there (h:SF S w0 W p st L) (hl:l.length≤2) (hg:W.heap[g]?=some (.cells (l.map (Value.int .i64)).toArray T (0,0))) (hz:l.all st.has=z) :
 Calls Tryz.prog 135 #[vP p 0,vL g 0 l.length l.length] W fun e w'=>e=.returned (.bool z)∧SF S w0 w' p st L:=by
 obtain ⟨S1,h1,_⟩:=h.store
 refine (Nk W h1 h.ok hl hg hz).mono ?_
 rintro e w' ⟨rfl,hb⟩
 exact ⟨rfl,h.later hb⟩
end
theorem Nl (w:World) (h:aC w p st S) (hok:st.Ok) (ht:st.at pb=t) (hk:(t.k==5)=false):Calls Tryz.prog 100 #[vP p 0,vI pb,vI d] w (jb w S p st 0 0 1):=by have hk2:(t.k != 5)=true:=MU;have F0:=Hi (SF.start h hok);have CP:=Hi (F0.out.kB (x:=pb) (t:=t) (b:=st.has pb) ht rfl);clear h hok ht;go_enter Tryz.func100,Tryz.ntmps100;go_wp2_with fail;refine (CP.out).mono ?_;rintro e w1 ⟨rfl,h1⟩;have F1:=Hi (h1.alloc (cl (fH t) 95));clear h1 F0;go_wp2_with fail;go_ret3;exact F1.out.uU
theorem Wm (w:World) (h:aC w p st S) (hok:st.Ok) (ht:st.at pb=t) (hk:(t.k==5)=true) (hd:st.has d=false):Calls Tryz.prog 100 #[vP p 0,vI pb,vI d] w (jb w S p st 0 0 1):=by have hk2:(t.k != 5)=false:=MU;have F0:=Hi (SF.start h hok);have CP:=Hi (F0.out.kB (x:=pb) (t:=t) (b:=st.has pb) ht rfl);clear h hok ht;go_enter Tryz.func100,Tryz.ntmps100;go_wp2_with fail;refine (CP.out).mono ?_;rintro e w1 ⟨rfl,h1⟩;have F1:=Hi (h1.alloc (cl (fH t) 95));clear h1 F0;go_wp2_with fail;have F2:=Hi (F1.out.alloc (cl #[vI d] 3));simp only [World.size_alloc] at F2;refine (F2.out.there (l:=[d]) (z:=false) aH (F2.out.get 0 rfl) MV).mono ?_;rintro e w2 ⟨rfl,h1⟩;have F3:=Hi h1;clear h1 F2;have r:=rl F3.out.mem.rules;go_wp2_with fail;go_ret3;exact F3.out.uU
theorem Ja (w:World) (h:aC w p st S) (hok:st.Ok) (hx:af.Int64 d) (PR:af.Int64 t.a) (ht:st.at pb=t) (hk:(t.k==5)=true) (hd:st.has d=true) (hf:st.put ⟨6,[],0,t.a,d,0⟩=(st',n,er)) (he:er≠0):Calls Tryz.prog 100 #[vP p 0,vI pb,vI d] w (jb w S p st' 0 0 er):=by have HF:=Hi hf;clear hf;have e1:((er:Int)==0)=false:=aR;have e2:(er==0)=false:=aR;obtain ⟨HX,HA⟩:=hi2 hx PR;clear hx PR;have hk2:(t.k != 5)=false:=MU;have F0:=Hi (SF.start h hok);have CP:=Hi (F0.out.kB (x:=pb) (t:=t) (b:=st.has pb) ht rfl);clear h hok ht;go_enter Tryz.func100,Tryz.ntmps100;go_wp2_with fail;refine (CP.out).mono ?_;rintro e w1 ⟨rfl,h1⟩;have F1:=Hi (h1.alloc (cl (fH t) 95));clear h1 F0;go_wp2_with fail;have F2:=Hi (F1.out.alloc (cl #[vI d] 3));simp only [World.size_alloc] at F2;refine (F2.out.there (l:=[d]) (z:=true) aH (F2.out.get 0 rfl) MV).mono ?_;rintro e w2 ⟨rfl,h1⟩;have F3:=Hi h1;clear h1 F2;have r:=rl F3.out.mem.rules;go_wp2_with fail;refine (F3.out.put (t:=⟨6,[],0,t.a,d,0⟩) (Ir ax aH ax HA.out HX.out cm) HF.out).mono ?_;rintro e w3 ⟨rfl,h1⟩;have F4:=Hi h1;clear h1 r;have r:=rl F4.out.mem.rules;go_wp2_with fail;go_ret3;exact F4.out.uU
theorem FC (w:World) (h:aC w p st S) (hok:st.Ok) (hx:af.Int64 d) (PR:af.Int64 t.a) (ht:st.at pb=t) (hk:(t.k==5)=true) (hd:st.has d=true) (hf:st.put ⟨6,[],0,t.a,d,0⟩=(st',n,0)) (hg:st'.put ⟨7,[],0,t.a,d,0⟩=(uV,n',er)) (he:er≠0):Calls Tryz.prog 100 #[vP p 0,vI pb,vI d] w (jb w S p uV 0 0 er):=by obtain ⟨HF,HG⟩:=hi2 hf hg;clear hf hg;have e1:((er:Int)==0)=false:=aR;have e2:(er==0)=false:=aR;exact a921
theorem Wn (w:World) (h:aC w p st S) (hok:st.Ok) (hx:af.Int64 d) (PR:af.Int64 t.a) (ht:st.at pb=t) (hk:(t.k==5)=true) (hd:st.has d=true) (hf:st.put ⟨6,[],0,t.a,d,0⟩=(st',n,0)) (hg:st'.put ⟨7,[],0,t.a,d,0⟩=(uV,n',0)):Calls Tryz.prog 100 #[vP p 0,vI pb,vI d] w (jb w S p uV n n' 0):=by obtain ⟨HF,HG⟩:=hi2 hf hg;clear hf hg;exact a921
theorem Q4 (w:World) (h:aC w p st S) (hok:st.Ok) (hx:af.Int64 d) (hf:af.eZ st pb d=(st',a,b,er)):Calls Tryz.prog 100 #[vP p 0,vI pb,vI d] w (jb w S p st' a b er):=by
 unfold af.eZ at hf;have ha:=(I5 hok pb).1;by_cases hk:(st.at pb).k=5;rotate_left
 ·rw [if_pos (.inl hk)] at hf;simp only [Prod.mk.injEq] at hf;obtain ⟨rfl,rfl,rfl,rfl⟩:=hf;exact Nl w h hok rfl ow
 have hk':((st.at pb).k==5)=true:=ow;by_cases hd:st.has d=true;rotate_left
 ·have hd:st.has d=false:=MV;rw [if_pos (.inr hd)] at hf;simp only [Prod.mk.injEq] at hf;obtain ⟨rfl,rfl,rfl,rfl⟩:=hf;exact Wm w h hok rfl hk' hd
 rw [if_neg (by simp [hd,hk])] at hf;unfold af.Store.Dt at hf;obtain ⟨bO,n1,r1,hp⟩:∃ bO n1 r1,st.put ⟨6,[],0,(st.at pb).a,d,0⟩=(bO,n1,r1):=⟨_,_,_,rfl⟩
 rw [hp] at hf;obtain ⟨nu,n2,r2,hq⟩:∃ nu n2 r2,bO.put ⟨7,[],0,(st.at pb).a,d,0⟩=(nu,n2,r2):=⟨_,_,_,rfl⟩
 simp only [hq] at hf;by_cases h1:r1=0
 ·subst h1;by_cases h2:r2=0
  ·subst h2;simp only [ne_eq,not_true_eq_false,if_false,Prod.mk.injEq] at hf;obtain ⟨rfl,rfl,rfl,rfl⟩:=hf;exact Wn w h hok hx ha rfl hk' hd hp hq
  ·simp only [ne_eq,not_true_eq_false,if_false,if_pos h2,h2,not_false_eq_true,if_true,Prod.mk.injEq] at hf;obtain ⟨rfl,rfl,rfl,rfl⟩:=hf;exact FC w h hok hx ha rfl hk' hd hp hq h2
 ·simp only [ne_eq,h1,not_false_eq_true,if_true,Prod.mk.injEq] at hf;obtain ⟨rfl,rfl,rfl,rfl⟩:=hf;exact Ja w h hok hx ha rfl hk' hd hp h1
theorem Q5 (w:World) (h:aC w p st S) (hok:st.Ok) (ht:st.at c=t) (hd:(st.has x&&st.has c)=false):Calls Tryz.prog 167 #[vP p 0,vI x,vI c] w (ir w S p st 0 1):=by have F0:=Hi (SF.start h hok);have CP:=Hi (F0.out.kB (x:=c) (t:=t) (b:=st.has c) ht rfl);clear h hok ht;go_enter Tryz.func167,Tryz.ntmps167;go_wp2_with fail;refine (CP.out).mono ?_;rintro e w1 ⟨rfl,h1⟩;have F1:=Hi (h1.alloc (cl (fH t) 95));clear h1 F0;go_wp2_with fail;have F2:=Hi (F1.out.alloc (cl #[vI x,vI c] 3));simp only [World.size_alloc] at F2;refine (F2.out.there (l:=[x,c]) (z:=false) aH (F2.out.get 0 rfl) MV).mono ?_;rintro e w2 ⟨rfl,h1⟩;have F3:=Hi h1;clear h1 F2 hd;have r:=rl F3.out.mem.rules;go_wp2_with fail;go_ret2;exact F3.out.done
theorem Jb (w:World) (h:aC w p st S) (hok:st.Ok) (ht:st.at c=t) (hd:(st.has x&&st.has c)=true) (hk:(t.k==6)=false):Calls Tryz.prog 167 #[vP p 0,vI x,vI c] w (ir w S p st 0 10):=by have hk2:(t.k != 6)=true:=MU;exact a947
theorem FE (w:World) (h:aC w p st S) (hok:st.Ok) (ht:st.at c=t) (hd:(st.has x&&st.has c)=true) (hk:(t.k==6)=true) (ha:(t.a==x)=false):Calls Tryz.prog 167 #[vP p 0,vI x,vI c] w (ir w S p st 0 10):=by
 have hk2:(t.k != 6)=false:=MU;have ha2:(t.a != x)=true:=by rw [bne,ha];rfl
 exact a947
theorem uW (w:World) (h:aC w p st S) (hok:st.Ok) (hx:af.Int64 x) (htb:af.Int64 t.b) (ht:st.at c=t) (hd:(st.has x&&st.has c)=true) (hk:(t.k==6)=true) (ha:(t.a==x)=true) (hf:st.put ⟨7,[],0,x,t.b,0⟩=(st',n,er)):Calls Tryz.prog 167 #[vP p 0,vI x,vI c] w (ir w S p st' n er):=by
 obtain ⟨HX,HA,HF⟩:=ju hx htb hf;clear hf hx htb;have hk2:(t.k != 6)=false:=MU;have ha2:(t.a != x)=false:=by rw [bne,ha];rfl
 have F0:=Hi (SF.start h hok);have CP:=Hi (F0.out.kB (x:=c) (t:=t) (b:=st.has c) ht rfl);clear h hok ht;go_enter Tryz.func167,Tryz.ntmps167;go_wp2_with fail;refine (CP.out).mono ?_;rintro e w1 ⟨rfl,h1⟩;have F1:=Hi (h1.alloc (cl (fH t) 95));clear h1 F0;go_wp2_with fail;have F2:=Hi (F1.out.alloc (cl #[vI x,vI c] 3));simp only [World.size_alloc] at F2;refine (F2.out.there (l:=[x,c]) (z:=true) aH (F2.out.get 0 rfl) MV).mono ?_;rintro e w2 ⟨rfl,h1⟩;have F3:=Hi h1;clear h1 F2 hd;have r:=rl F3.out.mem.rules;go_wp2_with fail;refine (F3.out.put (t:=⟨7,[],0,x,t.b,0⟩) (Ir ax aH ax HX.out HA.out cm) HF.out).mono ?_;exact aak
theorem Nn (w:World) (h:aC w p st S) (hok:st.Ok) (hx:af.Int64 x) (hf:af.kJ st x c=(st',n,er)):Calls Tryz.prog 167 #[vP p 0,vI x,vI c] w (ir w S p st' n er):=by
 unfold af.kJ at hf;by_cases hd:(st.has x&&st.has c)=true;rotate_left
 ·have hd:(st.has x&&st.has c)=false:=MV;have hd':=hd;rw [Bool.and_eq_false_iff] at hd';rw [if_pos hd'] at hf;simp only [Prod.mk.injEq] at hf;obtain ⟨rfl,rfl,rfl⟩:=hf;exact Q5 w h hok rfl hd
 have hd':=hd;rw [gi] at hd';rw [if_neg (by simp [hd'.1,hd'.2])] at hf;by_cases hk:(st.at c).k=6;rotate_left
 ·rw [if_pos (.inl hk)] at hf;simp only [Prod.mk.injEq] at hf;obtain ⟨rfl,rfl,rfl⟩:=hf;exact Jb w h hok rfl hd ow
 by_cases ha:(st.at c).a=x;rotate_left
 ·rw [if_pos (.inr ha)] at hf;simp only [Prod.mk.injEq] at hf;obtain ⟨rfl,rfl,rfl⟩:=hf;exact FE w h hok rfl hd ow (by simpa using ha)
 rw [if_neg (by simp [hk,ha])] at hf;exact uW w h hok hx (I5 hok c).2.1 rfl hd ow (by simpa using ha) hf
end Go.Proofs.N0
namespace Go.Proofs.N0
open Go.RowKit Go.Maps Go.ChangeMaps
variable {a b k hh x c:Int} {n er p be bh bs n1 n2:Nat} {S:List Nat} {w0 W:World} {st st' bO nu:af.Store} {t:af.Term} {L:List (Nat×Obj)}
section
variable {S:List Nat} {w0 W:World} {p:Nat} {st st':af.Store} {L:List (Nat×Obj)}
theorem SF.B8 (h:SF S w0 W p st L) (ha:af.Int64 a) (hb:af.Int64 b) (hf:af.cJ st a b=(st',n,er)):Calls Tryz.prog 133 #[vP p 0,vI a,vI b] W fun e w'=>e=.returned (.tuple #[vI n,vI er])∧SF S w0 w' p st' L :=
 h.call (by have:=h.ok.put (t:=⟨8,[],0,a,b,0⟩) (Ir (by omega) (by simp) (by omega) ha hb cm);unfold af.cJ at hf;rw [hf] at this;exact this) fun S1 hs=>Nh W hs h.ok ha hb hf
theorem SF.derive {k:Nat} (h:SF S w0 W p st L) (ha:af.Int64 a) (hk:k<18446744073709551616) (hf:af.bV st a k=(st',n,er)):Calls Tryz.prog 110 #[vP p 0,vI a,vU k] W fun e w'=>e=.returned (.tuple #[vI n,vI er])∧SF S w0 w' p st' L :=
 h.call (by have:=h.ok.put (t:=⟨9,[],k,a,0,0⟩) (Ir (by omega) (by simp) hk ha cm cm);unfold af.bV at hf;rw [hf] at this;exact this) fun S1 hs=>I7 W hs h.ok ha hk hf
end
theorem Wo {k:Nat} (h:SF S w0 W p st [(be,cl #[vI er] 28),(bh,cl #[vI hh] 3),(bs,cl #[vP p 0] 23)]) (he:er≠0) :
 Calls Tryz.prog 165 #[vU k,vP be 0,vP bs 0,vP bh 0] W fun e w'=>e=.returned (vI 0)∧SF S w0 w' p st [(be,cl #[vI er] 28),(bh,cl #[vI hh] 3),(bs,cl #[vP p 0] 23)]:=by
 have F:=Hi h
 clear h
 have r:=rl F.out.mem.rules
 have e1:((er:Int)==0)=false:=aR
 have e2:(er==0)=false:=aR
 go_enter Tryz.func165,Tryz.ntmps165
 go_wp2_with fail
 go_ret
 exact ⟨rfl,F.out⟩
theorem qz {k:Nat} (h:SF S w0 W p st [(be,cl #[vI 0] 28),(bh,cl #[vI hh] 3),(bs,cl #[vP p 0] 23)]) (hk:k<100) (hi:af.Int64 hh) (hf:af.bV st hh k=(st',n,er)) :
 Calls Tryz.prog 165 #[vU k,vP be 0,vP bs 0,vP bh 0] W fun e w'=>e=.returned (vI n)∧SF S w0 w' p st' [(be,cl #[vI er] 28),(bh,cl #[vI hh] 3),(bs,cl #[vP p 0] 23)]:=by
 have F:=Hi h
 have CD:=Hi (F.out.derive hi ax hf)
 clear h hi hf
 have r:=rl F.out.mem.rules
 go_enter Tryz.func165,Tryz.ntmps165
 go_wp2_with fail
 refine CD.out.mono ?_
 rintro e w1 ⟨rfl,h1⟩
 have F1:=Hi h1
 clear h1 r F
 have r:=rl F1.out.mem.rules
 have F2:=Hi (F1.out.set 0 (vI er))
 go_wp2_with fail
 go_ret
 exact ⟨rfl,F2.out⟩
theorem Q6 (w:World) (h:aC w p st S) (hok:st.Ok) (ha:af.Int64 a) (hb:af.Int64 b) (hf:af.cJ st a b=(st',n,er)) (he:er≠0):Calls Tryz.prog 134 #[vP p 0,vI a,vI b] w (jb w S p st' 0 0 er):=by
 have e1:((er:Int)==0)=false:=aR;have e2:(er==0)=false:=aR;have F0:=Hi ((SF.start h hok).alloc (cl #[vP p 0] 23));have CH:=Hi (F0.out.B8 ha hb hf);clear h hok hf ha hb;have Wp:∀ (fn:Fn) (first cap:Array Value) (w:World),(Instr.makeFunc fn first cap).run Tryz.prog w=.ok (.func fn first cap) w:=fun _ _ _ _=>rfl;go_enter Tryz.func134,Tryz.ntmps134;go_wp2_with fail;refine CH.out.mono ?_;rintro e w1 ⟨rfl,h1⟩;have F1:=Hi ((h1.alloc (cl #[vI n] 3)).alloc (cl #[vI er] 28));simp only [World.size_alloc] at F1;clear h1 CH F0;go_wp2_with fail;have rq:=rl F1.out.mem.ei;refine ay aI aI ?_;repeat go_big_quiet_step (fail)
 refine wpQuiet_nil ?_;rintro ⟨w2,hb⟩;change Exit.then _ _ _ _ w2;have F2:=Hi (F1.out.later hb);clear hb rq F1;go_wp2_with fail;go_ret3;exact F2.out.uU
theorem lI (hok:st.Ok) (hf:st.put t=(st',n,er)):af.Int64 n:=by
 have:=af.cY hok t
 rw [hf] at this
 exact Ng this
theorem Np (w:World) (h:aC w p st S) (hok:st.Ok) (ha:af.Int64 a) (hb:af.Int64 b) (hf:af.cJ st a b=(st',n,0)) (hd:af.bV st' n 1=(bO,n1,er)) (he:er≠0):Calls Tryz.prog 134 #[vP p 0,vI a,vI b] w (jb w S p bO 0 0 er):=by have HI:=Hi (lI hok hf);have HD:=Hi hd;clear hd;have e1:((er:Int)==0)=false:=aR;have e2:(er==0)=false:=aR;have HE:=Hi he;clear he;have F0:=Hi ((SF.start h hok).alloc (cl #[vP p 0] 23));have CH:=Hi (F0.out.B8 ha hb hf);clear h hok hf ha hb;have Wp:∀ (fn:Fn) (first cap:Array Value) (w:World),(Instr.makeFunc fn first cap).run Tryz.prog w=.ok (.func fn first cap) w:=fun _ _ _ _=>rfl;go_enter Tryz.func134,Tryz.ntmps134;go_wp2_with fail;refine CH.out.mono ?_;rintro e w1 ⟨rfl,h1⟩;have F1:=Hi ((h1.alloc (cl #[vI n] 3)).alloc (cl #[vI 0] 28));simp only [World.size_alloc] at F1;clear h1 CH F0;go_wp2_with fail;refine (qz (k:=1) (be:=w1.heap.size+1) (bh:=w1.heap.size) (bs:=w.heap.size) F1.out ax HI.out HD.out).mono ?_;rintro e w2 ⟨rfl,h1⟩;have F2:=Hi h1;clear h1 F1;have r:=rl F2.out.mem.rules;go_wp2_with fail;clear r;refine (Wo (k:=2) (be:=w1.heap.size+1) (bh:=w1.heap.size) (bs:=w.heap.size) F2.out HE.out).mono ?_;exact W7
theorem Jc (w:World) (h:aC w p st S) (hok:st.Ok) (ha:af.Int64 a) (hb:af.Int64 b) (hf:af.cJ st a b=(st',n,0)) (hd:af.bV st' n 1=(bO,n1,0)) (hg:af.bV bO n 2=(nu,n2,er)) (he:er≠0):Calls Tryz.prog 134 #[vP p 0,vI a,vI b] w (jb w S p nu 0 0 er):=by have HI:=Hi (lI hok hf);obtain ⟨HD,HG⟩:=hi2 hd hg;clear hd hg;have e1:((er:Int)==0)=false:=aR;have e2:(er==0)=false:=aR;clear he;have F0:=Hi ((SF.start h hok).alloc (cl #[vP p 0] 23));have CH:=Hi (F0.out.B8 ha hb hf);clear h hok hf ha hb;have Wp:∀ (fn:Fn) (first cap:Array Value) (w:World),(Instr.makeFunc fn first cap).run Tryz.prog w=.ok (.func fn first cap) w:=fun _ _ _ _=>rfl;go_enter Tryz.func134,Tryz.ntmps134;go_wp2_with fail;refine CH.out.mono ?_;rintro e w1 ⟨rfl,h1⟩;have F1:=Hi ((h1.alloc (cl #[vI n] 3)).alloc (cl #[vI 0] 28));simp only [World.size_alloc] at F1;clear h1 CH F0;go_wp2_with fail;refine (qz (k:=1) (be:=w1.heap.size+1) (bh:=w1.heap.size) (bs:=w.heap.size) F1.out ax HI.out HD.out).mono ?_;rintro e w2 ⟨rfl,h1⟩;have F2:=Hi h1;clear h1 F1;have r:=rl F2.out.mem.rules;go_wp2_with fail;clear r;refine (qz (k:=2) (be:=w1.heap.size+1) (bh:=w1.heap.size) (bs:=w.heap.size) F2.out ax HI.out HG.out).mono ?_;exact W7
theorem vW (w:World) (h:aC w p st S) (hok:st.Ok) (ha:af.Int64 a) (hb:af.Int64 b) (hf:af.cJ st a b=(st',n,0)) (hd:af.bV st' n 1=(bO,n1,0)) (hg:af.bV bO n 2=(nu,n2,0)):Calls Tryz.prog 134 #[vP p 0,vI a,vI b] w (jb w S p nu n1 n2 0):=by have HI:=Hi (lI hok hf);obtain ⟨HD,HG⟩:=hi2 hd hg;clear hd hg;have F0:=Hi ((SF.start h hok).alloc (cl #[vP p 0] 23));have CH:=Hi (F0.out.B8 ha hb hf);clear h hok hf ha hb;have Wp:∀ (fn:Fn) (first cap:Array Value) (w:World),(Instr.makeFunc fn first cap).run Tryz.prog w=.ok (.func fn first cap) w:=fun _ _ _ _=>rfl;go_enter Tryz.func134,Tryz.ntmps134;go_wp2_with fail;refine CH.out.mono ?_;rintro e w1 ⟨rfl,h1⟩;have F1:=Hi ((h1.alloc (cl #[vI n] 3)).alloc (cl #[vI 0] 28));simp only [World.size_alloc] at F1;clear h1 CH F0;go_wp2_with fail;refine (qz (k:=1) (be:=w1.heap.size+1) (bh:=w1.heap.size) (bs:=w.heap.size) F1.out ax HI.out HD.out).mono ?_;rintro e w2 ⟨rfl,h1⟩;have F2:=Hi h1;clear h1 F1;have r:=rl F2.out.mem.rules;go_wp2_with fail;clear r;refine (qz (k:=2) (be:=w1.heap.size+1) (bh:=w1.heap.size) (bs:=w.heap.size) F2.out ax HI.out HG.out).mono ?_;rintro e w3 ⟨rfl,h1⟩;have F3:=Hi h1;clear h1 F2;have r:=rl F3.out.mem.rules;go_wp2_with fail;clear r;go_ret3;exact F3.out.uU
theorem Q7 (w:World) (h:aC w p st S) (hok:st.Ok) (ha:af.Int64 a) (hb:af.Int64 b) (hf:af.fG st a b=(st',n1,n2,er)):Calls Tryz.prog 134 #[vP p 0,vI a,vI b] w (jb w S p st' n1 n2 er):=by
 unfold af.fG at hf;obtain ⟨s1,m1,r1,h1⟩:∃ s1 m1 r1,af.cJ st a b=(s1,m1,r1):=⟨_,_,_,rfl⟩
 simp only [h1] at hf;by_cases e1:r1=0;rotate_left
 ·simp only [ne_eq,e1,not_false_eq_true,if_true,Prod.mk.injEq] at hf;obtain ⟨rfl,rfl,rfl,rfl⟩:=hf;exact Q6 w h hok ha hb h1 e1
 subst e1;simp only [ne_eq,not_true_eq_false,if_false] at hf;unfold af.Store.Dt at hf;obtain ⟨s2,m2,r2,h2⟩:∃ s2 m2 r2,s1.put ⟨9,[],1,(m1:Int),0,0⟩=(s2,m2,r2):=⟨_,_,_,rfl⟩
 simp only [h2] at hf;obtain ⟨s3,m3,r3,h3⟩:∃ s3 m3 r3,s2.put ⟨9,[],2,(m1:Int),0,0⟩=(s3,m3,r3):=⟨_,_,_,rfl⟩
 simp only [h3] at hf;by_cases e2:r2=0;rotate_left
 ·simp only [ne_eq,e2,not_false_eq_true,if_true,Prod.mk.injEq] at hf;obtain ⟨rfl,rfl,rfl,rfl⟩:=hf;exact Np w h hok ha hb h1 h2 e2
 subst e2;by_cases e3:r3=0;rotate_left
 ·simp only [ne_eq,not_true_eq_false,if_false,e3,not_false_eq_true,if_true,Prod.mk.injEq] at hf;obtain ⟨rfl,rfl,rfl,rfl⟩:=hf;exact Jc w h hok ha hb h1 h2 h3 e3
 subst e3;simp only [ne_eq,not_true_eq_false,if_false,Prod.mk.injEq] at hf;obtain ⟨rfl,rfl,rfl,rfl⟩:=hf;exact vW w h hok ha hb h1 h2 h3
theorem is_any {b:Bool} (w:World) (h:aC w p st S) (hok:st.Ok) (hb:st.has x=b):Calls Tryz.prog 111 #[vP p 0,vI x] w fun e w'=>e=.returned (.bool b)∧Below w.heap.size w w':=by have CG:=Hi (DW w h (Store.Ok.small hok) (x:=x) rfl hb);clear h hok hb;go_enter Tryz.func111,Tryz.ntmps111;go_wp2_with fail;refine CG.out.mono ?_;rintro e w1 ⟨rfl,h1⟩;have HB:=Hi (h1.alloc h1.size (cl #[vI (st.at x).k,vS (st.at x).s,vU (st.at x).n,vI (st.at x).a,vI (st.at x).b,vI (st.at x).c] 95));clear h1;exact Kk
theorem SF.Lj {b:Bool} (h:SF S w0 W p st L) (hb:st.has x=b):Calls Tryz.prog 111 #[vP p 0,vI x] W fun e w'=>e=.returned (.bool b)∧SF S w0 w' p st L:=by obtain ⟨S1,h1,_⟩:=h.store;refine (is_any W h1 h.ok hb).mono ?_;exact aaf
def BA (w:World) (S:List Nat) (p:Nat) (st:af.Store) (x:Int) (er:Nat) (e:Ending) (w':World):Prop:=e=.returned (.tuple #[vI x,vI er])∧gW w S p st w'
theorem SF.Ll (h:SF S w0 W p st L):BA w0 S p st x er (.returned (.tuple #[vI x,vI er])) W:=⟨rfl,h.to⟩
theorem ao_1 (w:World) (h:aC w p st S) (hok:st.Ok) (h1:st.has k=false):Calls Tryz.prog 175 #[vP p 0,vI k,vU n,vI b,vI c] w (BA w S p st 0 1):=by have H1:=Hi h1;clear h1;have F0:=Hi (SF.start h hok);clear h hok;go_enter Tryz.func175,Tryz.ntmps175;go_wp2_with fail;refine (F0.out.Lj (x:=k) (b:=false) H1.out).mono ?_;rintro e w1 ⟨rfl,h1⟩;have F1:=Hi h1;clear h1 F0;go_wp2_with fail;go_ret2;exact F1.out.Ll
theorem ao_2 (w:World) (h:aC w p st S) (hok:st.Ok) (h1:st.has k=true) (h2:st.has b=false):Calls Tryz.prog 175 #[vP p 0,vI k,vU n,vI b,vI c] w (BA w S p st 0 1):=by obtain ⟨H1,H2⟩:=hi2 h1 h2;clear h1 h2;have F0:=Hi (SF.start h hok);clear h hok;go_enter Tryz.func175,Tryz.ntmps175;go_wp2_with fail;refine (F0.out.Lj (x:=k) (b:=true) H1.out).mono ?_;rintro e w1 ⟨rfl,h1⟩;have F1:=Hi h1;clear h1 F0;go_wp2_with fail;refine (F1.out.Lj (x:=b) (b:=false) H2.out).mono ?_;rintro e w2 ⟨rfl,h1⟩;have F2:=Hi h1;clear h1 F1;go_wp2_with fail;go_ret2;exact F2.out.Ll
theorem ao_3 (w:World) (h:aC w p st S) (hok:st.Ok) (h1:st.has k=true) (h2:st.has b=true) (h3:st.has c=false):Calls Tryz.prog 175 #[vP p 0,vI k,vU n,vI b,vI c] w (BA w S p st 0 1):=by obtain ⟨H1,H2,H3⟩:=ju h1 h2 h3;clear h1 h2 h3;have F0:=Hi (SF.start h hok);clear h hok;go_enter Tryz.func175,Tryz.ntmps175;go_wp2_with fail;refine (F0.out.Lj (x:=k) (b:=true) H1.out).mono ?_;rintro e w1 ⟨rfl,h1⟩;have F1:=Hi h1;clear h1 F0;go_wp2_with fail;refine (F1.out.Lj (x:=b) (b:=true) H2.out).mono ?_;rintro e w2 ⟨rfl,h1⟩;have F2:=Hi h1;clear h1 F1;go_wp2_with fail;refine (F2.out.Lj (x:=c) (b:=false) H3.out).mono ?_;rintro e w3 ⟨rfl,h1⟩;have F3:=Hi h1;clear h1 F2;go_wp2_with fail;go_ret2;exact F3.out.Ll
theorem Wq (w:World) (h:aC w p st S) (hok:st.Ok) (h1:st.has k=true) (h2:st.has b=true) (h3:st.has c=true) (ht:st.at c=t) (e1:(t.k != 10)=true):Calls Tryz.prog 175 #[vP p 0,vI k,vU n,vI b,vI c] w (BA w S p st 0 9):=by exact PW
theorem ao_key (w:World) (h:aC w p st S) (hok:st.Ok) (h1:st.has k=true) (h2:st.has b=true) (h3:st.has c=true) (ht:st.at c=t) (e1:(t.k != 10)=false) (e2:(t.a != k)=true):Calls Tryz.prog 175 #[vP p 0,vI k,vU n,vI b,vI c] w (BA w S p st 0 9):=by exact PW
theorem ao_num (w:World) (h:aC w p st S) (hok:st.Ok) (h1:st.has k=true) (h2:st.has b=true) (h3:st.has c=true) (ht:st.at c=t) (e1:(t.k != 10)=false) (e2:(t.a != k)=false) (e3:((t.n:Int) != (n:Int))=true) (e3':(t.n != n)=true):Calls Tryz.prog 175 #[vP p 0,vI k,vU n,vI b,vI c] w (BA w S p st 0 9):=by exact PW
theorem Nq (w:World) (h:aC w p st S) (hok:st.Ok) (h1:st.has k=true) (h2:st.has b=true) (h3:st.has c=true) (ht:st.at c=t) (e1:(t.k != 10)=false) (e2:(t.a != k)=false) (e3:((t.n:Int) != (n:Int))=false) (e3':(t.n != n)=false) (e4:(t.b != b)=true):Calls Tryz.prog 175 #[vP p 0,vI k,vU n,vI b,vI c] w (BA w S p st 0 9):=by exact PW
theorem ao_ok (w:World) (h:aC w p st S) (hok:st.Ok) (h1:st.has k=true) (h2:st.has b=true) (h3:st.has c=true) (ht:st.at c=t) (e1:(t.k != 10)=false) (e2:(t.a != k)=false) (e3:((t.n:Int) != (n:Int))=false) (e3':(t.n != n)=false) (e4:(t.b != b)=false):Calls Tryz.prog 175 #[vP p 0,vI k,vU n,vI b,vI c] w (BA w S p st t.c 0):=by exact PW
theorem Nr (w:World) (h:aC w p st S) (hok:st.Ok) (hf:af.fZ st k n b c=(x,er)):Calls Tryz.prog 175 #[vP p 0,vI k,vU n,vI b,vI c] w (BA w S p st x er):=by
 unfold af.fZ at hf;by_cases h1:st.has k=true;rotate_left
 ·have h1:st.has k=false:=ML;rw [if_pos (.inl h1)] at hf;obtain ⟨rfl,rfl⟩:=Prod.mk.inj hf;exact ao_1 w h hok h1
 by_cases h2:st.has b=true;rotate_left
 ·have h2:st.has b=false:=V9;rw [if_pos (.inr (.inl h2))] at hf;obtain ⟨rfl,rfl⟩:=Prod.mk.inj hf;exact ao_2 w h hok h1 h2
 by_cases h3:st.has c=true;rotate_left
 ·have h3:st.has c=false:=by simpa using h3
  rw [if_pos (.inr (.inr h3))] at hf;obtain ⟨rfl,rfl⟩:=Prod.mk.inj hf;exact ao_3 w h hok h1 h2 h3
 rw [if_neg (by simp [h1,h2,h3])] at hf;by_cases e1:(st.at c).k=10;rotate_left
 ·rw [if_pos (.inl e1)] at hf;obtain ⟨rfl,rfl⟩:=Prod.mk.inj hf;exact Wq w h hok h1 h2 h3 rfl MW
 by_cases e2:(st.at c).a=k;rotate_left
 ·rw [if_pos (.inr (.inl e2))] at hf;obtain ⟨rfl,rfl⟩:=Prod.mk.inj hf;exact ao_key w h hok h1 h2 h3 rfl MW Qo
 by_cases e3:(st.at c).n=n;rotate_left
 ·rw [if_pos (.inr (.inr (.inl e3)))] at hf;obtain ⟨rfl,rfl⟩:=Prod.mk.inj hf;exact ao_num w h hok h1 h2 h3 rfl MW Qo aR (by simpa using e3)
 by_cases e4:(st.at c).b=b;rotate_left
 ·rw [if_pos (.inr (.inr (.inr e4)))] at hf;obtain ⟨rfl,rfl⟩:=Prod.mk.inj hf;exact Nq w h hok h1 h2 h3 rfl MW Qo aR (by simpa using e3) (by simpa using e4)
 rw [if_neg (by simp [e1,e2,e3,e4])] at hf;obtain ⟨rfl,rfl⟩:=Prod.mk.inj hf;exact ao_ok w h hok h1 h2 h3 rfl MW Qo aR (by simpa using e3) (by simpa using e4)
end Go.Proofs.N0
namespace Go
variable {P:Program} {Q:Exit→Act→World→Prop} {a:Act} {w:World}
def Exit.fwd (P:Program) (l:Nat) (rest:Code) (Q:Exit→Act→World→Prop):Exit→Act→World→Prop
 | .goto l',a,w=>l'=l∧rest.wp P (Exit.noGoto Q) a w
 | e,a,w=>Q e a w
theorem Exit.Ws {l:Nat} {rest:Code} (h:Q .ret a w):Exit.fwd P l rest Q .ret a w:=h
theorem Exit.xB (h:Q .ret a w):Exit.noGoto Q .ret a w:=h
theorem kC {c rest:Code} (l:Nat) (hf:findLabel c l=some rest) (h:c.wp P (Exit.fwd P l rest Q) a w):(Code.scope c).wp P Q a w:=by
 refine wp_scope_jumps l (fun a' w'=>rest.wp P (Exit.noGoto Q) a' w') (fun _ _=>0) hf (Code.wp_mono ?_ h) (fun a w hJ=>Code.wp_mono ?_ hJ)
 ·intro e a w he;cases e<;>exact he
 ·intro e a w he;cases e<;>first|exact he|exact he.elim
end Go
namespace Go.Proofs.N0
open Go.RowKit Go.Maps Go.ChangeMaps
variable {k n1 n2 er n p:Nat} {T:TypeId} {a c d:Value} {b x sl:Int} {st' st:af.Store} {S:List Nat} {y y' z:af.Sym}
section
variable {S:List Nat} {w0 W:World} {p:Nat} {st:af.Store} {L:List (Nat×Obj)}
theorem SF.DV {x:Nat×Obj} {cs:Array Value} (h:SF S w0 W p st (x::(k,.cells cs T (0,0))::L)) (i:Nat) (v:Value):SF S w0 (W.setCell ⟨k,i,none⟩ v) p st (x::(k,.cells (cs.setIfInBounds i v) T (0,0))::L) :=
 (((h.perm (List.Perm.swap _ _ _)).set i v).perm (List.Perm.swap _ _ _))
theorem SF.wu {b:Value} (h:SF S w0 W p st ((k,.cells #[a,b,c,d] T (0,0))::L)) (v0 v1 v2 v3:Value):SF S w0 ((((W.setCell ⟨k,0,none⟩ v0).setCell ⟨k,1,none⟩ v1).setCell ⟨k,2,none⟩ v2).setCell ⟨k,3,none⟩ v3) p st ((k,.cells #[v0,v1,v2,v3] T (0,0))::L) :=
 (((h.set 0 v0).set 1 v1).set 2 v2).set 3 v3
theorem SF.kmix {a:Int} (h:SF S w0 W p st L) (ha:af.Int64 a) (hb:af.Int64 b) (hf:af.fG st a b=(st',n1,n2,er)):Calls Tryz.prog 134 #[vP p 0,vI a,vI b] W fun e w'=>e=.returned (.tuple #[vI n1,vI n2,vI er])∧SF S w0 w' p st' L :=
 h.call (by have:=af.vW h.ok ha hb;rw [hf] at this;exact this) fun S1 hs=>Q7 W hs h.ok ha hb hf
theorem SF.Zf {a c:Int} (h:SF S w0 W p st L) (ha:af.Int64 a) (hb:af.Int64 b) (hc:af.Int64 c) (hk:k<18446744073709551616) (hf:af.gI st a k b c=(st',n,er)):Calls Tryz.prog 112 #[vP p 0,vI a,vU k,vI b,vI c] W fun e w'=>e=.returned (.tuple #[vI n,vI er])∧SF S w0 w' p st' L :=
 h.call (by have:=h.ok.put (t:=⟨10,[],k,a,b,c⟩) (Ir (by omega) (by simp) hk ha hb hc);unfold af.gI at hf;rw [hf] at this;exact this) fun S1 hs=>Ni W hs h.ok ha hb hc hk hf
theorem SF.Zg {k c:Int} (h:SF S w0 W p st L) (hf:af.fZ st k n b c=(x,er)):Calls Tryz.prog 175 #[vP p 0,vI k,vU n,vI b,vI c] W fun e w'=>e=.returned (.tuple #[vI x,vI er])∧SF S w0 w' p st L :=
 h.call h.ok fun S1 hs=>Nr W hs h.ok hf
end
def uX (w:World) (S:List Nat) (p:Nat) (st:af.Store) (y:af.Sym) (er:Nat) (e:Ending) (w':World):Prop:=e=.returned (.tuple #[.agg (eK y),vI er])∧gW w S p st w'
def nU (w:World) (S:List Nat) (p:Nat) (st:af.Store) (y:af.Sym) (x:Int) (er:Nat) (e:Ending) (w':World):Prop:=e=.returned (.tuple #[.agg (eK y),vI x,vI er])∧gW w S p st w'
theorem Q8 (w:World) (h:aC w p st S) (hok:st.Ok) (hy:y.Wf) (hx:af.Int64 x) (hf:af.cJ st y.h x=(st',n,er)) (he:er≠0):Calls Tryz.prog 96 #[.agg (eK y),vP p 0,vI x] w (uX w S p st' af.fj er):=by have e1:((er:Int)==0)=false:=aR;have e2:(er==0)=false:=aR;have e3:((er:Int) != 0)=true:=aR;have F0:=Hi (((SF.start h hok).alloc (cl (eK y) 84)).alloc (cl #[vI 0,vI 0,vI 0,vU 0] 84));simp only [World.size_alloc] at F0;have CH:=Hi (F0.out.B8 hy.h hx hf);clear h hok hf hx hy;go_enter Tryz.func96,Tryz.ntmps96;go_wp2_with fail;refine CH.out.mono ?_;rintro e w1 ⟨rfl,h1⟩;have F1:=Hi h1;clear h1 CH F0;have r:=rl F1.out.mem.rules;go_wp2_with fail;have F2:=Hi (F1.out.wu (vI 0) (vI 0) (vI 0) (vU 0));have r:=rl F2.out.mem.rules;exact bodyPost_ret (v:=.tuple #[.agg #[vI 0,vI 0,vI 0,vU 0],vI er]) (by simp [results,Tryz.results96,go_sem,r]) rfl ⟨rfl,F2.out.to⟩
theorem Q9 (w:World) (h:aC w p st S) (hok:st.Ok) (hy:y.Wf) (hx:af.Int64 x) (hf:af.cJ st y.h x=(st',n,0)):Calls Tryz.prog 96 #[.agg (eK y),vP p 0,vI x] w (uX w S p st' ⟨y.ck,y.k,n,y.n⟩ 0):=by have F0:=Hi (((SF.start h hok).alloc (cl (eK y) 84)).alloc (cl #[vI 0,vI 0,vI 0,vU 0] 84));simp only [World.size_alloc] at F0;have CH:=Hi (F0.out.B8 hy.h hx hf);clear h hok hf hx hy;go_enter Tryz.func96,Tryz.ntmps96;go_wp2_with fail;refine CH.out.mono ?_;rintro e w1 ⟨rfl,h1⟩;have F1:=Hi h1;clear h1 CH F0;have r:=rl F1.out.mem.rules;go_wp2_with fail;have F2:=Hi ((F1.out.DV 2 (vI n)).wu (vI y.ck) (vI y.k) (vI n) (vU y.n));have r:=rl F2.out.mem.rules;exact bodyPost_ret (v:=.tuple #[.agg #[vI y.ck,vI y.k,vI n,vU y.n],vI 0]) (by simp [results,Tryz.results96,go_sem,r]) rfl ⟨rfl,F2.out.to⟩
theorem Ns (w:World) (h:aC w p st S) (hok:st.Ok) (hy:y.Wf) (hx:af.Int64 x) (hf:af.cU st y x=(st',y',er)):Calls Tryz.prog 96 #[.agg (eK y),vP p 0,vI x] w (uX w S p st' y' er):=by
 unfold af.cU at hf;obtain ⟨s1,n1,r1,h1⟩:∃ s1 n1 r1,af.cJ st y.h x=(s1,n1,r1):=⟨_,_,_,rfl⟩
 simp only [h1] at hf;by_cases e1:r1=0
 ·subst e1;simp only [ne_eq,not_true_eq_false,if_false,Prod.mk.injEq] at hf;obtain ⟨rfl,rfl,rfl⟩:=hf;exact Q9 w h hok hy hx h1
 ·simp only [ne_eq,e1,not_false_eq_true,if_true,Prod.mk.injEq] at hf;obtain ⟨rfl,rfl,rfl⟩:=hf;exact Q8 w h hok hy hx h1 e1
theorem Wu (w:World) (h:aC w p st S) (hok:st.Ok) (hy:y.Wf) (hx:af.Int64 x) (hf:af.fG st y.ck x=(st',n1,n2,er)) (he:er≠0):Calls Tryz.prog 98 #[.agg (eK y),vP p 0,vI x] w (uX w S p st' af.fj er):=by have e1:((er:Int)==0)=false:=aR;have e2:(er==0)=false:=aR;have e3:((er:Int) != 0)=true:=aR;have F0:=Hi (((SF.start h hok).alloc (cl (eK y) 84)).alloc (cl #[vI 0,vI 0,vI 0,vU 0] 84));simp only [World.size_alloc] at F0;have CH:=Hi (F0.out.kmix hy.ck hx hf);clear h hok hf hx hy;go_enter Tryz.func98,Tryz.ntmps98;go_wp2_with fail;refine CH.out.mono ?_;rintro e w1 ⟨rfl,h1⟩;have F1:=Hi h1;clear h1 CH F0;have r:=rl F1.out.mem.rules;go_wp2_with fail;have F2:=Hi (F1.out.wu (vI 0) (vI 0) (vI 0) (vU 0));have r:=rl F2.out.mem.rules;exact bodyPost_ret (v:=.tuple #[.agg #[vI 0,vI 0,vI 0,vU 0],vI er]) (by simp [results,Tryz.results98,go_sem,r]) rfl ⟨rfl,F2.out.to⟩
theorem Wv (w:World) (h:aC w p st S) (hok:st.Ok) (hy:y.Wf) (hx:af.Int64 x) (hf:af.fG st y.ck x=(st',n1,n2,0)):Calls Tryz.prog 98 #[.agg (eK y),vP p 0,vI x] w (uX w S p st' ⟨n1,n2,y.h,0⟩ 0):=by have F0:=Hi (((SF.start h hok).alloc (cl (eK y) 84)).alloc (cl #[vI 0,vI 0,vI 0,vU 0] 84));simp only [World.size_alloc] at F0;have CH:=Hi (F0.out.kmix hy.ck hx hf);clear h hok hf hx hy;go_enter Tryz.func98,Tryz.ntmps98;go_wp2_with fail;refine CH.out.mono ?_;rintro e w1 ⟨rfl,h1⟩;have F1:=Hi h1;clear h1 CH F0;have r:=rl F1.out.mem.rules;go_wp2_with fail;have F2:=Hi (F1.out.wu (vI n1) (vI n2) (vI y.h) (vU 0));have r:=rl F2.out.mem.rules;exact bodyPost_ret (v:=.tuple #[.agg #[vI n1,vI n2,vI y.h,vU 0],vI 0]) (by simp [results,Tryz.results98,go_sem,r]) rfl ⟨rfl,F2.out.to⟩
theorem Ra (w:World) (h:aC w p st S) (hok:st.Ok) (hy:y.Wf) (hx:af.Int64 x) (hf:af.jZ st y x=(st',y',er)):Calls Tryz.prog 98 #[.agg (eK y),vP p 0,vI x] w (uX w S p st' y' er):=by
 unfold af.jZ at hf;obtain ⟨s1,n1,n2,r1,h1⟩:∃ s1 n1 n2 r1,af.fG st y.ck x=(s1,n1,n2,r1):=⟨_,_,_,_,rfl⟩
 simp only [h1] at hf;by_cases e1:r1=0
 ·subst e1;simp only [ne_eq,not_true_eq_false,if_false,Prod.mk.injEq] at hf;obtain ⟨rfl,rfl,rfl⟩:=hf;exact Wv w h hok hy hx h1
 ·simp only [ne_eq,e1,not_false_eq_true,if_true,Prod.mk.injEq] at hf;obtain ⟨rfl,rfl,rfl⟩:=hf;exact Wu w h hok hy hx h1 e1
theorem eqSym (m q:af.Sym) (w:World):(Op.equalIn 10000 84 (.agg (eK m)) (.agg (eK q))).run Tryz.prog w=.ok (decide (m=q)) w:=by
 have u1:=Tryz.underlying3;have a1:=Tryz.isAgg3;have z1:=Tryz.sizeOf3;have u2:=Tryz.underlying31;have a2:=Tryz.isAgg31;have z2:=Tryz.sizeOf31;have hS:Tryz.prog.underlying 84=some (.struct (Tryz.prog.fieldsOf 84)):=aI;rw [show (10000:Nat)=9999+1 from rfl,run_equalIn_agg w 9999 84 _ _ hS aI];simp only [Program.fieldsOf,Tryz.underlying84];go_simp;obtain ⟨a,b,c,d⟩:=m;obtain ⟨a',b',c',d'⟩:=q;by_cases h0:a=a';rotate_left
 ·simp [h0]
 subst h0;by_cases h1:b=b';rotate_left
 ·simp [h1]
 subst h1;by_cases h2:c=c';rotate_left
 ·simp [h2]
 subst h2;by_cases h3:d=d';rotate_left
 ·simp [h3];omega
 subst h3;simp
theorem Nt {b:Bool} (hb:y.ready=b) (w:World):Calls Tryz.prog 136 #[.agg (eK y)] w fun e w'=>e=.returned (.bool b)∧Below w.heap.size w w':=by
 obtain ⟨ck,k,h,n⟩:=y;unfold af.Sym.ready at hb;simp only at hb ⊢;have EQ:∀ w,(Op.equalIn 10000 84 (.agg #[vI ck,vI k,vI h,vU n]) (.agg #[vI ck,vI 0,vI h,vU n])).run Tryz.prog w=.ok (decide (k=0)) w:=fun w=>(eqSym ⟨ck,k,h,n⟩ ⟨ck,0,h,n⟩ w).trans aH;have EG:Tryz.prog.eqGuardType Tryz.prog.depth 84=false:=aI;by_cases h0:k=0
 ·subst h0;simp at hb;subst hb;simp only [decide_true] at EQ;go_enter Tryz.func136,Tryz.ntmps136;exact Zn
 ·rw [decide_eq_true (show k≠0 from h0),DK] at hb;have e:decide (k=0)=false:=decide_eq_false h0;rw [e] at EQ;go_enter Tryz.func136,Tryz.ntmps136;go_wp2_with fail;go_ret;refine ⟨gH ?_,(Below.refl _ _).alloc (cC _) _⟩;rw [←hb];exact decide_eq_decide.2 ax
section
variable {S:List Nat} {w0 W:World} {p:Nat} {st:af.Store} {L:List (Nat×Obj)}
theorem SF.Zh {q:Nat×Obj} {b:Value} (h:SF S w0 W p st (q::(k,.cells #[a,b,c,d] T (0,0))::L)) (v0 v1 v2 v3:Value):SF S w0 ((((W.setCell ⟨k,0,none⟩ v0).setCell ⟨k,1,none⟩ v1).setCell ⟨k,2,none⟩ v2).setCell ⟨k,3,none⟩ v3) p st (q::(k,.cells #[v0,v1,v2,v3] T (0,0))::L) :=
 (((h.DV 0 v0).DV 1 v1).DV 2 v2).DV 3 v3
theorem SF.Rb (h:SF S w0 W p st L) (hy:y.Wf) (hx:af.Int64 x) (hf:af.cU st y x=(st',y',er)):Calls Tryz.prog 96 #[.agg (eK y),vP p 0,vI x] W fun e w'=>e=.returned (.tuple #[.agg (eK y'),vI er])∧SF S w0 w' p st' L :=
 h.call (by have:=af.mq (y:=y) h.ok hy.h hx;rw [hf] at this;exact this) fun S1 hs=>Ns W hs h.ok hy hx hf
theorem SF.smix (h:SF S w0 W p st L) (hy:y.Wf) (hx:af.Int64 x) (hf:af.jZ st y x=(st',y',er)):Calls Tryz.prog 98 #[.agg (eK y),vP p 0,vI x] W fun e w'=>e=.returned (.tuple #[.agg (eK y'),vI er])∧SF S w0 w' p st' L :=
 h.call (by have:=af.BP (y:=y) h.ok hy.ck hx;rw [hf] at this;exact this) fun S1 hs=>Ra W hs h.ok hy hx hf
end
theorem Rc (w:World) (h:aC w p st S) (hok:st.Ok) (he:er≠0):Calls Tryz.prog 137 #[.agg (eK y),vP p 0,vI sl,vI x,vI er] w (nU w S p st af.fj 0 er):=by have e1:((er:Int)==0)=false:=aR;have e2:(er==0)=false:=aR;have e3:((er:Int) != 0)=true:=aR;have F0:=Hi ((((SF.start h hok).alloc (cl (eK y) 84)).alloc (cl #[vI 0,vI 0,vI 0,vU 0] 84)).alloc (cl #[vI 0,vI 0,vI 0,vU 0] 84));simp only [World.size_alloc] at F0;clear h hok he;go_enter Tryz.func137,Tryz.ntmps137;go_wp2_with fail;refine kC 0 rfl ?_;go_wp2_with fail;go_step3;refine ⟨rfl,?_⟩;go_wp2_with fail;refine Exit.xB ?_;have r:=rl F0.out.mem.rules;exact bodyPost_ret (v:=.tuple #[.agg #[vI 0,vI 0,vI 0,vU 0],vI 0,vI er]) c928 rfl ⟨rfl,F0.out.to⟩
theorem Ww (w:World) (h:aC w p st S) (hok:st.Ok) (hy:y.Wf) (hx:af.Int64 sl) (hn:y.n<18446744073709551615) (hf:af.cU st ⟨y.ck,y.k,y.h,y.n+1⟩ sl=(st',z,er)) (he:er≠0):Calls Tryz.prog 137 #[.agg (eK y),vP p 0,vI sl,vI x,vI 0] w (nU w S p st' af.fj 0 er):=by have e1:((er:Int)==0)=false:=aR;have e2:(er==0)=false:=aR;have e3:((er:Int) != 0)=true:=aR;have F0:=Hi ((((SF.start h hok).alloc (cl #[vI y.ck,vI y.k,vI y.h,vU (y.n+1:Nat)] 84)).alloc (cl #[vI 0,vI 0,vI 0,vU 0] 84)).alloc (cl #[vI 0,vI 0,vI 0,vU 0] 84));simp only [World.size_alloc] at F0;have CH:=Hi (F0.out.Rb (y:=⟨y.ck,y.k,y.h,y.n+1⟩) ⟨hy.ck,hy.k,hy.h,c94⟩ hx hf);clear h hok hf hx hy;go_enter Tryz.func137,Tryz.ntmps137;go_wp2_with fail;refine kC 0 rfl ?_;go_wp2_with fail;refine CH.out.mono ?_;rintro e w1 ⟨rfl,h1⟩;have F1:=Hi (h1.wu (vI z.ck) (vI z.k) (vI z.h) (vU z.n));clear CH F0;have r:=rl h1.mem.rules;clear h1;go_wp2_with fail;go_step3;go_wp2_with fail;refine Exit.xB ?_;have F2:=Hi (F1.out.Zh (vI 0) (vI 0) (vI 0) (vU 0));have r:=rl F2.out.mem.rules;exact bodyPost_ret (v:=.tuple #[.agg #[vI 0,vI 0,vI 0,vU 0],vI 0,vI er]) c928 rfl ⟨rfl,F2.out.to⟩
theorem Wx (w:World) (h:aC w p st S) (hok:st.Ok) (hy:y.Wf) (hx:af.Int64 sl) (hn:y.n<18446744073709551615) (hf:af.cU st ⟨y.ck,y.k,y.h,y.n+1⟩ sl=(st',z,0)):Calls Tryz.prog 137 #[.agg (eK y),vP p 0,vI sl,vI x,vI 0] w (nU w S p st' z x 0):=by have F0:=Hi ((((SF.start h hok).alloc (cl #[vI y.ck,vI y.k,vI y.h,vU (y.n+1:Nat)] 84)).alloc (cl #[vI 0,vI 0,vI 0,vU 0] 84)).alloc (cl #[vI 0,vI 0,vI 0,vU 0] 84));simp only [World.size_alloc] at F0;have CH:=Hi (F0.out.Rb (y:=⟨y.ck,y.k,y.h,y.n+1⟩) ⟨hy.ck,hy.k,hy.h,c94⟩ hx hf);clear h hok hf hx hy;go_enter Tryz.func137,Tryz.ntmps137;go_wp2_with fail;refine kC 0 rfl ?_;go_wp2_with fail;refine CH.out.mono ?_;rintro e w1 ⟨rfl,h1⟩;have F1:=Hi (h1.wu (vI z.ck) (vI z.k) (vI z.h) (vU z.n));clear CH F0;have r:=rl h1.mem.rules;clear h1;go_wp2_with fail;refine Exit.Ws ?_;have F2:=Hi (F1.out.Zh (vI z.ck) (vI z.k) (vI z.h) (vU z.n));have r:=rl F2.out.mem.rules;exact bodyPost_ret (v:=.tuple #[.agg (eK z),vI x,vI 0]) c928 rfl ⟨rfl,F2.out.to⟩
end Go.Proofs.N0
namespace af
variable {a b c sl x:Int} {er:Nat} {s:List UInt8}
theorem FH {st:Store} {k n:Nat} (h:st.Ok) (ha:Int64 a) (hb:Int64 b) (hc:Int64 c) (hn:n<18446744073709551616):(gI st a n b c).1.Ok:=h.put (iD ax aH hn ha hb hc)
theorem tK {st:Store} {y:Sym} (h:st.Ok) (hy:y.Wf) (hs:Int64 sl):(gU st y sl x er).1.Ok:=by
 unfold gU;split
 ·exact h
 ·split
  ·exact mq h hy.h hs
  ·exact mq h hy.h hs
theorem wA {st:Store} {k:Nat} (h:st.Ok):Int64 (gI st a k b c).2.1:=eC (cY h _)
theorem zx {st:Store} {y:Sym} (h:st.Ok) (hy:y.Wf) (hx:Int64 x):(iQ st y x).1.Ok:=by
 unfold iQ;split
 ·exact h
 ·exact tK (FH (k:=0) h hy.k hy.h hx hy.n) hy (wA h)
theorem zA {st:Store} {y:Sym} (h:st.Ok) (hy:y.Wf) (hx:Int64 x):(iR st y x).1.Ok:=by
 unfold iR;split
 ·exact h
 ·exact tK h hy hx
theorem kD {st:Store} (h:st.Ok) (hs:s.length≤9223372036854775807):(st.aZ s).1.Ok:=h.put (iD ax hs ax aL aL aL)
theorem qB {st:Store} (h:st.Ok) (hs:s.length≤9223372036854775807):(iB st s).1.Ok:=by
 unfold iB;split
 ·exact kD h hs
 ·exact kD h hs
theorem FK {st:Store} {y:Sym} (h:st.Ok) (hy:y.Wf):(iC st y).1.Ok:=by
 unfold iC;split
 ·exact kD h aH
 ·exact vW (kD h aH) hy.ck (eC (cY h _))
theorem zB {st:Store} {y:Sym} (h:st.Ok) (hy:y.Wf):(cU st y x).2.1.Wf:=by
 unfold cU;split
 ·exact kR
 ·exact ⟨hy.ck,hy.k,eC (cY h _),hy.n⟩
theorem zC {st:Store} {t u:Term} (h:st.Ok) (ht:t.Wf):Int64 (st.Dt t u).2.1∧Int64 (st.Dt t u).2.2.1:=by
 unfold Store.Dt;split
 ·exact QN
 ·split
  ·exact QN
  ·exact ⟨eC (cY h _),eC (cY (h.put ht) _)⟩
theorem oT {st:Store} (h:st.Ok) (ha:Int64 a) (hb:Int64 b):Int64 (fG st a b).2.1∧Int64 (fG st a b).2.2.1:=by
 unfold fG;split
 ·exact QN
 ·exact zC (uD h ha hb) (iD ax aH ax (eC (cY h _)) aL aL)
theorem Nu {st:Store} {y:Sym} (h:st.Ok) (hy:y.Wf) (hx:Int64 x):(jZ st y x).2.1.Wf:=by
 unfold jZ;split
 ·exact kR
 ·exact ⟨(oT h hy.ck hx).1,(oT h hy.ck hx).2,hy.h,by show (0:Nat)<_;omega⟩
theorem zD {st:Store} {y:Sym} (h:st.Ok) (hy:y.Wf) (hn:y.n<18446744073709551615):(gU st y sl x er).2.1.Wf:=by
 unfold gU;split
 ·exact kR
 ·split
  ·exact kR
  ·exact zB h ⟨hy.ck,hy.k,hy.h,by show y.n+1<_;omega⟩
theorem uY {y:Sym} (h:y.ready=true):y.n<18446744073709551615:=by unfold Sym.ready at h;rw [gi,decide_eq_true_eq,decide_eq_true_eq] at h;exact h.2
theorem Jd {st:Store} {y:Sym} (h:st.Ok) (hy:y.Wf) (hx:Int64 x):(iQ st y x).2.1.Wf:=by
 unfold iQ;split
 ·exact kR
 ·rename_i hr;exact zD (FH (k:=0) h hy.k hy.h hx hy.n) hy (uY QS)
theorem Je {st:Store} {y:Sym} (h:st.Ok) (hy:y.Wf):(iR st y x).2.1.Wf:=by
 unfold iR;split
 ·exact kR
 ·rename_i hr;exact zD h hy (uY QS)
end af
namespace Go.Proofs.N0
open Go.RowKit Go.Maps Go.ChangeMaps
variable {p er Nv b n a:Nat} {st st':af.Store} {S:List Nat} {y z:af.Sym} {sl x x':Int} {s:List UInt8}
theorem Rf (w:World) (h:aC w p st S) (hok:st.Ok) (hy:y.Wf) (hx:af.Int64 sl) (hn:y.n<18446744073709551615) (hf:af.gU st y sl x er=(st',z,x',Nv)):Calls Tryz.prog 137 #[.agg (eK y),vP p 0,vI sl,vI x,vI er] w (nU w S p st' z x' Nv):=by
 unfold af.gU at hf;by_cases e0:er=0;rotate_left
 ·rw [if_pos e0] at hf;simp only [Prod.mk.injEq] at hf;obtain ⟨rfl,rfl,rfl,rfl⟩:=hf;exact Rc w h hok e0
 subst e0;rw [if_neg aH] at hf;obtain ⟨s1,z1,r1,h1⟩:∃ s1 z1 r1,af.cU st ⟨y.ck,y.k,y.h,y.n+1⟩ sl=(s1,z1,r1):=⟨_,_,_,rfl⟩
 simp only [h1] at hf;by_cases e1:r1=0
 ·subst e1;simp only [ne_eq,not_true_eq_false,if_false,Prod.mk.injEq] at hf;obtain ⟨rfl,rfl,rfl,rfl⟩:=hf;exact Wx w h hok hy hx hn h1
 ·simp only [ne_eq,e1,not_false_eq_true,if_true,Prod.mk.injEq] at hf;obtain ⟨rfl,rfl,rfl,rfl⟩:=hf;exact Ww w h hok hy hx hn h1 e1
section
variable {S:List Nat} {w0 W:World} {p:Nat} {st:af.Store} {L:List (Nat×Obj)}
theorem SF.said (h:SF S w0 W p st L) (hy:y.Wf) (hx:af.Int64 sl) (hn:y.n<18446744073709551615) (hf:af.gU st y sl x er=(st',z,x',Nv)):Calls Tryz.prog 137 #[.agg (eK y),vP p 0,vI sl,vI x,vI er] W fun e w'=>e=.returned (.tuple #[.agg (eK z),vI x',vI Nv])∧SF S w0 w' p st' L :=
 h.call (by have:=af.tK (x:=x) (er:=er) h.ok hy hx;rw [hf] at this;exact this) fun S1 hs=>Rf W hs h.ok hy hx hn hf
theorem SF.ready {b:Bool} (h:SF S w0 W p st L) (hb:y.ready=b):Calls Tryz.prog 136 #[.agg (eK y)] W fun e w'=>e=.returned (.bool b)∧SF S w0 w' p st L:=by refine (Nt hb W).mono ?_;exact aaf
end
theorem Wy (w:World) (h:aC w p st S) (hok:st.Ok) (hy:y.Wf) (hx:af.Int64 x) (hr:y.ready=false):Calls Tryz.prog 101 #[.agg (eK y),vP p 0,vI x] w (nU w S p st af.fj 0 7):=by have F0:=Hi (((SF.start h hok).alloc (cl (eK y) 84)).alloc (cl #[vI 0,vI 0,vI 0,vU 0] 84));simp only [World.size_alloc] at F0;have CR:=Hi (F0.out.ready (y:=y) (b:=false) hr);obtain ⟨HX,HY,HR⟩:=ju hx hy hr;clear h hok hx hy hr;go_enter Tryz.func101,Tryz.ntmps101;go_wp2_with fail;refine CR.out.mono ?_;rintro e w1 ⟨rfl,h1⟩;have F1:=Hi h1;clear h1 CR F0;have r:=rl F1.out.mem.rules;go_wp2_with fail;have F2:=Hi (F1.out.wu (vI 0) (vI 0) (vI 0) (vU 0));have r:=rl F2.out.mem.rules;exact bodyPost_ret (v:=.tuple #[.agg #[vI 0,vI 0,vI 0,vU 0],vI 0,vI 7]) c930 rfl ⟨rfl,F2.out.to⟩
theorem Rg {bO:af.Store} (w:World) (h:aC w p st S) (hok:st.Ok) (hy:y.Wf) (hx:af.Int64 x) (hr:y.ready=true) (hf:af.gI st y.k y.n y.h x=(bO,n,er)) (hg:af.gU bO y n n er=(st',z,x',Nv)):Calls Tryz.prog 101 #[.agg (eK y),vP p 0,vI x] w (nU w S p st' z x' Nv):=by obtain ⟨HF,HG⟩:=hi2 hf hg;have HN:=Hi (show af.Int64 n by have:=af.wA (k:=y.n) (a:=y.k) (b:=y.h) (c:=x) hok;rw [hf] at this;exact this);clear hf hg;have F0:=Hi (((SF.start h hok).alloc (cl (eK y) 84)).alloc (cl #[vI 0,vI 0,vI 0,vU 0] 84));simp only [World.size_alloc] at F0;have CR:=Hi (F0.out.ready (y:=y) (b:=true) hr);obtain ⟨HX,HY,HR⟩:=ju hx hy hr;clear h hok hx hy hr;go_enter Tryz.func101,Tryz.ntmps101;go_wp2_with fail;refine CR.out.mono ?_;rintro e w1 ⟨rfl,h1⟩;have F1:=Hi h1;clear h1 CR F0;have r:=rl F1.out.mem.rules;go_wp2_with fail;refine (F1.out.Zf HY.out.k HY.out.h HX.out HY.out.n HF.out).mono ?_;rintro e w2 ⟨rfl,h1⟩;have F2:=Hi h1;clear h1 F1 r;have r:=rl F2.out.mem.rules;go_wp2_with fail;refine (F2.out.said HY.out HN.out (af.uY HR.out) HG.out).mono ?_;rintro e w3 ⟨rfl,h1⟩;have F3:=Hi (h1.wu (vI z.ck) (vI z.k) (vI z.h) (vU z.n));clear F2 r;have r:=rl h1.mem.rules;clear h1;go_wp2_with fail;clear r;have r:=rl F3.out.mem.rules;exact bodyPost_ret (v:=.tuple #[.agg (eK z),vI x',vI Nv]) c930 rfl ⟨rfl,F3.out.to⟩
theorem Rh (w:World) (h:aC w p st S) (hok:st.Ok) (hy:y.Wf) (hx:af.Int64 x) (hf:af.iQ st y x=(st',z,x',er)):Calls Tryz.prog 101 #[.agg (eK y),vP p 0,vI x] w (nU w S p st' z x' er):=by
 unfold af.iQ at hf;by_cases hr:y.ready=true
 ·rw [if_neg (by simp [hr])] at hf;exact Rg w h hok hy hx hr rfl hf
 ·have hr:y.ready=false:=QS;rw [if_pos hr] at hf;simp only [Prod.mk.injEq] at hf;obtain ⟨rfl,rfl,rfl,rfl⟩:=hf;exact Wy w h hok hy hx hr
theorem WA (w:World) (h:aC w p st S) (hok:st.Ok) (hy:y.Wf) (hx:af.Int64 x) (hr:y.ready=false):Calls Tryz.prog 168 #[.agg (eK y),vP p 0,vI x] w (nU w S p st af.fj 0 7):=by have F0:=Hi (((SF.start h hok).alloc (cl (eK y) 84)).alloc (cl #[vI 0,vI 0,vI 0,vU 0] 84));simp only [World.size_alloc] at F0;have CR:=Hi (F0.out.ready (y:=y) (b:=false) hr);obtain ⟨HX,HY,HR⟩:=ju hx hy hr;clear h hok hx hy hr;go_enter Tryz.func168,Tryz.ntmps168;go_wp2_with fail;refine CR.out.mono ?_;rintro e w1 ⟨rfl,h1⟩;have F1:=Hi h1;clear h1 CR F0;have r:=rl F1.out.mem.rules;go_wp2_with fail;have F2:=Hi (F1.out.wu (vI 0) (vI 0) (vI 0) (vU 0));have r:=rl F2.out.mem.rules;exact bodyPost_ret (v:=.tuple #[.agg #[vI 0,vI 0,vI 0,vU 0],vI 0,vI 7]) c931 rfl ⟨rfl,F2.out.to⟩
theorem Ri {x1:Int} (w:World) (h:aC w p st S) (hok:st.Ok) (hy:y.Wf) (hx:af.Int64 x) (hr:y.ready=true) (hf:af.fZ st y.k y.n y.h x=(x1,er)) (hg:af.gU st y x x1 er=(st',z,x',Nv)):Calls Tryz.prog 168 #[.agg (eK y),vP p 0,vI x] w (nU w S p st' z x' Nv):=by obtain ⟨HF,HG⟩:=hi2 hf hg;clear hf hg;have F0:=Hi (((SF.start h hok).alloc (cl (eK y) 84)).alloc (cl #[vI 0,vI 0,vI 0,vU 0] 84));simp only [World.size_alloc] at F0;have CR:=Hi (F0.out.ready (y:=y) (b:=true) hr);obtain ⟨HX,HY,HR⟩:=ju hx hy hr;clear h hok hx hy hr;go_enter Tryz.func168,Tryz.ntmps168;go_wp2_with fail;refine CR.out.mono ?_;rintro e w1 ⟨rfl,h1⟩;have F1:=Hi h1;clear h1 CR F0;have r:=rl F1.out.mem.rules;go_wp2_with fail;refine (F1.out.Zg HF.out).mono ?_;rintro e w2 ⟨rfl,h1⟩;have F2:=Hi h1;clear h1 F1 r;have r:=rl F2.out.mem.rules;go_wp2_with fail;refine (F2.out.said HY.out HX.out (af.uY HR.out) HG.out).mono ?_;rintro e w3 ⟨rfl,h1⟩;have F3:=Hi (h1.wu (vI z.ck) (vI z.k) (vI z.h) (vU z.n));clear F2 r;have r:=rl h1.mem.rules;clear h1;go_wp2_with fail;clear r;have r:=rl F3.out.mem.rules;exact bodyPost_ret (v:=.tuple #[.agg (eK z),vI x',vI Nv]) c931 rfl ⟨rfl,F3.out.to⟩
theorem Nw (w:World) (h:aC w p st S) (hok:st.Ok) (hy:y.Wf) (hx:af.Int64 x) (hf:af.iR st y x=(st',z,x',er)):Calls Tryz.prog 168 #[.agg (eK y),vP p 0,vI x] w (nU w S p st' z x' er):=by
 unfold af.iR at hf;by_cases hr:y.ready=true
 ·rw [if_neg (by simp [hr])] at hf;exact Ri w h hok hy hx hr rfl hf
 ·have hr:y.ready=false:=QS;rw [if_pos hr] at hf;simp only [Prod.mk.injEq] at hf;obtain ⟨rfl,rfl,rfl,rfl⟩:=hf;exact WA w h hok hy hx hr
theorem Nx (w:World) (h:aC w p st S) (hok:st.Ok) (hs:s.length≤9223372036854775807) (hf:st.aZ s=(st',n,er)) (he:er≠0):Calls Tryz.prog 94 #[vP p 0,vS s] w (uX w S p st' af.fj er):=by have e1:((er:Int)==0)=false:=aR;have e2:(er==0)=false:=aR;have e3:((er:Int) != 0)=true:=aR;have F0:=Hi ((SF.start h hok).alloc (cl #[vI 0,vI 0,vI 0,vU 0] 84));have CP:=Hi (F0.out.put (t:=⟨1,s,0,0,0,0⟩) (af.iD ax hs ax af.aL af.aL af.aL) hf);clear h hok hf hs he;go_enter Tryz.func94,Tryz.ntmps94;go_wp2_with fail;refine CP.out.mono ?_;rintro e w1 ⟨rfl,h1⟩;have F1:=Hi (h1.wu (vI 0) (vI 0) (vI 0) (vU 0));have r:=rl h1.mem.rules;clear h1 CP F0;go_wp2_with fail;clear r;have r:=rl F1.out.mem.rules;exact bodyPost_ret (v:=.tuple #[.agg #[vI 0,vI 0,vI 0,vU 0],vI er]) (by simp [results,Tryz.results94,go_sem,r]) rfl ⟨rfl,F1.out.to⟩
theorem Ny (w:World) (h:aC w p st S) (hok:st.Ok) (hs:s.length≤9223372036854775807) (hf:st.aZ s=(st',n,0)):Calls Tryz.prog 94 #[vP p 0,vS s] w (uX w S p st' ⟨n,0,n,0⟩ 0):=by have F0:=Hi ((SF.start h hok).alloc (cl #[vI 0,vI 0,vI 0,vU 0] 84));have CP:=Hi (F0.out.put (t:=⟨1,s,0,0,0,0⟩) (af.iD ax hs ax af.aL af.aL af.aL) hf);clear h hok hf hs;go_enter Tryz.func94,Tryz.ntmps94;go_wp2_with fail;refine CP.out.mono ?_;rintro e w1 ⟨rfl,h1⟩;have F1:=Hi (h1.wu (vI n) (vI 0) (vI n) (vU 0));have r:=rl h1.mem.rules;clear h1 CP F0;go_wp2_with fail;clear r;have r:=rl F1.out.mem.rules;exact bodyPost_ret (v:=.tuple #[.agg #[vI n,vI 0,vI n,vU 0],vI 0]) (by simp [results,Tryz.results94,go_sem,r]) rfl ⟨rfl,F1.out.to⟩
theorem Jf (w:World) (h:aC w p st S) (hok:st.Ok) (hs:s.length≤9223372036854775807) (hf:af.iB st s=(st',y,er)):Calls Tryz.prog 94 #[vP p 0,vS s] w (uX w S p st' y er):=by
 unfold af.iB at hf;obtain ⟨s1,n1,r1,h1⟩:∃ s1 n1 r1,st.aZ s=(s1,n1,r1):=⟨_,_,_,rfl⟩
 simp only [h1] at hf;by_cases e1:r1=0
 ·subst e1;simp only [ne_eq,not_true_eq_false,if_false,Prod.mk.injEq] at hf;obtain ⟨rfl,rfl,rfl⟩:=hf;exact Ny w h hok hs h1
 ·simp only [ne_eq,e1,not_false_eq_true,if_true,Prod.mk.injEq] at hf;obtain ⟨rfl,rfl,rfl⟩:=hf;exact Nx w h hok hs h1 e1
theorem Nz (w:World) (h:aC w p st S) (hok:st.Ok) (hf:st.aZ []=(st',n,er)) (he:er≠0):Calls Tryz.prog 169 #[.agg (eK y),vP p 0] w (jb w S p st' 0 0 er):=by have e1:((er:Int)==0)=false:=aR;have e2:(er==0)=false:=aR;have e3:((er:Int) != 0)=true:=aR;clear he;have F0:=Hi ((SF.start h hok).alloc (cl (eK y) 84));have CP:=Hi (F0.out.put (t:=⟨1,[],0,0,0,0⟩) (af.iD ax aH ax af.aL af.aL af.aL) hf);clear h hok hf;go_enter Tryz.func169,Tryz.ntmps169;go_wp2_with fail;refine CP.out.mono ?_;rintro e w1 ⟨rfl,h1⟩;have F1:=Hi h1;clear h1 CP F0;have r:=rl F1.out.mem.rules;go_wp2_with fail;go_ret3;exact F1.out.uU
theorem NA {uV:af.Store} (w:World) (h:aC w p st S) (hok:st.Ok) (hy:y.Wf) (hf:st.aZ []=(st',n,0)) (hg:af.fG st' y.ck n=(uV,a,b,er)):Calls Tryz.prog 169 #[.agg (eK y),vP p 0] w (jb w S p uV a b er):=by have HN:=Hi (lI hok hf);obtain ⟨HY,HG⟩:=hi2 hy hg;clear hy hg;have F0:=Hi ((SF.start h hok).alloc (cl (eK y) 84));have CP:=Hi (F0.out.put (t:=⟨1,[],0,0,0,0⟩) (af.iD ax aH ax af.aL af.aL af.aL) hf);clear h hok hf;go_enter Tryz.func169,Tryz.ntmps169;go_wp2_with fail;refine CP.out.mono ?_;rintro e w1 ⟨rfl,h1⟩;have F1:=Hi h1;clear h1 CP F0;have r:=rl F1.out.mem.rules;go_wp2_with fail;refine (F1.out.kmix HY.out.ck HN.out HG.out).mono ?_;rintro e w2 ⟨rfl,h1⟩;have F2:=Hi h1;clear h1 F1 r;go_wp2_with fail;go_ret3;exact F2.out.uU
theorem Jg (w:World) (h:aC w p st S) (hok:st.Ok) (hy:y.Wf) (hf:af.iC st y=(st',a,b,er)):Calls Tryz.prog 169 #[.agg (eK y),vP p 0] w (jb w S p st' a b er):=by
 unfold af.iC at hf;obtain ⟨s1,n1,r1,h1⟩:∃ s1 n1 r1,st.aZ []=(s1,n1,r1):=⟨_,_,_,rfl⟩
 simp only [h1] at hf;by_cases e1:r1=0
 ·subst e1;rw [if_neg aH] at hf;exact NA w h hok hy h1 hf
 ·rw [if_pos e1] at hf;simp only [Prod.mk.injEq] at hf;obtain ⟨rfl,rfl,rfl,rfl⟩:=hf;exact Nz w h hok h1 e1
end Go.Proofs.N0
namespace Go
open Go.RowKit Go.Proofs.N0
def CallK (A:Act) (R:World→Prop) (a':Act) (y:World):Prop:=a'=A∧R y
theorem mJ {P:Program} {Q:Exit→Act→World→Prop} {K:Act→World→Prop} {A:Act} {o:Oper} {a:Act} {x:World} (R:World→Prop) (hk:∀ y,R y→K A y) (h:o.wp P a x (CallK A R) Q):o.wp P a x K Q :=
 Oper.wp_mono (by rintro a' y ⟨rfl,hy⟩;exact hk y hy) h
end Go
namespace Go.Proofs.N0
open Go.RowKit Go.Maps Go.ChangeMaps
variable {W:World} {t p er:Nat} {y:af.Sym}
def aA (p:Nat) (y:af.Sym):Obj:=cl (ko p y) 159
def bI (er:Nat):List PanicEntry:=[{v:=.iface 227 (.agg #[vI er]),recovered:=false}]
def jA (S:List Nat) (w0:World) (p:Nat) (st st':af.Store) (LB:List (Nat×Obj)) (T:TypeId) (z c:Array Value) (bc ba bs:Bool) (va:Value) (x:World):Prop :=
 ∃ G,SF S w0 x p (if bc=true then st' else st) (if ba=true then (G,.cells (if bs=true then c else z) T (0,0))::LB else LB)∧(ba=true→va=vP G 0)∧(bs=true→ba=true)
section
variable {S:List Nat} {w0 x y:World} {p:Nat} {st st':af.Store} {LB:List (Nat×Obj)} {T:TypeId} {z c:Array Value} {bc ba bs:Bool} {va:Value}
theorem jA.later (h:jA S w0 p st st' LB T z c bc ba bs va x) (hb:Below x.heap.size x y):jA S w0 p st st' LB T z c bc ba bs va y:=by obtain ⟨G,h1,h2,h3⟩:=h;exact ⟨G,h1.later hb,h2,h3⟩
theorem jA.start (h:SF S w0 W p st LB):jA S w0 p st st' LB T z c false false false va W.drew:=⟨0,h.later (Below.refl _ _).drew,fun h=>absurd h aH,fun h=>absurd h aH⟩
theorem jA.blk (h:jA S w0 p st st' LB T z c bc ba bs va x) {k:Nat} {o:Obj} (hk:(k,o)∈LB):x.heap[k]?=some o:=by
 obtain ⟨G,h1,_⟩:=h;refine (h1.blk (k,o) ?_).1;split
 ·exact xY _ hk
 ·exact hk
theorem jA.sf (h:jA S w0 p st st' LB T z c false ba bs va x):∃ L',SF S w0 x p st L'∧∀ y,SF S w0 y p st' L'→jA S w0 p st st' LB T z c true ba bs va y:=by obtain ⟨G,h1,h2,h3⟩:=h;exact ⟨_,h1,fun y hy=>⟨G,hy,h2,h3⟩⟩
theorem jA.alloc (h:jA S w0 p st st' LB T z c bc false false va x):jA S w0 p st st' LB T z c bc true false (vP x.heap.size 0) (x.alloc (.cells z T)):=by obtain ⟨G,h1,h2,h3⟩:=h;exact ⟨x.heap.size,h1.alloc _,fun _=>rfl,fun h=>absurd h aH⟩
theorem jA.sto {a b d e v0 v1 v2 v3:Value} {G:Nat} (h:jA S w0 p st st' LB T #[a,b,d,e] #[v0,v1,v2,v3] bc true false va x) (hv:va=vP G 0) :
 jA S w0 p st st' LB T #[a,b,d,e] #[v0,v1,v2,v3] bc true true va ((((x.setCell ⟨G,0,none⟩ v0).setCell ⟨G,1,none⟩ v1).setCell ⟨G,2,none⟩ v2).setCell ⟨G,3,none⟩ v3):=by
 obtain ⟨G',h1,h2,_⟩:=h
 have e:=h2 rfl
 rw [hv] at e
 cases e
 exact ⟨G,SF.wu h1 v0 v1 v2 v3,fun _=>hv,fun _=>rfl⟩
theorem jA.congr {va':Value} (h:jA S w0 p st st' LB T z c bc ba bs va x) (e:ba=true→va=va'):jA S w0 p st st' LB T z c bc ba bs va' x:=by obtain ⟨G,h1,h2,h3⟩:=h;exact ⟨G,h1,fun hb=>(e hb).symm.trans (h2 hb),h3⟩
end
theorem Jh (h:W.heap[t]?=some (aA p y)) (z:Later W):(z.world.cell? ⟨t,0,none⟩=some (vP p 0)∧z.world.cell? ⟨t,1,none⟩=some (vI y.ck)∧z.world.cell? ⟨t,2,none⟩=some (vI y.k)∧z.world.cell? ⟨t,3,none⟩=some (vI y.h)∧z.world.cell? ⟨t,4,none⟩=some (vU y.n)) ∧
 z.world.frozen? ⟨t,1,none⟩=false∧z.world.frozen? ⟨t,2,none⟩=false∧z.world.frozen? ⟨t,3,none⟩=false∧z.world.frozen? ⟨t,4,none⟩=false:=by
 have:=(z.below.block t (lt_of_block h)).trans h
 simp [World.cell?,World.frozen?,this,aA]
theorem dO (h:W.heap[t]?=some (aA p y)):(W.cell? ⟨t,0,none⟩=some (vP p 0)∧W.cell? ⟨t,1,none⟩=some (vI y.ck)∧W.cell? ⟨t,2,none⟩=some (vI y.k)∧W.cell? ⟨t,3,none⟩=some (vI y.h)∧W.cell? ⟨t,4,none⟩=some (vU y.n)) ∧
 W.frozen? ⟨t,1,none⟩=false∧W.frozen? ⟨t,2,none⟩=false∧W.frozen? ⟨t,3,none⟩=false∧W.frozen? ⟨t,4,none⟩=false:=Jh h ⟨W,Below.refl _ _⟩
theorem jy (w:World):Calls Tryz.prog 93 #[vI 0] w fun e w'=>e=.returned (.tuple #[])∧w=w':=by go_enter Tryz.func93,Tryz.ntmps93;go_wp2_with fail;go_end0;exact ⟨rfl,rfl⟩
theorem jz (he:er≠0) (w:World):Calls Tryz.prog 93 #[vI er] w fun e w'=>e=.panicked (bI er)∧w=w':=by have e1:((er:Int)==0)=false:=aR;have e2:(er==0)=false:=aR;go_enter Tryz.func93,Tryz.ntmps93;go_wp2_with fail;exact ⟨rfl,rfl,rfl⟩
theorem jB {er:Int} (w:World):Calls Tryz.prog 55 #[.bool true,vI er] w fun e w'=>e=.returned (.tuple #[])∧w=w':=by go_enter Tryz.func55,Tryz.ntmps55;go_wp2_with fail;go_end0;exact ⟨rfl,rfl⟩
theorem iW (he:er≠0) (w:World):Calls Tryz.prog 55 #[.bool false,vI er] w fun e w'=>e=.panicked (bI er)∧w=w':=by go_enter Tryz.func55,Tryz.ntmps55;go_wp2_with fail;refine (jz he _).mono ?_;rintro e w1 ⟨rfl,rfl⟩;exact ⟨rfl,rfl,rfl⟩
end Go.Proofs.N0
namespace Go.Proofs.N0
open Go.RowKit Go.Maps Go.ChangeMaps
variable {y z:af.Sym} {x x':Int} {er:Nat} {st':af.Store}
section
variable {S:List Nat} {w0 W:World} {p t:Nat} {st st':af.Store} {L L0:List (Nat×Obj)} {y z:af.Sym} {x x':Int} {er:Nat}
theorem SF.sseal (h:SF S w0 W p st L) (hy:y.Wf) (hx:af.Int64 x) (hf:af.iQ st y x=(st',z,x',er)):Calls Tryz.prog 101 #[.agg (eK y),vP p 0,vI x] W fun e w'=>e=.returned (.tuple #[.agg (eK z),vI x',vI er])∧SF S w0 w' p st' L :=
 h.call (by have:=af.zx h.ok hy hx;rw [hf] at this;exact this) fun S1 hs=>Rh W hs h.ok hy hx hf
theorem SF.sopen (h:SF S w0 W p st L) (hy:y.Wf) (hx:af.Int64 x) (hf:af.iR st y x=(st',z,x',er)):Calls Tryz.prog 168 #[.agg (eK y),vP p 0,vI x] W fun e w'=>e=.returned (.tuple #[.agg (eK z),vI x',vI er])∧SF S w0 w' p st' L :=
 h.call (by have:=af.zA h.ok hy hx;rw [hf] at this;exact this) fun S1 hs=>Nw W hs h.ok hy hx hf
theorem SF.ssplit {a b:Nat} (h:SF S w0 W p st L) (hy:y.Wf) (hf:af.iC st y=(st',a,b,er)):Calls Tryz.prog 169 #[.agg (eK y),vP p 0] W fun e w'=>e=.returned (.tuple #[vI a,vI b,vI er])∧SF S w0 w' p st' L :=
 h.call (by have:=af.FK (y:=y) h.ok hy;rw [hf] at this;exact this) fun S1 hs=>Jg W hs h.ok hy hf
theorem B9 (h:SF S w0 W p st ((t,aA p y)::L0)) (hy:y.Wf) (hx:af.Int64 x) (hf:af.cU st y x=(st',z,er)):Calls Tryz.prog 58 #[vP t 0,vI x] W fun e w'=>(er=0→e=.returned (.tuple #[])∧SF S w0 w' p st' ((t,aA p z)::L0))∧(er≠0→e=.panicked (bI er)∧SF S w0 w' p st' ((t,aA p y)::L0)):=by
 have h:=h.nf;unfold aA at h ⊢;have F0:=Hi h;have HF:=Hi hf;obtain ⟨HY,HX⟩:=hi2 hy hx;clear hy hx;clear h hf;go_enter Tryz.func58,Tryz.ntmps58;go_wp2_with fail;refine sk (n:=25) [9,14] [13] (tb [vP t 0,vP t 0,vP t 1,some (.agg (eK y)),vP t 0,vP t 0,vP t 0,vP p 0,vI x,some (.tuple #[.agg (eK z),vI er]),some (.tuple #[.agg (eK z),vI er]),some (.agg (eK z)),vI er,none,none,vI er]) [(t,cl (ko p y) 159)] (L0) [([(13,cl #[vI 0,vI 0,vI 0,vU 0] 84)],[ah p st],[]),
  ([(13,cl #[vI 0,vI 0,vI 0,vU 0] 84)],[ah p st'],[]),
  ([(13,cl (eK z) 84)],[ah p st'],[])] (F0.out) ⟨sP,sP,sP,sP,sP,sP,sP,sP,sP,?_,sP,sP,sP,sA 1 (cl #[vI 0,vI 0,vI 0,vU 0] 84),Y2,sP,trivial⟩ ?_
 ·refine wC ?_;intro D v qq x h0;exact mo (h0.gL fun S1 hs=>hs.Rb HY.out HX.out HF.out)
 ·exact a937
theorem zE (h:SF S w0 W p st ((t,aA p y)::L0)) (hy:y.Wf) (hx:af.Int64 x) (hf:af.cU st y x=(st',z,0)):Calls Tryz.prog 58 #[vP t 0,vI x] W fun e w'=>e=.returned (.tuple #[])∧SF S w0 w' p st' ((t,aA p z)::L0):=(B9 h hy hx hf).mono fun _ _ g=>g.1 rfl
theorem FL (h:SF S w0 W p st ((t,aA p y)::L0)) (hy:y.Wf) (hx:af.Int64 x) (hf:af.cU st y x=(st',z,er)) (he:er≠0):Calls Tryz.prog 58 #[vP t 0,vI x] W fun e w'=>e=.panicked (bI er)∧SF S w0 w' p st' ((t,aA p y)::L0):=(B9 h hy hx hf).mono fun _ _ g=>g.2 he
theorem FM (h:SF S w0 W p st ((t,aA p y)::L0)) (hy:y.Wf) (hx:af.Int64 x) (hf:af.jZ st y x=(st',z,er)):Calls Tryz.prog 60 #[vP t 0,vI x] W fun e w'=>(er=0→e=.returned (.tuple #[])∧SF S w0 w' p st' ((t,aA p z)::L0))∧(er≠0→e=.panicked (bI er)∧SF S w0 w' p st' ((t,aA p y)::L0)):=by
 have h:=h.nf;unfold aA at h ⊢;have F0:=Hi h;have HF:=Hi hf;obtain ⟨HY,HX⟩:=hi2 hy hx;clear hy hx;clear h hf;go_enter Tryz.func60,Tryz.ntmps60;go_wp2_with fail;refine sk (n:=25) [9,14] [13] (tb [vP t 0,vP t 0,vP t 1,some (.agg (eK y)),vP t 0,vP t 0,vP t 0,vP p 0,vI x,some (.tuple #[.agg (eK z),vI er]),some (.tuple #[.agg (eK z),vI er]),some (.agg (eK z)),vI er,none,none,vI er]) [(t,cl (ko p y) 159)] (L0) [([(13,cl #[vI 0,vI 0,vI 0,vU 0] 84)],[ah p st],[]),
  ([(13,cl #[vI 0,vI 0,vI 0,vU 0] 84)],[ah p st'],[]),
  ([(13,cl (eK z) 84)],[ah p st'],[])] (F0.out) ⟨sP,sP,sP,sP,sP,sP,sP,sP,sP,?_,sP,sP,sP,sA 1 (cl #[vI 0,vI 0,vI 0,vU 0] 84),Y2,sP,trivial⟩ ?_
 ·refine wC ?_;intro D v qq x h0;exact mo (h0.gL fun S1 hs=>hs.smix HY.out HX.out HF.out)
 ·exact a937
theorem Lp (h:SF S w0 W p st ((t,aA p y)::L0)) (hy:y.Wf) (hx:af.Int64 x) (hf:af.jZ st y x=(st',z,0)):Calls Tryz.prog 60 #[vP t 0,vI x] W fun e w'=>e=.returned (.tuple #[])∧SF S w0 w' p st' ((t,aA p z)::L0):=(FM h hy hx hf).mono fun _ _ g=>g.1 rfl
theorem Lr (h:SF S w0 W p st ((t,aA p y)::L0)) (hy:y.Wf) (hx:af.Int64 x) (hf:af.jZ st y x=(st',z,er)) (he:er≠0):Calls Tryz.prog 60 #[vP t 0,vI x] W fun e w'=>e=.panicked (bI er)∧SF S w0 w' p st' ((t,aA p y)::L0):=(FM h hy hx hf).mono fun _ _ g=>g.2 he
theorem Ca (h:SF S w0 W p st ((t,aA p y)::L0)) (hy:y.Wf) (hx:af.Int64 x) (hf:af.iQ st y x=(st',z,x',er)):Calls Tryz.prog 63 #[vP t 0,vI x] W fun e w'=>(er=0→e=.returned (vI x')∧SF S w0 w' p st' ((t,aA p z)::L0))∧(er≠0→e=.panicked (bI er)∧SF S w0 w' p st' ((t,aA p y)::L0)):=by
 have h:=h.nf;unfold aA at h ⊢;have F0:=Hi h;have HF:=Hi hf;obtain ⟨HY,HX⟩:=hi2 hy hx;clear hy hx;clear h hf;go_enter Tryz.func63,Tryz.ntmps63;go_wp2_with fail;refine sk (n:=29) [9,15] [14] (tb [vP t 0,vP t 0,vP t 1,some (.agg (eK y)),vP t 0,vP t 0,vP t 0,vP p 0,vI x,some (.tuple #[.agg (eK z),vI x',vI er]),some (.tuple #[.agg (eK z),vI x',vI er]),some (.agg (eK z)),vI x',vI er,none,none,vI x',vI er]) [(t,cl (ko p y) 159)] (L0) [([(14,cl #[vI 0,vI 0,vI 0,vU 0] 84)],[ah p st],[]),
  ([(14,cl #[vI 0,vI 0,vI 0,vU 0] 84)],[ah p st'],[]),
  ([(14,cl (eK z) 84)],[ah p st'],[])] (F0.out) ⟨sP,sP,sP,sP,sP,sP,sP,sP,sP,?_,sP,sP,sP,sP,sA 1 (cl #[vI 0,vI 0,vI 0,vU 0] 84),Y2,sP,sP,trivial⟩ ?_
 ·refine wC ?_;intro D v qq x h0;exact mo (h0.gL fun S1 hs=>hs.sseal HY.out HX.out HF.out)
 ·exact a935
theorem Rj (h:SF S w0 W p st ((t,aA p y)::L0)) (hy:y.Wf) (hx:af.Int64 x) (hf:af.iQ st y x=(st',z,x',0)):Calls Tryz.prog 63 #[vP t 0,vI x] W fun e w'=>e=.returned (vI x')∧SF S w0 w' p st' ((t,aA p z)::L0):=(Ca h hy hx hf).mono fun _ _ g=>g.1 rfl
theorem Rk (h:SF S w0 W p st ((t,aA p y)::L0)) (hy:y.Wf) (hx:af.Int64 x) (hf:af.iQ st y x=(st',z,x',er)) (he:er≠0):Calls Tryz.prog 63 #[vP t 0,vI x] W fun e w'=>e=.panicked (bI er)∧SF S w0 w' p st' ((t,aA p y)::L0):=(Ca h hy hx hf).mono fun _ _ g=>g.2 he
theorem Cb (h:SF S w0 W p st ((t,aA p y)::L0)) (hy:y.Wf) (hx:af.Int64 x) (hf:af.iR st y x=(st',z,x',er)):Calls Tryz.prog 141 #[vP t 0,vI x] W fun e w'=>(er=0→e=.returned (vI x')∧SF S w0 w' p st' ((t,aA p z)::L0))∧(er≠0→e=.panicked (bI er)∧SF S w0 w' p st' ((t,aA p y)::L0)):=by
 have h:=h.nf;unfold aA at h ⊢;have F0:=Hi h;have HF:=Hi hf;obtain ⟨HY,HX⟩:=hi2 hy hx;clear hy hx;clear h hf;go_enter Tryz.func141,Tryz.ntmps141;go_wp2_with fail;refine sk (n:=29) [9,15] [14] (tb [vP t 0,vP t 0,vP t 1,some (.agg (eK y)),vP t 0,vP t 0,vP t 0,vP p 0,vI x,some (.tuple #[.agg (eK z),vI x',vI er]),some (.tuple #[.agg (eK z),vI x',vI er]),some (.agg (eK z)),vI x',vI er,none,none,vI x',vI er]) [(t,cl (ko p y) 159)] (L0) [([(14,cl #[vI 0,vI 0,vI 0,vU 0] 84)],[ah p st],[]),
  ([(14,cl #[vI 0,vI 0,vI 0,vU 0] 84)],[ah p st'],[]),
  ([(14,cl (eK z) 84)],[ah p st'],[])] (F0.out) ⟨sP,sP,sP,sP,sP,sP,sP,sP,sP,?_,sP,sP,sP,sP,sA 1 (cl #[vI 0,vI 0,vI 0,vU 0] 84),Y2,sP,sP,trivial⟩ ?_
 ·refine wC ?_;intro D v qq x h0;exact mo (h0.gL fun S1 hs=>hs.sopen HY.out HX.out HF.out)
 ·exact a935
theorem Rl (h:SF S w0 W p st ((t,aA p y)::L0)) (hy:y.Wf) (hx:af.Int64 x) (hf:af.iR st y x=(st',z,x',0)):Calls Tryz.prog 141 #[vP t 0,vI x] W fun e w'=>e=.returned (vI x')∧SF S w0 w' p st' ((t,aA p z)::L0):=(Cb h hy hx hf).mono fun _ _ g=>g.1 rfl
theorem Rm (h:SF S w0 W p st ((t,aA p y)::L0)) (hy:y.Wf) (hx:af.Int64 x) (hf:af.iR st y x=(st',z,x',er)) (he:er≠0):Calls Tryz.prog 141 #[vP t 0,vI x] W fun e w'=>e=.panicked (bI er)∧SF S w0 w' p st' ((t,aA p y)::L0):=(Cb h hy hx hf).mono fun _ _ g=>g.2 he
variable {a b:Nat}
theorem zF (h:SF S w0 W p st ((t,aA p y)::L0)) (hy:y.Wf) (hf:af.iC st y=(st',a,b,er)):Calls Tryz.prog 146 #[vP t 0] W fun e w'=>(er=0→e=.returned (.tuple #[vI a,vI b])∧SF S w0 w' p st' ((t,aA p y)::L0))∧(er≠0→e=.panicked (bI er)∧SF S w0 w' p st' ((t,aA p y)::L0)):=by
 have h:=h.nf;unfold aA at h ⊢;have F0:=Hi h;have HF:=Hi hf;have HY:=Hi hy;clear hy;clear h hf;go_enter Tryz.func146,Tryz.ntmps146;go_wp2_with fail;refine sk (n:=24) [8] [] (tb [vP t 0,vP t 0,vP t 1,some (.agg (eK y)),vP t 0,vP t 0,vP t 0,vP p 0,some (.tuple #[vI a,vI b,vI er]),some (.tuple #[vI a,vI b,vI er]),vI a,vI b,vI er,vI a,vI b,vI er]) [(t,cl (ko p y) 159)] (L0) [([],[ah p st],[]),
  ([],[ah p st'],[])] (F0.out) ⟨sP,sP,sP,sP,sP,sP,sP,sP,?_,sP,sP,sP,sP,sP,sP,sP,trivial⟩ ?_
 ·refine wC ?_;intro D v qq x h0;exact mo (h0.gL fun S1 hs=>hs.ssplit HY.out HF.out)
 ·intro v qq x hF hA h;simp only [SC] at h;have F1:=Hi h;simp only [PU,bF,Nat.reduceAdd,gT hF 13,gT hF 14,gT hF 15];clear hF hA h;clear F0;go_wp2_with fail;by_cases he:er=0
  ·subst he;refine (jy _).mono ?_;rintro e w1 ⟨rfl,rfl⟩;go_wp2_with fail;go_ret2;exact ⟨rfl,F1.out.QI⟩
  ·refine (jz he _).mono ?_;rintro e w1 ⟨rfl,rfl⟩;exact ⟨rfl,fun h=>absurd h he,fun _=>⟨rfl,F1.out.QI⟩⟩
theorem NC (h:SF S w0 W p st ((t,aA p y)::L0)) (hy:y.Wf) (hf:af.iC st y=(st',a,b,0)):Calls Tryz.prog 146 #[vP t 0] W fun e w'=>e=.returned (.tuple #[vI a,vI b])∧SF S w0 w' p st' ((t,aA p y)::L0):=(zF h hy hf).mono fun _ _ g=>g.1 rfl
theorem ND (h:SF S w0 W p st ((t,aA p y)::L0)) (hy:y.Wf) (hf:af.iC st y=(st',a,b,er)) (he:er≠0):Calls Tryz.prog 146 #[vP t 0] W fun e w'=>e=.panicked (bI er)∧SF S w0 w' p st' ((t,aA p y)::L0):=(zF h hy hf).mono fun _ _ g=>g.2 he
end
end Go.Proofs.N0
namespace af
variable {x q d:Int}
theorem Cc {st:Store} (h:st.Ok) (hx:Int64 x):(kQ st x).1.Ok:=h.put (iD ax aH ax hx aL aL)
theorem xC {st:Store} (h:st.Ok) (hx:Int64 x):(jY st x).1.Ok:=h.put (iD ax aH ax hx aL aL)
theorem FN {st:Store} (h:st.Ok) (hx:Int64 x):(kI st x q).1.Ok:=by
 unfold kI;have ha:Int64 (st.at q).a:=(sG h q).a;split
 ·exact h
 ·split
  ·exact h.put (iD ax aH ax ha hx aL)
  ·exact h.put (iD ax aH ax hx ha aL)
theorem uW {st:Store} (h:st.Ok) (hx:Int64 x):(kJ st x q).1.Ok:=by
 unfold kJ;split
 ·exact h
 ·split
  ·exact h
  ·exact h.put (iD ax aH ax hx (sG h q).b aL)
theorem qC {st:Store} (h:st.Ok) (hd:Int64 d):(eZ st q d).1.Ok:=by
 unfold eZ;split
 ·exact h
 ·exact K0 h (iD ax aH ax (sG h q).a hd aL) (iD ax aH ax (sG h q).a hd aL)
theorem nE {st:Store} (h:st.Ok) (hd:Int64 d):Int64 (eZ st q d).2.1∧Int64 (eZ st q d).2.2.1:=by
 unfold eZ;split
 ·exact QN
 ·exact zC h (iD ax aH ax (sG h q).a hd aL)
end af
namespace Go.Proofs.N0
open Go.RowKit Go.Maps Go.ChangeMaps
variable {x q d:Int} {n er a b p t:Nat} {S:List Nat} {w0 W:World} {st st' uV st3:af.Store} {y z z2:af.Sym} {L0:List (Nat×Obj)} {s:List UInt8} {u:af.Term}
section
variable {S:List Nat} {w0 W:World} {p:Nat} {st st':af.Store} {L:List (Nat×Obj)}
theorem SF.public (h:SF S w0 W p st L) (hx:af.Int64 x) (hf:af.kQ st x=(st',n,er)):Calls Tryz.prog 95 #[vP p 0,vI x] W fun e w'=>e=.returned (.tuple #[vI n,vI er])∧SF S w0 w' p st' L :=
 h.call (by have:=af.Cc h.ok hx;rw [hf] at this;exact this) fun S1 hs=>I6 W hs h.ok hx hf
theorem SF.wrapping (h:SF S w0 W p st L) (hx:af.Int64 x) (hf:af.jY st x=(st',n,er)):Calls Tryz.prog 97 #[vP p 0,vI x] W fun e w'=>e=.returned (.tuple #[vI n,vI er])∧SF S w0 w' p st' L :=
 h.call (by have:=af.xC h.ok hx;rw [hf] at this;exact this) fun S1 hs=>DZ W hs h.ok hx hf
theorem SF.agree (h:SF S w0 W p st L) (hx:af.Int64 x) (hf:af.kI st x q=(st',n,er)):Calls Tryz.prog 99 #[vP p 0,vI x,vI q] W fun e w'=>e=.returned (.tuple #[vI n,vI er])∧SF S w0 w' p st' L :=
 h.call (by have:=af.FN (q:=q) h.ok hx;rw [hf] at this;exact this) fun S1 hs=>Nj W hs h.ok hx hf
theorem SF.Zi (h:SF S w0 W p st L) (hx:af.Int64 x) (hf:af.kJ st x q=(st',n,er)):Calls Tryz.prog 167 #[vP p 0,vI x,vI q] W fun e w'=>e=.returned (.tuple #[vI n,vI er])∧SF S w0 w' p st' L :=
 h.call (by have:=af.uW (q:=q) h.ok hx;rw [hf] at this;exact this) fun S1 hs=>Nn W hs h.ok hx hf
theorem SF.Ls (h:SF S w0 W p st L) (hx:af.Int64 d) (hf:af.eZ st q d=(st',a,b,er)):Calls Tryz.prog 100 #[vP p 0,vI q,vI d] W fun e w'=>e=.returned (.tuple #[vI a,vI b,vI er])∧SF S w0 w' p st' L :=
 h.call (by have:=af.qC (q:=q) h.ok hx;rw [hf] at this;exact this) fun S1 hs=>Q4 W hs h.ok hx hf
end
theorem Rn (h:SF S w0 W p st ((t,aA p y)::L0)) (hs:s.length≤9223372036854775807) (hf:st.aZ s=(st',n,0)):Calls Tryz.prog 64 #[vP t 0,vS s] W fun e w'=>e=.returned (vI n)∧SF S w0 w' p st' ((t,aA p y)::L0):=by have CC:=Hi (h.put (t:=⟨1,s,0,0,0,0⟩) (af.iD ax hs ax af.aL af.aL af.aL) hf);have F0:=Hi h;obtain ⟨⟨q0,_⟩,_⟩:=dO (h.get 0 rfl);clear h hf;go_enter Tryz.func64,Tryz.ntmps64;exact aal
theorem Ro (h:SF S w0 W p st ((t,aA p y)::L0)) (hs:s.length≤9223372036854775807) (hf:st.aZ s=(st',n,er)) (he:er≠0):Calls Tryz.prog 64 #[vP t 0,vS s] W fun e w'=>e=.panicked (bI er)∧SF S w0 w' p st' ((t,aA p y)::L0):=by have CC:=Hi (h.put (t:=⟨1,s,0,0,0,0⟩) (af.iD ax hs ax af.aL af.aL af.aL) hf);have HE:=Hi he;clear he;have F0:=Hi h;obtain ⟨⟨q0,_⟩,_⟩:=dO (h.get 0 rfl);clear h hf;go_enter Tryz.func64,Tryz.ntmps64;exact aam
theorem Ji (h:SF S w0 W p st ((t,aA p y)::L0)) (hx:af.Int64 x) (hf:af.kQ st x=(st',n,0)):Calls Tryz.prog 57 #[vP t 0,vI x] W fun e w'=>e=.returned (vI n)∧SF S w0 w' p st' ((t,aA p y)::L0):=by have CC:=Hi (h.public hx hf);have F0:=Hi h;obtain ⟨⟨q0,_⟩,_⟩:=dO (h.get 0 rfl);clear h hf;go_enter Tryz.func57,Tryz.ntmps57;exact aal
theorem Jj (h:SF S w0 W p st ((t,aA p y)::L0)) (hx:af.Int64 x) (hf:af.kQ st x=(st',n,er)) (he:er≠0):Calls Tryz.prog 57 #[vP t 0,vI x] W fun e w'=>e=.panicked (bI er)∧SF S w0 w' p st' ((t,aA p y)::L0):=by have CC:=Hi (h.public hx hf);have HE:=Hi he;clear he;have F0:=Hi h;obtain ⟨⟨q0,_⟩,_⟩:=dO (h.get 0 rfl);clear h hf;go_enter Tryz.func57,Tryz.ntmps57;exact aam
theorem D7 (h:SF S w0 W p st ((t,aA p y)::L0)) (hx:af.Int64 x) (hf:af.jY st x=(st',n,0)):Calls Tryz.prog 59 #[vP t 0,vI x] W fun e w'=>e=.returned (vI n)∧SF S w0 w' p st' ((t,aA p y)::L0):=by have CC:=Hi (h.wrapping hx hf);have F0:=Hi h;obtain ⟨⟨q0,_⟩,_⟩:=dO (h.get 0 rfl);clear h hf;go_enter Tryz.func59,Tryz.ntmps59;exact aal
theorem D8 (h:SF S w0 W p st ((t,aA p y)::L0)) (hx:af.Int64 x) (hf:af.jY st x=(st',n,er)) (he:er≠0):Calls Tryz.prog 59 #[vP t 0,vI x] W fun e w'=>e=.panicked (bI er)∧SF S w0 w' p st' ((t,aA p y)::L0):=by have CC:=Hi (h.wrapping hx hf);have HE:=Hi he;clear he;have F0:=Hi h;obtain ⟨⟨q0,_⟩,_⟩:=dO (h.get 0 rfl);clear h hf;go_enter Tryz.func59,Tryz.ntmps59;exact aam
theorem Jk (h:SF S w0 W p st ((t,aA p y)::L0)) (hx:af.Int64 x) (hf:af.kI st x q=(st',n,0)):Calls Tryz.prog 61 #[vP t 0,vI x,vI q] W fun e w'=>e=.returned (vI n)∧SF S w0 w' p st' ((t,aA p y)::L0):=by have CC:=Hi (h.agree hx hf);have F0:=Hi h;obtain ⟨⟨q0,_⟩,_⟩:=dO (h.get 0 rfl);clear h hf;go_enter Tryz.func61,Tryz.ntmps61;exact aal
theorem Jl (h:SF S w0 W p st ((t,aA p y)::L0)) (hx:af.Int64 x) (hf:af.kI st x q=(st',n,er)) (he:er≠0):Calls Tryz.prog 61 #[vP t 0,vI x,vI q] W fun e w'=>e=.panicked (bI er)∧SF S w0 w' p st' ((t,aA p y)::L0):=by have CC:=Hi (h.agree hx hf);have HE:=Hi he;clear he;have F0:=Hi h;obtain ⟨⟨q0,_⟩,_⟩:=dO (h.get 0 rfl);clear h hf;go_enter Tryz.func61,Tryz.ntmps61;exact aam
theorem BB (h:SF S w0 W p st ((t,aA p y)::L0)) (hx:af.Int64 x) (hf:af.kJ st x q=(st',n,0)):Calls Tryz.prog 140 #[vP t 0,vI x,vI q] W fun e w'=>e=.returned (vI n)∧SF S w0 w' p st' ((t,aA p y)::L0):=by have CC:=Hi (h.Zi hx hf);have F0:=Hi h;obtain ⟨⟨q0,_⟩,_⟩:=dO (h.get 0 rfl);clear h hf;go_enter Tryz.func140,Tryz.ntmps140;exact aal
theorem BC (h:SF S w0 W p st ((t,aA p y)::L0)) (hx:af.Int64 x) (hf:af.kJ st x q=(st',n,er)) (he:er≠0):Calls Tryz.prog 140 #[vP t 0,vI x,vI q] W fun e w'=>e=.panicked (bI er)∧SF S w0 w' p st' ((t,aA p y)::L0):=by have CC:=Hi (h.Zi hx hf);have HE:=Hi he;clear he;have F0:=Hi h;obtain ⟨⟨q0,_⟩,_⟩:=dO (h.get 0 rfl);clear h hf;go_enter Tryz.func140,Tryz.ntmps140;exact aam
-- read
theorem Rp (h:SF S w0 W p st ((t,aA p y)::L0)) (ht:st.at x=u) (hk:(u.k==1)=true):Calls Tryz.prog 143 #[vP t 0,vI x] W fun e w'=>e=.returned (vS u.s)∧SF S w0 w' p st ((t,aA p y)::L0):=by obtain ⟨⟨q0,_⟩,_⟩:=dO (h.get 0 rfl);have CG:=Hi (h.kB (x:=x) (b:=st.has x) ht rfl);clear h ht;go_enter Tryz.func143,Tryz.ntmps143;go_wp2_with fail;refine CG.out.mono ?_;rintro e w1 ⟨rfl,h1⟩;have F1:=Hi (h1.alloc (cl (fH u) 95));clear h1 CG q0;go_wp2_with fail;refine (jB _).mono ?_;rintro e w2 ⟨rfl,rfl⟩;go_wp2_with fail;go_ret;exact ⟨rfl,F1.out.sub (zq _ _)⟩
theorem Rq (h:SF S w0 W p st ((t,aA p y)::L0)) (ht:st.at x=u) (hk:(u.k==1)=false):Calls Tryz.prog 143 #[vP t 0,vI x] W fun e w'=>e=.panicked (bI 3)∧SF S w0 w' p st ((t,aA p y)::L0):=by obtain ⟨⟨q0,_⟩,_⟩:=dO (h.get 0 rfl);have CG:=Hi (h.kB (x:=x) (b:=st.has x) ht rfl);clear h ht;go_enter Tryz.func143,Tryz.ntmps143;go_wp2_with fail;refine CG.out.mono ?_;rintro e w1 ⟨rfl,h1⟩;have F1:=Hi (h1.alloc (cl (fH u) 95));clear h1 CG q0;go_wp2_with fail;refine (iW (er:=3) ax _).mono ?_;rintro e w2 ⟨rfl,rfl⟩;exact ⟨rfl,rfl,F1.out.sub (zq _ _)⟩
-- wrap
theorem WB (h:SF S w0 W p st ((t,aA p y)::L0)) (hx:af.Int64 d) (hf:af.eZ st q d=(st',a,b,er)) (he:er≠0):Calls Tryz.prog 62 #[vP t 0,vI q,vI d] W fun e w'=>e=.panicked (bI er)∧∃ y',SF S w0 w' p st' ((t,aA p y')::L0):=by have HE:=Hi he;clear he;obtain ⟨⟨q0,_⟩,_⟩:=dO (h.get 0 rfl);have CW:=Hi (h.Ls hx hf);have HO:=Hi h.ok;clear h hx hf;go_enter Tryz.func62,Tryz.ntmps62;go_wp2_with fail;refine CW.out.mono ?_;rintro e w1 ⟨rfl,h1⟩;have F1:=Hi h1;clear h1 CW q0;go_wp2_with fail;refine (jz HE.out _).mono ?_;rintro e w2 ⟨rfl,rfl⟩;exact ⟨rfl,rfl,_,F1.out⟩
theorem WC (h:SF S w0 W p st ((t,aA p y)::L0)) (hx:af.Int64 d) (hy:y.Wf) (ha:af.Int64 a) (hf:af.eZ st q d=(st',a,b,0)) (hg:af.cU st' y a=(uV,z,er)) (he:er≠0):Calls Tryz.prog 62 #[vP t 0,vI q,vI d] W fun e w'=>e=.panicked (bI er)∧∃ y',SF S w0 w' p uV ((t,aA p y')::L0):=by obtain ⟨HE,HG,HY,HA⟩:=hi4 he hg hy ha;clear he hg hy ha;obtain ⟨⟨q0,_⟩,_⟩:=dO (h.get 0 rfl);have CW:=Hi (h.Ls hx hf);have HO:=Hi h.ok;clear h hx hf;go_enter Tryz.func62,Tryz.ntmps62;go_wp2_with fail;refine CW.out.mono ?_;rintro e w1 ⟨rfl,h1⟩;have F1:=Hi h1;clear h1 CW q0;go_wp2_with fail;refine (jy _).mono ?_;rintro e w2 ⟨rfl,rfl⟩;go_wp2_with fail;refine (FL F1.out HY.out HA.out HG.out HE.out).mono ?_;rintro e w3 ⟨rfl,h1⟩;exact ⟨rfl,rfl,_,h1⟩
theorem WD (h:SF S w0 W p st ((t,aA p y)::L0)) (hx:af.Int64 d) (hy:y.Wf) (hz:z.Wf) (ha:af.Int64 a) (hb:af.Int64 b) (hf:af.eZ st q d=(st',a,b,0)) (hg:af.cU st' y a=(uV,z,0)) (hm:af.jZ uV z b=(st3,z2,er)) (he:er≠0):Calls Tryz.prog 62 #[vP t 0,vI q,vI d] W fun e w'=>e=.panicked (bI er)∧∃ y',SF S w0 w' p st3 ((t,aA p y')::L0):=by obtain ⟨HE,HG,HM,HY,HZ,HA,HB⟩:=PL he hg hm hy hz ha hb;clear he hg hy ha hm hz hb;obtain ⟨⟨q0,_⟩,_⟩:=dO (h.get 0 rfl);have CW:=Hi (h.Ls hx hf);have HO:=Hi h.ok;clear h hx hf;go_enter Tryz.func62,Tryz.ntmps62;go_wp2_with fail;refine CW.out.mono ?_;rintro e w1 ⟨rfl,h1⟩;have F1:=Hi h1;clear h1 CW q0;go_wp2_with fail;refine (jy _).mono ?_;rintro e w2 ⟨rfl,rfl⟩;go_wp2_with fail;refine (zE F1.out HY.out HA.out HG.out).mono ?_;rintro e w3 ⟨rfl,h1⟩;have F2:=Hi h1;clear h1 F1;go_wp2_with fail;refine (Lr F2.out HZ.out HB.out HM.out HE.out).mono ?_;rintro e w4 ⟨rfl,h1⟩;exact ⟨rfl,rfl,_,h1⟩
theorem WE (h:SF S w0 W p st ((t,aA p y)::L0)) (hx:af.Int64 d) (hy:y.Wf) (hz:z.Wf) (ha:af.Int64 a) (hb:af.Int64 b) (hf:af.eZ st q d=(st',a,b,0)) (hg:af.cU st' y a=(uV,z,0)) (hm:af.jZ uV z b=(st3,z2,0)):Calls Tryz.prog 62 #[vP t 0,vI q,vI d] W fun e w'=>e=.returned (vI a)∧SF S w0 w' p st3 ((t,aA p z2)::L0):=by obtain ⟨HG,HM,HY,HZ,HA,HB⟩:=Vn hg hm hy hz ha hb;clear hg hy ha hm hz hb;obtain ⟨⟨q0,_⟩,_⟩:=dO (h.get 0 rfl);have CW:=Hi (h.Ls hx hf);have HO:=Hi h.ok;clear h hx hf;go_enter Tryz.func62,Tryz.ntmps62;go_wp2_with fail;refine CW.out.mono ?_;rintro e w1 ⟨rfl,h1⟩;have F1:=Hi h1;clear h1 CW q0;go_wp2_with fail;refine (jy _).mono ?_;rintro e w2 ⟨rfl,rfl⟩;go_wp2_with fail;refine (zE F1.out HY.out HA.out HG.out).mono ?_;rintro e w3 ⟨rfl,h1⟩;have F2:=Hi h1;clear h1 F1;go_wp2_with fail;refine (Lp F2.out HZ.out HB.out HM.out).mono ?_;rintro e w4 ⟨rfl,h1⟩;have F3:=Hi h1;clear h1 F2;go_wp2_with fail;go_ret;exact ⟨rfl,F3.out⟩
end Go.Proofs.N0
namespace Go.Proofs.N0
open Go.RowKit Go.Maps Go.ChangeMaps
theorem zG (er:Int) (w:World):(Instr.typeAssert (.iface 227 (.agg #[vI er])) 20 227 true).run Tryz.prog w=.ok (.tuple #[.agg #[vI er],.bool true]) w:=aI
theorem Ce (w:World):(Instr.typeAssert .nilIface 20 227 true).run Tryz.prog w=.ok (.tuple #[.agg #[vI 0],.bool false]) w:=aI
theorem yj (a:Addr) (old:Value) (er:Nat) (older:List PanicEntry) (w:World) (hc:w.cell? a=some old) (hz:w.frozen? a=false) :
 CallsD Tryz.prog 54 #[.pointer (some a)] (.panicking ({v:=.iface 227 (.agg #[vI er]),recovered:=false}::older)) w fun e u' w' =>
  e=.returned (.tuple #[])∧u'=.panicking ({v:=.iface 227 (.agg #[vI er]),recovered:=true}::older)∧w'=(w.alloc (cl #[vI er] 227)).setCell a (vI er):=by
 have hc2:=((Below.refl w.heap.size w).alloc (cC _) (cl #[vI er] 227)).cell (p:=a) (World.block_lt_of_cell? w a hc)
 have hz2:=((Below.refl w.heap.size w).alloc (cC _) (cl #[vI er] 227)).frozen (p:=a) (World.block_lt_of_cell? w a hc)
 rw [hc] at hc2
 rw [hz] at hz2
 refine callsD_of_wpS Tryz.func54 rfl fun c₀ cs hu=>?_
 apply wpS_seq
 apply wpS_region
 simp [wpOpsS,go_sem,recoverD,hu,Tryz.ntmps54,Exit.thenS,zG,Ce]
 apply wpS_seq
 apply wpS_region
 simp [wpOpsS,go_sem,Exit.thenS]
 refine wpS_cond (t:=true) (by simp [Act.eval,Array.replicate]) ?_
 simp only [if_true]
 apply wpS_region
 simp [wpOpsS,go_sem,hc2,hz2,bodyPostS,results,Tryz.results54]
theorem Jm (a:Addr) (w:World) :
 CallsD Tryz.prog 54 #[.pointer (some a)] .returning w fun e u' w'=>e=.returned (.tuple #[])∧u'=.returning∧w'=w.alloc (cl #[vI 0] 227):=by
 refine callsD_of_wpS Tryz.func54 rfl fun c₀ cs hu=>?_
 apply wpS_seq
 apply wpS_region
 simp [wpOpsS,go_sem,recoverD,hu,Tryz.ntmps54,Exit.thenS,zG,Ce]
 apply wpS_seq
 apply wpS_region
 simp [wpOpsS,go_sem,Exit.thenS]
 refine wpS_cond (t:=false) (by simp [Act.eval,Array.replicate]) ?_
 simp only [dY,if_false]
 refine wpS_of_wp (wp_skip ?_)
 cases c₀
 simp_all [bodyPostS,results,Tryz.results54]
end Go.Proofs.N0
namespace af
variable {x q r:Int} {er:Nat}
theorem fe {r:Store×Nat×Nat} {s:Store} (h:yT r=(s,.ok x)):∃ n:Nat,r=(s,n,0)∧x=n:=by
 obtain ⟨a,b,c⟩:=r;unfold yT at h;by_cases e:c=0
 ·subst e;simp at h;exact ⟨b,by rw [h.1],h.2.symm⟩
 ·simp [e] at h
theorem uZ {r:Store×Nat×Nat} {s:Store} (h:yT r=(s,.error er)):∃ n:Nat,r=(s,n,er)∧er≠0:=by obtain ⟨a,b,c⟩:=r;unfold yT at h;exact Zv
theorem fK {r:Store×Sym×Nat} {s:Store} {x:Sym} (h:Bo r=(s,.ok x)):r=(s,x,0):=by
 obtain ⟨a,b,c⟩:=r;unfold Bo at h;by_cases e:c=0
 ·subst e;simp at h;rw [h.1,h.2]
 ·simp [e] at h
theorem ve {r:Store×Sym×Nat} {s:Store} (h:Bo r=(s,.error er)):∃ z,r=(s,z,er)∧er≠0:=by obtain ⟨a,b,c⟩:=r;unfold Bo at h;exact Zv
theorem kT {r:Store×Sym×Int×Nat} {s:Store} {x:Sym×Int} (h:BR r=(s,.ok x)):r=(s,x.1,x.2,0):=by
 obtain ⟨a,b,c,d⟩:=r;unfold BR at h;by_cases e:d=0
 ·subst e;simp at h;obtain ⟨rfl,rfl⟩:=h;rfl
 ·simp [e] at h
theorem FO {r:Store×Sym×Int×Nat} {s:Store} (h:BR r=(s,.error er)):∃ z x,r=(s,z,x,er)∧er≠0:=by obtain ⟨a,b,c,d⟩:=r;unfold BR at h;exact ZV
theorem rR {r:Store×Nat×Nat×Nat} {s:Store} {x:Int×Int} (h:Dx r=(s,.ok x)):∃ a b:Nat,r=(s,a,b,0)∧x=((a:Int),(b:Int)):=by
 obtain ⟨a,b,c,d⟩:=r;unfold Dx at h;by_cases e:d=0
 ·subst e;simp at h;exact ⟨b,c,by rw [h.1],h.2.symm⟩
 ·simp [e] at h
theorem Lu {r:Store×Nat×Nat×Nat} {s:Store} (h:Dx r=(s,.error er)):∃ a b,r=(s,a,b,er)∧er≠0:=by obtain ⟨a,b,c,d⟩:=r;unfold Dx at h;exact ZV
theorem aU {st s:Store} {y z:Sym} (h:st.Ok) (hy:y.Wf) (hf:cE st y x=(s,.ok z)):z.Wf:=by
 have:=zB (x:=x) h hy
 rw [fK hf] at this;exact this
theorem bY {st s:Store} {y z:Sym} (h:st.Ok) (hy:y.Wf) (hx:Int64 x) (hf:gK st y x=(s,.ok z)):z.Wf:=by
 have:=Nu (x:=x) h hy hx
 rw [fK hf] at this;exact this
theorem oy {st s:Store} {y:Sym} {z:Sym×Int} (h:st.Ok) (hy:y.Wf) (hx:Int64 x) (hf:nt st y x=(s,.ok z)):z.1.Wf:=by
 have:=Jd (x:=x) h hy hx
 rw [kT hf] at this;exact this
theorem qD {st s:Store} {y:Sym} {z:Sym×Int} (h:st.Ok) (hy:y.Wf) (hf:qi st y x=(s,.ok z)):z.1.Wf:=by
 have:=Je (x:=x) h hy
 rw [kT hf] at this;exact this
theorem di {st s:Store} {t:List UInt8} (h:st.Ok) (hf:mC st t=(s,.ok x)):Int64 x:=by
 obtain ⟨n,h1,rfl⟩:=fe hf
 have:=cY h ⟨1,t,0,0,0,0⟩
 unfold Store.aZ at h1;rw [h1] at this;exact eC this
theorem dR {st s:Store} (h:st.Ok) (hf:eD st q=(s,.ok x)):Int64 x:=by
 obtain ⟨n,h1,rfl⟩:=fe hf
 have:=cY h ⟨3,[],0,q,0,0⟩
 unfold kQ at h1;rw [h1] at this;exact eC this
theorem jC {st s:Store} (h:st.Ok) (hf:eG st q=(s,.ok x)):Int64 x:=by
 obtain ⟨n,h1,rfl⟩:=fe hf
 have:=cY h ⟨5,[],0,q,0,0⟩
 unfold jY at h1;rw [h1] at this;exact eC this
theorem bt {st s:Store} (h:st.Ok) (hf:cV st q r=(s,.ok x)):Int64 x:=by
 obtain ⟨n,h1,rfl⟩:=fe hf;have hn:(kI st q r).2.1≤1048576:=by
  unfold kI;split
  ·exact pR _
  ·split
   ·exact cY h _
   ·exact cY h _
 rw [h1] at hn;exact eC hn
theorem iX {st s:Store} (h:st.Ok) (hf:gJ st q r=(s,.ok x)):Int64 x:=by
 obtain ⟨n,h1,rfl⟩:=fe hf;have hn:(kJ st q r).2.1≤1048576:=by
  unfold kJ;split
  ·exact pR _
  ·split
   ·exact pR _
   ·exact cY h _
 rw [h1] at hn;exact eC hn
theorem Cf {st s:Store} {y z:Sym} {sl x':Int} (hf:gU st y sl x er=(s,z,x',0)):x'=x:=by
 unfold gU at hf;split at hf
 ·rename_i h;simp only [Prod.mk.injEq] at hf;exact absurd hf.2.2.2 h
 ·split at hf
  ·rename_i h;simp only [Prod.mk.injEq] at hf;exact absurd hf.2.2.2 h
  ·simp only [Prod.mk.injEq] at hf;exact hf.2.2.1.symm
theorem mK {st s:Store} {y:Sym} {z:Sym×Int} (h:st.Ok) (hf:nt st y x=(s,.ok z)):Int64 z.2:=by
 have h1:=kT hf;unfold iQ at h1;split at h1
 ·simp at h1
 ·rw [Cf h1];exact wA h
theorem Jn {st s:Store} {y:Sym} {z:Sym×Int} (h:st.Ok) (hf:qi st y x=(s,.ok z)):Int64 z.2:=by
 have h1:=kT hf;unfold iR at h1;split at h1
 ·simp at h1
 ·rw [Cf h1];unfold fZ;split
  ·exact aL
  ·split
   ·exact aL
   ·exact (sG h x).c
end af
namespace Go.Proofs.N0
open Go.RowKit Go.Maps Go.ChangeMaps
variable {x q r d:Int} {z:af.Sym} {er:Nat} {l:List UInt8}
section
variable {S:List Nat} {w0 W:World} {p t:Nat} {st s:af.Store} {y:af.Sym} {L0:List (Nat×Obj)}
theorem dg (h:SF S w0 W p st ((t,aA p y)::L0)) (hy:y.Wf) (hx:af.Int64 x) (hf:af.cE st y x=(s,.ok z)):Calls Tryz.prog 58 #[vP t 0,vI x] W (fun e w'=>e=.returned (.tuple #[])∧SF S w0 w' p s ((t,aA p z)::L0)):=zE h hy hx (af.fK hf)
theorem dx (h:SF S w0 W p st ((t,aA p y)::L0)) (hy:y.Wf) (hx:af.Int64 x) (hf:af.cE st y x=(s,.error er)):Calls Tryz.prog 58 #[vP t 0,vI x] W (fun e w'=>e=.panicked (bI er)∧∃ y',SF S w0 w' p s ((t,aA p y')::L0)):=by obtain ⟨z,h1,he⟩:=af.ve hf;exact (FL h hy hx h1 he).mono fun _ _ ⟨a,b⟩=>⟨a,_,b⟩
theorem fL (h:SF S w0 W p st ((t,aA p y)::L0)) (hy:y.Wf) (hx:af.Int64 x) (hf:af.gK st y x=(s,.ok z)):Calls Tryz.prog 60 #[vP t 0,vI x] W (fun e w'=>e=.returned (.tuple #[])∧SF S w0 w' p s ((t,aA p z)::L0)):=Lp h hy hx (af.fK hf)
theorem fN (h:SF S w0 W p st ((t,aA p y)::L0)) (hy:y.Wf) (hx:af.Int64 x) (hf:af.gK st y x=(s,.error er)):Calls Tryz.prog 60 #[vP t 0,vI x] W (fun e w'=>e=.panicked (bI er)∧∃ y',SF S w0 w' p s ((t,aA p y')::L0)):=by obtain ⟨z,h1,he⟩:=af.ve hf;exact (Lr h hy hx h1 he).mono fun _ _ ⟨a,b⟩=>⟨a,_,b⟩
theorem qF {z:af.Sym×Int} (h:SF S w0 W p st ((t,aA p y)::L0)) (hy:y.Wf) (hx:af.Int64 x) (hf:af.nt st y x=(s,.ok z)):Calls Tryz.prog 63 #[vP t 0,vI x] W (fun e w'=>e=.returned (vI z.2)∧SF S w0 w' p s ((t,aA p z.1)::L0)):=Rj h hy hx (af.kT hf)
theorem qG (h:SF S w0 W p st ((t,aA p y)::L0)) (hy:y.Wf) (hx:af.Int64 x) (hf:af.nt st y x=(s,.error er)):Calls Tryz.prog 63 #[vP t 0,vI x] W (fun e w'=>e=.panicked (bI er)∧∃ y',SF S w0 w' p s ((t,aA p y')::L0)):=by obtain ⟨z,x',h1,he⟩:=af.FO hf;exact (Rk h hy hx h1 he).mono fun _ _ ⟨a,b⟩=>⟨a,_,b⟩
theorem zH {z:af.Sym×Int} (h:SF S w0 W p st ((t,aA p y)::L0)) (hy:y.Wf) (hx:af.Int64 x) (hf:af.qi st y x=(s,.ok z)):Calls Tryz.prog 141 #[vP t 0,vI x] W (fun e w'=>e=.returned (vI z.2)∧SF S w0 w' p s ((t,aA p z.1)::L0)):=Rl h hy hx (af.kT hf)
theorem zI (h:SF S w0 W p st ((t,aA p y)::L0)) (hy:y.Wf) (hx:af.Int64 x) (hf:af.qi st y x=(s,.error er)):Calls Tryz.prog 141 #[vP t 0,vI x] W (fun e w'=>e=.panicked (bI er)∧∃ y',SF S w0 w' p s ((t,aA p y')::L0)):=by obtain ⟨z,x',h1,he⟩:=af.FO hf;exact (Rm h hy hx h1 he).mono fun _ _ ⟨a,b⟩=>⟨a,_,b⟩
theorem Cg {z:Int×Int} (h:SF S w0 W p st ((t,aA p y)::L0)) (hy:y.Wf) (hf:af.tq st y=(s,.ok z)):Calls Tryz.prog 146 #[vP t 0] W (fun e w'=>e=.returned (.tuple #[vI z.1,vI z.2])∧SF S w0 w' p s ((t,aA p y)::L0)):=by obtain ⟨a,b,h1,rfl⟩:=af.rR hf;exact NC h hy h1
theorem Ch (h:SF S w0 W p st ((t,aA p y)::L0)) (hy:y.Wf) (hf:af.tq st y=(s,.error er)):Calls Tryz.prog 146 #[vP t 0] W (fun e w'=>e=.panicked (bI er)∧∃ y',SF S w0 w' p s ((t,aA p y')::L0)):=by obtain ⟨a,b,h1,he⟩:=af.Lu hf;exact (ND h hy h1 he).mono fun _ _ ⟨a,b⟩=>⟨a,_,b⟩
theorem mL (h:SF S w0 W p st ((t,aA p y)::L0)) (hs:l.length≤9223372036854775807) (hf:af.mC st l=(s,.ok x)):Calls Tryz.prog 64 #[vP t 0,vS l] W (fun e w'=>e=.returned (vI x)∧SF S w0 w' p s ((t,aA p y)::L0)):=by obtain ⟨n,h1,rfl⟩:=af.fe hf;exact Rn h hs h1
theorem mM (h:SF S w0 W p st ((t,aA p y)::L0)) (hs:l.length≤9223372036854775807) (hf:af.mC st l=(s,.error er)):Calls Tryz.prog 64 #[vP t 0,vS l] W (fun e w'=>e=.panicked (bI er)∧∃ y',SF S w0 w' p s ((t,aA p y')::L0)):=by obtain ⟨n,h1,he⟩:=af.uZ hf;exact (Ro h hs h1 he).mono fun _ _ ⟨a,b⟩=>⟨a,_,b⟩
theorem jc (h:SF S w0 W p st ((t,aA p y)::L0)) (hq:af.Int64 q) (hf:af.eD st q=(s,.ok x)):Calls Tryz.prog 57 #[vP t 0,vI q] W (fun e w'=>e=.returned (vI x)∧SF S w0 w' p s ((t,aA p y)::L0)):=by obtain ⟨n,h1,rfl⟩:=af.fe hf;exact Ji h hq h1
theorem kE (h:SF S w0 W p st ((t,aA p y)::L0)) (hq:af.Int64 q) (hf:af.eD st q=(s,.error er)):Calls Tryz.prog 57 #[vP t 0,vI q] W (fun e w'=>e=.panicked (bI er)∧∃ y',SF S w0 w' p s ((t,aA p y')::L0)):=by obtain ⟨n,h1,he⟩:=af.uZ hf;exact (Jj h hq h1 he).mono fun _ _ ⟨a,b⟩=>⟨a,_,b⟩
theorem oU (h:SF S w0 W p st ((t,aA p y)::L0)) (hq:af.Int64 q) (hf:af.eG st q=(s,.ok x)):Calls Tryz.prog 59 #[vP t 0,vI q] W (fun e w'=>e=.returned (vI x)∧SF S w0 w' p s ((t,aA p y)::L0)):=by obtain ⟨n,h1,rfl⟩:=af.fe hf;exact D7 h hq h1
theorem oV (h:SF S w0 W p st ((t,aA p y)::L0)) (hq:af.Int64 q) (hf:af.eG st q=(s,.error er)):Calls Tryz.prog 59 #[vP t 0,vI q] W (fun e w'=>e=.panicked (bI er)∧∃ y',SF S w0 w' p s ((t,aA p y')::L0)):=by obtain ⟨n,h1,he⟩:=af.uZ hf;exact (D8 h hq h1 he).mono fun _ _ ⟨a,b⟩=>⟨a,_,b⟩
theorem eO (h:SF S w0 W p st ((t,aA p y)::L0)) (hq:af.Int64 q) (hf:af.cV st q r=(s,.ok x)):Calls Tryz.prog 61 #[vP t 0,vI q,vI r] W (fun e w'=>e=.returned (vI x)∧SF S w0 w' p s ((t,aA p y)::L0)):=by obtain ⟨n,h1,rfl⟩:=af.fe hf;exact Jk h hq h1
theorem eT (h:SF S w0 W p st ((t,aA p y)::L0)) (hq:af.Int64 q) (hf:af.cV st q r=(s,.error er)):Calls Tryz.prog 61 #[vP t 0,vI q,vI r] W (fun e w'=>e=.panicked (bI er)∧∃ y',SF S w0 w' p s ((t,aA p y')::L0)):=by obtain ⟨n,h1,he⟩:=af.uZ hf;exact (Jl h hq h1 he).mono fun _ _ ⟨a,b⟩=>⟨a,_,b⟩
theorem sJ (h:SF S w0 W p st ((t,aA p y)::L0)) (hq:af.Int64 q) (hf:af.gJ st q r=(s,.ok x)):Calls Tryz.prog 140 #[vP t 0,vI q,vI r] W (fun e w'=>e=.returned (vI x)∧SF S w0 w' p s ((t,aA p y)::L0)):=by obtain ⟨n,h1,rfl⟩:=af.fe hf;exact BB h hq h1
theorem sK (h:SF S w0 W p st ((t,aA p y)::L0)) (hq:af.Int64 q) (hf:af.gJ st q r=(s,.error er)):Calls Tryz.prog 140 #[vP t 0,vI q,vI r] W (fun e w'=>e=.panicked (bI er)∧∃ y',SF S w0 w' p s ((t,aA p y')::L0)):=by obtain ⟨n,h1,he⟩:=af.uZ hf;exact (BC h hq h1 he).mono fun _ _ ⟨a,b⟩=>⟨a,_,b⟩
theorem FQ (h:SF S w0 W p st ((t,aA p y)::L0)) (hf:af.qj st x=(s,.ok l)):Calls Tryz.prog 143 #[vP t 0,vI x] W (fun e w'=>e=.returned (vS l)∧SF S w0 w' p s ((t,aA p y)::L0)):=by
 unfold af.qj at hf;split at hf
 ·rename_i hk;simp only [Prod.mk.injEq,Except.ok.injEq] at hf;obtain ⟨rfl,rfl⟩:=hf;exact Rp h rfl ow
 ·simp at hf
theorem FR (h:SF S w0 W p st ((t,aA p y)::L0)) (hf:af.qj st x=(s,.error er)):Calls Tryz.prog 143 #[vP t 0,vI x] W (fun e w'=>e=.panicked (bI er)∧∃ y',SF S w0 w' p s ((t,aA p y')::L0)):=by
 unfold af.qj at hf;split at hf
 ·simp at hf
 ·rename_i hk;simp only [Prod.mk.injEq,Except.error.injEq] at hf;obtain ⟨rfl,rfl⟩:=hf;exact (Rq h rfl ow).mono fun _ _ ⟨a,b⟩=>⟨a,_,b⟩
theorem zJ {z:af.Sym×Int} (h:SF S w0 W p st ((t,aA p y)::L0)) (hy:y.Wf) (hd:af.Int64 d) (hf:af.pN st y q d=(s,.ok z)):Calls Tryz.prog 62 #[vP t 0,vI q,vI d] W (fun e w'=>e=.returned (vI z.2)∧SF S w0 w' p s ((t,aA p z.1)::L0)):=by
 unfold af.pN at hf;obtain ⟨s1,r1,h1⟩:∃ s r,af.Dx (af.eZ st q d)=(s,r):=⟨_,_,rfl⟩
 have hk:=af.nE (q:=q) h.ok hd;have ho:=af.qC (q:=q) h.ok hd;rw [h1] at hf;rcases r1 with er|b
 ·simp [af.dr] at hf
 obtain ⟨a,c,h2,rfl⟩:=af.rR h1;rw [h2] at hk ho;obtain ⟨s2,r2,h3⟩:∃ s r,af.cE s1 y a=(s,r):=⟨_,_,rfl⟩
 simp only [af.dr,h3] at hf;rcases r2 with er|z1
 ·simp at hf
 have hz:=af.aU ho hy h3;obtain ⟨s3,r3,h4⟩:∃ s r,af.gK s2 z1 c=(s,r):=⟨_,_,rfl⟩
 simp only [h4] at hf;rcases r3 with er|z2
 ·simp at hf
 simp only [Prod.mk.injEq,Except.ok.injEq] at hf;obtain ⟨rfl,rfl⟩:=hf;exact WE h hd hy hz hk.1 hk.2 h2 (af.fK h3) (af.fK h4)
theorem zK (h:SF S w0 W p st ((t,aA p y)::L0)) (hy:y.Wf) (hd:af.Int64 d) (hf:af.pN st y q d=(s,.error er)):Calls Tryz.prog 62 #[vP t 0,vI q,vI d] W (fun e w'=>e=.panicked (bI er)∧∃ y',SF S w0 w' p s ((t,aA p y')::L0)):=by
 unfold af.pN at hf;obtain ⟨s1,r1,h1⟩:∃ s r,af.Dx (af.eZ st q d)=(s,r):=⟨_,_,rfl⟩
 have hk:=af.nE (q:=q) h.ok hd;have ho:=af.qC (q:=q) h.ok hd;rw [h1] at hf;rcases r1 with e1|b
 ·simp only [af.dr,Prod.mk.injEq,Except.error.injEq] at hf;obtain ⟨rfl,rfl⟩:=hf;obtain ⟨a,c,h2,he⟩:=af.Lu h1;exact WB h hd h2 he
 obtain ⟨a,c,h2,rfl⟩:=af.rR h1;rw [h2] at hk ho;obtain ⟨s2,r2,h3⟩:∃ s r,af.cE s1 y a=(s,r):=⟨_,_,rfl⟩
 simp only [af.dr,h3] at hf;rcases r2 with e1|z1
 ·simp only [Prod.mk.injEq,Except.error.injEq] at hf;obtain ⟨rfl,rfl⟩:=hf;obtain ⟨z,h4,he⟩:=af.ve h3;exact WC h hd hy hk.1 h2 h4 he
 have hz:=af.aU ho hy h3;obtain ⟨s3,r3,h4⟩:∃ s r,af.gK s2 z1 c=(s,r):=⟨_,_,rfl⟩
 simp only [h4] at hf;rcases r3 with e1|z2
 ·simp only [Prod.mk.injEq,Except.error.injEq] at hf;obtain ⟨rfl,rfl⟩:=hf;obtain ⟨z,h5,he⟩:=af.ve h4;exact WD h hd hy hz hk.1 hk.2 h2 (af.fK h3) h5 he
 ·simp at hf
end
open Go.RowKit
theorem gM {β:Type} {P:Prop} (T:af.aW β) (he:∀ s er,T=(s,.error er)→P) (ho:∀ s z,Hid (T=(s,.ok z))→P):P:=by
 rcases h:T with ⟨s,er|z⟩
 ·exact he s er h
 ·exact ho s z (Hi h)
theorem vg {α:Type} {l m:List α} (h:l.Sublist m:=by repeat (first|with_reducible exact List.Sublist.refl _|with_reducible refine List.Sublist.cons_cons _ ?_|refine List.Sublist.cons _ ?_)):l.Sublist m:=h
theorem gN {T1 T2 T3 A:Prop} (HR:T1) (h:T2) (c:T3) (m:T1→T2→T3→A:=by
 intro HR h c;have hq:=HR.out;simp only [h,af.dr] at hq;refine c.mono ?_;rintro e w ⟨rfl,_,g⟩;first|exact oA rfl rfl rfl g vg hq|exact iL (ov:=vI 0) rfl rfl g vg hq|exact zL rfl rfl rfl g vg hq|exact mN rfl rfl g vg hq|exact ⟨rfl,by rw [←hq];exact ⟨rfl,g.sub vg⟩⟩):A:=m HR h c
theorem cg {T1 T2 T3 A B:Prop} (HR:T1) (h:Hid T2) (c:T3) (k:B) (m:T1→T2→T3→B→A:=by
 intro HR h c kk;have hq:=HR.out;simp only [h,af.dr] at hq;have oJ:=Hi hq;clear hq h;refine c.mono ?_;rintro e w ⟨rfl,g⟩;have F2:=Hi g;clear g c;revert F2;revert oJ;revert w;exact kk):A:=m HR h.out c k
end Go.Proofs.N0
