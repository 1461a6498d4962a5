/- Texts YtnkbpigjdojakaaGreatHdFirst .. YtnkbpigjdojakaaGreatVtAsP, joined. What they prove: the contracts of the functions that the law reaches, and plain law. -/
import Derived.Test.YtnkbpigjdojakaaGreatG3
import Derived.Test.YtnkbpigjdojakaaGreatProg
import Derived.Test.YtnkbpigjdojakaaGreatRows
import Derived.Maps.OwnSet
import Derived.WalkKit
import Derived.Lib.Hide
import Derived.Lib.MinMax
import Derived.Outline
import Derived.WalkLawsBesides
import Derived.WalkSpells
import Derived.LoopTactic
import Derived.Deep.RegionHeld3
import Derived.StillTailTactics
import Derived.Deep.WholeRow
import Derived.Laws.CopyOwn
import Derived.Laws.StructEq
import Derived.Laws.Tables
import Derived.KernelRfl
import Derived.Shelf.Small.Strs
import Derived.Shelf.Strconv.Itoa0
import Derived.Shelf.Strings.Search1
import Derived.Deep.QuietTactic
import Derived.BigQuiet
import Derived.Lib.ConvBytes
import Derived.Lib.SmallJoins
import Derived.Lib.EndianBits
import Derived.OneCell
set_option maxRecDepth 100000
set_option maxHeartbeats 6400000
theorem yl:type_of% @Array.getD_eq_getD_getElem?:=@Array.getD_eq_getD_getElem?
theorem NG:type_of% @Array.getElem?_setIfInBounds:=@Array.getElem?_setIfInBounds
theorem BD:type_of% @List.take_of_length_le:=@List.take_of_length_le
theorem JD:type_of% @List.getElem_cons_succ:=@List.getElem_cons_succ
variable {A:Prop}
theorem a966 (h:A:=by
 have hq:=HR.out;simp only [h1,af.dr] at hq;obtain ⟨z,h2,he⟩:=af.ve h1;have HE:=Hi he;have CB:=Hi (F0.out.Jo (by decide) h2);have HQ:=Hi hq;clear h1 h2 he hq;refine CB.out.mono ?_;rintro e w1 ⟨rfl,g1⟩;have F1:=Hi ((g1.sub (zq _ _)).alloc (cl (eK z) 84));clear g1 CB F0;go_wp2_with fail;refine (jz HE.out _).mono ?_;rintro e w2 ⟨rfl,rfl⟩;exact ⟨rfl,by rw [←HQ.out];exact ⟨rfl,F1.out.sub (zq _ _)⟩⟩):A:=h
theorem a994 (h:A:=by
 have hq:af.cE s6 y6 b=R:=yG.out;rw [h7] at hq;refine (dx F6.out PV.out HB.out h7).mono ?_;rintro e w7 ⟨rfl,_,g⟩;exact ⟨rfl,by rw [←hq];exact ⟨rfl,g.sub ((zq _ _).trans (zq _ _))⟩⟩):A:=h
theorem a93 (h:A:=by
 intro L' v x jR hW hF hbk hM;refine ⟨aK rfl,?_⟩;simp only [aq,Act.put,aX,jr,aY];refine eN rfl (fun q hb=>⟨rfl,⟨hM.1.later hb,hM.2⟩⟩) ?_;go_big_quiet_step (fail);exact wpQuiet_nil rfl):A:=h
theorem wo (h:A:=by
 intro L' v x jR hW hF hbk hM;have e1:v 1=vP W.heap.size 0:=hF 1 _ (by decide) rfl;have hc:=hM.1.get 3 rfl;have y0:∀ z:Later x,z.world.cell? ⟨W.heap.size,0,none⟩=some (vI a):=fun z=>z.cell (by simp [World.cell?,hc]);clear hc;refine ⟨aK rfl,?_⟩;simp only [aq,Act.put,aX,jr,aY,e1];refine eN rfl (fun q hb=>⟨rfl,⟨hM.1.later hb,hM.2⟩⟩) ?_;exact Dq):A:=h
theorem aan (h:A:=by
 unfold Oper.wp;go_simp;refine CC.out.mono ?_;rintro e q ⟨rfl,hq⟩;exact ⟨rfl,hq⟩):A:=h
theorem a963 (h:A:=by
 intro L' v x jR hW hF hbk hM;have e5:v 5=vP W.heap.size 1:=hF 5 _ (by decide) rfl;have hc:=hM.1.get 3 rfl;have y0:∀ z:Later x,z.world.cell? ⟨W.heap.size,1,none⟩=some (vI b):=fun z=>z.cell (by simp [World.cell?,hc]);clear hc;refine ⟨aK rfl,?_⟩;simp only [aq,Act.put,aX,jr,aY,e5];refine eN rfl (fun q hb=>⟨rfl,⟨hM.1.later hb,hM.2⟩⟩) ?_;exact Dq):A:=h
theorem a945 (h:A:=by
 rintro e q ⟨rfl,z,hq⟩;have F5:=Hi hq;clear hq;have hc:=F5.out.get 1 rfl;refine mO rfl (old:=vI 0) (by simp [World.cell?,hc]) (by simp [World.frozen?,hc]) ?_;have F7:=Hi ((((F5.out.sub (zq _ _)).later ((Below.refl _ _).alloc (cC _) (cl #[vI er] 227))).set 0 (vI er)));have g0:=F7.out.get 0 rfl;have g1:=F7.out.get 1 rfl;refine ⟨.tuple #[.agg #[vI 0,vI 0],vI er],?_,rfl,?_⟩
 ·simp [results,Tryz.results49,go_sem,World.cell?,g0,g1]
 ·exact F7.out.sub ((zq _ _).trans ((zq _ _).trans (zq _ _)))):A:=h
theorem LF (h:A:=by
 intro L' v x jR hW hF hbk hM;exact absurd (hW 3 (by decide)) (by rw [hM.2];simp)):A:=h
theorem K6 (h:A:=by
 intro L' v x jR hW hF hbk hM;exact absurd (hW 7 (by decide)) (by rw [hM.2.2];simp)):A:=h
theorem c932 (h:A:=by simp [execOp,hop,hx]):A:=h
theorem c933 (h:A:=by simp only [execOp,hop];simp [hf,Result.andThen]):A:=h
theorem eU (h:A:=by decide +kernel):A:=h
theorem Zy (h:A:=by
 exact absurd (by rw [←h1,e];exact mG (f:=(·.1)) h2) hn.1):A:=h
theorem ZA (h:A:=by
 exact absurd (by rw [←h2,←e];exact mG (f:=(·.1)) h1) hn.1):A:=h
theorem c935 (h:A:=by rw [h.size];exact hlt):A:=h
theorem WG (h:A:=by rw [eval_put hsz,if_pos rfl]):A:=h
theorem c937 (h:A:=by rw [h0] at hl;simp at hl):A:=h
theorem Qt (h:A:=by
 obtain ⟨g,k1,k2,k3⟩:=h.slices y hy (by simpa [e1] using yH);exact ⟨g,by rw [eval_put hsz,if_neg e2];exact k1,k2,k3⟩):A:=h
theorem c938 (h:A:=by rw [hv] at k1;injection k1 with k1;injection k1 with k1;exact k1.symm):A:=h
theorem c939 (h:A:=by rw [eval_put hsz,if_neg (by decide)];exact k1):A:=h
theorem Ru (h:A:=by simp only [List.map_toArray,jQ,uL,e0];kernel_rfl):A:=h
theorem FW (h:A:=by simp [bL]):A:=h
theorem YX (h:A:=by
 exact aB rfl rfl (Rv rfl rfl k1 rfl rfl hrun hI)):A:=h
theorem YM (h:A:=by
 rw [ef];exact .inr ⟨by decide,g,rfl,g2,g3⟩):A:=h
theorem Rs (h:A:=by
 clear hu;go_enter Tryz.func116,Tryz.ntmps116;go_wp2_with fail;go_end0;exact ⟨rfl,(Below.refl _ _).alloc (Nat.le_of_eq (size_setCell _ _ _).symm) _⟩):A:=h
theorem D9 (h:A:=by simpa using hi):A:=h
theorem a9148 (h:A:=by
 simp only [yl,tC (show i<listed.size by omega),uy] at this ⊢;exact this):A:=h
theorem FX (h:A:=by rw [←HN.out];exact hlt):A:=h
theorem c944 (h:A:=by rw [LD];exact KX hfl):A:=h
theorem c945 (h:A:=by rw [Fv hfl,LD]):A:=h
theorem WI (h:A:=by rw [←hf];unfold jT;rw [if_pos h3]):A:=h
theorem NH (h:A:=by rw [←HN.out];omega):A:=h
theorem a998 (h:A:=by
 go_wp2_with fail
 go_roundw
 case rel=>exact PX.out
 case measure=>simp [intOf];omega):A:=h
theorem Rw (h:A:=by rw [IntKind.wrap_u64];omega):A:=h
theorem Rx (h:A:=by unfold jT;rw [if_neg h3];split<;>exact ⟨_,_,rfl⟩):A:=h
theorem WJ (h:A:=by rw [←hf];exact em):A:=h
theorem a985 (h:A:=by
 clear hy3;refine ay (by kernel_rfl) (by kernel_rfl) ?_;repeat go_big_quiet_step (exact Calls.later (CG.out _))
 refine wpQuiet_nil ?_;rintro ⟨w3,hb3⟩;change Exit.then _ _ _ _ w3;have M5:=Hi (M4.out.later hb3);clear hb3;clear rf;go_wp2_with fail;go_ret;exact ⟨gH hrf.symm,M5.out.dZ⟩):A:=h
theorem ym (h:A:=by push_cast;rfl):A:=h
theorem c952 (h:A:=by rw [Ry _ _ h2 (af.Qe _)];push_cast;rfl):A:=h
theorem QO (h:A:=by
 intro j u hj
 match j,hj with
 | 0,hj=>simp at hj;subst hj;simp [Addr.add]):A:=h
theorem a9159 (h:A:=by
 obtain ⟨HI,HB⟩:=hi2 hinv' iK;clear hown' hgrow' hown hinv' iK;go_wp2;go_end0;exact ⟨rfl,⟨_,HI.out⟩,HB.out⟩):A:=h
namespace Go.Proofs.N0
open Go.RowKit Go.Maps Go.ChangeMaps
variable {y:af.Sym} {er p:Nat} {st:af.Store} {S:List Nat} {w0 W w:World} {L:List (Nat×Obj)} {text:List UInt8} {a b:Int} {tmps cap:Array Value}
def Ea (S:List Nat) (w0:World) (p:Nat) (L:List (Nat×Obj)) (r:af.aW af.Sym) (e:Ending) (w':World):Prop:=match r with
 | (s,.ok z)=>∃ t,e=.returned (vP t 0)∧SF S w0 w' p s ((t,aA p z)::L)
 | (s,.error er)=>e=.panicked (bI er)∧SF S w0 w' p s L
section
variable {S:List Nat} {w0 W:World} {p:Nat} {st:af.Store} {L:List (Nat×Obj)}
theorem SF.Jo {s:List UInt8} {st':af.Store} (h:SF S w0 W p st L) (hs:s.length≤9223372036854775807) (hf:af.iB st s=(st',y,er)):Calls Tryz.prog 94 #[vP p 0,vS s] W fun e w'=>e=.returned (.tuple #[.agg (eK y),vI er])∧SF S w0 w' p st' L :=
 h.call (by have:=af.qB (s:=s) h.ok hs;rw [hf] at this;exact this) fun S1 hs1=>Jf W hs1 h.ok hs hf
end
theorem nG {s:af.Store} {l:List UInt8} (h:st.Ok) (hf:af.Bo (af.iB st l)=(s,.ok y)):y.Wf:=by
 have h1:=af.fK hf;have hn:=af.cY h ⟨1,l,0,0,0,0⟩;unfold af.iB af.Store.aZ at h1;split at h1
 ·rename_i h2;simp only [Prod.mk.injEq] at h1;exact absurd h1.2.2 h2
 ·simp only [Prod.mk.injEq] at h1;rw [←h1.2.1];exact ⟨af.eC hn,af.aL,af.eC hn,by show (0:Nat)<_;omega⟩
theorem RD (x:Int) (b:Value) (w:World):(Instr.index 49 (.agg #[vI x,b]) (vI 0)).run Tryz.prog w=.ok (vI x) w:=aI
theorem RF (x:Int) (a:Value) (w:World):(Instr.index 49 (.agg #[a,vI x]) (vI 1)).run Tryz.prog w=.ok (vI x) w:=aI
theorem RG (x:UInt8) (n:Int) (hn:(x.toNat:Int)=n) (w:World):(convert 22 9 (vL w.heap.size 0 1 1)).run Tryz.prog (w.alloc (cl #[.int .u8 n] 5))=.ok (vS [x]) (w.alloc (cl #[.int .u8 n] 5)) :=
 run_convert_bytes_back (P:=Tryz.prog) _ 22 9 5 ⟨w.heap.size,0,none⟩ 1 [x] Tryz.underlying22 Tryz.underlying5 Tryz.underlying9 (fun j hj=>by
  obtain rfl:j=0:=by simp at hj;omega
  have h:=heap_alloc_new w (cl #[.int .u8 n] 5);show World.cell? _ ⟨w.heap.size,0,none⟩=_;simp only [World.cell?,h];rw [←hn];rfl)
theorem WL {R:af.aW af.Sym} (h:SF S w0 W p st L) (ht:text.length≤9223372036854775807) (ha:af.Int64 a) (hb:af.Int64 b) (hf:af.firstT st text 0 ⟨a,b⟩=R) :
 Calls Tryz.prog 56 #[vP p 0,vS text,vI 0,.agg #[vI a,vI b]] W (Ea S w0 p L R):=by
 obtain ⟨HT,HA,HB,HO⟩:=hi4 ht ha hb h.ok
 have HR:=Hi hf
 unfold af.firstT at HR
 simp only [show af.mD 0=[48] from rfl] at HR
 have F0:=Hi (h.alloc (cl #[vI a,vI b] 62))
 clear h ht ha hb hf
 obtain ⟨s1,r1,h1⟩:∃ s r,af.Bo (af.iB st af.Fg)=(s,r):=⟨_,_,rfl⟩
 have yV:=RG 48 48 rfl
 have Wp:∀ (fn:Fn) (first cap:Array Value) (w:World),(Instr.makeFunc fn first cap).run Tryz.prog w=.ok (.func fn first cap) w:=fun _ _ _ _=>rfl
 have i0:=RD
 have i1:=RF
 go_enter Tryz.func56,Tryz.ntmps56
 go_wp2_with fail
 rcases r1 with er|y1
 ·exact a966
 have hq:=HR.out;simp only [h1,af.dr] at hq
 have tN:=Hi hq
 have Eb:=Hi (nG HO.out h1)
 have CB:=Hi (F0.out.Jo aG (af.fK h1))
 clear hq HR h1
 refine CB.out.mono ?_
 rintro e w1 ⟨rfl,g1⟩
 have F1:=Hi (((g1.alloc (cl (eK y1) 84)).alloc (aA p y1)).sub (List.Sublist.cons_cons _ (zq _ _)))
 simp only [World.size_alloc] at F1
 clear g1 CB F0
 go_wp2_with fail
 refine (jy _).mono ?_
 rintro e w2 ⟨rfl,rfl⟩
 go_wp2_with fail
 have NI:=Hi F1.out.ok
 refine gM (af.mC s1 text) (fun _ _ h2=>gN tN h2 (mM F1.out HT.out h2)) fun s2 x2 zM=>?_
 refine cg tN zM (mL F1.out HT.out zM.out) ?_
 intro w2 oJ F2
 clear F1 tN
 have r:=dw F2.out.mem.rules
 go_wp2_with fail
 clear r
 have PY:=Hi (af.di NI.out zM.out)
 have NJ:=Hi F2.out.ok
 refine gM (af.cE s2 y1 x2) (fun _ _ h3=>gN oJ h3 (dx F2.out Eb.out PY.out h3)) fun s3 y3 wD=>?_
 refine cg oJ wD (dg F2.out Eb.out PY.out wD.out) ?_
 intro w3 uq F3
 clear F2 oJ
 have r:=dw F3.out.mem.rules
 go_wp2_with fail
 clear r
 have zN:=Hi (af.aU NJ.out Eb.out wD.out)
 have WM:=Hi (F3.out.later ((Below.refl _ _).alloc (cC _) (cl #[.int .u8 48] 5)))
 clear F3
 have NK:=Hi WM.out.ok
 refine gM (af.mC s3 [48]) (fun _ _ h4=>gN uq h4 (mM WM.out aH h4)) fun s4 x4 wF=>?_
 refine cg uq wF (mL WM.out aH wF.out) ?_
 intro w4 ur F4
 clear WM uq
 have r:=dw F4.out.mem.rules
 go_wp2_with fail
 clear r
 have WN:=Hi (af.di NK.out wF.out)
 have NL:=Hi F4.out.ok
 refine gM (af.cE s4 y3 x4) (fun _ _ h5=>gN ur h5 (dx F4.out zN.out WN.out h5)) fun s5 y5 wG=>?_
 refine cg ur wG (dg F4.out zN.out WN.out wG.out) ?_
 intro w5 wH F5
 clear F4 ur
 have r:=dw F5.out.mem.rules
 go_wp2_with fail
 clear r
 have Ec:=Hi (af.aU NL.out zN.out wG.out)
 refine wp_loop_rounds 3 ?_
 simp only [rounds_succ]
 go_wp2_with fail
 have NM:=Hi F5.out.ok
 refine gM (af.cE s5 y5 a) (fun _ _ h6=>gN wH h6 (dx F5.out Ec.out HA.out h6)) fun s6 y6 wI=>?_
 refine cg wH wI (dg F5.out Ec.out HA.out wI.out) ?_
 intro w6 yG F6
 clear F5 wH
 have r:=dw F6.out.mem.rules
 go_wp2_with fail
 clear r
 have PV:=Hi (af.aU NM.out Ec.out wI.out)
 simp only [rounds_succ]
 go_wp2_with fail
 obtain ⟨s7,r7,h7⟩:∃ s r,af.cE s6 y6 b=(s,r):=⟨_,_,rfl⟩
 rcases r7 with er|y7
 ·exact a994
 have hq:af.cE s6 y6 b=R:=yG.out
 rw [h7] at hq
 have zO:=Hi hq
 clear hq
 refine (dg F6.out PV.out HB.out h7).mono ?_
 rintro e w7 ⟨rfl,g⟩
 have F7:=Hi g
 clear g h7 F6
 simp only [rounds_succ]
 go_wp2_with fail
 simp only [rounds_succ]
 go_wp2_with fail
 go_ret
 rw [←zO.out]
 exact ⟨_,rfl,F7.out.sub (List.Sublist.cons_cons _ (zq _ _))⟩
theorem WO {R:af.aW af.Sym} (h:SF S w0 W p st L) (ht:text.length≤9223372036854775807) (ha:af.Int64 a) (hb:af.Int64 b) (hf:af.firstT st text 1 ⟨a,b⟩=R) :
 Calls Tryz.prog 56 #[vP p 0,vS text,vI 1,.agg #[vI a,vI b]] W (Ea S w0 p L R):=by
 obtain ⟨HT,HA,HB,HO⟩:=hi4 ht ha hb h.ok
 have HR:=Hi hf
 unfold af.firstT at HR
 simp only [show af.mD 1=[49] from rfl] at HR
 have F0:=Hi (h.alloc (cl #[vI a,vI b] 62))
 clear h ht ha hb hf
 obtain ⟨s1,r1,h1⟩:∃ s r,af.Bo (af.iB st af.Fg)=(s,r):=⟨_,_,rfl⟩
 have yV:=RG 49 49 rfl
 have Wp:∀ (fn:Fn) (first cap:Array Value) (w:World),(Instr.makeFunc fn first cap).run Tryz.prog w=.ok (.func fn first cap) w:=fun _ _ _ _=>rfl
 have i0:=RD
 have i1:=RF
 go_enter Tryz.func56,Tryz.ntmps56
 go_wp2_with fail
 rcases r1 with er|y1
 ·exact a966
 have hq:=HR.out;simp only [h1,af.dr] at hq
 have tN:=Hi hq
 have Eb:=Hi (nG HO.out h1)
 have CB:=Hi (F0.out.Jo aG (af.fK h1))
 clear hq HR h1
 refine CB.out.mono ?_
 rintro e w1 ⟨rfl,g1⟩
 have F1:=Hi (((g1.alloc (cl (eK y1) 84)).alloc (aA p y1)).sub (List.Sublist.cons_cons _ (zq _ _)))
 simp only [World.size_alloc] at F1
 clear g1 CB F0
 go_wp2_with fail
 refine (jy _).mono ?_
 rintro e w2 ⟨rfl,rfl⟩
 go_wp2_with fail
 have NI:=Hi F1.out.ok
 refine gM (af.mC s1 text) (fun _ _ h2=>gN tN h2 (mM F1.out HT.out h2)) fun s2 x2 zM=>?_
 refine cg tN zM (mL F1.out HT.out zM.out) ?_
 intro w2 oJ F2
 clear F1 tN
 have r:=dw F2.out.mem.rules
 go_wp2_with fail
 clear r
 have PY:=Hi (af.di NI.out zM.out)
 have NJ:=Hi F2.out.ok
 refine gM (af.cE s2 y1 x2) (fun _ _ h3=>gN oJ h3 (dx F2.out Eb.out PY.out h3)) fun s3 y3 wD=>?_
 refine cg oJ wD (dg F2.out Eb.out PY.out wD.out) ?_
 intro w3 uq F3
 clear F2 oJ
 have r:=dw F3.out.mem.rules
 go_wp2_with fail
 clear r
 have zN:=Hi (af.aU NJ.out Eb.out wD.out)
 have WM:=Hi (F3.out.later ((Below.refl _ _).alloc (cC _) (cl #[.int .u8 49] 5)))
 clear F3
 have NK:=Hi WM.out.ok
 refine gM (af.mC s3 [49]) (fun _ _ h4=>gN uq h4 (mM WM.out aH h4)) fun s4 x4 wF=>?_
 refine cg uq wF (mL WM.out aH wF.out) ?_
 intro w4 ur F4
 clear WM uq
 have r:=dw F4.out.mem.rules
 go_wp2_with fail
 clear r
 have WN:=Hi (af.di NK.out wF.out)
 have NL:=Hi F4.out.ok
 refine gM (af.cE s4 y3 x4) (fun _ _ h5=>gN ur h5 (dx F4.out zN.out WN.out h5)) fun s5 y5 wG=>?_
 refine cg ur wG (dg F4.out zN.out WN.out wG.out) ?_
 intro w5 wH F5
 clear F4 ur
 have r:=dw F5.out.mem.rules
 go_wp2_with fail
 clear r
 have Ec:=Hi (af.aU NL.out zN.out wG.out)
 refine wp_loop_rounds 3 ?_
 simp only [rounds_succ]
 go_wp2_with fail
 have NM:=Hi F5.out.ok
 refine gM (af.cE s5 y5 a) (fun _ _ h6=>gN wH h6 (dx F5.out Ec.out HA.out h6)) fun s6 y6 wI=>?_
 refine cg wH wI (dg F5.out Ec.out HA.out wI.out) ?_
 intro w6 yG F6
 clear F5 wH
 have r:=dw F6.out.mem.rules
 go_wp2_with fail
 clear r
 have PV:=Hi (af.aU NM.out Ec.out wI.out)
 simp only [rounds_succ]
 go_wp2_with fail
 obtain ⟨s7,r7,h7⟩:∃ s r,af.cE s6 y6 b=(s,r):=⟨_,_,rfl⟩
 rcases r7 with er|y7
 ·exact a994
 have hq:af.cE s6 y6 b=R:=yG.out
 rw [h7] at hq
 have zO:=Hi hq
 clear hq
 refine (dg F6.out PV.out HB.out h7).mono ?_
 rintro e w7 ⟨rfl,g⟩
 have F7:=Hi g
 clear g h7 F6
 simp only [rounds_succ]
 go_wp2_with fail
 simp only [rounds_succ]
 go_wp2_with fail
 go_ret
 rw [←zO.out]
 exact ⟨_,rfl,F7.out.sub (List.Sublist.cons_cons _ (zq _ _))⟩
theorem oB {slot:Int} {R:af.aW af.Sym} (h:SF S w0 W p st L) (ht:text.length≤9223372036854775807) (hs:slot=0∨slot=1) (ha:af.Int64 a) (hb:af.Int64 b) (hf:af.firstT st text slot ⟨a,b⟩=R) :
 Calls Tryz.prog 56 #[vP p 0,vS text,vI slot,.agg #[vI a,vI b]] W (Ea S w0 p L R):=by
 rcases hs with rfl|rfl
 ·exact WL h ht ha hb hf
 ·exact WO h ht ha hb hf
section
variable {S:List Nat} {w0 W:World} {p:Nat} {st:af.Store} {A B L:List (Nat×Obj)}
theorem SF.ai {k:Nat} {cs:Array Value} {T:TypeId} (h:SF S w0 W p st (A++(k,.cells cs T (0,0))::B)) (i:Nat) (v:Value):SF S w0 (W.setCell ⟨k,i,none⟩ v) p st (A++(k,.cells (cs.setIfInBounds i v) T (0,0))::B) :=
 ((h.perm tE).set i v).perm List.perm_middle.symm
end
theorem oC {fn:Func} {R:Ending→World→Prop} {a:Addr} (hc:cap=#[])
 (h:∃ v,(results fn tmps).run Tryz.prog (w.alloc (cl #[vI 0] 227))=.ok v (w.alloc (cl #[vI 0] 227))∧R (.returned v) (w.alloc (cl #[vI 0] 227))) :
 Leaves Tryz.prog fn tmps R [{target:=.fn (.func 54) cap,args:=#[.pointer (some a)]}] .returning w:=by
 subst hc
 refine leaves_cons (f:=54) (args:=#[.pointer (some a)]) aH (by simp [go_sem]) ?_
 refine (Jm a w).mono ?_
 rintro e u' w'' ⟨rfl,rfl,rfl⟩
 exact h
theorem mO {fn:Func} {R:Ending→World→Prop} {a:Addr} {old:Value} (hc:cap=#[]) (cP:w.cell? a=some old) (hz:w.frozen? a=false)
 (h:∃ v,(results fn tmps).run Tryz.prog ((w.alloc (cl #[vI er] 227)).setCell a (vI er))=.ok v ((w.alloc (cl #[vI er] 227)).setCell a (vI er))∧R (.returned v) ((w.alloc (cl #[vI er] 227)).setCell a (vI er))) :
 Leaves Tryz.prog fn tmps R [{target:=.fn (.func 54) cap,args:=#[.pointer (some a)]}] (.panicking (bI er)) w:=by
 subst hc
 refine leaves_cons (f:=54) (args:=#[.pointer (some a)]) aH (by simp [go_sem]) ?_
 refine (yj a old er [] w cP hz).mono ?_
 rintro e u' w'' ⟨rfl,rfl,rfl⟩
 exact h
end Go.Proofs.N0
namespace Go.Proofs.N0
open Go.RowKit Go.Maps Go.ChangeMaps
variable {S:List Nat} {w0 W:World} {p er:Nat} {st s1 s2:af.Store} {L:List (Nat×Obj)} {a b x1:Int}
def LG (S:List Nat) (w0:World) (p:Nat) (L:List (Nat×Obj)) (r:af.aW af.Pair) (e:Ending) (w':World):Prop:=match r with
 | (s,.ok z)=>e=.returned (.tuple #[.agg #[vI z.dh,vI z.cD],vI 0])∧SF S w0 w' p s L
 | (s,.error er)=>e=.returned (.tuple #[.agg #[vI 0,vI 0],vI er])∧SF S w0 w' p s L
theorem pub_ok {x2:Int} (h:SF S w0 W p st L) (ha:af.Int64 a) (hb:af.Int64 b) (hf:af.eD st a=(s1,.ok x1)) (hg:af.eG s1 b=(s2,.ok x2)) :
 Calls Tryz.prog 49 #[vP p 0,.agg #[vI a,vI b]] W (LG S w0 p L (s2,.ok ⟨x1,x2⟩)):=by
 have HF:=Hi hf
 clear hf
 have HG:=Hi hg
 clear hg
 have F0:=Hi ((((h.alloc (cl #[vI a,vI b] 62)).alloc (cl #[vI 0,vI 0] 62)).alloc (cl #[vI 0] 28)).alloc (aA p af.fj))
 simp only [World.size_alloc] at F0
 obtain ⟨HA,HB⟩:=hi2 ha hb
 clear h ha hb
 go_enter_defers Tryz.func49,Tryz.ntmps49
 go_wp2_with fail
 refine rP (n:=19) (fun k=>match k with
  | 0=>some (vP (W.heap.size+1+1+1) 0)
  | 1=>some (vP W.heap.size 0)
  | 2=>some (vI a)
  | 4=>some (vP (W.heap.size+1+1+1) 0)
  | 5=>some (vP W.heap.size 1)
  | 6=>some (vI b)
  | 8=>some (.agg #[vI x1,vI x2])
  | _=>none) (fun L' v x=>SF S w0 x p (if L' 7=true then s2 else if L' 3=true then s1 else st) ((W.heap.size+1+1+1,aA p af.fj)::(W.heap.size+1+1,cl #[vI 0] 28)::(W.heap.size+1,cl (if L' 9=true then #[vI x1,vI x2] else #[vI 0,vI 0]) 62)::(W.heap.size,cl #[vI a,vI b] 62)::L)∧(L' 3=true→v 3=vI x1)∧(L' 7=true→v 7=vI x2)∧(L' 9=true→L' 7=true)∧(L' 7=true→L' 3=true)) aI aI ?_ ?_ ?_ ?_
 ·intro L' v hL;have e3:=hL 3 aH;have e7:=hL 7 aH;have e9:=hL 9 aH;refine ⟨?_,fun h=>(by rw [e3] at h;cases h),fun h=>(by rw [e7] at h;cases h),fun h=>(by rw [e9] at h;cases h),fun h=>(by rw [e7] at h;cases h)⟩;rw [e3,e7,e9];exact F0.out.later (Below.refl _ _).drew
 ·intro L1 L2 v v' x hk hM;obtain ⟨h1,h2,h3,h4,h5⟩:=hM;have e3:=hk 3 aH rfl;have e7:=hk 7 aH rfl;have e9:=hk 9 aH rfl;refine ⟨?_,fun h=>?_,fun h=>?_,fun h=>?_,fun h=>?_⟩
  ·rw [←e3.1,←e7.1,←e9.1];exact h1
  ·have h':=e3.1.trans h;exact (e3.2 h').symm.trans (h2 h')
  ·have h':=e7.1.trans h;exact (e7.2 h').symm.trans (h3 h')
  ·rw [←e7.1];exact h4 (e9.1.trans h)
  ·rw [←e3.1];exact h5 (e7.1.trans h)
 ·refine ⟨?_,?_,?_,?_,?_,?_,?_,?_,?_,?_,?_,trivial⟩
  ·exact a93
  ·exact a93
  ·exact wo
  ·intro L' v x jR hW hF hbk hM;have e0:v 0=vP (W.heap.size+1+1+1) 0:=hF 0 _ aG rfl;have e2:v 2=vI a:=hF 2 _ aG rfl;obtain ⟨h1,h2,h3,h4,h5⟩:=hM;have e7:L' 7=false:=by
    cases hc:L' 7 with
    | false=>rfl
    | true=>have:=h5 hc;rw [jR] at this;cases this
   have e9:L' 9=false:=by
    cases hc:L' 9 with
    | false=>rfl
    | true=>have:=h4 hc;rw [e7] at this;cases this
   rw [e7,jR,e9] at h1;have CC:=Hi (jc h1 HA.out HF.out);refine ⟨aK rfl,?_⟩;simp only [aq,Act.put,aX,jr,aY,e0,e2];refine mJ (fun q=>SF S w0 q p s1 ((W.heap.size+1+1+1,aA p af.fj)::(W.heap.size+1+1,cl #[vI 0] 28)::(W.heap.size+1,cl #[vI 0,vI 0] 62)::(W.heap.size,cl #[vI a,vI b] 62)::L)) (fun q hq=>⟨vI x1,rfl,by simp only [bF,Nat.reduceAdd,Nat.reduceBEq,beq_self_eq_true,Bool.or_true,pS,Nat.reduceEqDiff,if_true,if_false,reduceIte];rw [e7,e9];exact ⟨hq,fun _=>by first|trivial|rfl|assumption,fun h=>(by cases h),fun h=>(by cases h),fun h=>(by cases h)⟩⟩) ?_;exact aan
  ·exact a93
  ·exact a93
  ·exact a963
  ·intro L' v x jR hW hF hbk hM;have e4:v 4=vP (W.heap.size+1+1+1) 0:=hF 4 _ aG rfl;have e6:v 6=vI b:=hF 6 _ aG rfl;have n3:=hW 3 aG;obtain ⟨h1,h2,h3,h4,h5⟩:=hM;have e9:L' 9=false:=by
    cases hc:L' 9 with
    | false=>rfl
    | true=>have:=h4 hc;rw [jR] at this;cases this
   rw [n3,jR,e9] at h1;have h2:=h2 n3;have CC:=Hi (oU h1 HB.out HG.out);refine ⟨aK rfl,?_⟩;simp only [aq,Act.put,aX,jr,aY,e4,e6];refine mJ (fun q=>SF S w0 q p s2 ((W.heap.size+1+1+1,aA p af.fj)::(W.heap.size+1+1,cl #[vI 0] 28)::(W.heap.size+1,cl #[vI 0,vI 0] 62)::(W.heap.size,cl #[vI a,vI b] 62)::L)) (fun q hq=>⟨vI x2,rfl,by simp only [bF,Nat.reduceAdd,Nat.reduceBEq,beq_self_eq_true,Bool.or_true,pS,Nat.reduceEqDiff,if_true,if_false,reduceIte];rw [n3,e9];exact ⟨hq,fun _=>h2,fun _=>by first|trivial|rfl|assumption,fun h=>(by cases h),fun _=>by first|trivial|rfl|assumption⟩⟩) ?_;exact aan
  ·intro L' v x jR hW hF hbk hM;have e3:=hM.2.1 (hW 3 aG);have e7:=hM.2.2.1 (hW 7 aG);refine ⟨aK rfl,?_⟩;simp only [aq,Act.put,aX,jr,aY,e3,e7];refine eN rfl (fun q hb=>⟨rfl,hM.1.later hb,fun _=>by first|trivial|exact e3,fun _=>by first|trivial|exact e7,hM.2.2.2⟩) ?_;exact Dq
  ·intro L' v x jR hW hF hbk hM;have e8:v 8=.agg #[vI x1,vI x2]:=hF 8 _ aG rfl;have n7:=hW 7 aG;have n3:=hW 3 aG;obtain ⟨h1,h2,h3,h4,h5⟩:=hM;rw [n7,jR] at h1;have hc:=h1.get 2 rfl;have c0:x.cell? ⟨W.heap.size+1,0,none⟩=some (vI 0)∧x.cell? ⟨W.heap.size+1,1,none⟩=some (vI 0)∧x.frozen? ⟨W.heap.size+1,0,none⟩=false∧x.frozen? ⟨W.heap.size+1,1,none⟩=false:=by simp [World.cell?,World.frozen?,hc]
   have HS:=Hi (SF.ai (A:=[_,_]) (SF.ai (A:=[_,_]) h1 0 (vI x1)) 1 (vI x2));clear h1 hc;refine ⟨aK rfl,?_⟩;simp only [aq,Act.put,aX,jr,aY,e8];refine lT (W:=(x.setCell ⟨W.heap.size+1,0,none⟩ (vI x1)).setCell ⟨W.heap.size+1,1,none⟩ (vI x2)) ⟨undef,rfl,by simp only [bF,Nat.reduceAdd,Nat.reduceBEq,beq_self_eq_true,Bool.or_true,pS,Nat.reduceEqDiff,if_true,if_false,reduceIte];rw [n7,n3];exact ⟨HS.out,fun _=>h2 n3,fun _=>h3 n7,fun _=>by first|trivial|rfl|assumption,fun _=>by first|trivial|rfl|assumption⟩⟩ ?_;unfold Oper.wp;go_simp
  ·intro L' v x jR hW hF hbk hM;have n9:=hW 9 aG;obtain ⟨h1,h2,h3,h4,h5⟩:=hM;have hc:=h1.get 1 rfl;have c0:x.cell? ⟨W.heap.size+1+1,0,none⟩=some (vI 0)∧x.frozen? ⟨W.heap.size+1+1,0,none⟩=false:=by simp [World.cell?,World.frozen?,hc]
   have HS:=Hi (SF.ai (A:=[_]) h1 0 (vI 0));clear h1 hc;refine ⟨aK rfl,?_⟩;simp only [aq,Act.put,aX,jr,aY];refine lT (W:=x.setCell ⟨W.heap.size+1+1,0,none⟩ (vI 0)) ⟨undef,rfl,by simp only [bF,Nat.reduceAdd,Nat.reduceBEq,beq_self_eq_true,Bool.or_true,pS,Nat.reduceEqDiff,if_true,if_false,reduceIte];exact ⟨HS.out,h2,h3,h4,h5⟩⟩ ?_;unfold Oper.wp;go_simp
 ·intro L' v x hL hF hM;obtain ⟨h1,_⟩:=hM;rw [hL 3 aH,hL 7 aH,hL 9 aH] at h1;have F1:Hid (SF S w0 x p s2 ((W.heap.size+1+1+1,aA p af.fj)::(W.heap.size+1+1,cl #[vI 0] 28)::(W.heap.size+1,cl #[vI x1,vI x2] 62)::(W.heap.size,cl #[vI a,vI b] 62)::L)):=Hi h1;clear h1 hF hL F0;simp only [aq,Act.put,aX,jr,aY];go_wp2_with fail;refine oC rfl ?_;have F2:=Hi (F1.out.later ((Below.refl _ _).alloc (cC _) (cl #[vI 0] 227)));have g0:=F2.out.get 1 rfl;have g1:=F2.out.get 2 rfl;refine ⟨.tuple #[.agg #[vI x1,vI x2],vI 0],?_,rfl,?_⟩
  ·simp [results,Tryz.results49,go_sem,World.cell?,g0,g1]
  ·exact F2.out.sub ((zq _ _).trans ((zq _ _).trans ((zq _ _).trans (zq _ _))))
theorem pub_e1 (h:SF S w0 W p st L) (ha:af.Int64 a) (hb:af.Int64 b) (hf:af.eD st a=(s1,.error er)) :
 Calls Tryz.prog 49 #[vP p 0,.agg #[vI a,vI b]] W (LG S w0 p L (s1,.error er)):=by
 have HF:=Hi hf
 clear hf
 have F0:=Hi ((((h.alloc (cl #[vI a,vI b] 62)).alloc (cl #[vI 0,vI 0] 62)).alloc (cl #[vI 0] 28)).alloc (aA p af.fj))
 simp only [World.size_alloc] at F0
 obtain ⟨HA,HB⟩:=hi2 ha hb
 clear h ha hb
 go_enter_defers Tryz.func49,Tryz.ntmps49
 go_wp2_with fail
 refine rP (n:=19) (fun k=>match k with
  | 0=>some (vP (W.heap.size+1+1+1) 0)
  | 1=>some (vP W.heap.size 0)
  | 2=>some (vI a)
  | 4=>some (vP (W.heap.size+1+1+1) 0)
  | 5=>some (vP W.heap.size 1)
  | 6=>some (vI b)
  | _=>none) (fun L' _ x=>SF S w0 x p st ((W.heap.size+1+1+1,aA p af.fj)::(W.heap.size+1+1,cl #[vI 0] 28)::(W.heap.size+1,cl #[vI 0,vI 0] 62)::(W.heap.size,cl #[vI a,vI b] 62)::L)∧L' 3=false) aI aI ?_ ?_ ?_ ?_
 ·intro L' v hL;exact ⟨F0.out.later (Below.refl _ _).drew,hL 3 aH⟩
 ·intro L1 L2 v v' x hk hM;exact ⟨hM.1,by rw [←(hk 3 (by simp) rfl).1];exact hM.2⟩
 ·refine ⟨?_,?_,?_,?_,?_,?_,?_,?_,?_,?_,?_,trivial⟩
  ·exact a93
  ·exact a93
  ·exact wo
  ·intro L' v x jR hW hF hbk hM;have e0:v 0=vP (W.heap.size+1+1+1) 0:=hF 0 _ aG rfl;have e2:v 2=vI a:=hF 2 _ aG rfl;have hs:=hM.1;refine ⟨aK rfl,?_⟩;simp only [aq,Act.put,aX,jr,aY,e0,e2];refine Oper.wp_mono (K:=fun _ _=>False) (fun _ _ h=>h.elim) ?_;unfold Oper.wp;go_simp;refine (kE hs HA.out HF.out).mono ?_;exact a945
  ·exact a93
  ·exact a93
  ·exact a963
  ·exact LF
  ·exact LF
  ·exact LF
  ·exact LF
 ·intro L' v x hL hF hM;exact absurd (hL 3 aH) (by rw [hM.2];simp)
theorem pub_e2 (h:SF S w0 W p st L) (ha:af.Int64 a) (hb:af.Int64 b) (hf:af.eD st a=(s1,.ok x1)) (hg:af.eG s1 b=(s2,.error er)) :
 Calls Tryz.prog 49 #[vP p 0,.agg #[vI a,vI b]] W (LG S w0 p L (s2,.error er)):=by
 have HF:=Hi hf
 clear hf
 have HG:=Hi hg
 clear hg
 have F0:=Hi ((((h.alloc (cl #[vI a,vI b] 62)).alloc (cl #[vI 0,vI 0] 62)).alloc (cl #[vI 0] 28)).alloc (aA p af.fj))
 simp only [World.size_alloc] at F0
 obtain ⟨HA,HB⟩:=hi2 ha hb
 clear h ha hb
 go_enter_defers Tryz.func49,Tryz.ntmps49
 go_wp2_with fail
 refine rP (n:=19) (fun k=>match k with
  | 0=>some (vP (W.heap.size+1+1+1) 0)
  | 1=>some (vP W.heap.size 0)
  | 2=>some (vI a)
  | 4=>some (vP (W.heap.size+1+1+1) 0)
  | 5=>some (vP W.heap.size 1)
  | 6=>some (vI b)
  | _=>none) (fun L' v x=>SF S w0 x p (if L' 3=true then s1 else st) ((W.heap.size+1+1+1,aA p af.fj)::(W.heap.size+1+1,cl #[vI 0] 28)::(W.heap.size+1,cl #[vI 0,vI 0] 62)::(W.heap.size,cl #[vI a,vI b] 62)::L)∧(L' 3=true→v 3=vI x1)∧L' 7=false) aI aI ?_ ?_ ?_ ?_
 ·intro L' v hL;have e3:=hL 3 aH;refine ⟨?_,fun h=>(by rw [e3] at h;cases h),hL 7 aH⟩;rw [e3];exact F0.out.later (Below.refl _ _).drew
 ·intro L1 L2 v v' x hk hM;obtain ⟨h1,h2,h3⟩:=hM;have e3:=hk 3 aH rfl;refine ⟨?_,fun h=>?_,?_⟩
  ·rw [←e3.1];exact h1
  ·have h':=e3.1.trans h;exact (e3.2 h').symm.trans (h2 h')
  ·rw [←(hk 7 aH rfl).1];exact h3
 ·refine ⟨?_,?_,?_,?_,?_,?_,?_,?_,?_,?_,?_,trivial⟩
  ·exact a93
  ·exact a93
  ·exact wo
  ·intro L' v x jR hW hF hbk hM;have e0:v 0=vP (W.heap.size+1+1+1) 0:=hF 0 _ aG rfl;have e2:v 2=vI a:=hF 2 _ aG rfl;obtain ⟨h1,h2,h3⟩:=hM;rw [jR] at h1;have CC:=Hi (jc h1 HA.out HF.out);refine ⟨aK rfl,?_⟩;simp only [aq,Act.put,aX,jr,aY,e0,e2];refine mJ (fun q=>SF S w0 q p s1 ((W.heap.size+1+1+1,aA p af.fj)::(W.heap.size+1+1,cl #[vI 0] 28)::(W.heap.size+1,cl #[vI 0,vI 0] 62)::(W.heap.size,cl #[vI a,vI b] 62)::L)) (fun q hq=>⟨vI x1,rfl,by simp only [bF,Nat.reduceAdd,Nat.reduceBEq,beq_self_eq_true,Bool.or_true,pS,Nat.reduceEqDiff,if_true,if_false,reduceIte];exact ⟨hq,fun _=>by first|trivial|rfl|assumption,h3⟩⟩) ?_;exact aan
  ·exact a93
  ·exact a93
  ·exact a963
  ·intro L' v x jR hW hF hbk hM;have e4:v 4=vP (W.heap.size+1+1+1) 0:=hF 4 _ aG rfl;have e6:v 6=vI b:=hF 6 _ aG rfl;have n3:=hW 3 aG;obtain ⟨h1,h2,h3⟩:=hM;rw [n3] at h1;refine ⟨aK rfl,?_⟩;simp only [aq,Act.put,aX,jr,aY,e4,e6];refine Oper.wp_mono (K:=fun _ _=>False) (fun _ _ h=>h.elim) ?_;unfold Oper.wp;go_simp;refine (oV h1 HB.out HG.out).mono ?_;exact a945
  ·exact K6
  ·exact K6
  ·exact K6
 ·intro L' v x hL hF hM;exact absurd (hL 7 aH) (by rw [hM.2.2];simp)
theorem lJ {R:af.aW af.Pair} (h:SF S w0 W p st L) (ha:af.Int64 a) (hb:af.Int64 b) (hf:af.dX st ⟨a,b⟩=R) :
 Calls Tryz.prog 49 #[vP p 0,.agg #[vI a,vI b]] W (LG S w0 p L R):=by
 unfold af.dX at hf
 obtain ⟨s1,r1,h1⟩:∃ s r,af.eD st a=(s,r):=⟨_,_,rfl⟩
 simp only [h1] at hf
 rcases r1 with er|x1
 ·simp only [af.dr] at hf;rw [←hf];exact pub_e1 h ha hb h1
 obtain ⟨s2,r2,h2⟩:∃ s r,af.eG s1 b=(s,r):=⟨_,_,rfl⟩
 simp only [af.dr,h2] at hf
 rcases r2 with er|x2
 ·simp only at hf;rw [←hf];exact pub_e2 h ha hb h1 h2
 ·simp only at hf;rw [←hf];exact pub_ok h ha hb h1 h2
end Go.Proofs.N0
namespace Go.Proofs.N0
open Go.RowKit Go.Maps Go.ChangeMaps
variable {w W W':World} {mb n:Nat} {L:List (Nat×Obj)}
def bR (m:af.bJ):Array Value:=(dW m)
def jT (b:Nat) (f:af.oa):List Value :=
 if f.c=3 then [vU 0,vU 0,.pointer none,.pointer none,vP b 3]
 else if af.iT f.c=true then [vU f.lo,vU f.hi,vP b f.c,.pointer none,.pointer none]
 else [vU f.lo,vU f.hi,.pointer none,vP b f.c,.pointer none]
def nV (b:Nat) (l:List af.oa):Array Value:=(l.flatMap (jT b)).toArray
def cK (v:Value):Option (DataW Value×List MemPlace):=some (.held v,[])
theorem lawK:Keyed Tryz.prog 3:=int_keyed Tryz.underlying3
theorem zeroF (w:World):(zeroValue 207).run Tryz.prog w=.ok (.slice none 0 0) w:=aI
theorem mP (a:Option Addr) (w:World):Calls Tryz.prog 113 #[.pointer a] w fun e w'=>e=.returned (.agg #[vU 1,vU 4294967296,.pointer a,.pointer none,.pointer none])∧Below w.heap.size w w':=by go_enter Tryz.func113,Tryz.ntmps113;go_wp2_with fail;refine bodyPost_ret (v:=.agg #[vU 1,vU 4294967296,.pointer a,.pointer none,.pointer none]) (by simp [results,Tryz.results113,go_sem]) rfl ⟨rfl,(Below.refl _ _).alloc (cC _) _⟩
theorem jD (a:Option Addr) (w:World):Calls Tryz.prog 114 #[.pointer a] w fun e w'=>e=.returned (.agg #[vU 1,vU 1048576,.pointer none,.pointer a,.pointer none])∧Below w.heap.size w w':=by go_enter Tryz.func114,Tryz.ntmps114;go_wp2_with fail;refine bodyPost_ret (v:=.agg #[vU 1,vU 1048576,.pointer none,.pointer a,.pointer none]) (by simp [results,Tryz.results114,go_sem]) rfl ⟨rfl,(Below.refl _ _).alloc (cC _) _⟩
structure FS (w W:World) (mb n:Nat) (D:DataW Value) (L:List (Nat×Obj)):Prop where
 mem:Mem w L W
 own:W.ownsMap Tryz.prog 3 cK mb n D
 new:w.heap.size≤mb
 far:∀ p∈L,p.1≠mb
theorem FS.later {D:DataW Value} (h:FS w W mb n D L) (hb:Below W.heap.size W W'):FS w W' mb n D L:=by obtain ⟨es,clock,h1,h2⟩:=h.own;exact ⟨h.mem.later hb,⟨es,clock,(hb.block mb h.own.lt).trans h1,h2⟩,h.new,h.far⟩
theorem FS.alloc {D:DataW Value} (h:FS w W mb n D L) (o:Obj):FS w (W.alloc o) mb n D ((W.heap.size,o)::L) :=
 ⟨h.mem.alloc o,h.own.alloc o,h.new,fun p hp=>by
  rcases List.mem_cons.1 hp with rfl|hp
  ·have:=h.own.lt;simp only;omega
  ·exact h.far p hp⟩
theorem FS.insert {n':Nat} {D D':DataW Value} (h:FS w W mb n D L) (ho:W'.ownsMap Tryz.prog 3 cK mb n' D') (hg:W.grownBy W' (some mb)):FS w W' mb n' D' L :=
 ⟨⟨h.mem.dZ.grown hg h.mem.dZ.size (fun k e=>by cases e;exact h.new),fun p hp=>(hg.block p.1 (lt_of_block (h.mem.blk p hp)) (fun e=>h.far p hp (by cases e;rfl))).trans (h.mem.blk p hp)⟩,ho,h.new,h.far⟩
def qH (k:Int):Lit:=.int .i64 k
end Go.Proofs.N0
namespace Go.Proofs.N0
open Go.RowKit Go.Maps Go.ChangeMaps
variable {a:Act} {s b i n mb:Nat} {t:TypeId} {v:Value} {w0 w w':World} {L:Nat→Bool} {P:Program} {Q:Exit→Act→World→Prop} {o:Oper}
def gO (n:Nat):Code→Option (Array Oper)
 | .region i ops _=>if i=n then some ops else none
 | .seq a b=>(gO n a).or (gO n b)
 | .cond _ a b=>(gO n a).or (gO n b)
 | .block _ c=>gO n c
 | .loop c=>gO n c
 | .scope c=>gO n c
 | _=>none
noncomputable def FZ:Array Oper:=((Tryz.f82.body.bind (gO 3))).getD #[]
def lK (b:Nat):List (Nat×Nat×Value):=[
 (1,7,.func (.func 113) #[] #[]),
 (2,8,vP b 0),
 (3,9,vP b 0),
 (4,10,vP b 1),
 (5,11,.agg #[vU 1,vU 4294967296,vP b 1,.pointer none,.pointer none]),
 (6,12,vP b 0),
 (7,13,vP b 0),
 (8,14,vP b 3),
 (9,15,.agg #[vU 0,vU 0,.pointer none,.pointer none,vP b 3]),
 (10,16,vP b 0),
 (11,17,vP b 0),
 (12,18,vP b 4),
 (13,19,.agg #[vU 0,vU 1,.pointer none,vP b 4,.pointer none]),
 (14,20,.func (.func 114) #[] #[]),
 (15,21,vP b 0),
 (16,22,vP b 0),
 (17,23,vP b 6),
 (18,24,.agg #[vU 1,vU 1048576,.pointer none,vP b 6,.pointer none]),
 (19,25,.func (.func 114) #[] #[]),
 (20,26,vP b 0),
 (21,27,vP b 0),
 (22,28,vP b 7),
 (23,29,.agg #[vU 1,vU 1048576,.pointer none,vP b 7,.pointer none]),
 (24,30,.func (.func 114) #[] #[]),
 (25,31,vP b 0),
 (26,32,vP b 0),
 (27,33,vP b 8),
 (28,34,.agg #[vU 1,vU 1048576,.pointer none,vP b 8,.pointer none]),
 (29,35,.func (.func 114) #[] #[]),
 (30,36,vP b 0),
 (31,37,vP b 0),
 (32,38,vP b 9),
 (33,39,.agg #[vU 1,vU 1048576,.pointer none,vP b 9,.pointer none]),
 (34,40,.func (.func 114) #[] #[]),
 (35,41,vP b 0),
 (36,42,vP b 0),
 (37,43,vP b 10),
 (38,44,.agg #[vU 1,vU 1048576,.pointer none,vP b 10,.pointer none]),
 (41,46,.func (.func 113) #[] #[]),
 (42,47,vP b 0),
 (43,48,vP b 0),
 (44,49,vP b 1),
 (45,50,.agg #[vU 1,vU 4294967296,vP b 1,.pointer none,.pointer none]),
 (46,51,.func (.func 113) #[] #[]),
 (47,52,vP b 0),
 (48,53,vP b 0),
 (49,54,vP b 2),
 (50,55,.agg #[vU 1,vU 4294967296,vP b 2,.pointer none,.pointer none]),
 (51,56,.func (.func 114) #[] #[]),
 (52,57,vP b 0),
 (53,58,vP b 0),
 (54,59,vP b 6),
 (55,60,.agg #[vU 1,vU 1048576,.pointer none,vP b 6,.pointer none]),
 (56,61,.func (.func 114) #[] #[]),
 (57,62,vP b 0),
 (58,63,vP b 0),
 (59,64,vP b 8),
 (60,65,.agg #[vU 1,vU 1048576,.pointer none,vP b 8,.pointer none]),
 (61,66,.func (.func 114) #[] #[]),
 (62,67,vP b 0),
 (63,68,vP b 0),
 (64,69,vP b 9),
 (65,70,.agg #[vU 1,vU 1048576,.pointer none,vP b 9,.pointer none]),
 (68,72,.func (.func 113) #[] #[]),
 (69,73,vP b 0),
 (70,74,vP b 0),
 (71,75,vP b 2),
 (72,76,.agg #[vU 1,vU 4294967296,vP b 2,.pointer none,.pointer none]),
 (73,77,vP b 0),
 (74,78,vP b 0),
 (75,79,vP b 5),
 (76,80,.agg #[vU 1,vU 15,.pointer none,vP b 5,.pointer none]),
 (79,82,.func (.func 113) #[] #[]),
 (80,83,vP b 0),
 (81,84,vP b 0),
 (82,85,vP b 2),
 (83,86,.agg #[vU 1,vU 4294967296,vP b 2,.pointer none,.pointer none]),
 (84,87,vP b 0),
 (85,88,vP b 0),
 (86,89,vP b 11),
 (87,90,.agg #[vU 0,vU 1000,vP b 11,.pointer none,.pointer none]),
 (88,91,vP b 0),
 (89,92,vP b 0),
 (90,93,vP b 12),
 (91,94,.agg #[vU 0,vU 255,vP b 12,.pointer none,.pointer none]),
 (92,95,.func (.func 114) #[] #[]),
 (93,96,vP b 0),
 (94,97,vP b 0),
 (95,98,vP b 9),
 (96,99,.agg #[vU 1,vU 1048576,.pointer none,vP b 9,.pointer none])]
def bL:List (Nat×Nat×List af.oa):=[(39,45,af.uE),(66,71,af.uF),(77,81,af.uG),(97,100,af.uH)]
def gh:List (Nat×Nat×Nat):=[(40,1,45),(67,2,71),(78,3,81),(98,4,100)]
def gD:Nat:=6
def qI:Nat:=99
def mR:Nat:=101
def tQ:Nat:=100
def mS:Nat:=5
def cnt (L:Nat→Bool):Nat:=(gh.filter fun x=>L x.1).length
def late:List Nat:=[qI,tQ]++gh.map (·.1)
structure FI (b:Nat) (w0:World) (L:Nat→Bool) (a:Act) (w:World):Prop where
 size:a.tmps.size=108
 defers:a.defers=[]
 s0:a.eval (.tmp 0)=vP b 0
 s3:a.eval (.tmp 3)=.func (.func 113) #[] #[]
 s4:a.eval (.tmp 4)=.func (.func 114) #[] #[]
 consts:∀ x∈lK b,L x.1=true→a.eval (.tmp x.2.1)=x.2.2
 below:Below w0.heap.size w0 w
 early:L 0=false→∀ i∈late,L i=false
 filled:∀ y∈gh,L y.1=true→∀ x∈bL,x.2.1=y.2.2→L x.1=true
 slices:∀ x∈bL,L x.1=true→∃ g,a.eval (.tmp x.2.1)=vL g 0 x.2.2.length x.2.2.length∧w0.heap.size≤g∧w.heap[g]?=some (cl (nV b x.2.2) 213)
 map:L 0=true→∃ mb D,a.eval (.tmp gD)=.map (some mb)∧w0.heap.size≤mb∧w.ownsMap Tryz.prog 3 cK mb (cnt L) D∧IsMap D ∧
  (∀ x∈gh,L x.1=true→∀ zd,D.atKey (qH x.2.1) zd=.held (a.eval (.tmp x.2.2)))∧(∀ kl,(∀ x∈gh,kl≠qH x.2.1)→Maps.has D kl=false) ∧
  (L qI=true→a.eval (.tmp mR)=.map (some mb))∧(L tQ=true→a.eval (.tmp mS)=.map (some mb))
theorem eval_put {t:Nat} (hs:s<a.tmps.size):(a.put (some s) v).eval (.tmp t)=if t=s then v else a.eval (.tmp t):=by
 simp only [Act.put,Act.eval];by_cases e:t=s
 ·subst e;simp [Array.getD,hs]
 ·rw [if_neg e];simp only [Array.getD,Array.size_setIfInBounds];split
  ·rename_i h;rw [Array.getInternal_eq_getElem,Array.getInternal_eq_getElem,Array.getElem_setIfInBounds];rw [if_neg (sg e)]
  ·rfl
theorem FI.const (h:FI b w0 L a w) (k:Nat) {x:Nat×Nat×Value} (hk:(lK b)[k]?=some x) (hL:L x.1=true):a.eval (.tmp x.2.1)=x.2.2:=h.consts x (IQ hk) hL
noncomputable def dj (i j:Nat):Bool:=(FZ[i]?).any fun o=>o.after.any fun e=>e.on==j&&Region.binds .any e
def aD (i:Nat):Prop:=∀ (b:Nat) (w0:World) (Q:Exit→Act→World→Prop) (L:Nat→Bool) (a:Act) (w:World),(∀ j,dj i j=true→L j=true)→L i=false→FI b w0 L a w→wpOp Tryz.prog FZ Q i (FI b w0 (fun j=>L j||j==i)) a w
theorem aB {ops:Array Oper} {K:Act→World→Prop} (ho:ops[i]?=some o) (hg:o.guard=none) (h:o.wp P a w K Q):wpOp P ops Q i K a w:=by unfold wpOp;rw [ho];simp only [Region.wanted,hg,if_true];exact .inl h
theorem zP {K:Act→World→Prop} (hd:o.dst=some s) (hrun:(execOp a.eval o).run P w=.ok (.value v) w') (hK:K (a.put (some s) v) w'):o.wp P a w K Q:=by unfold Oper.wp;rw [hrun,Oper.upon_value,hd];exact hK
theorem WQ {K:Act→World→Prop} {f:Nat} {args:Array Value} (hd:o.dst=some s) (hrun:(execOp a.eval o).run P w=.ok (.enter f args) w)
 (hc:Calls P f args w fun e w'=>e=.returned v∧Below w.heap.size w w') (hK:∀ w',Below w.heap.size w w'→K (a.put (some s) v) w'):o.wp P a w K Q:=by
 unfold Oper.wp
 rw [hrun,Oper.upon_enter]
 refine hc.mono ?_
 rintro e w' ⟨rfl,hb⟩
 rw [hd]
 exact hK w' hb
section
variable {P:Program} {Q:Exit→Act→World→Prop} {K:Act→World→Prop} {a:Act} {w:World} {o:Oper} {s:Nat} {v:Value}
theorem cj {x:Operand} (hop:o.op=.move x) (hd:o.dst=some s) (hx:a.eval x=v) (hK:K (a.put (some s) v) w):o.wp P a w K Q :=
 zP (v:=v) hd c932 hK
theorem jE {x:Operand} {p:Addr} (hop:o.op=.nilCheck x) (hd:o.dst=some s) (hx:a.eval x=.pointer (some p)) (hK:K (a.put (some s) (.pointer (some p))) w):o.wp P a w K Q :=
 zP (v:=.pointer (some p)) hd c932 hK
theorem dS {x:Operand} {k:Nat} {p:Value} (hop:o.op=.fieldAddr t x k) (hd:o.dst=some s) (hx:a.eval x=p) (hf:(Instr.fieldAt t p k).run P w=.ok v w) (hK:K (a.put (some s) v) w):o.wp P a w K Q :=
 zP (v:=v) hd (by simp [execOp,hop,hx,hf,Result.andThen]) hK
theorem vh {ps:Array (Nat×Operand)} (hop:o.op=.build t ps) (hd:o.dst=some s) (hf:(Instr.build t (ps.map fun (i,x)=>(i,a.eval x))).run P w=.ok v w) (hK:K (a.put (some s) v) w):o.wp P a w K Q :=
 zP (v:=v) hd c933 hK
theorem jF {f x:Operand} {u:Value} {ts:Array TypeId} (hop:o.op=.call {callee:=.value f,args:=#[x],argTypes:=ts}) (hd:o.dst=some s) (hf:a.eval f=.func (.func n) #[] #[]) (hx:a.eval x=u) (hcl:(callFunc n #[u]).run P w=.ok (.enter n #[u]) w)
 (hc:Calls P n #[u] w fun e w'=>e=.returned v∧Below w.heap.size w w') (hK:∀ w',Below w.heap.size w w'→K (a.put (some s) v) w'):o.wp P a w K Q :=
 WQ (f:=n) (args:=#[u]) hd (by simp [execOp,hop,hf,hx,resolve,invoke,Deferred.ofValue,hcl]) hc hK
end
def wJ:List Nat:=(lK 0).map (·.2.1)
theorem wK (b:Nat):(lK b).map (·.2.1)=wJ:=by rfl
def others:List Nat:=[0,3,4,gD,mR,mS]++bL.map (·.2.1)++gh.map (·.2.2)
theorem Ed:wJ.Nodup:=eU
theorem Jp:∀ s∈wJ,s∉others∧s<108:=eU
def BF:List Nat:=(lK 0).map (·.1)
theorem vk (b:Nat):(lK b).map (·.1)=BF:=by rfl
def Ga:List Nat:=[0,qI,tQ]++bL.map (·.1)++gh.map (·.1)
theorem RH:∀ s∈BF,s∉Ga:=eU
theorem gP {α β:Type}:∀ {l:List (α×Nat×β)} {x y:α×Nat×β},(l.map (·.2.1)).Nodup→x∈l→y∈l→x.2.1=y.2.1→x=y
 | [],_,_,_,h,_,_=>absurd h aH
 | z::l,x,y,hn,hx,hy,e=>by
  rw [jQ,uM] at hn;rcases List.mem_cons.1 hx with h1|h1<;>rcases List.mem_cons.1 hy with h2|h2
  ·rw [h1,h2]
  ·exact absurd (by rw [←h1,e];exact mG (f:=(·.2.1)) h2) hn.1
  ·exact absurd (by rw [←h2,←e];exact mG (f:=(·.2.1)) h1) hn.1
  ·exact gP hn.2 h1 h2 e
theorem Jq:BF.Nodup:=eU
theorem kU {β:Type}:∀ {l:List (Nat×β)} {x y:Nat×β},(l.map (·.1)).Nodup→x∈l→y∈l→x.1=y.1→x=y
 | [],_,_,_,h,_,_=>absurd h aH
 | z::l,x,y,hn,hx,hy,e=>by
  rw [jQ,uM] at hn;rcases List.mem_cons.1 hx with h1|h1<;>rcases List.mem_cons.1 hy with h2|h2
  ·rw [h1,h2]
  ·exact Zy
  ·exact ZA
  ·exact kU hn.2 h1 h2 e
theorem RI {x y:Nat×Nat×Value} (hx:x∈lK b) (hy:y∈lK b) (e:x.1=y.1):x=y:=kU (by rw [vk b];exact Jq) hx hy e
theorem FI.au (h:FI b w0 L a w) (k:Nat) {x:Nat×Nat×Value} (hk:(lK b)[k]?=some x) (hb:Below w.heap.size w w'):FI b w0 (fun j=>L j||j==x.1) (a.put (some x.2.1) x.2.2) w':=by
 have hx:=IQ hk;have hs:x.2.1∈wJ:=by rw [←wK b];exact mG (f:=(·.2.1)) hx
 have ho:x.1∈BF:=by rw [←vk b];exact mG (f:=(·.1)) hx
 obtain ⟨VY,hlt⟩:=Jp _ hs;have hof:=RH _ ho;have hsz:x.2.1<a.tmps.size:=c935;have ev:∀ t,t∈others→(a.put (some x.2.1) x.2.2).eval (.tmp t)=a.eval (.tmp t):=fun t ht=>by rw [eval_put hsz,if_neg];exact fun e=>VY (e▸ht)
 have lv:∀ j,j∈Ga→(L j||j==x.1)=L j:=fun j hj=>by have:j≠x.1:=fun e=>hof (e▸hj);simp [this]
 refine ⟨by simp [Act.put,h.size],by simp [Act.put,h.defers],?_,?_,?_,?_,h.below.trans (hb.mono h.below.size),?_,?_,?_,?_⟩
 ·rw [ev 0 aG];exact h.s0
 ·rw [ev 3 aG];exact h.s3
 ·rw [ev 4 aG];exact h.s4
 ·intro y hy hL;rw [eval_put hsz];by_cases e:y.2.1=x.2.1
  ·have:=gP (by rw [wK b];exact Ed) hy hx e
   rw [if_pos e,this]
  ·rw [if_neg e];refine h.consts y hy ?_;have:y.1≠x.1:=fun e'=>e (by
    have:=RI hy hx e'
    rw [this])
   simpa [this] using hL
 ·intro hL i hi;rw [lv 0 aG] at hL;have hi':i∈Ga:=by
   simp only [late,Ga,Io,gF,Bp,or_false] at hi ⊢;rcases hi with (h|h)|h
   ·exact .inl (.inl (.inr (.inl h)))
   ·exact .inl (.inl (.inr (.inr h)))
   ·exact .inr h
  rw [lv i hi'];exact h.early hL i hi
 ·intro y hy hL z hz e;rw [lv _ (by unfold Ga;simp only [Io];exact .inr (mG (f:=(·.1)) hy))] at hL;rw [h.filled y hy hL z hz e];rfl
 ·intro y hy hL;rw [lv _ (by unfold Ga;simp only [Io];exact .inl (.inr (mG (f:=(·.1)) hy)))] at hL;obtain ⟨g,h1,h2,h3⟩:=h.slices y hy hL;exact ⟨g,by rw [ev _ (by unfold others;simp only [Io];exact .inl (.inr (mG (f:=(·.2.1)) hy)))];exact h1,h2,(hb.block g (lt_of_block h3)).trans h3⟩
 ·intro hL;rw [lv 0 aG] at hL;obtain ⟨mb,D,h1,h2,h3,h4,h5,h6,h7,h8⟩:=h.map hL;have hc:cnt (fun j=>L j||j==x.1)=cnt L:=by unfold cnt;congr 1;apply yX;intro y hy;exact lv _ (by unfold Ga;simp only [Io];exact .inr (mG (f:=(·.1)) hy))
  obtain ⟨es,clock,hbk,hrest⟩:=h3;refine ⟨mb,D,by rw [ev _ (by decide)];exact h1,h2,⟨es,clock,(hb.block mb (lt_of_block hbk)).trans hbk,by rw [hc];exact hrest⟩,h4,fun y hy yH zd=>?_,h6,fun RJ=>?_,fun RJ=>?_⟩
  ·rw [lv _ (by unfold Ga;simp only [Io];exact .inr (mG (f:=(·.1)) hy))] at yH;rw [ev _ (by unfold others;simp only [Io];exact .inr (mG (f:=(·.2.2)) hy))];exact h5 y hy yH zd
  ·rw [lv _ aG] at RJ;rw [ev _ aG];exact h7 RJ
  ·rw [lv _ aG] at RJ;rw [ev _ aG];exact h8 RJ
/-! ### the operations that depend on the order -/
theorem Ee {g:Nat} {cs:Array Value} {T:TypeId} {h:Nat×Nat} {es:Array MapEntry} {c:Nat} (h1:w.heap[g]?=some (.cells cs T h)) (h2:w.heap[mb]?=some (.map es c)):g≠mb:=fun e=>by subst e;rw [h1] at h2;cases h2
theorem FI.oW (h:FI b w0 L a w) (hi:i∉BF) (hs:s∉wJ) (hs0:s≠0∧s≠3∧s≠4) (hlt:s<108) (hb:Below w0.heap.size w0 w')
 (he:(L 0||0==i)=false→∀ j∈late,(L j||j==i)=false) (hf:∀ y∈gh,y.1≠i)
 (jN:∀ x∈bL,(L x.1||x.1==i)=true→∃ g,(a.put (some s) v).eval (.tmp x.2.1)=vL g 0 x.2.2.length x.2.2.length∧w0.heap.size≤g∧w'.heap[g]?=some (cl (nV b x.2.2) 213))
 (hm:(L 0||0==i)=true→∃ mb D,(a.put (some s) v).eval (.tmp gD)=.map (some mb)∧w0.heap.size≤mb∧w'.ownsMap Tryz.prog 3 cK mb (cnt fun j=>L j||j==i) D∧IsMap D ∧
  (∀ x∈gh,(L x.1||x.1==i)=true→∀ zd,D.atKey (qH x.2.1) zd=.held ((a.put (some s) v).eval (.tmp x.2.2)))∧(∀ kl,(∀ x∈gh,kl≠qH x.2.1)→Maps.has D kl=false) ∧
  ((L qI||qI==i)=true→(a.put (some s) v).eval (.tmp mR)=.map (some mb))∧((L tQ||tQ==i)=true→(a.put (some s) v).eval (.tmp mS)=.map (some mb))) :
 FI b w0 (fun j=>L j||j==i) (a.put (some s) v) w':=by
 have hsz:s<a.tmps.size:=c935
 refine ⟨by simp [Act.put,h.size],by simp [Act.put,h.defers],?_,?_,?_,?_,hb,he,fun y hy hL z hz e=>by rw [h.filled y hy (by simpa [hf y hy] using hL) z hz e];rfl,jN,hm⟩
 ·rw [eval_put hsz,if_neg ax];exact h.s0
 ·rw [eval_put hsz,if_neg ax];exact h.s3
 ·rw [eval_put hsz,if_neg ax];exact h.s4
 ·intro y hy hL;have h1:y.2.1≠s:=fun e=>hs (by rw [←wK b,←e];exact mG (f:=(·.2.1)) hy);have h2:y.1≠i:=fun e=>hi (by rw [←vk b,←e];exact mG (f:=(·.1)) hy);rw [eval_put hsz,if_neg h1];exact h.consts y hy (by simpa [h2] using hL)
theorem zQ (hi:i∉gh.map (·.1)):cnt (fun j=>L j||j==i)=cnt L:=by unfold cnt;congr 1;apply yX;intro y hy;have:y.1≠i:=fun e=>hi (by rw [←e];exact mG (f:=(·.1)) hy);simp [this]
theorem RL (hL:L i=false) (hi:i∈gh.map (·.1)):cnt (fun j=>L j||j==i)=cnt L+1:=by
 have h4:i=40∨i=67∨i=78∨i=98:=by simpa [gh] using hi
 rcases h4 with rfl|rfl|rfl|rfl;all_goals
  simp only [cnt,gh,oO,Fu,hL]
  cases L 40<;>cases L 67<;>cases L 78<;>cases L 98<;>simp
theorem st_map (hL:L 0=false) (h:FI b w0 L a w):FI b w0 (fun j=>L j||j==0) (a.put (some gD) (.map (some w.heap.size))) (w.alloc (.map #[] 0)):=by
 have hsz:gD<a.tmps.size:=by rw [h.size];decide
 have ev:∀ t,t≠gD→(a.put (some gD) (.map (some w.heap.size))).eval (.tmp t)=a.eval (.tmp t):=fun t ht=>by rw [eval_put hsz,if_neg ht]
 have he:=h.early hL;have hf:∀ x∈gh,L x.1=false:=fun x hx=>he _ (by unfold late;simp only [Io];exact .inr (mG (f:=(·.1)) hx));have hn0:∀ x∈gh,x.1≠0:=aG;refine h.oW eU eU aG aG (h.below.alloc h.below.size _) (fun h0=>by simp at h0) hn0 (fun x hx WR=>?_) (fun _=>?_)
 ·have h0:x.1≠0:=(by decide:∀ x∈bL,x.1≠0) x hx;obtain ⟨g,h1,h2,h3⟩:=h.slices x hx (by simpa [h0] using WR);exact ⟨g,by rw [ev _ ((by decide:∀ x∈bL,x.2.1≠gD) x hx)];exact h1,h2,(Below.heap_alloc _ _ _ (lt_of_block h3)).trans h3⟩
 ·refine ⟨w.heap.size,.map [],WG,h.below.size,?_,isMap_empty,fun x hx WR=>?_,fun kl _=>rfl,fun RJ=>?_,fun RJ=>?_⟩
  ·exact (World.ownsMap_made w Tryz.prog 3 cK).mono (pR _)
  ·have:=hf x hx
   have h0:=hn0 x hx
   simp [this,h0] at WR
  ·have:L qI=false:=he _ aG;rw [this] at RJ;exact absurd RJ aG
  ·have:L tQ=false:=he _ aG;rw [this] at RJ;exact absurd RJ aG
theorem vn (h:FI b w0 L a w) {x:Nat×Nat×List af.oa} (hx:x∈bL) (hL:L x.1=false):FI b w0 (fun j=>L j||j==x.1) (a.put (some x.2.1) (vL w.heap.size 0 x.2.2.length x.2.2.length)) (w.alloc (cl (nV b x.2.2) 213)):=by
 have hlt:x.2.1<108:=(by decide:∀ x∈bL,x.2.1<108) x hx;have hsz:x.2.1<a.tmps.size:=c935;have h0:x.1≠0:=(by decide:∀ x∈bL,x.1≠0) x hx;have hnl:∀ j∈late,j≠x.1:=fun j hj=>(by decide:∀ x∈bL,∀ j∈late,j≠x.1) x hx j hj;have hnm:x.2.1≠gD∧x.2.1≠mR∧x.2.1≠mS:=(by decide:∀ x∈bL,x.2.1≠gD∧x.2.1≠mR∧x.2.1≠mS) x hx;have hni:∀ y∈gh,y.1≠x.1:=fun y hy=>hnl _ (by unfold late;simp only [Io];exact .inr (mG (f:=(·.1)) hy));refine h.oW ((by decide +kernel:∀ x∈bL,x.1∉BF) x hx) ((by decide +kernel:∀ x∈bL,x.2.1∉wJ) x hx) ((by decide:∀ x∈bL,x.2.1≠0∧x.2.1≠3∧x.2.1≠4) x hx) hlt (h.below.alloc h.below.size _) (fun hl j hj=>?_) hni (fun y hy yH=>?_) (fun hl=>?_)
 ·have hl0:L 0=false:=by simpa [sg h0] using hl
  simp [h.early hl0 j hj,hnl j hj]
 ·by_cases e:y=x
  ·subst e;refine ⟨w.heap.size,WG,h.below.size,heap_alloc_new _ _⟩
  ·have e1:y.1≠x.1:=fun e'=>e (kU (l:=bL) aG hy hx e');have e2:y.2.1≠x.2.1:=fun e'=>e (gP (l:=bL) aG hy hx e');obtain ⟨g,k1,k2,k3⟩:=h.slices y hy (by simpa [e1] using yH);exact ⟨g,by rw [eval_put hsz,if_neg e2];exact k1,k2,(Below.heap_alloc _ _ _ (lt_of_block k3)).trans k3⟩
 ·have hl0:L 0=true:=by simpa [sg h0] using hl
  obtain ⟨mb,D,k1,k2,k3,k4,k5,k6,k7,k8⟩:=h.map hl0;refine ⟨mb,D,by rw [eval_put hsz,if_neg (sg hnm.1)];exact k1,k2,by rw [zQ (by intro hh;obtain ⟨y,hy,e⟩:=List.mem_map.1 hh;exact hni y hy e)];exact k3.alloc _,k4,fun y hy yH zd=>?_,k6,fun hm=>?_,fun hm=>?_⟩
  ·have hLy':L y.1=true:=by simpa [hni y hy] using yH
   have e2:y.2.2≠x.2.1:=fun e=>by
    have:=h.filled y hy hLy' x hx e.symm
    rw [hL] at this
    exact absurd this aG
   rw [eval_put hsz,if_neg e2];exact k5 y hy hLy' zd
  ·rw [eval_put hsz,if_neg (sg hnm.2.1)];exact k7 (by simpa [hnl qI (by decide)] using hm)
  ·rw [eval_put hsz,if_neg (sg hnm.2.2)];exact k8 (by simpa [hnl tQ (by decide)] using hm)
theorem st_mv (h:FI b w0 L a w) (h0:L 0=true) (hv:a.eval (.tmp gD)=.map (some mb)):FI b w0 (fun j=>L j||j==qI) (a.put (some mR) (.map (some mb))) w:=by
 have hsz:mR<a.tmps.size:=by rw [h.size];decide
 refine h.oW eU eU aG aG h.below (fun hl=>c937) aG (fun y hy yH=>?_) (fun hl=>?_)
 ·have e1:y.1≠qI:=(by decide:∀ x∈bL,x.1≠qI) y hy;have e2:y.2.1≠mR:=(by decide:∀ x∈bL,x.2.1≠mR) y hy;exact Qt
 ·obtain ⟨Zq,D,k1,k2,k3,k4,k5,k6,k7,k8⟩:=h.map h0;have em:Zq=mb:=c938;subst em;refine ⟨Zq,D,c939,k2,by rw [zQ (by decide)];exact k3,k4,fun y hy yH zd=>?_,k6,fun _=>WG,fun hm=>?_⟩
  ·rw [eval_put hsz,if_neg ((by decide:∀ x∈gh,x.2.2≠mR) y hy)];exact k5 y hy (by simpa [(by decide:∀ x∈gh,x.1≠qI) y hy] using yH) zd
  ·rw [eval_put hsz,if_neg aG];exact k8 (by simpa [show tQ≠qI by decide] using hm)
theorem st_as (h:FI b w0 L a w) (h0:L 0=true) (hv:a.eval (.tmp gD)=.map (some mb)):FI b w0 (fun j=>L j||j==tQ) (a.put (some mS) (.map (some mb))) w:=by
 have hsz:mS<a.tmps.size:=by rw [h.size];decide
 refine h.oW eU eU aG aG h.below (fun hl=>c937) aG (fun y hy yH=>?_) (fun hl=>?_)
 ·have e1:y.1≠tQ:=(by decide:∀ x∈bL,x.1≠tQ) y hy;have e2:y.2.1≠mS:=(by decide:∀ x∈bL,x.2.1≠mS) y hy;exact Qt
 ·obtain ⟨Zq,D,k1,k2,k3,k4,k5,k6,k7,k8⟩:=h.map h0;have em:Zq=mb:=c938;subst em;refine ⟨Zq,D,c939,k2,by rw [zQ (by decide)];exact k3,k4,fun y hy yH zd=>?_,k6,fun hm=>?_,fun _=>WG⟩
  ·rw [eval_put hsz,if_neg ((by decide:∀ x∈gh,x.2.2≠mS) y hy)];exact k5 y hy (by simpa [(by decide:∀ x∈gh,x.1≠tQ) y hy] using yH) zd
  ·rw [eval_put hsz,if_neg aG];exact k7 (by simpa [show qI≠tQ by decide] using hm)
theorem RM {j:Nat} (h:qH i=qH j):i=j:=Int.ofNat.inj (by simpa [qH] using h)
theorem isKeyK (i:Int):WideAt.IsKeyLit (qH i):=by simp [qH,WideAt.IsKeyLit]
theorem rS (h:FI b w0 L a w) {x:Nat×Nat×Nat} (hx:x∈gh) (hL:L x.1=false) (h0:L 0=true) (hs:∀ y∈bL,y.2.1=x.2.2→L y.1=true) (hv:a.eval (.tmp gD)=.map (some mb)) :
 ∃ w',(Instr.mapUpdate 253 (.map (some mb)) (vI x.2.1) (a.eval (.tmp x.2.2))).run Tryz.prog w=.ok () w'∧FI b w0 (fun j=>L j||j==x.1) a w':=by
 obtain ⟨Zq,D,k1,k2,k3,k4,k5,k6,k7,k8⟩:=h.map h0
 have em:Zq=mb:=c938
 subst em
 have hkb:x.2.1<5:=(by decide:∀ x∈gh,x.2.1<5) x hx
 have hcnt:cnt L≤4:=Fc (lG _ _) aG
 obtain ⟨w',hrun,hown,hg⟩:=k3.update lawK Tryz.underlying253 KY (keyOf_int_mk Tryz.underlying3 (WalkArith.wf_i64 ax):keyOf Tryz.prog 3 (vI x.2.1)=some (qH x.2.1)) (d:=.held (a.eval (.tmp x.2.2))) (ps:=[]) rfl
 refine ⟨w',hrun,?_⟩
 have hi:x.1∉BF:=(by decide +kernel:∀ x∈gh,x.1∉BF) x hx
 have hns:∀ y∈bL,y.1≠x.1:=(by decide:∀ x∈gh,∀ y∈bL,y.1≠x.1) x hx
 refine ⟨h.size,h.defers,h.s0,h.s3,h.s4,fun y hy yH=>?_,h.below.grown hg h.below.size (fun k e=>by cases e;exact k2),fun hl=>c937,fun y hy yH z hz e=>?_,fun y hy yH=>?_,fun _=>?_⟩
 ·have h2:y.1≠x.1:=fun e=>hi (by rw [←vk b,←e];exact mG (f:=(·.1)) hy);exact h.consts y hy (by simpa [h2] using yH)
 ·by_cases ey:y.1=x.1
  ·have:=kU (l:=gh) aG hy hx ey
   rw [this] at e
   rw [hs z hz e];rfl
  ·rw [h.filled y hy (by simpa [ey] using yH) z hz e];rfl
 ·obtain ⟨g,j1,j2,j3⟩:=h.slices y hy (by simpa [hns y hy] using yH);refine ⟨g,j1,j2,(hg.block g (lt_of_block j3) (fun e=>?_)).trans j3⟩;obtain ⟨es,clock,hb,_⟩:=k3;exact Ee j3 hb (by injection e)
 ·refine ⟨Zq,D.put (qH x.2.1) (.held (a.eval (.tmp x.2.2))),k1,k2,by rw [RL hL (mG (f:=(·.1)) hx)];exact hown,k4.put _ _,fun y hy yH zd=>?_,fun kl sH=>?_,fun hm=>k7 ?_,fun hm=>k8 ?_⟩
  ·by_cases ey:y.1=x.1
   ·have:=kU (l:=gh) aG hy hx ey
    subst this
    exact atKey_put_same k4 (isKeyK _) _ _
   ·have ek:qH y.2.1≠qH x.2.1:=fun e=>ey (by
     have:=RM e
     have:=gP (l:=gh) aG hy hx this
     rw [this])
    rw [atKey_put_other ek];exact k5 y hy (by simpa [ey] using yH) zd
  ·rw [has_put_other (sH x hx)];exact k6 kl sH
  ·simpa [(by decide:∀ x∈gh,qI≠x.1) x hx] using hm
  ·simpa [(by decide:∀ x∈gh,tQ≠x.1) x hx] using hm
theorem Rv {K:Act→World→Prop} {m x v:Operand} {mv kv vv:Value} (hop:o.op=.insert t m x v) (hd:o.dst=none) (hm:a.eval m=mv) (hx:a.eval x=kv) (hv:a.eval v=vv)
 (hrun:(Instr.mapUpdate t mv kv vv).run P w=.ok () w') (hK:K a w'):o.wp P a w K Q:=by
 unfold Oper.wp
 have:(execOp a.eval o).run P w=.ok .skip w':=by simp [execOp,hop,hm,hx,hv,hrun,Result.andThen]
 rw [this,Oper.upon_skip,hd]
 exact hK
theorem RN {K:Act→World→Prop} {x:Operand} (hop:o.op=.assign x) (hd:o.dst=some s) (hx:a.eval x=v) (hK:K (a.put (some s) v) w):o.wp P a w K Q :=
 zP (v:=v) hd c932 hK
theorem NN {K:Act→World→Prop} (hop:o.op=.makeMap t none) (hd:o.dst=some s) (hK:K (a.put (some s) (.map (some w.heap.size))) (w.alloc (.map #[] 0))):o.wp P a w K Q :=
 zP (v:=.map (some w.heap.size)) hd (by simp [execOp,hop,run_makeMap,Result.andThen]) hK
theorem yI {K:Act→World→Prop} {ps:Array (Nat×Operand)} (hop:o.op=.buildSlice t n ps) (hd:o.dst=some s) (hf:(Instr.buildSlice t n (ps.map fun (i,x)=>(i,a.eval x))).run P w=.ok v w') (hK:K (a.put (some s) v) w'):o.wp P a w K Q :=
 zP (v:=v) hd c933 hK
theorem fst0:aD 0:=fun b w0 Q L a w hd hL h=>by exact aB rfl rfl (NN (s:=gD) rfl rfl (st_map hL h))
theorem fst1:aD 1:=fun b w0 Q L a w hd hL h=>by have e0:=h.s3;refine aB rfl rfl (cj (s:=7) (v:=(.func (.func 113) #[] #[])) rfl rfl e0 ?_);exact h.au 0 rfl (Below.refl _ _)
theorem fst2:aD 2:=fun b w0 Q L a w hd hL h=>by have e0:=h.s0;refine aB rfl rfl (cj (s:=8) (v:=(vP b 0)) rfl rfl e0 ?_);exact h.au 1 rfl (Below.refl _ _)
theorem fst3:aD 3:=fun b w0 Q L a w hd hL h=>by have e0:a.eval (.tmp 8)=vP b 0:=h.const 1 rfl (hd 2 aI);refine aB rfl rfl (jE (s:=9) rfl rfl e0 ?_);exact h.au 2 rfl (Below.refl _ _)
theorem fst4:aD 4:=fun b w0 Q L a w hd hL h=>by have e0:a.eval (.tmp 9)=vP b 0:=h.const 2 rfl (hd 3 aI);refine aB rfl rfl (dS (s:=10) (v:=(vP b 1)) rfl rfl e0 aI ?_);exact h.au 3 rfl (Below.refl _ _)
theorem fst5:aD 5:=fun b w0 Q L a w hd hL h=>by have e0:a.eval (.tmp 7)=.func (.func 113) #[] #[]:=h.const 0 rfl (hd 1 aI);have e1:a.eval (.tmp 10)=vP b 1:=h.const 3 rfl (hd 4 aI);refine aB rfl rfl (jF (s:=11) rfl rfl e0 e1 aI (mP _ _) ?_);intro w' hb;exact h.au 4 rfl hb
theorem fst6:aD 6:=fun b w0 Q L a w hd hL h=>by have e0:=h.s0;refine aB rfl rfl (cj (s:=12) (v:=(vP b 0)) rfl rfl e0 ?_);exact h.au 5 rfl (Below.refl _ _)
theorem fst7:aD 7:=fun b w0 Q L a w hd hL h=>by have e0:a.eval (.tmp 12)=vP b 0:=h.const 5 rfl (hd 6 aI);refine aB rfl rfl (jE (s:=13) rfl rfl e0 ?_);exact h.au 6 rfl (Below.refl _ _)
theorem fst8:aD 8:=fun b w0 Q L a w hd hL h=>by have e0:a.eval (.tmp 13)=vP b 0:=h.const 6 rfl (hd 7 aI);refine aB rfl rfl (dS (s:=14) (v:=(vP b 3)) rfl rfl e0 aI ?_);exact h.au 7 rfl (Below.refl _ _)
theorem fst9:aD 9:=fun b w0 Q L a w hd hL h=>by have e0:a.eval (.tmp 14)=vP b 3:=h.const 7 rfl (hd 8 aI);refine aB rfl rfl (vh (s:=15) (v:=(.agg #[vU 0,vU 0,.pointer none,.pointer none,vP b 3])) rfl rfl Ru ?_);exact h.au 8 rfl (Below.refl _ _)
theorem fst10:aD 10:=fun b w0 Q L a w hd hL h=>by have e0:=h.s0;refine aB rfl rfl (cj (s:=16) (v:=(vP b 0)) rfl rfl e0 ?_);exact h.au 9 rfl (Below.refl _ _)
theorem fst11:aD 11:=fun b w0 Q L a w hd hL h=>by have e0:a.eval (.tmp 16)=vP b 0:=h.const 9 rfl (hd 10 aI);refine aB rfl rfl (jE (s:=17) rfl rfl e0 ?_);exact h.au 10 rfl (Below.refl _ _)
theorem fst12:aD 12:=fun b w0 Q L a w hd hL h=>by have e0:a.eval (.tmp 17)=vP b 0:=h.const 10 rfl (hd 11 aI);refine aB rfl rfl (dS (s:=18) (v:=(vP b 4)) rfl rfl e0 aI ?_);exact h.au 11 rfl (Below.refl _ _)
theorem fst13:aD 13:=fun b w0 Q L a w hd hL h=>by have e0:a.eval (.tmp 18)=vP b 4:=h.const 11 rfl (hd 12 aI);refine aB rfl rfl (vh (s:=19) (v:=(.agg #[vU 0,vU 1,.pointer none,vP b 4,.pointer none])) rfl rfl Ru ?_);exact h.au 12 rfl (Below.refl _ _)
theorem fst14:aD 14:=fun b w0 Q L a w hd hL h=>by have e0:=h.s4;refine aB rfl rfl (cj (s:=20) (v:=(.func (.func 114) #[] #[])) rfl rfl e0 ?_);exact h.au 13 rfl (Below.refl _ _)
theorem fst15:aD 15:=fun b w0 Q L a w hd hL h=>by have e0:=h.s0;refine aB rfl rfl (cj (s:=21) (v:=(vP b 0)) rfl rfl e0 ?_);exact h.au 14 rfl (Below.refl _ _)
theorem fst16:aD 16:=fun b w0 Q L a w hd hL h=>by have e0:a.eval (.tmp 21)=vP b 0:=h.const 14 rfl (hd 15 aI);refine aB rfl rfl (jE (s:=22) rfl rfl e0 ?_);exact h.au 15 rfl (Below.refl _ _)
theorem fst17:aD 17:=fun b w0 Q L a w hd hL h=>by have e0:a.eval (.tmp 22)=vP b 0:=h.const 15 rfl (hd 16 aI);refine aB rfl rfl (dS (s:=23) (v:=(vP b 6)) rfl rfl e0 aI ?_);exact h.au 16 rfl (Below.refl _ _)
theorem fst18:aD 18:=fun b w0 Q L a w hd hL h=>by have e0:a.eval (.tmp 20)=.func (.func 114) #[] #[]:=h.const 13 rfl (hd 14 aI);have e1:a.eval (.tmp 23)=vP b 6:=h.const 16 rfl (hd 17 aI);refine aB rfl rfl (jF (s:=24) rfl rfl e0 e1 aI (jD _ _) ?_);intro w' hb;exact h.au 17 rfl hb
theorem fst19:aD 19:=fun b w0 Q L a w hd hL h=>by have e0:=h.s4;refine aB rfl rfl (cj (s:=25) (v:=(.func (.func 114) #[] #[])) rfl rfl e0 ?_);exact h.au 18 rfl (Below.refl _ _)
theorem fst20:aD 20:=fun b w0 Q L a w hd hL h=>by have e0:=h.s0;refine aB rfl rfl (cj (s:=26) (v:=(vP b 0)) rfl rfl e0 ?_);exact h.au 19 rfl (Below.refl _ _)
theorem fst21:aD 21:=fun b w0 Q L a w hd hL h=>by have e0:a.eval (.tmp 26)=vP b 0:=h.const 19 rfl (hd 20 aI);refine aB rfl rfl (jE (s:=27) rfl rfl e0 ?_);exact h.au 20 rfl (Below.refl _ _)
theorem fst22:aD 22:=fun b w0 Q L a w hd hL h=>by have e0:a.eval (.tmp 27)=vP b 0:=h.const 20 rfl (hd 21 aI);refine aB rfl rfl (dS (s:=28) (v:=(vP b 7)) rfl rfl e0 aI ?_);exact h.au 21 rfl (Below.refl _ _)
theorem fst23:aD 23:=fun b w0 Q L a w hd hL h=>by have e0:a.eval (.tmp 25)=.func (.func 114) #[] #[]:=h.const 18 rfl (hd 19 aI);have e1:a.eval (.tmp 28)=vP b 7:=h.const 21 rfl (hd 22 aI);refine aB rfl rfl (jF (s:=29) rfl rfl e0 e1 aI (jD _ _) ?_);intro w' hb;exact h.au 22 rfl hb
theorem fst24:aD 24:=fun b w0 Q L a w hd hL h=>by have e0:=h.s4;refine aB rfl rfl (cj (s:=30) (v:=(.func (.func 114) #[] #[])) rfl rfl e0 ?_);exact h.au 23 rfl (Below.refl _ _)
theorem fst25:aD 25:=fun b w0 Q L a w hd hL h=>by have e0:=h.s0;refine aB rfl rfl (cj (s:=31) (v:=(vP b 0)) rfl rfl e0 ?_);exact h.au 24 rfl (Below.refl _ _)
theorem fst26:aD 26:=fun b w0 Q L a w hd hL h=>by have e0:a.eval (.tmp 31)=vP b 0:=h.const 24 rfl (hd 25 aI);refine aB rfl rfl (jE (s:=32) rfl rfl e0 ?_);exact h.au 25 rfl (Below.refl _ _)
theorem fst27:aD 27:=fun b w0 Q L a w hd hL h=>by have e0:a.eval (.tmp 32)=vP b 0:=h.const 25 rfl (hd 26 aI);refine aB rfl rfl (dS (s:=33) (v:=(vP b 8)) rfl rfl e0 aI ?_);exact h.au 26 rfl (Below.refl _ _)
theorem fst28:aD 28:=fun b w0 Q L a w hd hL h=>by have e0:a.eval (.tmp 30)=.func (.func 114) #[] #[]:=h.const 23 rfl (hd 24 aI);have e1:a.eval (.tmp 33)=vP b 8:=h.const 26 rfl (hd 27 aI);refine aB rfl rfl (jF (s:=34) rfl rfl e0 e1 aI (jD _ _) ?_);intro w' hb;exact h.au 27 rfl hb
theorem fst29:aD 29:=fun b w0 Q L a w hd hL h=>by have e0:=h.s4;refine aB rfl rfl (cj (s:=35) (v:=(.func (.func 114) #[] #[])) rfl rfl e0 ?_);exact h.au 28 rfl (Below.refl _ _)
theorem fst30:aD 30:=fun b w0 Q L a w hd hL h=>by have e0:=h.s0;refine aB rfl rfl (cj (s:=36) (v:=(vP b 0)) rfl rfl e0 ?_);exact h.au 29 rfl (Below.refl _ _)
theorem fst31:aD 31:=fun b w0 Q L a w hd hL h=>by have e0:a.eval (.tmp 36)=vP b 0:=h.const 29 rfl (hd 30 aI);refine aB rfl rfl (jE (s:=37) rfl rfl e0 ?_);exact h.au 30 rfl (Below.refl _ _)
theorem fst32:aD 32:=fun b w0 Q L a w hd hL h=>by have e0:a.eval (.tmp 37)=vP b 0:=h.const 30 rfl (hd 31 aI);refine aB rfl rfl (dS (s:=38) (v:=(vP b 9)) rfl rfl e0 aI ?_);exact h.au 31 rfl (Below.refl _ _)
theorem fst33:aD 33:=fun b w0 Q L a w hd hL h=>by have e0:a.eval (.tmp 35)=.func (.func 114) #[] #[]:=h.const 28 rfl (hd 29 aI);have e1:a.eval (.tmp 38)=vP b 9:=h.const 31 rfl (hd 32 aI);refine aB rfl rfl (jF (s:=39) rfl rfl e0 e1 aI (jD _ _) ?_);intro w' hb;exact h.au 32 rfl hb
theorem fst34:aD 34:=fun b w0 Q L a w hd hL h=>by have e0:=h.s4;refine aB rfl rfl (cj (s:=40) (v:=(.func (.func 114) #[] #[])) rfl rfl e0 ?_);exact h.au 33 rfl (Below.refl _ _)
theorem fst35:aD 35:=fun b w0 Q L a w hd hL h=>by have e0:=h.s0;refine aB rfl rfl (cj (s:=41) (v:=(vP b 0)) rfl rfl e0 ?_);exact h.au 34 rfl (Below.refl _ _)
theorem fst36:aD 36:=fun b w0 Q L a w hd hL h=>by have e0:a.eval (.tmp 41)=vP b 0:=h.const 34 rfl (hd 35 aI);refine aB rfl rfl (jE (s:=42) rfl rfl e0 ?_);exact h.au 35 rfl (Below.refl _ _)
theorem fst37:aD 37:=fun b w0 Q L a w hd hL h=>by have e0:a.eval (.tmp 42)=vP b 0:=h.const 35 rfl (hd 36 aI);refine aB rfl rfl (dS (s:=43) (v:=(vP b 10)) rfl rfl e0 aI ?_);exact h.au 36 rfl (Below.refl _ _)
theorem fst38:aD 38:=fun b w0 Q L a w hd hL h=>by have e0:a.eval (.tmp 40)=.func (.func 114) #[] #[]:=h.const 33 rfl (hd 34 aI);have e1:a.eval (.tmp 43)=vP b 10:=h.const 36 rfl (hd 37 aI);refine aB rfl rfl (jF (s:=44) rfl rfl e0 e1 aI (jD _ _) ?_);intro w' hb;exact h.au 37 rfl hb
theorem fst39:aD 39:=fun b w0 Q L a w hd hL h=>by have e0:a.eval (.tmp 11)=.agg #[vU 1,vU 4294967296,vP b 1,.pointer none,.pointer none]:=h.const 4 rfl (hd 5 aI);have e1:a.eval (.tmp 15)=.agg #[vU 0,vU 0,.pointer none,.pointer none,vP b 3]:=h.const 8 rfl (hd 9 aI);have e2:a.eval (.tmp 19)=.agg #[vU 0,vU 1,.pointer none,vP b 4,.pointer none]:=h.const 12 rfl (hd 13 aI);have e3:a.eval (.tmp 24)=.agg #[vU 1,vU 1048576,.pointer none,vP b 6,.pointer none]:=h.const 17 rfl (hd 18 aI);have e4:a.eval (.tmp 29)=.agg #[vU 1,vU 1048576,.pointer none,vP b 7,.pointer none]:=h.const 22 rfl (hd 23 aI);have e5:a.eval (.tmp 34)=.agg #[vU 1,vU 1048576,.pointer none,vP b 8,.pointer none]:=h.const 27 rfl (hd 28 aI);have e6:a.eval (.tmp 39)=.agg #[vU 1,vU 1048576,.pointer none,vP b 9,.pointer none]:=h.const 32 rfl (hd 33 aI);have e7:a.eval (.tmp 44)=.agg #[vU 1,vU 1048576,.pointer none,vP b 10,.pointer none]:=h.const 37 rfl (hd 38 aI);refine aB rfl rfl (yI (s:=45) (v:=vL w.heap.size 0 8 8) (w':=w.alloc (cl (nV b af.uE) 213)) rfl rfl (by simp only [List.map_toArray,jQ,uL,e0,e1,e2,e3,e4,e5,e6,e7];kernel_rfl) ?_);exact vn h (x:=(39,45,af.uE)) FW hL
theorem fst40:aD 40:=fun b w0 Q L a w hd hL h=>by
 obtain ⟨mb,D,k1,_⟩:=h.map (hd 0 aI);obtain ⟨w',hrun,hI⟩:=rS h (x:=(40,1,45)) (by simp [gh]) hL (hd 0 aI) (fun y hy e=>by
  have:=gP (l:=bL) (x:=y) (y:=(39,45,af.uE)) aG hy FW e
  rw [this];exact hd 39 aI) k1
 exact YX
theorem fst41:aD 41:=fun b w0 Q L a w hd hL h=>by have e0:=h.s3;refine aB rfl rfl (cj (s:=46) (v:=(.func (.func 113) #[] #[])) rfl rfl e0 ?_);exact h.au 38 rfl (Below.refl _ _)
theorem fst42:aD 42:=fun b w0 Q L a w hd hL h=>by have e0:=h.s0;refine aB rfl rfl (cj (s:=47) (v:=(vP b 0)) rfl rfl e0 ?_);exact h.au 39 rfl (Below.refl _ _)
theorem fst43:aD 43:=fun b w0 Q L a w hd hL h=>by have e0:a.eval (.tmp 47)=vP b 0:=h.const 39 rfl (hd 42 aI);refine aB rfl rfl (jE (s:=48) rfl rfl e0 ?_);exact h.au 40 rfl (Below.refl _ _)
theorem fst44:aD 44:=fun b w0 Q L a w hd hL h=>by have e0:a.eval (.tmp 48)=vP b 0:=h.const 40 rfl (hd 43 aI);refine aB rfl rfl (dS (s:=49) (v:=(vP b 1)) rfl rfl e0 aI ?_);exact h.au 41 rfl (Below.refl _ _)
theorem fst45:aD 45:=fun b w0 Q L a w hd hL h=>by have e0:a.eval (.tmp 46)=.func (.func 113) #[] #[]:=h.const 38 rfl (hd 41 aI);have e1:a.eval (.tmp 49)=vP b 1:=h.const 41 rfl (hd 44 aI);refine aB rfl rfl (jF (s:=50) rfl rfl e0 e1 aI (mP _ _) ?_);intro w' hb;exact h.au 42 rfl hb
theorem fst46:aD 46:=fun b w0 Q L a w hd hL h=>by have e0:=h.s3;refine aB rfl rfl (cj (s:=51) (v:=(.func (.func 113) #[] #[])) rfl rfl e0 ?_);exact h.au 43 rfl (Below.refl _ _)
theorem fst47:aD 47:=fun b w0 Q L a w hd hL h=>by have e0:=h.s0;refine aB rfl rfl (cj (s:=52) (v:=(vP b 0)) rfl rfl e0 ?_);exact h.au 44 rfl (Below.refl _ _)
theorem fst48:aD 48:=fun b w0 Q L a w hd hL h=>by have e0:a.eval (.tmp 52)=vP b 0:=h.const 44 rfl (hd 47 aI);refine aB rfl rfl (jE (s:=53) rfl rfl e0 ?_);exact h.au 45 rfl (Below.refl _ _)
theorem fst49:aD 49:=fun b w0 Q L a w hd hL h=>by have e0:a.eval (.tmp 53)=vP b 0:=h.const 45 rfl (hd 48 aI);refine aB rfl rfl (dS (s:=54) (v:=(vP b 2)) rfl rfl e0 aI ?_);exact h.au 46 rfl (Below.refl _ _)
theorem fst50:aD 50:=fun b w0 Q L a w hd hL h=>by have e0:a.eval (.tmp 51)=.func (.func 113) #[] #[]:=h.const 43 rfl (hd 46 aI);have e1:a.eval (.tmp 54)=vP b 2:=h.const 46 rfl (hd 49 aI);refine aB rfl rfl (jF (s:=55) rfl rfl e0 e1 aI (mP _ _) ?_);intro w' hb;exact h.au 47 rfl hb
theorem fst51:aD 51:=fun b w0 Q L a w hd hL h=>by have e0:=h.s4;refine aB rfl rfl (cj (s:=56) (v:=(.func (.func 114) #[] #[])) rfl rfl e0 ?_);exact h.au 48 rfl (Below.refl _ _)
theorem fst52:aD 52:=fun b w0 Q L a w hd hL h=>by have e0:=h.s0;refine aB rfl rfl (cj (s:=57) (v:=(vP b 0)) rfl rfl e0 ?_);exact h.au 49 rfl (Below.refl _ _)
theorem fst53:aD 53:=fun b w0 Q L a w hd hL h=>by have e0:a.eval (.tmp 57)=vP b 0:=h.const 49 rfl (hd 52 aI);refine aB rfl rfl (jE (s:=58) rfl rfl e0 ?_);exact h.au 50 rfl (Below.refl _ _)
theorem fst54:aD 54:=fun b w0 Q L a w hd hL h=>by have e0:a.eval (.tmp 58)=vP b 0:=h.const 50 rfl (hd 53 aI);refine aB rfl rfl (dS (s:=59) (v:=(vP b 6)) rfl rfl e0 aI ?_);exact h.au 51 rfl (Below.refl _ _)
theorem fst55:aD 55:=fun b w0 Q L a w hd hL h=>by have e0:a.eval (.tmp 56)=.func (.func 114) #[] #[]:=h.const 48 rfl (hd 51 aI);have e1:a.eval (.tmp 59)=vP b 6:=h.const 51 rfl (hd 54 aI);refine aB rfl rfl (jF (s:=60) rfl rfl e0 e1 aI (jD _ _) ?_);intro w' hb;exact h.au 52 rfl hb
theorem fst56:aD 56:=fun b w0 Q L a w hd hL h=>by have e0:=h.s4;refine aB rfl rfl (cj (s:=61) (v:=(.func (.func 114) #[] #[])) rfl rfl e0 ?_);exact h.au 53 rfl (Below.refl _ _)
theorem fst57:aD 57:=fun b w0 Q L a w hd hL h=>by have e0:=h.s0;refine aB rfl rfl (cj (s:=62) (v:=(vP b 0)) rfl rfl e0 ?_);exact h.au 54 rfl (Below.refl _ _)
theorem fst58:aD 58:=fun b w0 Q L a w hd hL h=>by have e0:a.eval (.tmp 62)=vP b 0:=h.const 54 rfl (hd 57 aI);refine aB rfl rfl (jE (s:=63) rfl rfl e0 ?_);exact h.au 55 rfl (Below.refl _ _)
theorem fst59:aD 59:=fun b w0 Q L a w hd hL h=>by have e0:a.eval (.tmp 63)=vP b 0:=h.const 55 rfl (hd 58 aI);refine aB rfl rfl (dS (s:=64) (v:=(vP b 8)) rfl rfl e0 aI ?_);exact h.au 56 rfl (Below.refl _ _)
theorem fst60:aD 60:=fun b w0 Q L a w hd hL h=>by have e0:a.eval (.tmp 61)=.func (.func 114) #[] #[]:=h.const 53 rfl (hd 56 aI);have e1:a.eval (.tmp 64)=vP b 8:=h.const 56 rfl (hd 59 aI);refine aB rfl rfl (jF (s:=65) rfl rfl e0 e1 aI (jD _ _) ?_);intro w' hb;exact h.au 57 rfl hb
theorem fst61:aD 61:=fun b w0 Q L a w hd hL h=>by have e0:=h.s4;refine aB rfl rfl (cj (s:=66) (v:=(.func (.func 114) #[] #[])) rfl rfl e0 ?_);exact h.au 58 rfl (Below.refl _ _)
theorem fst62:aD 62:=fun b w0 Q L a w hd hL h=>by have e0:=h.s0;refine aB rfl rfl (cj (s:=67) (v:=(vP b 0)) rfl rfl e0 ?_);exact h.au 59 rfl (Below.refl _ _)
theorem fst63:aD 63:=fun b w0 Q L a w hd hL h=>by have e0:a.eval (.tmp 67)=vP b 0:=h.const 59 rfl (hd 62 aI);refine aB rfl rfl (jE (s:=68) rfl rfl e0 ?_);exact h.au 60 rfl (Below.refl _ _)
theorem fst64:aD 64:=fun b w0 Q L a w hd hL h=>by have e0:a.eval (.tmp 68)=vP b 0:=h.const 60 rfl (hd 63 aI);refine aB rfl rfl (dS (s:=69) (v:=(vP b 9)) rfl rfl e0 aI ?_);exact h.au 61 rfl (Below.refl _ _)
theorem fst65:aD 65:=fun b w0 Q L a w hd hL h=>by have e0:a.eval (.tmp 66)=.func (.func 114) #[] #[]:=h.const 58 rfl (hd 61 aI);have e1:a.eval (.tmp 69)=vP b 9:=h.const 61 rfl (hd 64 aI);refine aB rfl rfl (jF (s:=70) rfl rfl e0 e1 aI (jD _ _) ?_);intro w' hb;exact h.au 62 rfl hb
theorem fst66:aD 66:=fun b w0 Q L a w hd hL h=>by have e0:a.eval (.tmp 50)=.agg #[vU 1,vU 4294967296,vP b 1,.pointer none,.pointer none]:=h.const 42 rfl (hd 45 aI);have e1:a.eval (.tmp 55)=.agg #[vU 1,vU 4294967296,vP b 2,.pointer none,.pointer none]:=h.const 47 rfl (hd 50 aI);have e2:a.eval (.tmp 60)=.agg #[vU 1,vU 1048576,.pointer none,vP b 6,.pointer none]:=h.const 52 rfl (hd 55 aI);have e3:a.eval (.tmp 65)=.agg #[vU 1,vU 1048576,.pointer none,vP b 8,.pointer none]:=h.const 57 rfl (hd 60 aI);have e4:a.eval (.tmp 70)=.agg #[vU 1,vU 1048576,.pointer none,vP b 9,.pointer none]:=h.const 62 rfl (hd 65 aI);refine aB rfl rfl (yI (s:=71) (v:=vL w.heap.size 0 5 5) (w':=w.alloc (cl (nV b af.uF) 213)) rfl rfl (by simp only [List.map_toArray,jQ,uL,e0,e1,e2,e3,e4];kernel_rfl) ?_);exact vn h (x:=(66,71,af.uF)) FW hL
theorem fst67:aD 67:=fun b w0 Q L a w hd hL h=>by
 obtain ⟨mb,D,k1,_⟩:=h.map (hd 0 aI);obtain ⟨w',hrun,hI⟩:=rS h (x:=(67,2,71)) (by simp [gh]) hL (hd 0 aI) (fun y hy e=>by
  have:=gP (l:=bL) (x:=y) (y:=(66,71,af.uF)) aG hy FW e
  rw [this];exact hd 66 aI) k1
 exact YX
theorem fst68:aD 68:=fun b w0 Q L a w hd hL h=>by have e0:=h.s3;refine aB rfl rfl (cj (s:=72) (v:=(.func (.func 113) #[] #[])) rfl rfl e0 ?_);exact h.au 63 rfl (Below.refl _ _)
theorem fst69:aD 69:=fun b w0 Q L a w hd hL h=>by have e0:=h.s0;refine aB rfl rfl (cj (s:=73) (v:=(vP b 0)) rfl rfl e0 ?_);exact h.au 64 rfl (Below.refl _ _)
theorem fst70:aD 70:=fun b w0 Q L a w hd hL h=>by have e0:a.eval (.tmp 73)=vP b 0:=h.const 64 rfl (hd 69 aI);refine aB rfl rfl (jE (s:=74) rfl rfl e0 ?_);exact h.au 65 rfl (Below.refl _ _)
theorem fst71:aD 71:=fun b w0 Q L a w hd hL h=>by have e0:a.eval (.tmp 74)=vP b 0:=h.const 65 rfl (hd 70 aI);refine aB rfl rfl (dS (s:=75) (v:=(vP b 2)) rfl rfl e0 aI ?_);exact h.au 66 rfl (Below.refl _ _)
theorem fst72:aD 72:=fun b w0 Q L a w hd hL h=>by have e0:a.eval (.tmp 72)=.func (.func 113) #[] #[]:=h.const 63 rfl (hd 68 aI);have e1:a.eval (.tmp 75)=vP b 2:=h.const 66 rfl (hd 71 aI);refine aB rfl rfl (jF (s:=76) rfl rfl e0 e1 aI (mP _ _) ?_);intro w' hb;exact h.au 67 rfl hb
theorem fst73:aD 73:=fun b w0 Q L a w hd hL h=>by have e0:=h.s0;refine aB rfl rfl (cj (s:=77) (v:=(vP b 0)) rfl rfl e0 ?_);exact h.au 68 rfl (Below.refl _ _)
theorem fst74:aD 74:=fun b w0 Q L a w hd hL h=>by have e0:a.eval (.tmp 77)=vP b 0:=h.const 68 rfl (hd 73 aI);refine aB rfl rfl (jE (s:=78) rfl rfl e0 ?_);exact h.au 69 rfl (Below.refl _ _)
theorem fst75:aD 75:=fun b w0 Q L a w hd hL h=>by have e0:a.eval (.tmp 78)=vP b 0:=h.const 69 rfl (hd 74 aI);refine aB rfl rfl (dS (s:=79) (v:=(vP b 5)) rfl rfl e0 aI ?_);exact h.au 70 rfl (Below.refl _ _)
theorem fst76:aD 76:=fun b w0 Q L a w hd hL h=>by have e0:a.eval (.tmp 79)=vP b 5:=h.const 70 rfl (hd 75 aI);refine aB rfl rfl (vh (s:=80) (v:=(.agg #[vU 1,vU 15,.pointer none,vP b 5,.pointer none])) rfl rfl Ru ?_);exact h.au 71 rfl (Below.refl _ _)
theorem fst77:aD 77:=fun b w0 Q L a w hd hL h=>by have e0:a.eval (.tmp 76)=.agg #[vU 1,vU 4294967296,vP b 2,.pointer none,.pointer none]:=h.const 67 rfl (hd 72 aI);have e1:a.eval (.tmp 80)=.agg #[vU 1,vU 15,.pointer none,vP b 5,.pointer none]:=h.const 71 rfl (hd 76 aI);refine aB rfl rfl (yI (s:=81) (v:=vL w.heap.size 0 2 2) (w':=w.alloc (cl (nV b af.uG) 213)) rfl rfl (by simp only [List.map_toArray,jQ,uL,e0,e1];kernel_rfl) ?_);exact vn h (x:=(77,81,af.uG)) FW hL
theorem fst78:aD 78:=fun b w0 Q L a w hd hL h=>by
 obtain ⟨mb,D,k1,_⟩:=h.map (hd 0 aI);obtain ⟨w',hrun,hI⟩:=rS h (x:=(78,3,81)) (by simp [gh]) hL (hd 0 aI) (fun y hy e=>by
  have:=gP (l:=bL) (x:=y) (y:=(77,81,af.uG)) aG hy FW e
  rw [this];exact hd 77 aI) k1
 exact YX
theorem fst79:aD 79:=fun b w0 Q L a w hd hL h=>by have e0:=h.s3;refine aB rfl rfl (cj (s:=82) (v:=(.func (.func 113) #[] #[])) rfl rfl e0 ?_);exact h.au 72 rfl (Below.refl _ _)
theorem fst80:aD 80:=fun b w0 Q L a w hd hL h=>by have e0:=h.s0;refine aB rfl rfl (cj (s:=83) (v:=(vP b 0)) rfl rfl e0 ?_);exact h.au 73 rfl (Below.refl _ _)
theorem fst81:aD 81:=fun b w0 Q L a w hd hL h=>by have e0:a.eval (.tmp 83)=vP b 0:=h.const 73 rfl (hd 80 aI);refine aB rfl rfl (jE (s:=84) rfl rfl e0 ?_);exact h.au 74 rfl (Below.refl _ _)
theorem fst82:aD 82:=fun b w0 Q L a w hd hL h=>by have e0:a.eval (.tmp 84)=vP b 0:=h.const 74 rfl (hd 81 aI);refine aB rfl rfl (dS (s:=85) (v:=(vP b 2)) rfl rfl e0 aI ?_);exact h.au 75 rfl (Below.refl _ _)
theorem fst83:aD 83:=fun b w0 Q L a w hd hL h=>by have e0:a.eval (.tmp 82)=.func (.func 113) #[] #[]:=h.const 72 rfl (hd 79 aI);have e1:a.eval (.tmp 85)=vP b 2:=h.const 75 rfl (hd 82 aI);refine aB rfl rfl (jF (s:=86) rfl rfl e0 e1 aI (mP _ _) ?_);intro w' hb;exact h.au 76 rfl hb
theorem fst84:aD 84:=fun b w0 Q L a w hd hL h=>by have e0:=h.s0;refine aB rfl rfl (cj (s:=87) (v:=(vP b 0)) rfl rfl e0 ?_);exact h.au 77 rfl (Below.refl _ _)
theorem fst85:aD 85:=fun b w0 Q L a w hd hL h=>by have e0:a.eval (.tmp 87)=vP b 0:=h.const 77 rfl (hd 84 aI);refine aB rfl rfl (jE (s:=88) rfl rfl e0 ?_);exact h.au 78 rfl (Below.refl _ _)
theorem fst86:aD 86:=fun b w0 Q L a w hd hL h=>by have e0:a.eval (.tmp 88)=vP b 0:=h.const 78 rfl (hd 85 aI);refine aB rfl rfl (dS (s:=89) (v:=(vP b 11)) rfl rfl e0 aI ?_);exact h.au 79 rfl (Below.refl _ _)
theorem fst87:aD 87:=fun b w0 Q L a w hd hL h=>by have e0:a.eval (.tmp 89)=vP b 11:=h.const 79 rfl (hd 86 aI);refine aB rfl rfl (vh (s:=90) (v:=(.agg #[vU 0,vU 1000,vP b 11,.pointer none,.pointer none])) rfl rfl Ru ?_);exact h.au 80 rfl (Below.refl _ _)
theorem fst88:aD 88:=fun b w0 Q L a w hd hL h=>by have e0:=h.s0;refine aB rfl rfl (cj (s:=91) (v:=(vP b 0)) rfl rfl e0 ?_);exact h.au 81 rfl (Below.refl _ _)
theorem fst89:aD 89:=fun b w0 Q L a w hd hL h=>by have e0:a.eval (.tmp 91)=vP b 0:=h.const 81 rfl (hd 88 aI);refine aB rfl rfl (jE (s:=92) rfl rfl e0 ?_);exact h.au 82 rfl (Below.refl _ _)
theorem fst90:aD 90:=fun b w0 Q L a w hd hL h=>by have e0:a.eval (.tmp 92)=vP b 0:=h.const 82 rfl (hd 89 aI);refine aB rfl rfl (dS (s:=93) (v:=(vP b 12)) rfl rfl e0 aI ?_);exact h.au 83 rfl (Below.refl _ _)
theorem fst91:aD 91:=fun b w0 Q L a w hd hL h=>by have e0:a.eval (.tmp 93)=vP b 12:=h.const 83 rfl (hd 90 aI);refine aB rfl rfl (vh (s:=94) (v:=(.agg #[vU 0,vU 255,vP b 12,.pointer none,.pointer none])) rfl rfl Ru ?_);exact h.au 84 rfl (Below.refl _ _)
theorem fst92:aD 92:=fun b w0 Q L a w hd hL h=>by have e0:=h.s4;refine aB rfl rfl (cj (s:=95) (v:=(.func (.func 114) #[] #[])) rfl rfl e0 ?_);exact h.au 85 rfl (Below.refl _ _)
theorem fst93:aD 93:=fun b w0 Q L a w hd hL h=>by have e0:=h.s0;refine aB rfl rfl (cj (s:=96) (v:=(vP b 0)) rfl rfl e0 ?_);exact h.au 86 rfl (Below.refl _ _)
theorem fst94:aD 94:=fun b w0 Q L a w hd hL h=>by have e0:a.eval (.tmp 96)=vP b 0:=h.const 86 rfl (hd 93 aI);refine aB rfl rfl (jE (s:=97) rfl rfl e0 ?_);exact h.au 87 rfl (Below.refl _ _)
theorem fst95:aD 95:=fun b w0 Q L a w hd hL h=>by have e0:a.eval (.tmp 97)=vP b 0:=h.const 87 rfl (hd 94 aI);refine aB rfl rfl (dS (s:=98) (v:=(vP b 9)) rfl rfl e0 aI ?_);exact h.au 88 rfl (Below.refl _ _)
theorem fst96:aD 96:=fun b w0 Q L a w hd hL h=>by have e0:a.eval (.tmp 95)=.func (.func 114) #[] #[]:=h.const 85 rfl (hd 92 aI);have e1:a.eval (.tmp 98)=vP b 9:=h.const 88 rfl (hd 95 aI);refine aB rfl rfl (jF (s:=99) rfl rfl e0 e1 aI (jD _ _) ?_);intro w' hb;exact h.au 89 rfl hb
theorem fst97:aD 97:=fun b w0 Q L a w hd hL h=>by have e0:a.eval (.tmp 86)=.agg #[vU 1,vU 4294967296,vP b 2,.pointer none,.pointer none]:=h.const 76 rfl (hd 83 aI);have e1:a.eval (.tmp 90)=.agg #[vU 0,vU 1000,vP b 11,.pointer none,.pointer none]:=h.const 80 rfl (hd 87 aI);have e2:a.eval (.tmp 94)=.agg #[vU 0,vU 255,vP b 12,.pointer none,.pointer none]:=h.const 84 rfl (hd 91 aI);have e3:a.eval (.tmp 99)=.agg #[vU 1,vU 1048576,.pointer none,vP b 9,.pointer none]:=h.const 89 rfl (hd 96 aI);refine aB rfl rfl (yI (s:=100) (v:=vL w.heap.size 0 4 4) (w':=w.alloc (cl (nV b af.uH) 213)) rfl rfl (by simp only [List.map_toArray,jQ,uL,e0,e1,e2,e3];kernel_rfl) ?_);exact vn h (x:=(97,100,af.uH)) FW hL
theorem fst98:aD 98:=fun b w0 Q L a w hd hL h=>by
 obtain ⟨mb,D,k1,_⟩:=h.map (hd 0 aI);obtain ⟨w',hrun,hI⟩:=rS h (x:=(98,4,100)) (by simp [gh]) hL (hd 0 aI) (fun y hy e=>by
  have:=gP (l:=bL) (x:=y) (y:=(97,100,af.uH)) aG hy FW e
  rw [this];exact hd 97 aI) k1
 exact YX
theorem fst99:aD 99:=fun b w0 Q L a w hd hL h=>by obtain ⟨mb,D,k1,_⟩:=h.map (hd 0 aI);exact aB rfl rfl (cj (s:=mR) rfl rfl k1 (st_mv h (hd 0 aI) k1))
theorem fst100:aD 100:=fun b w0 Q L a w hd hL h=>by
 have h0:L 0=true:=by
  cases hl:L 0
  ·have:=h.early hl qI aG;rw [hd qI aI] at this;exact absurd this aG
  ·rfl
 obtain ⟨mb,D,k1,k2,k3,k4,k5,k6,k7,k8⟩:=h.map h0;exact aB rfl rfl (RN (s:=mS) rfl rfl (k7 (hd qI aI)) (st_as h h0 k1))
end Go.Proofs.N0
namespace Go.Proofs.N0
open Go.RowKit Go.Maps Go.ChangeMaps
theorem fsteps:∀ i,i<101→aD i
 | 0,_=>fst0
 | 1,_=>fst1
 | 2,_=>fst2
 | 3,_=>fst3
 | 4,_=>fst4
 | 5,_=>fst5
 | 6,_=>fst6
 | 7,_=>fst7
 | 8,_=>fst8
 | 9,_=>fst9
 | 10,_=>fst10
 | 11,_=>fst11
 | 12,_=>fst12
 | 13,_=>fst13
 | 14,_=>fst14
 | 15,_=>fst15
 | 16,_=>fst16
 | 17,_=>fst17
 | 18,_=>fst18
 | 19,_=>fst19
 | 20,_=>fst20
 | 21,_=>fst21
 | 22,_=>fst22
 | 23,_=>fst23
 | 24,_=>fst24
 | 25,_=>fst25
 | 26,_=>fst26
 | 27,_=>fst27
 | 28,_=>fst28
 | 29,_=>fst29
 | 30,_=>fst30
 | 31,_=>fst31
 | 32,_=>fst32
 | 33,_=>fst33
 | 34,_=>fst34
 | 35,_=>fst35
 | 36,_=>fst36
 | 37,_=>fst37
 | 38,_=>fst38
 | 39,_=>fst39
 | 40,_=>fst40
 | 41,_=>fst41
 | 42,_=>fst42
 | 43,_=>fst43
 | 44,_=>fst44
 | 45,_=>fst45
 | 46,_=>fst46
 | 47,_=>fst47
 | 48,_=>fst48
 | 49,_=>fst49
 | 50,_=>fst50
 | 51,_=>fst51
 | 52,_=>fst52
 | 53,_=>fst53
 | 54,_=>fst54
 | 55,_=>fst55
 | 56,_=>fst56
 | 57,_=>fst57
 | 58,_=>fst58
 | 59,_=>fst59
 | 60,_=>fst60
 | 61,_=>fst61
 | 62,_=>fst62
 | 63,_=>fst63
 | 64,_=>fst64
 | 65,_=>fst65
 | 66,_=>fst66
 | 67,_=>fst67
 | 68,_=>fst68
 | 69,_=>fst69
 | 70,_=>fst70
 | 71,_=>fst71
 | 72,_=>fst72
 | 73,_=>fst73
 | 74,_=>fst74
 | 75,_=>fst75
 | 76,_=>fst76
 | 77,_=>fst77
 | 78,_=>fst78
 | 79,_=>fst79
 | 80,_=>fst80
 | 81,_=>fst81
 | 82,_=>fst82
 | 83,_=>fst83
 | 84,_=>fst84
 | 85,_=>fst85
 | 86,_=>fst86
 | 87,_=>fst87
 | 88,_=>fst88
 | 89,_=>fst89
 | 90,_=>fst90
 | 91,_=>fst91
 | 92,_=>fst92
 | 93,_=>fst93
 | 94,_=>fst94
 | 95,_=>fst95
 | 96,_=>fst96
 | 97,_=>fst97
 | 98,_=>fst98
 | 99,_=>fst99
 | 100,_=>fst100
 | n+101,h=>absurd h ax
theorem RO:FZ.size=101:=aI
theorem Jr:(FZ.toList.zipIdx.all fun x=>x.1.after.all fun e=>!Region.binds .any e||decide (e.on<x.2))=true:=aI
theorem fafter (i:Nat) (o:Oper) (h:FZ[i]?=some o):∀ e∈o.after,Region.binds .any e=true→e.on<i:=by
 intro e he hb
 have hm:(o,i)∈FZ.toList.zipIdx:=by rw [List.mem_zipIdx_iff_getElem?];simpa using h
 have:=List.all_eq_true.1 Jr _ hm
 simp only [IP] at this
 obtain ⟨j,hj,rfl⟩:=nR he
 have:=this j hj
 simpa [hb] using this
theorem fdeps {i:Nat} {o:Oper} {L:Nat→Bool} (h:FZ[i]?=some o) (hr:(o.after.all fun e=>!Region.binds .any e||L e.on)=true):∀ j,dj i j=true→L j=true:=by
 intro j hj
 unfold dj at hj
 rw [h] at hj
 simp only [Option.any_some,Array.any_eq_true] at hj
 obtain ⟨k,hk,e⟩:=hj
 rw [gi] at e
 rw [IP] at hr
 have:=hr k hk
 rw [e.2] at this
 have ej:o.after[k].on=j:=by simpa using e.1
 rw [ej] at this
 simpa using this
theorem NP (l:List Value):l=(List.range l.length).map fun i=>l.getD i undef:=by apply List.ext_getElem aH;intro i h1 h2;simp [ux,h1]
theorem RP {a:Act} (h:a.tmps.size=108) (hd:a.defers=[]):∃ e:Nat→Value,a=⟨#[e 0,e 1,e 2,e 3,e 4,e 5,e 6,e 7,e 8,e 9,e 10,e 11,e 12,e 13,e 14,e 15,e 16,e 17,e 18,e 19,e 20,e 21,e 22,e 23,e 24,e 25,e 26,e 27,e 28,e 29,e 30,e 31,e 32,e 33,e 34,e 35,e 36,e 37,e 38,e 39,e 40,e 41,e 42,e 43,e 44,e 45,e 46,e 47,e 48,e 49,e 50,e 51,e 52,e 53,e 54,e 55,e 56,e 57,e 58,e 59,e 60,e 61,e 62,e 63,e 64,e 65,e 66,e 67,e 68,e 69,e 70,e 71,e 72,e 73,e 74,e 75,e 76,e 77,e 78,e 79,e 80,e 81,e 82,e 83,e 84,e 85,e 86,e 87,e 88,e 89,e 90,e 91,e 92,e 93,e 94,e 95,e 96,e 97,e 98,e 99,e 100,e 101,e 102,e 103,e 104,e 105,e 106,e 107],[]⟩∧∀ i,a.eval (.tmp i)=e i:=by obtain ⟨⟨l⟩,d⟩:=a;simp only at hd;subst hd;refine ⟨fun i=>l.getD i undef,?_,fun i=>by simp only [Act.eval,yl,List.getElem?_toArray,ux]⟩;have hl:l.length=108:=DN;have e:=NP l;rw [hl] at e;congr 1;exact congrArg List.toArray e
def zR (w:World) (b:Nat) (kind:Int) (e:Ending) (w':World):Prop :=
 Below w.heap.size w w'∧((af.bk kind=[]∧e=.returned (.slice none 0 0)) ∨
  (af.bk kind≠[]∧∃ g,e=.returned (vL g 0 (af.bk kind).length (af.bk kind).length)∧w.heap.size≤g∧w'.heap[g]?=some (cl (nV b (af.bk kind)) 213)))
theorem mU {b:Nat} {m:af.bJ} (w:World) (hb:w.heap[b]?=some (cl (bR m) 82)) (hk:(Lit.int .i64 (m.v 0)).wf=true) :
 Calls Tryz.prog 82 #[vP b 0] w (zR w b (m.v 0)):=by
 go_enter Tryz.func82,Tryz.ntmps82
 go_wp2_with fail
 refine sI (ops:=FZ) (FI b w) aI fafter ?_ ?_ ?_
 ·intro L hL;have hL':∀ i,i<101→L i=false:=fun i hi=>hL i (by rw [RO];exact hi);refine ⟨rfl,rfl,rfl,rfl,rfl,fun x hx WR=>?_,(Below.refl _ _).drew,fun _ i hi=>hL' i ((by decide:∀ i∈late,i<101) i hi),fun y hy yH=>?_,fun x hx WR=>?_,fun h0=>?_⟩
  ·have h1:x.1∈BF:=by rw [←vk b];exact mG (f:=(·.1)) hx
   rw [hL' _ ((by decide +kernel:∀ i∈BF,i<101) _ h1)] at WR;exact absurd WR aG
  ·rw [hL' _ ((by decide:∀ y∈gh,y.1<101) y hy)] at yH;exact absurd yH aG
  ·rw [hL' _ ((by decide:∀ y∈bL,y.1<101) x hx)] at WR;exact absurd WR aG
  ·rw [hL' 0 aG] at h0;exact absurd h0 aG
 ·intro i o L a' w' ho hLi hr hI;have hi:i<101:=by
   have:=(Array.getElem?_eq_some_iff.1 ho).1
   rw [RO] at this
   exact this
  exact fsteps i hi b w _ L a' w' (fdeps ho hr) hLi hI
 ·intro L a' w' hL hI;have hL':∀ i,i<101→L i=true:=fun i hi=>hL i (by rw [RO];exact hi);obtain ⟨mb,D,k1,k2,k3,k4,k5,k6,k7,k8⟩:=hI.map (hL' 0 aG);have s5:=k8 (hL' tQ aG);have s0:=hI.s0;have iK:=hI.below;have hc:w'.cell? ⟨b,0,none⟩=some (vI (m.v 0)):=by have hb':=(iK.block b (lt_of_block hb)).trans hb;simp [World.cell?,hb',bR]
  obtain ⟨v,ps,hrun,hv⟩:=k3.lookup lawK Tryz.underlying253 (zeroF w') (zd:=.held (.slice none 0 0)) (zp:=[]) rfl (keyOf_int_mk Tryz.underlying3 hk:keyOf Tryz.prog 3 (vI (m.v 0))=some (qH (m.v 0)));have hv':(.held v:DataW Value)=D.atKey (qH (m.v 0)) (.held (.slice none 0 0)):=by simp only [cK,Option.some.injEq,Prod.mk.injEq] at hv;exact hv.1
  have key:∀ x∈gh,∀ y∈bL,y.2.1=x.2.2→m.v 0=(x.2.1:Nat)→∃ g,v=vL g 0 y.2.2.length y.2.2.length∧w.heap.size≤g∧w'.heap[g]?=some (cl (nV b y.2.2) 213):=fun x hx y hy e em=>by have h1:=k5 x hx (hL' _ ((by decide:∀ y∈gh,y.1<101) x hx)) (.held (.slice none 0 0));obtain ⟨g,g1,g2,g3⟩:=hI.slices y hy (hL' _ ((by decide:∀ y∈bL,y.1<101) y hy));rw [em,h1,←e,g1] at hv';exact ⟨g,by injection hv',g2,g3⟩
  have HT:Hid (zR w b (m.v 0) (.returned v) w'):=by
   refine Hi ⟨iK,?_⟩;rcases af.mh (m.v 0) with ⟨e,ef⟩|⟨e,ef⟩|⟨e,ef⟩|⟨e,ef⟩|⟨e1,e2,e3,e4,ef⟩
   ·obtain ⟨g,rfl,g2,g3⟩:=key (40,1,45) aG (39,45,af.uE) aG rfl e;exact YM
   ·obtain ⟨g,rfl,g2,g3⟩:=key (67,2,71) aG (66,71,af.uF) aG rfl e;exact YM
   ·obtain ⟨g,rfl,g2,g3⟩:=key (78,3,81) aG (77,81,af.uG) aG rfl e;exact YM
   ·obtain ⟨g,rfl,g2,g3⟩:=key (98,4,100) aG (97,100,af.uH) aG rfl e;exact YM
   ·have hno:Maps.has D (qH (m.v 0))=false:=k6 _ fun x hx e=>by
     have hx':x.2.1=1∨x.2.1=2∨x.2.1=3∨x.2.1=4:=(by decide:∀ x∈gh,x.2.1=1∨x.2.1=2∨x.2.1=3∨x.2.1=4) x hx;have e':m.v 0=(x.2.1:Nat):=by simpa [qH] using e
     omega
    rw [atKey_of_not_has hno] at hv';injection hv' with hv';exact .inl ⟨ef,by rw [hv']⟩
  obtain ⟨e,rfl,he⟩:=RP hI.size hI.defers;have e0:e 0=vP b 0:=by rw [←he];exact s0
  have e5:e 5=.map (some mb):=by rw [←he];exact s5
  clear hI k1 k2 k3 k4 k5 k6 k7 k8 s5 s0 iK hv hv' key he;rw [e0,e5];clear e0 e5;go_wp2_with fail;go_ret;exact HT.out
end Go.Proofs.N0
namespace Go.Proofs.N0
open Go.RowKit Go.Maps Go.ChangeMaps
def zS (c:Nat) (x:Int):Value:=if af.iT c=true then vU x else vI x
theorem Ef {b:Nat} {f:af.oa} {x:Int} (w:World) (h3:f.c≠3) (hc:w.cell? ⟨b,f.c,none⟩=some (zS f.c x)) (hx:af.iT f.c=true→0≤x∧x<18446744073709551616) :
 Calls Tryz.prog 104 #[.agg (jT b f).toArray] w fun e w'=>e=.returned (vU (IntKind.u64.wrap x))∧Below w.heap.size w w':=by
 unfold jT zS at *
 rw [if_neg h3]
 by_cases hu:af.iT f.c=true
 ·rw [if_pos hu] at hc ⊢;have hw:IntKind.u64.wrap x=x:=by rw [IntKind.wrap_u64];have:=hx hu;omega
  rw [hw];have HN:=Hi (World.size_alloc w (cl #[vU f.lo,vU f.hi,vP b f.c,.pointer none,.pointer none] 213));have hb:=World.block_lt_of_cell? w _ hc;simp only at hb;have hc':=(((Below.refl w.heap.size w).alloc (cC _) (cl #[vU f.lo,vU f.hi,vP b f.c,.pointer none,.pointer none] 213)).cell (p:=⟨b,f.c,none⟩) hb).trans hc;clear hx hw hu;go_enter Tryz.func104,Tryz.ntmps104;exact Zn
 ·rw [if_neg hu] at hc ⊢;have hb:=World.block_lt_of_cell? w _ hc;simp only at hb;have hc':=(((Below.refl w.heap.size w).alloc (cC _) (cl #[vU f.lo,vU f.hi,.pointer none,vP b f.c,.pointer none] 213)).cell (p:=⟨b,f.c,none⟩) hb).trans hc;clear hx hu;go_enter Tryz.func104,Tryz.ntmps104;exact Zn
end Go.Proofs.N0
namespace Go.Proofs.N0
open Go.RowKit Go.Maps Go.ChangeMaps
theorem size_setCell (w:World) (a:Addr) (v:Value):(w.setCell a v).heap.size=w.heap.size:=by simp [World.setCell]
def Zr (w:World) (a:Addr) (v:Value) (e:Ending) (w':World):Prop:=e=.returned (.tuple #[])∧Below w.heap.size (w.setCell a v) w'
theorem LH {b:Nat} {f:af.oa} {x:Nat} {old:Value} (w:World) (h3:f.c≠3) (hc:w.cell? ⟨b,f.c,none⟩=some old) (hz:w.frozen? ⟨b,f.c,none⟩=false) (hx:x<9223372036854775808) :
 Calls Tryz.prog 116 #[.agg (jT b f).toArray,vU x] w (Zr w ⟨b,f.c,none⟩ (zS f.c x)):=by
 unfold jT zS
 rw [if_neg h3]
 by_cases hu:af.iT f.c=true
 ·rw [if_pos hu,if_pos hu];have hb:=World.block_lt_of_cell? w _ hc;simp only at hb;have hc':=(((Below.refl w.heap.size w).alloc (cC _) (cl #[vU f.lo,vU f.hi,vP b f.c,.pointer none,.pointer none] 213)).cell (p:=⟨b,f.c,none⟩) hb).trans hc;have hz':=(((Below.refl w.heap.size w).alloc (cC _) (cl #[vU f.lo,vU f.hi,vP b f.c,.pointer none,.pointer none] 213)).frozen (p:=⟨b,f.c,none⟩) hb).trans hz;exact Rs
 ·rw [if_neg hu,if_neg hu];have hb:=World.block_lt_of_cell? w _ hc;simp only at hb;have hc':=(((Below.refl w.heap.size w).alloc (cC _) (cl #[vU f.lo,vU f.hi,.pointer none,vP b f.c,.pointer none] 213)).cell (p:=⟨b,f.c,none⟩) hb).trans hc;have hz':=(((Below.refl w.heap.size w).alloc (cC _) (cl #[vU f.lo,vU f.hi,.pointer none,vP b f.c,.pointer none] 213)).frozen (p:=⟨b,f.c,none⟩) hb).trans hz;exact Rs
def OffR (l:List UInt8) (lv iv:Value):Prop:=∃ k last:Nat,k≤l.length∧iv=vI k∧lv=vI last∧last≤256∧af.yS 256 l=af.yS last (l.drop k)
theorem gY {s:ByteArray} {l:List UInt8} {b:Bool} (hl:s.data.toList=l) (hb:af.cL l=b) (w:World) (hs:s.size≤maxLen) :
 Calls Tryz.prog 51 #[.string s] w fun e w'=>e=.returned (.bool b)∧w=w':=by
 have hsz:s.size=l.length:=by rw [←hl];simp
 have hsm:s.size≤9223372036854775807:=hs
 obtain ⟨HL,HB,HSZ⟩:=ju hl hb hsz
 clear hl hb hs hsz
 go_enter Tryz.func51,Tryz.ntmps51
 go_wp2_with fail
 go_loop [3,8] (fun lv iv=>OffR l lv iv) (fun _ iv=>s.size - (intOf iv).toNat)
 case atStart=>exact ⟨0,256,pR _,rfl,rfl,cC _,rfl⟩
 case round =>
  obtain ⟨k,last,hk,rfl,rfl,RQ,ho⟩:=hrel;by_cases hlt:k<s.size
  ·have sH:k<l.length:=by rw [←HSZ.out];exact hlt
   have hd:l.drop k=l[k]::l.drop (k+1):=by rw [List.drop_eq_getElem_cons sH]
   rw [hd] at ho;have hby:s[k]=l[k]:=by
    have h1:s[k]=s.data[k]:=rfl;have:s.data.toList[k]'(by rw [HL.out];exact sH)=l[k]:=by simp only [HL.out]
    rw [h1,←this,Array.getElem_toList]
   have hc:=s[k].toNat_lt;simp only [af.yS] at ho;rw [←hby] at ho;by_cases hg:1≤s[k].toNat∧s[k].toNat<last
   ·rw [decide_eq_true hg,DK] at ho
    obtain ⟨g1,g2⟩:=hg
    have HO:=Hi ho
    clear ho hd hby
    go_wp2_with fail
    go_round
    case rel=>exact ⟨k+1,s[k].toNat,ax,by go_num,rfl,ax,HO.out⟩
    case measure=>simp [intOf];omega
   ·rw [decide_eq_false hg,Bool.false_and] at ho;have hbf:b=false:=by rw [←HB.out];unfold af.cL;rw [ho];rfl
    subst hbf;have hg':s[k].toNat<1∨last≤s[k].toNat:=ax;clear ho hd hby hg HB;rcases hg' with g|g
    ·go_wp2_with fail;go_ret;exact ⟨rfl,rfl⟩
    ·by_cases g':s[k].toNat<1
     ·go_wp2_with fail;go_ret;exact ⟨rfl,rfl⟩
     ·go_wp2_with fail;go_ret;exact ⟨rfl,rfl⟩
  ·have sH:l.drop k=[]:=List.drop_of_length_le (by have:=HSZ.out;omega);rw [sH] at ho;have RS:b=decide (1≤s.size∧s.size≤8):=by rw [←HB.out];unfold af.cL;rw [ho,HSZ.out];rfl
   clear ho sH;subst RS;go_wp2_with fail;all_goals
    go_ret
    exact ⟨gH (by rw [Bool.eq_iff_iff];simp;omega),rfl⟩
end Go.Proofs.N0
namespace Go
open Go.RowKit
variable {i id:Nat} {a:Act} {w:World} {Q Q':Exit→Act→World→Prop}
section
variable {P:Program} {l:List Oper} {o:Oper} {Q:Exit→Act→World→Prop}
def vo (l:List Oper) (o:Oper):Bool :=
 ((l++[o]).zipIdx.all fun x=>(x.1.after.all fun e=>!Region.binds .any e||decide (e.on<x.2))&&(match x.1.guard with|none=>true|some (j,_)=>decide (j<x.2))) &&
 ((List.range l.length).all fun i=>(List.range (l.length+1)).any fun j=>decide (i<j)&&(match (l++[o])[j]? with|some oj=>oj.after.any fun e=>Region.binds .any e&&e.on==i|none=>false))
theorem lV (h:vo l o=true):(∀ (i:Nat) (x:Oper),(l++[o])[i]?=some x→(∀ e∈x.after,Region.binds .any e=true→e.on<i)∧∀ j b,x.guard=some (j,b)→j<i) ∧
 ∀ i,i<l.length→∃ j x,i<j∧j≤l.length∧(l++[o])[j]?=some x∧∃ e∈x.after,Region.binds .any e=true∧e.on=i:=by
 unfold vo at h
 rw [gi] at h
 obtain ⟨h1,h2⟩:=h
 refine ⟨fun i x hx=>?_,fun i hi=>?_⟩
 ·have hm:(x,i)∈(l++[o]).zipIdx:=by rw [List.mem_zipIdx_iff_getElem?];exact hx
  have:=List.all_eq_true.1 h1 _ hm
  simp only [gi,IP] at this
  refine ⟨fun e he hb=>?_,fun j b hg=>?_⟩
  ·obtain ⟨k,hk,rfl⟩:=nR he
   have:=this.1 k hk
   simpa [hb] using this
  ·have:=this.2
   rw [hg] at this
   simpa using this
 ·have:=List.all_eq_true.1 h2 i (List.mem_range.2 hi)
  rw [List.any_eq_true] at this
  obtain ⟨j,hj,hw⟩:=this
  rw [gi] at hw
  obtain ⟨hw1,hw2⟩:=hw
  split at hw2
  ·rename_i x hx;rw [Array.any_eq_true] at hw2;obtain ⟨k,hk,hb⟩:=hw2;rw [gi] at hb;exact ⟨j,x,by simpa using hw1,by have:=List.mem_range.1 hj;omega,hx,x.after[k],Array.getElem_mem hk,hb.1,by simpa using hb.2⟩
  ·cases hw2
theorem zT {tmps:Array Value} {j:Nat} (hj:j<l.length):yielded (l++[o]).toArray tmps j=yielded l.toArray tmps j:=by
 unfold yielded;have:(l++[o]).toArray[j]?=l.toArray[j]?:=by simp only [List.getElem?_toArray];exact MK hj
 rw [this]
theorem Gb (ht:vo l o=true) (hi:i<l.length) {K:Act→World→Prop} (h:wpOp P l.toArray Q i K a w):wpOp P (l++[o]).toArray Q i K a w:=by
 unfold wpOp at h ⊢
 have e:(l++[o]).toArray[i]?=l.toArray[i]?:=by simp only [List.getElem?_toArray];exact MK hi
 rw [e]
 cases hx:l.toArray[i]? with
 | none=>rw [hx] at h;exact h
 | some x =>
  rw [hx] at h;simp only at h ⊢;have hy:Region.wanted x (yielded (l++[o]).toArray a.tmps)=Region.wanted x (yielded l.toArray a.tmps):=by
   unfold Region.wanted
   cases hg:x.guard with
   | none=>rfl
   | some p =>
    obtain ⟨j,b⟩:=p
    have hx':(l++[o])[i]?=some x:=by have:(l++[o]).toArray[i]?=some x:=e.trans hx;simpa using this
    have:=((lV ht).1 i x hx').2 j b hg
    simp only
    rw [zT ax]
  rw [hy];exact h
theorem wL {listed:Array Bool} {b d:Bool} (h:i<listed.size):(listed.push b).getD i d=listed.getD i d:=by simp only [yl,Array.getElem?_push];rw [if_neg ax]
def Js (l:List Oper) (o:Oper) (listed:Array Bool):Prop:=∀ (i:Nat) (x:Oper),(l++[o])[i]?=some x→i<l.length→listed.getD i false=true→∀ e∈x.after,Region.binds .any e=true→listed.getD e.on false=true
theorem zU {listed:Array Bool} (hs:listed.size=l.length) (ht:vo l o=true) (h:i∈Region.ready .any (l++[o]).toArray (listed.push false)) (hi:i<l.length):i∈Region.ready .any l.toArray listed:=by
 obtain ⟨h1,h2,h3⟩:=fo h
 unfold Region.ready
 rw [List.mem_filter]
 refine ⟨List.mem_range.2 D9,?_⟩
 have e:l.toArray[i]?=some l[i]:=by simp [hi]
 have e':(l++[o]).toArray[i]?=some l[i]:=by simp [MK hi]
 rw [wL ax] at h2
 rw [h2,e]
 simp only [nS,DK,Option.map_some,uy]
 have h4:=h3 _ e'
 rw [IP] at h4 ⊢
 intro k hk
 have:=h4 k hk
 by_cases hb:Region.binds .any l[i].after[k]=true
 ·have hlt:=((lV ht).1 i l[i] (by simpa using e')).1 l[i].after[k] (Array.getElem_mem hk) hb;rw [wL ax] at this;exact this
 ·have:Region.binds .any l[i].after[k]=false:=Qq;rw [this];rfl
theorem Jt {listed:Array Bool} (hs:listed.size=l.length) (ht:vo l o=true) (hc:Js l o listed) (h:l.length∈Region.ready .any (l++[o]).toArray (listed.push false)):∀ i,i<l.length→listed.getD i false=true:=by
 obtain ⟨_,_,h3⟩:=fo h;have ho:(l++[o]).toArray[l.length]?=some o:=aH;have h4:=h3 o ho;have main:∀ d i,i<l.length→l.length - i≤d→listed.getD i false=true:=by
  intro d
  induction d with
  | zero=>intro i hi hd;omega
  | succ d ih =>
   intro i hi hd;obtain ⟨j,x,hij,hj,hx,e,he,hb,rfl⟩:=(lV ht).2 i hi;by_cases hjn:j<l.length
   ·exact hc j x hx hjn (ih j hjn ax) e he hb
   ·obtain rfl:j=l.length:=ax
    have hxo:x=o:=by have:(l++[o])[l.length]?=some o:=aH;rw [this] at hx;exact (Option.some.inj hx).symm
    subst hxo
    rw [IP] at h4
    obtain ⟨k,hk,rfl⟩:=nR he
    have:=h4 k hk
    rw [wL ax] at this
    simpa [hb] using this
 intro i hi;exact main _ i hi (cC _)
theorem zV {ops:Array Oper} {listed:Array Bool} (h:∀ i,i<ops.size→listed.getD i true=true):Region.ready .any ops listed=[]:=by unfold Region.ready;rw [List.filter_eq_nil_iff];intro i hi;rw [h i (List.mem_range.1 hi)];simp
theorem kP (h:∀ e,e≠.normal→∀ a w,Q e a w→Q' e a w) (hh:LetsOut Q):LetsOut Q':=by obtain ⟨a,w,hq⟩:=hh;exact ⟨a,w,h _ aH _ _ hq⟩
theorem Oper.Gc {K:Act→World→Prop} (h:∀ e,e≠.normal→∀ a w,Q e a w→Q' e a w) (hh:o.wp P a w K Q):o.wp P a w K Q':=by
 unfold Oper.wp at *
 generalize (execOp a.eval o).run P w=r at *
 cases r with
 | ok n w' =>
  cases n<;>simp only [Oper.upon] at hh ⊢ <;>
   first
    | exact hh
    | exact Calls.mono hh (fun e w'' he=>by cases e<;>first|exact he|exact h _ (by simp) _ _ he|exact kP h he)
 | halt x w'=>cases x<;>simp only [Oper.upon] at hh ⊢<;>first|exact hh|exact h _ (by simp) _ _ hh|exact kP h hh
theorem zW {ops:Array Oper} {K:Act→World→Prop} (h:∀ e,e≠.normal→∀ a w,Q e a w→Q' e a w) (hh:wpOp P ops Q i K a w):wpOp P ops Q' i K a w:=by
 unfold wpOp at *;split
 ·simpa [*] using hh
 ·rename_i o ho;simp only [ho] at hh;split
  ·rename_i hw;simp only [hw,if_true] at hh;exact hh.imp (Oper.Gc h) (fun hx=>⟨hx.1,kP h hx.2⟩)
  ·rename_i hw;simp only [hw] at hh;exact hh
theorem zX (ht:vo l o=true):∀ (fuel:Nat) (listed:Array Bool) (a:Act) (w:World),listed.size=l.length→Js l o listed →
 wpAny P .any l.toArray (fun e a' w'=>match e with | .normal=>wpOp P (l++[o]).toArray Q l.length (Q .normal) a' w'|e=>Q e a' w') fuel listed a w→wpAny P .any (l++[o]).toArray Q (fuel+1) (listed.push false) a w:=by
 have vY:∀ (i:Nat) (x:Oper),(l++[o]).toArray[i]?=some x→∀ e∈x.after,Region.binds .any e=true→e.on<i:=fun i x hx=>((lV ht).1 i x (by simpa using hx)).1
 have RQ:∀ (fuel:Nat) (listed:Array Bool) (a:Act) (w:World),listed.size=l.length→(∀ i,i<l.length→listed.getD i false=true)→wpOp P (l++[o]).toArray Q l.length (Q .normal) a w→wpOp P (l++[o]).toArray Q l.length (wpAny P .any (l++[o]).toArray Q fuel ((listed.push false).setIfInBounds l.length true)) a w:=by
  intro fuel listed a w hs hall h
  refine wpOp_mono (fun a' w' hq=>?_) h
  have hr:Region.ready .any (l++[o]).toArray ((listed.push false).setIfInBounds l.length true)=[]:=zV fun i hi=>by
   have hi':i<l.length+1:=D9;by_cases e:i=l.length
   ·subst e;simp [yl,hs]
   ·have:=hall i ax
    have h2:listed.getD i true=true:=by exact a9148
    simp only [yl,NG,Array.getElem?_push]
    rw [if_neg (sg e),if_neg ax]
    simpa only [yl] using h2
  cases fuel with
  | zero=>exact ⟨hr,hq⟩
  | succ fuel=>exact ⟨fun _=>hq,fun i hi=>by rw [hr] at hi;simp at hi⟩
 have RT:∀ listed:Array Bool,listed.size=l.length→Region.ready .any (l++[o]).toArray (listed.push false)≠[]:=fun listed hs he=>by
  have:=mH (by simp [hs]) vY he l.length aH
  simp [yl,←hs] at this
 have hpre:∀ listed:Array Bool,listed.size=l.length→Region.ready .any l.toArray listed=[]→∀ i,i<l.length→listed.getD i false=true:=fun listed hs he i hi=>by
  have:=mH (by simpa using hs) (fun i x hx e hee hb=>((lV ht).1 i x (by
   have hi':=(Array.getElem?_eq_some_iff.1 hx).1
   rw [MK (by simpa using hi')];simpa using hx)).1 e hee hb) he i D9
  exact a9148
 intro fuel
 induction fuel with
 | zero =>
  intro listed a w hs hc h;refine ⟨fun he=>absurd he (RT listed hs),fun i hi=>?_⟩;have hall:=hpre listed hs h.1;by_cases hin:i<l.length
  ·have:=zU hs ht hi hin
   rw [h.1] at this
   simp at this
  ·have:i=l.length:=by have:=(fo hi).1;simp at this;omega
   subst this;exact RQ 0 listed a w hs hall h.2
 | succ fuel ih =>
  intro listed a w hs hc h;refine ⟨fun he=>absurd he (RT listed hs),fun i hi=>?_⟩;by_cases hin:i<l.length
  ·have hr:=zU hs ht hi hin;have h2:=h.2 i hr;have hpsh:(listed.push false).setIfInBounds i true=(listed.setIfInBounds i true).push false:=by
    apply Array.ext
    ·simp
    ·intro k jS hk2;have h1:((listed.push false).setIfInBounds i true)[k]?=((listed.setIfInBounds i true).push false)[k]?:=by
      simp only [NG,Array.getElem?_push,Array.size_push,Array.size_setIfInBounds];by_cases e:i=k
      ·subst e;rw [if_pos rfl,if_pos ax,if_neg ax,if_pos rfl,if_pos ax]
      ·rw [if_neg e];by_cases e2:k=listed.size
       ·rw [if_pos e2,if_pos e2]
       ·rw [if_neg e2,if_neg e2,if_neg e]
     rw [tC jS,tC hk2] at h1;exact Option.some.inj h1
   rw [hpsh];have hc':Js l o (listed.setIfInBounds i true):=fun j x hx hj hLj e he hb=>by
    have hgd:∀ k,k<l.length→(listed.setIfInBounds i true).getD k false=if i=k then true else listed.getD k false:=fun k hk=>by
     simp only [yl,NG];by_cases e:i=k
     ·subst e;simp [hs,hk]
     ·simp [e]
    have hlt:=((lV ht).1 j x hx).1 e he hb;rw [hgd _ ax];rw [hgd j hj] at hLj;split
    ·rfl
    ·by_cases e2:i=j
     ·subst e2;obtain ⟨_,_,h3⟩:=fo hr;have hx':l.toArray[i]?=some x:=by rw [MK hin] at hx;simpa using hx
      have h4:=h3 x hx';rw [IP] at h4;obtain ⟨k,hk,rfl⟩:=nR he;simpa [hb] using h4 k hk
     ·rw [if_neg e2] at hLj;exact hc j x hx hj hLj e he hb
   refine wpOp_mono (fun a' w' hh=>ih _ a' w' (by simpa using hs) hc' hh) (Gb ht hin ?_);exact zW (fun e he a w h=>by cases e<;>first|exact absurd rfl he|exact h) h2
  ·have:i=l.length:=by have:=(fo hi).1;simp at this;omega
   subst this;have hall:=Jt hs ht hc hi;have he:Region.ready .any l.toArray listed=[]:=zV fun i hi=>by
    have:=hall i D9
    simp only [yl,tC (show i<listed.size by simp at hi;omega),uy] at this ⊢
    exact this
   exact RQ (fuel+1) listed a w hs hall (h.1 he)
theorem qJ (hm:P.follows .mixedOrders=true) (hB:Region.lexB .any l.toArray=true) (ht:vo l o=true) (hg:o.guard=none)
 (h:wpQuiet P l.toArray (fun w'=>∃ x:Later w,w'=x.world) (fun a'=>∀ x:Later w,wpList P (l++[o]).toArray Q [o] a' x.world) l a):(Code.region id (l++[o]).toArray true).wp P Q a w:=by
 refine wp_region_any hm ?_
 simp only [Region.lexB,gi] at hB
 have h1:=wpAnyQ_lex (C:=fun w'=>∃ x:Later w,w'=x.world) (md:=.any) hB.1 l 0 (Array.replicate l.toArray.size false) a aH (by simpa using hB.2) h
 have h2:=wpAny_of_quiet (Q:=fun a'=>∀ x:Later w,wpList P (l++[o]).toArray Q [o] a' x.world) (Q':=fun e a' w'=>match e with | .normal=>wpOp P (l++[o]).toArray Q l.length (Q .normal) a' w'|e=>Q e a' w') (fun a' w' ⟨x,hx⟩ hq=>by
  subst hx;unfold wpOp;have:(l++[o]).toArray[l.length]?=some o:=aH;rw [this];have h:=hq x;simp only [wpList,Region.wanted,hg,if_true] at h ⊢;exact h) _ _ _ {w with drawn:=w.drawn+1} ⟨⟨_,(Below.refl _ w).drew⟩,rfl⟩ h1
 have h3:=zX ht l.length (Array.replicate l.toArray.size false) a _ aH (fun i x hx hi hL=>by simp [yl,hi] at hL) V9
 have e1:(l++[o]).toArray.size=l.length+1:=aH
 have e2:(Array.replicate l.toArray.size false).push false=Array.replicate (l++[o]).toArray.size false:=by rw [e1];simp [←Array.replicate_succ]
 rw [e2] at h3
 rw [e1] at h3 ⊢
 exact h3
theorem qK (n:Nat) {ops:Array Oper} (hs:ops.size=n+1) (hm:P.follows .mixedOrders=true) (hB:Region.lexB .any (ops.toList.take n).toArray=true) (ht:vo (ops.toList.take n) (ops[n]'(ax))=true) (hg:(ops[n]'(ax)).guard=none)
 (h:wpQuiet P (ops.toList.take n).toArray (fun w'=>∃ x:Later w,w'=x.world) (fun a'=>∀ x:Later w,wpList P ops Q [ops[n]'(ax)] a' x.world) (ops.toList.take n) a):(Code.region id ops true).wp P Q a w:=by
 have e:(ops.toList.take n++[ops[n]'(ax)]).toArray=ops:=by apply Array.ext';simp only;have h2:ops.toList[n]'(aR)=ops[n]'(ax):=aH;rw [←h2,←Fv aR,BD aR]
 have:=qJ (P:=P) (Q:=Q) (l:=ops.toList.take n) (o:=ops[n]'(ax)) (id:=id) (a:=a) (w:=w) hm hB ht hg (by rw [e];exact h)
 rwa [e] at this
end
end Go
namespace Go.Proofs.N0
open Go.RowKit Go.Maps Go.ChangeMaps
variable {b i:Nat} {m:af.bJ} {k:Int} {w W:World} {T:TypeId} {f:af.oa}
theorem Ci (w:World) (hm:m.v 0=k) (hb:w.heap[b]?=some (cl (bR m) 82)) (hk:(Lit.int .i64 k).wf=true) :
 Calls Tryz.prog 82 #[vP b 0] w (zR w b k):=by
 subst hm;exact mU w hb hk
theorem zY (b:Nat) (f:af.oa):(jT b f).length=5:=by unfold jT;split<;>(try split)<;>rfl
theorem LI {b:Nat}:∀ {l:List af.oa} {i j:Nat},i<l.length→j<5→(l.flatMap (jT b))[i*5+j]?=(jT b (l.getD i ⟨0,0,0⟩))[j]?
 | [],i,_,h,_=>absurd h aH
 | f::l,0,j,_,hj=>by rw [tB,Nat.zero_mul,bF,MK (by rw [zY];exact hj)];rfl
 | f::l,i+1,j,h,hj=>by rw [tB,lg (by rw [zY];omega),zY,show (i+1)*5+j - 5=i*5+j by omega];exact LI DN hj
theorem gZ {g:Nat} {l:List af.oa} (h:w.heap[g]?=some (.cells (nV b l) T (0,0))) (hi:i<l.length) {c0 c1 c2 c3 c4:Value} (hf:jT b (l.getD i ⟨0,0,0⟩)=[c0,c1,c2,c3,c4]) :
 w.cell? ⟨g,i*5,none⟩=some c0∧w.cell? ⟨g,i*5+1,none⟩=some c1∧w.cell? ⟨g,i*5+2,none⟩=some c2∧w.cell? ⟨g,i*5+3,none⟩=some c3∧w.cell? ⟨g,i*5+4,none⟩=some c4:=by
 have r:=fun j (hj:j<5)=>LI (b:=b) (l:=l) (i:=i) (j:=j) hi hj
 rw [hf] at r
 have cc:∀ j,w.cell? ⟨g,j,none⟩=(l.flatMap (jT b))[j]?:=fun j=>by simp [World.cell?,h,nV]
 rw [cc,cc,cc,cc,cc]
 exact ⟨r 0 ax,r 1 ax,r 2 ax,r 3 ax,r 4 ax⟩
theorem qL (h:w.heap[b]?=some (.cells (bR m) T (0,0))) (hf:f∈af.bk k) (h3:f.c≠3):w.cell? ⟨b,f.c,none⟩=some (zS f.c (m.v f.c)):=by rcases af.tM hf with e|e|e|e|e|e|e|e|e|e|e|e<;>rw [e] at h3 ⊢<;>first|(simp [World.cell?,h,bR,zS,af.iT];done)|exact absurd rfl h3
theorem qM (h:w.heap[b]?=some (.cells (bR m) T (0,0))):w.cell? ⟨b,3,none⟩=some (vS m.offer):=by simp [World.cell?,h,bR]
theorem oX (h:w.heap[b]?=some (.cells (bR m) T (0,0))):w.frozen? ⟨b,i,none⟩=false:=by simp [World.frozen?,h]
theorem LJ {v:Nat→Int} {o:List UInt8} {x:Int} (hf:f∈af.bk k) (h3:f.c≠3):(bR ⟨v,o⟩).setIfInBounds f.c (zS f.c x)=bR ⟨af.Dw v f.c x,o⟩:=by rcases af.tM hf with e|e|e|e|e|e|e|e|e|e|e|e<;>rw [e] at h3 ⊢<;>first|rfl|exact absurd rfl h3
theorem zZ {p:Nat} {a b c d e:Value} (h:w.heap[p]?=some (.cells #[a,b,c,d,e] T (0,0))) :
 w.cell? ⟨p,0,none⟩=some a∧w.cell? ⟨p,1,none⟩=some b∧w.cell? ⟨p,2,none⟩=some c∧w.cell? ⟨p,3,none⟩=some d∧w.cell? ⟨p,4,none⟩=some e:=by
 simp [World.cell?,h]
def jX (W:World) (b:Nat) (m:af.bJ):World :=
 ((((((((((((W.setCell ⟨b,0,none⟩ (vI (m.v 0))).setCell ⟨b,1,none⟩ (vU (m.v 1))).setCell ⟨b,2,none⟩ (vU (m.v 2))).setCell ⟨b,3,none⟩ (vS m.offer)).setCell ⟨b,4,none⟩ (vI (m.v 4))).setCell ⟨b,5,none⟩ (vI (m.v 5))).setCell ⟨b,6,none⟩ (vI (m.v 6))).setCell ⟨b,7,none⟩ (vI (m.v 7))).setCell ⟨b,8,none⟩ (vI (m.v 8))).setCell ⟨b,9,none⟩ (vI (m.v 9))).setCell ⟨b,10,none⟩ (vI (m.v 10))).setCell ⟨b,11,none⟩ (vU (m.v 11))).setCell ⟨b,12,none⟩ (vU (m.v 12))
theorem jd {m0:af.bJ} (h:W.heap[b]?=some (.cells (bR m0) T (0,0))):(jX W b m).heap[b]?=some (.cells (dW m) T (0,0)):=by
 have hs:=fun {W:World} {cs:Array Value} (h:W.heap[b]?=some (.cells cs T (0,0))) (i:Nat) (v:Value)=>show (W.setCell ⟨b,i,none⟩ v).heap[b]?=some (.cells (cs.setIfInBounds i v) T (0,0)) by simp [World.setCell,Array.getElem?_modify,h]
 have:=hs (hs (hs (hs (hs (hs (hs (hs (hs (hs (hs (hs (hs h 0 (vI (m.v 0))) 1 (vU (m.v 1))) 2 (vU (m.v 2))) 3 (vS m.offer)) 4 (vI (m.v 4))) 5 (vI (m.v 5))) 6 (vI (m.v 6))) 7 (vI (m.v 7))) 8 (vI (m.v 8))) 9 (vI (m.v 9))) 10 (vI (m.v 10))) 11 (vU (m.v 11))) 12 (vU (m.v 12))
 unfold jX
 simpa only [bR,aX,jr,aY] using this
theorem gQ {B:Nat} (h:Below B w W) (hb:B≤b):Below B w (jX W b m):=by
 unfold jX;repeat refine Below.setCell ?_ hb _
 exact h
theorem RU (hf:f∈af.bk k):f.c≠0:=by rcases af.tM hf with e|e|e|e|e|e|e|e|e|e|e|e<;>omega
theorem ia (h:W.heap[b]?=some (.cells (dW m) T (0,0))) :
 W.cell? ⟨b,0,none⟩=some (vI (m.v 0))∧W.cell? ⟨b,1,none⟩=some (vU (m.v 1))∧W.cell? ⟨b,2,none⟩=some (vU (m.v 2))∧W.cell? ⟨b,3,none⟩=some (vS m.offer)∧W.cell? ⟨b,4,none⟩=some (vI (m.v 4))∧W.cell? ⟨b,5,none⟩=some (vI (m.v 5))∧W.cell? ⟨b,6,none⟩=some (vI (m.v 6)) ∧
 W.cell? ⟨b,7,none⟩=some (vI (m.v 7))∧W.cell? ⟨b,8,none⟩=some (vI (m.v 8))∧W.cell? ⟨b,9,none⟩=some (vI (m.v 9))∧W.cell? ⟨b,10,none⟩=some (vI (m.v 10))∧W.cell? ⟨b,11,none⟩=some (vU (m.v 11))∧W.cell? ⟨b,12,none⟩=some (vU (m.v 12)):=by
 simp [World.cell?,h]
def RV (w:World) (m:af.bJ) (bo bm br go gm:Nat) (iv:Value) (wr:World):Prop :=
 ∃ i:Nat,i≤(af.bk (m.v 0)).length∧iv=vI i∧Mem w [(bo,cl (bR (af.jf m ((af.bk (m.v 0)).take i))) 82),(gm,cl (nV bm (af.bk (m.v 0))) 213),(go,cl (nV bo (af.bk (m.v 0))) 213),(br,cl (bR af.aQ) 82),(bm,cl (bR m) 82)] wr
theorem NQ (w:World) (hwf:m.Wf) (hne:af.bk (m.v 0)≠[]) (hr:∀ f∈af.bk (m.v 0),f.c≠3→0≤m.v f.c∧m.v f.c<9223372036854775808) :
 Calls Tryz.prog 105 #[.agg (bR m)] w fun e w'=>e=.returned (.agg (bR (af.jf m (af.bk (m.v 0)))))∧Below w.heap.size w w':=by
 obtain ⟨HR,tR,Gd⟩:=ju hr hwf hne
 have hk:(Lit.int .i64 (m.v 0)).wf=true:=WalkArith.wf_i64 (hwf.ints 0 aH)
 have HK:=Hi hk
 have M0:Mem w [(w.heap.size+1+1,cl (bR (af.gA (m.v 0))) 82),(w.heap.size+1,cl (bR af.aQ) 82),(w.heap.size,cl (bR m) 82)]
  (((w.alloc (cl (dW m) 82)).alloc (cl (lF) 82)).alloc (cl #[vI (m.v 0),vU 0,vU 0,.string ⟨#[]⟩,vI 0,vI 0,vI 0,vI 0,vI 0,vI 0,vI 0,vU 0,vU 0] 82)):=by
  have:=((Mem.start w).alloc (cl (dW m) 82)).alloc (cl (lF) 82)|>.alloc (cl #[vI (m.v 0),vU 0,vU 0,.string ⟨#[]⟩,vI 0,vI 0,vI 0,vI 0,vI 0,vI 0,vI 0,vU 0,vU 0] 82)
  simp only [World.size_alloc] at this
  exact this
 have NR:=Hi M0
 have Zs:=af.qh (m.v 0)
 clear hr hwf hk M0 hne
 obtain ⟨q,hq⟩:∃ q,q=af.jf m (af.bk (m.v 0)):=⟨_,rfl⟩
 have HQ:=Hi hq
 rw [←hq]
 clear hq
 unfold bR
 go_enter Tryz.func105,Tryz.ntmps105
 go_wp2_with fail
 generalize ((w.alloc (cl (dW m) 82)).alloc (cl (lF) 82)).alloc (cl #[vI (m.v 0),vU 0,vU 0,.string ⟨#[]⟩,vI 0,vI 0,vI 0,vI 0,vI 0,vI 0,vI 0,vU 0,vU 0] 82)=W1 at *
 refine (Ci (m:=af.gA (m.v 0)) (k:=m.v 0) W1 rfl (NR.out.get 0 rfl) HK.out).mono ?_
 rintro e w1 ⟨hb1,h1⟩
 rcases h1 with ⟨h1,_⟩|⟨_,go,rfl,hgo1,hgo2⟩
 ·exact absurd h1 Gd.out
 have M1:=Hi ((NR.out.later hb1).with hgo2)
 have hgo3:w.heap.size≤go:=Fc NR.out.dZ.size hgo1
 have HGO:=Hi hgo3
 have hd1:go≠w.heap.size+1+1:=by have:=NR.out.lt 0 rfl;omega
 clear hb1 hgo1 hgo2 NR hgo3
 go_wp2_with fail
 refine (mU (m:=m) w1 (M1.out.get 3 rfl) HK.out).mono ?_
 rintro e w2 ⟨hb2,h2⟩
 rcases h2 with ⟨h2,_⟩|⟨_,gm,rfl,Ju,Aa⟩
 ·exact absurd h2 Gd.out
 have LM:=M1.out.lt 0 rfl;have hl2:=M1.out.lt 1 rfl;have hl3:=M1.out.lt 2 rfl;have hl4:=M1.out.lt 3 rfl
 have M2:Hid (Mem w [(w.heap.size+1+1,cl (bR (af.jf m ((af.bk (m.v 0)).take 0))) 82),(gm,cl (nV w.heap.size (af.bk (m.v 0))) 213),(go,cl (nV (w.heap.size+1+1) (af.bk (m.v 0))) 213),(w.heap.size+1,cl (bR af.aQ) 82),(w.heap.size,cl (bR m) 82)] w2):=by
  rw [List.take_zero,af.MF];exact Hi (((M1.out.later hb2).with Aa).sub fun x hx=>by
   simp only [gF,Bp,or_false] at hx ⊢;rcases hx with rfl|rfl|rfl|rfl|rfl
   ·exact .inr (.inr (.inl rfl))
   ·exact .inl rfl
   ·exact .inr (.inl rfl)
   ·exact .inr (.inr (.inr (.inl rfl)))
   ·exact .inr (.inr (.inr (.inr rfl))))
 have hd2:gm≠w.heap.size+1+1:=ax
 clear hb2 Ju Aa M1 LM hl2 hl3 hl4
 obtain ⟨n,hn⟩:∃ n,n=(af.bk (m.v 0)).length:=⟨_,rfl⟩
 have HN:=Hi hn
 rw [←hn]
 rw [←hn] at Zs
 clear hn
 go_wp2_with fail
 go_loopw [13] (fun iv wr=>RV w m (w.heap.size+1+1) w.heap.size (w.heap.size+1) go gm iv wr) (fun iv _=>n - (intOf iv).toNat)
 case atStart=>exact ⟨0,pR _,rfl,M2.out⟩
 case round =>
  obtain ⟨i,hi,rfl,hM⟩:=hrel;rw [←HN.out] at hi;have M3:=Hi hM;clear hM M2;by_cases hlt:i<n
  ·have hfl:i<(af.bk (m.v 0)).length:=FX;obtain ⟨f,hf⟩:∃ f,f=(af.bk (m.v 0)).getD i ⟨0,0,0⟩:=⟨_,rfl⟩
   have LD:f=(af.bk (m.v 0))[i]:=by rw [hf,ux,lz hfl];rfl
   have hmem:f∈af.bk (m.v 0):=c944;have qN:(af.bk (m.v 0)).take (i+1)=(af.bk (m.v 0)).take i++[f]:=c945;obtain ⟨HF,tT,HT⟩:=ju hf hmem qN;by_cases h3:f.c=3
   ·have em:jT w.heap.size ((af.bk (m.v 0)).getD i ⟨0,0,0⟩)=[vU 0,vU 0,.pointer none,.pointer none,vP w.heap.size 3]:=WI;have eo:jT (w.heap.size+1+1) ((af.bk (m.v 0)).getD i ⟨0,0,0⟩)=[vU 0,vU 0,.pointer none,.pointer none,vP (w.heap.size+1+1) 3]:=WI;have rm:=gZ (M3.out.get 1 rfl) hfl em;obtain ⟨HE,H3⟩:=hi2 eo h3;clear hf LD hmem qN em eo h3 hfl;go_wp2_with fail;have M4:Hid (Mem w _ (wr.alloc (cl #[vU 0,vU 0,.pointer none,.pointer none,vP w.heap.size 3] 213))):=Hi (M3.out.later ((Below.refl _ _).alloc (cC _) _));have bx:=heap_alloc_new wr (cl #[vU 0,vU 0,.pointer none,.pointer none,vP w.heap.size 3] 213);have b4:(wr.alloc (cl #[vU 0,vU 0,.pointer none,.pointer none,vP w.heap.size 3] 213)).cell? ⟨wr.heap.size,4,none⟩=some (vP w.heap.size 3):=(zZ bx).2.2.2.2;generalize wr.alloc (cl #[vU 0,vU 0,.pointer none,.pointer none,vP w.heap.size 3] 213)=W at *;have hfl:i<(af.bk (m.v 0)).length:=FX;have ro:=(gZ (M4.out.get 2 rfl) hfl HE.out).2.2.2.2;have mt:=qM (M4.out.get 4 rfl);have ot:=qM (M4.out.get 0 rfl);have oz:=oX (i:=3) (M4.out.get 0 rfl);clear rm bx hfl;go_still_tail 10,aI;change wpList _ _ _ _ _ W.drew;have M5:Hid (Mem w _ W.drew):=Hi (M4.out.later (Below.refl _ W).drew);clear ro mt b4;have ot:W.drew.cell? ⟨w.heap.size+1+1,3,none⟩=_:=ot;have oz:W.drew.frozen? ⟨w.heap.size+1+1,3,none⟩=false:=oz;generalize W.drew=W5 at *;have M6:=M5.out.set ax aR 3 (vS m.offer);have PX:Hid (RV w m (w.heap.size+1+1) w.heap.size (w.heap.size+1) go gm (vI (i+1:Nat)) (W5.setCell ⟨w.heap.size+1+1,3,none⟩ (vS m.offer))):=by refine Hi ⟨i+1,NH,rfl,?_⟩;rw [HT.out,af.II H3.out];exact M6
    clear M6;exact a998
   ·have hrx:=HR.out f hmem h3;obtain ⟨xn,hxn⟩:∃ n:Nat,m.v f.c=n:=⟨(m.v f.c).toNat,ax⟩
    have hx63:xn<9223372036854775808:=ax;have hwr:IntKind.u64.wrap (m.v f.c)=xn:=Rw;obtain ⟨c2,c3,em⟩:∃ c2 c3,jT w.heap.size f=[vU f.lo,vU f.hi,.pointer c2,.pointer c3,.pointer none]:=Rx;obtain ⟨d2,d3,eo⟩:∃ c2 c3,jT (w.heap.size+1+1) f=[vU f.lo,vU f.hi,.pointer c2,.pointer c3,.pointer none]:=Rx;have rm:=gZ (M3.out.get 1 rfl) hfl WJ;obtain ⟨HE,H3,HEM,HX,HX63,HW,HRX⟩:=PL eo h3 em hxn hx63 hwr hrx;clear hf LD hmem qN em eo h3 hfl hrx hxn hx63 hwr;go_wp2_with fail;have M4:Hid (Mem w _ (wr.alloc (cl #[vU f.lo,vU f.hi,.pointer c2,.pointer c3,.pointer none] 213))):=Hi (M3.out.later ((Below.refl _ _).alloc (cC _) _));have bx:=heap_alloc_new wr (cl #[vU f.lo,vU f.hi,.pointer c2,.pointer c3,.pointer none] 213);clear rm;generalize wr.alloc (cl #[vU f.lo,vU f.hi,.pointer c2,.pointer c3,.pointer none] 213)=W at *;have hfl:i<(af.bk (m.v 0)).length:=FX;have ro:=fun x:Later W=>gZ ((M4.out.later x.below).get 2 rfl) hfl (by rw [←HF.out];exact HE.out);have rf:=fun x:Later W=>zZ ((x.below.block _ (lt_of_block bx)).trans bx);have CG:Hid (∀ x:Later W,Calls Tryz.prog 104 #[.agg #[vU f.lo,vU f.hi,.pointer c2,.pointer c3,.pointer none]] x.world fun e w'=>e=.returned (vU xn)∧Below x.world.heap.size x.world w'):=Hi fun x=>by
     have:=Ef (b:=w.heap.size) (f:=f) (x:=m.v f.c) x.world H3.out (qL ((M4.out.later x.below).get 4 rfl) tT.out H3.out) (fun _=>by have:=HRX.out;omega)
     rw [HEM.out,HW.out] at this
     exact this
    have CS:Hid (∀ x:Later W,Calls Tryz.prog 116 #[.agg #[vU f.lo,vU f.hi,.pointer d2,.pointer d3,.pointer none],vU xn] x.world (Zr x.world ⟨w.heap.size+1+1,f.c,none⟩ (zS f.c xn))):=Hi fun x=>by
     have mo:=(M4.out.later x.below).get 0 rfl
     have:=LH (b:=w.heap.size+1+1) (f:=f) (x:=xn) x.world H3.out (qL mo tT.out H3.out) (oX mo) HX63.out
     rw [HE.out] at this
     exact this
    clear bx hfl;refine qK 6 aI aI aI aI aI ?_;simp only [List.take_succ_cons,List.take_zero,List.getElem_toArray,JD,yY];repeat go_big_quiet_step (exact Calls.later (CG.out _))
    refine wpQuiet_nil ?_;intro x;clear ro rf;go_wp2_with fail;refine (CS.out x).mono ?_;rintro e w' ⟨rfl,hb'⟩;have M5:=((M4.out.later x.below).set ax aR f.c (zS f.c xn)).later (by rw [size_setCell];exact hb');have PX:Hid (RV w m (w.heap.size+1+1) w.heap.size (w.heap.size+1) go gm (vI (i+1:Nat)) w'):=by refine Hi ⟨i+1,NH,rfl,?_⟩;rw [HT.out,af.MG (RU tT.out) H3.out,←LJ tT.out H3.out,HX.out];exact M5
    clear M5 hb';exact a998
  ·obtain rfl:i=n:=ax;have M9:Hid (Mem w [(w.heap.size+1+1,cl (dW q) 82),(w.heap.size+1,cl (lF) 82)] wr):=Hi (M3.out.sub fun x hx=>by
    simp only [gF,Bp,or_false] at hx ⊢;rw [HN.out,List.take_length,←HQ.out];rcases hx with rfl|rfl
    ·exact .inl rfl
    ·exact .inr (.inr (.inr (.inl rfl))))
   have r:=rl M9.out.rules;have hz:wr.heap[w.heap.size+1]?=some (cl (bR af.aQ) 82):=M9.out.get 1 rfl;have od:=Hi (gQ (m:=q) M9.out.dZ (show w.heap.size≤w.heap.size+1 by omega));have HZ:=Hi (ia (jd (m:=q) hz));clear M3 M9 hz;go_wp2_with fail;change bodyPost _ _ _ _ _ (jX wr (w.heap.size+1) q);clear r;generalize jX wr (w.heap.size+1) q=W at *;have rz:=HZ.out;refine bodyPost_ret (v:=.agg (dW q)) (by simp [results,Tryz.results105,go_sem,rz]) rfl ⟨rfl,od.out⟩
end Go.Proofs.N0
namespace Go.Proofs.N0
open Go.RowKit
theorem eqMsg (m q:af.bJ) (w:World):(Op.equalIn 10000 82 (.agg (dW m)) (.agg (dW q))).run Tryz.prog w=.ok (m.same q) w:=by
 have u1:=Tryz.underlying3;have a1:=Tryz.isAgg3;have z1:=Tryz.sizeOf3;have u2:=Tryz.underlying31;have a2:=Tryz.isAgg31;have z2:=Tryz.sizeOf31;have u3:=Tryz.underlying9;have a3:=Tryz.isAgg9;have z3:=Tryz.sizeOf9;have hS:Tryz.prog.underlying 82=some (.struct (Tryz.prog.fieldsOf 82)):=aI;rw [show (10000:Nat)=9999+1 from rfl,run_equalIn_agg w 9999 82 _ _ hS aI];simp only [Program.fieldsOf,Tryz.underlying82];go_simp;by_cases h0:m.v 0=q.v 0;rotate_left
 ·simp [h0,af.bJ.same,af.gu]
 by_cases h1:m.v 1=q.v 1;rotate_left
 ·simp [h1,af.bJ.same,af.gu]
 by_cases h2:m.v 2=q.v 2;rotate_left
 ·simp [h2,af.bJ.same,af.gu]
 by_cases h3:m.offer=q.offer;rotate_left
 ·simp [h3,af.bJ.same,af.gu]
 by_cases h4:m.v 4=q.v 4;rotate_left
 ·simp [h4,af.bJ.same,af.gu]
 by_cases h5:m.v 5=q.v 5;rotate_left
 ·simp [h5,af.bJ.same,af.gu]
 by_cases h6:m.v 6=q.v 6;rotate_left
 ·simp [h6,af.bJ.same,af.gu]
 by_cases h7:m.v 7=q.v 7;rotate_left
 ·simp [h7,af.bJ.same,af.gu]
 by_cases h8:m.v 8=q.v 8;rotate_left
 ·simp [h8,af.bJ.same,af.gu]
 by_cases h9:m.v 9=q.v 9;rotate_left
 ·simp [h9,af.bJ.same,af.gu]
 by_cases h10:m.v 10=q.v 10;rotate_left
 ·simp [h10,af.bJ.same,af.gu]
 by_cases h11:m.v 11=q.v 11;rotate_left
 ·simp [h11,af.bJ.same,af.gu]
 by_cases h12:m.v 12=q.v 12;rotate_left
 ·simp [h12,af.bJ.same,af.gu]
 simp [af.bJ.same,af.gu,h0,h1,h2,h3,h4,h5,h6,h7,h8,h9,h10,h11,h12]
end Go.Proofs.N0
namespace Go.Proofs.N0
open Go.RowKit Go.Maps Go.ChangeMaps
variable {m:af.bJ} {f:af.oa}
theorem NS {k:Int} (hwf:m.Wf) (hf:f∈af.bk k) (h3:f.c≠3):∃ y:Nat,IntKind.u64.wrap (m.v f.c)=y∧y<18446744073709551616∧af.iE m f=(decide (f.lo≤y)&&decide (y≤f.hi)):=by
 have hc:=hwf.cell hf h3;have hb:=af.mA hf;have hw:IntKind.u64.wrap (m.v f.c)=(m.v f.c) % 18446744073709551616:=IntKind.wrap_u64 _;refine ⟨((m.v f.c) % 18446744073709551616).toNat,ax,ax,?_⟩;unfold af.iE;rw [if_neg h3,Bool.eq_iff_iff];simp only [decide_eq_true_eq,gi];cases hu:af.iT f.c
 ·have:=hc.2 hu
  omega
 ·have:=hc.1 hu
  omega
def RX (w:World) (m:af.bJ) (bm gm:Nat) (iv:Value) (wr:World):Prop :=
 ∃ i:Nat,i≤(af.bk (m.v 0)).length∧iv=vI i∧((af.bk (m.v 0)).take i).all (af.iE m)=true∧Mem w [(gm,cl (nV bm (af.bk (m.v 0))) 213),(bm,cl (bR m) 82)] wr
theorem qO (hf:f∈af.bk (m.v 0)) (h:af.iE m f=false):m.right=false:=by
 unfold af.bJ.right;have:(af.bk (m.v 0)).all (af.iE m)=false:=by rw [List.all_eq_false];exact ⟨f,hf,by rw [h];simp⟩
 rw [this];simp
theorem Jv (w:World) (hwf:m.Wf) (hne:af.bk (m.v 0)≠[]) :
 Calls Tryz.prog 66 #[.agg (bR m)] w fun e w'=>e=.returned (.bool m.right)∧Below w.heap.size w w':=by
 obtain ⟨tR,Gd⟩:=hi2 hwf hne
 have hk:(Lit.int .i64 (m.v 0)).wf=true:=WalkArith.wf_i64 (hwf.ints 0 aH)
 have HK:=Hi hk
 have M0:Hid (Mem w [(w.heap.size,cl (bR m) 82)] (w.alloc (cl (dW m) 82))):=Hi ((Mem.start w).alloc _)
 have Zs:=af.qh (m.v 0)
 clear hwf hk hne
 obtain ⟨res,hres⟩:∃ res,res=m.right:=⟨_,rfl⟩
 have WS:=Hi hres
 rw [←hres]
 clear hres
 unfold bR
 go_enter Tryz.func66,Tryz.ntmps66
 go_wp2_with fail
 generalize w.alloc (cl (dW m) 82)=W1 at *
 refine (mU (m:=m) W1 (M0.out.get 0 rfl) HK.out).mono ?_
 rintro e w2 ⟨hb2,h2⟩
 rcases h2 with ⟨h2,_⟩|⟨_,gm,rfl,Ju,Aa⟩
 ·exact absurd h2 Gd.out
 have LM:=M0.out.lt 0 rfl
 have M2:Hid (Mem w [(gm,cl (nV w.heap.size (af.bk (m.v 0))) 213),(w.heap.size,cl (bR m) 82)] w2):=Hi ((M0.out.later hb2).with Aa)
 clear hb2 Ju Aa M0 LM
 obtain ⟨n,hn⟩:∃ n,n=(af.bk (m.v 0)).length:=⟨_,rfl⟩
 have HN:=Hi hn
 rw [←hn]
 rw [←hn] at Zs
 clear hn
 go_wp2_with fail
 go_loopw [9] (fun iv wr=>RX w m w.heap.size gm iv wr) (fun iv _=>n - (intOf iv).toNat)
 case atStart=>exact ⟨0,pR _,rfl,rfl,M2.out⟩
 case round =>
  obtain ⟨i,hi,rfl,hok,hM⟩:=hrel;rw [←HN.out] at hi;obtain ⟨M3,jx⟩:=hi2 hM hok;clear hM M2 hok;by_cases hlt:i<n
  ·have hfl:i<(af.bk (m.v 0)).length:=FX;obtain ⟨f,hf⟩:∃ f,f=(af.bk (m.v 0)).getD i ⟨0,0,0⟩:=⟨_,rfl⟩
   have LD:f=(af.bk (m.v 0))[i]:=by rw [hf,ux,lz hfl];rfl
   have hmem:f∈af.bk (m.v 0):=c944;have qN:(af.bk (m.v 0)).take (i+1)=(af.bk (m.v 0)).take i++[f]:=c945;obtain ⟨HF,tT,HT⟩:=ju hf hmem qN;have hnext:∀ wr',af.iE m f=true→Mem w _ wr'→RX w m w.heap.size gm (vI (i+1:Nat)) wr':=fun wr' ho hM=>⟨i+1,NH,rfl,by rw [HT.out,List.all_append,jx.out];simp [ho],hM⟩
   have Zt:=Hi hnext;clear hnext;by_cases h3:f.c=3
   ·have em:jT w.heap.size ((af.bk (m.v 0)).getD i ⟨0,0,0⟩)=[vU 0,vU 0,.pointer none,.pointer none,vP w.heap.size 3]:=WI;have rm:=gZ (M3.out.get 0 rfl) hfl em;have H3:=Hi h3;clear hf LD hmem qN em h3 hfl;have mt:=qM (M3.out.get 1 rfl);have hbl:=M3.out.lt 1 rfl;have mt':(wr.alloc (cl #[vU 0,vU 0,.pointer none,.pointer none,vP w.heap.size 3] 213)).cell? ⟨w.heap.size,3,none⟩=_:=(((Below.refl wr.heap.size wr).alloc (cC _) (cl #[vU 0,vU 0,.pointer none,.pointer none,vP w.heap.size 3] 213)).cell (p:=⟨w.heap.size,3,none⟩) hbl).trans mt;clear mt hbl;go_wp2_with fail;have M4:Hid (Mem w _ (wr.alloc (cl #[vU 0,vU 0,.pointer none,.pointer none,vP w.heap.size 3] 213))):=Hi (M3.out.later ((Below.refl _ _).alloc (cC _) _));clear rm mt';generalize wr.alloc (cl #[vU 0,vU 0,.pointer none,.pointer none,vP w.heap.size 3] 213)=W at *;obtain ⟨b,hb⟩:∃ b,af.cL m.offer=b:=⟨_,rfl⟩
    have hfo:af.iE m f=b:=by unfold af.iE;rw [if_pos H3.out];exact hb
    refine (gY (l:=m.offer) rfl hb W (show (⟨m.offer.toArray⟩:ByteArray).size≤maxLen from tR.out.text)).mono ?_;rintro e w3 ⟨rfl,rfl⟩;cases b
    ·have hrf:res=false:=WS.out.trans (qO tT.out hfo);clear hfo hb;go_wp2_with fail;go_ret;exact ⟨gH hrf.symm,M4.out.dZ⟩
    ·have PX:=Hi (Zt.out _ hfo M4.out);clear hfo hb;exact a998
   ·obtain ⟨y,hy1,hy2,hy3⟩:=NS tR.out hmem h3;obtain ⟨c2,c3,em⟩:∃ c2 c3,jT w.heap.size f=[vU f.lo,vU f.hi,.pointer c2,.pointer c3,.pointer none]:=Rx;have rm:=gZ (M3.out.get 0 rfl) hfl WJ;obtain ⟨H3,HEM⟩:=hi2 h3 em;have HXC:=Hi (tR.out.cell hmem h3);have HY:=Hi hy1;have hlo:=af.mA hmem;obtain ⟨lo,WT⟩:∃ x,x=f.lo:=⟨_,rfl⟩
    obtain ⟨hi',WU⟩:∃ x,x=f.hi:=⟨_,rfl⟩
    rw [←WT,←WU] at hy3;have hb1:lo≤1:=ax;have hb2:hi'≤4294967296:=ax;obtain ⟨HLO,HHI⟩:=hi2 WT WU;rw [←WT,←WU] at rm;clear hf LD hmem qN em h3 hfl hy1 hlo WT WU;go_wp2_with fail;have M4:Hid (Mem w _ (wr.alloc (cl #[vU lo,vU hi',.pointer c2,.pointer c3,.pointer none] 213))):=Hi (M3.out.later ((Below.refl _ _).alloc (cC _) _));have bx:=heap_alloc_new wr (cl #[vU lo,vU hi',.pointer c2,.pointer c3,.pointer none] 213);clear rm;generalize wr.alloc (cl #[vU lo,vU hi',.pointer c2,.pointer c3,.pointer none] 213)=W at *;have rf:=fun x:Later W=>zZ ((x.below.block _ (lt_of_block bx)).trans bx);have CG:Hid (∀ x:Later W,Calls Tryz.prog 104 #[.agg #[vU lo,vU hi',.pointer c2,.pointer c3,.pointer none]] x.world fun e w'=>e=.returned (vU y)∧Below x.world.heap.size x.world w'):=Hi fun x=>by
     have:=Ef (b:=w.heap.size) (f:=f) (x:=m.v f.c) x.world H3.out (qL ((M4.out.later x.below).get 1 rfl) tT.out H3.out) (fun hu=>HXC.out.1 hu)
     rw [HEM.out,HY.out] at this
     rw [HLO.out,HHI.out]
     exact this
    clear bx;by_cases g1:y<lo
    ·have d1:decide (y<lo)=true:=decide_eq_true g1;have hrf:res=false:=WS.out.trans (qO tT.out (by rw [hy3,decide_eq_false (show ¬lo≤y by omega)];rfl));exact a985
    ·have d1:decide (y<lo)=false:=decide_eq_false g1;by_cases g2:hi'<y
     ·have d2:decide (hi'<y)=true:=decide_eq_true g2;have hrf:res=false:=WS.out.trans (qO tT.out (by rw [hy3,decide_eq_false (show ¬y≤hi' by omega),aN]));exact a985
     ·have d2:decide (hi'<y)=false:=decide_eq_false g2;have ho:af.iE m f=true:=by rw [hy3,decide_eq_true (show lo≤y by omega),decide_eq_true (show y≤hi' by omega)];rfl
      have HO:=Hi ho;clear hy3 ho;refine ay aI aI ?_;repeat go_big_quiet_step (exact Calls.later (CG.out _))
      refine wpQuiet_nil ?_;rintro ⟨w3,hb3⟩;change Exit.then _ _ _ _ w3;have M5:=Hi (M4.out.later hb3);clear hb3;clear rf;have PX:=Hi (Zt.out _ HO.out M5.out);exact a998
  ·obtain rfl:i=n:=ax;rw [HN.out,List.take_length] at jx;have hall:=jx.out;have hr:∀ f∈af.bk (m.v 0),f.c≠3→0≤m.v f.c∧m.v f.c<9223372036854775808:=fun f hf h3=>by
    have:=List.all_eq_true.1 hall f hf
    unfold af.iE at this
    rw [if_neg h3,decide_eq_true_eq] at this
    have hb:=af.mA hf
    omega
   have hme:res=m.same (af.jf m (af.bk (m.v 0))):=by
    rw [WS.out];unfold af.bJ.right;rw [hall];have:(af.bk (m.v 0)).isEmpty=false:=by simpa using Gd.out
    rw [this];rfl
   have CO:Hid (∀ x:Later wr,Calls Tryz.prog 105 #[.agg (dW m)] x.world fun e w'=>e=.returned (.agg (bR (af.jf m (af.bk (m.v 0)))))∧Below x.world.heap.size x.world w'):=Hi fun x=>NQ x.world tR.out Gd.out hr;clear hall hr;obtain ⟨q,hq⟩:∃ q,q=af.jf m (af.bk (m.v 0)):=⟨_,rfl⟩
   rw [←hq] at CO hme;have uu:=Hi hme;clear hq hme;have rx:=fun x:Later wr=>ia ((M3.out.later x.below).get 1 rfl);unfold bR at CO;have EQ:=eqMsg m q;have EG:Tryz.prog.eqGuardType Tryz.prog.depth 82=false:=aI;go_wp2_with fail;refine ay aI aI ?_;repeat go_big_quiet_step (exact Calls.later (CO.out _))
   refine wpQuiet_nil ?_;rintro ⟨w3,hb3⟩;change Exit.then _ _ _ _ w3;rw [←uu.out];have HB:=Hi (M3.out.dZ.trans (hb3.mono M3.out.dZ.size));clear rx hb3 EQ EG M3;exact Kk
theorem Jw (w:World) (hwf:m.Wf) (hne:af.bk (m.v 0)=[]) :
 Calls Tryz.prog 66 #[.agg (bR m)] w fun e w'=>e=.returned (.bool false)∧Below w.heap.size w w':=by
 have Gd:=Hi hne
 have hk:(Lit.int .i64 (m.v 0)).wf=true:=WalkArith.wf_i64 (hwf.ints 0 aH)
 have HK:=Hi hk
 have M0:Hid (Mem w [(w.heap.size,cl (bR m) 82)] (w.alloc (cl (dW m) 82))):=Hi ((Mem.start w).alloc _)
 clear hwf hk hne
 unfold bR
 go_enter Tryz.func66,Tryz.ntmps66
 go_wp2_with fail
 generalize w.alloc (cl (dW m) 82)=W1 at *
 refine (mU (m:=m) W1 (M0.out.get 0 rfl) HK.out).mono ?_
 rintro e w2 ⟨hb2,h2⟩
 rcases h2 with ⟨_,rfl⟩|⟨h2,_⟩
 case inr=>exact absurd Gd.out h2
 have HB:Hid (Below w.heap.size w w2):=Hi (M0.out.later hb2).dZ
 clear hb2 M0
 go_wp2_with fail
 go_loopw [9] (fun iv wr=>iv=vI 0∧wr=w2) (fun _ _=>0)
 case atStart=>exact ⟨rfl,rfl⟩
 case round =>
  obtain ⟨rfl,rfl⟩:=hrel;go_wp2_with fail;refine ay aI aI ?_;repeat go_big_quiet_step (fail)
  refine wpQuiet_nil ?_;rintro ⟨w3,hb3⟩;change Exit.then _ _ _ _ w3;have HB3:=Hi (HB.out.trans (hb3.mono HB.out.size));clear hb3;go_wp2_with fail;go_ret;exact ⟨rfl,HB3.out⟩
theorem jG {b:Bool} (hb:m.right=b) (w:World) (hwf:m.Wf):Calls Tryz.prog 66 #[.agg (bR m)] w fun e w'=>e=.returned (.bool b)∧Below w.heap.size w w':=by
 subst hb;by_cases hne:af.bk (m.v 0)=[]
 ·have:m.right=false:=by unfold af.bJ.right;rw [hne];rfl
  rw [this];exact Jw w hwf hne
 ·exact Jv w hwf hne
end Go.Proofs.N0
namespace Go.Proofs
open Go.Shelf
def Tryz.Ge:Go.Shelf.Ren:=⟨fun|137=>149|217=>170|266=>182|n=>n,fun|9=>9|5=>5|3=>3|n=>n,fun|n=>n⟩
theorem Tryz.WV:Go.Proofs.Lays.n137 Tryz.prog Tryz.Ge:={
 mixed:=aI
 f137:=Tryz.func149.trans (congrArg some aI)
 f217:=Tryz.func170.trans (congrArg some aI)
 f266:=Tryz.func182.trans (congrArg some aI)
 t3:=Tryz.underlying3
 a3:=Tryz.isAgg3
 z3:=Tryz.sizeOf3
 v3:=Tryz.zeroValue3
 t5:=Tryz.underlying5
 a5:=Tryz.isAgg5
 z5:=Tryz.sizeOf5
 v5:=Tryz.zeroValue5
 t9:=Tryz.underlying9
 a9:=Tryz.isAgg9
 z9:=Tryz.sizeOf9
 v9:=Tryz.zeroValue9}
open Go.RowKit in
theorem Tryz.strings_IndexByte (s:ByteArray) (c:Int) (w:World) :
 Calls Tryz.prog 149 #[.string s,.int .u8 c] w fun e w'=>e=.returned (.int .i64 (Lib.indexByte s.data.toList c.toNat.toUInt8))∧w'=w:=Any.strings_IndexByte Tryz.WV s c w
def Tryz.Gf:Go.Shelf.Ren:=⟨fun|129=>102|n=>n,fun|53=>31|3=>3|4=>4|46=>47|5=>5|9=>9|n=>n,fun|n=>n⟩
theorem Tryz.WX:Go.Proofs.Lays.n129 Tryz.prog Tryz.Gf:={
 mixed:=aI
 f129:=Tryz.func102.trans (congrArg some aI)
 t3:=Tryz.underlying3
 a3:=Tryz.isAgg3
 z3:=Tryz.sizeOf3
 v3:=Tryz.zeroValue3
 t4:=Tryz.underlying4
 a4:=Tryz.isAgg4
 z4:=Tryz.sizeOf4
 v4:=Tryz.zeroValue4
 t5:=Tryz.underlying5
 a5:=Tryz.isAgg5
 z5:=Tryz.sizeOf5
 v5:=Tryz.zeroValue5
 t9:=Tryz.underlying9
 a9:=Tryz.isAgg9
 z9:=Tryz.sizeOf9
 v9:=Tryz.zeroValue9
 t46:=Tryz.underlying47
 a46:=Tryz.isAgg47
 z46:=Tryz.sizeOf47
 v46:=Tryz.zeroValue47
 t53:=Tryz.underlying31
 a53:=Tryz.isAgg31
 z53:=Tryz.sizeOf31
 v53:=Tryz.zeroValue31}
theorem Tryz.bits_Len64 (x:Int) (w:World) (h0:0≤x) (h1:x≤18446744073709551615) :
 Calls Tryz.prog 102 #[.int .u64 x] w fun e w'=>e=.returned (.int .i64 (Lib.bitLen x.toNat))∧w'=w:=Any.bits_Len64 Tryz.WX x w h0 h1
end Go.Proofs
namespace Go.Proofs.N0
open Go.RowKit
variable {s:ByteArray} {k j n:Nat} {nv iv:Value}
def eF (s:ByteArray) (k j n:Nat):Prop:=af.jn k 0 0 (s.data.toList.drop k)=af.jn k (j - k) n (s.data.toList.drop j)
theorem Jy (s:ByteArray) (j:Nat) (h:j<s.size):s.data.toList[j]'(DN)=s[j]:=by rw [Array.getElem_toList];rfl
theorem Ab (s:ByteArray) (j:Nat) (h:j<s.size):s.data.toList.drop j=s[j]::s.data.toList.drop (j+1):=by rw [List.drop_eq_getElem_cons DN,Jy s j h]
theorem eF.err (h:eF s k j n) (hj:j<s.size) (hc:(j=k∧s[j].toNat=128)∨144115188075855871<n):af.jn k 0 0 (s.data.toList.drop k)=(0,0,3):=by unfold eF at h;rw [h,Ab s j hj,af.jn,if_pos (by rcases hc with ⟨h1,h2⟩|h1;exact Or.inl ⟨by omega,h2⟩;exact Or.inr h1)]
theorem eF.done (h:eF s k j n) (_hk:k≤j) (hj:j<s.size) (_h1:¬(j=k∧s[j].toNat=128)) (_h2:n≤144115188075855871) (h3:s[j].toNat<128) :
 af.jn k 0 0 (s.data.toList.drop k)=(n*128+s[j].toNat % 128,j+1,0):=by
 unfold eF at h
 rw [h,Ab s j hj,af.jn,if_neg ax,if_pos h3]
 congr 2;omega
theorem eF.next (h:eF s k j n) (_hk:k≤j) (hj:j<s.size) (_h1:¬(j=k∧s[j].toNat=128)) (_h2:n≤144115188075855871) (_h3:128≤s[j].toNat) :
 eF s k (j+1) (n*128+s[j].toNat % 128):=by
 unfold eF at h ⊢
 rw [h,Ab s j hj,af.jn,if_neg ax,if_neg ax]
 congr 1;omega
theorem eF.fin (h:eF s k j n) (hj:s.size≤j):af.jn k 0 0 (s.data.toList.drop k)=(0,0,2):=by unfold eF at h;rw [h,List.drop_eq_nil_of_le (by simpa using hj),af.jn]
def Gg (s:ByteArray) (k:Nat) (nv iv:Value):Prop:=∃ j n:Nat,k≤j∧j≤s.size∧n<18446744073709551616∧nv=vU n∧iv=vI j∧eF s k j n
theorem Gg.mk (j n:Nat) (h1:k≤j) (h2:j≤s.size) (h3:n<18446744073709551616) (h4:nv=vU n) (h5:iv=vI j) (h6:eF s k j n):Gg s k nv iv :=
 ⟨j,n,h1,h2,h3,h4,h5,h6⟩
theorem Gg.next (h:eF s k j n) (hk:k≤j) (hj:j<s.size) (h1:¬(j=k∧s[j].toNat=128)) (h2:n≤144115188075855871) (h3:128≤s[j].toNat) :
 Gg s k (vU ((n:Int)*128+(s[j].toNat:Int) % 128)) (vI ((j:Int)+1)) :=
 Gg.mk (j+1) (n*128+s[j].toNat % 128) ax ax ax ym ym (h.next hk hj h1 h2 h3)
theorem Gh {k1 k2 k3:IntKind} {a b c a' b' c':Int} (h1:a=a') (h2:b=b') (h3:c=c'):Ending.returned (.tuple #[.int k1 a,.int k2 b,.int k3 c])=.returned (.tuple #[.int k1 a',.int k2 b',.int k3 c']):=by rw [h1,h2,h3]
theorem Gi (t:ByteArray) (j:Nat) (h:j<t.size):(t.data.toList.getD j 0)=t[j]:=by rw [ux,lz DN,uy,Array.getElem_toList];rfl
def lp (s:ByteArray) (k:Nat) (nv iv:Value):Prop:=∃ i n:Nat,k+i≤s.size∧n<18446744073709551616∧nv=vU n∧iv=vI i∧eF s k (k+i) n
theorem lp.mk (i n:Nat) (h2:k+i≤s.size) (h3:n<18446744073709551616) (h4:nv=vU n) (h5:iv=vI i) (h6:eF s k (k+i) n):lp s k nv iv :=
 ⟨i,n,h2,h3,h4,h5,h6⟩
theorem Eg (h:n≤144115188075855871):Lib.bitLen n≤57:=by
 unfold Lib.bitLen;rw [Lib.bitLenAux_fuel 57 n (by have:(2:Nat)^57=144115188075855872:=(by decide);omega) 64 ax];have:∀ f x,Lib.bitLenAux f x≤f:=by
  intro f
  induction f with
  | zero=>intro x;simp [Lib.bitLenAux]
  | succ f ih =>
   intro x;simp only [Lib.bitLenAux];split
   ·omega
   ·have:=ih (x / 2);omega
 exact this _ _
theorem Jz (h:144115188075855871<n) (hn:n<18446744073709551616):58≤Lib.bitLen n:=by
 have hp:(2:Nat)^57=144115188075855872:=aG;rw [Lib.bitLen_shift 57 n ax (by have:(2:Nat)^64=18446744073709551616:=(by decide);omega),hp];have h0:n / 144115188075855872≠0:=ax;have:Lib.bitLen (n / 144115188075855872)=1+Lib.bitLenAux 63 (n / 144115188075855872 / 2):=by unfold Lib.bitLen;rw [show (64:Nat)=63+1 from rfl,Lib.bitLenAux,if_neg h0]
 omega
theorem NT (c:Nat) (h:c<256):bits .and .u8 (c:Int) 127=(c:Int) % 128:=bits_mask .u8 8 aG wraps_u8 7 aG c ax ax
theorem Ry (n c:Nat) (hn:n≤144115188075855871) (hc:c<256):bits .or .u64 ((n:Int)*128) (IntKind.u64.wrap (bits .and .u8 (c:Int) 127))=(n:Int)*128+(c:Int) % 128:=by rw [NT c hc,wraps_u64 _ ax ax];exact bits_join .u64 64 aG wraps_u64 7 _ _ ax ax ax ax ax ax
theorem lp.next {i:Nat} (h:eF s k (k+i) n) (hj:k+i<s.size) (h1:¬(i=0∧s[k+i].toNat=128)) (h2:n≤144115188075855871) (h3:128≤s[k+i].toNat) :
 lp s k (vU (bits .or .u64 ((n:Int)*128) (IntKind.u64.wrap (bits .and .u8 (s[k+i].toNat:Int) 127)))) (vI ((i:Int)+1)) :=
 lp.mk (i+1) (n*128+s[k+i].toNat % 128) ax ax c952 ym (h.next ax hj ax h2 h3)
theorem lp.next0 (h:eF s k k n) (hj:k<s.size) (h1:¬s[k].toNat=128) (h2:n≤144115188075855871) (h3:128≤s[k].toNat) :
 lp s k (vU (bits .or .u64 ((n:Int)*128) (IntKind.u64.wrap (bits .and .u8 (s[k].toNat:Int) 127)))) (vI 1) :=
 lp.mk 1 (n*128+s[k].toNat % 128) ax ax c952 rfl (h.next ax hj ax h2 h3)
theorem xF (n:Nat) (h:n≤144115188075855871) (w:World):Calls Tryz.prog 102 #[vU n] w fun e w'=>∃ m:Nat,m≤57∧e=.returned (vI m)∧w=w' :=
 (Tryz.bits_Len64 n w ax ax).mono fun _ _ ⟨he,hw⟩=>⟨Lib.bitLen n,Eg h,by rw [he];simp,hw.symm⟩
theorem NU (n:Nat) (h:144115188075855871<n) (hn:n<18446744073709551616) (w:World):Calls Tryz.prog 102 #[vU n] w fun e w'=>∃ m:Nat,58≤m∧e=.returned (vI m)∧w=w' :=
 (Tryz.bits_Len64 n w ax ax).mono fun _ _ ⟨he,hw⟩=>⟨Lib.bitLen n,Jz h hn,by rw [he];simp,hw.symm⟩
theorem RY (s:ByteArray) (k:Nat) (w:World) (hs:s.size≤maxLen) (k1:k≤s.size) :
 Calls Tryz.prog 78 #[.string s,vI k] w fun e w'=>e=.returned (.tuple #[vU (af.jn k 0 0 (s.data.toList.drop k)).1,vI (af.jn k 0 0 (s.data.toList.drop k)).2.1,vI (af.jn k 0 0 (s.data.toList.drop k)).2.2])∧Below w.heap.size w w':=by
 unfold maxLen at hs
 have hcv:=fun (w:World) (t:ByteArray)=>Lib.run_convert_string_bytes (P:=Tryz.prog) w 9 22 5 t Tryz.underlying9 Tryz.underlying22 Tryz.underlying5
 obtain ⟨W1,hW1⟩:∃ W1,W1=Lib.bytesWorld w 5 (s.extract k s.size):=⟨_,rfl⟩
 have hcell:∀ i (h:k+i<s.size),W1.cell? ⟨w.heap.size,i,none⟩=some (.int .u8 (s[k+i].toNat)):=by intro i h;rw [hW1,Lib.bytesWorld_cell _ _ _ _ aR,Gi _ _ aR];simp [ByteArray.getElem_extract]
 have iK:Below w.heap.size w W1:=by rw [hW1];exact Joins.below_bytesWorld _ _ _ _ (cC _)
 obtain ⟨HW,HC,HB⟩:=ju hW1 hcell iK;clear hW1 hcell iK
 have d0:decide ((k:Int)<0)=false:=aH
 have d1:decide (s.size<k)=false:=by simpa using k1
 go_enter Tryz.func78,Tryz.ntmps78
 go_wp2
 rw [←HW.out]
 clear HW
 go_loopw [7,23] (fun nv iv wr=>lp s k nv iv∧W1=wr) (fun _ i _=>s.size - (intOf i).toNat)
 case atStart=>exact ⟨lp.mk 0 0 ax ax rfl rfl (by simp [eF]),rfl⟩
 case round =>
  obtain ⟨⟨i,n,hj,hn,rfl,rfl,hr⟩,rfl⟩:=hrel;have HN:=Hi hn;have HR:=Hi hr;clear hr;by_cases hlt:k+i<s.size
  ·have hb:s[k+i].toNat<256:=af.Qe _;have hc:=HC.out i hlt;rcases Ds 144115188075855871 n with hbig|hbig
   ·have HBIG:=Hi hbig;clear hbig hn;go_wp2_with (go_at_call 102;refine (NU _ HBIG.out HN.out _).mono ?_;rintro e w' ⟨m,hm,rfl,rfl⟩)
    all_goals (go_ret3;refine ⟨?_,HB.out⟩;rw [HR.out.err hlt (Or.inr HBIG.out)];rfl)
   ·rcases Dr i with rfl|hi
    ·clear hn;simp only [Nat.add_zero] at hb hlt;have oJ:=Hi (show eF s k k n from HR.out);clear HR;go_wp2_with (go_at_call 102;refine (xF _ hbig _).mono ?_;rintro e w' ⟨m,hm,rfl,rfl⟩)
     all_goals first
      | (go_ret3;refine ⟨?_,HB.out⟩;rw [oJ.out.err hlt (by first|omega|(have hor:=‹(_==_)=true∨_›;rw [beq_iff_eq] at hor;omega))];rfl)
      | (go_ret3;refine ⟨?_,HB.out⟩;rw [oJ.out.done ax hlt ax ax ax];exact Gh (by rw [Ry _ _ hbig hb];push_cast;rfl) (by push_cast;omega) rfl)
      | (go_roundw
         case rel=>exact ⟨lp.next0 oJ.out hlt ax hbig ax,trivial⟩
         case measure=>simp [intOf];omega)
    ·clear hn;go_wp2_with (go_at_call 102;refine (xF _ hbig _).mono ?_;rintro e w' ⟨m,hm,rfl,rfl⟩)
     all_goals first
      | (go_ret3;refine ⟨?_,HB.out⟩;rw [HR.out.done ax hlt ax ax ax];exact Gh (by rw [Ry _ _ hbig hb];push_cast;rfl) (by push_cast;omega) rfl)
      | (go_roundw
         case rel=>exact ⟨lp.next HR.out hlt ax hbig ax,trivial⟩
         case measure=>simp [intOf];omega)
  ·go_wp2_with fail;go_ret3;rw [HR.out.fin ax];exact ⟨rfl,HB.out⟩
end Go.Proofs.N0
namespace af
variable {x n:Nat}
def JA (n many i:Nat):Nat:=n / 2^(7*(many - 1 - i)) % 128+if i+1<many then 128 else 0
theorem pow7 (k:Nat):2^(7*k)=128^k:=by rw [Nat.pow_mul]
theorem Cj:∀ (f x:Nat),ct f x=(List.range (ct f x).length).map fun i=>UInt8.ofNat (128+x / 128^((ct f x).length - 1 - i) % 128)
 | 0,x=>by simp [ct]
 | f+1,x=>by
  by_cases h0:x=0
  ·subst h0;simp [ct]
  ·have ih:=Cj f (x / 128);rw [mz f h0];simp only [E5,yQ,List.length_nil,bF,List.range_succ,dc,jQ,uL];congr 1
   ·conv=>lhs;rw [ih]
    refine tD fun i hi=>?_
    have hi':i<(ct f (x / 128)).length:=List.mem_range.1 hi
    rw [Nat.div_div_eq_div_mul,show 128*128^((ct f (x / 128)).length - 1 - i)=128^((ct f (x / 128)).length+1 - 1 - i) from by
     rw [Nat.mul_comm,←Nat.pow_succ];congr 1;omega]
   ·rw [show (ct f (x / 128)).length+1 - 1 - (ct f (x / 128)).length=0 by omega];simp
theorem WY (n:Nat):put n=(List.range (put n).length).map fun i=>UInt8.ofNat (JA n (put n).length i):=by
 have hl:(put n).length=(ct 9 (n / 128)).length+1:=by simp [put]
 rw [hl,List.range_succ,dc,jQ,uL];unfold put;congr 1
 ·conv=>lhs;rw [Cj]
  refine tD fun i hi=>?_
  have hi':i<(ct 9 (n / 128)).length:=List.mem_range.1 hi
  unfold JA
  rw [if_pos ax,pow7,Nat.div_div_eq_div_mul,show 128*128^((ct 9 (n / 128)).length - 1 - i)=128^((ct 9 (n / 128)).length+1 - 1 - i) from by
   rw [Nat.mul_comm,←Nat.pow_succ];congr 1;omega,Nat.add_comm]
 ·unfold JA;rw [if_neg ax,show (ct 9 (n / 128)).length+1 - 1 - (ct 9 (n / 128)).length=0 by omega];simp
theorem JB (h:x≠0):1≤Go.Lib.bitLen x:=by unfold Go.Lib.bitLen;rw [show (64:Nat)=63+1 from rfl,Go.Lib.bitLenAux,if_neg h];omega
theorem bitLenAux_le:∀ f x,Go.Lib.bitLenAux f x≤f:=by
 intro f
 induction f with
 | zero=>intro x;simp [Go.Lib.bitLenAux]
 | succ f ih =>
  intro x;simp only [Go.Lib.bitLenAux];split
  ·omega
  ·have:=ih (x / 2);omega
theorem Gj (h:x<128):Go.Lib.bitLen x≤7:=by unfold Go.Lib.bitLen;rw [Go.Lib.bitLenAux_fuel 7 x ax 64 ax];exact bitLenAux_le _ _
theorem vp:Go.Lib.bitLen 0=0:=by simp [Go.Lib.bitLen,Go.Lib.bitLenAux]
theorem Ck:∀ (f x:Nat),x<128^f→x<18446744073709551616→(ct f x).length=(Go.Lib.bitLen x+6) / 7
 | 0,x,h,_=>by
  have:x=0:=by simp at h;omega
  subst this;simp [ct,vp]
 | f+1,x,h,hx=>by
  by_cases h0:x=0
  ·subst h0;simp [ct,vp]
  ·rw [mz f h0,E5,Ck f (x / 128) (by rw [Nat.pow_succ] at h;omega) ax];by_cases h1:x<128
   ·have:=Gj h1
    have:=JB h0
    rw [show x / 128=0 by omega,vp]
    simp;omega
   ·rw [Go.Lib.bitLen_shift 7 x ax (by have:(2:Nat)^64=18446744073709551616:=(by decide);omega)];simp;omega
theorem JC (hn:n<18446744073709551616):(put n).length=max 1 ((Go.Lib.bitLen n+6) / 7):=by
 have h9:(128:Nat)^9=9223372036854775808:=aG;have hl:(put n).length=(ct 9 (n / 128)).length+1:=by simp [put]
 rw [hl,Ck 9 _ ax ax];by_cases h1:n<128
 ·have:=Gj h1
  rw [show n / 128=0 by omega,vp]
  omega
 ·rw [Go.Lib.bitLen_shift 7 n ax (by have:(2:Nat)^64=18446744073709551616:=(by decide);omega),show (2:Nat)^7=128 from rfl];omega
theorem WZ {i:Nat} (hi:i<(put n).length):(put n).take (i+1)=(put n).take i++[UInt8.ofNat (JA n (put n).length i)]:=by
 rw [Fv hi];congr 2;have h:=WY n;have:(put n)[i]=((List.range (put n).length).map fun i=>UInt8.ofNat (JA n (put n).length i))[i]'(D9):=by congr 1
 rw [this];simp
end af
namespace Go.Proofs.N0
open Go.RowKit
variable {B n many i:Nat} {l:List UInt8} {v:Value}
def lq (l:List UInt8):List Value:=l.map fun c=>.int .u8 c.toNat
structure NV (B n many:Nat) (v:Value) (l:List UInt8) (w:World):Prop where
 hn:w.heap[B]?=some (cl #[vU n] 31)
 hm:w.heap[B+1]?=some (cl #[vI many] 3)
 hb:w.heap[B+2]?=some (cl #[v] 22)
 own:w.ownsRow (B+3) 5 1 v l.length (lq l)
theorem NV.push {wr w1:World} {v':Value} {y:Int} (h:NV B n many v l wr) (x:UInt8) (hy:y=(x.toNat:Int)) (tmp:Obj)
 (hown':w1.ownsRow (B+3) 5 1 v' (l.length+1) (lq l++[.int .u8 y])) (hgrow:(wr.alloc tmp).grownBy w1 v.ownBlock) :
 (∃ g' cap',v'=vL g' 0 (l.length+1) cap')∧w1.cell? ⟨B+2,0,none⟩=some v∧w1.frozen? ⟨B+2,0,none⟩=false∧NV B n many v' (l++[x]) (w1.setCell ⟨B+2,0,none⟩ v')∧Below B wr (w1.setCell ⟨B+2,0,none⟩ v'):=by
 subst hy
 have hBw:=lt_of_block h.hb
 have hne:∀ k,k<B+3→some k≠v.ownBlock:=fun k hk e=>by
  rcases h.own.2 with ⟨rfl,_⟩|⟨g,cap,cur,rfl,hg,hh,_⟩
  ·simp [Value.ownBlock] at e
  ·simp only [Value.ownBlock,Option.some.injEq] at e;omega
 have keep:∀ k,k<B+3→w1.heap[k]?=wr.heap[k]?:=fun k hk =>
  (hgrow.block k aR (hne k hk)).trans (Below.heap_alloc _ _ _ ax)
 have hb1:=(keep (B+2) ax).trans h.hb
 have hex:∃ g' cap',v'=vL g' 0 (l.length+1) cap':=by exact Y7
 refine ⟨hex,cell_of_one hb1,free_of_one hb1,⟨?_,?_,one_setCell hb1,?_⟩,?_⟩
 ·exact (Below.heap_setCell _ _ _ _ (by show B≠B+2;omega)).trans ((keep B ax).trans h.hn)
 ·exact (Below.heap_setCell _ _ _ _ (by show B+1≠B+2;omega)).trans ((keep (B+1) ax).trans h.hm)
 ·have:=ownsRow_setCell_below hown' (a:=⟨B+2,0,none⟩) (by show B+2<B+3;omega) v'
  simpa [lq] using this
 ·exact (((Below.refl B wr).alloc ax tmp).grown hgrow aR (fun k hk=>by
   rcases Ds k B with h'|h'
   ·exact absurd hk.symm (hne k ax)
   ·exact h')).setCell (by show B≤B+2;omega) _
theorem Zu:(Tryz.prog.info? 5).map (fun i=>(i.zero,i.size,i.bytes))=some (some (.int .u8 0),1,1):=aI
open af (JA)
theorem RZ (n many i:Nat):JA n many i<256:=by unfold JA;split<;>omega
theorem Ac (x:Nat) (h:x<18446744073709551616):bits .and .u64 (x:Int) 127=(x:Int) % 128:=bits_mask .u64 64 aG wraps_u64 7 aG x ax ax
theorem NW (y:Nat) (h:y<128):bits .or .u8 (y:Int) 128=(y:Int)+128 :=
 bits_join_low .u8 8 aG wraps_u8 7 y 128 ax ax ax aG aG aG
theorem R2 (hn:n<18446744073709551616) (h:many≤i+1):bits .and .u64 (n:Int) 127 % 256=((UInt8.ofNat (JA n many i)).toNat:Int):=by rw [Ac _ hn,af.yR _ (RZ _ _ _)];unfold JA;rw [if_neg ax,show many - 1 - i=0 by omega];clear hn h;simp only [Nat.mul_zero,Nat.pow_zero,Nat.div_one,Nat.add_zero];omega
theorem R3 (hn:n<18446744073709551616) (h:i+1<many):bits .or .u8 (bits .and .u64 ((n:Int) / 2^(7*(many - 1 - i))) 127 % 256) 128=((UInt8.ofNat (JA n many i)).toNat:Int):=by have hp:(n:Int) / 2^(7*(many - 1 - i))=((n / 2^(7*(many - 1 - i)):Nat):Int):=ym;have hq:((n / 2^(7*(many - 1 - i)):Nat):Int) % 128 % 256=((n / 2^(7*(many - 1 - i)) % 128:Nat):Int):=ax;rw [hp,Ac _ (Nat.lt_of_le_of_lt (Nat.div_le_self _ _) hn),hq,NW _ ax,af.yR _ (RZ _ _ _)];unfold JA;rw [if_pos h];exact (Int.natCast_add _ 128).symm
def R7 (B n many:Nat) (l:List UInt8) (c:UInt8) (w:World) (e:Ending) (w':World):Prop :=
 e=.returned (.tuple #[])∧(∃ v',NV B n many v' (l++[c]) w')∧Below B w w'
theorem NY (B n many i:Nat) (v:Value) (l:List UInt8) (w:World) (hn:n<18446744073709551616) (h:NV B n many v l w) (hl:l.length≤100) (hm:many≤10) (hi:i<many) :
 Calls Tryz.prog 103 #[vI i,vP B 0,vP (B+1) 0,vP (B+2) 0] w (R7 B n many l (UInt8.ofNat (JA n many i)) w):=by
 obtain ⟨i0,mE,hz0,hz1,hz2⟩:=info_parts Zu
 have HN:=Hi hn;clear hn
 have c0:=cell_of_one h.hn
 have c1:=cell_of_one h.hm
 have c2:=cell_of_one h.hb
 have hown:=h.own
 have hsz:B+2<w.heap.size:=lt_of_block h.hb
 have H:=Hi h;clear h
 rcases Ds (i+1) many with hlt|hlt
 ·go_enter Tryz.func103,Tryz.ntmps103
  go_wp2_with (at_builtin;refine wpList_append_own _ rfl _ _ 22 rfl (B+3) 5 i0 (.int .u8 0) 1 1 Tryz.underlying22 mE hz0 hz1 hz2 rfl aG _ _ _ rfl (hown.alloc _) ⟨w.heap.size,0,none⟩ 1 1 [.int .u8 (bits .or .u8 (bits .and .u64 ((n:Int) / 2^(7*(many - 1 - i))) 127 % 256) 128)] rfl rfl ?c1 ?c2 ?c3 ?c4 ?c5 ?_)
  case c1 =>
   exact QO
  case c2=>intro u hu;simp at hu;subst hu;rfl
  case c3=>unfold maxLen;omega
  case c4=>omega
  case c5=>simp;omega
  intro v' w2 hown' hgrow' _
  obtain ⟨⟨g',cap',rfl⟩,cW2,fW2,hinv',iK⟩:=H.out.push (UInt8.ofNat (JA n many i)) (R3 HN.out hlt) _ hown' hgrow'
  exact a9159
 ·go_enter Tryz.func103,Tryz.ntmps103
  go_wp2_with (at_builtin;refine wpList_append_own _ rfl _ _ 22 rfl (B+3) 5 i0 (.int .u8 0) 1 1 Tryz.underlying22 mE hz0 hz1 hz2 rfl aG _ _ _ rfl (hown.alloc _) ⟨w.heap.size,0,none⟩ 1 1 [.int .u8 (bits .and .u64 (n:Int) 127 % 256)] rfl rfl ?d1 ?d2 ?d3 ?d4 ?d5 ?_)
  case d1 =>
   exact QO
  case d2=>intro u hu;simp at hu;subst hu;rfl
  case d3=>unfold maxLen;omega
  case d4=>omega
  case d5=>simp;omega
  intro v' w2 hown' hgrow' _
  obtain ⟨⟨g',cap',rfl⟩,cW2,fW2,hinv',iK⟩:=H.out.push (UInt8.ofNat (JA n many i)) (R2 HN.out hlt) _ hown' hgrow'
  exact a9159
theorem NZ (n:Nat) (hn:n<18446744073709551616) (w:World):Calls Tryz.prog 102 #[vU n] w fun e w'=>∃ m:Nat,m≤64∧(af.put n).length=max 1 ((m+6) / 7)∧e=.returned (vI m)∧w=w' :=
 (Tryz.bits_Len64 n w ax ax).mono fun _ _ ⟨he,hw⟩=>⟨Lib.bitLen n,af.bitLenAux_le _ _,af.JC hn,by rw [he];simp,hw.symm⟩
def PutSt (B n:Nat) (w:World) (iv:Value) (wr:World):Prop:=∃ k:Nat,k≤(af.put n).length∧iv=vI k∧(∃ v,NV B n (af.put n).length v ((af.put n).take k) wr)∧Below B w wr
theorem yo {w:World} (h:w.ownsRow B 5 1 v l.length (lq l)) (h0:0<l.length) :
 ∃ g cap,v=vL g 0 l.length cap∧∀ j (hj:j<l.length),w.cell? ((⟨g,0,none⟩:Addr).add j)=some (.int .u8 (l[j].toNat:Int)):=by
 have hc:=fun g (hg:v.ownBlock=some g)=>h.cells hg
 rcases h.2 with ⟨_,h1⟩|⟨g,cap,cur,hv,_⟩
 ·omega
 ·refine ⟨g,cap,hv,fun j hj=>hc g (by rw [hv];rfl) j _ ?_⟩;simp [lq,hj]
theorem Gk (n:Nat) (w:World) (hn:n<18446744073709551616) :
 Calls Tryz.prog 65 #[vU n] w fun e w'=>e=.returned (vS (af.put n))∧Below w.heap.size w w':=by
 have hL:=af.gz n
 have HN:=Hi hn;clear hn
 go_enter Tryz.func65,Tryz.ntmps65
 go_wp2_with (go_at_call 102;refine (NZ _ HN.out _).mono ?_;rintro e w' ⟨m,hm,hml,rfl,rfl⟩;have HML:=Hi hml;clear hml)
 rw [show max 1 (((m:Int)+7 - 1) / 7)=((af.put n).length:Int) from by rw [HML.out];omega]
 clear HML hm
 go_loopw [15] (fun iv wr=>PutSt w.heap.size n w iv wr) (fun i _=>(af.put n).length - (intOf i).toNat)
 case atStart =>
  refine ⟨0,ax,rfl,⟨_,⟨?_,?_,?_,World.ownsRow_nil _ _ _ _⟩⟩,(((Below.refl _ _).alloc (cC _) _).alloc aH _).alloc aR _⟩
  ·rw [Below.heap_alloc _ _ _ aR,Below.heap_alloc _ _ _ aH];exact heap_alloc_new _ _
  ·rw [Below.heap_alloc _ _ _ aH];simpa using heap_alloc_new (w.alloc _) _
  ·simpa using heap_alloc_new ((w.alloc _).alloc _) _
 case round =>
  obtain ⟨k,hk,rfl,⟨v,hinv⟩,iK⟩:=hrel;obtain ⟨HI,HB⟩:=hi2 hinv iK;have hb2:=cell_of_one hinv.hb;by_cases hlt:k<(af.put n).length
  ·have qc:((af.put n).take k).length≤100:=aR
   clear hinv iK
   go_wp2_with (go_at_call 103;refine (NY w.heap.size n _ k v _ _ HN.out HI.out qc hL.2 hlt).mono ?_;rintro e w' ⟨rfl,hp,hb'⟩;have HP:=Hi hp;have HB':=Hi hb';clear hp hb')
   go_roundw
   case rel=>exact ⟨k+1,hlt,by go_num,by rw [af.WZ hlt];exact HP.out,HB.out.trans HB'.out⟩
   case measure=>simp [intOf];omega
  ·rw [BD ax] at hinv;obtain ⟨g,cap,rfl,hcells⟩:=yo hinv.own ax;have yV:=run_convert_bytes_back (P:=Tryz.prog) wr 22 9 5 ⟨g,0,none⟩ cap _ Tryz.underlying22 Tryz.underlying5 Tryz.underlying9 hcells;clear hcells hinv iK;go_wp2;go_ret;exact ⟨rfl,HB.out⟩
end Go.Proofs.N0
namespace Go.Proofs.N0
open Go.RowKit
variable {k:Int} {n p er:Nat}
theorem W6 (s:ByteArray) (k:Int) (w:World) (hs:s.size≤maxLen) (h:k<0∨(s.size:Int)<k) :
 Calls Tryz.prog 78 #[.string s,vI k] w fun e w'=>e=.returned (.tuple #[vU 0,vI 0,vI 1])∧w=w':=by
 unfold maxLen at hs
 rcases h with h|h
 ·go_enter Tryz.func78,Tryz.ntmps78;go_wp2;go_ret3;exact ⟨rfl,rfl⟩
 ·have h0:¬k<0:=ax;go_enter Tryz.func78,Tryz.ntmps78;go_wp2;go_ret3;exact ⟨rfl,rfl⟩
theorem eu {s:ByteArray} (hg:af.get s.data.toList k=(n,p,er)) (w:World) (hs:s.size≤maxLen) :
 Calls Tryz.prog 78 #[.string s,vI k] w fun e w'=>e=.returned (.tuple #[vU n,vI p,vI er])∧Below w.heap.size w w':=by
 unfold af.get at hg
 split at hg
 ·rename_i h;simp only [Prod.mk.injEq] at hg;obtain ⟨rfl,rfl,rfl⟩:=hg;exact (W6 s k w hs DN).mono fun _ _ ⟨he,hw⟩=>⟨he,hw▸Below.refl _ _⟩
 ·rename_i h;obtain ⟨j,rfl⟩:=cR (show 0≤k by omega);have hw:=RY s j w hs (by simp at h;omega);simp only [IG] at hg;rw [hg] at hw;exact hw
theorem tU {s:List UInt8} (hg:af.get s k=(n,p,er)):p≤s.length∧n<18446744073709551616:=by
 have:=af.BQ s k
 rw [hg] at this
 exact this
theorem qQ (k:Int) (h0:0≤k) (h1:k<18446744073709551616) (w:World) :
 Calls Tryz.prog 65 #[vU k] w fun e w'=>e=.returned (vS (af.put k.toNat))∧Below w.heap.size w w':=by
 obtain ⟨n,rfl⟩:=cR h0
 exact Gk n w ax
theorem jH (a b:List UInt8):(⟨a.toArray⟩:ByteArray)++⟨b.toArray⟩=⟨(a++b).toArray⟩:=by apply ByteArray.ext;simp
theorem append_eq (l:List UInt8) (s:ByteArray):(⟨l.toArray⟩:ByteArray)++s=⟨(l++s.data.toList).toArray⟩:=by rw [←jH,sF]
end Go.Proofs.N0
