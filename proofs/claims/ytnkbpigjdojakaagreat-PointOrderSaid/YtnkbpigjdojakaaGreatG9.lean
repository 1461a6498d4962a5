/- Texts YtnkbpigjdojakaaGreatPtSessions .. YtnkbpigjdojakaaGreatPtFixed2, joined. What they prove: the contracts of the functions that the law reaches, and plain law. -/
import Derived.Test.YtnkbpigjdojakaaGreatG8
import Derived.Deep.AppendLies
import Derived.StillTail
set_option maxRecDepth 100000
set_option maxHeartbeats 6400000
variable {A:Prop}
theorem a9112 (h:A:=by
 exact h.zi (by intro q hq;simp only [gF,Io,Bp,or_false] at hq ⊢;exact (fun hq=>hq.elim (fun hq=>.inl hq) (fun hq=>.inr (.inl hq))) hq)):A:=h
theorem LC (h:A:=by
 refine ja (by decide) rfl rfl ?_;intro v x hM hF;exact a961):A:=h
theorem ya (h:A:=by
 exact fun z=>((h0.kY (mb:=a.lb) (l:=cu a.la t.live) (by simp [cS])).later z.below).look1 Tryz.underlying78 xk (mG (f:=fun x:Nat×af.dm=>(x.1,Value.pointer (some ⟨a.la x.1,0,none⟩))) ox.out)):A:=h
theorem UI (h:A:=by simp [af.newP]):A:=h
theorem aas (h:A:=by unfold iO;simp):A:=h
theorem Qp (h:A:=by rw [IntWalk.i64_in _ (by omega)];omega):A:=h
theorem ZY (h:A:=by
 have r:=rl F2.out.mem.rules;clear g F1 CP F3;exact tO):A:=h
theorem Uh (h:A:=by unfold af.Int64;decide):A:=h
theorem Y4 (h:A:=by
 refine wX ?_;intro D v qq x ch hS h0;refine (CT.out _ _ _ _ _ h0).mono ?_;rintro e z ⟨q9,l9,c9,rfl,h⟩;exact ⟨(q9,l9,c9,()),xE,h⟩):A:=h
theorem Ui (h:A:=by rw [HS9.out,HT9.out,HG9.out];exact F3.out):A:=h
theorem C8 (h:A:=by show cM []+_+cM []+_≤4096;omega):A:=h
theorem Ib (h:A:=by rw [ht] at h;exact h):A:=h
theorem a983 (h:A:=by
 by_cases him:i<m
 ·rw [decide_eq_true him];by_cases hin:i<n
  ·exact hr.low i hin
  ·have:=hall (i - n) (by simp [qc];omega)
   rw [jL (by rw [hr.s2];omega) true false,←hr.mid (i - n) (by omega),show n+(i - n)=i by omega] at this
   exact this
 ·rw [decide_eq_false him];exact hr.high i (by omega)):A:=h
theorem SX (h:A:=by
 refine wX ?_;intro D v qq x ch hS h0;refine (CG.out _ _ h0).mono ?_;rintro e z ⟨oqx,olx,ocx,rfl,h⟩;exact ⟨(oqx,olx,ocx,()),xE,h⟩):A:=h
theorem Mp (h:A:=by intro w;go_simp):A:=h
theorem a90 (h:A:=by
 have FY:=Hi (F8.out.alloc (cl #[vI hh] 3));obtain ⟨f9,⟨bE,-⟩,-⟩:=FY.out.tell;have cH:World.ownsRow _ 0 3 1 (vL gs 0 1 cs) 1 [vI hh]:=bE;have Mt:=FY.out.lD (x:=(wy.heap.size,cl #[vI hh] 3)) (dN ..);have CS:Hid (Calls Tryz.prog 16 #[vL gs 0 1 cs,vL wy.heap.size 0 1 1] (wy.alloc (cl #[vI hh] 3)) fun e w'=>e=.returned (.bool true)∧Below ((wy.alloc (cl #[vI hh] 3))).heap.size ((wy.alloc (cl #[vI hh] 3))) w'):=Hi (nc (l:=[hh]) (by simp) _ (fun k hk=>by
  have hk0:k=0:=by simpa using hk
  subst hk0;exact cH.cellAt 0 (by decide)) (fun k hk=>by
  have hk0:k=0:=by simpa using hk
  subst hk0;first|(simp;done)|simp [World.cell?,Mt]))
 clear cH bE Mt;refine wpAny_ready (rs:=[5]) (by kernel_rfl) (by simp) (AllReady.cons rfl (fun K hK=>?_) AllReady.nil);go_simp;refine CS.out.mono ?_;rintro e wz ⟨rfl,yN⟩;refine hK _ _ ?_;clear hK K;have HY:=Hi (((FY.out.later yN).lA (A:=[_])).sub (zq _ _));clear CS FY yN;refine wpAny_ready (rs:=[6]) (by kernel_rfl) (by simp) (AllReady.cons rfl (fun K hK=>?_) AllReady.nil);go_simp;refine hK _ _ ?_;clear hK K;refine wpAny_ready (rs:=[7]) (by kernel_rfl) (by simp) (AllReady.cons rfl (fun K hK=>?_) AllReady.nil);go_simp;refine hK _ _ ?_;clear hK K;refine wpAny_done (by kernel_rfl) ?_ _;exact ⟨gs,cs,wy.heap.size,rfl,HY.out⟩):A:=h
theorem a965 (h:A:=by
 go_simp;refine (UR.out _ (LA) FF.out).mono ?_;rintro e wy ⟨v9,rfl,g⟩;refine hK _ _ ?_;clear hK K;obtain ⟨f9,⟨bE,-⟩,-⟩:=g.tell;have cH:wy.ownsRow 0 3 1 v9 1 [vI hh]:=bE;obtain ⟨gs,cs,rfl,-,-⟩:=kX cH (by decide);clear cH bE f9;clear r;have F8:=Hi g;have r:=F8.out.mem.rules;rewrite [HLA.out] at r;replace r:=rl r;clear g;refine wpAny_ready (rs:=[3]) (by kernel_rfl) (by simp) (AllReady.cons rfl (fun K hK=>?_) AllReady.nil);go_simp;refine hK _ _ ?_;clear hK K;refine wpAny_ready (rs:=[4]) (by kernel_rfl) (by simp) (AllReady.cons rfl (fun K hK=>?_) AllReady.nil);go_simp;refine hK _ _ ?_;clear hK K;clear r;exact a90):A:=h
theorem a972 (h:A:=by
 go_simp;refine (UR.out _ (LA) FF.out).mono ?_;rintro e wy ⟨v9,rfl,g⟩;refine hK _ _ ?_;clear hK K;obtain ⟨f9,⟨bE,-⟩,-⟩:=g.tell;have cH:wy.ownsRow 0 3 1 v9 1 [vI hh]:=bE;obtain ⟨gs,cs,rfl,-,-⟩:=kX cH (by decide);clear cH bE f9;clear r;have F8:=Hi g;clear g;refine wpAny_ready (rs:=[4]) (by kernel_rfl) (by simp) (AllReady.cons rfl (fun K hK=>?_) AllReady.nil);go_simp;refine hK _ _ ?_;clear hK K;exact a90):A:=h
namespace Go.Proofs.N0
open Go.RowKit Go.Maps Go.ChangeMaps
variable {k g:Nat} {w:World} {v:Value} {e:TypeId} {y:af.dm}
theorem UT:(Tryz.prog.info? 3).map (fun i=>(i.zero,i.size,i.bytes))=some (some (vI 0),1,8):=aI
theorem Pg {α:Type} {l:List (Nat×α)} {v:α} (hn:(l.map (·.1)).Nodup) (h:(k,v)∈l):af.ua l k=some v:=by
 unfold af.ua
 induction l with
 | nil=>simp at h
 | cons y l ih =>
  simp only [jQ,uM] at hn;by_cases e:y.1=k
  ·have hy:y=(k,v):=by
    rcases List.mem_cons.1 h with h|h
    ·exact h.symm
    ·exact absurd (by rw [e];exact mG h) hn.1
   subst hy;simp
  ·have e':(y.1==k)=false:=Ip;have h2:(k,v)∈l:=by
    rcases List.mem_cons.1 h with h|h
    ·exact absurd (by rw [←h]) e
    ·exact h
   rw [List.find?_cons,e'];exact ih hn.2 h2
def Ic (l:List Int):List Value:=l.map fun x=>vI x
abbrev EW (v:Value) (l:List Int):aW:=jU 3 1 v l.length (Ic l)
theorem cQ.look1 {mb:Nat} {l:List (Nat×Value)} {z:Value} {mt:TypeId} (h:cQ w mb l) (hu:Tryz.prog.underlying mt=some (.map 31 e)) (hz:∀ w,(zeroValue e).run Tryz.prog w=.ok z w) (hk:(k,v)∈l):(Instr.lookup mt (.map (some mb)) (vU k) false).run Tryz.prog w=.ok v w:=by obtain ⟨h1,D,h2,h3⟩:=h;obtain ⟨v',ps,hrun,hv⟩:=h2.lookup mX hu (hz w) (zd:=.held z) (zp:=[]) rfl (iy (h1.2 _ hk));rw [h3.at_ _ hk] at hv;have hv2:v'=v:=DataW.held.inj (congrArg Prod.fst (Option.some.inj hv));rw [hrun,hv2]
section
variable {S:List Nat} {w0 W w':World} {p b:Nat} {L:List (Nat×Obj)} {R:List aW} {t:af.Pt} {st bO nu:af.Store} {a:rT}
theorem NF.Mu {size n n2 c2:Nat} {xs ys:List Value} (h:NF S w0 W (jU e size v n xs::R) L) (h2:w'.ownsRow 0 e size (vL g 0 n2 c2) n2 ys) (hg:W.grownBy w' v.ownBlock) (hl:v.ownBlock=some g∨g=W.heap.size):NF S w0 w' (jU e size (vL g 0 n2 c2) n2 ys::R) L:=by
 obtain ⟨S1,⟨⟨Z,hz,hS⟩,-,-⟩,h3⟩:=NF.split (A:=[jU e size v n xs]) h;obtain ⟨a,Z2,rfl,e1,e2⟩:=List.map_eq_cons_iff.1 hz.rs;obtain rfl:=List.map_eq_nil_iff.1 e2;have ha:=hz.res a (dN ..);rw [e1] at ha;have hin:∀ i∈a.2,i∈S1:=fun i hi=>by
  rcases hS i IU with h|h
  ·exact h
  ·have:=(jU e size v n xs).lt ha i hi;omega
 have ha2:a.2=v.ownBlock.toList:=ha.2;refine h3 w' [jU e size (vL g 0 n2 c2) n2 ys] [] ⟨⟨[(jU e size (vL g 0 n2 c2) n2 ys,[g])],⟨rfl,fun z hz=>?_,fun x hx=>absurd hx aH,by simp [gG]⟩,fun i hi=>?_⟩,fun x hx=>absurd hx aH,(az.grown (S:=a.2) hg (fun j e=>.inl (by rw [ha2,e];simp))).mono hin⟩
 ·rw [rZ] at hz;subst hz;exact ⟨h2,rfl⟩
 ·have:i=g:=IU;subst this;rcases hl with hl|hl
  ·exact .inl (hin i (by rw [ha2,hl];simp))
  ·exact .inr ax
theorem YA {ov:Value} (hb:W.heap[k]?=some (cl (dV p y ov) 187)):Calls Tryz.prog 35 #[vP k 0] W fun e w'=>e=.returned (mW y.x)∧Below W.heap.size W w':=by unfold mW;unfold dV at hb;have F0:=Hi (((Mem.start W).with hb).alloc (cl #[vI 0,vI 0,vI 0,vI 0] 113));have F1:=Hi (((Mem.start W).with hb).alloc (cl (iH y.x) 113));have HB:=Hi ((Below.refl W.heap.size W).alloc (cC _) (cl (iH y.x) 113));clear hb;have r:=rl F0.out.rules;have r1:=rl F1.out.rules;go_enter Tryz.func35,Tryz.ntmps35;go_wp2_with fail;exact bodyPost_ret (v:=.agg (iH y.x)) c957 rfl ⟨rfl,HB.out⟩
theorem NF.ofSess (h:NF S w0 W R L) (hin:dA p k y∈R):Calls Tryz.prog 35 #[vP k 0] W fun e w'=>e=.returned (.agg (iH y.x))∧NF S w0 w' R L:=by obtain ⟨f,ov,_,Z,hz,_⟩:=h.pG hin;exact h.quiet (YA (hz.blk _ (ud _)))
theorem UU {cap:Nat} {os:List af.One} (h:w.ownsRow 0 98 3 (vL g 0 os.length cap) os.length (os.flatMap sB)) {j:Nat} {o:af.One} (hj:os[j]?=some o):w.cell? ⟨g,j*3,none⟩=some (vU o.id)∧w.cell? ⟨g,j*3+1,none⟩=some (vU o.to)∧w.cell? ⟨g,j*3+2,none⟩=some (vU o.born):=by
 obtain ⟨hl,rfl⟩:=List.getElem?_eq_some_iff.1 hj;have hf:∀ (os:List af.One) (j:Nat) (hl:j<os.length) (k:Nat),k<3→(os.flatMap sB)[j*3+k]?=(sB os[j])[k]?:=by
  intro os
  induction os with
  | nil=>intro j hl;simp at hl
  | cons o os ih =>
   intro j hl k hk
   cases j with
   | zero =>
    simp only [tB,yY,Nat.zero_mul,bF];rw [MK (by simp [sB];omega)]
   | succ j =>
    simp only [tB,JD];rw [lg (by simp [sB];omega),←ih j (by simpa using hl) k hk];congr 1;simp [sB];omega
 refine ⟨(h.cellAt _ ax).trans (hf os j hl 0 aG),(h.cellAt _ ax).trans (hf os j hl 1 aG),(h.cellAt _ ax).trans (hf os j hl 2 aG)⟩
def UW (S:List Nat) (w0:World) (p b:Nat) (a:rT) (st:af.Store) (t:af.Pt) (R:List aW) (L:List (Nat×Obj)) (os:List af.One) (hs:List Int) (vr:Value) (ov iv:Value) (wr:World):Prop :=
 ∃ v2 j,v2=ov∧iv=vI (j:Nat)∧j≤os.length∧NF S w0 wr (EW v2 (hs.take j)::jU 98 3 vr os.length (os.flatMap sB)::ah p st::(cS a p t++R)) (cN a p b t++L)
theorem Ie {w:Nat} {sl:af.aS} {hs:List Int} (h:NF S w0 W (ah p st::bK p b t::R) L) (hwl:w<t.aj.length) (jN:t.slots[w]?=some sl) (hin:∀ o∈sl.all,∃ y,(o.id,y)∈t.live) (hh:(sl.all.map fun o=>match af.ua t.live o.id with
 | some y=>y.x.h
 | none=>0)=hs) :
 Calls Tryz.prog 17 #[vP b 0,vI w] W fun e w'=>∃ v,e=.returned v∧NF S w0 w' (EW v hs::ah p st::bK p b t::R) L:=by
 obtain ⟨a,ha,hw,h⟩:=cx h
 have hhas:t.has (w:Int)=true:=Kt
 have CH:=Hi (jK (who:=(w:Int)) (c:=true) (a:=a) (t:=t) (p:=p) (L:=(a.rp,cl a.kp 65)::(a.rq,cl a.kq 110)::L) h hhas)
 have Hs:=Hi (fV h)
 have HF:=Hi h
 have h1:=h
 unfold cN iz at h1
 simp only [bQ,bG] at h1
 have F0:=Hi h1
 obtain ⟨os,hos⟩:∃ os,sl.all=os:=⟨_,rfl⟩
 have hol:os.length≤3:=by rw [←hos];unfold af.aS.all;exact Fc (lG _ _) (by simp [af.aS.order])
 rw [hos] at hin hh
 have hhl:hs.length=os.length:=by rw [←hh,Fw]
 obtain ⟨HA,HW,rI,Cn,XY,HH,HOS,HHL⟩:=hi8 ha hw hwl jN hin hh hos hhl
 clear h h1 ha hw hhas hwl jN hin hh hos hhl
 have r:=rl F0.out.mem.rules
 go_enter Tryz.func17,Tryz.ntmps17
 go_wp2_with fail
 clear r
 refine CH.out.mono ?_
 rintro e w1 ⟨rfl,hb1⟩
 have HF1:=Hi (HF.out.later hb1)
 clear hb1 CH F0 HF
 obtain ⟨k,q,pl,sl1,hk,hpl,Hv,hok,g2,-⟩:=kZ (w:=w) HA.out rI.out HF1.out
 obtain rfl:sl=sl1:=by have:=Cn.out;rw [Hv] at this;exact (Option.some.inj this).symm
 unfold dD cN iz at g2
 simp only [bQ,bG] at g2
 have F1:=Hi g2
 have yp:=(F1.out.mem).rV (g:=a.rq) (T:=110) aH HA.out.kq hk ⟨_,Below.refl _ _⟩
 simp only at yp
 have hw1:(w:Int)<(t.aj.length:Int):=by have:=rI.out;omega
 have hw2:(0:Int)≤(w:Int):=ax
 have CA:=Hi (Pd (l:=sl) HOS.out w1)
 unfold oK at CA
 clear hk hpl Hv hok g2
 have r:=rl F1.out.mem.rules
 go_wp2_with fail
 clear r
 refine CA.out.mono ?_
 rintro e w2 ⟨vr,rfl,hown,hb2⟩
 have IA:Hid (UW S w0 p b a st t R L os hs vr (.slice none 0 0) (vI 0) w2):=Hi ⟨_,0,rfl,rfl,pR _,(HF1.out.lQ hb2 hown).lQ (Below.refl _ _) (World.ownsRow_nil _ _ _ _)⟩
 obtain ⟨qr,cr,rfl⟩:=gl hown
 clear hown hb2 CA F1 HF1 yp
 go_wp2_with fail
 go_loopw [5,24] (fun ov iv wr=>UW S w0 p b a st t R L os hs (.slice qr os.length cr) ov iv wr) (fun _ iv _=>os.length - (intOf iv).toNat)
 case atStart=>exact IA.out
 case round =>
  clear IA;obtain ⟨ov,j,rfl,rfl,hjl,hF⟩:=hrel;by_cases hlt:j<os.length
  ·have e1:decide ((j:Int)<(os.length:Int))=true:=aR
   have e2:(j:Int)<(os.length:Int):=ax
   have e3:(0:Int)≤(j:Int):=ax
   obtain ⟨fr,hfr⟩:=hF.pG (r:=jU 98 3 (.slice qr os.length cr) os.length (os.flatMap sB)) (xY _ (dN ..))
   have hrow:=hfr.1
   obtain ⟨g,cap,hg,-⟩:=kX hrow ax
   obtain ⟨rfl,-,rfl⟩:=Value.slice.inj hg
   obtain ⟨o,ho⟩:∃ o,os[j]?=some o:=⟨_,lz hlt⟩
   obtain ⟨c0,c1,c2⟩:=UU hrow ho
   obtain ⟨y,hy⟩:=XY.out o (IQ ho)
   have hhj:hs[j]?=some y.x.h:=by rw [←HH.out,wB,ho];simp only [Option.map_some];rw [Pg Hs.out hy]
   have PO:Ic (hs.take (j+1))=Ic (hs.take j)++[vI y.x.h]:=by rw [List.take_add_one,hhj];simp [Ic]
   have Wi:(hs.take j).length=j:=by rw [fJ,HHL.out];omega
   have hln1:(hs.take (j+1)).length=j+1:=by rw [fJ,HHL.out];omega
   have ox:=Hi hy
   have h3:=hF
   unfold EW at h3
   rw [Wi] at h3
   obtain ⟨xs,hxs⟩:∃ xs,Ic (hs.take j)=xs:=⟨_,rfl⟩
   rw [hxs] at h3 PO
   obtain ⟨ROW,KL⟩:∃ ROW,ROW=jU 98 3 (vL g 0 os.length cr) os.length (os.flatMap sB):=⟨_,rfl⟩
   rw [←KL] at h3
   have h4:=h3
   unfold cN iz at h4
   simp only [bQ,bG] at h4
   have F1:=Hi h4
   have F2:=Hi (h4.alloc (cl #[vU o.id,vU o.to,vU o.born] 98))
   obtain ⟨yu,HTK,HLN1⟩:=ju KL PO hln1
   clear hF hfr hrow hg ho hy hhj PO Wi hln1 h3 h4 hxs KL
   have r:=rl F1.out.mem.rules
   have r2:=rl F2.out.mem.rules
   go_wp2_with fail
   clear r r2
   refine yA 12 aG ?_ rfl
   simp only [List.take_succ_cons,List.take_zero,JD,yY]
   refine Bf (n:=42) [8,9,10,11] [] (fun k9=>match k9 with
    | 0=>some (ov)
    | 1=>some (vP b 0)
    | 2=>some (vP b 0)
    | 3=>some (vP b 12)
    | 4=>some (.map (some a.lb))
    | 5=>some (vP wr.heap.size 0)
    | 6=>some (vU o.id)
    | 7=>some (vP (a.la o.id) 0)
    | 8=>some (.agg (iH y.x))
    | _=>none) ((wr.heap.size,cl #[vU o.id,vU o.to,vU o.born] 98)::(b,cl (jt p a t) 80)::[]) [fun D v x=>NF S w0 x (jU 3 1 ov j xs::ROW::ah p st::(cS a p t++R)) ((wr.heap.size,cl #[vU o.id,vU o.to,vU o.born] 98)::(b,cl (jt p a t) 80)::(a.rp,cl a.kp 65)::(a.rq,cl a.kq 110)::L),
    fun D v x=>NF S w0 x (jU 3 1 ov j xs::ROW::ah p st::(cS a p t++R)) ((wr.heap.size,cl #[vU o.id,vU o.to,vU o.born] 98)::(b,cl (jt p a t) 80)::(a.rp,cl a.kp 65)::(a.rq,cl a.kq 110)::L),
    fun D v x=>v 9=vI y.x.h∧NF S w0 x (jU 3 1 ov j xs::ROW::ah p st::(cS a p t++R)) ((wr.heap.size,cl #[vU o.id,vU o.to,vU o.born] 98)::(b,cl (jt p a t) 80)::(a.rp,cl a.kp 65)::(a.rq,cl a.kq 110)::L),
    fun D v x=>∃ (bs:Nat),v 9=vI y.x.h∧v 10=vL bs 0 1 1∧NF S w0 x (jU 3 1 ov j xs::ROW::ah p st::(cS a p t++R)) ((wr.heap.size,cl #[vU o.id,vU o.to,vU o.born] 98)::(b,cl (jt p a t) 80)::(bs,cl #[vI y.x.h] 3)::((a.rp,cl a.kp 65)::(a.rq,cl a.kq 110)::L)),
    fun D v x=>∃ (bs:Nat) (g2:Nat) (c2:Nat),v 9=vI y.x.h∧v 10=vL bs 0 1 1∧v 11=vL g2 0 (j+1) c2∧NF S w0 x (jU 3 1 (vL g2 0 (j+1) c2) (j+1) (xs++[vI y.x.h])::ROW::ah p st::(cS a p t++R)) ((wr.heap.size,cl #[vU o.id,vU o.to,vU o.born] 98)::(b,cl (jt p a t) 80)::(bs,cl #[vI y.x.h] 3)::((a.rp,cl a.kp 65)::(a.rq,cl a.kq 110)::L))] aI aI aI aI rfl ?_ ?_ ?_ rfl ?_ rfl ?_ ?_
   ·intro p hp D v x h;simp only [gF,Bp,or_false] at hp;rcases hp with rfl|rfl|rfl|rfl|rfl
    ·exact a9112
    ·exact a9112
    ·exact h.2.zi (by intro q hq;simp only [gF,Io,Bp,or_false] at hq ⊢;exact (fun hq=>hq.elim (fun hq=>.inl hq) (fun hq=>.inr (.inl hq))) hq)
    ·obtain ⟨bs,h⟩:=h;exact h.2.2.zi (by intro q hq;simp only [gF,Io,Bp,or_false] at hq ⊢;exact (fun hq=>hq.elim (fun hq=>.inl hq) (fun hq=>.inr (.inl hq))) hq)
    ·obtain ⟨bs,g2,c2,h⟩:=h;exact h.2.2.2.zi (by intro q hq;simp only [gF,Io,Bp,or_false] at hq ⊢;exact (fun hq=>hq.elim (fun hq=>.inl hq) (fun hq=>.inr (.inl hq))) hq)
   ·intro p hp D v x z9 h hb;simp only [gF,Bp,or_false] at hp;rcases hp with rfl|rfl|rfl|rfl|rfl
    ·exact NF.later h hb
    ·exact NF.later h hb
    ·exact ⟨h.1,NF.later h.2 hb⟩
    ·obtain ⟨bs,h⟩:=h;exact ⟨bs,h.1,h.2.1,NF.later h.2.2 hb⟩
    ·obtain ⟨bs,g2,c2,h⟩:=h;exact ⟨bs,g2,c2,h.1,h.2.1,h.2.2.1,NF.later h.2.2.2 hb⟩
   ·intro i p hp D D' v v' x hD hv h
    match i,hp with
    | 0,hp =>
     obtain rfl:=Option.some.inj hp;exact h
    | 1,hp =>
     obtain rfl:=Option.some.inj hp;exact h
    | 2,hp =>
     obtain rfl:=Option.some.inj hp;exact ⟨(hv 1 9 aG rfl).symm.trans h.1,h.2⟩
    | 3,hp =>
     obtain rfl:=Option.some.inj hp;obtain ⟨bs,h⟩:=h;exact ⟨bs,(hv 1 9 aG rfl).symm.trans h.1,(hv 2 10 aG rfl).symm.trans h.2.1,h.2.2⟩
    | 4,hp =>
     obtain rfl:=Option.some.inj hp;obtain ⟨bs,g2,c2,h⟩:=h;exact ⟨bs,g2,c2,(hv 1 9 aG rfl).symm.trans h.1,(hv 2 10 aG rfl).symm.trans h.2.1,(hv 3 11 aG rfl).symm.trans h.2.2.1,h.2.2.2⟩
    | n+5,hp=>simp at hp
   ·intro D v hD;exact F2.out.later (Below.refl _ _).drew
   ·refine ⟨?_,?_,?_,?_,?_,?_,?_,?_,?_,?_,?_,?_,trivial⟩
    ·exact LC
    ·exact LC
    ·refine ja aG rfl rfl ?_;intro v x hM hF;have e1:v 1=vP b 0:=hF 1 _ aG rfl;simp only [aq,Act.put,aX,jr,aY,e1];exact Dq
    ·refine ja aG rfl rfl ?_;intro v x hM hF;have e2:v 2=vP b 0:=hF 2 _ aG rfl;exact a975
    ·refine ja aG rfl rfl ?_;intro v x hM hF;have e3:v 3=vP b 12:=hF 3 _ aG rfl;have yy:=rl hM.ei;simp only [aq,Act.put,aX,jr,aY,e3];exact Dq
    ·exact LC
    ·refine ja aG rfl rfl ?_;intro v x hM hF;have e5:v 5=vP wr.heap.size 0:=hF 5 _ aG rfl;have yy:=rl hM.ei;simp only [aq,Act.put,aX,jr,aY,e5];exact Dq
    ·refine zo aG rfl rfl ?_;intro m p hm D v x h hF;have e4:v 4=.map (some a.lb):=hF 4 _ aG rfl;have e6:v 6=vU o.id:=hF 6 _ aG rfl;have lk:∀ z:Later x,(Instr.lookup 78 (.map (some a.lb)) (vU (o.id:Nat)) false).run Tryz.prog z.world=.ok (vP (a.la o.id) 0) z.world:=by
      match m,hm with
      | 0,hm =>
       obtain rfl:=Option.some.inj hm
       skip
       have h0:=h
       exact ya
      | 1,hm =>
       obtain rfl:=Option.some.inj hm
       skip
       have h0:=h
       exact ya
      | 2,hm =>
       obtain rfl:=Option.some.inj hm
       skip
       have h0:=h.2
       exact ya
      | 3,hm =>
       obtain rfl:=Option.some.inj hm;obtain ⟨bs,h⟩:=h;have h0:=h.2.2;exact ya
      | 4,hm =>
       obtain rfl:=Option.some.inj hm;obtain ⟨bs,g2,c2,h⟩:=h;have h0:=h.2.2.2;exact ya
      | n+5,hm=>simp at hm
     simp only [aq,Act.put,aX,jr,aY,e4,e6];exact Dq
    ·refine BZ 0 (.agg (iH y.x)) rfl aG rfl rfl rfl (fun u hu=>by cases hu;rfl) ?_;intro D v x hS hM hW hF;have e7:v 7=vP (a.la o.id) 0:=hF 7 _ aG rfl;have h0:=hS;clear hS hM hF hW;refine ⟨fun z9=>NF S w0 z9 (jU 3 1 ov j xs::ROW::ah p st::(cS a p t++R)) ((wr.heap.size,cl #[vU o.id,vU o.to,vU o.born] 98)::(b,cl (jt p a t) 80)::(a.rp,cl a.kp 65)::(a.rq,cl a.kq 110)::L),?_,?_⟩
     ·intro z9 h;exact h
     ·simp only [aq,Act.put,aX,jr,aY,e7];unfold Oper.wp;go_simp;refine (h0.ofSess (by have hx:=DL R (xY (bw a.g t.guard t.aj.length) (xY (dz a.mb (bU t.begun)) (xY (dz a.lb (cu a.la t.live)) (MJ (List.zipWith dF a.pa (t.aO.zip t.slots)) (mG (f:=fun x=>dA p (a.la x.1) x.2) ox.out)))));exact xY _ (xY _ (xY _ hx)))).mono ?_;rintro e z9 ⟨rfl,h⟩;exact ⟨rfl,h⟩
    ·refine lU 1 rfl aG rfl rfl rfl rfl ?_;intro D v x hS hM hW hF;have e8:v 8=.agg (iH y.x):=hF 8 _ aG rfl;have h0:=hS;clear hS hF hW;have fh:=fun w=>Un y.x.h y.x.send y.x.recv y.x.version w;refine ⟨fun u9 z9=>vI y.x.h=u9∧Below x.heap.size x z9,?_,?_⟩
     ·rintro u9 z9 ⟨rfl,yN⟩;exact ⟨if_pos rfl,NF.later h0 yN⟩
     ·generalize hA9:aq _ _ _ _=A9;refine B6 (vI y.x.h) rfl (fun _ yN=>⟨rfl,yN⟩) ?_;subst hA9;have yy:=rl hM.ei;exact aap
    ·refine lU 2 rfl aG rfl rfl rfl rfl ?_;intro D v x hS hM hW hF;have e9:=hS.1;have h0:=hS.2;clear hS hM hF hW;refine ⟨fun u9 z9=>∃ (bs:Nat),vL bs 0 1 1=u9∧NF S w0 z9 (jU 3 1 ov j xs::ROW::ah p st::(cS a p t++R)) ((wr.heap.size,cl #[vU o.id,vU o.to,vU o.born] 98)::(b,cl (jt p a t) 80)::(bs,cl #[vI y.x.h] 3)::((a.rp,cl a.kp 65)::(a.rq,cl a.kq 110)::L)),?_,?_⟩
     ·rintro u9 z9 ⟨bs,rfl,h⟩;exact ⟨bs,(if_neg aG).trans e9,if_pos rfl,h⟩
     ·simp only [aq,Act.put,aX,jr,aY,e9];unfold Oper.wp;go_simp;exact (h0.alloc (cl #[vI y.x.h] 3)).perm K3
    ·refine lU 3 rfl aG rfl rfl rfl rfl ?_;intro D v x hS hM hW hF;have e0:v 0=ov:=hF 0 _ aG rfl;obtain ⟨bs,hS⟩:=hS;have e9:=hS.1;have e10:=hS.2.1;have h0:=hS.2.2;clear hS hM hF hW;refine ⟨fun u9 z9=>∃ (g2:Nat) (c2:Nat),vL g2 0 (j+1) c2=u9∧NF S w0 z9 (jU 3 1 (vL g2 0 (j+1) c2) (j+1) (xs++[vI y.x.h])::ROW::ah p st::(cS a p t++R)) ((wr.heap.size,cl #[vU o.id,vU o.to,vU o.born] 98)::(b,cl (jt p a t) 80)::(bs,cl #[vI y.x.h] 3)::((a.rp,cl a.kp 65)::(a.rq,cl a.kq 110)::L)),?_,?_⟩
     ·rintro u9 z9 ⟨g2,c2,rfl,h⟩;exact ⟨bs,g2,c2,(if_neg aG).trans e9,(if_neg aG).trans e10,if_pos rfl,h⟩
     ·simp only [aq,Act.put,aX,jr,aY,e0,e10]
      obtain ⟨f9,⟨bE,-⟩,-⟩:=h0.tell
      have hbs9:=h0.lD (x:=(bs,cl #[vI y.x.h] 3)) aH
      obtain ⟨i9,mE,hz0,hz1,hz2⟩:=info_parts UT
      refine wp_append_lies _ _ _ _ rfl 0 3 i9 (vI 0) 1 8 Tryz.underlying41 mE hz0 hz1 hz2 rfl aG _ _ _ rfl bE ⟨bs,0,none⟩ 1 1 [vI y.x.h] rfl rfl ?_ ?_ aG ?_ ?_ (pR _) _ rfl ?_
      case refine_1 =>
       intro k9 u9 YB
       match k9,YB with
       | 0,YB=>simp at YB;subst YB;simp [Addr.add,World.cell?,hbs9]
      case refine_2=>intro u9 hu9;simp at hu9;subst hu9;rfl
      case refine_3=>unfold maxLen;omega
      case refine_4=>omega
      case refine_5 =>
       intro g9 c9 z9 ho9 Zk hl9 hlt9;exact ⟨_,rfl,g9,c9,rfl,h0.Mu ho9 Zk hl9⟩
   ·intro D v x hF hD h;obtain ⟨bs,g2,c2,h⟩:=h;have e9:=h.1;have e10:=h.2.1;have e11:=h.2.2.1;have F3:=Hi h.2.2.2;clear hF hD h;simp only [aq,Act.put,aX,jr,aY,bF,Nat.reduceAdd,e11];clear e9 e10 e11;clear F2 F1;have g1:=(F3.out.sub (L':=(b,cl (jt p a t) 80)::(a.rp,cl a.kp 65)::(a.rq,cl a.kq 110)::L) (by first|exact List.Sublist.cons _ (List.Sublist.cons_cons _ (zq _ _))|simp))
    have HR:Hid (UW S w0 p b a st t R L os hs (vL g 0 os.length cr) (vL g2 0 (j+1) c2) (vI ((j:Int)+1)) x):=Hi ⟨_,j+1,rfl,ym,ax,by
     unfold EW;rw [HLN1.out,HTK.out,←yu.out];exact g1⟩
    clear g1 F3;unfold Oper.wp;go_simp;exact Hz
  ·obtain rfl:j=os.length:=ax;have e1:decide ((os.length:Int)<(os.length:Int))=false:=aH;rw [BD (by rw [HHL.out];omega)] at hF;have nB:=Hi (vH (A:=[EW _ hs]) HA.out HW.out ((hF.bP (List.Perm.swap _ _ _)).lA (A:=[_])));clear hF;go_wp2_with fail;go_ret;exact ⟨_,rfl,nB.out⟩
end
end Go.Proofs.N0
namespace af
open Go.Proofs.N0
def EX (st:Store) (c:Core) (w:Nat) (slot:Int) (now:Nat) (d0 d1 d2:Int):Option (Store×Core×bJ):=match c.aj[w]? with
 | none=>none
 | some pr =>
  let stamp:=max now (c.stamp+1)
  let r:=Am st c.me pr (JQ c.ak c.offer slot) stamp d0 d1 d2
  let c2:Core:={ c with begun:=(c.begun.filter fun (x:Nat×pW)=>!decide (x.2.peer=(w:Int)))++[(c.ak,(⟨(w:Int),r.2.2.1,now⟩:pW))],stamp:=stamp,ak:=c.ak+1}
  Ky (decide (r.2.2.2=0)&&c.ok&&c2.ok&&lS slot&&lS d0&&lS d1&&lS d2&&short r.2.1) (r.1,c2,r.2.1)
def xp (st:Store) (c:Core) (w:Nat) (text:List UInt8):Option (Store×Core×bJ):=match c.slots[w]? with
 | none=>none
 | some sl=>match ua c.live sl.cur.id with
  | none=>none
  | some y =>
   let f:=kg st y.out
   let r:=om f.1 f.2.1 y.sent.toNat y.x.h text
   let c2:Core:={ c with live:=lN c.live sl.cur.id {y with sent:=y.sent+1}}
   let m:=iM sl.cur.to y.out.aF.toNat y.sent.toNat r.2.1
   Ky (decide (f.2.2=0)&&decide (r.2.2=0)&&decide (0≤y.sent)&&decide (y.sent<256)&&decide (0≤y.out.aF)&&decide (y.out.aF<1000000)&&decide (text.length≤1000)&&decide (sl.cur.to<18446744073709551616)&&decide (r.2.1<9223372036854775808)&&decide (w<c.aj.length)&&short m) (r.1,c2,m)
def EY (st:Store) (c:Core) (w:Nat):Option (Store×Core):=match c.slots[w]? with
 | none=>none
 | some sl=>match ua c.live sl.cur.id with
  | none=>none
  | some y =>
   let r:=iu st y.out
   Ky (decide (r.2.2=0)&&decide (w<c.aj.length)&&Mn {y with out:=r.2.1,sent:=0}) (r.1,{c with live:=lN c.live sl.cur.id {y with out:=r.2.1,sent:=0}})
def xq (c:Core) (w:Nat):Bool:=match c.slots[w]? with
 | none=>false
 | some sl=>decide (w<c.aj.length)&&(c.live.all fun x=>x.1 != sl.cur.id)&&decide (sl.cur.id<18446744073709551616)
def EZ (c:Core) (now:Nat):Option (Core×Nat) :=
 let r:=JV (c.pt 8 1) now
 Ky (c.ok&&decide (now<18446744073709551616)) ({c with slots:=r.1.slots,begun:=r.1.begun,live:=r.1.live},r.2)
def E0 (c:Core) (w:Nat):Option Nat:=Ky (decide (w<c.aj.length)&&c.ok) (c.begun.filter fun (x:Nat×pW)=>decide (x.2.peer=(w:Int))).length
def dM (c:Core) (w:Nat):Option (List Int):=match c.slots[w]? with
 | none=>none
 | some sl=>Ky (decide (w<c.aj.length)&&sl.all.all fun o=>(ua c.live o.id).isSome) (sl.all.map fun o=>match ua c.live o.id with
  | some y=>y.x.h
  | none=>0)
end af
namespace Go.Proofs.N0
open Go.RowKit Go.Maps Go.ChangeMaps
variable {text:List UInt8} {n:Nat}
section
variable {S:List Nat} {w0 W:World} {p b:Nat} {L:List (Nat×Obj)} {R:List aW} {st bO nu:af.Store} {c c1:af.Core} {m:af.bJ} {size:Int} {ms now w:Nat} {d0 d1 d2 slot:Int} {t:af.Pt}
theorem UX {who:Int} (h:NF S w0 W (ah p st::bK p b t::R) L) (hhas:t.has who=false) :
 Calls Tryz.prog 11 #[vP b 0,vI who,vI slot,vU now,.agg #[vI d0,vI d1,vI d2]] W fun e w'=>e=.returned (.tuple #[.slice none 0 0,vI 5])∧NF S w0 w' (ah p st::bK p b t::R) L:=by
 obtain ⟨a,ha,hw,h⟩:=cx h
 have h1:=h.alloc (cl #[vI d0,vI d1,vI d2] 32)
 have CH:=Hi (jK (who:=who) (c:=false) (a:=a) (t:=t) (p:=p) (L:=(a.rp,cl a.kp 65)::(a.rq,cl a.kq 110)::L) (h1.sub (zq _ _)) hhas)
 have HH:=Hi (h1.sub (zq _ _))
 unfold cN iz at h1
 simp only [bQ,bG] at h1
 have F0:=Hi h1
 obtain ⟨HA,HW⟩:=hi2 ha hw
 clear h h1 ha hw hhas
 have r:=rl F0.out.mem.rules
 go_enter Tryz.func11,Tryz.ntmps11
 go_wp2_with fail
 clear r
 refine CH.out.mono ?_
 rintro e w1 ⟨rfl,hb1⟩
 have nB:=Hi (fP HA.out HW.out (HH.out.later hb1))
 clear hb1 CH F0 HH
 go_wp2_with fail
 go_ret2
 exact ⟨rfl,nB.out⟩
theorem KM (cP:af.EX st c w slot now d0 d1 d2=some (bO,c1,m)) (nY:ms<1000000) (cT:now<18446744073709551616) (h:NF S w0 W (ah p st::bK p b (c.pt size ms)::R) L) :
 Calls Tryz.prog 11 #[vP b 0,vI w,vI slot,vU now,.agg #[vI d0,vI d1,vI d2]] W fun e w'=>∃ v,e=.returned (.tuple #[v,vI 0])∧NF S w0 w' (bA v (af.bM m ms size)::ah p bO::bK p b (c1.pt size (ms+1))::R) L:=by
 unfold af.EX at cP
 split at cP
 ·cases cP
 ·rename_i pr sr;simp only at cP;obtain ⟨hb,hx⟩:=af.eJ cP;obtain ⟨⟨s1,mx,q,e1⟩,hr⟩:∃ r,af.Am st c.me pr (af.JQ c.ak c.offer slot) (max now (c.stamp+1)) d0 d1 d2=r:=⟨_,rfl⟩
  rw [hr] at hb hx;cases hx;simp only [gi,decide_eq_true_eq] at hb;obtain ⟨⟨⟨⟨⟨⟨⟨b1,b2⟩,b3⟩,b4⟩,b5⟩,b6⟩,b7⟩,b8⟩:=hb;subst b1;have hok:=af.Core.td b2;obtain ⟨a,ha9,hwf,-⟩:=cx h;have hs:=hwf.size;have hwf2:=(af.Core.td b3).wf size (ms+1) hs.1 hs.2 ax;have e3:∀ (c2:af.Core),({c2.pt size ms with messages:=(ms+1) % 18446744073709551616}:af.Pt)=c2.pt size (ms+1):=fun c2=>by rw [vJ nY];rfl
  exact T9 (t:=c.pt size ms) h (List.getElem?_eq_some_iff.1 sr).1 sr (af.cO b4) cT hok.stamp hok.ak hok.begun ⟨af.cO b5,af.cO b6,af.cO b7⟩ rfl hr (Prod.ext (e3 {c with begun:=(c.begun.filter fun (x:Nat×af.pW)=>!decide (x.2.peer=(w:Int)))++[(c.ak,(⟨(w:Int),q,now⟩:af.pW))],stamp:=max now (c.stamp+1),ak:=c.ak+1}) rfl) hwf2
theorem C9 (cP:af.xp st c w text=some (bO,c1,m)) (nY:ms<1000000) (h:NF S w0 W (ah p st::bK p b (c.pt size ms)::R) L) :
 Calls Tryz.prog 15 #[vP b 0,vI w,vS text] W fun e w'=>∃ v,e=.returned (.tuple #[v,vI 0])∧NF S w0 w' (bA v (af.bM m ms size)::ah p bO::bK p b (c1.pt size (ms+1))::R) L:=by
 unfold af.xp at cP
 split at cP
 ·cases cP
 ·rename_i sl jN;split at cP
  ·cases cP
  ·rename_i y hy
   simp only at cP
   obtain ⟨hb,hx⟩:=af.eJ cP
   obtain ⟨⟨s1,k,e1⟩,hf⟩:∃ r,af.kg st y.out=r:=⟨_,rfl⟩
   rw [hf] at hb hx
   simp only at hb hx
   obtain ⟨⟨s2,cc,e2⟩,hr⟩:∃ r,af.om s1 k y.sent.toNat y.x.h text=r:=⟨_,rfl⟩
   rw [hr] at hb hx
   cases hx
   simp only [gi,decide_eq_true_eq] at hb
   obtain ⟨⟨⟨⟨⟨⟨⟨⟨⟨⟨b1,b2⟩,b3⟩,b4⟩,b5⟩,b6⟩,b7⟩,b8⟩,b9⟩,b10⟩,b11⟩:=hb
   subst b1 b2
   have e3:∀ (c2:af.Core),({c2.pt size ms with messages:=((c2.pt size ms).messages+1) % 18446744073709551616}:af.Pt)=c2.pt size (ms+1):=fun c2=>by show af.Pt.mk _ _ _ _ _ ((ms+1) % 18446744073709551616) _ _ _ _ _ _=_;rw [vJ nY];rfl
   have:=Yu (t:=c.pt size ms) (ep:=y.out.aF.toNat) (mm:=y.sent.toNat) h b10 jN (af.nQ hy) ax ax ax ax b7 b8 b9 hf hr rfl
   have e4:=e3 {c with live:=af.lN c.live sl.cur.id {y with sent:=y.sent+1}}
   refine this.mono ?_
   rintro e w' ⟨v,rfl,g⟩
   refine ⟨v,rfl,?_⟩
   rw [←e4];exact g
theorem Da (cP:af.xq c w=true) (h:NF S w0 W (ah p st::bK p b (c.pt size ms)::R) L) :
 Calls Tryz.prog 15 #[vP b 0,vI w,vS text] W fun e w'=>e=.returned (.tuple #[.slice none 0 0,vI 7])∧NF S w0 w' (ah p st::bK p b (c.pt size ms)::R) L:=by
 unfold af.xq at cP
 split at cP
 ·cases cP
 ·rename_i sl jN;simp only [gi,decide_eq_true_eq,Bq,bne_iff_ne,ne_eq] at cP;exact Yt (t:=c.pt size ms) h cP.1.1 jN cP.1.2 cP.2
theorem Ph (cP:af.EY st c w=some (bO,c1)) (h:NF S w0 W (ah p st::bK p b (c.pt size ms)::R) L) :
 Calls Tryz.prog 14 #[vP b 0,vI w] W fun e w'=>e=.returned (vI 0)∧NF S w0 w' (ah p bO::bK p b (c1.pt size ms)::R) L:=by
 unfold af.EY at cP
 split at cP
 ·cases cP
 ·rename_i sl jN;split at cP
  ·cases cP
  ·rename_i y hy;simp only at cP;obtain ⟨hb,hx⟩:=af.eJ cP;obtain ⟨⟨s1,k,e1⟩,hf⟩:∃ r,af.iu st y.out=r:=⟨_,rfl⟩
   rw [hf] at hb hx;cases hx;simp only [gi,decide_eq_true_eq] at hb;obtain ⟨⟨b1,b2⟩,b3⟩:=hb;subst b1;exact Yr (t:=c.pt size ms) h b2 jN (af.nQ hy) hf (af.Hw b3)
theorem Pj (cP:af.E0 c w=some n) (h:NF S w0 W (ah p st::bK p b (c.pt size ms)::R) L) :
 Calls Tryz.prog 20 #[vP b 0,vI w] W fun e w'=>e=.returned (.tuple #[vI n,vI 0,vI 0])∧NF S w0 w' (ah p st::bK p b (c.pt size ms)::R) L:=by
 unfold af.E0 at cP
 obtain ⟨hb,hx⟩:=af.eJ cP
 simp only [gi,decide_eq_true_eq] at hb
 exact Yy (t:=c.pt size ms) (pl:=af.bN) h hb.1 (af.Core.td hb.2).begun hx (by
  show (List.replicate c.aj.length af.bN)[w]?=_
  rw [List.getElem?_replicate,if_pos hb.1])
theorem iP {hs:List Int} (cP:af.dM c w=some hs) (h:NF S w0 W (ah p st::bK p b (c.pt size ms)::R) L) :
 Calls Tryz.prog 17 #[vP b 0,vI w] W fun e w'=>∃ v,e=.returned v∧NF S w0 w' (EW v hs::ah p st::bK p b (c.pt size ms)::R) L:=by
 unfold af.dM at cP
 split at cP
 ·cases cP
 ·rename_i sl jN;obtain ⟨hb,hx⟩:=af.eJ cP;simp only [gi,decide_eq_true_eq,Bq] at hb;exact Ie (t:=c.pt size ms) h hb.1 jN (fun o ho=>by
   obtain ⟨y,hy⟩:=Option.isSome_iff_exists.1 (hb.2 o ho);exact ⟨y,af.nQ hy⟩) hx
theorem Pk (cP:af.EZ c now=some (c1,n)) (h:NF S w0 W (ah p st::bK p b (c.pt size ms)::R) L) :
 Calls Tryz.prog 22 #[vP b 0,vU now] W fun e w'=>e=.returned (vI n)∧NF S w0 w' (ah p st::bK p b (c1.pt size ms)::R) L:=by
 unfold af.EZ at cP
 obtain ⟨hb,hx⟩:=af.eJ cP
 cases hx
 simp only [gi,decide_eq_true_eq] at hb
 have hok:=af.Core.td hb.1
 refine Yw (t:=c.pt size ms) h hb.2 hok.begun hok.live ?_
 refine Prod.ext ?_ rfl
 have:(List.replicate c.aj.length af.bN).map (fun (x:af.aP)=>x.expire now)=List.replicate c.aj.length af.bN:=by rw [List.map_replicate];rfl
 show af.Pt.mk _ _ _ _ _ _ _ _ ((List.replicate c.aj.length af.bN).map (fun (x:af.aP)=>x.expire now)) _ _ _=_
 rw [this]
 rfl
end
end Go.Proofs.N0
namespace af
def newP (me:Pair) (aj:List dG) (offer:List UInt8) (size:Int):Pt:=⟨me,aj,offer,size,1,1,0,List.replicate 8 none,List.replicate aj.length bN,List.replicate aj.length eL,[],[]⟩
end af
namespace Go.Proofs.N0
open Go.RowKit Go.Maps Go.ChangeMaps
variable {n:Nat} {cs:Array Value}
theorem UY:(Tryz.prog.info? 65).map (fun i=>(i.zero,i.size,i.bytes))=some (some (.agg #[vI 0,vI 0,vI 0,vI 0]),4,32):=aI
theorem infoPP:(Tryz.prog.info? 110).map (fun i=>(i.zero,i.size,i.bytes))=some (some (.pointer none),1,8):=aI
section
variable {S:List Nat} {w0 W w':World} {p b:Nat} {L:List (Nat×Obj)} {R:List aW} {t:af.Pt} {st bO nu:af.Store} {a:rT}
theorem NF.UZ {e:TypeId} {size:Nat} {v:Value} {xs:List Value} (h:NF S w0 W (jU e size v n xs::R) L) (hn:0<n):∃ g cap cur,v=vL g 0 n cap∧n≤cap∧cap≤maxLen∧cur.toList.take (n*size)=xs∧NF S w0 W R ((g,.cells cur e (0,0))::L):=by
 obtain ⟨S1,⟨⟨Z,hz,hS⟩,-,-⟩,h3⟩:=NF.split (A:=[jU e size v n xs]) h;obtain ⟨a,Z2,rfl,e1,e2⟩:=List.map_eq_cons_iff.1 hz.rs;obtain rfl:=List.map_eq_nil_iff.1 e2;have ha:=hz.res a (dN ..);rw [e1] at ha;obtain ⟨⟨_,hx⟩,ha2⟩:=ha;rcases hx with ⟨_,h0⟩|⟨g,cap,cur,rfl,_,hb,hc1,hc2,hc3,hc4⟩
 ·omega
 ·refine ⟨g,cap,cur,rfl,hc1,hc2,hc4,?_⟩;refine h3 W [] [(g,.cells cur e (0,0))] ⟨⟨[],⟨rfl,fun z hz=>absurd hz aH,fun x hx=>?_,aH⟩,fun i hi=>absurd hi aH⟩,fun x hx=>?_,az.refl _ _⟩
  ·rw [rZ] at hx;subst hx;exact hb
  ·rw [rZ] at hx;subst hx;exact hS g (by simp [gG,ha2,Value.ownBlock])
theorem NF.YC (h:NF S w0 W R L):Calls Tryz.prog 53 #[vI 4,vI 4096] W fun e w'=>∃ q,e=.returned (.tuple #[vP q 0,vI 0])∧NF S w0 w' (dB q af.bN::R) L:=by refine (Oz (slots:=4) (room:=4096) W aG aG aG aG).mono ?_;rintro e w' ⟨q,S1,rfl,hq,hS,hb⟩;exact ⟨q,rfl,h.give (r:=dB q af.bN) hb hq hq.nodup hS⟩
theorem NF.U0 (h:NF S w0 W R L):NF S w0 (W.alloc (.map #[] 0)) (dz W.heap.size []::R) L :=
 h.give (r:=dz W.heap.size []) (F:=[W.heap.size]) ((Below.refl _ _).alloc (cC _) _) ⟨rfl,⟨aH,fun x hx=>absurd hx aH⟩,.map [],World.ownsMap_made W Tryz.prog 31 cK,bq.start⟩ aH (fun i hi=>by rw [rZ] at hi;omega)
theorem Pm {g c:Nat} {l:List af.dG} (hb:W.heap[g]?=some (cl cs 65)) (hp:l.flatMap eA <+: cs.toList) (hn:l.length=n) (h1:1≤n) (h8:n≤8) :
 Calls Tryz.prog 52 #[vL g 0 n c] W fun e w'=>∃ v,e=.returned v∧w'.ownsRow W.heap.size 65 4 v n (l.flatMap eA)∧Below W.heap.size W w':=by
 obtain ⟨i9,mE,hz0,hz1,hz2⟩:=info_parts UY
 have hlt:=lt_of_block hb
 have hb2:(W.alloc (cl #[] 65)).heap[g]?=some (cl cs 65):=(((Below.refl _ W).alloc (cC _) _).block _ hlt).trans hb
 have hlen:(l.flatMap eA).length=n*4:=by
  rw [←hn];clear hp hn
  induction l with
  | nil=>rfl
  | cons q l ih=>rw [tB,E5,ih,yQ];show 4+l.length*4=_;omega
 obtain ⟨HP,Bx,HL⟩:=ju hp hb2 hlen
 have hown:=World.ownsRow_made (base:=W.heap.size) (e:=65) (size:=4) W #[] 0 (cC _) (pR _) rfl
 have ZN:∀ w,(binOp .eql 71 (vL g 0 n c) (.slice none 0 0)).run Tryz.prog w=.ok (.bool false) w:=fun w=>aI
 clear hb hp hn hb2 hlen
 go_enter Tryz.func52,Tryz.ntmps52
 go_wp2_with (at_builtin;refine wpList_append_own _ rfl _ _ 71 rfl W.heap.size 65 i9 (.agg #[vI 0,vI 0,vI 0,vI 0]) 4 32 Tryz.underlying71 mE hz0 hz1 hz2 rfl aG _ _ _ rfl hown ⟨g,0,none⟩ n c (l.flatMap eA) rfl HL.out ?c1 ?c2 ?c3 ?c4 ?c5 ?_)
 case c1 =>
  intro j u hj
  have:=lM HP.out hj
  have h2:cs[j]?=some u:=by rw [←tV];exact this
  have h3:(⟨g,0,none⟩:Addr).add j=⟨g,j,none⟩:=by unfold Addr.add;split<;>simp_all
  rw [h3]
  simp [World.cell?,Bx.out,h2]
 case c2 =>
  intro u hu;obtain ⟨q,_,hq⟩:=List.mem_flatMap.1 hu;simp only [eA,gF,Bp,or_false] at hq;rcases hq with rfl|rfl|rfl|rfl<;>rfl
 case c3=>unfold maxLen;omega
 case c4=>omega
 case c5=>simp
 intro v' w3 hown' hgrow' _
 have HF:Hid (w3.ownsRow W.heap.size 65 4 v' n (l.flatMap eA)∧Below W.heap.size W w3):=Hi ⟨by simpa using hown',((Below.refl _ W).alloc (cC _) _).grown hgrow' aH (fun k hk=>by simp [Value.ownBlock] at hk;omega)⟩
 clear hown' hgrow' hown mE hz0 hz1 hz2
 go_wp2_with fail
 go_ret
 exact ⟨_,rfl,HF.out⟩
abbrev eP:af.aP×af.aS:=(af.bN,af.eL)
theorem peersN {pa:List Nat} (h:pa.length=n):List.zipWith dF pa ((List.replicate n af.bN).zip (List.replicate n af.eL))=pa.map fun k=>dF k eP:=by
 subst h
 induction pa with
 | nil=>rfl
 | cons k pa ih=>simp only [yQ,List.replicate_succ,List.zip_cons_cons,List.zipWith_cons_cons,jQ,ih]
theorem YD:af.bN.Ok:=⟨aG,aG,aG,aG,by simp [af.bN],fun m hm=>absurd hm (by simp [af.bN])⟩
theorem NF.peerI {k q:Nat} {sl:af.aS} {pl:af.aP} (hok:pl.Ok) (h:NF S w0 W (dB q pl::R) ((k,cl (dD q sl) 109)::L)):NF S w0 W (dF k (pl,sl)::R) L :=
 NF.Vr (r:=fun q=>wj pl.Ok (comp [dB q pl] [(k,cl (dD q sl) 109)])) q (NF.Bu hok (NF.shut h))
def KN (pa:List Nat):List Value:=pa.map fun k=>Value.pointer (some ⟨k,0,none⟩)
def BM (p g rp cp mb lb:Nat) (me:af.Pair) (n:Nat) (offer:List UInt8) (size:Int) (v:Value):Array Value:=#[vP p 0,vI me.dh,vI me.cD,vL rp 0 n cp,vS offer,vI size,vU 1,vU 1,vU 0,vP g 0,v,.map (some mb),.map (some lb)]
def NewR (S:List Nat) (w0:World) (R:List aW) (L:List (Nat×Obj)) (b p g rp cp mb lb:Nat) (me:af.Pair) (n:Nat) (offer:List UInt8) (size:Int) (iv:Value) (wr:World):Prop :=
 ∃ j pa v,iv=vI (j:Nat)∧j≤n∧pa.length=j∧NF S w0 wr ((pa.map fun k=>dF k eP)++(jU 110 1 v j (KN pa)::R)) ((b,cl (BM p g rp cp mb lb me n offer size v) 80)::L)
theorem U1 {me z:af.Pair} {aj:List af.dG} {offer:List UInt8} {size:Int} {g0 c0:Nat} (h:NF S w0 W (ah p st::R) ((g0,cl cs 65)::L)) (hp:aj.flatMap eA <+: cs.toList) (hpub:af.dX st me=(bO,.ok z)) (hme:af.Int64 me.dh∧af.Int64 me.cD) (hpw:∀ q∈aj,af.Int64 q.jo.dh∧af.Int64 q.jo.cD∧af.Int64 q.p0∧af.Int64 q.p1) (hn:aj.length=n) (h1:1≤n) (h8:n≤8) (hoff:af.cL offer=true) (hol:offer.length≤16) (hs1:8≤size) (hs2:size≤1000) :
 Calls Tryz.prog 26 #[vP p 0,.agg #[vI me.dh,vI me.cD,vL g0 0 n c0,vS offer,vI size]] W fun e w'=>∃ b,e=.returned (.tuple #[vP b 0,vI 0])∧NF S w0 w' (ah p bO::bK p b (af.newP me aj offer size)::R) ((g0,cl cs 65)::L):=by
 have F0:=Hi (h.alloc (cl #[vI me.dh,vI me.cD,vL g0 0 n c0,vS offer,vI size] 73))
 have CP:=Hi (F0.out.gL (E:=.returned (.tuple #[.agg #[vI z.dh,vI z.cD],vI 0])) (st':=bO) fun S1 hs=>(lJ hs hme.1 hme.2 hpub).mono fun e w' h=>h)
 obtain ⟨HP,HPW,HN,uu,HOFF,HOL⟩:=Vn hp hpw hn hme hoff hol
 have e8:decide (size<8)=false:=aR
 have e9:decide ((1000:Int)<size)=false:=aR
 clear h hp hpub hme hpw hn hoff hol
 have r:=rl F0.out.mem.rules
 go_enter Tryz.func26,Tryz.ntmps26
 go_wp2_with fail
 clear r
 refine CP.out.mono ?_
 rintro e w1 ⟨rfl,g1⟩
 have F1:=Hi (g1.alloc (cl #[vI z.dh,vI z.cD] 62))
 have CG:=Hi (F1.out.gNew (n:=n) h8)
 clear g1 CP F0
 have r:=rl F1.out.mem.rules
 go_wp2_with fail
 clear r
 refine CG.out.mono ?_
 rintro e w2 ⟨g,rfl,g2⟩
 have F2:=Hi g2
 have CO:=Hi (gY (s:=⟨offer.toArray⟩) (l:=offer) (b:=true) aH HOFF.out w2 (by have:=HOL.out;simp [ByteArray.size,maxLen];omega))
 clear g2 CG F1
 have r:=rl F2.out.mem.rules
 go_wp2_with fail
 refine CO.out.mono ?_
 rintro e w3 ⟨rfl,rfl⟩
 have CC:=Hi (Pm (c:=c0) (F2.out.lD (x:=(g0,cl cs 65)) aH) HP.out HN.out h1 h8)
 clear CO
 go_wp2_with fail
 clear r
 refine CC.out.mono ?_
 rintro e w3 ⟨v,rfl,hown,hb3⟩
 obtain ⟨rp,cp,kp,rfl,hc1,hc2,hc3,g3⟩:=(F2.out.lQ hb3 hown).UZ ax
 have F3:=Hi g3
 have g4:=NF.ai (B:=[_,_]) g3 2 (vL rp 0 n cp)
 simp only [aX,aY,jr,bQ,bG] at g4
 have F4:=Hi g4
 have F5:=Hi ((g4.U0.U0).alloc (cl (BM p g rp cp w3.heap.size (w3.heap.size+1) me n offer size (.slice none 0 0)) 80))
 unfold BM at F5
 simp only [World.size_setCell,World.size_alloc] at F5
 obtain ⟨HC1,Xz,Ze⟩:=ju hc1 hc2 hc3
 clear hown hb3 CC F2 hc1 hc2 hc3 g3 g4
 have r:=rl F3.out.mem.rules
 have r4:=rl F4.out.mem.rules
 have r5:=rl F5.out.mem.rules
 have hmm:=@run_makeMap Tryz.prog
 go_wp2_with fail
 clear r r4 r5 F3 F4
 obtain ⟨RR,pH⟩:∃ RR,RR=dz (w3.heap.size+1) []::dz w3.heap.size []::bw g (List.replicate 8 none) n::ah p bO::R:=⟨_,rfl⟩
 have g5:=F5.out.sub (List.Sublist.cons_cons _ (List.Sublist.cons_cons _ (List.Sublist.cons _ (List.Sublist.cons _ (List.Sublist.refl _)))))
 rw [←pH] at g5
 have IA:=Hi (show NewR S w0 RR ((rp,cl kp 65)::(g0,cl cs 65)::L) (w3.heap.size+1+1) p g rp cp w3.heap.size (w3.heap.size+1) me n offer size (vI 0) _ from ⟨0,[],.slice none 0 0,rfl,pR _,rfl,g5.lQ (Below.refl _ _) (World.ownsRow_nil _ _ _ _)⟩)
 have uw:=Hi pH
 clear g5 F5 pH
 go_loopw [63] (fun iv wr=>NewR S w0 RR ((rp,cl kp 65)::(g0,cl cs 65)::L) (w3.heap.size+1+1) p g rp cp w3.heap.size (w3.heap.size+1) me n offer size iv wr) (fun iv _=>n - (intOf iv).toNat)
 case atStart=>exact IA.out
 case round =>
  clear IA;obtain ⟨j,pa,v,rfl,hjn,hpa,hF⟩:=hrel;by_cases hlt:j<n
  ·have e1:decide ((j:Int)<(n:Int))=true:=aR
   have CN:=Hi hF.YC
   clear hF
   go_wp2_with fail
   refine CN.out.mono ?_
   rintro e w6 ⟨q,rfl,g6⟩
   have g7:=g6.alloc (cl #[vP q 0,vU 0,vU 0,vU 0,vU 0,vU 0,vU 0,vU 0,vU 0,vU 0] 109)
   have g8:NF S w0 _ (dF w6.heap.size eP::_) _:=NF.peerI (k:=w6.heap.size) (q:=q) (sl:=af.eL) YD g7
   have g9:=g8.alloc (cl #[vP w6.heap.size 0] 110)
   have F9:=Hi (g9.bP (R':=jU 110 1 v j (KN pa)::((pa.map fun k=>dF k eP)++[dF w6.heap.size eP]++RR)) pmR)
   have F7:=Hi g6
   obtain ⟨f9,⟨bE,-⟩,-⟩:=F9.out.tell
   obtain ⟨i9,mE,hz0,hz1,hz2⟩:=info_parts infoPP
   unfold BM at F7 F9
   clear g6 g7 g8 g9 CN
   have r:=rl F7.out.mem.rules
   go_wp2_with (at_builtin;refine wpList_append_lies _ rfl _ _ 76 rfl 0 110 i9 (.pointer none) 1 8 Tryz.underlying76 mE hz0 hz1 hz2 rfl aG _ _ _ rfl bE ⟨w6.heap.size+1,0,none⟩ 1 1 [vP w6.heap.size 0] rfl rfl ?c1 ?c2 aG ?c3 ?c4 (pR _) _ rfl ?_)
   case c1 =>
    intro k9 u9 YB
    match k9,YB with
    | 0,YB=>simp at YB;subst YB;simp [Addr.add]
   case c2=>intro u9 hu9;simp at hu9;subst hu9;rfl
   case c3=>unfold maxLen;omega
   case c4=>omega
   intro g2 c2 x ho9 Zk hl9 hlt9
   have qR:=Hi (F9.out.Mu ho9 Zk (by simpa using hl9))
   have g11:=NF.ai (B:=[_]) qR.out 10 (vL g2 0 (j+1) c2)
   simp only [aX,aY,jr,bQ,bG] at g11
   have HR:Hid (NewR S w0 RR ((rp,cl kp 65)::(g0,cl cs 65)::L) (w3.heap.size+1+1) p g rp cp w3.heap.size (w3.heap.size+1) me n offer size (vI ((j:Int)+1)) _):=Hi ⟨j+1,pa++[w6.heap.size],_,ym,ax,by simp [hpa],by
    have g12:=(g11.sub (zq _ _)).bP (R':=((pa++[w6.heap.size]).map fun k=>dF k eP)++(jU 110 1 (vL g2 0 (j+1) c2) (j+1) (KN (pa++[w6.heap.size]))::RR)) (by
     simp only [dc,jQ,uL,KN]
     exact pmR)
    exact g12⟩
   clear ho9 Zk hl9 hlt9 bE mE hz0 hz1 hz2 r F7 F9 g11
   have r:=rl qR.out.mem.rules
   exact Hz
  ·have YE:j=n:=ax;have e1:decide ((j:Int)<(n:Int))=false:=aR;rw [YE] at hF hpa;obtain ⟨rq,cq,kq,rfl,Tl,XG,hq3,g6⟩:=(hF.bP (R':=jU 110 1 v n (KN pa)::((pa.map fun k=>dF k eP)++RR)) pmR).UZ ax;have hn:=HN.out;have nB:Hid (NF S w0 wr (ah p bO::bK p (w3.heap.size+1+1) (af.newP me aj offer size)::R) ((g0,cl cs 65)::L)):=Hi (by
    refine fP (a:=⟨g,rp,cp,kp,rq,cq,kq,w3.heap.size,w3.heap.size+1,pa,fun _=>0⟩) ⟨⟨by show aj.length≤cp;rw [hn];exact HC1.out,Xz.out⟩,⟨by show aj.length≤cq;rw [hn];exact Tl,XG⟩,?_,?_,by show pa.length=aj.length;rw [hn];exact hpa,UI,UI⟩ ⟨uu.out,HPW.out,by show aj.length≤8;rw [hn];exact h8,HOL.out,⟨hs1,hs2⟩,⟨by show 1≤1;decide,by show 1<18446744073709551616;decide⟩,by show 1<18446744073709551616;decide,by show 0<18446744073709551616;decide,fun x hx=>absurd hx UI,fun x hx=>absurd hx UI,fun x hx=>absurd hx UI,fun x hx=>absurd hx UI⟩ ?_
    ·show aj.flatMap eA <+: kp.toList;rw [←Ze.out];exact List.take_prefix _ _
    ·show pa.map _ <+: kq.toList;have:kq.toList.take (n*1)=KN pa:=hq3;unfold KN at this;rw [←this];exact List.take_prefix _ _
    ·have g7:=(g6.perm (L':=(w3.heap.size+1+1,cl (BM p g rp cp w3.heap.size (w3.heap.size+1) me n offer size (vL rq 0 n cq)) 80)::(rp,cl kp 65)::(rq,cl kq 110)::(g0,cl cs 65)::L) K3)
     rw [uw.out] at g7;subst hn;have g8:=g7.bP (R':=ah p bO::(bw g (List.replicate 8 none) aj.length::dz w3.heap.size []::dz (w3.heap.size+1) []::((pa.map fun k=>dF k eP)++R))) pmR;rw [←peersN hpa] at g8;unfold cN cS iz;simp only [af.newP,bU,cu,uL,List.append_nil,bQ];exact g8)
   clear hF g6 hq3;go_wp2_with fail;go_ret2;exact ⟨_,rfl,nB.out⟩
end
end Go.Proofs.N0
namespace af
def iO (n i:Nat):Term:=⟨2,[],1000+3*n+i,0,0,0⟩
theorem Bg {n i:Nat} (h:n<1000) (hi:i<3):(iO n i).Wf:=⟨aas,aas,aas,aas,by unfold iO;simp only;omega,aas⟩
theorem U2:dX fD ⟨1,2⟩=(fD,.ok ⟨15,16⟩):=eU
theorem U3:dX fD ⟨3,4⟩=(fD,.ok ⟨17,18⟩):=eU
def Db:dG:=⟨⟨17,18⟩,5,6⟩
def Dc:dG:=⟨⟨15,16⟩,5,6⟩
end af
namespace Go.Proofs.N0
open Go.RowKit Go.Maps Go.ChangeMaps
section
variable {S:List Nat} {w0 W:World} {p b:Nat} {L:List (Nat×Obj)} {R:List aW} {st:af.Store}
theorem NF.ofSF (h:SF S w0 W p st L):NF S w0 W [ah p st] L:=by exact a968
def Ig (S:List Nat) (w0 W:World) (R:List aW) (L:List (Nat×Obj)) (p:Nat) (st s1 s2 s3:af.Store) (x0 x1 x2:Nat) (iv:Value) (wr:World):Prop :=
 (iv=vI 0∧NF S w0 wr (ah p st::R) ((W.heap.size+1,cl #[vI 0,vI 0,vI 0] 32)::(W.heap.size,cl #[vI 0,vI 0,vI 0] 32)::L))∨(iv=vI 1∧NF S w0 wr (ah p s1::R) ((W.heap.size+1,cl #[vI x0,vI 0,vI 0] 32)::(W.heap.size,cl #[vI 0,vI 0,vI 0] 32)::L))∨(iv=vI 2∧NF S w0 wr (ah p s2::R) ((W.heap.size+1,cl #[vI x0,vI x1,vI 0] 32)::(W.heap.size,cl #[vI 0,vI 0,vI 0] 32)::L))∨(iv=vI 3∧NF S w0 wr (ah p s3::R) ((W.heap.size+1,cl #[vI x0,vI x1,vI x2] 32)::(W.heap.size,cl #[vI 0,vI 0,vI 0] 32)::L))
theorem U4 {n x0 x1 x2 e0 e1 e2:Nat} {s1 s2 s3:af.Store} (h:NF S w0 W (ah p st::R) L) (hn:n<1000) (h1:st.put (af.iO n 0)=(s1,x0,e0)) (h2:s1.put (af.iO n 1)=(s2,x1,e1)) (h3:s2.put (af.iO n 2)=(s3,x2,e2)) :
 Calls Tryz.prog 12 #[vP p 0,vI n] W fun e w'=>e=.returned (.agg #[vI x0,vI x1,vI x2])∧NF S w0 w' (ah p s3::R) L:=by
 have F0:=Hi ((h.alloc (cl #[vI 0,vI 0,vI 0] 32)).alloc (cl #[vI 0,vI 0,vI 0] 32))
 simp only [World.size_alloc] at F0
 have IA:Hid (Ig S w0 W R L p st s1 s2 s3 x0 x1 x2 (vI 0) _):=Hi (.inl ⟨rfl,F0.out⟩)
 obtain ⟨HN,H1,H2,H3⟩:=hi4 hn h1 h2 h3
 obtain ⟨a1,ha1⟩:∃ a1,3*n=a1:=⟨_,rfl⟩
 obtain ⟨a2,ha2⟩:∃ a2,1000+a1=a2:=⟨_,rfl⟩
 have hw1:IntKind.i64.wrap (3*(n:Int))=(a1:Int):=Qp
 have hw2:IntKind.i64.wrap (1000+(a1:Int))=(a2:Int):=Qp
 clear h h1 h2 h3
 have r:=rl F0.out.mem.rules
 go_enter Tryz.func12,Tryz.ntmps12
 go_wp2_with fail
 clear r F0
 go_loopw [6] (fun iv wr=>Ig S w0 W R L p st s1 s2 s3 x0 x1 x2 iv wr) (fun iv _=>3 - (intOf iv).toNat)
 case atStart=>exact IA.out
 case round =>
  clear IA;rcases hrel with ⟨rfl,hF⟩|⟨rfl,hF⟩|⟨rfl,hF⟩|⟨rfl,hF⟩
  ·have CP:=Hi (hF.gL fun S1 hs=>hs.put (t:=af.iO n 0) (af.Bg HN.out aG) H1.out)
   have F1:=Hi hF
   unfold af.iO at CP
   skip
   have hw3b:IntKind.i64.wrap (a2:Int)=(a2:Int):=IntWalk.i64_in _ ax
   have hw4:IntKind.u64.wrap (a2:Int)=(a2:Int):=u64_wrap_id _ (Ao _) ax
   have hw5:(a2:Int) % 18446744073709551616=(a2:Int):=ax
   rw [show 1000+3*n+0=a2 by omega] at CP
   clear hF
   go_wp2_with fail
   refine CP.out.mono ?_
   rintro e w2 ⟨rfl,g⟩
   have F2:=Hi g
   have F3:=Hi (g.set 0 (vI x0))
   simp only [aX,aY,jr] at F3
   have HR:Hid (Ig S w0 W R L p st s1 s2 s3 x0 x1 x2 (vI 1) _):=Hi (.inr (.inl ⟨rfl,F3.out⟩))
   exact ZY
  ·have CP:=Hi (hF.gL fun S1 hs=>hs.put (t:=af.iO n 1) (af.Bg HN.out aG) H2.out);have F1:=Hi hF;unfold af.iO at CP;obtain ⟨a3,ha3⟩:∃ a3,a2+1=a3:=⟨_,rfl⟩
   have hw3:IntKind.i64.wrap ((a2:Int)+1)=(a3:Int):=Qp;have hw3b:IntKind.i64.wrap (a3:Int)=(a3:Int):=IntWalk.i64_in _ ax;have hw4:IntKind.u64.wrap (a3:Int)=(a3:Int):=u64_wrap_id _ (Ao _) ax;have hw5:(a3:Int) % 18446744073709551616=(a3:Int):=ax;rw [show 1000+3*n+1=a3 by omega] at CP;clear hF;go_wp2_with fail;refine CP.out.mono ?_;rintro e w2 ⟨rfl,g⟩;have F2:=Hi g;have F3:=Hi (g.set 1 (vI x1));simp only [aX,aY,jr] at F3;have HR:Hid (Ig S w0 W R L p st s1 s2 s3 x0 x1 x2 (vI 2) _):=Hi (.inr (.inr (.inl ⟨rfl,F3.out⟩)));exact ZY
  ·have CP:=Hi (hF.gL fun S1 hs=>hs.put (t:=af.iO n 2) (af.Bg HN.out aG) H3.out);have F1:=Hi hF;unfold af.iO at CP;obtain ⟨a3,ha3⟩:∃ a3,a2+2=a3:=⟨_,rfl⟩
   have hw3:IntKind.i64.wrap ((a2:Int)+2)=(a3:Int):=Qp;have hw3b:IntKind.i64.wrap (a3:Int)=(a3:Int):=IntWalk.i64_in _ ax;have hw4:IntKind.u64.wrap (a3:Int)=(a3:Int):=u64_wrap_id _ (Ao _) ax;have hw5:(a3:Int) % 18446744073709551616=(a3:Int):=ax;rw [show 1000+3*n+2=a3 by omega] at CP;clear hF;go_wp2_with fail;refine CP.out.mono ?_;rintro e w2 ⟨rfl,g⟩;have F2:=Hi g;have F3:=Hi (g.set 2 (vI x2));simp only [aX,aY,jr] at F3;have HR:Hid (Ig S w0 W R L p st s1 s2 s3 x0 x1 x2 (vI 3) _):=Hi (.inr (.inr (.inr ⟨rfl,F3.out⟩)));exact ZY
  ·have F1:=Hi hF;have g:=hF.perm (List.Perm.swap _ _ _);have F3:=Hi ((((g.set 0 (vI x0)).set 1 (vI x1)).set 2 (vI x2)));simp only [aX,aY,jr] at F3;have nB:=Hi (F3.out.sub (L':=L) ((zq _ _).trans (zq _ _)));have r:=rl F1.out.mem.rules;have r3:=rl F3.out.mem.rules;clear hF g;go_wp2_with fail;exact bodyPost_ret (v:=.agg #[vI x0,vI x1,vI x2]) (by simp [results,Tryz.results12,go_sem,r3]) rfl ⟨rfl,nB.out⟩
end
end Go.Proofs.N0
namespace Go.Proofs.N0
open Go.RowKit Go.Maps Go.ChangeMaps
section
theorem Dd {one two:List UInt8} {size:Int} (W:World) (ho1:af.cL one=true) (ho2:af.cL two=true) (LM:one.length≤16) (hl2:two.length≤16) (hs1:8≤size) (hs2:size≤1000) :
 Calls Tryz.prog 10 #[vS one,vS two,vI size] W fun e w'=>∃ p b1 b2,e=.returned (.tuple #[vP p 0,vP b1 0,vP b2 0])∧NF [] W w' [ah p af.fD,bK p b1 (af.newP ⟨1,2⟩ [af.Db] one size),bK p b2 (af.newP ⟨3,4⟩ [af.Dc] two size)] []:=by
 go_enter Tryz.func10,Tryz.ntmps10
 go_wp2_with fail
 refine (Xj W).mono ?_
 rintro e w1 ⟨p,rfl,hS⟩
 have F1:=Hi (((NF.ofSF hS).alloc (cl #[vI 1,vI 2,vI 3,vI 4] 63)).alloc (cl #[vI 17,vI 18,vI 5,vI 6,vI 15,vI 16,vI 5,vI 6] 66))
 simp only [World.size_alloc] at F1
 have F2:=Hi (F1.out.alloc (cl #[vI 17,vI 18,vI 5,vI 6] 65))
 simp only [World.size_alloc] at F2
 have CN:=Hi (U1 (p:=p) (st:=af.fD) (bO:=af.fD) (me:=⟨1,2⟩) (z:=⟨15,16⟩) (aj:=[af.Db]) (offer:=one) (size:=size) (c0:=1) (n:=1) F2.out (by exact List.prefix_refl _) af.U2 ⟨Uh,Uh⟩ (fun q hq=>by rw [rZ] at hq;subst hq;unfold af.Int64 af.Db;decide) rfl aG aG ho1 LM hs1 hs2)
 clear hS
 have r:=rl F1.out.mem.rules
 go_wp2_with fail
 clear r
 refine CN.out.mono ?_
 rintro e w2 ⟨b1,rfl,g⟩
 have F3:=Hi g
 have F4:=Hi (g.alloc (cl #[vI 15,vI 16,vI 5,vI 6] 65))
 have CM:=Hi (U1 (p:=p) (st:=af.fD) (bO:=af.fD) (me:=⟨3,4⟩) (z:=⟨17,18⟩) (aj:=[af.Dc]) (offer:=two) (size:=size) (c0:=1) (n:=1) F4.out (by exact List.prefix_refl _) af.U3 ⟨Uh,Uh⟩ (fun q hq=>by rw [rZ] at hq;subst hq;unfold af.Int64 af.Dc;decide) rfl aG aG ho2 hl2 hs1 hs2)
 clear g CN F1 F2
 have r:=rl F3.out.mem.rules
 go_wp2_with fail
 clear r
 refine CM.out.mono ?_
 rintro e w3 ⟨b2,rfl,g⟩
 have nB:=Hi ((g.sub (L':=[]) (sj _)).bP (R':=[ah p af.fD,bK p b1 (af.newP ⟨1,2⟩ [af.Db] one size),bK p b2 (af.newP ⟨3,4⟩ [af.Dc] two size)]) pmR)
 clear g CM F3 F4
 go_wp2_with fail
 go_ret3
 exact ⟨p,b1,b2,rfl,nB.out⟩
end
end Go.Proofs.N0
namespace Go.Proofs.N0
open Go.RowKit Go.Maps Go.ChangeMaps
section
variable {S:List Nat} {w0 W:World} {p b:Nat} {L:List (Nat×Obj)} {R:List aW}
theorem YF {w:World} {g cap:Nat} {os:List (List UInt8)} (h:w.ownsRow 0 9 1 (vL g 0 os.length cap) os.length (Ar os)) {j:Nat} {o:List UInt8} (hj:os[j]?=some o):w.cell? ⟨g,j,none⟩=some (vS o):=by obtain ⟨hl,rfl⟩:=List.getElem?_eq_some_iff.1 hj;refine (h.cellAt _ ax).trans ?_;unfold Ar;rw [wB,lz hl];rfl
def Ih (p b now:Nat) (d0 d1:Int) (pk:List UInt8) (st st':af.Store) (t t':af.Pt) (g:af.SN) (er:Nat):Prop :=
 ∀ (S:List Nat) (w0 W:World) (R:List aW) (L:List (Nat×Obj)),NF S w0 W (ah p st::bK p b t::R) L →
  Calls Tryz.prog 19 #[vP b 0,vI 0,vS pk,vU now,.agg #[vI d0,vI d1]] W (cI S w0 R L p b st' t' g er)
def U5 (S:List Nat) (w0 W:World) (R:List aW) (L:List (Nat×Obj)) (p b n:Nat) (d0 d1 d2:Int) (Mv:Nat→af.Store) (ts:Nat→af.Pt) (gs:Nat→af.SN) (es:Nat→Nat) (ev iv:Value) (wr:World):Prop :=
 ∃ (j:Nat) (oq:Option Addr) (ol oc:Nat),iv=vI (j:Nat)∧ev=vI (es j:Nat)∧j≤n∧NF S w0 wr (bA (.slice oq ol oc) (gs j).out::ah p (Mv j)::bK p b (ts j)::R) (((W.heap.size+1+1),cl #[vI (gs j).peer,vS (gs j).text,.bool (gs j).yes,vI (gs j).h,.slice oq ol oc,vI (gs j).code] 35)::((W.heap.size+1),cl (dK) 35)::(W.heap.size,cl #[vI d0,vI d1,vI d2] 32)::L)
theorem U6 {n now:Nat} {d0 d1 d2:Int} {v:Value} {os:List (List UInt8)} {Mv:Nat→af.Store} {ts:Nat→af.Pt} {gs:Nat→af.SN} {es:Nat→Nat} (h:NF S w0 W (ah p (Mv 0)::bK p b (ts 0)::bA v os::R) L) (hn:os.length=n) (h20:n≤20) (h1:1≤n) (g0:gs 0=af.nJ) (e0:es 0=5)
 (hst:∀ j pk,os[j]?=some pk→Ih p b now d0 d1 pk (Mv j) (Mv (j+1)) (ts j) (ts (j+1)) (gs (j+1)) (es (j+1))) :
 Calls Tryz.prog 13 #[vP b 0,v,vU now,.agg #[vI d0,vI d1,vI d2]] W fun e w'=>∃ (oq:Option Addr) (ol oc:Nat),e=.returned (.tuple #[.agg #[vI (gs n).peer,vS (gs n).text,.bool (gs n).yes,vI (gs n).h,.slice oq ol oc,vI (gs n).code],vI (es n:Nat)])∧NF S w0 w' (bA (.slice oq ol oc) (gs n).out::ah p (Mv n)::bK p b (ts n)::bA v os::R) L:=by
 obtain ⟨fv,hfv⟩:=h.pG (r:=bA v os) aH
 have hrow:=hfv.1
 obtain ⟨gv,cv,rfl,hc1,hc2⟩:=kX hrow ax
 rw [hn] at hc1
 have F0:=Hi (((h.alloc (cl #[vI d0,vI d1,vI d2] 32)).alloc (cl (dK) 35)).alloc (cl (dK) 35))
 simp only [World.size_alloc] at F0
 obtain ⟨ROW,KL⟩:∃ ROW,ROW=bA (vL gv 0 os.length cv) os:=⟨_,rfl⟩
 rw [←KL] at F0
 have IA:Hid (U5 S w0 W (ROW::R) L p b n d0 d1 d2 Mv ts gs es (vI 5) (vI 0) _):=Hi ⟨0,none,0,0,rfl,by rw [e0];rfl,pR _,by rw [g0];exact F0.out.lQ (Below.refl _ _) (World.ownsRow_nil _ _ _ _)⟩
 obtain ⟨HN,HST,yu⟩:=ju hn hst KL
 rw [hn]
 clear h hfv hrow hst KL hc1 hc2
 have r:=rl F0.out.mem.rules
 go_enter Tryz.func13,Tryz.ntmps13
 go_wp2_with fail
 clear r F0
 go_loopw [11,12] (fun ev iv wr=>U5 S w0 W (ROW::R) L p b n d0 d1 d2 Mv ts gs es ev iv wr) (fun _ iv _=>n - (intOf iv).toNat)
 case atStart=>exact IA.out
 case round =>
  clear IA;obtain ⟨j,oq,ol,oc,rfl,rfl,hjn,hF⟩:=hrel;by_cases hlt:j<n
  ·have e1:decide ((j:Int)<(n:Int))=true:=aR;have e2:decide ((j:Int)<20)=true:=aR;have hjn3:j<n:=hlt;have hj20:j<20:=ax;have hw1:(j:Int)<(n:Int):=ax;have hw2:(0:Int)≤(j:Int):=ax;obtain ⟨pk,hpk⟩:∃ pk,os[j]?=some pk:=⟨_,lz (by have:=HN.out;omega)⟩
   obtain ⟨st9,PB⟩:∃ s,Mv (j+1)=s:=⟨_,rfl⟩
   obtain ⟨t9,Z5⟩:∃ s,ts (j+1)=s:=⟨_,rfl⟩
   obtain ⟨g9,Zk⟩:∃ s,gs (j+1)=s:=⟨_,rfl⟩
   obtain ⟨U7,PC⟩:∃ s,es (j+1)=s:=⟨_,rfl⟩
   have hct:=HST.out j pk hpk;rw [PB,Z5,Zk,PC] at hct;have CT:Hid (∀ (S:List Nat) (w0 W:World) (R:List aW) (L:List (Nat×Obj)),NF S w0 W (ah p (Mv j)::bK p b (ts j)::R) L→Calls Tryz.prog 19 #[vP b 0,vI 0,vS pk,vU now,.agg #[vI d0,vI d1]] W fun e w'=>∃ (oq:Option Addr) (ol oc:Nat),e=.returned (.tuple #[.agg (eM g9.peer g9.text g9.yes g9.h (.slice oq ol oc) g9.code),vI U7])∧NF S w0 w' (bA (.slice oq ol oc) g9.out::ah p st9::bK p b t9::R) L):=Hi fun S w0 W R L h=>cI.slices (hct S w0 W R L h);have PKL:∀ {S:List Nat} {w0 x:World} {A:List aW} {L:List (Nat×Obj)},NF S w0 x A L→ROW∈A→∀ z:Later x,z.world.cell? ⟨gv,j,none⟩=some (vS pk):=fun {S w0 x A L} hx hm z=>by obtain ⟨fv,hfv⟩:=(hx.later z.below).pG (r:=ROW) hm;rw [yu.out] at hfv;exact YF hfv.1 hpk
   have F1:=Hi hF;have F2:=Hi (hF.lA (A:=[_]));obtain ⟨HS9,HT9,HG9,HE9⟩:=hi4 PB Z5 Zk PC;clear hF hct hpk PB Z5 Zk PC;go_wp2_with fail;refine XK (n:=41) [11,12,13,15] [] (tb [vP b 0,vL gv 0 n cv,vI (j:Nat),vP gv j,vS pk,vU now,vP W.heap.size 0,vI d0,vP W.heap.size 1,vI d1,some (.agg #[vI d0,vI d1]),none,none,none,vI U7,none,vI U7]) (((W.heap.size+1),cl (dK) 35)::(W.heap.size,cl #[vI d0,vI d1,vI d2] 32)::[]) [kN S w0 [] (ah p (Mv j)::bK p b (ts j)::ROW::R) (((W.heap.size+1+1),cl #[vI (gs j).peer,vS (gs j).text,.bool (gs j).yes,vI (gs j).h,.slice oq ol oc,vI (gs j).code] 35)::((W.heap.size+1),cl (dK) 35)::(W.heap.size,cl #[vI d0,vI d1,vI d2] 32)::L),
    jW (α:=Option Addr×Nat×Nat×Unit) S w0 (fun ch=>[(11,.tuple #[.agg (eM g9.peer g9.text g9.yes g9.h (.slice ch.1 ch.2.1 ch.2.2.1) g9.code),vI U7])]) (fun _=>[]) (fun ch=>bA (.slice ch.1 ch.2.1 ch.2.2.1) g9.out::ah p st9::bK p b t9::ROW::R) (fun _=>((W.heap.size+1+1),cl #[vI (gs j).peer,vS (gs j).text,.bool (gs j).yes,vI (gs j).h,.slice oq ol oc,vI (gs j).code] 35)::((W.heap.size+1),cl (dK) 35)::(W.heap.size,cl #[vI d0,vI d1,vI d2] 32)::L),
    jW (α:=Option Addr×Nat×Nat×Unit) S w0 (fun ch=>[(11,.tuple #[.agg (eM g9.peer g9.text g9.yes g9.h (.slice ch.1 ch.2.1 ch.2.2.1) g9.code),vI U7]),(12,.tuple #[.agg (eM g9.peer g9.text g9.yes g9.h (.slice ch.1 ch.2.1 ch.2.2.1) g9.code),vI U7])]) (fun _=>[]) (fun ch=>bA (.slice ch.1 ch.2.1 ch.2.2.1) g9.out::ah p st9::bK p b t9::ROW::R) (fun _=>((W.heap.size+1+1),cl #[vI (gs j).peer,vS (gs j).text,.bool (gs j).yes,vI (gs j).h,.slice oq ol oc,vI (gs j).code] 35)::((W.heap.size+1),cl (dK) 35)::(W.heap.size,cl #[vI d0,vI d1,vI d2] 32)::L),
    jW (α:=Option Addr×Nat×Nat×Unit) S w0 (fun ch=>[(11,.tuple #[.agg (eM g9.peer g9.text g9.yes g9.h (.slice ch.1 ch.2.1 ch.2.2.1) g9.code),vI U7]),(12,.tuple #[.agg (eM g9.peer g9.text g9.yes g9.h (.slice ch.1 ch.2.1 ch.2.2.1) g9.code),vI U7]),(13,.agg (eM g9.peer g9.text g9.yes g9.h (.slice ch.1 ch.2.1 ch.2.2.1) g9.code))]) (fun _=>[]) (fun ch=>bA (.slice ch.1 ch.2.1 ch.2.2.1) g9.out::ah p st9::bK p b t9::ROW::R) (fun _=>((W.heap.size+1+1),cl #[vI (gs j).peer,vS (gs j).text,.bool (gs j).yes,vI (gs j).h,.slice oq ol oc,vI (gs j).code] 35)::((W.heap.size+1),cl (dK) 35)::(W.heap.size,cl #[vI d0,vI d1,vI d2] 32)::L),
    jW (α:=Option Addr×Nat×Nat×Unit) S w0 (fun ch=>[(11,.tuple #[.agg (eM g9.peer g9.text g9.yes g9.h (.slice ch.1 ch.2.1 ch.2.2.1) g9.code),vI U7]),(12,.tuple #[.agg (eM g9.peer g9.text g9.yes g9.h (.slice ch.1 ch.2.1 ch.2.2.1) g9.code),vI U7]),(13,.agg (eM g9.peer g9.text g9.yes g9.h (.slice ch.1 ch.2.1 ch.2.2.1) g9.code))]) (fun _=>[]) (fun ch=>bA (.slice ch.1 ch.2.1 ch.2.2.1) g9.out::ah p st9::bK p b t9::ROW::R) (fun ch=>((W.heap.size+1+1),cl (eM g9.peer g9.text g9.yes g9.h (.slice ch.1 ch.2.1 ch.2.2.1) g9.code) 35)::((W.heap.size+1),cl (dK) 35)::(W.heap.size,cl #[vI d0,vI d1,vI d2] 32)::L)] (F2.out) ⟨sP,sP,sP,sP,?_,sP,sP,sP,sP,sP,sP,?_,sY,sY,sE 1,?_,sP,trivial⟩ ?_
   ·refine sV ?_;intro m p hm D v x h hE;have yp:∀ z:Later x,z.world.cell? ⟨gv,j,none⟩=some (vS pk):=by
     rcases m with _|_|_|_|_|m
     iterate 5 (cases hm;obtain ⟨_,qq,_,_,h0⟩:=h;exact PKL h0 (by simp))
     simp [stM] at hm
    exact qP
   ·exact Y4
   ·exact QT
   ·intro v qq x ch hF hS hA h;obtain ⟨q9,l9,c9,_⟩:=ch;simp only [tH,and_true] at hS;simp only [SC] at h;have F3:=Hi h;simp only [PU,bF,Nat.reduceAdd,gT hF 16,hS];clear hF hS hA h;have HR:Hid (U5 S w0 W (ROW::R) L p b n d0 d1 d2 Mv ts gs es (vI U7) (vI ((j:Int)+1)) x):=Hi ⟨j+1,q9,l9,c9,ym,by rw [HE9.out],ax,Ui⟩;clear F3 F2 F1;exact Hz
  ·have YE:j=n:=ax;have e1:decide ((n:Int)<(n:Int))=false:=aH;have hjn3:¬n<n:=ax;rw [YE] at hF ⊢;clear YE hlt hjn;have F1:=Hi hF;have F2:=Hi (hF.perm (L':=((W.heap.size+1),cl (dK) 35)::((W.heap.size+1+1),cl #[vI (gs n).peer,vS (gs n).text,.bool (gs n).yes,vI (gs n).h,.slice oq ol oc,vI (gs n).code] 35)::(W.heap.size,cl #[vI d0,vI d1,vI d2] 32)::L) K3);have F3:=Hi (NF.ou (B:=[]) (vI (gs n).peer) (vS (gs n).text) (.bool (gs n).yes) (vI (gs n).h) (.slice oq ol oc) (vI (gs n).code) F2.out);simp only [bG] at F3;have HFIN0:=Hi (F3.out.sub (L':=L) ((zq _ _).trans ((zq _ _).trans (zq _ _))));have nB:Hid (NF S w0 _ (bA (.slice oq ol oc) (gs n).out::ah p (Mv n)::bK p b (ts n)::bA (vL gv 0 n cv) os::R) L):=Hi (by have h9:=HFIN0.out;rw [yu.out,HN.out] at h9;exact h9);have r:=rl F1.out.mem.rules;have r3:=rl F3.out.mem.rules;clear hF F2 HFIN0;go_wp2_with fail;exact bodyPost_ret (v:=.tuple #[.agg #[vI (gs n).peer,vS (gs n).text,.bool (gs n).yes,vI (gs n).h,.slice oq ol oc,vI (gs n).code],vI (es n:Nat)]) (by simp [results,Tryz.results13,go_sem,r3]) rfl ⟨oq,ol,oc,rfl,nB.out⟩
end
end Go.Proofs.N0
namespace af
variable {size:Int} {id n:Nat} {s:List UInt8}
theorem Df {f:bC} (h:f.ok):f.encode=f.bytes:=by simp [bC.encode,h]
theorem E1 {f:bC} (h:f.ok):decode f.bytes=(f,0):=by
 obtain ⟨k1,k2,k3,k4,k5,k6,k7,k8⟩:=h;have g0:get f.bytes 0=(f.id,(put f.id).length,0):=by
  have:=Dv [] (put f.index.toNat++(put f.count.toNat++f.part)) f.id ax
  simpa [bC.bytes] using this
 have g1:get f.bytes ((put f.id).length:Nat)=(f.index.toNat,(put f.id).length+(put f.index.toNat).length,0) :=
  Dv (put f.id) (put f.count.toNat++f.part) f.index.toNat ax
 have g2:get f.bytes (((put f.id).length+(put f.index.toNat).length:Nat):Int)=(f.count.toNat,(put f.id).length+(put f.index.toNat).length+(put f.count.toNat).length,0):=by
  have:=Dv (put f.id++put f.index.toNat) f.part f.count.toNat ax
  simpa [bC.bytes,E6] using this
 have hd:f.bytes.drop ((put f.id).length+(put f.index.toNat).length+(put f.count.toNat).length)=f.part:=by
  have e:f.bytes=(put f.id++put f.index.toNat++put f.count.toNat)++f.part:=by simp [bC.bytes]
  rw [e,List.drop_append_of_le_length aR];rw [List.drop_of_length_le aR];rfl
 have e1:((f.index.toNat:Nat):Int)=f.index:=ax;have e2:((f.count.toNat:Nat):Int)=f.count:=ax;have hf:(⟨f.id,f.index.toNat,f.count.toNat,f.part⟩:bC)=f:=by rw [e1,e2]
 unfold decode;simp only [g0,g1,g2,hd,hf];rw [if_neg aH,if_neg aH,if_neg aH,if_pos ⟨k1,k2,k3,k4,k5,k6,k7,k8⟩]
theorem Ii {d now:Nat}:Side d now []:=⟨fun x hx=>absurd hx aH,fun x hx=>absurd hx aH⟩
def IZ (id:Nat) (s:List UInt8) (n j:Nat):bC:=⟨id,j,many s.length n,part s n j⟩
def VH (id:Nat) (s:List UInt8) (n now:Nat) (idx:List Nat) (k:Nat):aP:=⟨4,4096,if k<many s.length n then mine id (many s.length n) now (pp (part s n) idx k) else []⟩
section
variable {s:List UInt8} {id n now k:Nat} {idx:List Nat}
theorem U8:VH id s n now idx 0=bN:=by
 unfold VH bN;split
 ·rw [EH,AD]
 ·rfl
theorem KO:VH id s n now idx (many s.length n)=bN:=by unfold VH;rw [if_neg (by omega)];rfl
theorem KP (h:lC s id n) {j:Nat} (hj:j<many s.length n):(IZ id s n j).ok:=by
 have:=h.ok hj;rwa [Tw hj] at this
theorem pl_add (h:lC s id n) (hi:Tt idx (many s.length n)) (hk:k<idx.length) :
 (VH id s n now idx k).add (IZ id s n idx[k]) now=(VH id s n now idx (k+1),if k+1=many s.length n then s else [],decide (k+1=many s.length n),0):=by
 have hm16:=h.m
 have hs:=h.s2
 have hkm:k<many s.length n:=by rw [←hi.len];exact hk
 have hj:=hi.lt _ (KX hk)
 have hok:=KP h hj
 have hsum:=pp_sum (part:=part s n) (k:=k+1) hi
 rw [OG h,EI hk,vZ] at hsum
 have hno:=pp_has (part:=part s n) hi hk
 have h0:cM ([]:List bX)=0:=rfl
 have hlen:(pp (part s n) idx k).length=k:=pp_len ax
 have hne:0<k→pp (part s n) idx k≠[]:=fun hp e=>by rw [e] at hlen;simp at hlen;omega
 unfold VH
 rw [if_pos hkm]
 rcases Ds (k+1) (many s.length n) with hlt|hge
 ·rw [if_pos hlt,if_neg (show ¬k+1=many s.length n by omega),decide_eq_false (show ¬k+1=many s.length n by omega),EI hk];rcases Dr k with rfl|hp
  ·rw [EH,AD,bG]
   have:=Kh (now:=now) (sl:=4) (rm:=4096) (pre:=[]) Ii hok ax aG (by show cM []+_≤4096;omega)
   simpa [IZ] using this
  ·have:=Tv (now:=now) (sl:=4) (rm:=4096) (since:=now) (pre:=[]) (post:=[]) Ii Ii (hne hp) ax hok ax hno (by rw [hlen];omega) C8
   simpa [IZ] using this
 ·have e:k+1=many s.length n:=ax;rw [if_neg (show ¬k+1<many s.length n by omega),if_pos e,decide_eq_true e];rcases Dr k with rfl|hp
  ·rw [EH,AD]
   have hj0:idx[0]=0:=ax
   have DG:part s n 0=s:=by
    have:=wY h
    rw [←e] at this
    simpa using this
   have:=Kj (q:=⟨4,4096,[]⟩) (d:=id) (s:=part s n 0) (now:=now) (by have:=KP h hkm;unfold IZ at this;rw [←e] at this;exact this) (by rfl)
   unfold IZ
   rw [hj0,←e]
   rw [DG] at this ⊢
   exact this
  ·have hw:=Tu (part:=part s n) hi
   rw [wY h] at hw
   have e':pp (part s n) idx (many s.length n)=pp (part s n) idx (k+1):=by rw [e]
   rw [e',EI hk] at hw
   have:=Ki (now:=now) (sl:=4) (rm:=4096) (since:=now) (pre:=[]) (post:=[]) Ii Ii (hne hp) ax hok ax hno (by rw [hlen];omega) C8 hw ax
   simpa [IZ] using this
end
def Core.held (c:Core) (size:Int) (ms:Nat) (id:Nat) (s:List UInt8) (now:Nat) (idx:List Nat) (k:Nat):Pt:={ c.pt size ms with aO:=(c.pt size ms).aO.set 0 (VH id s size.toNat now idx k)}
theorem Core.Dg {c:Core} {ms now k:Nat} {idx:List Nat} (h:VH id s size.toNat now idx k=bN) (h1:1≤c.aj.length):c.held size ms id s now idx k=c.pt size ms:=by
 unfold Core.held;rw [h];have:(c.pt size ms).aO.set 0 bN=(c.pt size ms).aO:=by
  unfold Core.pt;obtain ⟨n,hn⟩:∃ n,c.aj.length=n+1:=⟨c.aj.length - 1,ax⟩
  simp only [hn,List.replicate_succ,aY]
 rw [this]
theorem Dh {m:bJ} (h:lC m.encode id n) (hn:size.toNat=n) (hs:0≤size):bM m id size=(List.range (many m.encode.length n)).map fun j=>(IZ id m.encode n j).encode:=by
 unfold bM;have:cut m.encode id size=(gw m.encode id n,0):=by
  have:=h.cuts
  rwa [show ((n:Nat):Int)=size by omega] at this
 rw [this];unfold gw;simp only [List.map_map];rfl
theorem enc_le {f:bC} (hk:f.ok):f.encode.length≤2000:=by have k8:=hk.2.2.2.2.2.2.2;rw [Df hk];have a:=(gz f.id).2;have b:=(gz f.index.toNat).2;have c:=(gz f.count.toNat).2;simp only [bC.bytes,E5];omega
theorem KQ {L:Nat} (h1:L≤128) (h2:8≤n):many L n≤16:=by unfold many;rw [Nat.div_le_iff_le_mul_add_pred ax];have:n*16≥8*16:=Nat.mul_le_mul_right 16 h2;omega
theorem Di (h1:1≤id) (h2:id≤4294967296) (h3:8≤n) (h4:n≤1000) (h5:1≤s.length) (h6:s.length≤128):lC s id n:=⟨h1,h2,ax,h4,h5,ax,KQ h6 h3⟩
end af
namespace Go.Proofs.N0
open Go.RowKit Go.Maps Go.ChangeMaps
section
variable {S:List Nat} {w0 W:World} {p b:Nat} {L:List (Nat×Obj)} {R:List aW} {st bO:af.Store} {c c1:af.Core} {m:af.bJ} {an:af.AZ} {size:Int} {ms er now id n k:Nat} {d0 d1:Int} {s:List UInt8} {idx:List Nat}
theorem U9 (cP:af.Hx st c m 0 now d0 d1=some (bO,c1,an,er)) (nY:ms<1000000) (cT:now<18446744073709551616) {eW sx:List UInt8} {fx:af.bC} {t:af.Pt} {pl:af.aP} (hps:eW.length≤maxLen) (hhas:t.has ((0:Nat):Int)=true) (hwl:0<t.aj.length) (hd:af.decode eW=(fx,0)) (hpl:t.aO[0]?=some pl) (Qa:pl.add fx now=(af.bN,sx,true,0)) (VG:sx.length≤maxLen) (Mm:af.fc sx=(m,0)) (ht:({t with aO:=t.aO.set 0 af.bN}:af.Pt)=c.pt size ms)
 (h:NF S w0 W (ah p st::bK p b t::R) L) :
 Calls Tryz.prog 19 #[vP b 0,vI (0:Nat),vS eW,vU now,.agg #[vI d0,vI d1]] W (cI S w0 R L p b bO (c1.pt size (an.ms ms)) (an.got ms size) er):=by
 unfold af.Hx at cP
 split at cP
 ·cases cP
 ·rename_i hb;have hm:m.Wf:=af.Yv (by cases hq:af.UD m<;>simp [hq] at hb ⊢);have hok:c.Ok:=af.Core.td (by cases hq:c.ok<;>simp [hq] at hb ⊢);split at cP
  ·rename_i hk;exact rK (er:=0) (wh:=true) h hps hhas hwl cT hd hpl Qa (.inr (.inr (.inr ⟨rfl,rfl,VG,m,Mm,1,84,by rw [hk];rfl,aG,aG,rfl,fun S w0 W R L h=>O9 cP hok hm nY cT Ib⟩)))
  ·split at cP
   ·rename_i hk;exact rK (er:=0) (wh:=true) h hps hhas hwl cT hd hpl Qa (.inr (.inr (.inr ⟨rfl,rfl,VG,m,Mm,2,85,by rw [hk];rfl,aG,aG,rfl,fun S w0 W R L h=>Pa cP hok hm nY cT Ib⟩)))
   ·split at cP
    ·rename_i hk;exact rK (er:=0) (wh:=true) h hps hhas hwl cT hd hpl Qa (.inr (.inr (.inr ⟨rfl,rfl,VG,m,Mm,3,86,by rw [hk];rfl,aG,aG,rfl,fun S w0 W R L h=>Hy cP hm Ib⟩)))
    ·split at cP
     ·rename_i hk;exact rK (er:=0) (wh:=true) h hps hhas hwl cT hd hpl Qa (.inr (.inr (.inr ⟨rfl,rfl,VG,m,Mm,4,87,by rw [hk];rfl,aG,aG,rfl,fun S w0 W R L h=>Pb cP hok hm nY Ib⟩)))
     ·cases cP
theorem Po (cP:af.Hx st c m 0 now d0 d1=some (bO,c1,an,er)) (nY:ms<1000000) (cT:now<18446744073709551616) (h1:1≤c.aj.length) (hc:af.lC s id size.toNat) (hi:af.Tt idx (af.many s.length size.toNat)) (Mm:af.fc s=(m,0)) (hk:k<idx.length) :
 Ih p b now d0 d1 (af.IZ id s size.toNat idx[k]).encode st (if k+1=idx.length then bO else st) (c.held size ms id s now idx k) (if k+1=idx.length then c1.pt size (an.ms ms) else c.held size ms id s now idx (k+1)) (if k+1=idx.length then an.got ms size else af.nJ) (if k+1=idx.length then er else 0):=by
 intro S w0 W R L h
 have hj:=hi.lt _ (KX hk)
 have hok:=af.KP hc hj
 have hadd:=af.pl_add (now:=now) hc hi hk
 have hps:(af.IZ id s size.toNat idx[k]).encode.length≤maxLen:=Fc (af.enc_le hok) aG
 have hd:af.decode (af.IZ id s size.toNat idx[k]).encode=(af.IZ id s size.toNat idx[k],0):=by rw [af.Df hok];exact af.E1 hok
 have hhas:(c.held size ms id s now idx k).has ((0:Nat):Int)=true:=by unfold af.Pt.has;show (decide ((0:Int)≤0)&&decide ((0:Int)<(c.aj.length:Int)))=true;simp;omega
 have hpl:(c.held size ms id s now idx k).aO[0]?=some (af.VH id s size.toNat now idx k):=by unfold af.Core.held;simp only;rw [List.getElem?_set_self];unfold af.Core.pt;simp;omega
 have Hh:∀ q:af.aP,({c.held size ms id s now idx k with aO:=(c.held size ms id s now idx k).aO.set 0 q}:af.Pt)={ c.pt size ms with aO:=(c.pt size ms).aO.set 0 q}:=fun q=>by unfold af.Core.held;simp only [List.set_set]
 rw [←hi.len] at hadd
 by_cases hl:k+1=idx.length
 ·rw [if_pos hl,if_pos hl,if_pos hl,if_pos hl];rw [if_pos hl,decide_eq_true hl,hl,hi.len,af.KO] at hadd;have he:({c.pt size ms with aO:=(c.pt size ms).aO.set 0 af.bN}:af.Pt)=c.pt size ms:=by
   have:=af.Core.Dg (c:=c) (size:=size) (ms:=ms) (id:=id) (now:=now) (idx:=idx) (s:=s) (k:=af.many s.length size.toNat) af.KO h1
   unfold af.Core.held at this
   rw [af.KO] at this
   exact this
  exact U9 cP nY cT hps hhas h1 hd hpl hadd (Fc hc.s2 aG) Mm ((Hh _).trans he) h
 ·rw [if_neg hl,if_neg hl,if_neg hl,if_neg hl]
  rw [if_neg hl,decide_eq_false hl] at hadd
  have:=O7 (er:=0) (wh:=false) (d0:=d0) (d1:=d1) h hps hhas h1 cT hd hpl hadd
  rw [Hh] at this
  exact this
theorem Va {mm:af.bJ} {d2:Int} {v:Value} (cP:af.Hx st c m 0 now d0 d1=some (bO,c1,an,er)) (nY:ms<1000000) (cT:now<18446744073709551616) (h1:1≤c.aj.length) (hs1:8≤size) (hs2:size≤1000) (hid:1≤id∧id<1000000) (hsh:af.short mm=true) (Mm:af.fc mm.encode=(m,0))
 (h:NF S w0 W (ah p st::bK p b (c.pt size ms)::bA v (af.bM mm id size)::R) L) :
 Calls Tryz.prog 13 #[vP b 0,v,vU now,.agg #[vI d0,vI d1,vI d2]] W fun e w'=>∃ (oq:Option Addr) (ol oc:Nat),e=.returned (.tuple #[.agg (eM an.peer an.text an.yes an.h (.slice oq ol oc) an.code),vI er])∧NF S w0 w' (bA (.slice oq ol oc) (an.got ms size).out::ah p bO::bK p b (c1.pt size (an.ms ms))::bA v (af.bM mm id size)::R) L:=by
 unfold af.short at hsh
 simp only [gi,decide_eq_true_eq] at hsh
 have hc:af.lC mm.encode id size.toNat:=af.Di hid.1 ax ax ax hsh.1.2 hsh.2
 obtain ⟨idx,hidx⟩:∃ idx,idx=List.range (af.many mm.encode.length size.toNat):=⟨_,rfl⟩
 have hi:af.Tt idx (af.many mm.encode.length size.toNat):=by rw [hidx];exact af.Tt.range _
 have hpk:af.bM mm id size=idx.map fun j=>(af.IZ id mm.encode size.toNat j).encode:=by rw [hidx];exact af.Dh hc rfl (by omega)
 have hlen:(af.bM mm id size).length=idx.length:=by rw [hpk,Fw]
 have hm16:=hc.m
 have hpos:=hc.pos
 have hil:=hi.len
 have h0:c.held size ms id mm.encode now idx 0=c.pt size ms:=af.Core.Dg af.U8 h1
 have:=U6 (p:=p) (b:=b) (now:=now) (d0:=d0) (d1:=d1) (d2:=d2) (v:=v) (os:=af.bM mm id size) (n:=idx.length) (R:=R) (L:=L) (S:=S) (w0:=w0) (W:=W)
  (Mv:=fun j=>if j=idx.length then bO else st) (ts:=fun j=>if j=idx.length then c1.pt size (an.ms ms) else c.held size ms id mm.encode now idx j) (gs:=fun j=>if j=idx.length then an.got ms size else af.nJ) (es:=fun j=>if j=idx.length then er else if j=0 then 5 else 0)
  (by simp only [if_neg (show ¬0=idx.length by omega),h0];exact h) hlen ax ax (by simp only [if_neg (show ¬0=idx.length by omega)]) (by simp only [if_neg (show ¬0=idx.length by omega),if_true]) (fun j pk hj=>by
   have hjl:j<idx.length:=by
    have:=(List.getElem?_eq_some_iff.1 hj).1;omega
   have hpk2:pk=(af.IZ id mm.encode size.toNat idx[j]).encode:=by rw [hpk,wB,lz hjl] at hj;exact (Option.some.inj hj).symm
   subst hpk2;have hst:=Po (p:=p) (b:=b) (k:=j) cP nY cT h1 hc hi Mm hjl;simp only [if_neg (show ¬j=idx.length by omega),if_neg (show ¬j+1=0 by omega)];exact hst)
 simp only [if_true] at this
 exact this
end
end Go.Proofs.N0
namespace af
def BN (st:Store) (n:Nat):Store:=(((st.put (iO n 0)).1.put (iO n 1)).1.put (iO n 2)).1
def KR (st:Store) (n:Nat):Nat:=(st.put (iO n 0)).2.1
def Qb (st:Store) (n:Nat):Nat:=((st.put (iO n 0)).1.put (iO n 1)).2.1
def Vb (st:Store) (n:Nat):Nat:=(((st.put (iO n 0)).1.put (iO n 1)).1.put (iO n 2)).2.1
instance:Inhabited Store:=⟨⟨[],0⟩⟩
instance:Inhabited Core:=⟨⟨⟨0,0⟩,[],[],0,0,[],[],[],[]⟩⟩
instance:Inhabited bJ:=⟨aQ⟩
instance:Inhabited AZ:=⟨pJ⟩
def BM (me:Pair) (aj:List dG) (offer:List UInt8):Core:=⟨me,aj,offer,1,0,List.replicate 8 none,List.replicate aj.length eL,[],[]⟩
def fC (st:Store) (n:Nat) (c:Core) (m:bJ) (now:Nat):Option (Store×Core×AZ×Nat) :=
 if (fc m.encode).2=0∧short m=true∧1≤c.aj.length then Hx (BN st n) c (fc m.encode).1 0 now (KR st n) (Qb st n) else none
def pM (st:Store) (n:Nat) (c:Core) (slot:Int) (now:Nat):Option (Store×Core×bJ):=EX (BN st n) c 0 slot now (KR st n) (Qb st n) (Vb st n)
def fA0:Core:=BM ⟨1,2⟩ [Db] [2,1]
def fB0:Core:=BM ⟨3,4⟩ [Dc] [1]
def f1:=pM fD 0 fA0 1 5
def g1:=f1.getD default
def f2:=fC g1.1 1 fB0 g1.2.2 6
def g2:=f2.getD default
def m2:bJ:=g2.2.2.1.out.getD default
def f3:=fC g2.1 2 g1.2.1 m2 7
def g3:=f3.getD default
def f4:=xp g3.1 g3.2.1 0 [104,101,108,108,111]
def g4:=f4.getD default
def f5:=fC g4.1 3 g2.2.1 g4.2.2 8
def g5:=f5.getD default
def f6:=xp g5.1 g5.2.1 0 [98,97,99,107]
def g6:=f6.getD default
def f7:=fC g6.1 4 g4.2.1 g6.2.2 9
def g7:=f7.getD default
def f8:=fC g7.1 5 g6.2.1 g4.2.2 9
def g8:=f8.getD default
def f9:=fC g8.1 6 g8.2.1 g1.2.2 9
def g9:=f9.getD default
def fS10:Store:=BN g9.1 7
def f11:=EY fS10 g7.2.1 0
def g11:=f11.getD default
def f12:=EZ g11.2 2000
def g12:=f12.getD default
theorem f1_ok:f1.isSome=true:=eU
theorem f2_ok:f2.isSome=true:=eU
theorem f3_ok:f3.isSome=true:=eU
theorem f4_ok:f4.isSome=true:=eU
theorem f5_ok:f5.isSome=true:=eU
theorem f6_ok:f6.isSome=true:=eU
theorem f7_ok:f7.isSome=true:=eU
theorem f8_ok:f8.isSome=true:=eU
theorem f9_ok:f9.isSome=true:=eU
theorem f11_ok:f11.isSome=true:=eU
theorem f12_ok:f12.isSome=true:=eU
theorem Vc:xq fA0 0=true∧xq g2.2.1 0=true:=eU
theorem YG:g2.2.2.2=0∧g3.2.2.2=0∧g5.2.2.2=0∧g7.2.2.2=0∧g8.2.2.2=12∧g9.2.2.2=12∧g12.2=1:=eU
theorem f_outs:g2.2.2.1.out.isSome=true∧g3.2.2.1.out.isNone=true∧g5.2.2.1.out.isNone=true∧g7.2.2.1.out.isNone=true∧g8.2.2.1.out.isNone=true∧g9.2.2.1.out.isNone=true:=eU
theorem f_h:0<g2.2.2.1.h∧g3.2.2.1.h=g2.2.2.1.h∧g5.2.2.1.h=g2.2.2.1.h:=eU
theorem f_text:g5.2.2.1.text=[104,101,108,108,111]∧g5.2.2.1.yes=true∧g7.2.2.1.text=[98,97,99,107]:=eU
theorem f_held:E0 g7.2.1 0=some 0:=eU
theorem f_sess:dM g7.2.1 0=some [g2.2.2.1.h]∧dM g9.2.1 0=some [g2.2.2.1.h]∧dM g12.1 0=some []:=eU
theorem Vd:g11.1.has 1=true∧1≤g11.2.aj.length∧g7.2.1.aj.length=1∧g11.2.aj.length=1:=eU
theorem Ve:8<g1.2.2.encode.length∧g1.2.2.encode.length≤128:=eU
end af
namespace Go.Proofs.N0
open Go.RowKit Go.Maps Go.ChangeMaps
def SameR (n:Nat) (w:World) (iv:Value) (wr:World):Prop:=∃ k:Nat,k≤n∧iv=vI k∧Below w.heap.size w wr
theorem nc {g1 g2 c1 c2:Nat} {l:List Int} (hl:l.length≤100000) (w:World) (hf1:∀ k (h:k<l.length),w.cell? ⟨g1,k,none⟩=some (vI l[k])) (hf2:∀ k (h:k<l.length),w.cell? ⟨g2,k,none⟩=some (vI l[k])) :
 Calls Tryz.prog 16 #[vL g1 0 l.length c1,vL g2 0 l.length c2] w fun e w'=>e=.returned (.bool true)∧Below w.heap.size w w':=by
 obtain ⟨HF1,nA⟩:=hi2 hf1 hf2;clear hf1 hf2
 obtain ⟨n,hn⟩:∃ n,n=l.length:=⟨_,rfl⟩
 rw [←hn] at hl ⊢
 have HN:=Hi hn;clear hn
 go_enter Tryz.func16,Tryz.ntmps16
 go_wp2_with fail
 go_loopw [5] (fun iv wr=>SameR n w iv wr) (fun iv _=>n - (intOf iv).toNat)
 case atStart=>exact ⟨0,pR _,rfl,Below.refl _ _⟩
 case round =>
  obtain ⟨k,hk,rfl,iK⟩:=hrel;have HB:=Hi iK;by_cases hlt:k<n
  ·have sH:k<l.length:=FX
   have F0:=(⟨wr,iK⟩:Later w).cell (HF1.out k sH)
   have G0:=(⟨wr,iK⟩:Later w).cell (nA.out k sH)
   simp only at F0 G0
   clear iK
   generalize l[k]=z at *
   have x0:∀ x:Later wr,x.world.cell? ⟨g1,k,none⟩=some (vI z):=fun x=>x.cell F0
   have y0:∀ x:Later wr,x.world.cell? ⟨g2,k,none⟩=some (vI z):=fun x=>x.cell G0
   clear F0 G0
   go_wp2_with fail
   refine ay aI aI ?_
   repeat (go_big_quiet_step (fail))
   refine wpQuiet_nil ?_
   rintro ⟨w2,hb2⟩
   change Exit.then _ _ _ _ w2
   clear x0 y0
   have Bx:=Hi (vV HB.out hb2)
   clear hb2
   go_wp2_with fail
   go_roundw
   case rel=>exact ⟨k+1,ax,rfl,Bx.out⟩
   case measure=>simp [intOf];omega
  ·obtain rfl:k=n:=ax;clear iK;exact Kk
section
variable {S:List Nat} {w0 W:World} {p b:Nat} {L:List (Nat×Obj)} {R:List aW} {st bO:af.Store} {c c1:af.Core} {m:af.bJ} {an:af.AZ} {size:Int} {ms er now n:Nat} {v:Value}
theorem dJ (h:NF S w0 W (ah p st::R) L) (hn:n<1000):Calls Tryz.prog 12 #[vP p 0,vI n] W fun e w'=>e=.returned (.agg #[vI (af.KR st n:Nat),vI (af.Qb st n:Nat),vI (af.Vb st n:Nat)])∧NF S w0 w' (ah p (af.BN st n)::R) L :=
 U4 h hn rfl rfl rfl
theorem um {slot:Int} (cP:af.pM st n c slot now=some (bO,c1,m)) (nY:ms<1000000) (cT:now<18446744073709551616) (h:NF S w0 W (ah p (af.BN st n)::bK p b (c.pt size ms)::R) L) :
 Calls Tryz.prog 11 #[vP b 0,vI 0,vI slot,vU now,.agg #[vI (af.KR st n:Nat),vI (af.Qb st n:Nat),vI (af.Vb st n:Nat)]] W fun e w'=>∃ v,e=.returned (.tuple #[v,vI 0])∧NF S w0 w' (bA v (af.bM m ms size)::ah p bO::bK p b (c1.pt size (ms+1))::R) L :=
 KM cP nY cT h
theorem ij {mm:af.bJ} {id:Nat} (cP:af.fC st n c mm now=some (bO,c1,an,er)) (nY:ms<1000000) (cT:now<18446744073709551616) (hs1:8≤size) (hs2:size≤1000) (hid:1≤id∧id<1000000)
 (h:NF S w0 W (ah p (af.BN st n)::bK p b (c.pt size ms)::bA v (af.bM mm id size)::R) L) :
 Calls Tryz.prog 13 #[vP b 0,v,vU now,.agg #[vI (af.KR st n:Nat),vI (af.Qb st n:Nat),vI (af.Vb st n:Nat)]] W fun e w'=>∃ (oq:Option Addr) (ol oc:Nat),e=.returned (.tuple #[.agg (eM an.peer an.text an.yes an.h (.slice oq ol oc) an.code),vI er])∧NF S w0 w' (bA (.slice oq ol oc) (an.got ms size).out::ah p bO::bK p b (c1.pt size (an.ms ms))::bA v (af.bM mm id size)::R) L:=by
 unfold af.fC at cP
 split at cP
 ·rename_i hb;exact Va cP nY cT hb.2.2 hs1 hs2 hid hb.2.1 (Prod.ext rfl hb.1) h
 ·cases cP
end
end Go.Proofs.N0
namespace Go
open Go.RowKit Go.Proofs.N0
variable {i id k:Nat} {o:Oper}
section
variable {P:Program} {ops:Array Oper} {Q:Exit→Act→World→Prop} {n m:Nat} {listed listed':Array Bool} {a:Act} {w:World}
def cX (P:Program) (ops:Array Oper) (Q:Exit→Act→World→Prop) (n:Nat) (a:Act) (w:World):Prop :=
 ∀ (fuel:Nat) (listed:Array Bool),ops.size - n≤fuel→listed.size=ops.size→(∀ i,i<ops.size→listed.getD i false=decide (i<n))→wpAny P .any ops Q fuel listed a w
theorem jL {l:Array Bool} (h:i<l.size) (b c:Bool):l.getD i b=l.getD i c:=by simp [Array.getD,h]
theorem xV (hm:P.follows .mixedOrders=true) (h:cX P ops Q 0 a w.drew):(Code.region id ops true).wp P Q a w :=
 wp_region_any hm (h _ _ ax aH (fun i hi=>by simp [yl,hi]))
theorem Vf (h:Q .normal a w):cX P ops Q ops.size a w:=fun fuel listed _ hs hl=>by
 have hr:Region.ready .any ops listed=[]:=zV fun i hi=>by rw [jL (by rw [hs];exact hi) true false,hl i hi];simpa using hi
 cases fuel with
 | zero=>exact ⟨hr,h⟩
 | succ f=>exact ⟨fun _=>h,fun i hi=>by rw [hr] at hi;cases hi⟩
def strip (n:Nat) (o:Oper):Oper:={ o with after:=((o.after.toList.filter fun e=>Region.binds .any e&&decide (n≤e.on)).map fun e=>{ e with on:=e.on - n}).toArray,guard:=match o.guard with
 | some (q,b)=>if n≤q then some (q - n,b) else none
 | none=>none}
structure tv (ops:Array Oper) (n m:Nat):Prop where
 nm:n<m
 le:m≤ops.size
 back:∀ i o,n≤i→i<m→ops[i]?=some o→∀ e∈o.after,Region.binds .any e=true→e.on<i
 guard:∀ i o q b,n≤i→i<m→ops[i]?=some o→o.guard=some (q,b)→(n≤q∧q<i)∨(b=true∧q+1=n)
 dst:1≤n→∀ i o oq,n≤i→i<m→ops[i]?=some o→ops[n - 1]?=some oq→∀ s,oq.dst=some s→o.dst≠some s
 next:∀ i,n≤i→i+1<m→∃ j o,i<j∧j<m∧ops[j]?=some o∧∃ e∈o.after,Region.binds .any e=true∧e.on=i
 cut:∀ j o,m≤j→ops[j]?=some o→∃ e∈o.after,Region.binds .any e=true∧m≤e.on+1∧e.on<j
theorem Oper.wp_put {K:Act→World→Prop} (hh:o.wp P a w K Q):o.wp P a w (fun a' w'=>K a' w'∧∀ s,o.dst≠some s→a'.tmps[s]?=a.tmps[s]?) Q:=by
 have hp:∀ (b:Act) (v:Value) (s:Nat),b.tmps=a.tmps→o.dst≠some s→(b.put o.dst v).tmps[s]?=a.tmps[s]?:=fun b v s hb hs=>by
  unfold Act.put;split
  ·rename_i d hd;simp only;rw [Array.getElem?_setIfInBounds_ne (fun e=>hs (by rw [hd,e])),hb]
  ·rw [hb]
 unfold Oper.wp at *
 generalize (execOp a.eval o).run P w=r at *
 cases r with
 | ok n w' =>
  cases n<;>simp only [Oper.upon] at hh ⊢ <;>
   first
    | exact ⟨hh,fun s hs=>hp _ _ s rfl hs⟩
    | exact Calls.mono hh (fun e w'' he=>by cases e<;>first|exact ⟨he,fun s hs=>hp _ _ s rfl hs⟩|exact he)
    | exact Rows.mono hh (fun _ _ he=>⟨he,fun s hs=>hp _ _ s rfl hs⟩)
 | halt x w'=>cases x<;>simp only [Oper.upon] at hh ⊢<;>exact hh
def BO (P:Program) (ops:Array Oper) (Q:Exit→Act→World→Prop) (m:Nat):Exit→Act→World→Prop:=fun e a' w'=>match e with
 | .normal=>cX P ops Q m a' w'
 | e=>Q e a' w'
theorem Dj:∀ e,e≠.normal→∀ a w,BO P ops Q m e a w→Q e a w:=fun e he a w h=>by cases e<;>first|exact absurd rfl he|exact h
structure Rel (ops:Array Oper) (n m:Nat) (listed listed':Array Bool):Prop where
 s1:listed.size=ops.size
 s2:listed'.size=m - n
 low:∀ i,i<n→listed.getD i false=true
 mid:∀ k,k<m - n→listed.getD (n+k) false=listed'.getD k false
 high:∀ i,m≤i→listed.getD i false=false
 closed:∀ k o,k<m - n→ops[n+k]?=some o→listed'.getD k false=true→∀ e∈o.after,Region.binds .any e=true→listed.getD e.on false=true
variable {l:List Oper}
theorem Rel.all (hw:tv ops n m) (hr:Rel ops n m listed listed') (h:listed.getD (m - 1) false=true):∀ i,i<m→listed.getD i false=true:=by
 have key:∀ d i,n≤i→i+d+1=m→listed.getD i false=true:=by
  intro d
  induction d using Nat.strongRecOn with
  | _ d ih =>
   intro i hi hd;by_cases h0:d=0
   ·have:i=m - 1:=ax;rw [this];exact h
   ·obtain ⟨j,o,h1,h2,h3,e,he,hb,hon⟩:=hw.next i hi ax
    have hj:=ih (m - 1 - j) ax j ax ax
    have hk:listed'.getD (j - n) false=true:=by rw [←hr.mid (j - n) ax,show n+(j - n)=j by omega];exact hj
    have:=hr.closed (j - n) o ax (by rw [show n+(j - n)=j by omega];exact h3) hk e he hb
    rw [←hon];exact this
 intro i hi;by_cases hin:i<n
 ·exact hr.low i hin
 ·exact key (m - 1 - i) i ax ax
theorem xW {e':Edge} (h:e'∈(strip n o).after):∃ e∈o.after,Region.binds .any e=true∧n≤e.on∧e'.on=e.on - n:=by unfold strip at h;simp only [List.mem_toArray,List.mem_map,List.mem_filter,gi,decide_eq_true_eq,Array.mem_toList_iff] at h;obtain ⟨e,⟨h1,h2,h3⟩,rfl⟩:=h;exact ⟨e,h1,h2,h3,rfl⟩
theorem E2 {e:Edge} (h:e∈o.after) (hb:Region.binds .any e=true) (hn:n≤e.on):{ e with on:=e.on - n}∈(strip n o).after:=by unfold strip;simp only [List.mem_toArray,List.mem_map,List.mem_filter,gi,decide_eq_true_eq,Array.mem_toList_iff];exact ⟨e,⟨h,hb,hn⟩,rfl⟩
theorem Ij {ops:Array Oper} {listed:Array Bool} (h1:ops[i]?=some o) (h2:listed.getD i true=false) (h3:∀ e∈o.after,Region.binds .any e=true→listed.getD e.on false=true):i∈Region.ready .any ops listed:=by
 unfold Region.ready
 rw [List.mem_filter]
 refine ⟨List.mem_range.2 (Array.getElem?_eq_some_iff.1 h1).1,?_⟩
 rw [gi]
 refine ⟨V9,?_⟩
 rw [h1]
 simp only [Option.map_some,uy]
 rw [IP]
 intro j hj
 cases hb:Region.binds .any o.after[j] with
 | false=>rfl
 | true=>simpa using h3 _ (Array.getElem_mem hj) hb
theorem xu {ops:Array Oper} {listed:Array Bool} (h:i∈Region.ready .any ops listed) (h1:ops[i]?=some o):i<ops.size∧listed.getD i true=false∧∀ e∈o.after,Region.binds .any e=true→listed.getD e.on false=true:=by
 obtain ⟨a1,a2,a3⟩:=fo h
 refine ⟨a1,a2,fun e he hb=>?_⟩
 have:=a3 o h1
 rw [IP] at this
 obtain ⟨q,hq,rfl⟩:=nR he
 have:=this q hq
 simpa [hb] using this
theorem Rel.window (hw:tv ops n m) (hl:∀ k,k<m - n→∀ o,ops[n+k]?=some o→l[k]?=some (strip n o)) (qc:l.length=m - n) (hr:Rel ops n m listed listed') (hi:i∈Region.ready .any ops listed):(∃ k,i=n+k∧k<m - n∧k∈Region.ready .any l.toArray listed')∨∀ i,i<m→listed.getD i false=true:=by
 obtain ⟨hsz,-⟩:=fo hi;have ho:ops[i]?=some ops[i]:=tC hsz;obtain ⟨h1,h2,h3⟩:=xu hi ho;have h2':listed.getD i false=false:=by rw [jL (by rw [hr.s1];exact h1) false true];exact h2
 by_cases hin:i<n
 ·rw [hr.low i hin] at h2';cases h2'
 ·by_cases him:i<m
  ·refine .inl ⟨i - n,ax,ax,?_⟩;have hok:ops[n+(i - n)]?=some ops[i]:=by rw [show n+(i - n)=i by omega];exact ho
   refine Ij (o:=strip n ops[i]) (by simpa using hl (i - n) (by omega) _ hok) ?_ fun e' he' hb'=>?_
   ·rw [jL (by rw [hr.s2];omega) true false,←hr.mid (i - n) ax,show n+(i - n)=i by omega];exact h2'
   ·obtain ⟨e,he,hb,hn,hon⟩:=xW he';have hlt:=hw.back i _ ax him ho e he hb;rw [hon,←hr.mid (e.on - n) ax,show n+(e.on - n)=e.on by omega];exact h3 e he hb
  ·right
   obtain ⟨e,he,hb,hm1,hm2⟩:=hw.cut i _ ax ho
   have:=h3 e he hb
   by_cases hem:e.on=m - 1
   ·rw [hem] at this;exact hr.all hw this
   ·rw [hr.high e.on ax] at this;cases this
theorem Rel.back (hw:tv ops n m) (hl:∀ k,k<m - n→∀ o,ops[n+k]?=some o→l[k]?=some (strip n o)) (qc:l.length=m - n) (hr:Rel ops n m listed listed') (hk:k∈Region.ready .any l.toArray listed'):n+k∈Region.ready .any ops listed:=by
 obtain ⟨hsz,-⟩:=fo hk;have hkm:k<m - n:=by simpa [qc] using hsz
 have hle:=hw.le;have ho:ops[n+k]?=some ops[n+k]:=tC ax;obtain ⟨h1,h2,h3⟩:=xu hk (o:=strip n ops[n+k]) (by simpa using hl k hkm _ ho);refine Ij ho ?_ fun e he hb=>?_
 ·rw [jL (by rw [hr.s1];omega) true false,hr.mid k hkm,jL (by rw [hr.s2];exact hkm) false true];exact h2
 ·by_cases hn:e.on<n
  ·exact hr.low _ hn
  ·have hlt:=hw.back (n+k) _ ax ax ho e he hb
   have:=h3 _ (E2 he hb ax) (by cases e;exact hb)
   simp only at this
   rw [←hr.mid (e.on - n) ax,show n+(e.on - n)=e.on by omega] at this
   exact this
theorem ng {l:Array Bool} {j:Nat} (h:i<l.size):(l.setIfInBounds i true).getD j false=(l.getD j false||j==i):=by
 simp only [yl,NG];by_cases e:i=j
 ·subst e;simp [h]
 ·have:(j==i)=false:=by simpa using fun h=>e h.symm
  simp [e,this]
theorem Rel.set (hw:tv ops n m) (hr:Rel ops n m listed listed') (hk:k<m - n) (ho:ops[n+k]?=some o) (h3:∀ e∈o.after,Region.binds .any e=true→listed.getD e.on false=true):Rel ops n m (listed.setIfInBounds (n+k) true) (listed'.setIfInBounds k true):=by
 have hle:=hw.le;have a1:n+k<listed.size:=by rw [hr.s1];omega
 have a2:k<listed'.size:=by rw [hr.s2];exact hk
 refine ⟨by simpa using hr.s1,by simpa using hr.s2,fun i hi=>by rw [ng a1,hr.low i hi];rfl,fun j hj=>?_,fun i hi=>?_,fun j oj hj hoj hlj e he hb=>?_⟩
 ·rw [ng a1,ng a2,hr.mid j hj];have:(n+j==n+k)=(j==k):=by
   by_cases h:j=k
   ·subst h;simp
   ·rw [beq_eq_false_iff_ne.2 h,beq_eq_false_iff_ne.2 (by omega:n+j≠n+k)]
  rw [this]
 ·rw [ng a1,hr.high i hi];have:(i==n+k)=false:=by simpa using (by omega:i≠n+k)
  rw [this];rfl
 ·rw [ng a1];by_cases e1:j=k
  ·subst e1;rw [ho] at hoj;cases hoj;rw [h3 e he hb];rfl
  ·rw [ng a2] at hlj;have:(j==k)=false:=MW;rw [this,pS] at hlj;rw [hr.closed j oj hj hoj hlj e he hb];rfl
theorem E3 (hw:tv ops n m) (hl:∀ k,k<m - n→∀ o,ops[n+k]?=some o→l[k]?=some (strip n o)) (hy:n=0∨yielded ops a.tmps (n - 1)=some true) (hk:k<m - n) (ho:ops[n+k]?=some o):Region.wanted (strip n o) (yielded l.toArray a.tmps)=Region.wanted o (yielded ops a.tmps):=by
 unfold Region.wanted strip
 cases hg:o.guard with
 | none=>rfl
 | some p =>
  obtain ⟨q,b⟩:=p;simp only;rcases hw.guard (n+k) o q b ax ax ho hg with ⟨h1,h2⟩|⟨rfl,h2⟩
  ·rw [if_pos h1]
   simp only
   have hle:=hw.le
   have hoq:ops[n+(q - n)]?=some ops[q]:=by rw [show n+(q - n)=q by omega];exact tC (by omega)
   have:=hl (q - n) ax _ hoq
   congr 1
   unfold yielded
   have e1:l.toArray[q - n]?=some (strip n ops[q]):=c98
   have e2:ops[q]?=some ops[q]:=tC ax
   rw [e1,e2]
   rfl
  ·rw [if_neg ax];rcases hy with hy|hy
   ·omega
   ·rw [show q=n - 1 by omega,hy];rfl
theorem Vg (hw:tv ops n m) (hl:∀ k,k<m - n→∀ o,ops[n+k]?=some o→l[k]?=some (strip n o)) (qc:l.length=m - n):∀ (fuel':Nat) (listed' listed:Array Bool) (fuel:Nat) (a:Act) (w:World),Rel ops n m listed listed'→(n=0∨yielded ops a.tmps (n - 1)=some true)→(dn l.toArray listed').length+(ops.size - m)≤fuel →
 wpAny P .any l.toArray (BO P ops Q m) fuel' listed' a w→wpAny P .any ops Q fuel listed a w:=by
 have Mw:∀ (i:Nat) (x:Oper),l.toArray[i]?=some x→∀ e∈x.after,Region.binds .any e=true→e.on<i:=fun i x hx e' he' hb'=>by
  have hle:=hw.le
  have him:i<m - n:=by rw [←qc];simpa using (Array.getElem?_eq_some_iff.1 hx).1
  have ho:ops[n+i]?=some ops[n+i]:=tC ax
  have:=hl i him _ ho
  rw [List.getElem?_toArray,this] at hx
  cases hx
  obtain ⟨e,he,hb,hn,hon⟩:=xW he'
  have:=hw.back (n+i) _ ax ax ho e he hb
  omega
 intro fuel'
 induction fuel' with
 | zero =>
  intro listed' listed fuel a w hr hy hf h;have hall:=mH (md:=.any) (ops:=l.toArray) (by rw [hr.s2];simp [qc]) Mw h.1;exact h.2 fuel listed ax hr.s1 fun i hi=>by exact a983
 | succ f' ih =>
  intro listed' listed fuel a w hr hy hf h;by_cases hre:Region.ready .any l.toArray listed'=[]
  ·have hall:=mH (md:=.any) (ops:=l.toArray) (by rw [hr.s2];simp [qc]) Mw hre;exact h.1 hre fuel listed ax hr.s1 fun i hi=>by exact a983
  ·obtain ⟨k0,hk0⟩:=List.exists_mem_of_ne_nil _ hre
   have hopen:∀ k,k∈Region.ready .any l.toArray listed'→(dn l.toArray (listed'.setIfInBounds k true)).length<(dn l.toArray listed').length:=fun k hk=>by
    obtain ⟨b1,b2,-⟩:=fo hk
    have hk2:k<listed'.size:=by rw [hr.s2,←qc];simpa using b1
    have hsub:dn l.toArray (listed'.setIfInBounds k true)=(dn l.toArray listed').filter fun i=>!(i==k):=by
     unfold dn;rw [List.filter_filter];refine yX fun i hi=>?_;have hi2:i<listed'.size:=by rw [hr.s2,←qc];simpa using hi
     rw [jL (l:=listed'.setIfInBounds k true) (by simpa using hi2) true false,ng hk2,jL hi2 true false];cases listed'.getD i false<;>cases (i==k)<;>rfl
    rw [hsub]
    have hmem:k∈dn l.toArray listed':=by unfold dn;rw [List.mem_filter];exact ⟨List.mem_range.2 b1,by simpa using b2⟩
    refine Nat.lt_of_le_of_ne (lG _ _) fun e=>?_
    have:=List.length_filter_eq_length_iff.1 e k hmem
    simp at this
   have h0:=hopen k0 hk0
   cases fuel with
   | zero=>omega
   | succ f =>
    refine ⟨fun hz=>?_,fun i hi=>?_⟩
    ·have:=hr.back hw hl qc hk0
     rw [hz] at this;cases this
    ·rcases hr.window hw hl qc hi with ⟨k,rfl,hk,hkr⟩|hall
     ·have hle:=hw.le;have ho:ops[n+k]?=some ops[n+k]:=tC ax;obtain ⟨-,-,h3⟩:=xu hi ho;have hw1:=h.2 k hkr;have hlk:l.toArray[k]?=some (strip n ops[n+k]):=by simpa using hl k hk _ ho
      have hnext:∀ (a':Act) (w':World),(∀ s,ops[n+k].dst≠some s→a'.tmps[s]?=a.tmps[s]?)→wpAny P .any l.toArray (BO P ops Q m) f' (listed'.setIfInBounds k true) a' w'→wpAny P .any ops Q f (listed.setIfInBounds (n+k) true) a' w':=fun a' w' ht hK=>by
       refine ih _ _ f a' w' (hr.set hw hk ho h3) ?_ (by have:=hopen k hkr;omega) hK;rcases hy with hy|hy
       ·exact .inl hy
       ·by_cases hn0:n=0
        ·exact .inl hn0
        ·refine .inr ?_
         have hoq:ops[n - 1]?=some ops[n - 1]:=tC ax
         unfold yielded at hy ⊢
         rw [hoq] at hy ⊢
         simp only [Option.bind_some] at hy ⊢
         cases hd:ops[n - 1].dst with
         | none=>rw [hd] at hy;simp at hy
         | some s =>
          rw [hd] at hy;simp only [Option.bind_some] at hy ⊢;rw [ht s (hw.dst ax (n+k) _ _ ax ax ho hoq s hd)];exact hy
      unfold wpOp at hw1 ⊢;rw [hlk] at hw1;rw [ho];simp only at hw1 ⊢;rw [E3 hw hl hy hk ho] at hw1;split at hw1
      ·rename_i hwt;rw [if_pos hwt];rcases hw1 with hw1|⟨hw1,hw2⟩
       ·left;have hw3:ops[n+k].wp P a w (wpAny P .any l.toArray (BO P ops Q m) f' (listed'.setIfInBounds k true)) (BO P ops Q m):=hw1;exact Oper.Gc Dj (Oper.wp_mono (fun a' w' h=>hnext a' w' h.2 h.1) (Oper.wp_put hw3))
       ·right;exact ⟨hw1,kP Dj hw2⟩
      ·rename_i hwt;rw [if_neg hwt];refine hnext _ _ (fun s hs=>?_) hw1;unfold Act.put;split
       ·rename_i d hd;simp only;rw [Array.getElem?_setIfInBounds_ne (fun e=>hs (by rw [hd,e]))]
       ·rfl
     ·exfalso
      obtain ⟨b1,b2,-⟩:=fo hk0
      have hkm:k0<m - n:=by rw [←qc];simpa using b1
      have:=hall (n+k0) ax
      rw [hr.mid k0 hkm,jL (by rw [hr.s2];exact hkm) false true,b2] at this
      cases this
def Ik (ops:Array Oper) (n m:Nat):Bool:=decide (n<m)&&decide (m≤ops.size) &&
 ((List.range (m - n)).all fun k=>match ops[n+k]? with
  | none=>true
  | some o=>(o.after.toList.all fun e=>!Region.binds .any e||decide (e.on<n+k))&&(match o.guard with
   | none=>true
   | some (q,b)=>(decide (n≤q)&&decide (q<n+k))||(b&&decide (q+1=n)))&&(match (ops[n - 1]?).bind (·.dst) with
   | none=>true
   | some s=>decide (n=0)||!(o.dst==some s))) &&
 ((List.range (m - n)).all fun k=>decide (n+k+1=m)||(List.range (m - n)).any fun k'=>decide (k<k')&&match ops[n+k']? with
  | none=>false
  | some o=>o.after.toList.any fun e=>Region.binds .any e&&e.on==n+k) &&
 ((List.range (ops.size - m)).all fun k=>match ops[m+k]? with
  | none=>true
  | some o=>o.after.toList.any fun e=>Region.binds .any e&&decide (m≤e.on+1)&&decide (e.on<m+k))
theorem YH (h:Ik ops n m=true):tv ops n m:=by
 unfold Ik at h;simp only [gi,decide_eq_true_eq,Bq,List.mem_range] at h;obtain ⟨⟨⟨⟨h1,h2⟩,h3⟩,h4⟩,h5⟩:=h;have h3':∀ i o,n≤i→i<m→ops[i]?=some o→_:=fun i o hi hm ho=>by
  have:=h3 (i - n) ax
  rw [show n+(i - n)=i by omega,ho] at this
  exact this
 refine ⟨h1,h2,fun i o hi hm ho e he hb=>?_,fun i o q b hi hm ho hg=>?_,fun hn i o oq hi hm ho hoq s hs=>?_,fun i hi hm=>?_,fun j o hj ho=>?_⟩
 ·have:=h3' i o hi hm ho
  simp only [gi,Bq] at this
  have:=this.1.1 e (by simpa using he)
  simpa [hb] using this
 ·have:=h3' i o hi hm ho
  simp only [gi,Bq] at this
  have:=this.1.2
  rw [hg] at this
  simp only [Bool.or_eq_true,gi,decide_eq_true_eq] at this
  exact this
 ·have:=h3' i o hi hm ho
  simp only [gi,Bq] at this
  have:=this.2
  rw [hoq] at this
  simp only [Option.bind_some,hs,Bool.or_eq_true,decide_eq_true_eq] at this
  rcases this with h|h
  ·omega
  ·intro e;rw [e] at h;simp at h
 ·have:=h4 (i - n) ax
  simp only [Bool.or_eq_true,decide_eq_true_eq,List.any_eq_true,List.mem_range,gi] at this
  rcases this with h|⟨k',hk',hlt,h⟩
  ·omega
  ·split at h
   ·cases h
   ·rename_i o ho;simp only [List.any_eq_true,gi,beq_iff_eq] at h;obtain ⟨e,he,hb,hon⟩:=h;exact ⟨n+k',o,ax,ax,ho,e,by simpa using he,hb,ax⟩
 ·have hjs:=(Array.getElem?_eq_some_iff.1 ho).1
  have:=h5 (j - m) ax
  rw [show m+(j - m)=j by omega,ho] at this
  simp only [List.any_eq_true,gi,decide_eq_true_eq] at this
  obtain ⟨e,he,⟨hb,h6⟩,h7⟩:=this
  exact ⟨e,by simpa using he,hb,h6,h7⟩
theorem rM (n m:Nat) (hB:Ik ops n m=true) (hl:l=((ops.toList.drop n).take (m - n)).map (strip n)) (hy:n=0∨yielded ops a.tmps (n - 1)=some true) (h:wpAny P .any l.toArray (BO P ops Q m) l.toArray.size (Array.replicate l.toArray.size false) a w):cX P ops Q n a w:=by
 have hw:=YH hB;have hle:=hw.le;have hnm:=hw.nm;have qc:l.length=m - n:=by rw [hl];simp;omega
 have hlk:∀ k,k<m - n→∀ o,ops[n+k]?=some o→l[k]?=some (strip n o):=fun k hk o ho=>by rw [hl,wB,List.getElem?_take,if_pos hk,List.getElem?_drop,tV,ho];rfl
 intro fuel listed hf hs BU;refine Vg hw hlk qc _ _ listed fuel a w ⟨hs,by simp [qc],fun i hi=>by rw [BU i (by omega)];simpa using hi,fun k hk=>?_,fun i hi=>?_,fun k o hk ho sH=>?_⟩ hy ?_ h
 ·rw [BU (n+k) ax,decide_eq_false ax,getD_replicate_false]
 ·by_cases h2:i<ops.size
  ·rw [BU i h2];simp;omega
  ·simp [Array.getD,hs,h2]
 ·rw [getD_replicate_false] at sH;cases sH
 ·have:(dn l.toArray (Array.replicate l.toArray.size false)).length≤m - n:=by unfold dn;refine Fc (lG _ _) ?_;simp [qc]
  omega
theorem KS (n m:Nat) (hB:Ik ops n m=true) (hl:l=((ops.toList.drop n).take (m - n)).map (strip n)) (hy:n=0∨yielded ops a.tmps (n - 1)=some true) (hx:Region.lexB .any l.toArray=true)
 (h:wpQuiet P l.toArray (fun w'=>∃ x:Later w,w'=x.world) (fun a'=>∀ x:Later w,cX P ops Q m a' x.world) l a):cX P ops Q n a w:=by
 refine rM n m hB hl hy ?_
 simp only [Region.lexB,gi] at hx
 have h1:=wpAnyQ_lex (C:=fun w'=>∃ x:Later w,w'=x.world) (md:=.any) hx.1 l 0 (Array.replicate l.toArray.size false) a aH (by simpa using hx.2) h
 have h2:=wpAny_of_quiet (Q:=fun a'=>∀ x:Later w,cX P ops Q m a' x.world) (Q':=BO P ops Q m) (fun a' w' ⟨x,hx⟩ hq=>by
  subst hx;exact hq x) _ _ _ w ⟨⟨w,Below.refl _ _⟩,rfl⟩ h1
 simpa using h2
theorem Vh (n m:Nat) (hB:Ik ops n m=true) (hl:l=((ops.toList.drop n).take (m - n)).map (strip n)) (hy:n=0∨yielded ops a.tmps (n - 1)=some true) (hx:Region.seqB .any l.toArray l.length 0 (Array.replicate l.length false)=true) (h:wpList P l.toArray (BO P ops Q m) l a w):cX P ops Q n a w :=
 rM n m hB hl hy (by
  have:=wpAny_of_seq (md:=.any) (ops:=l.toArray) l 0 (Array.replicate l.length false) a w (fun j=>aH) hx h
  simpa using this)
abbrev Pq (ops:Array Oper) (n m:Nat):List Oper:=((ops.toList.drop n).take (m - n)).map (strip n)
theorem fq (n m:Nat) (h:wpQuiet P l.toArray (fun w'=>∃ x:Later w,w'=x.world) (fun a'=>∀ x:Later w,cX P ops Q m a' x.world) l a)
 (hl:Pq ops n m=l:=by rewrite [yB.out];simp only [Pq,List.drop_succ_cons,List.drop_zero,List.take_succ_cons,List.take_zero,jQ,uL,strip,Nat.reduceLeDiff,if_false,if_true,Nat.reduceSub];exact rfl)
 (hB:Ik ops n m=true:=by rewrite [yB.out];kernel_rfl) (hy:n=0∨yielded ops a.tmps (n - 1)=some true:=by first|exact .inl rfl|exact .inr (by rewrite [yB.out];rfl)) (hx:Region.lexB .any l.toArray=true:=by kernel_rfl):cX P ops Q n a w:=KS n m hB hl.symm hy hx h
theorem fs (n m:Nat) (h:wpList P l.toArray (BO P ops Q m) l a w)
 (hl:Pq ops n m=l:=by rewrite [yB.out];simp only [Pq,List.drop_succ_cons,List.drop_zero,List.take_succ_cons,List.take_zero,jQ,uL,strip,Nat.reduceLeDiff,if_false,if_true,Nat.reduceSub];exact rfl)
 (hB:Ik ops n m=true:=by rewrite [yB.out];kernel_rfl) (hy:n=0∨yielded ops a.tmps (n - 1)=some true:=by first|exact .inl rfl|exact .inr (by rewrite [yB.out];rfl)) (hx:Region.seqB .any l.toArray l.length 0 (Array.replicate l.length false)=true:=by kernel_rfl):cX P ops Q n a w:=Vh n m hB hl.symm hy hx h
theorem fw (n m:Nat) (h:wpAny P .any l.toArray (BO P ops Q m) l.toArray.size (Array.replicate l.toArray.size false) a w)
 (hl:Pq ops n m=l:=by rewrite [yB.out];simp only [Pq,List.drop_succ_cons,List.drop_zero,List.take_succ_cons,List.take_zero,jQ,uL,strip,Nat.reduceLeDiff,if_false,if_true,Nat.reduceSub];exact rfl)
 (hB:Ik ops n m=true:=by rewrite [yB.out];kernel_rfl) (hy:n=0∨yielded ops a.tmps (n - 1)=some true:=by first|exact .inl rfl|exact .inr (by rewrite [yB.out];rfl)):cX P ops Q n a w:=rM n m hB hl.symm hy h
theorem fQ {A B:Prop} (k:B) (h:B→A:=by
 intro kk;repeat go_big_quiet_step (fail)
 refine wpQuiet_nil ?_;intro x9;have FG:=Hi (FF.out.later x9.below);generalize x9.world=wq at FG ⊢;clear x9;revert wq;exact kk):A:=h k
theorem fR {A B:Prop} (k:B) (h:B→A:=by
 intro kk
 have rq:=FF.out.mem.ei
 rewrite [HLA.out] at rq
 replace rq:=rl rq
 repeat go_big_quiet_step (fail)
 refine wpQuiet_nil ?_
 intro x9
 have FG:=Hi (FF.out.later x9.below)
 generalize x9.world=wq at FG ⊢
 clear x9 rq
 revert wq
 exact kk):A:=h k
theorem Dk {N:Nat} (hN:ops.size=N) (h:Q .normal a w):cX P ops Q N a w:=by rw [←hN];exact Vf h
theorem Bh (h:∀ O:Array Oper,O=ops→(Code.region id O true).wp P Q a w):(Code.region id ops true).wp P Q a w:=h ops rfl
def mQ (T:Act→World→Prop) (Q:Exit→Act→World→Prop):Exit→Act→World→Prop:=fun e a w=>match e with
 | .normal=>T a w
 | e=>Q e a w
theorem Il {Q1 Q2:Exit→Act→World→Prop} (hn:∀ a w,Q1 .normal a w→Q2 .normal a w) (he:∀ e,e≠.normal→∀ a w,Q1 e a w→Q2 e a w):∀ (fuel:Nat) (listed:Array Bool) (a:Act) (w:World),wpAny P .any ops Q1 fuel listed a w→wpAny P .any ops Q2 fuel listed a w
 | 0,_,_,_,h=>⟨h.1,hn _ _ h.2⟩
 | f+1,_,_,_,h=>⟨fun hr=>hn _ _ (h.1 hr),fun i hi=>zW he (wpOp_mono (fun a' w' h'=>Il hn he f _ a' w' h') (h.2 i hi))⟩
theorem any_merge (T:Act→Act→World→Prop) {fuel:Nat} (h1:wpAny P .any ops (mQ (T a) Q) fuel listed a w) (h2:∀ a' w',T a a' w'→Q .normal a' w'):wpAny P .any ops Q fuel listed a w :=
 Il (Q1:=mQ (T a) Q) (fun a' w' h=>h2 a' w' h) (fun e he a' w' h=>by cases e<;>first|exact absurd rfl he|exact h) fuel listed a w h1
end
end Go
namespace Go.Proofs.N0
open Go.RowKit Go.Maps Go.ChangeMaps
theorem E4:af.decode []=(af.iG,2):=by rfl
theorem Pr {A0 B0 A1 B1 A2 A3 B2 B3 A4 B4 B5 A5 A6:af.Core} {s1 s2 s3 s4 s5 s6 s7 s8 s9 xH:af.Store} {m1 m2 m3 m4:af.bJ} {Mx Mz hh Pu Pv IC IE pe7 h7 co7 pe8 h8 co8 pe9 h9 co9:Int} {MB Px tx8 tx9:List UInt8} {MC Py ye7 ye8 ye9:Bool} (W:World) (H1:af.pM af.fD 0 A0 1 5=some (s1,A1,m1)) (H2:af.fC s1 1 B0 m1 6=some (s2,B1,⟨Mx,MB,MC,hh,some m2,Mz⟩,0)) (H3:af.fC s2 2 A1 m2 7=some (s3,A2,⟨Pu,Px,Py,hh,none,Pv⟩,0)) (H4:af.xp s3 A2 0 [104,101,108,108,111]=some (s4,A3,m3)) (H5:af.fC s4 3 B1 m3 8=some (s5,B2,⟨IC,[104,101,108,108,111],true,hh,none,IE⟩,0)) (H6:af.xp s5 B2 0 [98,97,99,107]=some (s6,B3,m4)) (H7:af.fC s6 4 A3 m4 9=some (s7,A4,⟨pe7,[98,97,99,107],ye7,h7,none,co7⟩,0)) (H8:af.fC s7 5 B3 m3 9=some (s8,B4,⟨pe8,tx8,ye8,h8,none,co8⟩,12)) (H9:af.fC s8 6 B4 m1 9=some (s9,B5,⟨pe9,tx9,ye9,h9,none,co9⟩,12)) (H11:af.EY (af.BN s9 7) A4 0=some (xH,A5)) (H12:af.EZ A5 2000=some (A6,1)) (M1:af.xq A0 0=true) (M2:af.xq B1 0=true) (hpos:0<hh) (HD:af.E0 A4 0=some 0) (T1:af.dM A4 0=some [hh]) (T2:af.dM B5 0=some [hh]) (T3:af.dM A6 0=some []) (HS:xH.has 1=true) (P4:A4.aj.length=1) (P5:A5.aj.length=1) (L1:1<(af.bM m1 1 8).length)
 (CT:Calls Tryz.prog 10 #[.string ⟨#[2,1]⟩,.string ⟨#[1]⟩,vI 8] W fun e w'=>∃ p b1 b2,e=.returned (.tuple #[vP p 0,vP b1 0,vP b2 0])∧NF [] W w' [ah p af.fD,bK p b1 (A0.pt 8 1),bK p b2 (B0.pt 8 1)] []) :
 Calls Tryz.prog 18 #[] W fun e w'=>e=.returned (.bool true)∧Below W.heap.size W w':=by
 have HH1:=Hi H1
 have HH2:=Hi H2
 have HH3:=Hi H3
 have HH4:=Hi H4
 have HH5:=Hi H5
 have HH6:=Hi H6
 have HH7:=Hi H7
 have HH8:=Hi H8
 have HH9:=Hi H9
 have HH11:=Hi H11
 have HH12:=Hi H12
 have sw:=Hi M1
 have P8:=Hi M2
 have HHD:=Hi HD
 have sW:=Hi T1
 have wV:=Hi T2
 have HT3:=Hi T3
 have HHS:=Hi HS
 have HP4:=Hi P4
 have HP5:=Hi P5
 obtain ⟨HL1,HPOS,HCT⟩:=ju L1 hpos CT
 clear H1 H2 H3 H4 H5 H6 H7 H8 H9 H11 H12 M1 M2 HD T1 T2 T3 HS P4 P5 L1 hpos CT
 go_enter Tryz.func18,Tryz.ntmps18
 go_wp2_with fail
 refine HCT.out.mono ?_
 rintro e w1 ⟨p,pa,pb,rfl,g⟩
 obtain ⟨L9,hL9⟩:∃ L9:List (Nat×Obj),L9=[]:=⟨_,rfl⟩
 have F0:Hid (NF [] W w1 [ah p af.fD,bK p pa (A0.pt 8 1),bK p pb (B0.pt 8 1)] L9):=Hi (by rw [hL9];exact g)
 clear g HCT hL9
 go_wp2_with fail
 refine (Da (ms:=1) (w:=0) (text:=[120]) sw.out F0.out).mono ?_
 rintro e w1 ⟨rfl,g⟩
 have F1:=Hi g
 clear g F0
 go_wp2_with fail
 refine (dJ (n:=0) F1.out aG).mono ?_
 rintro e w2 ⟨rfl,g⟩
 have F2:=Hi g
 clear g F1
 go_wp2_with fail
 refine (um (ms:=1) HH1.out aG aG F2.out).mono ?_
 rintro e w3 ⟨v,rfl,g⟩
 obtain ⟨f9,⟨bE,-⟩,-⟩:=g.tell
 obtain ⟨qr3,cr3,rfl⟩:=gl bE
 clear bE
 have F3:=Hi g
 clear g F2
 go_wp2_with fail
 refine (dJ (n:=1) (F3.out.up 1) aG).mono ?_
 rintro e w4 ⟨rfl,g⟩
 have F4:=Hi g
 clear g F3
 go_wp2_with fail
 refine Calls.mono (R:=fun e w'=>∃ (oq:Option Addr) (ol oc:Nat),e=.returned (.tuple #[.agg (eM Mx MB MC hh (.slice oq ol oc) Mz),vI 0])∧NF [] W w' (bA (.slice oq ol oc) (af.bM m2 1 8)::ah p (s2)::bK p pb (B1.pt 8 2)::_) _) (ij (ms:=1) (id:=1) (mm:=m1) HH2.out aG aG aG aG ⟨aG,aG⟩ (F4.out.up 1|>.up 3|>.up 2)) ?_
 rintro e w5 ⟨Dl,Dm,Dn,rfl,g⟩
 have F5:=Hi (g.alloc (cl (eM Mx MB MC hh (.slice Dl Dm Dn) Mz) 35))
 clear g F4
 obtain ⟨RR,pH⟩:∃ RR:List aW,RR=bK p pb (B1.pt 8 2)::bA (.slice qr3 (af.bM m1 1 8).length cr3) (af.bM m1 1 8)::[]:=⟨_,rfl⟩
 have FS:=Hi (F5.out.up 4|>.up 2)
 rw [←pH] at FS
 have uw:=Hi pH
 clear pH F5
 have CG:Hid (∀ (W1:World) (L1:List (Nat×Obj)),NF [] W W1 (ah p (af.BN (s2) 2)::bK p pa (A1.pt 8 2)::bA (.slice Dl Dm Dn) (af.bM m2 1 8)::RR) L1→Calls Tryz.prog 13 #[vP pa 0,.slice Dl Dm Dn,vU 7,.agg #[vI (af.KR (s2) 2:Nat),vI (af.Qb (s2) 2:Nat),vI (af.Vb (s2) 2:Nat)]] W1 fun e w'=>∃ (oq:Option Addr) (ol oc:Nat),e=.returned (.tuple #[.agg (eM Pu Px Py hh (.slice oq ol oc) Pv),vI 0])∧NF [] W w' (bA (.slice oq ol oc) ([])::ah p (s3)::bK p pa (A2.pt 8 2)::bA (.slice Dl Dm Dn) (af.bM m2 1 8)::RR) L1):=Hi fun W1 L1 h9=>ij (ms:=2) (id:=1) (mm:=m2) HH3.out aG aG aG aG ⟨aG,aG⟩ h9
 go_wp2_with fail
 refine XK (n:=277) [4,5,6,7,10] [9] (tb [vP pa 0,vP w5.heap.size 4,some (.slice Dl Dm Dn),vP p 0,some (.agg #[vI (af.KR (s2) 2:Nat),vI (af.Qb (s2) 2:Nat),vI (af.Vb (s2) 2:Nat)]),none,none,none,vI 0,none,none,vI 0]) ((w5.heap.size,cl (eM Mx MB MC hh (.slice Dl Dm Dn) Mz) 35)::[]) [kN [] W [(9,cl (dK) 35)] (ah p s2::bK p pa (A1.pt 8 2)::bA (.slice Dl Dm Dn) (af.bM m2 1 8)::RR) ((w5.heap.size,cl (eM Mx MB MC hh (.slice Dl Dm Dn) Mz) 35)::L9),
  kN [] W [(9,cl (dK) 35)] (ah p (af.BN (s2) 2)::bK p pa (A1.pt 8 2)::bA (.slice Dl Dm Dn) (af.bM m2 1 8)::RR) ((w5.heap.size,cl (eM Mx MB MC hh (.slice Dl Dm Dn) Mz) 35)::L9),
  jW (α:=Option Addr×Nat×Nat×Unit) [] W (fun ch=>[(5,.tuple #[.agg (eM Pu Px Py hh (.slice ch.1 ch.2.1 ch.2.2.1) Pv),vI 0])]) (fun _=>[(9,cl (dK) 35)]) (fun ch=>bA (.slice ch.1 ch.2.1 ch.2.2.1) ([])::ah p s3::bK p pa (A2.pt 8 2)::bA (.slice Dl Dm Dn) (af.bM m2 1 8)::RR) (fun _=>(w5.heap.size,cl (eM Mx MB MC hh (.slice Dl Dm Dn) Mz) 35)::L9),
  jW (α:=Option Addr×Nat×Nat×Unit) [] W (fun ch=>[(5,.tuple #[.agg (eM Pu Px Py hh (.slice ch.1 ch.2.1 ch.2.2.1) Pv),vI 0]),(6,.tuple #[.agg (eM Pu Px Py hh (.slice ch.1 ch.2.1 ch.2.2.1) Pv),vI 0])]) (fun _=>[(9,cl (dK) 35)]) (fun ch=>bA (.slice ch.1 ch.2.1 ch.2.2.1) ([])::ah p s3::bK p pa (A2.pt 8 2)::bA (.slice Dl Dm Dn) (af.bM m2 1 8)::RR) (fun _=>(w5.heap.size,cl (eM Mx MB MC hh (.slice Dl Dm Dn) Mz) 35)::L9),
  jW (α:=Option Addr×Nat×Nat×Unit) [] W (fun ch=>[(5,.tuple #[.agg (eM Pu Px Py hh (.slice ch.1 ch.2.1 ch.2.2.1) Pv),vI 0]),(6,.tuple #[.agg (eM Pu Px Py hh (.slice ch.1 ch.2.1 ch.2.2.1) Pv),vI 0]),(7,.agg (eM Pu Px Py hh (.slice ch.1 ch.2.1 ch.2.2.1) Pv))]) (fun _=>[(9,cl (dK) 35)]) (fun ch=>bA (.slice ch.1 ch.2.1 ch.2.2.1) ([])::ah p s3::bK p pa (A2.pt 8 2)::bA (.slice Dl Dm Dn) (af.bM m2 1 8)::RR) (fun _=>(w5.heap.size,cl (eM Mx MB MC hh (.slice Dl Dm Dn) Mz) 35)::L9),
  jW (α:=Option Addr×Nat×Nat×Unit) [] W (fun ch=>[(5,.tuple #[.agg (eM Pu Px Py hh (.slice ch.1 ch.2.1 ch.2.2.1) Pv),vI 0]),(6,.tuple #[.agg (eM Pu Px Py hh (.slice ch.1 ch.2.1 ch.2.2.1) Pv),vI 0]),(7,.agg (eM Pu Px Py hh (.slice ch.1 ch.2.1 ch.2.2.1) Pv))]) (fun ch=>[(9,cl (eM Pu Px Py hh (.slice ch.1 ch.2.1 ch.2.2.1) Pv) 35)]) (fun ch=>bA (.slice ch.1 ch.2.1 ch.2.2.1) ([])::ah p s3::bK p pa (A2.pt 8 2)::bA (.slice Dl Dm Dn) (af.bM m2 1 8)::RR) (fun _=>(w5.heap.size,cl (eM Mx MB MC hh (.slice Dl Dm Dn) Mz) 35)::L9)] (FS.out) ⟨sP,sP,sP,sP,?_,?_,sY,sY,sE 2,sA 4 (cl (dK) 35),?_,sP,trivial⟩ ?_
 ·refine wC ?_;intro D v qq x h0;exact mo (dJ (n:=2) h0 aG)
 ·exact SX
 ·exact QT
 ·intro v qq x ch hF hS hA h;obtain ⟨oqx,olx,ocx,_⟩:=ch;simp only [tH,and_true] at hS;simp only [SA,SC] at hA h;generalize qq 9=q9 at hA h;have FT:=Hi h;simp only [PU,bF,Nat.reduceAdd,gT hF 11,hA,hS];clear hF hS hA h;have F7:=FT.out.lA (A:=[_]);rw [uw.out] at F7;have F7:=Hi F7;clear CG FT FS uw RR;go_wp2_with fail;refine (Da (ms:=2) (w:=0) (text:=[120]) P8.out (F7.out.up 3|>.up 1)).mono ?_;rintro e w6 ⟨rfl,g⟩;have F6:=Hi g;clear g F7;go_wp2_with fail;refine (C9 (ms:=2) (w:=0) (text:=[104,101,108,108,111]) HH4.out aG (F6.out.up 2|>.up 1)).mono ?_;rintro e w7 ⟨v,rfl,g⟩;obtain ⟨f9,⟨bE,-⟩,-⟩:=g.tell;obtain ⟨qr7,cr7,rfl⟩:=gl bE;clear bE;have F7:=Hi g;clear g F6;go_wp2_with fail;refine (dJ (n:=3) (F7.out.up 1) aG).mono ?_;rintro e w8 ⟨rfl,g⟩;have F8:=Hi g;clear g F7;go_wp2_with fail;refine Calls.mono (R:=fun e w'=>∃ (oq:Option Addr) (ol oc:Nat),e=.returned (.tuple #[.agg #[vI IC,.string ⟨#[104,101,108,108,111]⟩,.bool true,vI hh,.slice oq ol oc,vI IE],vI 0])∧NF [] W w' (bA (.slice oq ol oc) ([])::ah p (s5)::bK p pb (B2.pt 8 2)::_) _) (ij (ms:=2) (id:=2) (mm:=m3) HH5.out aG aG aG aG ⟨aG,aG⟩ (F8.out.up 1|>.up 3|>.up 2)) ?_;rintro e w9 ⟨oq9,ol9,oc9,rfl,g⟩;have F9:=Hi ((g.lA (A:=[_])).alloc (cl #[vI IC,.string ⟨#[104,101,108,108,111]⟩,.bool true,vI hh,.slice oq9 ol9 oc9,vI IE] 35));clear g F8;go_wp2_with fail;refine (C9 (ms:=2) (w:=0) (text:=[98,97,99,107]) HH6.out aG F9.out).mono ?_;rintro e JF ⟨v,rfl,g⟩;obtain ⟨f9,⟨bE,-⟩,-⟩:=g.tell;obtain ⟨YI,YJ,rfl⟩:=gl bE;clear bE;have qR:=Hi g;clear g F9;go_wp2_with fail;refine (dJ (n:=4) (qR.out.up 1) aG).mono ?_;rintro e P2 ⟨rfl,g⟩;have qd:=Hi g;clear g qR;go_wp2_with fail;refine Calls.mono (R:=fun e w'=>∃ (oq:Option Addr) (ol oc:Nat),e=.returned (.tuple #[.agg #[vI pe7,.string ⟨#[98,97,99,107]⟩,.bool ye7,vI h7,.slice oq ol oc,vI co7],vI 0])∧NF [] W w' (bA (.slice oq ol oc) ([])::ah p (s7)::bK p pa (A4.pt 8 3)::_) _) (ij (ms:=3) (id:=2) (mm:=m4) HH7.out aG aG aG aG ⟨aG,aG⟩ (qd.out.up 1|>.up 4|>.up 2)) ?_;rintro e E9 ⟨nh,nj,nr,rfl,g⟩;have xJ:=Hi ((g.lA (A:=[_])).alloc (cl #[vI pe7,.string ⟨#[98,97,99,107]⟩,.bool ye7,vI h7,.slice nh nj nr,vI co7] 35));clear g qd;go_wp2_with fail;refine (dJ (n:=5) xJ.out aG).mono ?_;rintro e Vw ⟨rfl,g⟩;have Cm:=Hi g;clear g xJ;go_wp2_with fail;refine Calls.mono (R:=fun e w'=>∃ (oq:Option Addr) (ol oc:Nat),e=.returned (.tuple #[.agg (eM pe8 tx8 ye8 h8 (.slice oq ol oc) co8),vI 12])∧NF [] W w' (bA (.slice oq ol oc) ([])::ah p (s8)::bK p pb (B4.pt 8 3)::_) _) (ij (ms:=3) (id:=2) (mm:=m3) HH8.out aG aG aG aG ⟨aG,aG⟩ (Cm.out.up 4|>.up 4|>.up 2)) ?_;rintro e Vx ⟨oq14,ol14,oc14,rfl,g⟩;have Fa:=Hi ((g.lA (A:=[_])).alloc (cl (eM pe8 tx8 ye8 h8 (.slice oq14 ol14 oc14) co8) 35));clear g Cm;go_wp2_with fail;refine (dJ (n:=6) Fa.out aG).mono ?_;rintro e w15 ⟨rfl,g⟩;have LQ:=Hi g;clear g Fa;go_wp2_with fail;refine Calls.mono (R:=fun e w'=>∃ (oq:Option Addr) (ol oc:Nat),e=.returned (.tuple #[.agg (eM pe9 tx9 ye9 h9 (.slice oq ol oc) co9),vI 12])∧NF [] W w' (bA (.slice oq ol oc) ([])::ah p (s9)::bK p pb (B5.pt 8 3)::_) _) (ij (ms:=3) (id:=1) (mm:=m1) HH9.out aG aG aG aG ⟨aG,aG⟩ (LQ.out.up 6|>.up 2|>.up 2)) ?_;rintro e w16 ⟨oq16,ol16,oc16,rfl,g⟩;have Iu:=Hi ((g.lA (A:=[_])).alloc (cl (eM pe9 tx9 ye9 h9 (.slice oq16 ol16 oc16) co9) 35));clear g LQ;go_wp2_with fail;refine (dJ (n:=7) Iu.out aG).mono ?_;rintro e w17 ⟨rfl,g⟩;have Eh:=Hi g;clear g Iu;go_wp2_with fail;refine (UX (who:=1) (Eh.out.up 4|>.up 1) (by unfold af.Pt.has;show (decide ((0:Int)≤1)&&decide ((1:Int)<(A4.aj.length:Int)))=false;rw [HP4.out];rfl)).mono ?_;rintro e w18 ⟨rfl,g⟩;have qV:=Hi g;clear g Eh;go_wp2_with fail;refine Calls.mono (R:=fun e w'=>∃ (oq:Option Addr) (ol oc:Nat),e=.returned (.tuple #[.agg #[vI 0,.string ⟨#[]⟩,.bool false,vI 0,.slice oq ol oc,vI 0],vI 2])∧NF [] W w' (bA (.slice oq ol oc) []::_) _) (cI.slices (Uw (w:=0) (eW:=[]) (now:=5) (d0:=1) (d1:=1) qV.out aG (by unfold af.Pt.has;show (decide ((0:Int)≤0)&&decide ((0:Int)<(A4.aj.length:Int)))=true;rw [HP4.out];rfl) E4 aG)) ?_;rintro e w19 ⟨oqt,olt,oct,rfl,g⟩;have yK:=Hi ((g.lA (A:=[_])).alloc (cl #[vI 0,.string ⟨#[]⟩,.bool false,vI 0,.slice oqt olt oct,vI 0] 35));clear g qV;go_wp2_with fail;refine Calls.mono (R:=fun e w'=>e=.returned (.tuple #[vI 0,vI 0,vI 0])∧NF [] W w' _ _) (Pj (w:=0) HHD.out yK.out) ?_;rintro e w20 ⟨rfl,g⟩;have F20:=Hi g;clear g yK;have e1:decide ((1:Int)<((af.bM m1 1 8).length:Int))=true:=by have:=HL1.out;simp;omega
  have e2:decide ((0:Int)<hh)=true:=by have:=HPOS.out;simp;omega
  have e1b:1<(af.bM m1 1 8).length:=HL1.out;have e2b:0<hh:=HPOS.out;go_wp2_with fail;simp only [List.append_eq,bQ,bG];refine Bh ?_;intro VI Vi;refine xV aI ?_;have FD:=Hi (F20.out.later (Below.refl _ _).drew);generalize World.drew _=wd at FD ⊢;clear F20;have yB:=Hi Vi;clear Vi;obtain ⟨RA,hRA⟩:∃ RA:List aW,RA=bA (.slice qr3 (af.bM m1 1 8).length cr3) (af.bM m1 1 8)::bA (.slice qr7 (af.bM m3 2 8).length cr7) (af.bM m3 2 8)::bA (.slice YI (af.bM m4 2 8).length YJ) (af.bM m4 2 8)::bA (.slice Dl Dm Dn) (af.bM m2 1 8)::[]:=⟨_,rfl⟩
  obtain ⟨LA,hLA⟩:∃ LA:List (Nat×Obj),LA=(w19.heap.size,cl #[vI 0,.string ⟨#[]⟩,.bool false,vI 0,.slice oqt olt oct,vI 0] 35)::(w16.heap.size,cl (eM pe9 tx9 ye9 h9 (.slice oq16 ol16 oc16) co9) 35)::(Vx.heap.size,cl (eM pe8 tx8 ye8 h8 (.slice oq14 ol14 oc14) co8) 35)::(E9.heap.size,cl #[vI pe7,.string ⟨#[98,97,99,107]⟩,.bool ye7,vI h7,.slice nh nj nr,vI co7] 35)::(w9.heap.size,cl #[vI IC,.string ⟨#[104,101,108,108,111]⟩,.bool true,vI hh,.slice oq9 ol9 oc9,vI IE] 35)::(q9,cl (eM Pu Px Py hh (.slice oqx olx ocx) Pv) 35)::(w5.heap.size,cl (eM Mx MB MC hh (.slice Dl Dm Dn) Mz) 35)::L9:=⟨_,rfl⟩
  have FF:Hid (NF [] W wd (ah p (af.BN (s9) 7)::bK p pa (A4.pt 8 3)::bK p pb (B5.pt 8 3)::RA) LA):=Hi (by rw [hRA,hLA];exact FD.out);clear FD;obtain ⟨HRA,HLA⟩:=hi2 hRA hLA;clear hRA hLA;refine fq 0 3 ?_;refine fQ ?_;intro wq FF;refine fq 3 7 ?_;refine fQ ?_;intro wq FF;refine fq 7 12 ?_;refine fQ ?_;intro wq FF;refine fq 12 16 ?_;refine fQ ?_;intro wq FF;refine fq 16 21 ?_;refine fR ?_;intro wq FF;refine fq 21 25 ?_;refine fQ ?_;intro wq FF;refine fq 25 32 ?_;refine fR ?_;intro wq FF;refine fq 32 36 ?_;refine fQ ?_;intro wq FF;refine fq 36 40 ?_;refine fQ ?_;intro wq FF;refine fq 40 45 ?_;refine fR ?_;intro wq FF;refine fq 45 49 ?_;refine fR ?_;intro wq FF;refine fq 49 56 ?_;refine fR ?_;intro wq FF;refine fq 56 60 ?_;refine fQ ?_;intro wq FF;refine fq 60 64 ?_;refine fQ ?_;intro wq FF;refine fq 64 69 ?_;refine fR ?_;intro wq FF;refine fq 69 73 ?_;refine fQ ?_;intro wq FF;refine fq 73 77 ?_;refine fQ ?_;intro wq FF;refine fq 77 81 ?_;refine fQ ?_;intro wq FF;refine fq 81 85 ?_;refine fQ ?_;intro wq FF;refine fq 85 89 ?_;refine fQ ?_;intro wq FF;have UR:Hid (∀ (W9:World) (L8:List (Nat×Obj)),NF [] W W9 (ah p (af.BN (s9) 7)::bK p pa (A4.pt 8 3)::bK p pb (B5.pt 8 3)::RA) L8→Calls Tryz.prog 17 #[vP pa 0,vI 0] W9 fun e w'=>∃ v,e=.returned v∧NF [] W w' (EW v [hh]::ah p (af.BN (s9) 7)::bK p pa (A4.pt 8 3)::bK p pb (B5.pt 8 3)::RA) L8):=Hi (fun W9 L8 h9=>iP (w:=0) sW.out h9);refine fw 89 97 ?_;simp only [qg,yQ,List.length_nil,bF,Nat.reduceAdd];refine any_merge (fun a0 a' w'=>∃ (gs cs K:Nat),a'=(((((((a0.put (some 224) (vP pa 0)).put (some 225) (vL gs 0 1 cs)).put (some 226) (vP w5.heap.size 3)).put (some 227) (vI hh)).put (some 228) (vL K 0 1 1)).put (some 229) (.bool true)).put (some 230) (.bool true)).put (some 231) (.bool true)∧NF [] W w' (ah p (af.BN (s9) 7)::bK p pa (A4.pt 8 3)::bK p pb (B5.pt 8 3)::RA) LA) ?_ ?_
  ·have r:=FF.out.mem.rules;rewrite [HLA.out] at r;replace r:=rl r;refine wpAny_take (i:=0) (v:=vP pa 0) rfl aI aI aI (fun _ _ _ h=>h) (Or.inl ⟨by rfl,Mp⟩) ?_;refine wpAny_take (i:=2) (v:=vP w5.heap.size 3) rfl aI aI aI (fun _ _ _ h=>h) (Or.inl ⟨by rfl,Mp⟩) ?_;simp only [Act.put,aX,jr,aY,List.getElem_toArray,JD,yY];refine wpAny_ready (rs:=[1,3]) aI aH ?_;refine AllReady.cons rfl (fun K hK=>?_) (AllReady.cons rfl (fun K hK=>?_) AllReady.nil)
   ·exact a965
   ·go_simp;refine hK _ _ ?_;clear hK K;refine wpAny_ready (rs:=[1,4]) aI aH ?_;refine AllReady.cons rfl (fun K hK=>?_) (AllReady.cons rfl (fun K hK=>?_) AllReady.nil)
    ·exact a972
    ·go_simp;refine hK _ _ ?_;clear hK K;clear r;have F8:=Hi (FF.out.alloc (cl #[vI hh] 3));refine wpAny_ready (rs:=[1]) aI aH (AllReady.cons rfl (fun K hK=>?_) AllReady.nil);go_simp;refine (UR.out _ ((wq.heap.size,cl #[vI hh] 3)::LA) F8.out).mono ?_;rintro e wy ⟨v9,rfl,g⟩;refine hK _ _ ?_;clear hK K;obtain ⟨f9,⟨bE,-⟩,-⟩:=g.tell;have cH:wy.ownsRow 0 3 1 v9 1 [vI hh]:=bE;obtain ⟨gs,cs,rfl,-,-⟩:=kX cH aG;clear cH bE f9;have FY:=Hi g;clear g;obtain ⟨f9,⟨bE,-⟩,-⟩:=FY.out.tell;have cH:World.ownsRow _ 0 3 1 (vL gs 0 1 cs) 1 [vI hh]:=bE;have Mt:=FY.out.lD (x:=(wq.heap.size,cl #[vI hh] 3)) (dN ..);have CS:Hid (Calls Tryz.prog 16 #[vL gs 0 1 cs,vL wq.heap.size 0 1 1] wy fun e w'=>e=.returned (.bool true)∧Below (wy).heap.size (wy) w'):=Hi (nc (l:=[hh]) aH _ (fun k hk=>by
      have hk0:k=0:=ow;subst hk0;exact cH.cellAt 0 aG) (fun k hk=>by
      have hk0:k=0:=ow;subst hk0;first|(simp;done)|simp [World.cell?,Mt]))
     clear cH bE Mt;refine wpAny_ready (rs:=[5]) aI aH (AllReady.cons rfl (fun K hK=>?_) AllReady.nil);go_simp;refine CS.out.mono ?_;rintro e wz ⟨rfl,yN⟩;refine hK _ _ ?_;clear hK K;have HY:=Hi (((FY.out.later yN).lA (A:=[_])).sub (zq _ _));clear CS FY yN;refine wpAny_ready (rs:=[6]) aI aH (AllReady.cons rfl (fun K hK=>?_) AllReady.nil);go_simp;refine hK _ _ ?_;clear hK K;refine wpAny_ready (rs:=[7]) aI aH (AllReady.cons rfl (fun K hK=>?_) AllReady.nil);go_simp;refine hK _ _ ?_;clear hK K;refine wpAny_done aI ?_ _;exact ⟨gs,cs,wq.heap.size,rfl,HY.out⟩
  rintro a' w21 ⟨gs21,cs21,K21,rfl,g9⟩;change cX _ VI _ 97 _ _;simp only [Act.put,aX,jr,aY,List.getElem_toArray,JD,yY];clear FF UR;have FF:=Hi g9;clear g9;have UR:Hid (∀ (W9:World) (L8:List (Nat×Obj)),NF [] W W9 (ah p (af.BN (s9) 7)::bK p pa (A4.pt 8 3)::bK p pb (B5.pt 8 3)::RA) L8→Calls Tryz.prog 17 #[vP pb 0,vI 0] W9 fun e w'=>∃ v,e=.returned v∧NF [] W w' (EW v [hh]::ah p (af.BN (s9) 7)::bK p pa (A4.pt 8 3)::bK p pb (B5.pt 8 3)::RA) L8):=Hi (fun W9 L8 h9=>(iP (w:=0) wV.out (h9.up 2|>.up 1)).mono (by rintro e w' ⟨v,rfl,g⟩;exact ⟨v,rfl,g.up 3|>.up 2|>.up 2⟩));refine fw 97 105 ?_;simp only [qg,yQ,List.length_nil,bF,Nat.reduceAdd];refine any_merge (fun a0 a' w'=>∃ (gs cs K:Nat),a'=(((((((a0.put (some 232) (vP pb 0)).put (some 233) (vL gs 0 1 cs)).put (some 234) (vP w5.heap.size 3)).put (some 235) (vI hh)).put (some 236) (vL K 0 1 1)).put (some 237) (.bool true)).put (some 238) (.bool true)).put (some 239) (.bool true)∧NF [] W w' (ah p (af.BN (s9) 7)::bK p pa (A4.pt 8 3)::bK p pb (B5.pt 8 3)::RA) LA) ?_ ?_
  ·have r:=FF.out.mem.rules;rewrite [HLA.out] at r;replace r:=rl r;refine wpAny_take (i:=0) (v:=vP pb 0) rfl aI aI aI (fun _ _ _ h=>h) (Or.inl ⟨by rfl,Mp⟩) ?_;refine wpAny_take (i:=2) (v:=vP w5.heap.size 3) rfl aI aI aI (fun _ _ _ h=>h) (Or.inl ⟨by rfl,Mp⟩) ?_;simp only [Act.put,aX,jr,aY,List.getElem_toArray,JD,yY];refine wpAny_ready (rs:=[1,3]) aI aH ?_;refine AllReady.cons rfl (fun K hK=>?_) (AllReady.cons rfl (fun K hK=>?_) AllReady.nil)
   ·exact a965
   ·go_simp;refine hK _ _ ?_;clear hK K;refine wpAny_ready (rs:=[1,4]) aI aH ?_;refine AllReady.cons rfl (fun K hK=>?_) (AllReady.cons rfl (fun K hK=>?_) AllReady.nil)
    ·exact a972
    ·go_simp;refine hK _ _ ?_;clear hK K;clear r;have F8:=Hi (FF.out.alloc (cl #[vI hh] 3));refine wpAny_ready (rs:=[1]) aI aH (AllReady.cons rfl (fun K hK=>?_) AllReady.nil);go_simp;refine (UR.out _ ((w21.heap.size,cl #[vI hh] 3)::LA) F8.out).mono ?_;rintro e wy ⟨v9,rfl,g⟩;refine hK _ _ ?_;clear hK K;obtain ⟨f9,⟨bE,-⟩,-⟩:=g.tell;have cH:wy.ownsRow 0 3 1 v9 1 [vI hh]:=bE;obtain ⟨gs,cs,rfl,-,-⟩:=kX cH aG;clear cH bE f9;have FY:=Hi g;clear g;obtain ⟨f9,⟨bE,-⟩,-⟩:=FY.out.tell;have cH:World.ownsRow _ 0 3 1 (vL gs 0 1 cs) 1 [vI hh]:=bE;have Mt:=FY.out.lD (x:=(w21.heap.size,cl #[vI hh] 3)) (dN ..);have CS:Hid (Calls Tryz.prog 16 #[vL gs 0 1 cs,vL w21.heap.size 0 1 1] wy fun e w'=>e=.returned (.bool true)∧Below (wy).heap.size (wy) w'):=Hi (nc (l:=[hh]) aH _ (fun k hk=>by
      have hk0:k=0:=ow;subst hk0;exact cH.cellAt 0 aG) (fun k hk=>by
      have hk0:k=0:=ow;subst hk0;first|(simp;done)|simp [World.cell?,Mt]))
     clear cH bE Mt;refine wpAny_ready (rs:=[5]) aI aH (AllReady.cons rfl (fun K hK=>?_) AllReady.nil);go_simp;refine CS.out.mono ?_;rintro e wz ⟨rfl,yN⟩;refine hK _ _ ?_;clear hK K;have HY:=Hi (((FY.out.later yN).lA (A:=[_])).sub (zq _ _));clear CS FY yN;refine wpAny_ready (rs:=[6]) aI aH (AllReady.cons rfl (fun K hK=>?_) AllReady.nil);go_simp;refine hK _ _ ?_;clear hK K;refine wpAny_ready (rs:=[7]) aI aH (AllReady.cons rfl (fun K hK=>?_) AllReady.nil);go_simp;refine hK _ _ ?_;clear hK K;refine wpAny_done aI ?_ _;exact ⟨gs,cs,w21.heap.size,rfl,HY.out⟩
  rintro a' w22 ⟨gs22,cs22,K22,rfl,g9⟩;change cX _ VI _ 105 _ _;simp only [Act.put,aX,jr,aY,List.getElem_toArray,JD,yY];clear FF UR;have FF:=Hi g9;clear g9;refine fq 105 109 ?_;refine fQ ?_;intro wq FF;refine fq 109 113 ?_;refine fQ ?_;intro wq FF;refine fq 113 117 ?_;refine fQ ?_;intro wq FF;refine fs 117 122 ?_;go_wp2_with fail;refine (Ph (w:=0) HH11.out FF.out).mono ?_;rintro e w23 ⟨rfl,g⟩;have F23:=Hi g;clear g FF;have FF:=F23;clear F23;go_wp2_with fail;change cX _ VI _ 122 _ _;refine fs 122 127 ?_;go_wp2_with fail;refine (O8 (who:=3) FF.out (by unfold af.Pt.has;show (decide ((0:Int)≤3)&&decide ((3:Int)<(A5.aj.length:Int)))=false;rw [HP5.out];rfl)).mono ?_;rintro e w24 ⟨rfl,g⟩;have F24:=Hi g;clear g FF;have FF:=F24;clear F24;go_wp2_with fail;change cX _ VI _ 127 _ _;refine fs 127 132 ?_;go_wp2_with fail;refine (UH (w:=0) (slot:=2) (eX:=1) FF.out (by show 0<A5.aj.length;rw [HP5.out];decide) HHS.out aG).mono ?_;rintro e w25 ⟨rfl,g⟩;have F25:=Hi g;clear g FF;have FF:=F25;clear F25;go_wp2_with fail;change cX _ VI _ 132 _ _;refine fs 132 137 ?_;go_wp2_with fail;refine Calls.mono (R:=fun e w'=>e=.returned (vI 1)∧NF [] W w' _ _) (Pk (now:=2000) HH12.out FF.out) ?_;rintro e w26 ⟨rfl,g⟩;have F26:=Hi g;clear g FF;have FF:=F26;clear F26;go_wp2_with fail;change cX _ VI _ 137 _ _;refine fs 137 143 ?_;go_wp2_with fail;refine (iP (w:=0) HT3.out FF.out).mono ?_;rintro e w27 ⟨v9,rfl,g⟩;obtain ⟨f9,⟨bE,-⟩,-⟩:=g.tell;have cH:w27.ownsRow 0 3 1 v9 0 []:=bE;obtain ⟨qs,cs,rfl⟩:=gl cH;have nB:=Hi (NF.dZ (g.sub (sj _)));clear FF g cH bE e1 e2 e1b e2b;go_wp2_with fail;change cX _ VI _ 143 _ _;refine Dk (by rw [yB.out];rfl) ?_;go_wp2_with fail;go_ret;exact ⟨rfl,nB.out⟩
end Go.Proofs.N0
namespace af
variable {er:Nat} {pe hh co:Int} {tx:List UInt8} {ye:Bool}
theorem getD_eq {α:Type} [Inhabited α] {o:Option α} (h:o.isSome=true):o=some (o.getD default):=by
 cases o with
 | none=>cases h
 | some x=>rfl
theorem Vj (r:AZ) (h:r.out.isNone=true):r=⟨r.peer,r.text,r.yes,r.h,none,r.code⟩:=by
 cases r with
 | mk a b c d e f=>cases e<;>first|rfl|cases h
theorem Vk (r:AZ) (h:r.out.isSome=true):r=⟨r.peer,r.text,r.yes,r.h,some (r.out.getD default),r.code⟩:=by
 cases r with
 | mk a b c d e f=>cases e<;>first|rfl|cases h
theorem mg {o:Option (Store×Core×AZ×Nat)} {g:Store×Core×AZ×Nat} (hg:g=o.getD default) (ho:o.isSome=true) (hn:g.2.2.1.out.isNone=true) (hc:g.2.2.2=er) (h1:g.2.2.1.peer=pe) (h2:g.2.2.1.text=tx) (h3:g.2.2.1.yes=ye) (h4:g.2.2.1.h=hh) (h5:g.2.2.1.code=co):o=some (g.1,g.2.1,⟨pe,tx,ye,hh,none,co⟩,er):=by subst hc h1 h2 h3 h4 h5;rw [←Vj _ hn];exact (getD_eq ho).trans (congrArg some hg.symm)
theorem Dp {o:Option (Store×Core×AZ×Nat)} {g:Store×Core×AZ×Nat} {m:bJ} (hg:g=o.getD default) (ho:o.isSome=true) (hn:g.2.2.1.out.isSome=true) (hm:m=g.2.2.1.out.getD default) (hc:g.2.2.2=er) (h1:g.2.2.1.peer=pe) (h2:g.2.2.1.text=tx) (h3:g.2.2.1.yes=ye) (h4:g.2.2.1.h=hh) (h5:g.2.2.1.code=co):o=some (g.1,g.2.1,⟨pe,tx,ye,hh,some m,co⟩,er):=by subst hc h1 h2 h3 h4 h5 hm;rw [←Vk _ hn];exact (getD_eq ho).trans (congrArg some hg.symm)
theorem Im {α β γ:Type} [Inhabited (α×β×γ)] {o:Option (α×β×γ)} {g:α×β×γ} (hg:g=o.getD default) (ho:o.isSome=true):o=some (g.1,g.2.1,g.2.2):=(getD_eq ho).trans (congrArg some hg.symm)
theorem pair2 {α β:Type} [Inhabited (α×β)] {o:Option (α×β)} {g:α×β} {b:β} (hg:g=o.getD default) (ho:o.isSome=true) (hb:g.2=b):o=some (g.1,b):=by subst hb;exact (getD_eq ho).trans (congrArg some hg.symm)
theorem KT {m:bJ} (h1:8<m.encode.length) (h2:m.encode.length≤128):1<(bM m 1 8).length:=by rw [Dh (n:=8) (Di aG aG aG aG ax h2) rfl aG];rw [Fw,List.length_range];unfold many;omega
end af
namespace Go.Proofs.N0
open Go.RowKit Go.Maps Go.ChangeMaps af
theorem KU (W:World):Calls Tryz.prog 18 #[] W fun e w'=>e=.returned (.bool true)∧Below W.heap.size W w':=by obtain ⟨c2,c3,c5,c7,c8,c9,c12⟩:=YG;obtain ⟨o2,o3,o5,o7,o8,o9⟩:=f_outs;obtain ⟨k1,k3,k5⟩:=f_h;obtain ⟨x5,y5,x7⟩:=f_text;have h1:=Im (g:=g1) rfl f1_ok;have h2:=Dp (g:=g2) (m:=m2) rfl f2_ok o2 rfl c2 rfl rfl rfl rfl rfl;have h3:=mg (g:=g3) rfl f3_ok o3 c3 rfl rfl rfl k3 rfl;have h4:=Im (g:=g4) rfl f4_ok;have h5:=mg (g:=g5) rfl f5_ok o5 c5 rfl x5 y5 k5 rfl;have h6:=Im (g:=g6) rfl f6_ok;have h7:=mg (g:=g7) rfl f7_ok o7 c7 rfl x7 rfl rfl rfl;have h8:=mg (g:=g8) rfl f8_ok o8 c8 rfl rfl rfl rfl rfl;have h9:=mg (g:=g9) rfl f9_ok o9 c9 rfl rfl rfl rfl rfl;have h11:=pair2 (g:=g11) rfl f11_ok rfl;have h12:=pair2 (g:=g12) rfl f12_ok c12;obtain ⟨hs1,hs2,hs3⟩:=f_sess;exact Pr W h1 h2 h3 h4 h5 h6 h7 h8 h9 h11 h12 Vc.1 Vc.2 k1 f_held hs1 hs2 hs3 Vd.1 Vd.2.2.1 Vd.2.2.2 (KT Ve.1 Ve.2) (Dd (one:=[2,1]) (two:=[1]) W aG aG aG aG aG aG)
end Go.Proofs.N0
