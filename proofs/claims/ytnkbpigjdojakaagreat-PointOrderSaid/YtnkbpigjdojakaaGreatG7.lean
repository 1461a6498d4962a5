/- Texts YtnkbpigjdojakaaGreatSlots2 .. YtnkbpigjdojakaaGreatPtInit2, joined. What they prove: the contracts of the functions that the law reaches, and plain law. -/
import Derived.Test.YtnkbpigjdojakaaGreatG6
import Derived.ChangeKeysEq
import Derived.Lib.EndianBits
import Derived.OneCell
set_option maxRecDepth 100000
set_option maxHeartbeats 6400000
variable {A:Prop}
theorem pY (h:A:=by unfold af.One.there;simp [HZ.out]):A:=h
theorem c966 (h:A:=by simp [af.One.there,HZ.out]):A:=h
theorem tO (h:A:=by
 go_wp2_with fail
 go_roundw
 case rel=>exact HR.out
 case measure=>simp [intOf]):A:=h
theorem a99 (h:A:=by
 have e1:((o.id:Int)==(id:Int))=true:=by simp;omega
 have HI:=Hi hi;clear hi;have T:=fun W=>Hi (aT (o:=o) (b:=true) (by unfold af.One.there;simp [HZ.out]) W);unfold eV at T;have F1:=Hi (HF.out.alloc (cl #[vU o.id,vU o.to,vU o.born] 98));have r:=rl F1.out.mem.rules;clear ho;go_wp2_with fail;refine (T _).out.mono ?_;rintro e wk ⟨rfl,hbk⟩;have F2:=Hi (F1.out.later hbk);clear r T hbk F1;have r:=rl F2.out.mem.rules;have hfo:=Ty jS.out gy (by have a:=HZ.out;have b:=HI.out;simp only [af.One.there,gi,decide_eq_true_eq];exact ⟨a,b⟩);rw [hq.out] at hfo;subst hfo;have F3:=Hi (((F2.out.ai (B:=[_]) 0 (vU o.id)).ai (B:=[_]) 1 (vU o.to)).ai (B:=[_]) 2 (vU o.born));simp only [aX,aY,jr,bQ,bG] at F3;have r3:=rl F3.out.mem.rules;clear gy jS hq;go_wp2_with fail;exact bodyPost_ret (v:=.tuple #[.agg #[vU o.id,vU o.to,vU o.born],.bool true]) (by simp [results,Tryz.results90,go_sem,r3]) rfl ⟨rfl,F3.out.dZ⟩):A:=h
theorem c967 (h:A:=by simp [af.One.there,HZ.out,hi]):A:=h
theorem c968 (h:A:=by unfold af.One.jP af.One.there;rw [if_neg (by simp [HZ.out])]):A:=h
theorem Lx (h:A:=by
 have HR:Hid (BJ W l now age (vI (1:Nat)) wk):=Hi ⟨1,_,by omega,rfl,AH jS.out,by rw [hsame];exact F2.out⟩;clear hsame;exact tO):A:=h
theorem c969 (h:A:=by unfold af.One.jP af.One.there;rw [if_neg (by simp [HB.out])]):A:=h
theorem c970 (h:A:=by unfold af.One.jP af.One.there;rw [if_neg (by simp [HA.out])]):A:=h
theorem c971 (h:A:=by rw [hsame];exact F2.out):A:=h
theorem aaj (h:A:=by
 clear hsame;go_wp2_with fail;all_goals exact ⟨HR.out,by simp [intOf]⟩):A:=h
theorem c972 (h:A:=by unfold af.One.jP;rw [if_pos ⟨by unfold af.One.there;simp [HZ.out],HB.out,HA.out⟩]):A:=h
theorem c973 (h:A:=by rw [hnew];exact F3.out):A:=h
theorem Rt (h:A:=by
 have HR:Hid (BJ W l now age (vI (2:Nat)) wk):=Hi ⟨2,_,by omega,rfl,AK jS.out,by rw [hsame];exact F2.out⟩;clear hsame;exact tO):A:=h
theorem Lm (h:A:=by
 have HR:Hid (BJ W l now age (vI (3:Nat)) wk):=Hi ⟨3,_,by omega,rfl,AL jS.out,by rw [hsame];exact F2.out⟩;clear hsame;exact tO):A:=h
theorem Zj (h:A:=by
 have r:=rl F0.out.mem.rules;go_enter Tryz.func27,Tryz.ntmps27;go_wp2_with fail;go_ret;exact ⟨rfl,Below.refl _ _⟩):A:=h
theorem a911 (h:A:=by
 go_wp2_with fail;refine sk (n:=16) [10] [9] (tb [vP k 0,vP k 0,vP k 1,some (.agg (E7 l)),vU id,some (.tuple #[.agg #[vU (r.getD af.bz).id,vU (r.getD af.bz).to,vU (r.getD af.bz).born],.bool r.isSome]),some (.tuple #[.agg #[vU (r.getD af.bz).id,vU (r.getD af.bz).to,vU (r.getD af.bz).born],.bool r.isSome]),some (.agg #[vU (r.getD af.bz).id,vU (r.getD af.bz).to,vU (r.getD af.bz).born]),some (.bool r.isSome),none,none,some (.bool r.isSome)]) [(i,cl #[vU id] 31),(k,cl (oI q l) 109)] (L) [([(9,cl #[vU 0,vU 0,vU 0] 98)],R,[]),
  ([(9,cl #[vU (r.getD af.bz).id,vU (r.getD af.bz).to,vU (r.getD af.bz).born] 98)],R,[])] (F0.out) ⟨sP,sP,sP,sP,sP,?_,sP,sP,sP,sA 0 (cl #[vU 0,vU 0,vU 0] 98),?_,sP,trivial⟩ ?_
 ·refine sQ ?_;intro v x hM hE;refine qA ?_;go_big_quiet_step ((go_at_call 90;exact Calls.later (CF.out _)));exact wpQuiet_nil rfl
 ·refine wM ?_;intro D v qq x h0 yy;first|exact ⟨_,(((h0.ai (B:=_) 0 (vU (r.getD af.bz).id)).ai (B:=_) 1 (vU (r.getD af.bz).to)).ai (B:=_) 2 (vU (r.getD af.bz).born)),wE⟩|exact ⟨_,(((h0.ai (B:=[]) 0 (vU (r.getD af.bz).id)).ai (B:=[]) 1 (vU (r.getD af.bz).to)).ai (B:=[]) 2 (vU (r.getD af.bz).born)),wE⟩|exact ⟨_,(((h0.ai (B:=[_]) 0 (vU (r.getD af.bz).id)).ai (B:=[_]) 1 (vU (r.getD af.bz).to)).ai (B:=[_]) 2 (vU (r.getD af.bz).born)),wE⟩
 ·intro v qq x hF hA h;simp only [SA,SC] at hA h;generalize qq 9=q9 at hA h;have F1:=Hi h;simp only [PU,bF,Nat.reduceAdd,gT hF 11,hA];clear hF hA h;go_wp2_with fail;go_ret;exact ⟨rfl,F1.out.sub (zq _ _)⟩):A:=h
theorem ZX (h:A:=by
 intro x hx;rcases List.mem_cons.1 hx with rfl|hx
 ·exact hi
 ·rw [rZ] at hx;subst hx;exact hk):A:=h
theorem a927 (h:A:=by
 obtain ⟨k,hk⟩:∃ k,pa.getD j 0=k:=⟨_,rfl⟩
 rw [hk] at hc1 C
 have uw:=Hi hr
 clear hq hi2 hb hr hk
 have e1:decide ((j:Int)<(n:Int))=true:=by simp;omega
 go_wp2_with fail
 refine C.out.mono ?_
 rintro e w1 ⟨rfl,hb1⟩
 have lO:=Hi (HB.out.trans (hb1.mono HB.out.size))
 clear hb1 C hc1
 cases r with
 | none =>
  have oJ:Hid (IdxR W sl id (vI ((j+1:Nat):Int)) w1):=Hi ⟨j+1,by omega,rfl,fun m hm h=>by
   rcases Ds m j with h'|h'
   ·exact XD.out m hm h'
   ·obtain rfl:m=j:=by omega
    rw [uw.out];rfl,lO.out⟩
  go_wp2_with fail
  go_roundw
  case rel=>exact oJ.out
  case measure=>simp [intOf];omega
 | some o1 =>
  have ho:o=some j:=by rw [←HO.out];exact TB hjl XD.out (by rw [uw.out];rfl)
  subst ho
  go_wp2_with fail
  go_ret
  exact ⟨rfl,lO.out⟩):A:=h
theorem a995 (h:A:=by
 have hjn:j=sl.length:=by rw [HN.out] at hj ⊢;omega
 have ho:o=none:=by rw [←HO.out];exact TD fun m hm _=>XD.out m hm (by rw [hjn];exact hm)
 subst ho;have e1:decide ((j:Int)<(n:Int))=false:=by simp;omega
 exact Kk):A:=h
theorem c974 (h:A:=by rw [ha.1];exact ud _):A:=h
theorem ZH (h:A:=by
 rw [h1.has x.1,List.any_eq_true.2 ⟨x,hx,by simp⟩];simp):A:=h
theorem aae (h:A:=by
 have hx2:(i,s)∈l:=by rw [hm] at hx;exact (List.mem_filter.1 hx).1
 have:x=(i,s):=OI hn hxl hx2 e;subst this;simp [hk]):A:=h
theorem c975 (h:A:=by rw [hr3.left_eq,hr.left_eq];exact hc):A:=h
theorem c976 (h:A:=by rw [hm] at hx;exact (List.mem_filter.1 hx).1):A:=h
theorem c977 (h:A:=by rw [hm];exact (List.filter_sublist.map _).nodup hn.1):A:=h
theorem S4 (h:A:=by
 go_wp2_with fail
 go_roundw
 case rel=>exact oD.out
 case measure=>exact Iw.out):A:=h
theorem TF (h:A:=by rw [IntKind.wrap_i64];omega):A:=h
theorem c979 (h:A:=by simp [results,Tryz.results36,go_sem,rr5]):A:=h
theorem Z7 (h:A:=by
 unfold bB;rw [List.getElem?_zipWith,lz hk,lz (by rw [List.length_zip];omega),List.getElem_zip]):A:=h
theorem Z9 (h:A:=by
 unfold bB;rw [e1,e2,e3,G6];exact xR dF _ _ w _ _ (lz hk)):A:=h
theorem PJ (h:A:=by
 exact u64_wrap_id _ (Ao _) (by omega)):A:=h
theorem QU (h:A:=by
 refine sQ ?_;intro v x hM hE;have hw1:(w:Int)<(t.aj.length:Int):=by have:=rI.out;omega
 have hw2:(0:Int)≤(w:Int):=by omega
 exact qP):A:=h
theorem a9160 (h:A:=by
 go_wp2_with (at_delete;refine pq _ rfl _ _ 77 31 rfl rfl rfl GR.out ?_)
 try simp only [Act.put]
 clear GR;exact S4):A:=h
theorem TG (h:A:=by simp [cN]):A:=h
theorem OL (h:A:=by
 have hk:j<a.pa.length:=by rw [ha.pa,←ha.slots];exact hj
 have hp:j<t.aO.length:=by rw [ha.aO,←ha.slots];exact hj
 have hm:dF a.pa[j] (t.aO[j],t.slots[j])∈ah p st::(cS a p t++R):=by refine xY _ (DL _ (xY _ (xY _ (xY _ (DL _ ?_)))));refine List.mem_iff_getElem?.2 ⟨j,?_⟩;rw [List.getElem?_zipWith,lz hk,lz (by rw [List.length_zip];omega),List.getElem_zip]
 obtain ⟨f,q,_,Z,hz,_⟩:=h.pG hm;refine ⟨q,?_⟩;rw [ux,lz hk];exact hz.blk _ (ud _)):A:=h
theorem TE (h:A:=by
 rw [Bk];intro x;simp only [List.count_cons,List.count_append,List.count_nil];omega):A:=h
theorem LN (h:A:=by
 rw [Bk];intro x;simp only [List.count_cons,List.count_append,bQ];omega):A:=h
theorem aah (h:A:=by
 rw [dc];congr 1
 ·refine tD fun x hx=>?_;simp [hf x hx]
 ·simp):A:=h
theorem Qn (h:A:=by
 refine wX ?_;intro D v qq x ch hS h0;refine (h0.sNewR HX1.out PY.out VA.out).mono ?_;rintro e z ⟨bn,rfl,h⟩;exact ⟨(bn,()),xE,h⟩):A:=h
theorem PA (h:A:=by
 refine sQ ?_;intro v x hM hE;have yp:=hM.rV (g:=a.rq) (T:=110) (by simp) HKQ.out LS.out;exact qP):A:=h
theorem Z6 (h:A:=by
 subst gj ha2;exact ⟨HA.out.cp,HA.out.cq,HA.out.kp,HA.out.kq,HA.out.pa,HA.out.aO,by simp only [List.length_set];exact HA.out.slots⟩):A:=h
theorem AO (h:A:=by simp [cS]):A:=h
theorem c982 (h:A:=by rw [gj];exact HW.out.many):A:=h
theorem Zm (h:A:=by
 unfold af.Pt.join af.aPut;rw [TI P7.out,ux,Cn.out,uy,XL.out,wV.out]):A:=h
theorem UO (h:A:=by
 have hwf:=tR.out;rw [hj] at hwf;have HJ:=Hi hj;have g:=F5.out;unfold cS at g;have g1:=((g.bP (yO _ _ _ _ _ _ _)).lR VD ht6).subR (R':=dz a2.lb (cu a2.la t2.kept.live)::ah p st::bw a2.g t2.guard t2.aj.length::dz a2.mb (bU t2.begun)::((List.zipWith dF a2.pa (t2.aO.zip t2.slots)++t2.kept.live.map fun x=>dA p (a2.la x.1) x.2)++R)) (by
  refine List.Sublist.cons_cons _ (List.Sublist.cons_cons _ (List.Sublist.cons_cons _ (List.Sublist.cons_cons _ ?_)))
  exact (List.Sublist.append_left (List.filter_sublist.map _) _).append_right _)
 have g2:=g1.bP (yO _ _ _ _ _ _ _).symm;have F6:=Hi (fP (a:=a2) (t:=t2.kept) ⟨uf.out.cp,uf.out.cq,uf.out.kp,uf.out.kq,uf.out.pa,uf.out.aO,uf.out.slots⟩ hwf g2);clear VD ht6 hj hwf g g1 g2 CK F5;go_wp2_with fail;go_ret;exact ⟨rfl,by rw [HJ.out];exact F6.out⟩):A:=h
theorem aad (h:A:=by
 rintro e w' ⟨v,rfl,g⟩;obtain ⟨f,⟨hr,-⟩,-⟩:=g.tell;obtain ⟨q,c,rfl⟩:=gl hr;exact ⟨q,_,c,rfl,g⟩):A:=h
theorem a984 (h:A:=by
 refine wC ?_;intro D v qq x h0;exact mo (h0.callX (x:=(a.rp,cl a.kp 65)) (by simp) fun S1 hs=>CO.out S1 hs)):A:=h
theorem c983 (h:A:=by simp [results,Tryz.results84,go_sem,r2]):A:=h
theorem Mc (h:A:=by
 haveI:DecidableEq α:=fun _ _=>Classical.propDecidable _;rw [Bk];intro x;simp only [List.count_cons];omega):A:=h
theorem Zo (h:A:=by
 refine wX ?_;intro D v qq x ch hS h0;refine (PK.out h0).mono ?_;rintro e z ⟨oq,ol,oc,rfl,h⟩;exact ⟨(oq,ol,oc,()),xE,h⟩):A:=h
theorem ZW (h:A:=by
 refine wZ ?_;intro D v qq x ch h0 yy;first|exact ⟨_,NF.ou (B:=[_]) _ _ _ _ _ _ h0,wE⟩|exact ⟨_,NF.ou (B:=[_]) _ _ _ _ _ _ h0,wE⟩|exact ⟨_,NF.ou (B:=_) _ _ _ _ _ _ h0,wE⟩):A:=h
theorem a9131 (h:A:=by
 refine wC ?_;intro D v qq x h0;exact mo (h0.callR (r:=bw a.g t.guard t.aj.length) (by rw [uw.out];simp) fun R9 h9=>h9.vX HWI.out HGC.out)):A:=h
namespace Go.Proofs.N0
open Go.RowKit Go.Maps Go.ChangeMaps
variable {l:af.aS} {id k:Nat} {o:af.One}
theorem TJ (a b c d e f g h i:Int) (w:World):(Instr.index 190 (.agg #[vU a,vU b,vU c,vU d,vU e,vU f,vU g,vU h,vU i]) (vI 0)).run Tryz.prog w=.ok (.agg #[vU a,vU b,vU c]) w:=aI
theorem XN (a b c d e f g h i:Int) (w:World):(part 98 #[vU a,vU b,vU c,vU d,vU e,vU f,vU g,vU h,vU i] (0*Tryz.prog.cellsOf 98)).run Tryz.prog w=.ok (.agg #[vU a,vU b,vU c]) w:=aI
theorem TK (a b c d e f g h i:Int) (w:World):(Instr.index 190 (.agg #[vU a,vU b,vU c,vU d,vU e,vU f,vU g,vU h,vU i]) (vI 1)).run Tryz.prog w=.ok (.agg #[vU d,vU e,vU f]) w:=aI
theorem XO (a b c d e f g h i:Int) (w:World):(part 98 #[vU a,vU b,vU c,vU d,vU e,vU f,vU g,vU h,vU i] (1*Tryz.prog.cellsOf 98)).run Tryz.prog w=.ok (.agg #[vU d,vU e,vU f]) w:=aI
theorem TL (a b c d e f g h i:Int) (w:World):(Instr.index 190 (.agg #[vU a,vU b,vU c,vU d,vU e,vU f,vU g,vU h,vU i]) (vI 2)).run Tryz.prog w=.ok (.agg #[vU g,vU h,vU i]) w:=aI
theorem XP (a b c d e f g h i:Int) (w:World):(part 98 #[vU a,vU b,vU c,vU d,vU e,vU f,vU g,vU h,vU i] (2*Tryz.prog.cellsOf 98)).run Tryz.prog w=.ok (.agg #[vU g,vU h,vU i]) w:=aI
theorem eqOne (d:Nat) (a b c x y z:Int) (w:World):(Op.equalIn (d+2) 98 (.agg #[vU a,vU b,vU c]) (.agg #[vU x,vU y,vU z])).run Tryz.prog w=.ok ((a==x)&&(b==y)&&(c==z)) w:=by
 have u2:=Tryz.underlying31;have a2:=Tryz.isAgg31;have z2:=Tryz.sizeOf31;have hS:Tryz.prog.underlying 98=some (.struct (Tryz.prog.fieldsOf 98)):=aI;rw [run_equalIn_agg w (d+1) 98 _ _ hS aI];simp only [Program.fieldsOf,Tryz.underlying98];go_simp;by_cases h0:a=x;rotate_left
 ·simp [h0]
 by_cases h1:b=y;rotate_left
 ·simp [h0,h1]
 by_cases h2:c=z
 ·simp [h0,h1,h2]
 ·simp [h0,h1,h2]
theorem eqOrd (a b c d e f g h i:Int) (w:World):(Op.equalIn 10000 190 (.agg #[vU a,vU b,vU c,vU d,vU e,vU f,vU g,vU h,vU i]) (.agg #[vU 0,vU 0,vU 0,vU 0,vU 0,vU 0,vU 0,vU 0,vU 0])).run Tryz.prog w=.ok (((a==0)&&(b==0)&&(c==0))&&(((d==0)&&(e==0)&&(f==0))&&((g==0)&&(h==0)&&(i==0)))) w:=by
 obtain ⟨ii,hi⟩:=info_of_underlying (P:=Tryz.prog) Tryz.underlying98;rw [show (10000:Nat)=9999+1 from rfl,run_equalIn_array w 9999 (e:=98) (n:=3) _ _ Tryz.underlying190 hi];simp only [show List.range 3=[0,1,2] from rfl,Op.eqItems,Sem.run_bind,Sem.run_ite,Sem.run_pure,XN,XO,XP,Result.andThen_ok,show (9999:Nat)=9997+2 from rfl,eqOne];cases h0:((a==0)&&(b==0)&&(c==0))
 ·simp
 cases h1:((d==0)&&(e==0)&&(f==0))
 ·simp
 cases h2:((g==0)&&(h==0)&&(i==0))
 ·simp
 ·simp
def AP (W:World) (l:af.aS) (id:Nat) (iv:Value) (wr:World):Prop:=∃ k,k≤3∧iv=vI (k:Nat)∧(∀ o∈l.order.take k,(o.there&&decide (o.id=id))=false)∧NF [] W wr [] [(W.heap.size+1,cl #[vU 0,vU 0,vU 0] 98)]
def Md (r:Option af.One):Value:=.tuple #[eV (r.getD af.bz),.bool r.isSome]
theorem kr (h:∀ o∈l.order,(o.there&&decide (o.id=id))=false):l.find id=none:=List.find?_eq_none.2 fun o ho=>by rw [h o ho];simp
theorem Ty (h:∀ o∈l.order.take k,(o.there&&decide (o.id=id))=false) (ho:l.order[k]?=some o) (h0:(o.there&&decide (o.id=id))=true):l.find id=some o:=by unfold af.aS.find;rw [←List.take_append_drop k l.order,List.find?_append,List.find?_eq_none.2 fun o ho=>by rw [h o ho];simp];obtain ⟨hk,rfl⟩:=List.getElem?_eq_some_iff.1 ho;rw [List.drop_eq_getElem_cons hk,List.find?_cons,h0];rfl
theorem lZ (h:∀ o∈l.order.take k,(o.there&&decide (o.id=id))=false) (ho:l.order[k]?=some o) (h0:(o.there&&decide (o.id=id))=false):∀ o∈l.order.take (k+1),(o.there&&decide (o.id=id))=false:=by
 intro x hx;rw [List.take_add_one,ho] at hx;rcases List.mem_append.1 hx with hx|hx
 ·exact h x hx
 ·simp at hx;subst hx;exact h0
theorem AQ {q:Option af.One} (hq:l.find id=q) (W:World):Calls Tryz.prog 90 #[oK l,vU id] W fun e w'=>e=.returned (Md q)∧Below W.heap.size W w':=by
 have hq:=Hi hq
 unfold oK Md
 have EG:Tryz.prog.eqGuardType Tryz.prog.depth 190=false:=aI
 have O:=fun W=>Hi (xN (l:=l) W)
 unfold oK Xl at O
 have EQ:=eqOrd l.cur.id l.cur.to l.cur.born l.next.id l.next.to l.next.born l.prev.id l.prev.to l.prev.born
 obtain ⟨qq,hqq⟩:∃ qq,qq=((((l.cur.id:Int)==0)&&((l.cur.to:Int)==0)&&((l.cur.born:Int)==0))&&((((l.next.id:Int)==0)&&((l.next.to:Int)==0)&&((l.next.born:Int)==0))&&(((l.prev.id:Int)==0)&&((l.prev.to:Int)==0)&&((l.prev.born:Int)==0)))):=⟨_,rfl⟩
 rw [←hqq] at EQ
 have h2:qq=true→l.cur.id=0∧l.next.id=0∧l.prev.id=0:=by
  rintro rfl
  have:=hqq.symm
  simp only [gi,beq_iff_eq] at this
  omega
 have h1:True:=trivial
 clear hqq
 have F0:=Hi (((NF.gR W).alloc (cl #[vU l.prev.id,vU l.prev.to,vU l.prev.born,vU l.cur.id,vU l.cur.to,vU l.cur.born,vU l.next.id,vU l.next.to,vU l.next.born] 107)).alloc (cl #[vU 0,vU 0,vU 0] 98))
 simp only [World.size_alloc] at F0
 have r:=rl F0.out.mem.rules
 go_enter Tryz.func90,Tryz.ntmps90
 go_wp2_with fail
 refine (O _).out.mono ?_
 rintro e w1 ⟨rfl,hb1⟩
 have F1:=Hi (F0.out.later hb1)
 clear r hb1 F0
 have r:=rl F1.out.mem.rules
 cases qq
 rotate_left
 ·have F2:=Hi (((F1.out.set 0 (vU 0)).set 1 (vU 0)).set 2 (vU 0));simp only [aX,aY,jr] at F2;have r2:=rl F2.out.mem.rules;have hl:q=none:=by
   have:=h2 rfl
   rw [←hq.out]
   refine kr fun o ho=>?_
   simp only [af.aS.order,gF,Bp,or_false] at ho
   rcases ho with rfl|rfl|rfl<;>simp [af.One.there]<;>omega
  subst hl;clear hq h1 h2;go_wp2_with fail;exact bodyPost_ret (v:=.tuple #[.agg #[vU 0,vU 0,vU 0],.bool false]) (by simp [results,Tryz.results90,go_sem,r2]) rfl ⟨rfl,F2.out.dZ⟩
 clear h1 h2
 go_wp2_with fail
 refine (O _).out.mono ?_
 rintro e w2 ⟨rfl,hb2⟩
 have F2:=Hi ((F1.out.later hb2).sub (List.Sublist.cons_cons _ (sj _)))
 clear r hb2 F1 O EQ EG
 go_wp2_with fail
 go_loopw [15] (fun iv wr=>AP W l id iv wr) (fun iv _=>3 - (intOf iv).toNat)
 case atStart=>exact ⟨0,ax,rfl,fun o ho=>absurd ho aH,F2.out⟩
 case round =>
  obtain ⟨k,hk,rfl,jS,hF⟩:=hrel;have HF:=Hi hF;have jS:=Hi jS;clear hF F2;have hc:k=0∨k=1∨k=2∨k=3:=ax;clear hk;rcases hc with rfl|rfl|rfl|rfl
  ·skip
   have gy:l.order[0]?=some l.cur:=rfl
   generalize ho:l.cur=o at gy
   have i0:=TJ l.cur.id l.cur.to l.cur.born l.next.id l.next.to l.next.born l.prev.id l.prev.to l.prev.born
   rw [ho] at i0
   rcases Dr o.id with hz|hz
   ·have HZ:=Hi hz;clear hz;have T:=fun W=>Hi (aT (o:=o) (b:=false) pY W);unfold eV at T;have F1:=Hi (HF.out.alloc (cl #[vU o.id,vU o.to,vU o.born] 98));have r:=rl F1.out.mem.rules;clear ho;go_wp2_with fail;refine (T _).out.mono ?_;rintro e wk ⟨rfl,hbk⟩;have F2:=Hi (F1.out.later hbk);clear r T hbk F1;have r:=rl F2.out.mem.rules;have HR:Hid (AP W l id (vI (1:Nat)) wk):=Hi ⟨1,ax,rfl,lZ (k:=0) jS.out gy c966,F2.out.sub (zq _ _)⟩;clear gy;exact tO
   have HZ:Hid (o.id≠0):=Hi ax
   clear hz
   by_cases hi:o.id=id
   ·exact a99
   ·have e1:((o.id:Int)==(id:Int))=false:=aR;have T:=fun W=>Hi (aT (o:=o) (b:=true) pY W);unfold eV at T;have F1:=Hi (HF.out.alloc (cl #[vU o.id,vU o.to,vU o.born] 98));have r:=rl F1.out.mem.rules;clear ho;go_wp2_with fail;refine (T _).out.mono ?_;rintro e wk ⟨rfl,hbk⟩;have F2:=Hi (F1.out.later hbk);clear r T hbk F1;have r:=rl F2.out.mem.rules;have HR:Hid (AP W l id (vI (1:Nat)) wk):=Hi ⟨1,ax,rfl,lZ (k:=0) jS.out gy c967,F2.out.sub (zq _ _)⟩;clear gy;exact tO
  ·skip
   have gy:l.order[1]?=some l.next:=rfl
   generalize ho:l.next=o at gy
   have i0:=TK l.cur.id l.cur.to l.cur.born l.next.id l.next.to l.next.born l.prev.id l.prev.to l.prev.born
   rw [ho] at i0
   rcases Dr o.id with hz|hz
   ·have HZ:=Hi hz;clear hz;have T:=fun W=>Hi (aT (o:=o) (b:=false) pY W);unfold eV at T;have F1:=Hi (HF.out.alloc (cl #[vU o.id,vU o.to,vU o.born] 98));have r:=rl F1.out.mem.rules;clear ho;go_wp2_with fail;refine (T _).out.mono ?_;rintro e wk ⟨rfl,hbk⟩;have F2:=Hi (F1.out.later hbk);clear r T hbk F1;have r:=rl F2.out.mem.rules;have HR:Hid (AP W l id (vI (2:Nat)) wk):=Hi ⟨2,ax,rfl,lZ (k:=1) jS.out gy c966,F2.out.sub (zq _ _)⟩;clear gy;exact tO
   have HZ:Hid (o.id≠0):=Hi ax
   clear hz
   by_cases hi:o.id=id
   ·exact a99
   ·have e1:((o.id:Int)==(id:Int))=false:=aR;have T:=fun W=>Hi (aT (o:=o) (b:=true) pY W);unfold eV at T;have F1:=Hi (HF.out.alloc (cl #[vU o.id,vU o.to,vU o.born] 98));have r:=rl F1.out.mem.rules;clear ho;go_wp2_with fail;refine (T _).out.mono ?_;rintro e wk ⟨rfl,hbk⟩;have F2:=Hi (F1.out.later hbk);clear r T hbk F1;have r:=rl F2.out.mem.rules;have HR:Hid (AP W l id (vI (2:Nat)) wk):=Hi ⟨2,ax,rfl,lZ (k:=1) jS.out gy c967,F2.out.sub (zq _ _)⟩;clear gy;exact tO
  ·skip
   have gy:l.order[2]?=some l.prev:=rfl
   generalize ho:l.prev=o at gy
   have i0:=TL l.cur.id l.cur.to l.cur.born l.next.id l.next.to l.next.born l.prev.id l.prev.to l.prev.born
   rw [ho] at i0
   rcases Dr o.id with hz|hz
   ·have HZ:=Hi hz;clear hz;have T:=fun W=>Hi (aT (o:=o) (b:=false) pY W);unfold eV at T;have F1:=Hi (HF.out.alloc (cl #[vU o.id,vU o.to,vU o.born] 98));have r:=rl F1.out.mem.rules;clear ho;go_wp2_with fail;refine (T _).out.mono ?_;rintro e wk ⟨rfl,hbk⟩;have F2:=Hi (F1.out.later hbk);clear r T hbk F1;have r:=rl F2.out.mem.rules;have HR:Hid (AP W l id (vI (3:Nat)) wk):=Hi ⟨3,ax,rfl,lZ (k:=2) jS.out gy c966,F2.out.sub (zq _ _)⟩;clear gy;exact tO
   have HZ:Hid (o.id≠0):=Hi ax
   clear hz
   by_cases hi:o.id=id
   ·exact a99
   ·have e1:((o.id:Int)==(id:Int))=false:=aR;have T:=fun W=>Hi (aT (o:=o) (b:=true) pY W);unfold eV at T;have F1:=Hi (HF.out.alloc (cl #[vU o.id,vU o.to,vU o.born] 98));have r:=rl F1.out.mem.rules;clear ho;go_wp2_with fail;refine (T _).out.mono ?_;rintro e wk ⟨rfl,hbk⟩;have F2:=Hi (F1.out.later hbk);clear r T hbk F1;have r:=rl F2.out.mem.rules;have HR:Hid (AP W l id (vI (3:Nat)) wk):=Hi ⟨3,ax,rfl,lZ (k:=2) jS.out gy c967,F2.out.sub (zq _ _)⟩;clear gy;exact tO
  ·have hl:q=none:=by rw [←hq.out];exact kr (by simpa [af.aS.order] using jS.out)
   subst hl;have F3:=Hi (((HF.out.set 0 (vU 0)).set 1 (vU 0)).set 2 (vU 0));simp only [aX,aY,jr] at F3;have r:=rl HF.out.mem.rules;have r3:=rl F3.out.mem.rules;clear jS hq;go_wp2_with fail;exact bodyPost_ret (v:=.tuple #[.agg #[vU 0,vU 0,vU 0],.bool false]) (by simp [results,Tryz.results90,go_sem,r3]) rfl ⟨rfl,F3.out.dZ⟩
end Go.Proofs.N0
namespace Go.Proofs.N0
open Go.RowKit Go.Maps Go.ChangeMaps
variable {l m:af.aS} {age:Nat}
theorem idxP_0 (a b c:Addr) (w:World):(Instr.index 217 (.agg #[.pointer (some a),.pointer (some b),.pointer (some c)]) (vI 0)).run Tryz.prog w=.ok (.pointer (some a)) w:=aI
theorem idxP_1 (a b c:Addr) (w:World):(Instr.index 217 (.agg #[.pointer (some a),.pointer (some b),.pointer (some c)]) (vI 1)).run Tryz.prog w=.ok (.pointer (some b)) w:=aI
theorem idxP_2 (a b c:Addr) (w:World):(Instr.index 217 (.agg #[.pointer (some a),.pointer (some b),.pointer (some c)]) (vI 2)).run Tryz.prog w=.ok (.pointer (some c)) w:=aI
def nZ (l:af.aS) (now age k:Nat):af.aS:=⟨if 0<k then l.prev.jP now age else l.prev,if 1<k then l.cur.jP now age else l.cur,if 2<k then l.next.jP now age else l.next⟩
def BJ (W:World) (l:af.aS) (now age:Nat) (iv:Value) (wr:World):Prop:=∃ k m,k≤3∧iv=vI (k:Nat)∧nZ l now age k=m∧NF [] W wr [] [(W.heap.size+1,cl #[vU 0,vU 0,vU 0,vU 0,vU 0,vU 0,vU 0,vU 0,vU 0] 107),(W.heap.size,cl #[vU m.prev.id,vU m.prev.to,vU m.prev.born,vU m.cur.id,vU m.cur.to,vU m.cur.born,vU m.next.id,vU m.next.to,vU m.next.born] 107)]
theorem AH {now:Nat} (h:nZ l now age 0=m):nZ l now age 1={ m with prev:=m.prev.jP now age}:=by subst h;simp [nZ]
theorem AK {now:Nat} (h:nZ l now age 1=m):nZ l now age 2={ m with cur:=m.cur.jP now age}:=by subst h;simp [nZ]
theorem AL {now:Nat} (h:nZ l now age 2=m):nZ l now age 3={ m with next:=m.next.jP now age}:=by subst h;simp [nZ]
theorem EJ {l':af.aS} {now:Nat} (hl:l.expire now age=l') (hn:now<18446744073709551616) (W:World):Calls Tryz.prog 43 #[oK l,vU now,vU age] W fun e w'=>e=.returned (oK l')∧Below W.heap.size W w':=by
 have hl:=Hi hl
 unfold oK
 have F0:=Hi (((NF.gR W).alloc (cl #[vU l.prev.id,vU l.prev.to,vU l.prev.born,vU l.cur.id,vU l.cur.to,vU l.cur.born,vU l.next.id,vU l.next.to,vU l.next.born] 107)).alloc (cl #[vU 0,vU 0,vU 0,vU 0,vU 0,vU 0,vU 0,vU 0,vU 0] 107))
 simp only [World.size_alloc] at F0
 have r:=rl F0.out.mem.rules
 go_enter Tryz.func43,Tryz.ntmps43
 go_wp2_with fail
 clear r
 go_loopw [13] (fun iv wr=>BJ W l now age iv wr) (fun iv _=>3 - (intOf iv).toNat)
 case atStart=>exact ⟨0,l,ax,rfl,rfl,F0.out⟩
 case round =>
  obtain ⟨k,m,hk,rfl,jS,hF⟩:=hrel;have HF:=Hi hF;have jS:=Hi jS;clear hF F0;have hc:k=0∨k=1∨k=2∨k=3:=ax;clear hk;rcases hc with rfl|rfl|rfl|rfl
  ·skip
   have i0:=idxP_0 ⟨W.heap.size,0,none⟩ ⟨W.heap.size,3,none⟩ ⟨W.heap.size,6,none⟩
   rcases Dr m.prev.id with hz|hz
   ·have HZ:=Hi hz;clear hz;have T:=fun W=>Hi (aT (o:=m.prev) (b:=false) pY W);unfold eV at T;have r:=rl HF.out.mem.rules;go_wp2_with fail;refine (T _).out.mono ?_;rintro e wk ⟨rfl,hbk⟩;have F2:=Hi (HF.out.later hbk);clear r T hbk HF;have r:=rl F2.out.mem.rules;have hsame:{ m with prev:=m.prev.jP now age}=m:=c968;exact Lx
   have HZ:Hid (m.prev.id≠0):=Hi ax
   clear hz
   by_cases hb:m.prev.born<now
   rotate_left
   ·have HB:=Hi hb;have e1:decide ((now:Int)>(m.prev.born:Int))=false:=aR;clear hb;have T:=fun W=>Hi (aT (o:=m.prev) (b:=true) pY W);unfold eV at T;have r:=rl HF.out.mem.rules;go_wp2_with fail;refine (T _).out.mono ?_;rintro e wk ⟨rfl,hbk⟩;have F2:=Hi (HF.out.later hbk);clear r T hbk HF;have r:=rl F2.out.mem.rules;have hsame:{ m with prev:=m.prev.jP now age}=m:=c969;exact Lx
   have hwr:IntKind.u64.wrap ((now:Int) - (m.prev.born:Int))=(now:Int) - (m.prev.born:Int):=u64_wrap_id _ ax ax
   have e1:decide ((now:Int)>(m.prev.born:Int))=true:=aR
   by_cases ha:age<now - m.prev.born
   rotate_left
   ·have HA:=Hi ha;have e2:decide ((now:Int) - (m.prev.born:Int)>(age:Int))=false:=aR;have e3:((age:Int)<(now:Int) - (m.prev.born:Int))=False:=aR;clear ha hb;have T:=fun W=>Hi (aT (o:=m.prev) (b:=true) pY W);unfold eV at T;have r:=rl HF.out.mem.rules;go_wp2_with fail;refine (T _).out.mono ?_;rintro e wk ⟨rfl,hbk⟩;have F2:=Hi (HF.out.later hbk);clear r T hbk HF;have r:=rl F2.out.mem.rules;have hsame:{ m with prev:=m.prev.jP now age}=m:=c970;have HR:Hid (BJ W l now age (vI (1:Nat)) wk):=Hi ⟨1,_,ax,rfl,AH jS.out,c971⟩;exact aaj
   ·obtain ⟨HA,HB⟩:=hi2 ha hb;have e2:decide ((now:Int) - (m.prev.born:Int)>(age:Int))=true:=aR;clear ha hb;have T:=fun W=>Hi (aT (o:=m.prev) (b:=true) pY W);unfold eV at T;have r:=rl HF.out.mem.rules;go_wp2_with fail;refine (T _).out.mono ?_;rintro e wk ⟨rfl,hbk⟩;have F2:=Hi (HF.out.later hbk);clear r T hbk HF;have r:=rl F2.out.mem.rules;have F3:=Hi (((F2.out.ai (B:=[_]) 0 (vU 0)).ai (B:=[_]) 1 (vU 0)).ai (B:=[_]) 2 (vU 0));simp only [aX,aY,jr,bQ,bG] at F3;have hz:m.prev.jP now age=af.bz:=c972;have hnew:{ m with prev:=m.prev.jP now age}=({m with prev:=af.bz}:af.aS):=by rw [hz]
    have HR:Hid (BJ W l now age (vI (1:Nat)) (((wk.setCell ⟨W.heap.size,0,none⟩ (vU 0)).setCell ⟨W.heap.size,1,none⟩ (vU 0)).setCell ⟨W.heap.size,2,none⟩ (vU 0))):=Hi ⟨1,_,ax,rfl,AH jS.out,c973⟩;clear hnew hz F3;exact tO
  ·skip
   have i0:=idxP_1 ⟨W.heap.size,0,none⟩ ⟨W.heap.size,3,none⟩ ⟨W.heap.size,6,none⟩
   rcases Dr m.cur.id with hz|hz
   ·have HZ:=Hi hz;clear hz;have T:=fun W=>Hi (aT (o:=m.cur) (b:=false) pY W);unfold eV at T;have r:=rl HF.out.mem.rules;go_wp2_with fail;refine (T _).out.mono ?_;rintro e wk ⟨rfl,hbk⟩;have F2:=Hi (HF.out.later hbk);clear r T hbk HF;have r:=rl F2.out.mem.rules;have hsame:{ m with cur:=m.cur.jP now age}=m:=c968;exact Rt
   have HZ:Hid (m.cur.id≠0):=Hi ax
   clear hz
   by_cases hb:m.cur.born<now
   rotate_left
   ·have HB:=Hi hb;have e1:decide ((now:Int)>(m.cur.born:Int))=false:=aR;clear hb;have T:=fun W=>Hi (aT (o:=m.cur) (b:=true) pY W);unfold eV at T;have r:=rl HF.out.mem.rules;go_wp2_with fail;refine (T _).out.mono ?_;rintro e wk ⟨rfl,hbk⟩;have F2:=Hi (HF.out.later hbk);clear r T hbk HF;have r:=rl F2.out.mem.rules;have hsame:{ m with cur:=m.cur.jP now age}=m:=c969;exact Rt
   have hwr:IntKind.u64.wrap ((now:Int) - (m.cur.born:Int))=(now:Int) - (m.cur.born:Int):=u64_wrap_id _ ax ax
   have e1:decide ((now:Int)>(m.cur.born:Int))=true:=aR
   by_cases ha:age<now - m.cur.born
   rotate_left
   ·have HA:=Hi ha;have e2:decide ((now:Int) - (m.cur.born:Int)>(age:Int))=false:=aR;have e3:((age:Int)<(now:Int) - (m.cur.born:Int))=False:=aR;clear ha hb;have T:=fun W=>Hi (aT (o:=m.cur) (b:=true) pY W);unfold eV at T;have r:=rl HF.out.mem.rules;go_wp2_with fail;refine (T _).out.mono ?_;rintro e wk ⟨rfl,hbk⟩;have F2:=Hi (HF.out.later hbk);clear r T hbk HF;have r:=rl F2.out.mem.rules;have hsame:{ m with cur:=m.cur.jP now age}=m:=c970;have HR:Hid (BJ W l now age (vI (2:Nat)) wk):=Hi ⟨2,_,ax,rfl,AK jS.out,c971⟩;exact aaj
   ·obtain ⟨HA,HB⟩:=hi2 ha hb;have e2:decide ((now:Int) - (m.cur.born:Int)>(age:Int))=true:=aR;clear ha hb;have T:=fun W=>Hi (aT (o:=m.cur) (b:=true) pY W);unfold eV at T;have r:=rl HF.out.mem.rules;go_wp2_with fail;refine (T _).out.mono ?_;rintro e wk ⟨rfl,hbk⟩;have F2:=Hi (HF.out.later hbk);clear r T hbk HF;have r:=rl F2.out.mem.rules;have F3:=Hi (((F2.out.ai (B:=[_]) 3 (vU 0)).ai (B:=[_]) 4 (vU 0)).ai (B:=[_]) 5 (vU 0));simp only [aX,aY,jr,bQ,bG] at F3;have hz:m.cur.jP now age=af.bz:=c972;have hnew:{ m with cur:=m.cur.jP now age}=({m with cur:=af.bz}:af.aS):=by rw [hz]
    have HR:Hid (BJ W l now age (vI (2:Nat)) (((wk.setCell ⟨W.heap.size,3,none⟩ (vU 0)).setCell ⟨W.heap.size,4,none⟩ (vU 0)).setCell ⟨W.heap.size,5,none⟩ (vU 0))):=Hi ⟨2,_,ax,rfl,AK jS.out,c973⟩;clear hnew hz F3;exact tO
  ·skip
   have i0:=idxP_2 ⟨W.heap.size,0,none⟩ ⟨W.heap.size,3,none⟩ ⟨W.heap.size,6,none⟩
   rcases Dr m.next.id with hz|hz
   ·have HZ:=Hi hz;clear hz;have T:=fun W=>Hi (aT (o:=m.next) (b:=false) pY W);unfold eV at T;have r:=rl HF.out.mem.rules;go_wp2_with fail;refine (T _).out.mono ?_;rintro e wk ⟨rfl,hbk⟩;have F2:=Hi (HF.out.later hbk);clear r T hbk HF;have r:=rl F2.out.mem.rules;have hsame:{ m with next:=m.next.jP now age}=m:=c968;exact Lm
   have HZ:Hid (m.next.id≠0):=Hi ax
   clear hz
   by_cases hb:m.next.born<now
   rotate_left
   ·have HB:=Hi hb;have e1:decide ((now:Int)>(m.next.born:Int))=false:=aR;clear hb;have T:=fun W=>Hi (aT (o:=m.next) (b:=true) pY W);unfold eV at T;have r:=rl HF.out.mem.rules;go_wp2_with fail;refine (T _).out.mono ?_;rintro e wk ⟨rfl,hbk⟩;have F2:=Hi (HF.out.later hbk);clear r T hbk HF;have r:=rl F2.out.mem.rules;have hsame:{ m with next:=m.next.jP now age}=m:=c969;exact Lm
   have hwr:IntKind.u64.wrap ((now:Int) - (m.next.born:Int))=(now:Int) - (m.next.born:Int):=u64_wrap_id _ ax ax
   have e1:decide ((now:Int)>(m.next.born:Int))=true:=aR
   by_cases ha:age<now - m.next.born
   rotate_left
   ·have HA:=Hi ha;have e2:decide ((now:Int) - (m.next.born:Int)>(age:Int))=false:=aR;have e3:((age:Int)<(now:Int) - (m.next.born:Int))=False:=aR;clear ha hb;have T:=fun W=>Hi (aT (o:=m.next) (b:=true) pY W);unfold eV at T;have r:=rl HF.out.mem.rules;go_wp2_with fail;refine (T _).out.mono ?_;rintro e wk ⟨rfl,hbk⟩;have F2:=Hi (HF.out.later hbk);clear r T hbk HF;have r:=rl F2.out.mem.rules;have hsame:{ m with next:=m.next.jP now age}=m:=c970;have HR:Hid (BJ W l now age (vI (3:Nat)) wk):=Hi ⟨3,_,ax,rfl,AL jS.out,c971⟩;exact aaj
   ·obtain ⟨HA,HB⟩:=hi2 ha hb;have e2:decide ((now:Int) - (m.next.born:Int)>(age:Int))=true:=aR;clear ha hb;have T:=fun W=>Hi (aT (o:=m.next) (b:=true) pY W);unfold eV at T;have r:=rl HF.out.mem.rules;go_wp2_with fail;refine (T _).out.mono ?_;rintro e wk ⟨rfl,hbk⟩;have F2:=Hi (HF.out.later hbk);clear r T hbk HF;have r:=rl F2.out.mem.rules;have F3:=Hi (((F2.out.ai (B:=[_]) 6 (vU 0)).ai (B:=[_]) 7 (vU 0)).ai (B:=[_]) 8 (vU 0));simp only [aX,aY,jr,bQ,bG] at F3;have hz:m.next.jP now age=af.bz:=c972;have hnew:{ m with next:=m.next.jP now age}=({m with next:=af.bz}:af.aS):=by rw [hz]
    have HR:Hid (BJ W l now age (vI (3:Nat)) (((wk.setCell ⟨W.heap.size,6,none⟩ (vU 0)).setCell ⟨W.heap.size,7,none⟩ (vU 0)).setCell ⟨W.heap.size,8,none⟩ (vU 0))):=Hi ⟨3,_,ax,rfl,AL jS.out,c973⟩;clear hnew hz F3;exact tO
  ·have hm:m=l':=by rw [←hl.out,←jS.out];rfl
   subst hm;have F3:=Hi (((((((((HF.out.set 0 (vU m.prev.id)).set 1 (vU m.prev.to)).set 2 (vU m.prev.born)).set 3 (vU m.cur.id)).set 4 (vU m.cur.to)).set 5 (vU m.cur.born)).set 6 (vU m.next.id)).set 7 (vU m.next.to)).set 8 (vU m.next.born));simp only [aX,aY,jr] at F3;have r:=rl HF.out.mem.rules;have r3:=rl F3.out.mem.rules;clear jS hl;go_wp2_with fail;exact bodyPost_ret (v:=.agg #[vU m.prev.id,vU m.prev.to,vU m.prev.born,vU m.cur.id,vU m.cur.to,vU m.cur.born,vU m.next.id,vU m.next.to,vU m.next.born]) (by simp [results,Tryz.results43,go_sem,r3]) rfl ⟨rfl,F3.out.dZ⟩
end Go.Proofs.N0
namespace Go.Proofs.N0
open Go.RowKit Go.Maps Go.ChangeMaps
variable {W:World} {L:List (Nat×Obj)} {who:Int} {l:af.aS}
theorem NF.G7 (hL:∀ x∈L,W.heap[x.1]?=some x.2) (hn:(L.map (·.1)).Nodup):NF (L.map (·.1)) W W [] L :=
 ⟨⟨[],⟨rfl,fun z hz=>absurd hz aH,hL,by simpa using hn⟩,fun i hi=>absurd hi aH⟩,fun x hx=>.inl (mG hx),az.refl _ _⟩
theorem NF.belOf {w':World} {R:List aW} {L':List (Nat×Obj)} (hL:∀ x∈L,W.heap[x.1]?=some x.2) (h:NF (L.map (·.1)) W w' R L') (hs:∀ x∈L,x∈L'):Below W.heap.size W w':=by
 obtain ⟨Z,hz,_⟩:=h.sep;refine ⟨h.jh.os,h.jh.tape,h.jh.output,h.jh.size,fun i hi=>?_⟩;by_cases hm:i∈L.map (·.1)
 ·obtain ⟨x,hx,rfl⟩:=List.mem_map.1 hm;exact (hz.blk x (hs x hx)).trans (hL x hx).symm
 ·exact h.jh.block i hi hm
section
variable {S:List Nat} {w0 W:World} {p b i k q id n:Nat} {L:List (Nat×Obj)} {R:List aW} {a:rT} {t:af.Pt}
theorem XQ (h:NF S w0 W R ((b,cl (iz a p t) 80)::L)) (hw:who<0):Calls Tryz.prog 27 #[vP b 0,vI who] W fun e w'=>e=.returned (.bool false)∧Below W.heap.size W w':=by unfold iz at h;have F0:=Hi h;have e1:decide (who≥0)=false:=aR;clear h hw;exact Zj
theorem TM (h:NF S w0 W R ((b,cl (iz a p t) 80)::L)) (hw:0≤who) (hl:who<t.aj.length):Calls Tryz.prog 27 #[vP b 0,vI who] W fun e w'=>e=.returned (.bool true)∧Below W.heap.size W w':=by unfold iz at h;have F0:=Hi h;have e1:decide (who≥0)=true:=aR;have e2:decide (who<(t.aj.length:Int))=true:=aR;clear h hw hl;exact Zj
theorem XR (h:NF S w0 W R ((b,cl (iz a p t) 80)::L)) (hw:0≤who) (hl:¬who<t.aj.length):Calls Tryz.prog 27 #[vP b 0,vI who] W fun e w'=>e=.returned (.bool false)∧Below W.heap.size W w':=by unfold iz at h;have F0:=Hi h;have e1:decide (who≥0)=true:=aR;have e2:decide (who<(t.aj.length:Int))=false:=aR;clear h hw hl;exact Zj
theorem jK {c:Bool} (h:NF S w0 W R ((b,cl (iz a p t) 80)::L)) (hc:t.has who=c):Calls Tryz.prog 27 #[vP b 0,vI who] W fun e w'=>e=.returned (.bool c)∧Below W.heap.size W w':=by
 unfold af.Pt.has at hc;by_cases h1:0≤who
 ·by_cases h2:who<t.aj.length
  ·obtain rfl:true=c:=by simpa [h1,h2] using hc
   exact TM h h1 h2
  ·obtain rfl:false=c:=by rw [←hc];simp [h1,h2]
   exact XR h h1 h2
 ·obtain rfl:false=c:=by rw [←hc];simp [h1]
  exact XQ h ax
theorem Kl {r:Option af.One} (h:NF S w0 W R ((i,cl #[vU id] 31)::(k,cl (dD q l) 109)::L)) (hr:l.find id=r):Calls Tryz.prog 154 #[vP k 0,vP i 0] W fun e w'=>e=.returned (.bool r.isSome)∧NF S w0 w' R ((i,cl #[vU id] 31)::(k,cl (dD q l) 109)::L):=by unfold dD at h ⊢;have CF:=Hi (fun W=>AQ hr W);unfold oK Md eV at CF;have F0:=Hi h;clear h hr;go_enter Tryz.func154,Tryz.ntmps154;exact a911
theorem OM {r:Option af.One} (h:NF S w0 W R ((i,cl #[vU id] 31)::(k,cl (dD q l) 109)::L)) (hr:l.find id=r):Calls Tryz.prog 89 #[vP k 0,vP i 0] W fun e w'=>e=.returned (.bool r.isSome)∧NF S w0 w' R ((i,cl #[vU id] 31)::(k,cl (dD q l) 109)::L):=by unfold dD at h ⊢;have CF:=Hi (fun W=>AQ hr W);unfold oK Md eV at CF;have F0:=Hi h;clear h hr;go_enter Tryz.func89,Tryz.ntmps89;exact a911
end
end Go.Proofs.N0
namespace Go.Proofs.N0
open Go.RowKit Go.Maps Go.ChangeMaps
variable {W w':World} {pa:List Nat} {sl:List af.aS} {rq j id i k q n c:Nat} {l:af.aS} {v z:Value} {mt e:TypeId}
def G8:Option Nat→Int
 | none=>-1
 | some j=>j
def ig (W:World) (pa:List Nat) (sl:List af.aS):Prop:=pa.length=sl.length∧∀ (j:Nat) (hj:j<sl.length),∃ q,W.heap[pa.getD j 0]?=some (cl (dD q sl[j]) 109)
def uh (W:World) (rq:Nat) (pa:List Nat):Prop:=∃ kq,W.heap[rq]?=some (cl kq 110)∧pa.map (fun k=>Value.pointer (some ⟨k,0,none⟩)) <+: kq.toList
theorem ig.later (h:ig W pa sl) (hb:Below W.heap.size W w'):ig w' pa sl :=
 ⟨h.1,fun j hj=>by obtain ⟨q,hq⟩:=h.2 j hj;exact ⟨q,(hb.block _ (lt_of_block hq)).trans hq⟩⟩
theorem uh.later (h:uh W rq pa) (hb:Below W.heap.size W w'):uh w' rq pa:=by obtain ⟨kq,h1,h2⟩:=h;exact ⟨kq,(hb.block _ (lt_of_block h1)).trans h1,h2⟩
theorem uh.cell (h:uh W rq pa) (hj:j<pa.length):W.cell? ⟨rq,j,none⟩=some (vP (pa.getD j 0) 0)∧W.frozen? ⟨rq,j,none⟩=false:=by
 obtain ⟨kq,h1,h2⟩:=h;have h3:kq[j]?=some (vP (pa.getD j 0) 0):=by rw [←tV];refine lM h2 ?_;rw [wB,lz hj,ux,lz hj];rfl
 exact ⟨by simp [World.cell?,h1,h3],by simp [World.frozen?,h1]⟩
def IdxR (W:World) (sl:List af.aS) (id:Nat) (iv:Value) (wr:World):Prop:=∃ j,j≤sl.length∧iv=vI (j:Nat)∧(∀ (m:Nat) (hm:m<sl.length),m<j→(sl[m].find id).isSome=false)∧Below W.heap.size W wr
theorem TD (h:∀ (m:Nat) (hm:m<sl.length),m<sl.length→(sl[m].find id).isSome=false):(sl.findIdx? fun s=>(s.find id).isSome)=none:=by rw [List.findIdx?_eq_none_iff];intro s hs;obtain ⟨m,hm,rfl⟩:=List.mem_iff_getElem.1 hs;exact h m hm hm
theorem TB (hj:j<sl.length) (h:∀ (m:Nat) (hm:m<sl.length),m<j→(sl[m].find id).isSome=false) (h2:(sl[j].find id).isSome=true):(sl.findIdx? fun s=>(s.find id).isSome)=some j:=by rw [List.findIdx?_eq_some_iff_getElem];exact ⟨hj,h2,fun m hm=>by simpa using h m (by omega) hm⟩
theorem Km {r:Option af.One} (hi:W.heap[i]?=some (cl #[vU id] 31)) (hk:W.heap[k]?=some (cl (dD q l) 109)) (hr:l.find id=r):Calls Tryz.prog 154 #[vP k 0,vP i 0] W fun e w'=>e=.returned (.bool r.isSome)∧Below W.heap.size W w':=by
 have hne:i≠k:=by rintro rfl;rw [hi] at hk;simp [dD] at hk
 have hL:∀ x∈[(i,Obj.cells #[vU (id:Nat)] 31 (0,0)),(k,Obj.cells (dD q l) 109 (0,0))],W.heap[x.1]?=some x.2:=by exact ZX
 refine (Kl (NF.G7 hL (by simp [hne])) hr).mono ?_;rintro e w' ⟨rfl,h⟩;exact ⟨rfl,NF.belOf hL h fun x hx=>hx⟩
theorem OO {o:Option Nat} (hi:W.heap[i]?=some (cl #[vU id] 31)) (hrow:uh W rq pa) (hp:ig W pa sl) (hn:sl.length=n) (hc:n≤8) (ho:(sl.findIdx? fun s=>(s.find id).isSome)=o):Calls Tryz.prog 128 #[vL rq 0 n c,.func (.func 154) #[] #[vP i 0]] W fun e w'=>e=.returned (vI (G8 o))∧Below W.heap.size W w':=by
 obtain ⟨HI,HR,HP,HO,HN⟩:=vT hi hrow hp ho hn
 clear hi hrow hp ho hn
 go_enter Tryz.func128,Tryz.ntmps128
 go_wp2_with fail
 go_loopw [8] (fun iv wr=>IdxR W sl id iv wr) (fun iv _=>n - (intOf iv).toNat)
 case atStart=>exact ⟨0,ax,rfl,fun m hm h=>absurd h (Nat.not_lt_zero _),Below.refl _ _⟩
 case round =>
  obtain ⟨j,hj,rfl,hno,hb⟩:=hrel;obtain ⟨XD,HB⟩:=hi2 hno hb;clear hno;by_cases hlt:j<n
  ·have hjl:j<sl.length:=by rw [HN.out];exact hlt
   have hc1:=(HR.out.later hb).cell (j:=j) (by rw [HP.out.1];exact hjl);obtain ⟨q,hq⟩:=(HP.out.later hb).2 j hjl;have hi2:=(hb.block _ (lt_of_block HI.out)).trans HI.out;obtain ⟨r,hr⟩:∃ r,sl[j].find id=r:=⟨_,rfl⟩
   have C:=Hi (Km hi2 hq hr);exact a927
  ·exact a995
theorem OP {r:Option af.One} (hi:W.heap[i]?=some (cl #[vU id] 31)) (hk:W.heap[k]?=some (cl (dD q l) 109)) (hr:l.find id=r):Calls Tryz.prog 89 #[vP k 0,vP i 0] W fun e w'=>e=.returned (.bool r.isSome)∧Below W.heap.size W w':=by
 have hne:i≠k:=by rintro rfl;rw [hi] at hk;simp [dD] at hk
 have hL:∀ x∈[(i,Obj.cells #[vU (id:Nat)] 31 (0,0)),(k,Obj.cells (dD q l) 109 (0,0))],W.heap[x.1]?=some x.2:=by exact ZX
 refine (OM (NF.G7 hL (by simp [hne])) hr).mono ?_;rintro e w' ⟨rfl,h⟩;exact ⟨rfl,NF.belOf hL h fun x hx=>hx⟩
theorem TN {o:Option Nat} (hi:W.heap[i]?=some (cl #[vU id] 31)) (hrow:uh W rq pa) (hp:ig W pa sl) (hn:sl.length=n) (hc:n≤8) (ho:(sl.findIdx? fun s=>(s.find id).isSome)=o):Calls Tryz.prog 128 #[vL rq 0 n c,.func (.func 89) #[] #[vP i 0]] W fun e w'=>e=.returned (vI (G8 o))∧Below W.heap.size W w':=by
 obtain ⟨HI,HR,HP,HO,HN⟩:=vT hi hrow hp ho hn
 clear hi hrow hp ho hn
 go_enter Tryz.func128,Tryz.ntmps128
 go_wp2_with fail
 go_loopw [8] (fun iv wr=>IdxR W sl id iv wr) (fun iv _=>n - (intOf iv).toNat)
 case atStart=>exact ⟨0,ax,rfl,fun m hm h=>absurd h (Nat.not_lt_zero _),Below.refl _ _⟩
 case round =>
  obtain ⟨j,hj,rfl,hno,hb⟩:=hrel;obtain ⟨XD,HB⟩:=hi2 hno hb;clear hno;by_cases hlt:j<n
  ·have hjl:j<sl.length:=by rw [HN.out];exact hlt
   have hc1:=(HR.out.later hb).cell (j:=j) (by rw [HP.out.1];exact hjl);obtain ⟨q,hq⟩:=(HP.out.later hb).2 j hjl;have hi2:=(hb.block _ (lt_of_block HI.out)).trans HI.out;obtain ⟨r,hr⟩:∃ r,sl[j].find id=r:=⟨_,rfl⟩
   have C:=Hi (OP hi2 hq hr);exact a927
  ·exact a995
theorem TP {b:Bool} (hi:W.heap[i]?=some (cl #[vU id] 31)) (hrow:uh W rq pa) (hp:ig W pa sl) (hn:sl.length=n) (hc:n≤8) (ho:(sl.any fun s=>(s.find id).isSome)=b):Calls Tryz.prog 88 #[vL rq 0 n c,.func (.func 89) #[] #[vP i 0]] W fun e w'=>e=.returned (.bool b)∧Below W.heap.size W w':=by
 obtain ⟨o,hx⟩:∃ o,(sl.findIdx? fun s=>(s.find id).isSome)=o:=⟨_,rfl⟩
 have C:=Hi (TN (c:=c) hi hrow hp hn hc hx);have hb:decide (0≤G8 o)=b:=by
  rw [←ho]
  cases o with
  | none =>
   rw [List.findIdx?_eq_none_iff] at hx;rw [decide_eq_false (show ¬0≤G8 none by decide)];symm;rw [List.any_eq_false];intro s hs;simpa using hx s hs
  | some j =>
   obtain ⟨h1,h2,_⟩:=List.findIdx?_eq_some_iff_getElem.1 hx;rw [decide_eq_true (show 0≤G8 (some j) from Ao j)];exact (List.any_eq_true.2 ⟨_,KX h1,h2⟩).symm
 clear hi hrow hp hn ho hx;go_enter Tryz.func88,Tryz.ntmps88;go_wp2_with fail;refine C.out.mono ?_;rintro e w1 ⟨rfl,hb1⟩;have HB:=Hi hb1;clear hb1 C;have e1:decide (G8 o≥0)=b:=hb;exact Kk
def cQ (w:World) (mb:Nat) (l:List (Nat×Value)):Prop:=((l.map (·.1)).Nodup∧∀ x∈l,x.1<18446744073709551616)∧∃ D,w.ownsMap Tryz.prog 31 cK mb l.length D∧bq aV kW D l
section
variable {w w' W:World} {mb r:Nat} {l m:List (Nat×Value)} {S:List Nat} {w0:World} {R:List aW} {L:List (Nat×Obj)}
theorem cQ.res (h:cQ w mb l):(dz mb l).holds [mb] w:=⟨rfl,h⟩
theorem cQ.same (h:cQ w mb l) (e:w'.heap[mb]?=w.heap[mb]?):cQ w' mb l:=by obtain ⟨h1,D,h2,h3⟩:=h;exact ⟨h1,D,h2.same e,h3⟩
theorem cQ.lt (h:cQ w mb l):mb<w.heap.size:=by obtain ⟨h1,D,h2,h3⟩:=h;exact h2.lt
theorem cQ.later (h:cQ w mb l) (hb:Below w.heap.size w w'):cQ w' mb l:=h.same (hb.block _ h.lt)
theorem NF.mapAt (h:NF S w0 W (dz mb l::R) L):cQ W mb l:=by obtain ⟨f,hf,_⟩:=h.tell;exact hf.2
theorem NF.lR (h:NF S w0 W (dz mb l::R) L) (hm:cQ w' mb m) (ht:az [mb] W w'):NF S w0 w' (dz mb m::R) L:=by
 obtain ⟨S1,h1,h2⟩:=NF.split (A:=[dz mb l]) h;have hS1:mb∈S1:=by
  obtain ⟨⟨Z,hz,hS⟩,_,_⟩:=h1;obtain ⟨a,Z2,rfl,e1,e2⟩:=List.map_eq_cons_iff.1 hz.rs;have ha:=hz.res a (dN ..);rw [e1] at ha;have hm:mb∈gG (a::Z2):=List.mem_flatMap.2 ⟨a,dN ..,c974⟩;rcases hS mb hm with h|h
  ·exact h
  ·have:=(dz mb l).lt ha mb c974;omega
 refine h2 w' [dz mb m] [] ⟨⟨[(dz mb m,[mb])],⟨rfl,fun z hz=>?_,fun x hx=>absurd hx aH,by simp [gG]⟩,fun i hi=>?_⟩,fun x hx=>absurd hx aH,ht.mono fun i hi=>?_⟩
 ·rw [rZ] at hz;subst hz;exact hm.res
 ·simp [gG] at hi;subst hi;exact .inl hS1
 ·rw [rZ] at hi;subst hi;exact hS1
theorem Me (hk:∀ x∈l,x.1≠k):(l.any fun p=>p.1==k)=false:=List.any_eq_false.2 fun p hp=>by simpa using hk p hp
theorem cQ.put {D:DataW Value} (hl:((l.map (·.1)).Nodup∧∀ x∈l,x.1<18446744073709551616)) (hM:bq aV kW D l) (hk:∀ x∈l,x.1≠k) (hb:k<18446744073709551616) (ho:w.ownsMap Tryz.prog 31 cK mb (l.length+1) (D.put (aV k) (.held v))):cQ w mb (l++[(k,v)]):=by
 refine ⟨⟨?_,fun x hx=>?_⟩,_,by rw [E5];exact ho,hM.put kV J6 v (Me hk)⟩
 ·rw [dc,List.nodup_append];refine ⟨hl.1,aH,fun a ha b hb2 e=>?_⟩;obtain ⟨x,hx,rfl⟩:=List.mem_map.1 ha;simp at hb2;exact hk x hx (e.trans hb2)
 ·rcases List.mem_append.1 hx with hx|hx
  ·exact hl.2 x hx
  ·simp at hx;subst hx;exact hb
theorem cQ.look (h:cQ w mb l) (hu:Tryz.prog.underlying mt=some (.map 31 e)) (hz:∀ w,(zeroValue e).run Tryz.prog w=.ok z w) (hk:(k,v)∈l):(Instr.lookup mt (.map (some mb)) (vU k) true).run Tryz.prog w=.ok (.tuple #[v,.bool true]) w:=by
 obtain ⟨h1,D,h2,h3⟩:=h;have hh:Maps.has D (aV k)=true:=by rw [h3.has k];exact List.any_eq_true.2 ⟨_,hk,by simp⟩
 obtain ⟨v',ps,hrun,hv⟩:=h2.look_ok mX hu (hz w) (zd:=.held z) (zp:=[]) rfl (iy (h1.2 _ hk));rw [h3.at_ _ hk] at hv;have hv2:v'=v:=DataW.held.inj (congrArg Prod.fst (Option.some.inj hv));rw [hrun,hv2,hh]
theorem cQ.EK (h:cQ w mb l) (hu:Tryz.prog.underlying mt=some (.map 31 e)) (hz:∀ w,(zeroValue e).run Tryz.prog w=.ok z w) (hb:k<18446744073709551616) (hk:∀ x∈l,x.1≠k):(Instr.lookup mt (.map (some mb)) (vU k) true).run Tryz.prog w=.ok (.tuple #[z,.bool false]) w:=by
 obtain ⟨h1,D,h2,h3⟩:=h;have hh:Maps.has D (aV k)=false:=by rw [h3.has k];exact Me hk
 obtain ⟨v',ps,hrun,hv⟩:=h2.look_ok mX hu (hz w) (zd:=.held z) (zp:=[]) rfl (iy hb);rw [atKey_of_not_has hh] at hv;have hv2:v'=z:=DataW.held.inj (congrArg Prod.fst (Option.some.inj hv));rw [hrun,hv2,hh]
def nO (w:World) (mb r:Nat) (l:List (Nat×Value)) (keep:Nat×Value→Bool) (wr:World):Prop :=
 ∃ left cnt D m,m=l.filter (fun x=>keep x||left (aV x.1))∧wr.ranges Tryz.prog 31 cK mb r l.length D left cnt∧bq aV kW D m∧(∀ kl,left kl=true→∃ i,kl=aV i)∧az [mb] w wr
theorem nO.start {keep:Nat×Value→Bool} {D:DataW Value} {cnt:Nat} (h1:bq aV kW D l) (hr:w'.ranges Tryz.prog 31 cK mb r l.length D (fun kl=>Maps.has D kl) cnt) (hg:w.grownBy w' none):nO w mb r l keep w':=by refine ⟨_,cnt,D,l,?_,hr,h1,h1.only,az.grown hg aH⟩;symm;refine List.filter_eq_self.2 fun x hx=>?_;exact ZH
theorem OI (hn:(l.map (·.1)).Nodup) {x y:Nat×Value} (hx:x∈l) (hy:y∈l) (e:x.1=y.1):x=y:=by
 induction l with
 | nil=>simp at hx
 | cons z l ih =>
  rw [jQ,uM] at hn;rcases List.mem_cons.1 hx with h1|h1<;>rcases List.mem_cons.1 hy with h2|h2
  ·rw [h1,h2]
  ·exact Zy
  ·exact ZA
  ·exact ih hn.2 h1 h2
end
section
variable (w:World) {ops:Array Oper} {rest:List Oper} {o:Oper} {a:Act} {Q:Exit→Act→World→Prop}
theorem rW (hg:o.guard=none) (it:Operand) (hop:o.op=Op.next it false) (b r n:Nat) (D:DataW Value) (left:Lit→Bool) (cnt:Nat) (l:List (Nat×Value)) (hit:a.eval it=.pointer (some ⟨r,0,none⟩))
 (h:w.ranges Tryz.prog 31 cK b r n D left cnt) (hM:bq aV kW D l) (hk:∀ kl,left kl=true→∃ i,kl=aV i)
 (hDone:(∀ kl,left kl=false)→wpList Tryz.prog ops Q rest (a.put o.dst (.tuple #[.bool false])) w)
 (hMore:∀ (i:Nat) (s:Value) (w':World) (cnt':Nat),(i,s)∈l→left (aV i)=true→w'.ranges Tryz.prog 31 cK b r n D (fun z=>left z&&!z.sameKey (aV i)) cnt'→cnt'<cnt→w.grownBy w' (some r)→w'.heap.size=w.heap.size →
  (Instr.entry (vP r 0)).run Tryz.prog w'=.ok (.tuple #[vU i,s]) w'→wpList Tryz.prog ops Q rest (a.put o.dst (.tuple #[.bool true,vU i,s])) w') :
 wpList Tryz.prog ops Q (o::rest) a w:=by
 refine wpList_plain hg fun K' hK'=>?_
 unfold Oper.wp
 rcases h.next mX o.type with ⟨h0,hl,hrun⟩|⟨key,v,kl,y,w',cnt',hkey,hlk,hv,hat,hrun,hrg,hlt,hgr,hsz,hen⟩
 ·exact Tz
 ·obtain ⟨i,rfl⟩:=hk kl hlk;obtain ⟨x,rfl,e1,_⟩:=Maps.keyOf_int_inv Tryz.underlying31 hkey;obtain ⟨s,hs⟩:=hM.find (has_true_of_atKey hat);have e2:x=(i:Int):=by simpa [aV] using e1.symm
  subst e2;have e3:=hM.at_ _ hs .nil;rw [hat] at e3;have e4:v=s:=by have h2:((DataW.held v:DataW Value),([]:List MemPlace))=y:=Option.some.inj hv;rw [←h2] at e3;exact DataW.held.inj e3
  subst e4;simp [execOp,hop,hit,hrun,Result.andThen];exact hK' _ _ (hMore i v w' cnt' hs hlk hrg hlt hgr hsz hen)
end
section
variable {w wr w2 w3:World} {mb r cnt cnt2 i:Nat} {l m:List (Nat×Value)} {keep:Nat×Value→Bool} {left:Lit→Bool} {D:DataW Value} {s:Value}
theorem xg (hn:(l.map (·.1)).Nodup∧∀ x∈l,x.1<18446744073709551616) (hm:m=l.filter fun x=>keep x||left (aV x.1)) (hr:wr.ranges Tryz.prog 31 cK mb r l.length D left cnt) (hM:bq aV kW D m) (hl:∀ kl,left kl=false):cQ wr mb (l.filter keep):=by
 have e:m=l.filter keep:=by rw [hm];refine yX fun x _=>?_;rw [hl];simp
 subst e;have h1:=hr.owns.tight;rw [hM.size] at h1;exact ⟨⟨(List.filter_sublist.map _).nodup hn.1,fun x hx=>hn.2 x (List.mem_filter.1 hx).1⟩,D,h1,hM⟩
theorem CY (hn:(l.map (·.1)).Nodup) (hm:m=l.filter fun x=>keep x||left (aV x.1)) (hx:(i,s)∈m) (hk:keep (i,s)=true):(l.filter fun x=>keep x||(left (aV x.1)&&!(aV x.1).sameKey (aV i)))=m:=by
 rw [hm];refine yX fun x hxl=>?_;rw [jm];by_cases e:x.1=i
 ·exact aae
 ·have e':(x.1==i)=false:=Ip;simp only [e',nS,Bool.and_true]
theorem xh (hn:(l.map (·.1)).Nodup) (hm:m=l.filter fun x=>keep x||left (aV x.1)) (hx:(i,s)∈m) (hk:keep (i,s)=false):(l.filter fun x=>keep x||(left (aV x.1)&&!(aV x.1).sameKey (aV i)))=m.filter fun p=>!(p.1==i):=by
 rw [hm,List.filter_filter];refine yX fun x hxl=>?_;rw [jm];by_cases e:x.1=i
 ·exact aae
 ·have e':(x.1==i)=false:=Ip;simp only [e',nS,Bool.and_true,DK]
theorem AR (left:Lit→Bool) (k:Lit):(fun x=>(left x&&!x.sameKey k)&&!x.sameKey k)=fun x=>left x&&!x.sameKey k:=by funext x;cases left x<;>cases x.sameKey k<;>rfl
theorem nO.kept (hn:(l.map (·.1)).Nodup) (hm:m=l.filter fun x=>keep x||left (aV x.1)) (hr:wr.ranges Tryz.prog 31 cK mb r l.length D left cnt) (hM:bq aV kW D m) (hk:∀ kl,left kl=true→∃ i,kl=aV i) (ht:az [mb] w wr) (hrw:w.heap.size≤r)
 (hx:(i,s)∈m) (hks:keep (i,s)=true) (hr2:w2.ranges Tryz.prog 31 cK mb r l.length D (fun z=>left z&&!z.sameKey (aV i)) cnt2) (hc:cnt2<cnt) (hg:wr.grownBy w2 (some r)) (hb:Below w2.heap.size w2 w3) :
 nO w mb r l keep w3∧w3.rangeLeft mb r<wr.rangeLeft mb r:=by
 have hr3:=hr2.same (hb.block mb hr2.owns.lt) (hb.block r hr2.lt)
 refine ⟨⟨_,cnt2,D,m,(CY hn hm hx hks).symm,hr3,hM,fun kl h=>hk kl GK,?_⟩,c975⟩
 refine (ht.trans (az.grown (S:=[r]) hg (fun j e=>.inl nX)) (fun j e=>.inr Ap)).trans (az.below (S:=[]) hb) (fun j e=>absurd e aH)
theorem nO.gone (hn:(l.map (·.1)).Nodup∧∀ x∈l,x.1<18446744073709551616) (hm:m=l.filter fun x=>keep x||left (aV x.1)) (hr:wr.ranges Tryz.prog 31 cK mb r l.length D left cnt) (hM:bq aV kW D m) (hk:∀ kl,left kl=true→∃ i,kl=aV i) (ht:az [mb] w wr) (hrw:w.heap.size≤r)
 (hx:(i,s)∈m) (hks:keep (i,s)=false) (hr2:w2.ranges Tryz.prog 31 cK mb r l.length D (fun z=>left z&&!z.sameKey (aV i)) cnt2) (hc:cnt2<cnt) (hg:wr.grownBy w2 (some r)) (hb:Below w2.heap.size w2 w3) (hu:Tryz.prog.underlying mt=some (.map 31 e)) (ty:TypeId) :
 ∃ w4,(Builtin.delete_ #[mt,31] ty #[.map (some mb),vU i]).run Tryz.prog w3=.ok (.tuple #[]) w4∧nO w mb r l keep w4∧w4.rangeLeft mb r<wr.rangeLeft mb r:=by
 have hr3:=hr2.same (hb.block mb hr2.owns.lt) (hb.block r hr2.lt)
 have hil:i<18446744073709551616:=hn.2 (i,s) c976
 obtain ⟨w4,Tg,hrun,hr4,hle,hmt⟩:=hr3.drop mX hu (iy hil) ty
 rw [AR] at hr4
 have hmn:(m.map (·.1)).Nodup:=c977
 have hM4:=hM.del kV hmn i
 rw [←xh hn.1 hm hx hks] at hM4
 have hmb:mb∈[mb]:=ud _
 refine ⟨w4,hrun,⟨_,Tg,_,_,rfl,hr4,hM4,fun kl h=>hk kl GK,?_⟩,by rw [hr4.left_eq,hr.left_eq];omega⟩
 refine ((ht.trans (az.grown (S:=[r]) hg (fun j e=>.inl nX)) (fun j e=>.inr Ap)).trans (az.below (S:=[]) hb) (fun j e=>absurd e aH)).trans (az.grown (S:=[mb]) hmt.grown (fun j e=>.inl nX)) (fun j e=>.inl e)
end
end Go.Proofs.N0
namespace Go.Proofs.N0
open Go.RowKit Go.Maps Go.ChangeMaps
variable {k b p:Nat} {cs:Array Value} {T:TypeId} {pa:List Nat} {W:World} {t:af.Pt}
section
variable {W w':World} {mb:Nat} {l:List (Nat×Value)}
theorem cQ.len {mt e ty:TypeId} (h:cQ W mb l) (hu:Tryz.prog.underlying mt=some (.map 31 e)):(Builtin.len_ #[mt] ty #[.map (some mb)]).run Tryz.prog W=.ok (vI l.length) W:=by
 obtain ⟨h1,D,h2,h3⟩:=h
 have:=h2.len hu ty
 rw [h3.size] at this
 exact this
theorem cQ.ne (h:cQ W mb l) (hk:W.heap[k]?=some (.cells cs T (0,0))):k≠mb:=by rintro rfl;obtain ⟨h1,D,⟨es,clock,hb,_⟩,h3⟩:=h;rw [hk] at hb;cases hb
theorem fU (hk:W.heap[k]?=some (.cells cs T (0,0))) (h:cQ W mb l) (ht:az [mb] W w'):w'.heap[k]?=some (.cells cs T (0,0)) :=
 (ht.block k (lt_of_block hk) (by rw [rZ];exact h.ne hk)).trans hk
theorem ig.turned {sl:List af.aS} (hp:ig W pa sl) (h:cQ W mb l) (ht:az [mb] W w'):ig w' pa sl :=
 ⟨hp.1,fun j hj=>by obtain ⟨q,hq⟩:=hp.2 j hj;exact ⟨q,fU hq h ht⟩⟩
theorem uh.turned {rq:Nat} (hp:uh W rq pa) (h:cQ W mb l) (ht:az [mb] W w'):uh w' rq pa:=by obtain ⟨kq,h1,h2⟩:=hp;exact ⟨kq,fU h1 h ht,h2⟩
end
theorem OQ {id:Nat} {a:rT} {o:Option Nat} (hb:W.heap[b]?=some (cl (iz a p t) 80)) (hr:uh W a.rq a.pa) (hp:ig W a.pa t.slots) (hn:t.slots.length=t.aj.length) (hm:t.aj.length≤8) (ho:t.whose id=o):Calls Tryz.prog 126 #[vP b 0,vU id] W fun e w'=>e=.returned (vI (G8 o))∧Below W.heap.size W w':=by have M:=Hi (((Mem.start W).with hb).alloc (cl #[vU id] 31));unfold iz at M;have hb1:=(Below.refl W.heap.size W).alloc (cC _) (cl #[vU id] 31);have C:=Hi (OO (c:=a.cq) (M.out.get 0 rfl) (hr.later hb1) (hp.later hb1) hn hm ho);have HB:=Hi hb1;have Wp:∀ (fn:Fn) (first cap:Array Value) (w:World),(Instr.makeFunc fn first cap).run Tryz.prog w=.ok (.func fn first cap) w:=fun _ _ _ _=>rfl;clear hb hr hp hn hm ho hb1;have r:=rl M.out.rules;go_enter Tryz.func126,Tryz.ntmps126;go_wp2_with fail;refine C.out.mono ?_;rintro e w1 ⟨rfl,hb1⟩;have lO:=Hi (HB.out.trans (hb1.mono HB.out.size));clear hb1 C r;exact YL
def nP (sl:List af.aS) (x:Nat×Value):Bool:=sl.any fun s=>(s.find x.1).isSome
theorem AU {a:rT} {l:List (Nat×Value)} (hb:W.heap[b]?=some (cl (iz a p t) 80)) (hl:cQ W a.lb l) (hr:uh W a.rq a.pa) (hp:ig W a.pa t.slots) (hn:t.slots.length=t.aj.length) (hm:t.aj.length≤8) (qc:l.length<9223372036854775808) :
 Calls Tryz.prog 44 #[vP b 0] W fun e w'=>e=.returned (vI (l.length - (l.filter (nP t.slots)).length:Nat))∧cQ w' a.lb (l.filter (nP t.slots))∧az [a.lb] W w':=by
 obtain ⟨lb,hlb⟩:∃ lb,lb=a.lb:=⟨_,rfl⟩
 have hb':=hb
 unfold iz at hb'
 rw [←hlb] at hl hb' ⊢
 obtain ⟨HB,HL,HR,HP,HN,HM⟩:=Vn hb' hl hr hp hn hm
 have M0:=Hi ((Mem.start W).with hb')
 have ln0:=hl.len (ty:=3) Tryz.underlying78
 have Wp:∀ (fn:Fn) (first cap:Array Value) (w:World),(Instr.makeFunc fn first cap).run Tryz.prog w=.ok (.func fn first cap) w:=fun _ _ _ _=>rfl
 obtain ⟨hkeys,D0,rF,hm0⟩:=hl
 obtain ⟨HK,NR,N3⟩:=ju hkeys hm0 rF
 clear hb hb' hr hp hn hm hkeys hm0 rF
 clear hlb
 have r:=rl M0.out.rules
 go_enter Tryz.func44,Tryz.ntmps44
 go_wp2_with (at_range;refine wpList_range_own _ rfl _ 78 rfl 31 96 mX Tryz.underlying78 _ lb l.length D0 rfl N3.out ?_;intro w0 hrg0 hg0 hs0)
 have TQ:=Hi (nO.start (w:=W) (keep:=nP t.slots) NR.out hrg0 hg0)
 clear r hrg0 hg0 hs0 ln0
 go_frame
 go_loopw [15] (fun _ wr=>nO W lb W.heap.size l (nP t.slots) wr) (fun _ wr=>wr.rangeLeft lb W.heap.size)
 case atStart=>exact TQ.out
 case round =>
  obtain ⟨left,cnt,D,m,hm,hrg,hM,hk,ht⟩:=hrel;obtain ⟨sw,wU,yt,Kn,HT⟩:=vT hm hrg hM hk ht;clear hm hrg hM hk ht TQ;go_wp2_with (at_next;refine rW _ rfl _ rfl lb W.heap.size l.length D left cnt _ rfl wU.out yt.out Kn.out ?_ ?_)
  ·intro hl0;have js:=Hi (xg HK.out sw.out wU.out yt.out hl0);have hbr:=Hi (fU HB.out HL.out HT.out);have ln1:=js.out.len (ty:=3) Tryz.underlying78;have r:=rl (((Mem.start wr).with hbr.out).rules);have hle:(l.filter (nP t.slots)).length≤l.length:=lG _ _;obtain ⟨n1,G9⟩:∃ n,n=(l.filter (nP t.slots)).length:=⟨_,rfl⟩
   have hw:IntKind.i64.wrap ((l.length:Int) - (n1:Int))=((l.length - n1:Nat):Int):=by rw [←G9] at hle;rw [show ((l.length - n1:Nat):Int)=(l.length:Int) - (n1:Int) by omega];exact IntWalk.i64_in _ ax
   have HE:=Hi (And.intro js.out HT.out);rw [←G9] at ln1;have Xq:=Hi G9;clear hl0 js G9 hle;go_wp2_with fail;go_ret;exact ⟨by rw [←Xq.out];rfl,HE.out⟩
  ·intro i s w2 cnt2 hin BU hrg2 hlt hg2 hs2 hen;have IB:az [lb] W w2:=HT.out.trans (az.grown (S:=[W.heap.size]) hg2 (fun j e=>.inl nX)) (fun j e=>.inr Ap);have hb2:=fU HB.out HL.out IB;have M1:=Hi (((Mem.start w2).with hb2).alloc (cl #[vU i] 31));have hbl:=(Below.refl w2.heap.size w2).alloc (cC _) (cl #[vU i] 31);have od:=Hi hbl;obtain ⟨c,hc⟩:∃ c,nP t.slots (i,s)=c:=⟨_,rfl⟩
   have C:=Hi (TP (c:=a.cq) (M1.out.get 0 rfl) ((HR.out.turned HL.out IB).later hbl) ((HP.out.turned HL.out IB).later hbl) HN.out HM.out hc);obtain ⟨ox,pX,pP,OS,HC⟩:=vT hin hrg2 hlt hg2 hc;clear IB hb2 hbl hin BU hrg2 hlt hg2 hs2 hc;have r:=rl M1.out.rules;go_wp2_with fail;refine C.out.mono ?_;rintro e w3 ⟨rfl,hb3⟩;have HB3:=Hi (od.out.trans (hb3.mono od.out.size));have M2:=Hi (M1.out.later hb3);clear hb3 C r M1 hen;cases c
   ·go_wp2_with fail;have r:=rl M2.out.rules;go_still_tail 5,aI;change wpList _ _ _ _ _ w3.drew;obtain ⟨w4,hrun,XS,nY⟩:=nO.gone (w3:=w3.drew) HK.out sw.out wU.out yt.out Kn.out HT.out (cC _) ox.out HC.out pX.out pP.out OS.out (HB3.out.trans (Below.refl _ w3).drew) Tryz.underlying78 0;obtain ⟨oD,Iw⟩:=hi2 XS nY;clear XS nY r;refine pq _ rfl _ _ _ _ rfl rfl rfl hrun ?_;clear hrun;simp only [Act.put];exact S4
   ·have hk2:=nO.kept HK.out.1 sw.out wU.out yt.out Kn.out HT.out (cC _) ox.out HC.out pX.out pP.out OS.out HB3.out;obtain ⟨oD,Iw⟩:=hi2 hk2.1 hk2.2;clear hk2;exact S4
end Go.Proofs.N0
namespace Go.Proofs.N0
open Go.RowKit
variable {s:List UInt8} {k most:Int} {n p er:Nat}
def XT (r:List UInt8×Nat×Nat) (w:World) (e:Ending) (w':World):Prop:=e=.returned (.tuple #[vS r.1,vI r.2.1,vI r.2.2])∧Below w.heap.size w w'
theorem TR (hg:af.get s k=(n,p,er)) (he:er≠0):af.dP s k most=([],0,er):=by simp [af.dP,hg,he]
theorem TT (hg:af.get s k=(n,p,0)) (h:max 0 most<n):af.dP s k most=([],0,4):=by unfold af.dP;simp only [hg];rw [if_neg aH,if_pos h]
theorem Ko (hg:af.get s k=(n,p,0)) (h:¬max 0 most<n) (h2:s.length - p<n):af.dP s k most=([],0,2):=by unfold af.dP;simp only [hg];rw [if_neg aH,if_neg h,if_pos h2]
theorem XU (hg:af.get s k=(n,p,0)) (h:¬max 0 most<n) (h2:¬s.length - p<n):af.dP s k most=((s.drop p).take n,p+n,0):=by unfold af.dP;simp only [hg];rw [if_neg aH,if_neg h,if_neg h2]
theorem OT {s:ByteArray} (hg:af.get s.data.toList k=(n,p,er)) (w:World) (hs:s.size≤maxLen) (hm:most≤9223372036854775807) (hp:p≤s.size) (hn:n<18446744073709551616) :
 Calls Tryz.prog 115 #[.string s,vI k,vI most] w (XT (af.dP s.data.toList k most) w):=by
 obtain ⟨HG,HN⟩:=hi2 hg hn;clear hg hn
 have HS:=Hi hs
 unfold maxLen at hs
 by_cases he:er=0
 ·subst he;by_cases h1:max 0 most<n
  ·go_enter Tryz.func115,Tryz.ntmps115;go_wp2_with (go_at_call 78;refine (eu HG.out _ HS.out).mono ?_;rintro e w' ⟨rfl,hb⟩)
   go_ret3;rw [TT HG.out ax];exact ⟨rfl,hb⟩
  ·by_cases h2:s.size - p<n
   ·go_enter Tryz.func115,Tryz.ntmps115;go_wp2_with (go_at_call 78;refine (eu HG.out _ HS.out).mono ?_;rintro e w' ⟨rfl,hb⟩)
    go_ret3;rw [Ko HG.out ax aR];exact ⟨rfl,hb⟩
   ·go_enter Tryz.func115,Tryz.ntmps115;go_wp2_with (go_at_call 78;refine (eu HG.out _ HS.out).mono ?_;rintro e w' ⟨rfl,hb⟩)
    go_ret3;rw [XU HG.out ax aR];exact ⟨by rw [extract_eq];rfl,hb⟩
 ·go_enter Tryz.func115,Tryz.ntmps115;go_wp2_with (go_at_call 78;refine (eu HG.out _ HS.out).mono ?_;rintro e w' ⟨rfl,hb⟩)
  go_ret3;rw [TR HG.out he];exact ⟨rfl,hb⟩
theorem OU (s:ByteArray) (w:World) (hs:s.size≤140737488351232) :
 Calls Tryz.prog 107 #[.string s] w fun e w'=>e=.returned (vS (af.aZ s.data.toList))∧Below w.heap.size w w':=by
 have hL:=(af.gz s.size).2
 go_enter Tryz.func107,Tryz.ntmps107
 go_wp2_with (go_at_call 65;refine (Gk s.size _ ax).mono ?_;rintro e w' ⟨rfl,hb⟩)
 go_ret
 exact ⟨by rw [append_eq];simp [af.aZ],hb⟩
end Go.Proofs.N0
namespace af
theorem Kq {m:bJ} (h:m.right=true):bk (m.v 0)≠[]∧(∀ f∈bk (m.v 0),iE m f=true)∧m.same (jf m (bk (m.v 0)))=true:=by unfold bJ.right at h;rw [gi,gi] at h;exact ⟨by simpa using h.1.1,List.all_eq_true.1 h.1.2,h.2⟩
theorem XV {k:Int} (h:bk k≠[]):1≤k∧k≤4:=by
 rcases mh k with ⟨e,_⟩|⟨e,_⟩|⟨e,_⟩|⟨e,_⟩|⟨_,_,_,_,e⟩
 ·omega
 ·omega
 ·omega
 ·omega
 ·exact absurd e h
theorem CZ {l:List UInt8} (h:cL l=true):1≤l.length∧l.length≤8:=by unfold cL at h;rw [gi,decide_eq_true_eq] at h;exact h.2
theorem Mf {m:bJ} {f:oa} (h:iE m f=true):(iF m f).length≤18:=by
 unfold iF;unfold iE at h;by_cases h3:f.c=3
 ·rw [if_pos h3] at h ⊢
  have:=CZ h
  have:=(gz m.offer.length).2
  simp only [aZ,E5];omega
 ·rw [if_neg h3]
  have:=(gz (m.v f.c).toNat).2
  omega
def BK (m:bJ) (i:Nat):List UInt8:=put (m.v 0).toNat++((bk (m.v 0)).take i).flatMap (iF m)
theorem He {m:bJ}:∀ {l:List oa},(∀ f∈l,iE m f=true)→(l.flatMap (iF m)).length≤18*l.length
 | [],_=>aH
 | f::l,h=>by
  have:=He (l:=l) fun g hg=>h g (xY _ hg)
  have:=Mf (h f (dN ..))
  rw [tB,E5,yQ];omega
theorem XW {m:bJ} (h:∀ f∈bk (m.v 0),iE m f=true) (i:Nat):(BK m i).length≤154:=by have h1:=(gz (m.v 0).toNat).2;have h2:=He (m:=m) (l:=(bk (m.v 0)).take i) fun f hf=>h f (List.mem_of_mem_take hf);have h3:=qh (m.v 0);rw [fJ] at h2;unfold BK;rw [E5];omega
theorem TU {m:bJ} {i:Nat} {f:oa} (h:(bk (m.v 0)).take (i+1)=(bk (m.v 0)).take i++[f]):BK m (i+1)=BK m i++iF m f:=by unfold BK;rw [h,jO,E6];simp
theorem XX {m:bJ}:BK m (bk (m.v 0)).length=m.bytes:=by unfold BK bJ.bytes;rw [List.take_length]
end af
namespace Go.Proofs.N0
open Go.RowKit Go.Maps Go.ChangeMaps
variable {m:af.bJ}
def EncR (w:World) (m:af.bJ) (bm gm:Nat) (av iv:Value) (wr:World):Prop :=
 ∃ i:Nat,i≤(af.bk (m.v 0)).length∧av=vS (af.BK m i)∧iv=vI i∧Mem w [(gm,cl (nV bm (af.bk (m.v 0))) 213),(bm,cl (bR m) 82)] wr
theorem TV (w:World) (hwf:m.Wf) (hr:m.right=true) :
 Calls Tryz.prog 68 #[.agg (bR m)] w fun e w'=>e=.returned (vS m.bytes)∧Below w.heap.size w w':=by
 obtain ⟨hne,hall,_⟩:=af.Kq hr
 have hkk:=af.XV hne
 obtain ⟨tR,Gd,XY⟩:=ju hwf hne hall
 have hk:(Lit.int .i64 (m.v 0)).wf=true:=WalkArith.wf_i64 (hwf.ints 0 aH)
 have HK:=Hi hk
 have M0:Hid (Mem w [(w.heap.size,cl (bR m) 82)] (w.alloc (cl (dW m) 82))):=Hi ((Mem.start w).alloc _)
 have Zs:=af.qh (m.v 0)
 have CR:Hid (∀ w,Calls Tryz.prog 66 #[.agg (dW m)] w fun e w'=>e=.returned (.bool true)∧Below w.heap.size w w'):=Hi fun w=>jG hr w hwf
 have u1:IntKind.u64.wrap (m.v 0)=m.v 0:=Rw
 have kb:Hid (0≤m.v 0∧m.v 0<18446744073709551616):=Hi ax
 clear hwf hk hne hall hr hkk
 unfold bR
 go_enter Tryz.func68,Tryz.ntmps68
 go_wp2_with fail
 have rx:=ia (M0.out.get 0 rfl)
 generalize w.alloc (cl (dW m) 82)=W1 at *
 refine (CR.out W1).mono ?_
 rintro e w2 ⟨rfl,hb2⟩
 have M1:=Hi (M0.out.later hb2)
 clear hb2 M0 rx CR
 have rx:=(ia (M1.out.get 0 rfl)).1
 go_wp2_with fail
 refine (qQ (m.v 0) kb.out.1 kb.out.2 w2).mono ?_
 rintro e w3 ⟨rfl,hb3⟩
 have M2:=Hi (M1.out.later hb3)
 clear hb3 M1 rx
 go_wp2_with fail
 refine (mU (m:=m) w3 (M2.out.get 0 rfl) HK.out).mono ?_
 rintro e w4 ⟨hb2,h2⟩
 rcases h2 with ⟨h2,_⟩|⟨_,gm,rfl,Ju,Aa⟩
 ·exact absurd h2 Gd.out
 have M3:Hid (Mem w [(gm,cl (nV w.heap.size (af.bk (m.v 0))) 213),(w.heap.size,cl (bR m) 82)] w4):=Hi ((M2.out.later hb2).with Aa)
 clear hb2 Ju Aa M2
 obtain ⟨n,hn⟩:∃ n,n=(af.bk (m.v 0)).length:=⟨_,rfl⟩
 have HN:=Hi hn
 rw [←hn]
 rw [←hn] at Zs
 clear hn
 go_wp2_with fail
 go_loopw [3,15] (fun av iv wr=>EncR w m w.heap.size gm av iv wr) (fun _ iv _=>n - (intOf iv).toNat)
 case atStart=>exact ⟨0,pR _,by simp [af.BK],rfl,M3.out⟩
 case round =>
  obtain ⟨i,hi,rfl,rfl,hM⟩:=hrel;rw [←HN.out] at hi;have M4:=Hi hM;clear hM M3;by_cases hlt:i<n
  ·have hfl:i<(af.bk (m.v 0)).length:=FX;obtain ⟨f,hf⟩:∃ f,f=(af.bk (m.v 0)).getD i ⟨0,0,0⟩:=⟨_,rfl⟩
   have LD:f=(af.bk (m.v 0))[i]:=by rw [hf,ux,lz hfl];rfl
   have hmem:f∈af.bk (m.v 0):=c944;have qN:(af.bk (m.v 0)).take (i+1)=(af.bk (m.v 0)).take i++[f]:=c945;obtain ⟨HF,tT⟩:=hi2 hf hmem;have HA:=Hi (af.TU qN);have hok:=XY.out f hmem;have jx:=Hi hok;have la:=af.XW XY.out i;have lb:=af.Mf hok;by_cases h3:f.c=3
   ·have em:jT w.heap.size ((af.bk (m.v 0)).getD i ⟨0,0,0⟩)=[vU 0,vU 0,.pointer none,.pointer none,vP w.heap.size 3]:=WI
    have rm:=gZ (M4.out.get 0 rfl) hfl em
    have hfb:af.iF m f=af.aZ m.offer:=by unfold af.iF;rw [if_pos h3]
    have hol:m.offer.length≤8:=by unfold af.iE at hok;rw [if_pos h3] at hok;exact (af.CZ hok).2
    have HOL:=Hi hol
    rw [hfb] at lb HA
    clear hf LD hmem qN em h3 hfl hok hfb
    have mt:=qM (M4.out.get 1 rfl)
    have hbl:=M4.out.lt 1 rfl
    have mt':(wr.alloc (cl #[vU 0,vU 0,.pointer none,.pointer none,vP w.heap.size 3] 213)).cell? ⟨w.heap.size,3,none⟩=_:=(((Below.refl wr.heap.size wr).alloc (cC _) (cl #[vU 0,vU 0,.pointer none,.pointer none,vP w.heap.size 3] 213)).cell (p:=⟨w.heap.size,3,none⟩) hbl).trans mt
    clear mt hbl
    go_wp2_with fail
    have M5:Hid (Mem w _ (wr.alloc (cl #[vU 0,vU 0,.pointer none,.pointer none,vP w.heap.size 3] 213))):=Hi (M4.out.later ((Below.refl _ _).alloc (cC _) _))
    clear rm mt'
    generalize wr.alloc (cl #[vU 0,vU 0,.pointer none,.pointer none,vP w.heap.size 3] 213)=W at *
    refine (OU (⟨m.offer.toArray⟩:ByteArray) W (by rw [KZ];have:=HOL.out;omega)).mono ?_
    rintro e w5 ⟨rfl,hb5⟩
    have M6:=Hi (M5.out.later hb5)
    clear hb5 M5
    go_wp2_with fail
    go_roundw
    case rel=>exact ⟨i+1,NH,by rw [HA.out,jH],rfl,M6.out⟩
    case measure=>simp [intOf];omega
   ·have hx:0≤m.v f.c∧m.v f.c<9223372036854775808:=by unfold af.iE at hok;rw [if_neg h3,decide_eq_true_eq] at hok;have hb:=af.mA hmem;omega
    obtain ⟨c2,c3,em⟩:∃ c2 c3,jT w.heap.size f=[vU f.lo,vU f.hi,.pointer c2,.pointer c3,.pointer none]:=Rx
    have rm:=gZ (M4.out.get 0 rfl) hfl WJ
    have hwr:IntKind.u64.wrap (m.v f.c)=m.v f.c:=Rw
    have hfb:af.iF m f=af.put (m.v f.c).toNat:=by unfold af.iF;rw [if_neg h3]
    obtain ⟨H3,HEM,HW,HX⟩:=hi4 h3 em hwr hx
    rw [hfb] at lb HA
    clear hf LD hmem qN em h3 hfl hok hfb hwr hx
    go_wp2_with fail
    have M5:Hid (Mem w _ (wr.alloc (cl #[vU f.lo,vU f.hi,.pointer c2,.pointer c3,.pointer none] 213))):=Hi (M4.out.later ((Below.refl _ _).alloc (cC _) _))
    clear rm
    generalize wr.alloc (cl #[vU f.lo,vU f.hi,.pointer c2,.pointer c3,.pointer none] 213)=W at *
    have CG:=Ef (b:=w.heap.size) (f:=f) (x:=m.v f.c) W H3.out (qL (M5.out.get 1 rfl) tT.out H3.out) (fun _=>by have:=HX.out;omega)
    rw [HEM.out,HW.out] at CG
    refine CG.mono ?_
    rintro e w5 ⟨rfl,hb5⟩
    have M6:=Hi (M5.out.later hb5)
    clear hb5 M5 CG
    go_wp2_with fail
    refine (qQ (m.v f.c) HX.out.1 (by have:=HX.out.2;omega) w5).mono ?_
    rintro e w6 ⟨rfl,P6⟩
    have M7:=Hi (M6.out.later P6)
    clear P6 M6
    go_wp2_with fail
    go_roundw
    case rel=>exact ⟨i+1,NH,by rw [HA.out,jH],rfl,M7.out⟩
    case measure=>simp [intOf];omega
  ·obtain rfl:i=n:=ax;have js:af.BK m i=m.bytes:=by rw [HN.out];exact af.XX
   rw [js];go_wp2_with fail;go_ret;exact ⟨rfl,M4.out.dZ⟩
theorem TW (w:World) (hwf:m.Wf) (hr:m.right=false) :
 Calls Tryz.prog 68 #[.agg (bR m)] w fun e w'=>e=.returned (.string ⟨#[]⟩)∧Below w.heap.size w w':=by
 have M0:Hid (Mem w [(w.heap.size,cl (bR m) 82)] (w.alloc (cl (dW m) 82))):=Hi ((Mem.start w).alloc _)
 have CR:Hid (∀ w,Calls Tryz.prog 66 #[.agg (dW m)] w fun e w'=>e=.returned (.bool false)∧Below w.heap.size w w'):=Hi fun w=>jG hr w hwf
 clear hwf hr
 unfold bR
 go_enter Tryz.func68,Tryz.ntmps68
 go_wp2_with fail
 have rx:=ia (M0.out.get 0 rfl)
 generalize w.alloc (cl (dW m) 82)=W1 at *
 refine (CR.out W1).mono ?_
 rintro e w2 ⟨rfl,hb2⟩
 have HB:=Hi (M0.out.later hb2).dZ
 clear hb2 M0 rx CR
 go_wp2_with fail
 go_ret
 exact ⟨rfl,HB.out⟩
theorem enc_as {l:List UInt8} (hl:m.encode=l) (w:World) (hwf:m.Wf):Calls Tryz.prog 68 #[.agg (bR m)] w fun e w'=>e=.returned (vS l)∧Below w.heap.size w w':=by
 subst hl;unfold af.bJ.encode;cases hr:m.right
 ·exact TW w hwf hr
 ·exact TV w hwf hr
end Go.Proofs.N0
namespace Go.Proofs.N0
open Go.RowKit
theorem Hf (id:Nat) (index count:Int) (part:ByteArray) (w:World) :
 Calls Tryz.prog 69 #[.agg #[vU id,vI index,vI count,.string part]] w fun e w'=>e=.returned (.string ⟨(af.bC.encode ⟨id,index,count,part.data.toList⟩).toArray⟩)∧Below w.heap.size w w':=by
 have hw0:Below w.heap.size w (w.alloc (cl #[vU id,vI index,vI count,.string part] 116)):=(Below.refl _ _).alloc (cC _) _
 have HW0:=Hi hw0;clear hw0
 by_cases hok:af.bC.ok ⟨id,index,count,part.data.toList⟩
 ·have hr:af.bC.right ⟨id,index,count,part.data.toList⟩=true:=by simpa [af.bC.right] using hok
  have HK:=Hi hok;obtain ⟨k1,k2,k3,k4,k5,k6,k7,k8⟩:=hok;simp only at k1 k2 k3 k4 k5 k6 k7 k8;have k9:part.size≤1000:=by simpa using k8
  have la:=(af.gz id).2;have lb:=(af.gz index.toNat).2;have lc:=(af.gz count.toNat).2;have u1:IntKind.u64.wrap index=index:=Rw;have u2:IntKind.u64.wrap count=count:=Rw;go_enter Tryz.func69,Tryz.ntmps69;go_wp2_with fail;refine (mF _ _ _ _ _).mono ?_;rintro e w1 ⟨rfl,hb1⟩;rw [hr];have c0:=hb1.cell (p:=⟨w.heap.size,0,none⟩) aH;have c1:=hb1.cell (p:=⟨w.heap.size,1,none⟩) aH;have c2:=hb1.cell (p:=⟨w.heap.size,2,none⟩) aH;have c3:=hb1.cell (p:=⟨w.heap.size,3,none⟩) aH;simp only [World.cell?_alloc_mark] at c0 c1 c2 c3;simp at c0 c1 c2 c3;have x0:∀ x:Later w1,x.world.cell? ⟨w.heap.size,0,none⟩=some (vU id):=fun x=>x.cell c0;have x1:∀ x:Later w1,x.world.cell? ⟨w.heap.size,1,none⟩=some (vI index):=fun x=>x.cell c1;have x2:∀ x:Later w1,x.world.cell? ⟨w.heap.size,2,none⟩=some (vI count):=fun x=>x.cell c2;have x3:∀ x:Later w1,x.world.cell? ⟨w.heap.size,3,none⟩=some (.string part):=fun x=>x.cell c3;go_wp2_with fail;refine ay aI aI ?_;repeat (go_big_quiet_step ((go_at_call 65;exact Calls.later (qQ _ (by omega) (by omega) _))))
  refine wpQuiet_nil ?_;rintro ⟨w2,hb2⟩;go_wp2_with fail;go_ret;refine ⟨VK ?_,HW0.out.trans ((vV hb1 hb2).mono HW0.out.size)⟩;rw [jH,jH,append_eq];simp [af.bC.encode,af.bC.bytes,HK.out]
 ·have hr:af.bC.right ⟨id,index,count,part.data.toList⟩=false:=by simpa [af.bC.right] using hok
  have he:af.bC.encode ⟨id,index,count,part.data.toList⟩=[]:=by simp [af.bC.encode,hok]
  have HE:=Hi he;clear hok he;go_enter Tryz.func69,Tryz.ntmps69;go_wp2_with fail;refine (mF _ _ _ _ _).mono ?_;rintro e w1 ⟨rfl,hb1⟩;rw [hr];go_wp2;go_ret;rw [HE.out];exact ⟨rfl,HW0.out.trans (hb1.mono HW0.out.size)⟩
end Go.Proofs.N0
namespace Go.Proofs.N0
open Go.RowKit
variable {w W:World} {a b c er p0 p1 p2:Nat} {s:ByteArray} {f:af.bC}
structure tG (w:World) (a b c:Nat) (W:World):Prop where
 size:w.heap.size+2≤W.heap.size
 res:W.heap[w.heap.size]?=some (cl #[vU 0,vI 0,vI 0,.string ⟨#[]⟩] 116)
 num:W.heap[w.heap.size+1]?=some (cl #[vU a,vU b,vU c] 192)
 below:Below w.heap.size w W
theorem tG.later {W':World} (h:tG w a b c W) (hb:Below W.heap.size W W'):tG w a b c W' :=
 ⟨Fc h.size hb.size,(hb.block _ (by have:=h.size;omega)).trans h.res,(hb.block _ (by have:=h.size;omega)).trans h.num,h.below.trans (hb.mono (by have:=h.size;omega))⟩
theorem tG.start (w:World):tG w 0 0 0 ((w.alloc (cl #[vU 0,vI 0,vI 0,.string ⟨#[]⟩] 116)).alloc (cl #[vU 0,vU 0,vU 0] 192)):=by
 refine ⟨aH,?_,?_,((Below.refl _ _).alloc (cC _) _).alloc aH _⟩
 ·rw [Below.heap_alloc _ _ _ aH];exact heap_alloc_new _ _
 ·simpa using heap_alloc_new (w.alloc _) _
theorem EL {C:Array Value} {t:TypeId} (h:w.heap[b]?=some (.cells C t (0,0))) (i:Nat) (u:Value):(w.setCell ⟨b,i,none⟩ u).heap[b]?=some (.cells (C.setIfInBounds i u) t (0,0)):=by
 have hlt:=lt_of_block h;have h':w.heap[b]=.cells C t (0,0):=by simpa [tC hlt] using h
 show (w.heap.modify b _)[b]?=_;rw [tC (by simpa using hlt),Array.getElem_modify_self,h'];rfl
theorem tG.set (h:tG w a b c W) (i:Nat) (x:Nat) {a' b' c':Nat} (hs:(#[Value.int .u64 a,vU b,vU c]:Array Value).setIfInBounds i (vU x)=#[vU a',vU b',vU c']) :
 tG w a' b' c' (W.setCell ⟨w.heap.size+1,i,none⟩ (vU x)) :=
 ⟨by have:=h.size;simpa [World.setCell] using this,(Below.heap_setCell _ _ _ _ (by show w.heap.size≠w.heap.size+1;omega)).trans h.res,by rw [EL h.num,hs],h.below.setCell (by show w.heap.size≤w.heap.size+1;omega) _⟩
theorem tG.cell (h:tG w a b c W):W.cell? ⟨w.heap.size+1,0,none⟩=some (vU a)∧W.cell? ⟨w.heap.size+1,1,none⟩=some (vU b)∧W.cell? ⟨w.heap.size+1,2,none⟩=some (vU c) ∧
 W.frozen? ⟨w.heap.size+1,0,none⟩=false∧W.frozen? ⟨w.heap.size+1,1,none⟩=false∧W.frozen? ⟨w.heap.size+1,2,none⟩=false:=by
 have:=h.num
 simp [World.cell?,World.frozen?,this]
theorem tG.xS (h:tG w a b c W):W.cell? ⟨w.heap.size,0,none⟩=some (vU 0)∧W.cell? ⟨w.heap.size,1,none⟩=some (vI 0)∧W.cell? ⟨w.heap.size,2,none⟩=some (vI 0)∧W.cell? ⟨w.heap.size,3,none⟩=some (.string ⟨#[]⟩) ∧
 W.frozen? ⟨w.heap.size,0,none⟩=false∧W.frozen? ⟨w.heap.size,1,none⟩=false∧W.frozen? ⟨w.heap.size,2,none⟩=false∧W.frozen? ⟨w.heap.size,3,none⟩=false:=by
 have:=h.res
 simp [World.cell?,World.frozen?,this]
theorem tG.four (h:tG w a b c W) (x y z u:Value) :
 Below w.heap.size w ((((W.setCell ⟨w.heap.size,0,none⟩ x).setCell ⟨w.heap.size,1,none⟩ y).setCell ⟨w.heap.size,2,none⟩ z).setCell ⟨w.heap.size,3,none⟩ u) :=
 (((h.below.setCell (cC _) _).setCell (cC _) _).setCell (cC _) _).setCell (cC _) _
theorem TX (h0:af.get s.data.toList 0=(a,p0,er)) (he:er≠0) (w:World) (hs:s.size≤maxLen) :
 Calls Tryz.prog 36 #[.string s] w fun e w'=>e=.returned (.tuple #[.agg #[vU 0,vI 0,vI 0,.string ⟨#[]⟩],vI er])∧Below w.heap.size w w':=by
 have HS:=Hi hs
 have HM:=Hi (tG.start w)
 unfold maxLen at hs
 have hbe:((er:Int) != 0)=true:=aR
 have H0:=Hi h0;clear h0
 go_enter Tryz.func36,Tryz.ntmps36
 go_wp2_with fail
 refine wp_loop_rounds 4 ?_
 simp only [rounds_succ]
 go_wp2_with fail
 refine (eu H0.out _ HS.out).mono ?_;rintro e w1 ⟨rfl,hb1⟩
 have M1:=HM.out.later hb1
 have sw:=Hi M1
 have XZ:=M1.xS
 clear M1 hb1
 go_wp2_with fail
 refine bodyPost_ret (v:=.tuple #[.agg #[vU 0,vI 0,vI 0,.string ⟨#[]⟩],vI er]) (by simp [results,Tryz.results36,go_sem,XZ]) rfl ⟨rfl,sw.out.four _ _ _ _⟩
theorem TY (h0:af.get s.data.toList 0=(a,p0,0)) (h1:af.get s.data.toList p0=(b,p1,er)) (he:er≠0) (w:World) (hs:s.size≤maxLen) :
 Calls Tryz.prog 36 #[.string s] w fun e w'=>e=.returned (.tuple #[.agg #[vU 0,vI 0,vI 0,.string ⟨#[]⟩],vI er])∧Below w.heap.size w w':=by
 have HS:=Hi hs
 have HM:=Hi (tG.start w)
 unfold maxLen at hs
 have hbe:((er:Int) != 0)=true:=aR
 have H0:=Hi h0;clear h0
 have H1:=Hi h1;clear h1
 go_enter Tryz.func36,Tryz.ntmps36
 go_wp2_with fail
 refine wp_loop_rounds 4 ?_
 simp only [rounds_succ]
 go_wp2_with fail
 refine (eu H0.out _ HS.out).mono ?_;rintro e w1 ⟨rfl,hb1⟩
 have M1:=HM.out.later hb1
 have sw:=Hi M1
 have XZ:=M1.cell
 clear M1 hb1
 go_wp2_with fail
 simp only [rounds_succ]
 go_wp2_with fail
 refine (eu H1.out _ HS.out).mono ?_;rintro e w2 ⟨rfl,hb2⟩
 have M2:=(sw.out.set 0 a rfl).later hb2
 have P8:=Hi M2
 have rc2:=M2.xS
 clear M2 hb2
 go_wp2_with fail
 refine bodyPost_ret (v:=.tuple #[.agg #[vU 0,vI 0,vI 0,.string ⟨#[]⟩],vI er]) (by simp [results,Tryz.results36,go_sem,rc2]) rfl ⟨rfl,P8.out.four _ _ _ _⟩
theorem TZ (h0:af.get s.data.toList 0=(a,p0,0)) (h1:af.get s.data.toList p0=(b,p1,0)) (h2:af.get s.data.toList p1=(c,p2,er)) (he:er≠0) (w:World) (hs:s.size≤maxLen) :
 Calls Tryz.prog 36 #[.string s] w fun e w'=>e=.returned (.tuple #[.agg #[vU 0,vI 0,vI 0,.string ⟨#[]⟩],vI er])∧Below w.heap.size w w':=by
 have HS:=Hi hs
 have HM:=Hi (tG.start w)
 unfold maxLen at hs
 have hbe:((er:Int) != 0)=true:=aR
 have H0:=Hi h0;clear h0
 have H1:=Hi h1;clear h1
 have H2:=Hi h2;clear h2
 go_enter Tryz.func36,Tryz.ntmps36
 go_wp2_with fail
 refine wp_loop_rounds 4 ?_
 simp only [rounds_succ]
 go_wp2_with fail
 refine (eu H0.out _ HS.out).mono ?_;rintro e w1 ⟨rfl,hb1⟩
 have M1:=HM.out.later hb1
 have sw:=Hi M1
 have XZ:=M1.cell
 clear M1 hb1
 go_wp2_with fail
 simp only [rounds_succ]
 go_wp2_with fail
 refine (eu H1.out _ HS.out).mono ?_;rintro e w2 ⟨rfl,hb2⟩
 have M2:=(sw.out.set 0 a rfl).later hb2
 have P8:=Hi M2
 have rc2:=M2.cell
 clear M2 hb2
 go_wp2_with fail
 simp only [rounds_succ]
 go_wp2_with fail
 refine (eu H2.out _ HS.out).mono ?_;rintro e w3 ⟨rfl,hb3⟩
 have M3:=(P8.out.set 1 b rfl).later hb3
 have HM3:=Hi M3
 have rc3:=M3.xS
 clear M3 hb3
 go_wp2_with fail
 refine bodyPost_ret (v:=.tuple #[.agg #[vU 0,vI 0,vI 0,.string ⟨#[]⟩],vI er]) (by simp [results,Tryz.results36,go_sem,rc3]) rfl ⟨rfl,HM3.out.four _ _ _ _⟩
theorem X0 (h0:af.get s.data.toList 0=(a,p0,0)) (h1:af.get s.data.toList p0=(b,p1,0)) (h2:af.get s.data.toList p1=(c,p2,0)) (hbig:4294967296<a∨4294967296<b∨4294967296<c) (w:World) (hs:s.size≤maxLen) :
 Calls Tryz.prog 36 #[.string s] w fun e w'=>e=.returned (.tuple #[.agg #[vU 0,vI 0,vI 0,.string ⟨#[]⟩],vI 3])∧Below w.heap.size w w':=by
 have HS:=Hi hs
 have HM:=Hi (tG.start w)
 unfold maxLen at hs
 have H0:=Hi h0;clear h0
 have H1:=Hi h1;clear h1
 have H2:=Hi h2;clear h2
 go_enter Tryz.func36,Tryz.ntmps36
 go_wp2_with fail
 refine wp_loop_rounds 4 ?_
 simp only [rounds_succ]
 go_wp2_with fail
 refine (eu H0.out _ HS.out).mono ?_;rintro e w1 ⟨rfl,hb1⟩
 have M1:=HM.out.later hb1
 have sw:=Hi M1
 have XZ:=M1.cell
 clear M1 hb1
 go_wp2_with fail
 simp only [rounds_succ]
 go_wp2_with fail
 refine (eu H1.out _ HS.out).mono ?_;rintro e w2 ⟨rfl,hb2⟩
 have M2:=(sw.out.set 0 a rfl).later hb2
 have P8:=Hi M2
 have rc2:=M2.cell
 clear M2 hb2
 go_wp2_with fail
 simp only [rounds_succ]
 go_wp2_with fail
 refine (eu H2.out _ HS.out).mono ?_;rintro e w3 ⟨rfl,hb3⟩
 have M3:=(P8.out.set 1 b rfl).later hb3
 have HM3:=Hi M3
 have rc3:=M3.cell
 clear M3 hb3
 go_wp2_with fail
 have M4:=HM3.out.set 2 c rfl
 have rc4:=M4.cell
 have rr4:=M4.xS
 simp only [rounds_succ]
 go_wp2_with fail
 all_goals first
  | refine bodyPost_ret (v:=.tuple #[.agg #[vU 0,vI 0,vI 0,.string ⟨#[]⟩],vI 3]) (by simp [results,Tryz.results36,go_sem,rr4]) rfl ⟨rfl,M4.four _ _ _ _⟩
  | (exfalso;clear HM sw P8 HM3 M4 XZ rc2 rc3 rc4 rr4;revert hbig;grind)
theorem X3 (h0:af.get s.data.toList 0=(a,p0,0)) (h1:af.get s.data.toList p0=(b,p1,0)) (h2:af.get s.data.toList p1=(c,p2,0)) (hr:af.bC.right ⟨a,b,c,(s.extract p2 s.size).data.toList⟩=false) (ha:a≤4294967296) (hb:b≤4294967296) (hc:c≤4294967296) (w:World) (hs:s.size≤maxLen) :
 Calls Tryz.prog 36 #[.string s] w fun e w'=>e=.returned (.tuple #[.agg #[vU 0,vI 0,vI 0,.string ⟨#[]⟩],vI 3])∧Below w.heap.size w w':=by
 have HS:=Hi hs
 have HM:=Hi (tG.start w)
 unfold maxLen at hs
 have H0:=Hi h0;clear h0
 have H1:=Hi h1;clear h1
 have H2:=Hi h2;clear h2
 have hmx:¬((4294967296:Int)<(if (if a<b then (b:Int) else a)<c then (c:Int) else if a<b then (b:Int) else a)):=by split<;>(try split)<;>omega
 go_enter Tryz.func36,Tryz.ntmps36
 go_wp2_with fail
 refine wp_loop_rounds 4 ?_
 simp only [rounds_succ]
 go_wp2_with fail
 refine (eu H0.out _ HS.out).mono ?_;rintro e w1 ⟨rfl,hb1⟩
 have M1:=HM.out.later hb1
 have sw:=Hi M1
 have XZ:=M1.cell
 clear M1 hb1
 go_wp2_with fail
 simp only [rounds_succ]
 go_wp2_with fail
 refine (eu H1.out _ HS.out).mono ?_;rintro e w2 ⟨rfl,hb2⟩
 have M2:=(sw.out.set 0 a rfl).later hb2
 have P8:=Hi M2
 have rc2:=M2.cell
 clear M2 hb2
 go_wp2_with fail
 simp only [rounds_succ]
 go_wp2_with fail
 refine (eu H2.out _ HS.out).mono ?_;rintro e w3 ⟨rfl,hb3⟩
 have M3:=(P8.out.set 1 b rfl).later hb3
 have HM3:=Hi M3
 have rc3:=M3.cell
 clear M3 hb3
 go_wp2_with fail
 have M4:=HM3.out.set 2 c rfl
 have rc4:=M4.cell
 have rr4:=M4.xS
 have LY:p2≤s.size:=by simpa using (tU H2.out).1
 have wb:IntKind.i64.wrap b=b:=TF
 have wc:IntKind.i64.wrap c=c:=TF
 have HM4:=Hi M4
 clear M4 XZ rc2 rc3
 generalize hW:w3.setCell _ _=W at *
 clear hW
 have hz:w.heap.size+1<W.heap.size:=by have:=HM4.out.size;omega
 have hz0:w.heap.size<W.heap.size:=ax
 simp only [rounds_succ]
 go_wp2_with fail
 all_goals
  go_region
  go_wp2_with fail
  refine (mF _ _ _ _ _).mono ?_;rintro e w4 ⟨rfl,hb4⟩
  rw [hr]
  have hbW:Below W.heap.size W w4:=((Below.refl _ _).alloc (cC _) _).drew.trans (hb4.mono aH)
  have M5:=HM4.out.later hbW
  have rr5:=M5.xS
  clear rr4
  go_wp2_with fail
  refine bodyPost_ret (v:=.tuple #[.agg #[vU 0,vI 0,vI 0,.string ⟨#[]⟩],vI 3]) c979 rfl ⟨rfl,M5.four _ _ _ _⟩
theorem T4 (h0:af.get s.data.toList 0=(a,p0,0)) (h1:af.get s.data.toList p0=(b,p1,0)) (h2:af.get s.data.toList p1=(c,p2,0)) (hr:af.bC.right ⟨a,b,c,(s.extract p2 s.size).data.toList⟩=true) (ha:a≤4294967296) (hb:b≤4294967296) (hc:c≤4294967296) (w:World) (hs:s.size≤maxLen) :
 Calls Tryz.prog 36 #[.string s] w fun e w'=>e=.returned (.tuple #[.agg #[vU a,vI b,vI c,.string (s.extract p2 s.size)],vI 0])∧Below w.heap.size w w':=by
 have HS:=Hi hs
 have HM:=Hi (tG.start w)
 unfold maxLen at hs
 have H0:=Hi h0;clear h0
 have H1:=Hi h1;clear h1
 have H2:=Hi h2;clear h2
 have hmx:¬((4294967296:Int)<(if (if a<b then (b:Int) else a)<c then (c:Int) else if a<b then (b:Int) else a)):=by split<;>(try split)<;>omega
 go_enter Tryz.func36,Tryz.ntmps36
 go_wp2_with fail
 refine wp_loop_rounds 4 ?_
 simp only [rounds_succ]
 go_wp2_with fail
 refine (eu H0.out _ HS.out).mono ?_;rintro e w1 ⟨rfl,hb1⟩
 have M1:=HM.out.later hb1
 have sw:=Hi M1
 have XZ:=M1.cell
 clear M1 hb1
 go_wp2_with fail
 simp only [rounds_succ]
 go_wp2_with fail
 refine (eu H1.out _ HS.out).mono ?_;rintro e w2 ⟨rfl,hb2⟩
 have M2:=(sw.out.set 0 a rfl).later hb2
 have P8:=Hi M2
 have rc2:=M2.cell
 clear M2 hb2
 go_wp2_with fail
 simp only [rounds_succ]
 go_wp2_with fail
 refine (eu H2.out _ HS.out).mono ?_;rintro e w3 ⟨rfl,hb3⟩
 have M3:=(P8.out.set 1 b rfl).later hb3
 have HM3:=Hi M3
 have rc3:=M3.cell
 clear M3 hb3
 go_wp2_with fail
 have M4:=HM3.out.set 2 c rfl
 have rc4:=M4.cell
 have rr4:=M4.xS
 have LY:p2≤s.size:=by simpa using (tU H2.out).1
 have wb:IntKind.i64.wrap b=b:=TF
 have wc:IntKind.i64.wrap c=c:=TF
 have HM4:=Hi M4
 clear M4 XZ rc2 rc3
 generalize hW:w3.setCell _ _=W at *
 clear hW
 have hz:w.heap.size+1<W.heap.size:=by have:=HM4.out.size;omega
 have hz0:w.heap.size<W.heap.size:=ax
 simp only [rounds_succ]
 go_wp2_with fail
 all_goals
  go_region
  go_wp2_with fail
  refine (mF _ _ _ _ _).mono ?_;rintro e w4 ⟨rfl,hb4⟩
  rw [hr]
  have hbW:Below W.heap.size W w4:=((Below.refl _ _).alloc (cC _) _).drew.trans (hb4.mono aH)
  have M5:=HM4.out.later hbW
  have rr5:=M5.xS
  clear rr4
  have c0:=hb4.cell (p:=⟨W.heap.size,0,none⟩) aH
  have c1:=hb4.cell (p:=⟨W.heap.size,1,none⟩) aH
  have c2:=hb4.cell (p:=⟨W.heap.size,2,none⟩) aH
  have c3:=hb4.cell (p:=⟨W.heap.size,3,none⟩) aH
  simp at c0 c1 c2 c3
  go_wp2_with fail
  refine bodyPost_ret (v:=.tuple #[.agg #[vU a,vI b,vI c,.string (s.extract p2 s.size)],vI 0]) c979 rfl ⟨rfl,M5.four _ _ _ _⟩
theorem AV (s:ByteArray) (p:Nat):(s.extract p s.size).data.toList=s.data.toList.drop p:=by simp [Array.toList_extract,List.extract];apply BD;simp
theorem OV (s:ByteArray) (p:Nat):s.extract p s.size=⟨(s.data.toList.drop p).toArray⟩:=by rw [←AV,sF]
theorem Hg (hd:af.decode s.data.toList=(f,er)) (w:World) (hs:s.size≤maxLen) :
 Calls Tryz.prog 36 #[.string s] w fun e w'=>e=.returned (.tuple #[fragV f,vI er])∧Below w.heap.size w w':=by
 rcases h0:af.get s.data.toList 0 with ⟨a,p0,e0⟩
 rcases h1:af.get s.data.toList p0 with ⟨b,p1,e1⟩
 rcases h2:af.get s.data.toList p1 with ⟨c,p2,e2⟩
 by_cases q0:e0=0
 ·subst q0;by_cases q1:e1=0
  ·subst q1;by_cases q2:e2=0
   ·subst q2;have hd':(if af.bC.ok ⟨a,b,c,s.data.toList.drop p2⟩ then ((⟨a,b,c,s.data.toList.drop p2⟩:af.bC),0) else (af.iG,3))=(f,er):=by rw [←hd];simp [af.decode,h0,h1,h2]
    clear hd;by_cases hok:af.bC.ok ⟨a,b,c,s.data.toList.drop p2⟩
    ·rw [if_pos hok] at hd'
     obtain ⟨rfl,rfl⟩:=Prod.mk.inj hd'
     have T6:=hok
     obtain ⟨k1,k2,k3,k4,k5,k6,k7,k8⟩:=hok
     simp only at k1 k2 k3 k4 k5 k6 k7 k8
     have:=T4 h0 h1 h2 (by rw [AV];exact (af.eH _).2 T6) ax ax ax w hs
     rw [OV] at this
     exact this
    ·rw [if_neg hok] at hd';obtain ⟨rfl,rfl⟩:=Prod.mk.inj hd';by_cases hbig:4294967296<a∨4294967296<b∨4294967296<c
     ·exact X0 h0 h1 h2 hbig w hs
     ·exact X3 h0 h1 h2 (by rw [AV,Bool.eq_false_iff];exact fun h=>hok ((af.eH _).1 h)) ax ax ax w hs
   ·have:af.decode s.data.toList=(af.iG,e2):=by simp [af.decode,h0,h1,h2,q2]
    obtain ⟨rfl,rfl⟩:=Prod.mk.inj (hd.symm.trans this);exact TZ h0 h1 h2 q2 w hs
  ·have:af.decode s.data.toList=(af.iG,e1):=by simp [af.decode,h0,h1,q1]
   obtain ⟨rfl,rfl⟩:=Prod.mk.inj (hd.symm.trans this);exact TY h0 h1 q1 w hs
 ·have:af.decode s.data.toList=(af.iG,e0):=by simp [af.decode,h0,q0]
  obtain ⟨rfl,rfl⟩:=Prod.mk.inj (hd.symm.trans this);exact TX h0 q0 w hs
open Go.RowKit Go.Shelf
theorem OW {l:List UInt8} (hE:f.encode=l) (w:World) :
 Calls Tryz.prog 69 #[.agg (jg f)] w fun e w'=>e=.returned (vS l)∧Below w.heap.size w w':=by
 subst hE;exact Hf f.id f.index f.count ⟨f.part.toArray⟩ w
end Go.Proofs.N0
namespace Go.Proofs.N0
open Go.RowKit Go.Maps Go.ChangeMaps
variable {fs:List af.bC}
section
variable {S:List Nat} {w0 W:World} {p b:Nat} {L:List (Nat×Obj)} {R:List aW} {a:rT} {t:af.Pt}
abbrev C0 (v:Value) (fs:List af.bC):aW:=jU 116 4 v fs.length (fs.flatMap dH)
theorem NF.cut {s:List UInt8} {id:Nat} {size:Int} {er:Nat} (h:NF S w0 W R L) (hc:af.cut s id size=(fs,er)):Calls Tryz.prog 67 #[vS s,vU id,vI size] W fun e w'=>∃ v,e=.returned (.tuple #[v,vI er])∧NF S w0 w' (C0 v fs::R) L:=by refine (cut_as (s:=⟨s.toArray⟩) (by simpa using hc) W).mono ?_;rintro e w' ⟨v,rfl,hr,hb⟩;exact ⟨v,rfl,h.lQ hb hr⟩
theorem X4 (s:List UInt8) (id:Nat) (size:Int):(af.cut s id size).1.length≤16:=by
 unfold af.cut;split
 ·simp
 ·split
  ·simp
  ·rw [af.pF];omega
theorem X5:(Tryz.prog.info? 9).map (fun i=>(i.zero,i.size,i.bytes))=some (some (.string ⟨#[]⟩),1,16):=aI
def PackR (W1:World) (fs:List af.bC) (ov iv:Value) (wr:World):Prop :=
 ∃ j,j≤fs.length∧iv=vI (j:Nat)∧wr.ownsRow W1.heap.size 9 1 ov j (Ar ((fs.map af.bC.encode).take j))∧Below W1.heap.size W1 wr
theorem X6 {w:World} {base size n n':Nat} {e:TypeId} {v:Value} {xs:List Value} (h:w.ownsRow base e size v n xs) (hn:n=n'):w.ownsRow base e size v n' xs:=by rw [←hn];exact h
theorem OX {j:Nat} {f:af.bC} (hj:fs[j]?=some f):Ar ((fs.map af.bC.encode).take (j+1))=Ar ((fs.map af.bC.encode).take j)++[vS f.encode]:=by rw [List.take_add_one,wB,hj];simp [Ar]
theorem NF.pack {m:af.bJ} {t':af.Pt} {os:List (List UInt8)} (h:NF S w0 W R ((b,cl (iz a p t) 80)::L)) (hm:m.Wf) (nY:t.messages<18446744073709551616) (hf:t.pack m=(t',os)):Calls Tryz.prog 29 #[vP b 0,.agg #[vI (m.v 0),vU (m.v 1),vU (m.v 2),vS m.offer,vI (m.v 4),vI (m.v 5),vI (m.v 6),vI (m.v 7),vI (m.v 8),vI (m.v 9),vI (m.v 10),vU (m.v 11),vU (m.v 12)]] W fun e w'=>∃ v,e=.returned v∧NF S w0 w' (bA v os::R) ((b,cl (iz a p t') 80)::L):=by
 unfold af.Pt.pack at hf;obtain ⟨l,hl⟩:∃ l,m.encode=l:=⟨_,rfl⟩
 obtain ⟨⟨fs,er⟩,hcut⟩:∃ r,af.cut l t.messages t.size=r:=⟨_,rfl⟩
 rw [hl,hcut] at hf;obtain ⟨rfl,rfl⟩:=Prod.mk.inj hf;have Sy:fs.length≤16:=by have:=X4 l t.messages t.size;rw [hcut] at this;exact this
 have CE:=Hi (fun w=>enc_as hl w hm);unfold bR at CE;have HC:=Hi hcut;unfold iz at h ⊢;first|simp only [DC,vN] at h ⊢|first|simp only [DC,vN] at h ⊢|simp only at h ⊢
 obtain ⟨n1,G9⟩:∃ n1,(t.messages+1) % 18446744073709551616=n1:=⟨_,rfl⟩
 rw [G9];have hw1:IntKind.u64.wrap ((t.messages:Int)+1)=(n1:Int):=by rw [←G9,show ((t.messages:Int)+1)=((t.messages+1:Nat):Int) by push_cast;rfl];generalize t.messages+1=v;simp [IntKind.wrap,IntKind.bits,IntKind.signed]
 have F0:=Hi (h.alloc (cl #[vI (m.v 0),vU (m.v 1),vU (m.v 2),vS m.offer,vI (m.v 4),vI (m.v 5),vI (m.v 6),vI (m.v 7),vI (m.v 8),vI (m.v 9),vI (m.v 10),vU (m.v 11),vU (m.v 12)] 82));clear h hf hl hcut hm nY G9;have r:=rl F0.out.mem.rules;go_enter Tryz.func29,Tryz.ntmps29;go_wp2_with fail;clear r;refine XK (n:=45) [11,12,13,15] [] (tb [some (.agg #[vI (m.v 0),vU (m.v 1),vU (m.v 2),vS m.offer,vI (m.v 4),vI (m.v 5),vI (m.v 6),vI (m.v 7),vI (m.v 8),vI (m.v 9),vI (m.v 10),vU (m.v 11),vU (m.v 12)]),vS l,vP b 0,vP b 0,vP b 7,vU t.messages,vP b 0,vP b 0,vP b 1,vP b 5,vI t.size,none,none,none,vI er,none,vI er]) ((W.heap.size,cl #[vI (m.v 0),vU (m.v 1),vU (m.v 2),vS m.offer,vI (m.v 4),vI (m.v 5),vI (m.v 6),vI (m.v 7),vI (m.v 8),vI (m.v 9),vI (m.v 10),vU (m.v 11),vU (m.v 12)] 82)::(b,cl #[vP p 0,vI t.me.dh,vI t.me.cD,vL a.rp 0 t.aj.length a.cp,vS t.offer,vI t.size,vU t.ak,vU t.messages,vU t.stamp,vP a.g 0,vL a.rq 0 t.aj.length a.cq,.map (some a.mb),.map (some a.lb)] 80)::[]) [kN S w0 [] (R) ((W.heap.size,cl #[vI (m.v 0),vU (m.v 1),vU (m.v 2),vS m.offer,vI (m.v 4),vI (m.v 5),vI (m.v 6),vI (m.v 7),vI (m.v 8),vI (m.v 9),vI (m.v 10),vU (m.v 11),vU (m.v 12)] 82)::(b,cl #[vP p 0,vI t.me.dh,vI t.me.cD,vL a.rp 0 t.aj.length a.cp,vS t.offer,vI t.size,vU t.ak,vU t.messages,vU t.stamp,vP a.g 0,vL a.rq 0 t.aj.length a.cq,.map (some a.mb),.map (some a.lb)] 80)::L),
  jW (α:=Value×Unit) S w0 (fun ch=>[(11,.tuple #[ch.1,vI er])]) (fun _=>[]) (fun ch=>C0 ch.1 fs::R) (fun _=>(W.heap.size,cl #[vI (m.v 0),vU (m.v 1),vU (m.v 2),vS m.offer,vI (m.v 4),vI (m.v 5),vI (m.v 6),vI (m.v 7),vI (m.v 8),vI (m.v 9),vI (m.v 10),vU (m.v 11),vU (m.v 12)] 82)::(b,cl #[vP p 0,vI t.me.dh,vI t.me.cD,vL a.rp 0 t.aj.length a.cp,vS t.offer,vI t.size,vU t.ak,vU t.messages,vU t.stamp,vP a.g 0,vL a.rq 0 t.aj.length a.cq,.map (some a.mb),.map (some a.lb)] 80)::L),
  jW (α:=Value×Unit) S w0 (fun ch=>[(11,.tuple #[ch.1,vI er]),(12,.tuple #[ch.1,vI er])]) (fun _=>[]) (fun ch=>C0 ch.1 fs::R) (fun _=>(W.heap.size,cl #[vI (m.v 0),vU (m.v 1),vU (m.v 2),vS m.offer,vI (m.v 4),vI (m.v 5),vI (m.v 6),vI (m.v 7),vI (m.v 8),vI (m.v 9),vI (m.v 10),vU (m.v 11),vU (m.v 12)] 82)::(b,cl #[vP p 0,vI t.me.dh,vI t.me.cD,vL a.rp 0 t.aj.length a.cp,vS t.offer,vI t.size,vU t.ak,vU t.messages,vU t.stamp,vP a.g 0,vL a.rq 0 t.aj.length a.cq,.map (some a.mb),.map (some a.lb)] 80)::L),
  jW (α:=Value×Unit) S w0 (fun ch=>[(11,.tuple #[ch.1,vI er]),(12,.tuple #[ch.1,vI er]),(13,ch.1)]) (fun _=>[]) (fun ch=>C0 ch.1 fs::R) (fun _=>(W.heap.size,cl #[vI (m.v 0),vU (m.v 1),vU (m.v 2),vS m.offer,vI (m.v 4),vI (m.v 5),vI (m.v 6),vI (m.v 7),vI (m.v 8),vI (m.v 9),vI (m.v 10),vU (m.v 11),vU (m.v 12)] 82)::(b,cl #[vP p 0,vI t.me.dh,vI t.me.cD,vL a.rp 0 t.aj.length a.cp,vS t.offer,vI t.size,vU t.ak,vU t.messages,vU t.stamp,vP a.g 0,vL a.rq 0 t.aj.length a.cq,.map (some a.mb),.map (some a.lb)] 80)::L),
  jW (α:=Value×Unit) S w0 (fun ch=>[(11,.tuple #[ch.1,vI er]),(12,.tuple #[ch.1,vI er]),(13,ch.1),(15,ch.1)]) (fun _=>[]) (fun ch=>C0 ch.1 fs::R) (fun _=>(W.heap.size,cl #[vI (m.v 0),vU (m.v 1),vU (m.v 2),vS m.offer,vI (m.v 4),vI (m.v 5),vI (m.v 6),vI (m.v 7),vI (m.v 8),vI (m.v 9),vI (m.v 10),vU (m.v 11),vU (m.v 12)] 82)::(b,cl #[vP p 0,vI t.me.dh,vI t.me.cD,vL a.rp 0 t.aj.length a.cp,vS t.offer,vI t.size,vU t.ak,vU t.messages,vU t.stamp,vP a.g 0,vL a.rq 0 t.aj.length a.cq,.map (some a.mb),.map (some a.lb)] 80)::L)] (F0.out) ⟨sP,?_,sP,sP,sP,sP,sP,sP,sP,sP,sP,?_,sY,sY,sE 1,sY,sP,trivial⟩ ?_
 ·refine sQ ?_;intro v x hM hE;refine qA ?_;go_big_quiet_step ((go_at_call 68;exact Calls.later (CE.out _)));exact aao
 ·refine wX ?_;intro D v qq x ch hS h0;refine (h0.cut HC.out).mono ?_;rintro e z ⟨fv,rfl,h⟩;exact ⟨(fv,()),xE,h⟩
 ·intro v qq x ch hF hS hA h
  obtain ⟨fv,_⟩:=ch
  simp only [tH,and_true] at hS
  simp only [SC] at h
  have F1:=Hi h
  simp only [PU,bF,Nat.reduceAdd,gT hF 16,hS]
  clear hF hS hA h
  generalize x=x1 at F1
  have F2:=Hi ((F1.out.sub (zq _ _)).set 7 (vU n1))
  simp only [aX,aY,jr] at F2
  obtain ⟨fr,⟨hown,-⟩,-⟩:=F2.out.tell
  have HOWN:=Hi hown
  obtain ⟨q,cap,rfl⟩:=gl hown
  clear hown
  have r:=rl F1.out.mem.rules
  have r2:=rl F2.out.mem.rules
  go_wp2_with fail
  clear r r2
  generalize x1.setCell ⟨b,7,none⟩ (vU n1)=W1 at HOWN F2
  go_loopw [7,34] (fun ov iv wr=>PackR W1 fs ov iv wr) (fun _ iv _=>fs.length - (intOf iv).toNat)
  case atStart=>exact ⟨0,pR _,rfl,World.ownsRow_nil _ _ _ _,Below.refl _ _⟩
  case round =>
   obtain ⟨j,hj,rfl,hrow,hb⟩:=hrel;obtain ⟨HB,yu⟩:=hi2 hb hrow;by_cases hlt:j<fs.length
   ·have hq:∃ g,q=some ⟨g,0,none⟩:=by
     rcases HOWN.out.2 with ⟨h1,h2⟩|⟨g,cap',cur,h1,_⟩
     ·omega
     ·cases h1;exact ⟨g,rfl⟩
    obtain ⟨g,rfl⟩:=hq
    obtain ⟨f,hf⟩:∃ f,af.eB fs j=f:=⟨_,rfl⟩
    obtain ⟨c0,c1,c2,c3⟩:=(GX HOWN.out).later hb j hlt
    rw [hf] at c0 c1 c2 c3
    simp only [bF] at c0 c1 c2 c3
    have hfj:fs[j]?=some f:=by rw [←hf];unfold af.eB;rw [ux,lz hlt];rfl
    have hnext:=OX hfj
    have CF:=Hi (fun w=>OW (f:=f) rfl w)
    have PX:=Hi hnext
    obtain ⟨el,hel⟩:∃ el,f.encode=el:=⟨_,rfl⟩
    rw [hel] at CF PX
    obtain ⟨i0,mE,hz0,hz1,hz2⟩:=info_parts X5
    have e1:decide ((j:Int)<(fs.length:Int))=true:=aR
    have e2:(j:Int)<(fs.length:Int):=ax
    clear hb hrow hf hfj hnext hel
    go_wp2_with fail
    refine (CF.out _).mono ?_
    rintro e w2 ⟨rfl,hb2⟩
    have hb3:Below wr.heap.size wr w2:=((Below.refl _ _).alloc (cC _) _).trans (hb2.mono aH)
    have hrow:=rU yu.out hb3
    have Bx:=Hi (HB.out.trans (hb3.mono HB.out.size))
    have hbw:=Bx.out.size
    clear CF hb2 hb3 c0 c1 c2 c3
    go_wp2_with (at_builtin;refine wpList_append_own _ rfl _ _ 27 rfl W1.heap.size 9 i0 (.string ⟨#[]⟩) 1 16 Tryz.underlying27 mE hz0 hz1 hz2 rfl aG _ _ _ rfl (hrow.alloc _) ⟨w2.heap.size,0,none⟩ 1 1 [vS el] rfl rfl ?c1 ?c2 ?c3 ?c4 ?c5 ?_)
    case c1 =>
     intro k u hk
     match k,hk with
     | 0,hk=>simp at hk;subst hk;simp [Addr.add]
    case c2=>intro u hu;simp at hu;subst hu;rfl
    case c3=>unfold maxLen;omega
    case c4=>omega
    case c5=>simp;omega
    intro v' w3 hown' hgrow' _
    have hv:=fun k hk=>(hrow.lt k hk).1
    have HR:Hid (PackR W1 fs v' (vI ((j:Int)+1)) w3):=Hi ⟨j+1,ax,rfl,by rw [PX.out];exact hown',(Bx.out.alloc hbw _).grown hgrow' aR hv⟩
    clear hown' hgrow' hrow hv
    exact Hz
   ·have hjn:j=fs.length:=ax;have e1:decide ((j:Int)<(fs.length:Int))=false:=aR;have js:=hrow;rw [hjn,BD aH] at js;have hfin2:=X6 js (n':=(fs.map af.bC.encode).length) aH;have HF:=Hi (((F2.out.lQ hb hfin2).bP (List.Perm.swap _ _ _)).lA (A:=[C0 (.slice q fs.length cap) fs]));clear js hfin2 hrow hb;go_wp2_with fail;go_ret;exact ⟨_,rfl,HF.out⟩
end
section
variable {S:List Nat} {w0 W:World} {R:List aW} {L:List (Nat×Obj)} {p b:Nat} {st:af.Store} {t:af.Pt} {a:rT}
theorem EM {α β:Type} {f:α→β}:∀ {l' l:List β} (_:l'.Sublist l) (Z:List α),Z.map f=l→∃ Z':List α,Z'.Sublist Z∧Z'.map f=l'
 | _,_,.slnil,_,_=>⟨[],sj _,rfl⟩
 | _,_,.cons x hs,Z,hZ=>by obtain ⟨a,Z1,h0,h1,h2⟩:=List.map_eq_cons_iff.1 hZ;obtain ⟨Z',h3,h4⟩:=EM hs Z1 h2;exact ⟨Z',h0▸h3.cons _,h4⟩
 | _,_,.cons_cons x hs,Z,hZ=>by obtain ⟨a,Z1,h0,h1,h2⟩:=List.map_eq_cons_iff.1 hZ;obtain ⟨Z',h3,h4⟩:=EM hs Z1 h2;exact ⟨a::Z',h0▸h3.cons_cons _,by rw [jQ,h4,h1]⟩
theorem T7 {α β:Type} {f:α→List β} {l' l:List α} (hs:l'.Sublist l):(l'.flatMap f).Sublist (l.flatMap f):=by
 induction hs with
 | slnil=>exact List.Sublist.refl _
 | cons x hs ih=>rw [tB];exact ih.trans (List.sublist_append_right _ _)
 | cons_cons x hs ih=>rw [tB,tB];exact ih.append_left _
theorem NF.subR {R':List aW} (h:NF S w0 W R L) (hs:R'.Sublist R):NF S w0 W R' L:=by obtain ⟨Z,hz,hS⟩:=h.sep;obtain ⟨Z',h1,h2⟩:=EM hs Z hz.rs;have h3:(gG Z').Sublist (gG Z):=T7 h1;exact ⟨⟨Z',⟨h2,fun z hz2=>hz.res z (h1.subset hz2),hz.blk,(h3.append_right _).nodup hz.apart⟩,fun i hi=>hS i (h3.subset hi)⟩,h.own,h.jh⟩
theorem NF.pG {r:aW} (h:NF S w0 W R L) (hr:r∈R):∃ f,r.holds f W:=by obtain ⟨Z,hz,_⟩:=h.sep;rw [←hz.rs] at hr;obtain ⟨z,hz1,rfl⟩:=List.mem_map.1 hr;exact ⟨z.2,hz.res z hz1⟩
theorem NF.kY {mb:Nat} {l:List (Nat×Value)} (h:NF S w0 W R L) (hr:dz mb l∈R):cQ W mb l:=by obtain ⟨f,hf⟩:=h.pG hr;exact hf.2
theorem NF.lD {x:Nat×Obj} (h:NF S w0 W R L) (hx:x∈L):W.heap[x.1]?=some x.2:=by obtain ⟨Z,hz,_⟩:=h.sep;exact hz.blk x hx
theorem X7 {α:Type} (A P R:List α) (s:α):(A++(s::(P++R))).Perm (P++(A++(s::R))) :=
 (iZ A (List.perm_middle.symm:(s::(P++R)).Perm (P++s::R))).trans (by
  rw [←E6,←E6]
  exact List.perm_append_comm.append_right _)
theorem vH {A:List aW} (ha:a.ok t) (hw:t.Wf) (h:NF S w0 W (A++(ah p st::(cS a p t++R))) (cN a p b t++L)):NF S w0 W (A++(ah p st::bK p b t::R)) L:=by have h1:=h.bP (X7 A (cS a p t) R (ah p st));have h2:NF S w0 W (bK p b t::(A++(ah p st::R))) L:=NF.Vr (r:=fun a:rT=>wj (a.ok t∧t.Wf) (comp (cS a p t) (cN a p b t))) a (NF.Bu ⟨ha,hw⟩ (NF.shut h1));exact h2.bP ((tE (l₁:=A)).symm.trans (iZ A (List.Perm.swap _ _ _)))
-- a struct is stored whole
theorem OY (h:NF S w0 W (ah p st::bK p b t::R) L):∃ (a:rT) (RR:List aW) (LL:List (Nat×Obj)),a.ok t∧t.Wf∧NF S w0 W (ah p st::dz a.mb (bU t.begun)::RR) ((b,cl (iz a p t) 80)::(a.rp,cl a.kp 65)::LL) ∧
 ∀ (A:List aW) (w':World) (st':af.Store) (bg:List (Nat×af.pW)) (se ms sp:Nat),({t with begun:=bg,ak:=se,messages:=ms,stamp:=sp}:af.Pt).Wf→NF S w0 w' (A++(ah p st'::dz a.mb (bU bg)::RR)) ((b,cl (iz a p {t with begun:=bg,ak:=se,messages:=ms,stamp:=sp}) 80)::(a.rp,cl a.kp 65)::LL)→NF S w0 w' (A++(ah p st'::bK p b {t with begun:=bg,ak:=se,messages:=ms,stamp:=sp}::R)) L:=by
 obtain ⟨a,ha,hw,h⟩:=cx h
 refine ⟨a,bw a.g t.guard t.aj.length::dz a.lb (cu a.la t.live)::((List.zipWith dF a.pa (t.aO.zip t.slots)++t.live.map fun x=>dA p (a.la x.1) x.2)++R),(a.rq,cl a.kq 110)::L,ha,hw,h.bP (List.Perm.cons _ (List.Perm.swap _ _ _)),fun A w' st' bg se ms sp hw' h'=>?_⟩
 exact vH (a:=a) ⟨ha.cp,ha.cq,ha.kp,ha.kq,ha.pa,ha.aO,ha.slots⟩ hw' (h'.bP (iZ A (List.Perm.cons _ (List.Perm.swap _ _ _))))
end
section
variable {S:List Nat} {w0 W:World} {R:List aW} {L:List (Nat×Obj)} {p b w:Nat} {st:af.Store} {t:af.Pt} {a:rT}
theorem xR {α β γ:Type} (f:α→β→γ):∀ (l:List α) (m:List β) (i:Nat) (x:β) (y:α),l[i]?=some y→List.zipWith f l (m.set i x)=(List.zipWith f l m).set i (f y x)
 | [],_,_,_,_,h=>by simp at h
 | _::_,[],_,_,_,_=>aH
 | a::l,b::m,0,x,y,h=>by simp at h;subst h;rfl
 | a::l,b::m,i+1,x,y,h=>by simp at h;simp [xR f l m i x y h]
theorem G6 {α β:Type}:∀ (l:List α) (m:List β) (i:Nat) (x:α) (y:β),(l.set i x).zip (m.set i y)=(l.zip m).set i (x,y)
 | [],_,_,_,_=>aH
 | _::_,[],_,_,_=>aH
 | a::l,b::m,0,x,y=>rfl
 | a::l,b::m,i+1,x,y=>by simp [G6 l m i x y]
def bB (a:rT) (t:af.Pt):List aW:=List.zipWith dF a.pa (t.aO.zip t.slots)
def iN (a:rT) (p:Nat) (t:af.Pt) (R:List aW):List aW:=bw a.g t.guard t.aj.length::dz a.mb (bU t.begun)::dz a.lb (cu a.la t.live)::((t.live.map fun x=>dA p (a.la x.1) x.2)++R)
theorem rX:(cS a p t++R).Perm (bB a t++iN a p t R):=by unfold cS iN bB;generalize List.zipWith dF a.pa (t.aO.zip t.slots)=X;generalize bw a.g t.guard t.aj.length=x;generalize dz a.mb (bU t.begun)=y;generalize dz a.lb (cu a.la t.live)=z;generalize (t.live.map fun x=>dA p (a.la x.1) x.2)=Y;simp only [bQ,E6];exact List.perm_append_comm_assoc [x,y,z] X (Y++R)
theorem kZ (ha:a.ok t) (hw:w<t.aj.length) (h:NF S w0 W (ah p st::(cS a p t++R)) (cN a p b t++L)):∃ (k q:Nat) (pl:af.aP) (sl:af.aS),a.pa[w]?=some k∧t.aO[w]?=some pl∧t.slots[w]?=some sl∧pl.Ok ∧
 NF S w0 W (dB q pl::ah p st::((bB a t).eraseIdx w++iN a p t R)) ((k,cl (dD q sl) 109)::(cN a p b t++L)) ∧
 ∀ (A:List aW) (w':World) (st':af.Store) (yw:af.aP) (sl':af.aS) (a':rT) (t':af.Pt) (R':List aW) (L':List (Nat×Obj)),yw.Ok→a'.pa=a.pa→t'.aO=t.aO.set w yw→t'.slots=t.slots.set w sl' →
  NF S w0 w' (A++(dB q yw::ah p st'::((bB a t).eraseIdx w++iN a' p t' R'))) ((k,cl (dD q sl') 109)::L')→NF S w0 w' (A++(ah p st'::(cS a' p t'++R'))) L':=by
 have hk:w<a.pa.length:=by rw [ha.pa];exact hw
 have hp:w<t.aO.length:=by rw [ha.aO];exact hw
 have hs:w<t.slots.length:=by rw [ha.slots];exact hw
 have hz:(bB a t)[w]?=some (dF a.pa[w] (t.aO[w],t.slots[w])):=by exact Z7
 obtain ⟨hlt,hze⟩:=List.getElem?_eq_some_iff.1 hz
 have T8:(bB a t).Perm (dF a.pa[w] (t.aO[w],t.slots[w])::(bB a t).eraseIdx w):=by
  have:=(mI (bB a t) w hlt).symm
  rwa [hze] at this
 have h1:=h.bP (R':=dF a.pa[w] (t.aO[w],t.slots[w])::ah p st::((bB a t).eraseIdx w++iN a p t R)) ((List.Perm.cons _ (rX.trans (T8.append_right _))).trans (List.Perm.swap _ _ _))
 obtain ⟨q,h1⟩:=h1.exO
 obtain ⟨hok,h1⟩:=h1.IX
 have h2:=h1.op
 simp only [bQ,bG] at h2
 refine ⟨a.pa[w],q,t.aO[w],t.slots[w],lz hk,lz hp,lz hs,hok,h2,fun A w' st' yw sl' a' t' R' L' T6 e1 e2 e3 h'=>?_⟩
 have h3:NF S w0 w' (dB q yw::(A++(ah p st'::((bB a t).eraseIdx w++iN a' p t' R')))) ((a.pa[w],cl (dD q sl') 109)::L'):=h'.bP tE
 have h4:NF S w0 w' (dF a.pa[w] (yw,sl')::(A++(ah p st'::((bB a t).eraseIdx w++iN a' p t' R')))) L':=NF.Vr (r:=fun q=>wj yw.Ok (comp [dB q yw] [(a.pa[w],cl (dD q sl') 109)])) q (NF.Bu T6 (NF.shut (R1:=[dB q yw]) (L1:=[(a.pa[w],cl (dD q sl') 109)]) h3))
 have Hh:bB a' t'=(bB a t).set w (dF a.pa[w] (yw,sl')):=by exact Z9
 have her:(bB a' t').eraseIdx w=(bB a t).eraseIdx w:=by rw [Hh,List.eraseIdx_set_eq]
 have JP:(bB a' t')[w]?=some (dF a.pa[w] (yw,sl')):=by rw [Hh,List.getElem?_set_self hlt]
 obtain ⟨hlt',hze'⟩:=List.getElem?_eq_some_iff.1 JP
 have Kr:(bB a' t').Perm (dF a.pa[w] (yw,sl')::(bB a t).eraseIdx w):=by
  have:=(mI (bB a' t') w hlt').symm
  rwa [hze',her] at this
 refine h4.bP ?_
 refine (tE (l₁:=A)).symm.trans (iZ A ((List.Perm.swap _ _ _).trans (List.Perm.cons _ ?_)))
 rw [←bQ]
 exact (Kr.symm.append_right _).trans rX.symm
end
end Go.Proofs.N0
namespace af
theorem reqW {bW:Nat} {slot:Int} {offer:List UInt8} (hf:bW<18446744073709551616) (hs:Int64 slot) (ho:offer.length≤9223372036854775807):(JQ bW offer slot).Wf:=by
 refine ⟨fun c hc=>?_,fun c hc=>?_,ho⟩
 ·simp only [gF,Bp,or_false] at hc;unfold Int64 at hs;rcases hc with rfl|rfl|rfl|rfl|rfl|rfl|rfl|rfl<;>simp [JQ]<;>omega
 ·simp only [gF,Bp,or_false] at hc;rcases hc with rfl|rfl|rfl|rfl<;>simp [JQ]<;>omega
end af
namespace Go.Proofs.N0
open Go.RowKit Go.Maps Go.ChangeMaps
variable {pr:af.dG}
section
variable {S:List Nat} {w0 W:World} {p b:Nat} {L:List (Nat×Obj)} {R:List aW} {t:af.Pt} {st bO:af.Store}
def EN (v:Value):Int:=match v with
 | .agg cs=>match cs[0]? with
  | some (Value.int _ k)=>k
  | _=>-1
 | _=>-1
def AW (who:Int) (x:Nat×Value):Bool:=!decide (EN x.2=who)
theorem Ks (who:Int) (l:List (Nat×af.pW)):(bU l).filter (AW who)=bU (l.filter fun (x:Nat×af.pW)=>!decide (x.2.peer=who)):=by unfold bU;rw [List.filter_map];rfl
theorem _root_.Go.Mem.X8 {w x:World} {Lc:List (Nat×Obj)} {g:Nat} {cs:Array Value} {T:TypeId} {l:List af.dG} {i:Nat} (h:Mem w Lc x) (hm:(g,Obj.cells cs T (0,0))∈Lc) (hp:l.flatMap eA <+: cs.toList) (hi:l[i]?=some pr) :
 ∀ z:Later x,z.world.cell? ⟨g,i*4,none⟩=some (vI pr.jo.dh)∧z.world.cell? ⟨g,i*4+1,none⟩=some (vI pr.jo.cD)∧z.world.cell? ⟨g,i*4+2,none⟩=some (vI pr.p0)∧z.world.cell? ⟨g,i*4+3,none⟩=some (vI pr.p1):=fun z=>by
 obtain ⟨h1,rfl⟩:=List.getElem?_eq_some_iff.1 hi
 exact qW ((z.below.block _ (lt_of_block (h.blk _ hm))).trans (h.blk _ hm)) hp h1
theorem T9 {slot:Int} {w now stamp:Nat} {d0 d1 d2:Int} {mx:af.bJ} {q:af.cz} {t':af.Pt} {os:List (List UInt8)} (h:NF S w0 W (ah p st::bK p b t::R) L) (hwl:w<t.aj.length) (sr:t.aj[w]?=some pr) (jN:af.Int64 slot) (cT:now<18446744073709551616) (hst:t.stamp<18446744073709551615) (hse:t.ak<18446744073709551615) (hbl:t.begun.length<1000000) (hd:af.Int64 d0∧af.Int64 d1∧af.Int64 d2)
 (hsm:max now (t.stamp+1)=stamp) (hf:af.Am st t.me pr (af.JQ t.ak t.offer slot) stamp d0 d1 d2=(bO,mx,q,0))
 (ht:({t with begun:=(t.begun.filter fun (x:Nat×af.pW)=>!decide (x.2.peer=(w:Int)))++[(t.ak,(⟨(w:Int),q,now⟩:af.pW))],stamp:=stamp,ak:=t.ak+1}:af.Pt).pack mx=(t',os)) (hwf:t'.Wf) :
 Calls Tryz.prog 11 #[vP b 0,vI w,vI slot,vU now,.agg #[vI d0,vI d1,vI d2]] W fun e w'=>∃ v,e=.returned (.tuple #[v,vI 0])∧NF S w0 w' (bA v os::ah p bO::bK p b t'::R) L:=by
 obtain ⟨a,RR,LL,ha,hw,h,hback⟩:=OY h
 obtain ⟨iA,pH⟩:∃ iA,iA=dz a.mb (bU t.begun)::RR:=⟨_,rfl⟩
 rw [←pH] at h
 obtain ⟨S1,K7,-⟩:=h.sf
 have hq:=(Gz K7 (af.reqW hw.ak.2 jN (by have:=hw.offer;omega)) (by omega:stamp<18446744073709551616) hw.me (hw.aj pr (IQ sr)) hd hf).2
 have HQ:=Hi hq
 clear K7 hq
 have CB:Hid (∀ {W:World} S1,SF S1 W W p st []→Calls Tryz.prog 28 #[vP p 0,.agg #[vI t.me.dh,vI t.me.cD],.agg (pU pr),.agg #[vI 0,vU t.ak,vU 0,vS t.offer,vI slot,vI 0,vI 0,vI 0,vI 0,vI 0,vI 0,vU 0,vU 0],vU stamp,.agg #[vI d0,vI d1,vI d2]] W fun e w'=>e=.returned (.tuple #[.agg (dW mx),.agg (vM q),vI 0])∧SF S1 W w' p bO []):=Hi fun S1 hs=>(Gz hs (af.reqW hw.ak.2 jN (by have:=hw.offer;omega)) ax hw.me (hw.aj pr (IQ sr)) hd hf).1
 have CH:=Hi (TM (who:=(w:Int)) (a:=a) (t:=t) (p:=p) (h.alloc (cl #[vI d0,vI d1,vI d2] 32)|>.sub (zq _ _)) ax ax)
 unfold iz at h
 have F0:=Hi (h.alloc (cl #[vI d0,vI d1,vI d2] 32))
 obtain ⟨HKP,uv,rI,mZ,uw,HA,HW⟩:=PL ha.kp sr hwl hback pH ha hw
 clear h hback pH sr hwl hf hd ha hw
 have r:=rl F0.out.mem.rules
 go_enter Tryz.func11,Tryz.ntmps11
 go_wp2_with fail
 refine CH.out.mono ?_
 rintro e w1 ⟨rfl,hb1⟩
 have F1:=Hi (F0.out.later hb1)
 clear hb1 CH r F0
 obtain ⟨n2,hn2⟩:∃ n2,t.stamp+1=n2:=⟨_,rfl⟩
 have hw3:IntKind.u64.wrap ((t.stamp:Int)+1)=(n2:Int):=by rw [←hn2,show ((t.stamp:Int)+1)=((t.stamp+1:Nat):Int) by push_cast;rfl];exact PJ
 rw [hn2] at hsm
 clear hn2
 have hmx:max (now:Int) (n2:Int)=(stamp:Int):=ax
 obtain ⟨n3,hn3⟩:∃ n3,t.ak+1=n3:=⟨_,rfl⟩
 have hw4:IntKind.u64.wrap ((t.ak:Int)+1)=(n3:Int):=by rw [←hn3,show ((t.ak:Int)+1)=((t.ak+1:Nat):Int) by push_cast;rfl];exact PJ
 rw [hn3] at ht
 obtain ⟨HLEN,HT,tR,HSE⟩:=hi4 hbl ht hwf hse
 clear hn3 hsm ht hwf hst hse hbl
 have r:=rl F1.out.mem.rules
 go_wp2_with fail
 clear r
 refine sk (n:=112) [30,37,38] [35,36] (tb [some (vP b 0),some (vP b 0),some (vP b 0),some (vP p 0),some (vP b 0),some (vP b 0),some (vP b 1),some (vP b 1),some (.agg #[vI t.me.dh,vI t.me.cD]),some (vP b 0),some (vP b 0),some (vP b 1),some (vP b 3),some (vL a.rp 0 t.aj.length a.cp),some (vI (w:Nat)),some (vP a.rp (w*4)),some (.agg (pU pr)),some (vP b 0),some (vP b 0),some (vP b 6),some (vU t.ak),some (vP b 0),some (vP b 0),some (vP b 1),some (vP b 4),some (vS t.offer),some (vI slot),some (.agg #[vI 0,vU t.ak,vU 0,vS t.offer,vI slot,vI 0,vI 0,vI 0,vI 0,vI 0,vI 0,vU 0,vU 0]),some (vU stamp),some (.agg #[vI d0,vI d1,vI d2]),some (.tuple #[.agg (dW mx),.agg (vM q),vI 0]),some (.tuple #[.agg (dW mx),.agg (vM q),vI 0]),some (.agg (dW mx)),some (.agg (vM q)),some (vI 0),none,none,none,none,some (vI 0)]) [(W.heap.size,cl #[vI d0,vI d1,vI d2] 32),(b,cl (jt p a t) 80),(a.rp,cl a.kp 65)] (LL) [([(35,cl (lF) 82),(36,cl #[vI 0,vI 0,vI 0,vU 0,vI 0,vI 0,.string ⟨#[]⟩] 86)],ah p st::iA,[]),
  ([(35,cl (lF) 82),(36,cl #[vI 0,vI 0,vI 0,vU 0,vI 0,vI 0,.string ⟨#[]⟩] 86)],ah p bO::iA,[]),
  ([(35,cl (dW mx) 82),(36,cl #[vI 0,vI 0,vI 0,vU 0,vI 0,vI 0,.string ⟨#[]⟩] 86)],ah p bO::iA,[]),
  ([(35,cl (dW mx) 82),(36,cl (vM q) 86)],ah p bO::iA,[])] (F1.out) ⟨sP,sP,sP,sP,sP,sP,sP,sP,sP,sP,sP,sP,sP,sP,sP,?_,?_,sP,sP,sP,sP,sP,sP,sP,sP,sP,sP,sP,sP,sP,?_,sP,sP,sP,sP,sA 1 (cl (lF) 82),sA 2 (cl #[vI 0,vI 0,vI 0,vU 0,vI 0,vI 0,.string ⟨#[]⟩] 86),QK,sW7,sP,trivial⟩ ?_
 ·exact QU
 ·refine sQ ?_;intro v x hM hE;have yp:=hM.X8 (g:=a.rp) (T:=65) aH HKP.out uv.out;exact qP
 ·refine wC ?_;intro D v qq x h0;exact mo (h0.gL fun S1 hs=>(CB.out S1 hs))
 ·intro v qq x hF hA h
  simp only [SA,SC] at hA h
  generalize qq 35=q35 at hA h
  generalize qq 36=q36 at hA h
  have F2:=Hi h
  simp only [PU,bF,Nat.reduceAdd,gT hF 39,hA]
  clear hF hA h
  clear CB hmx hw3
  have hma:=F2.out.kY (mb:=a.mb) (l:=bU t.begun) (by rw [uw.out];simp)
  have HMA:=Hi hma
  have Ln:=Hi (F2.out.lD (x:=(b,_)) (by simp only [gF];exact .inr (.inr (.inr (.inl rfl)))))
  obtain ⟨hkeys,D0,rF,hm0⟩:=hma
  obtain ⟨HK,NR,N3⟩:=ju hkeys hm0 rF
  clear hkeys hm0 rF
  have r:=rl F2.out.mem.rules
  go_wp2_with (at_range;refine wpList_range_own _ rfl _ 77 rfl 31 90 mX Tryz.underlying77 _ a.mb (bU t.begun).length D0 rfl N3.out ?_;intro w0 hrg0 hg0 hs0)
  have TQ:=Hi (nO.start (w:=x) (keep:=AW (w:Int)) NR.out hrg0 hg0)
  clear r hrg0 hg0 hs0
  try go_frame
  go_loopw [72] (fun _ wr=>nO x a.mb x.heap.size (bU t.begun) (AW (w:Int)) wr) (fun _ wr=>wr.rangeLeft a.mb x.heap.size)
  case atStart=>exact TQ.out
  case round =>
   obtain ⟨left,cnt,D,ml,hm,hrg,hM,hk,htu⟩:=hrel;obtain ⟨sw,wU,yt,Kn,Mg⟩:=vT hm hrg hM hk htu;clear hm hrg hM hk htu TQ;go_wp2_with (at_next;refine rW _ rfl _ rfl a.mb x.heap.size (bU t.begun).length D left cnt _ rfl wU.out yt.out Kn.out ?_ ?_)
   ·intro hl0;have js:=xg HK.out sw.out wU.out yt.out hl0;rw [Ks] at js;obtain ⟨bl2,hbl2⟩:∃ bl2,bl2=t.begun.filter fun (x:Nat×af.pW)=>!decide (x.2.peer=(w:Int)):=⟨_,rfl⟩
    rw [←hbl2] at js;have od:=Hi hbl2;have g:=F2.out;rw [uw.out] at g;have F3:=Hi (((g.bP (List.Perm.swap _ _ _)).lR js Mg.out).bP (List.Perm.swap _ _ _));clear hl0 js g hbl2;have r:=rl F3.out.mem.rules;go_wp2_with fail;go_still_tail 12,aI;change wpList _ _ _ _ _ wr.drew;have F4:=Hi (F3.out.later (Below.refl _ wr).drew);generalize wr.drew=w4 at F4;clear r F3;obtain ⟨hkeys,D5,VC,Tm⟩:=F4.out.kY (mb:=a.mb) (l:=bU bl2) aH;have hlen:(bU bl2).length≤t.begun.length:=by rw [od.out];unfold bU;rw [Fw];exact lG _ _
    have hnew:∀ y∈bU bl2,y.1≠t.ak:=fun y hy=>by
     obtain ⟨u,hu,rfl⟩:=List.mem_map.1 hy
     rw [od.out] at hu
     have:=HW.out.ids.1 u (List.mem_filter.1 hu).1
     simp only;omega
    have Hj:=Hi (fun w5 ho=>cQ.put (w:=w5) (mb:=a.mb) (k:=t.ak) (v:=.agg #[vI (w:Nat),vI q.y.ck,vI q.y.k,vI q.y.h,vU q.y.n,vI q.e,vI q.ek,vS q.offer,vU now]) hkeys Tm hnew (by have:=HSE.out;omega) ho);refine wpList_mapUpdate_own _ rfl _ _ _ 77 rfl 31 90 mX Tryz.underlying77 cK a.mb (bU bl2).length D5 rfl VC (by have:=HLEN.out;unfold maxLen;omega) (vU t.ak) (.agg #[vI (w:Nat),vI q.y.ck,vI q.y.k,vI q.y.h,vU q.y.n,vI q.e,vI q.ek,vS q.offer,vU now]) (aV t.ak) rfl rfl (iy (by have:=HSE.out;omega)) (.held (.agg #[vI (w:Nat),vI q.y.ck,vI q.y.k,vI q.y.h,vU q.y.n,vI q.e,vI q.ek,vS q.offer,vU now])) [] rfl ?_;intro w5 xT hg5;have g:=((F4.out.bP (List.Perm.swap _ _ _)).lR (Hj.out w5 xT) (az.grown (S:=[a.mb]) hg5 (fun j e=>.inl nX))).bP (List.Perm.swap _ _ _);have F5:=Hi g;have F6:=Hi ((g.ai (B:=[_,_,_]) 8 (vU stamp)).ai (B:=[_,_,_]) 6 (vU n3));simp only [aX,aY,jr,bQ,bG] at F6;try simp only [Act.put]
    clear hkeys Tm VC hnew hlen Hj xT hg5 g F4;have r:=rl F5.out.mem.rules;have r2:=rl F6.out.mem.rules;go_wp2_with fail;clear r r2;have g:=F6.out.perm (tE (l₁:=[_,_,_]));simp only [bQ,bG] at g;have CP:=Hi (NF.pack (t:={ t with begun:=bl2++[(t.ak,(⟨(w:Int),q,now⟩:af.pW))],stamp:=stamp,ak:=n3}) (t':=t') (os:=os) (a:=a) g HQ.out.1 HW.out.messages (by rw [od.out];exact HT.out));clear g F5 F6;refine CP.out.mono ?_;rintro e w6 ⟨vv,rfl,g⟩;have ht:=HT.out;unfold af.Pt.pack at ht;obtain ⟨rfl,rfl⟩:=Prod.mk.inj ht;have g2:=g.sub (List.Sublist.cons_cons _ ((zq _ _).trans ((zq _ _).trans (zq _ _))));have F7:=Hi (mZ.out [bA vv _] w6 bO (bl2++[(t.ak,(⟨(w:Int),q,now⟩:af.pW))]) n3 ((t.messages+1) % 18446744073709551616) stamp (by have:=tR.out;rw [od.out];exact this) (by unfold bU at g2 ⊢;rw [dc];exact g2));clear g g2 CP;go_wp2_with fail;go_ret2;exact ⟨vv,rfl,by rw [od.out] at F7;exact F7.out⟩
   ·intro i s w2 cnt2 hin BU hrg2 hlt hg2 hs2 hen;obtain ⟨bg,rfl⟩:∃ bg,pg bg=s:=by
     have:=hin
     rw [sw.out] at this
     obtain ⟨y,hy,e⟩:=List.mem_map.1 (List.mem_filter.1 this).1
     cases e
     exact ⟨y.2,rfl⟩
    have IB:az [a.mb] x w2:=Mg.out.trans (az.grown (S:=[x.heap.size]) hg2 (fun j e=>.inl nX)) (fun j e=>.inr Ap);have hb2:=fU Ln.out HMA.out IB;obtain ⟨ox,pX,pP,OS⟩:=hi4 hin hrg2 hlt hg2;have RS:pg bg=.agg #[vI bg.peer,vI bg.q.y.ck,vI bg.q.y.k,vI bg.q.y.h,vU bg.q.y.n,vI bg.q.e,vI bg.q.ek,vS bg.q.offer,vU bg.born]:=rfl;rw [RS] at hen ⊢;have M1:=Hi (((Mem.start w2).with hb2).alloc (cl #[vI bg.peer,vI bg.q.y.ck,vI bg.q.y.k,vI bg.q.y.h,vU bg.q.y.n,vI bg.q.e,vI bg.q.ek,vS bg.q.offer,vU bg.born] 90));have od:=Hi ((Below.refl w2.heap.size w2).alloc (cC _) (cl #[vI bg.peer,vI bg.q.y.ck,vI bg.q.y.k,vI bg.q.y.h,vU bg.q.y.n,vI bg.q.e,vI bg.q.ek,vS bg.q.offer,vU bg.born] 90));clear IB hb2 hin BU hrg2 hlt hg2 hs2 RS;have r:=rl M1.out.rules;by_cases hp:bg.peer=(w:Int)
    ·have hC:AW (w:Int) (i,pg bg)=false:=by unfold AW;rw [show EN (i,pg bg).2=bg.peer from rfl,hp,decide_eq_true rfl];try rfl
     obtain ⟨w4,hrun,XS,nY⟩:=nO.gone HK.out sw.out wU.out yt.out Kn.out Mg.out (cC _) ox.out hC pX.out pP.out OS.out od.out Tryz.underlying77 0;obtain ⟨oD,Iw,GR⟩:=ju XS nY hrun;have e1:(bg.peer==(w:Int))=true:=by simp [hp]
     clear XS nY hC hrun hp;exact a9160
    ·have hC:AW (w:Int) (i,pg bg)=true:=by unfold AW;rw [show EN (i,pg bg).2=bg.peer from rfl];simp [hp]
     have hk2:=nO.kept HK.out.1 sw.out wU.out yt.out Kn.out Mg.out (cC _) ox.out hC pX.out pP.out OS.out od.out;obtain ⟨oD,Iw⟩:=hi2 hk2.1 hk2.2;have e1:(bg.peer==(w:Int))=false:=by simp [hp]
     clear hk2 hC;exact S4
end
end Go.Proofs.N0
namespace Go.Proofs.N0
open Go.RowKit Go.Maps Go.ChangeMaps
variable {g i id bn:Nat} {y:af.dm} {sx:af.jq} {o:af.One} {P:Program} {f:FuncId} {args:Array Value} {E:Ending}
section
variable {S:List Nat} {w0 W:World} {p b w:Nat} {L:List (Nat×Obj)} {R:List aW} {t:af.Pt} {st:af.Store} {a:rT}
theorem NF.sNewR {x:af.jq} (h:NF S w0 W (ah p st::R) L) (h1:st.has x.h=true) (h2:st.has x.send=true) (h3:st.has x.recv=true):Calls Tryz.prog 147 #[vP p 0,mW x] W fun e w'=>∃ bn,e=.returned (.tuple #[vP bn 0,vI 0])∧NF S w0 w' (dA p bn (ic x)::ah p st::R) L:=by refine (h.sNew h1 h2 h3).mono ?_;rintro e w' ⟨bn,rfl,g⟩;refine ⟨bn,rfl,NF.Vr (r:=fun ov:Value=>wj (isSlice ov) (comp [J9 ov (ic x).old] [(bn,cl (dV p (ic x) ov) 187)])) (.slice none 0 0) (NF.Bu ⟨_,_,_,rfl⟩ (NF.shut (R1:=[J9 (.slice none 0 0) (ic x).old]) (L1:=[(bn,cl (dV p (ic x) (.slice none 0 0)) 187)]) ?_))⟩;exact g.lQ (Below.refl _ _) (World.ownsRow_nil _ _ _ _)
theorem EO (ha:a.ok t) (h:NF S w0 W (ah p st::(cS a p t++R)) (cN a p b t++L)):uh W a.rq a.pa∧ig W a.pa t.slots:=by refine ⟨⟨a.kq,h.lD (x:=(a.rq,_)) TG,ha.kq⟩,by rw [ha.pa,ha.slots],fun j hj=>?_⟩;exact OL
theorem _root_.Go.Mem.rV {w x:World} {Lc:List (Nat×Obj)} {k:Nat} {cs:Array Value} {T:TypeId} {pa:List Nat} (h:Mem w Lc x) (hm:(g,Obj.cells cs T (0,0))∈Lc) (hp:pa.map (fun k=>Value.pointer (some ⟨k,0,none⟩)) <+: cs.toList) (hi:pa[i]?=some k):∀ z:Later x,z.world.cell? ⟨g,i,none⟩=some (vP k 0):=fun z=>by
 have hb:=(z.below.block _ (lt_of_block (h.blk _ hm))).trans (h.blk _ hm);have h3:cs[i]?=some (vP k 0):=by rw [←tV];exact lM hp (by rw [wB,hi];rfl)
 simp [World.cell?,hb,h3]
theorem Mh {α:Type} [DecidableEq α] (sN s q g m l:α) (P Y R:List α):(sN::s::q::(P++(g::m::l::(Y++R)))).Perm (l::sN::s::q::g::m::(P++(Y++R))):=by exact TE
theorem Mi {α:Type} [DecidableEq α] (sN s q g m l:α) (P Y R:List α):(l::sN::s::q::g::m::(P++(Y++R))).Perm (q::s::(P++(g::m::l::((Y++[sN])++R)))):=by exact TE
theorem yO {α:Type} [DecidableEq α] (s g m l:α) (P Y R:List α):(s::(g::m::l::(P++Y)++R)).Perm (l::s::g::m::((P++Y)++R)):=by exact LN
theorem ld {α:Type} {l:List α} {x:α} (h:l[i]?=some x):l.set i x=l:=by obtain ⟨h1,rfl⟩:=List.getElem?_eq_some_iff.1 h;exact List.set_getElem_self h1
theorem Hl {la:Nat→Nat} {l:List (Nat×af.dm)} (hf:∀ x∈l,x.1≠id):cu (fun i=>if i=id then bn else la i) (l++[(id,y)])=cu la l++[(id,vP bn 0)]:=by unfold cu;exact aah
theorem Ho {la:Nat→Nat} {l:List (Nat×af.dm)} (hf:∀ x∈l,x.1≠id):((l++[(id,y)]).map fun (x:Nat×af.dm)=>dA p (if x.1=id then bn else la x.1) x.2)=(l.map fun (x:Nat×af.dm)=>dA p (la x.1) x.2)++[dA p bn y]:=by exact aah
theorem TI {l:List (Nat×af.dm)} (hf:∀ x∈l,x.1≠id):af.Eu l id=l:=by unfold af.Eu;rw [List.filter_eq_self];intro x hx;simpa using hf x hx
theorem xj (la:Nat→Nat) (sl:List af.aS) (l:List (Nat×af.dm)):(cu la l).filter (nP sl)=cu la (l.filter fun x=>sl.any fun s=>(s.find x.1).isSome):=by unfold cu;rw [List.filter_map];rfl
theorem Hp (h:NF S w0 W (ah p st::bK p b t::R) L) (hwl:w<t.aj.length) (hx:st.has sx.h=true∧st.has sx.send=true∧st.has sx.recv=true) (hid:o.id<18446744073709551616) (hfr:∀ y∈t.live,y.1≠o.id) (qc:t.live.length<1000000)
 (hwf:(t.join w o (ic sx) ((t.slots.getD w af.eL).theirs o)).Wf) :
 Calls Tryz.prog 120 #[vP b 0,vI w,eV o,mW sx,.func (.func 121) #[] #[]] W fun e w'=>e=.returned (vI 0)∧NF S w0 w' (ah p st::bK p b (t.join w o (ic sx) ((t.slots.getD w af.eL).theirs o))::R) L:=by
 obtain ⟨a,ha,hw,h⟩:=cx h
 obtain ⟨k,q,pl,sl,hk,hpl,jN,hok,h,hback⟩:=kZ ha hwl h
 obtain ⟨iA,pH⟩:∃ iA,iA=dB q pl::((bB a t).eraseIdx w++iN a p t R):=⟨_,rfl⟩
 have h:=h.bP (List.Perm.swap _ _ _)
 rw [←pH] at h
 unfold cN dD iz at h
 simp only [bQ,bG] at h
 obtain ⟨qf,uj⟩:∃ qf,sl.theirs o=qf:=⟨_,rfl⟩
 have CT:=Hi (fun W=>Ev uj W)
 unfold oK at CT
 unfold eV at CT ⊢
 unfold mW
 have F0:=Hi ((h.alloc (cl #[vU o.id,vU o.to,vU o.born] 98)).alloc (cl (iH sx) 113))
 simp only [World.size_alloc] at F0
 obtain ⟨HX1,PY,VA⟩:=ju hx.1 hx.2.1 hx.2.2
 have LS:=Hi hk;have rI:=Hi hwl;have mZ:=Hi hback;have uw:=Hi pH;have HA:=Hi ha;have HW:=Hi hw;have HKQ:=Hi ha.kq;have Cn:=Hi jN;have jx:=Hi hok;have Fb:=Hi hpl;have XL:=Hi uj
 obtain ⟨P7,Ua,tR,Ez⟩:=hi4 hfr qc hwf hid
 clear h hback pH hk hwl hx ha hw jN hok hpl uj hfr qc hwf hid
 have r:=rl F0.out.mem.rules
 go_enter Tryz.func120,Tryz.ntmps120
 go_wp2_with fail
 clear r
 refine XK (n:=56) [5,6,7,9] [] (tb [vP b 0,vP b 0,vP b 0,vP p 0,some (.agg (iH sx)),none,none,none,vI 0,none,vI 0]) ((W.heap.size+1,cl (iH sx) 113)::(W.heap.size,cl #[vU o.id,vU o.to,vU o.born] 98)::(k,cl (oI q sl) 109)::(b,cl (jt p a t) 80)::[]) [kN S w0 [] (ah p st::iA) ((W.heap.size+1,cl (iH sx) 113)::(W.heap.size,cl #[vU o.id,vU o.to,vU o.born] 98)::(k,cl (oI q sl) 109)::(b,cl (jt p a t) 80)::(a.rp,cl a.kp 65)::(a.rq,cl a.kq 110)::L),
  jW (α:=Nat×Unit) S w0 (fun ch=>[(5,.tuple #[vP ch.1 0,vI 0])]) (fun _=>[]) (fun ch=>dA p ch.1 (ic sx)::ah p st::iA) (fun _=>(W.heap.size+1,cl (iH sx) 113)::(W.heap.size,cl #[vU o.id,vU o.to,vU o.born] 98)::(k,cl (oI q sl) 109)::(b,cl (jt p a t) 80)::(a.rp,cl a.kp 65)::(a.rq,cl a.kq 110)::L),
  jW (α:=Nat×Unit) S w0 (fun ch=>[(5,.tuple #[vP ch.1 0,vI 0]),(6,.tuple #[vP ch.1 0,vI 0])]) (fun _=>[]) (fun ch=>dA p ch.1 (ic sx)::ah p st::iA) (fun _=>(W.heap.size+1,cl (iH sx) 113)::(W.heap.size,cl #[vU o.id,vU o.to,vU o.born] 98)::(k,cl (oI q sl) 109)::(b,cl (jt p a t) 80)::(a.rp,cl a.kp 65)::(a.rq,cl a.kq 110)::L),
  jW (α:=Nat×Unit) S w0 (fun ch=>[(5,.tuple #[vP ch.1 0,vI 0]),(6,.tuple #[vP ch.1 0,vI 0]),(7,vP ch.1 0)]) (fun _=>[]) (fun ch=>dA p ch.1 (ic sx)::ah p st::iA) (fun _=>(W.heap.size+1,cl (iH sx) 113)::(W.heap.size,cl #[vU o.id,vU o.to,vU o.born] 98)::(k,cl (oI q sl) 109)::(b,cl (jt p a t) 80)::(a.rp,cl a.kp 65)::(a.rq,cl a.kq 110)::L),
  jW (α:=Nat×Unit) S w0 (fun ch=>[(5,.tuple #[vP ch.1 0,vI 0]),(6,.tuple #[vP ch.1 0,vI 0]),(7,vP ch.1 0),(9,vP ch.1 0)]) (fun _=>[]) (fun ch=>dA p ch.1 (ic sx)::ah p st::iA) (fun _=>(W.heap.size+1,cl (iH sx) 113)::(W.heap.size,cl #[vU o.id,vU o.to,vU o.born] 98)::(k,cl (oI q sl) 109)::(b,cl (jt p a t) 80)::(a.rp,cl a.kp 65)::(a.rq,cl a.kq 110)::L)] (F0.out) ⟨sP,sP,sP,sP,sP,?_,sY,sY,sE 1,sY,sP,trivial⟩ ?_
 ·exact Qn
 ·intro v qq x ch hF hS hA h;obtain ⟨bn,_⟩:=ch;simp only [tH,and_true] at hS;simp only [SC] at h;have F1:=Hi h;simp only [PU,bF,Nat.reduceAdd,gT hF 10,hS];clear hF hS hA h;have F2:=Hi (F1.out.perm ((tE (l₁:=[_,_])).trans (List.Perm.cons _ (List.Perm.cons _ (List.Perm.cons _ (List.Perm.cons _ (List.Perm.swap _ _ _)))))));try simp only [bQ,bG] at F2
  clear F0 F1;go_wp2_with fail;refine sk (n:=56) [22] [] (tb [vP b 0,vP b 0,vP b 10,vL a.rq 0 t.aj.length a.cq,vI (w:Nat),vP a.rq w,vP k 0,some (.func (.func 121) #[] #[]),vP b 0,vP b 0,vP b 10,vL a.rq 0 t.aj.length a.cq,vI (w:Nat),vP a.rq w,vP k 0,vP k 0,vP k 1,some (.agg (E7 sl)),some (.agg #[vU o.id,vU o.to,vU o.born]),some (.agg (E7 qf)),vP k 0,vP k 1]) [(W.heap.size+1,cl (iH sx) 113),(W.heap.size,cl #[vU o.id,vU o.to,vU o.born] 98),(b,cl (jt p a t) 80),(a.rq,cl a.kq 110)] ((a.rp,cl a.kp 65)::L) [([],dA p bn (ic sx)::ah p st::iA,[(k,cl (oI q sl) 109)]),
   ([],dA p bn (ic sx)::ah p st::iA,[(k,cl (oI q qf) 109)])] (F2.out) ⟨sP,sP,sP,sP,sP,?_,?_,sP,sP,sP,sP,sP,sP,?_,?_,sP,sP,sT ((k,cl (oI q sl) 109)::[]) 0,sP,?_,sP,sP,QJ,trivial⟩ ?_
  ·exact QU
  ·exact PA
  ·exact QU
  ·exact PA
  ·refine sQ ?_;intro v x hM hE;refine qA ?_;go_big_quiet_step ((go_at_call 121;exact Calls.later (CT.out _)));exact aao
  ·intro v qq x hF hA h;simp only [SC] at h;have F3:=Hi h;simp only [PU,bF,Nat.reduceAdd];clear hF hA h;go_wp2_with fail;clear F2;haveI:DecidableEq aW:=fun _ _=>Classical.propDecidable _;have r:=rl F3.out.mem.rules;go_still_tail 7,aI;change wpList _ _ _ _ _ x.drew;have g:=F3.out.later (Below.refl _ x).drew;generalize x.drew=x4 at g;clear r F3;rw [uw.out] at g;unfold iN at g;have F4:=Hi (g.bP (Mh _ _ _ _ _ _ _ _ _));clear g;obtain ⟨hkeys,D5,VC,Tm⟩:=F4.out.mapAt;have hlen:(cu a.la t.live).length=t.live.length:=by unfold cu;rw [Fw]
   have hnew:∀ y∈cu a.la t.live,y.1≠o.id:=fun y hy=>by obtain ⟨u,hu,rfl⟩:=List.mem_map.1 hy;exact P7.out u hu
   have Hj:=Hi (fun w5 ho=>cQ.put (w:=w5) (mb:=a.lb) (k:=o.id) (v:=vP bn 0) hkeys Tm hnew Ez.out ho);refine wpList_mapUpdate_own _ rfl _ _ _ 78 rfl 31 96 mX Tryz.underlying78 cK a.lb (cu a.la t.live).length D5 rfl VC (by have:=Ua.out;unfold maxLen;omega) (vU o.id) (vP bn 0) (aV o.id) rfl rfl (iy Ez.out) (.held (vP bn 0)) [] rfl ?_;intro w5 xT hg5;have g:=F4.out.lR (Hj.out w5 xT) (az.grown (S:=[a.lb]) hg5 (fun j e=>.inl nX));clear hkeys Tm VC hnew Hj xT hg5 F4;obtain ⟨t2,gj⟩:∃ t2,t2={ t with slots:=t.slots.set w qf,live:=t.live++[(o.id,ic sx)]}:=⟨_,rfl⟩
   obtain ⟨a2,ha2⟩:∃ a2,a2={ a with la:=fun i=>if i=o.id then bn else a.la i}:=⟨_,rfl⟩
   have Hq:a2.ok t2:=by exact Z6
   have g2:=mZ.out [] w5 st pl qf a2 t2 R _ jx.out (by rw [ha2]) (by rw [gj];exact (ld Fb.out).symm) (by rw [gj]) (by
    have h3:=g.bP (Mi _ _ _ _ _ _ _ _ _)
    rw [←Hl (y:=ic sx) P7.out,←Ho P7.out] at h3
    subst gj ha2
    exact h3)
   have uf:=Hi Hq;have F5:Hid (NF S w0 w5 (ah p st::(cS a2 p t2++R)) (cN a2 p b t2++L)):=Hi (by
    have h4:=g2.sub (zq _ _)|>.sub (zq _ _)
    have h5:=h4.perm (List.Perm.cons _ (List.Perm.swap _ _ _))
    subst gj ha2
    exact h5)
   have wV:=Hi gj;clear g g2 Hq;have hrow:=EO uf.out F5.out;have hlb:a2.lb=a.lb:=by rw [ha2]
   have CK:=Hi (AU (p:=p) (F5.out.lD (x:=(b,_)) TG) (F5.out.kY (mb:=a2.lb) (l:=cu a2.la t2.live) AO) hrow.1 hrow.2 (by rw [←uf.out.slots]) c982 (by rw [gj];unfold cu;rw [Fw,E5];have:=Ua.out;simp;omega));clear hrow hlb ha2 gj;try simp only [Act.put]
   go_wp2_with fail;refine CK.out.mono ?_;rintro e w6 ⟨rfl,VD,ht6⟩;rw [xj] at VD;have hj:t.join w o (ic sx) ((t.slots.getD w af.eL).theirs o)=t2.kept:=by exact Zm
   exact UO
theorem OZ (h:NF S w0 W (ah p st::bK p b t::R) L) (hwl:w<t.aj.length) (hx:st.has sx.h=true∧st.has sx.send=true∧st.has sx.recv=true) (hid:o.id<18446744073709551616) (hfr:∀ y∈t.live,y.1≠o.id) (qc:t.live.length<1000000)
 (hwf:(t.join w o (ic sx) ((t.slots.getD w af.eL).mine o)).Wf) :
 Calls Tryz.prog 120 #[vP b 0,vI w,eV o,mW sx,.func (.func 124) #[] #[]] W fun e w'=>e=.returned (vI 0)∧NF S w0 w' (ah p st::bK p b (t.join w o (ic sx) ((t.slots.getD w af.eL).mine o))::R) L:=by
 obtain ⟨a,ha,hw,h⟩:=cx h
 obtain ⟨k,q,pl,sl,hk,hpl,jN,hok,h,hback⟩:=kZ ha hwl h
 obtain ⟨iA,pH⟩:∃ iA,iA=dB q pl::((bB a t).eraseIdx w++iN a p t R):=⟨_,rfl⟩
 have h:=h.bP (List.Perm.swap _ _ _)
 rw [←pH] at h
 unfold cN dD iz at h
 simp only [bQ,bG] at h
 obtain ⟨qf,uj⟩:∃ qf,sl.mine o=qf:=⟨_,rfl⟩
 have CT:=Hi (fun W=>JY uj W)
 unfold oK at CT
 unfold eV at CT ⊢
 unfold mW
 have F0:=Hi ((h.alloc (cl #[vU o.id,vU o.to,vU o.born] 98)).alloc (cl (iH sx) 113))
 simp only [World.size_alloc] at F0
 obtain ⟨HX1,PY,VA⟩:=ju hx.1 hx.2.1 hx.2.2
 have LS:=Hi hk;have rI:=Hi hwl;have mZ:=Hi hback;have uw:=Hi pH;have HA:=Hi ha;have HW:=Hi hw;have HKQ:=Hi ha.kq;have Cn:=Hi jN;have jx:=Hi hok;have Fb:=Hi hpl;have XL:=Hi uj
 obtain ⟨P7,Ua,tR,Ez⟩:=hi4 hfr qc hwf hid
 clear h hback pH hk hwl hx ha hw jN hok hpl uj hfr qc hwf hid
 have r:=rl F0.out.mem.rules
 go_enter Tryz.func120,Tryz.ntmps120
 go_wp2_with fail
 clear r
 refine XK (n:=56) [5,6,7,9] [] (tb [vP b 0,vP b 0,vP b 0,vP p 0,some (.agg (iH sx)),none,none,none,vI 0,none,vI 0]) ((W.heap.size+1,cl (iH sx) 113)::(W.heap.size,cl #[vU o.id,vU o.to,vU o.born] 98)::(k,cl (oI q sl) 109)::(b,cl (jt p a t) 80)::[]) [kN S w0 [] (ah p st::iA) ((W.heap.size+1,cl (iH sx) 113)::(W.heap.size,cl #[vU o.id,vU o.to,vU o.born] 98)::(k,cl (oI q sl) 109)::(b,cl (jt p a t) 80)::(a.rp,cl a.kp 65)::(a.rq,cl a.kq 110)::L),
  jW (α:=Nat×Unit) S w0 (fun ch=>[(5,.tuple #[vP ch.1 0,vI 0])]) (fun _=>[]) (fun ch=>dA p ch.1 (ic sx)::ah p st::iA) (fun _=>(W.heap.size+1,cl (iH sx) 113)::(W.heap.size,cl #[vU o.id,vU o.to,vU o.born] 98)::(k,cl (oI q sl) 109)::(b,cl (jt p a t) 80)::(a.rp,cl a.kp 65)::(a.rq,cl a.kq 110)::L),
  jW (α:=Nat×Unit) S w0 (fun ch=>[(5,.tuple #[vP ch.1 0,vI 0]),(6,.tuple #[vP ch.1 0,vI 0])]) (fun _=>[]) (fun ch=>dA p ch.1 (ic sx)::ah p st::iA) (fun _=>(W.heap.size+1,cl (iH sx) 113)::(W.heap.size,cl #[vU o.id,vU o.to,vU o.born] 98)::(k,cl (oI q sl) 109)::(b,cl (jt p a t) 80)::(a.rp,cl a.kp 65)::(a.rq,cl a.kq 110)::L),
  jW (α:=Nat×Unit) S w0 (fun ch=>[(5,.tuple #[vP ch.1 0,vI 0]),(6,.tuple #[vP ch.1 0,vI 0]),(7,vP ch.1 0)]) (fun _=>[]) (fun ch=>dA p ch.1 (ic sx)::ah p st::iA) (fun _=>(W.heap.size+1,cl (iH sx) 113)::(W.heap.size,cl #[vU o.id,vU o.to,vU o.born] 98)::(k,cl (oI q sl) 109)::(b,cl (jt p a t) 80)::(a.rp,cl a.kp 65)::(a.rq,cl a.kq 110)::L),
  jW (α:=Nat×Unit) S w0 (fun ch=>[(5,.tuple #[vP ch.1 0,vI 0]),(6,.tuple #[vP ch.1 0,vI 0]),(7,vP ch.1 0),(9,vP ch.1 0)]) (fun _=>[]) (fun ch=>dA p ch.1 (ic sx)::ah p st::iA) (fun _=>(W.heap.size+1,cl (iH sx) 113)::(W.heap.size,cl #[vU o.id,vU o.to,vU o.born] 98)::(k,cl (oI q sl) 109)::(b,cl (jt p a t) 80)::(a.rp,cl a.kp 65)::(a.rq,cl a.kq 110)::L)] (F0.out) ⟨sP,sP,sP,sP,sP,?_,sY,sY,sE 1,sY,sP,trivial⟩ ?_
 ·exact Qn
 ·intro v qq x ch hF hS hA h;obtain ⟨bn,_⟩:=ch;simp only [tH,and_true] at hS;simp only [SC] at h;have F1:=Hi h;simp only [PU,bF,Nat.reduceAdd,gT hF 10,hS];clear hF hS hA h;have F2:=Hi (F1.out.perm ((tE (l₁:=[_,_])).trans (List.Perm.cons _ (List.Perm.cons _ (List.Perm.cons _ (List.Perm.cons _ (List.Perm.swap _ _ _)))))));try simp only [bQ,bG] at F2
  clear F0 F1;go_wp2_with fail;refine sk (n:=56) [22] [] (tb [vP b 0,vP b 0,vP b 10,vL a.rq 0 t.aj.length a.cq,vI (w:Nat),vP a.rq w,vP k 0,some (.func (.func 124) #[] #[]),vP b 0,vP b 0,vP b 10,vL a.rq 0 t.aj.length a.cq,vI (w:Nat),vP a.rq w,vP k 0,vP k 0,vP k 1,some (.agg (E7 sl)),some (.agg #[vU o.id,vU o.to,vU o.born]),some (.agg (E7 qf)),vP k 0,vP k 1]) [(W.heap.size+1,cl (iH sx) 113),(W.heap.size,cl #[vU o.id,vU o.to,vU o.born] 98),(b,cl (jt p a t) 80),(a.rq,cl a.kq 110)] ((a.rp,cl a.kp 65)::L) [([],dA p bn (ic sx)::ah p st::iA,[(k,cl (oI q sl) 109)]),
   ([],dA p bn (ic sx)::ah p st::iA,[(k,cl (oI q qf) 109)])] (F2.out) ⟨sP,sP,sP,sP,sP,?_,?_,sP,sP,sP,sP,sP,sP,?_,?_,sP,sP,sT ((k,cl (oI q sl) 109)::[]) 0,sP,?_,sP,sP,QJ,trivial⟩ ?_
  ·exact QU
  ·exact PA
  ·exact QU
  ·exact PA
  ·refine sQ ?_;intro v x hM hE;refine qA ?_;go_big_quiet_step ((go_at_call 124;exact Calls.later (CT.out _)));exact aao
  ·intro v qq x hF hA h;simp only [SC] at h;have F3:=Hi h;simp only [PU,bF,Nat.reduceAdd];clear hF hA h;go_wp2_with fail;clear F2;haveI:DecidableEq aW:=fun _ _=>Classical.propDecidable _;have r:=rl F3.out.mem.rules;go_still_tail 7,aI;change wpList _ _ _ _ _ x.drew;have g:=F3.out.later (Below.refl _ x).drew;generalize x.drew=x4 at g;clear r F3;rw [uw.out] at g;unfold iN at g;have F4:=Hi (g.bP (Mh _ _ _ _ _ _ _ _ _));clear g;obtain ⟨hkeys,D5,VC,Tm⟩:=F4.out.mapAt;have hlen:(cu a.la t.live).length=t.live.length:=by unfold cu;rw [Fw]
   have hnew:∀ y∈cu a.la t.live,y.1≠o.id:=fun y hy=>by obtain ⟨u,hu,rfl⟩:=List.mem_map.1 hy;exact P7.out u hu
   have Hj:=Hi (fun w5 ho=>cQ.put (w:=w5) (mb:=a.lb) (k:=o.id) (v:=vP bn 0) hkeys Tm hnew Ez.out ho);refine wpList_mapUpdate_own _ rfl _ _ _ 78 rfl 31 96 mX Tryz.underlying78 cK a.lb (cu a.la t.live).length D5 rfl VC (by have:=Ua.out;unfold maxLen;omega) (vU o.id) (vP bn 0) (aV o.id) rfl rfl (iy Ez.out) (.held (vP bn 0)) [] rfl ?_;intro w5 xT hg5;have g:=F4.out.lR (Hj.out w5 xT) (az.grown (S:=[a.lb]) hg5 (fun j e=>.inl nX));clear hkeys Tm VC hnew Hj xT hg5 F4;obtain ⟨t2,gj⟩:∃ t2,t2={ t with slots:=t.slots.set w qf,live:=t.live++[(o.id,ic sx)]}:=⟨_,rfl⟩
   obtain ⟨a2,ha2⟩:∃ a2,a2={ a with la:=fun i=>if i=o.id then bn else a.la i}:=⟨_,rfl⟩
   have Hq:a2.ok t2:=by exact Z6
   have g2:=mZ.out [] w5 st pl qf a2 t2 R _ jx.out (by rw [ha2]) (by rw [gj];exact (ld Fb.out).symm) (by rw [gj]) (by
    have h3:=g.bP (Mi _ _ _ _ _ _ _ _ _)
    rw [←Hl (y:=ic sx) P7.out,←Ho P7.out] at h3
    subst gj ha2
    exact h3)
   have uf:=Hi Hq;have F5:Hid (NF S w0 w5 (ah p st::(cS a2 p t2++R)) (cN a2 p b t2++L)):=Hi (by
    have h4:=g2.sub (zq _ _)|>.sub (zq _ _)
    have h5:=h4.perm (List.Perm.cons _ (List.Perm.swap _ _ _))
    subst gj ha2
    exact h5)
   have wV:=Hi gj;clear g g2 Hq;have hrow:=EO uf.out F5.out;have hlb:a2.lb=a.lb:=by rw [ha2]
   have CK:=Hi (AU (p:=p) (F5.out.lD (x:=(b,_)) TG) (F5.out.kY (mb:=a2.lb) (l:=cu a2.la t2.live) AO) hrow.1 hrow.2 (by rw [←uf.out.slots]) c982 (by rw [gj];unfold cu;rw [Fw,E5];have:=Ua.out;simp;omega));clear hrow hlb ha2 gj;try simp only [Act.put]
   go_wp2_with fail;refine CK.out.mono ?_;rintro e w6 ⟨rfl,VD,ht6⟩;rw [xj] at VD;have hj:t.join w o (ic sx) ((t.slots.getD w af.eL).mine o)=t2.kept:=by exact Zm
   exact UO
end
section
variable {S:List Nat} {w0 W:World} {R:List aW} {L:List (Nat×Obj)} {p b:Nat} {st:af.Store} {t:af.Pt}
theorem lf (h:NF S w0 W (ah p st::bK p b t::R) L):∃ (a:rT) (RR:List aW) (LL:List (Nat×Obj)),a.ok t∧t.Wf∧NF S w0 W (ah p st::bw a.g t.guard t.aj.length::dz a.mb (bU t.begun)::RR) ((b,cl (iz a p t) 80)::(a.rp,cl a.kp 65)::LL) ∧
 ∀ (A:List aW) (B:List (Nat×Obj)) (w':World) (st':af.Store) (gs:List (Option Nat)) (bg:List (Nat×af.pW)) (se ms:Nat),({t with guard:=gs,begun:=bg,ak:=se,messages:=ms}:af.Pt).Wf→NF S w0 w' (A++(ah p st'::bw a.g gs t.aj.length::dz a.mb (bU bg)::RR)) (B++((b,cl (iz a p {t with guard:=gs,begun:=bg,ak:=se,messages:=ms}) 80)::(a.rp,cl a.kp 65)::LL))→NF S w0 w' (A++(ah p st'::bK p b {t with guard:=gs,begun:=bg,ak:=se,messages:=ms}::R)) (B++L):=by
 obtain ⟨a,ha,hw,h⟩:=cx h
 refine ⟨a,dz a.lb (cu a.la t.live)::((List.zipWith dF a.pa (t.aO.zip t.slots)++t.live.map fun x=>dA p (a.la x.1) x.2)++R),(a.rq,cl a.kq 110)::L,ha,hw,h,fun A B w' st' gs bg se ms hw' h'=>?_⟩
 refine vH (a:=a) ⟨ha.cp,ha.cq,ha.kp,ha.kq,ha.pa,ha.aO,ha.slots⟩ hw' (h'.perm ?_)
 exact List.perm_append_comm_assoc B (cN a p b {t with guard:=gs,begun:=bg,ak:=se,messages:=ms}) L
theorem NF.callX {st':af.Store} {x:Nat×Obj} (h:NF S w0 W (ah p st::R) L) (hx:x∈L) (hc:∀ S1,SF S1 W W p st [x]→Calls P f args W fun e w'=>e=E∧SF S1 W w' p st' [x]):Calls P f args W fun e w'=>e=E∧NF S w0 w' (ah p st'::R) L:=by obtain ⟨A,B,rfl⟩:=List.append_of_mem hx;refine (NF.callB (B:=[x]) (L:=A++B) (h.perm tE) hc).mono ?_;rintro e w' ⟨rfl,hn⟩;exact ⟨rfl,NF.perm hn (tE (l₁:=A) (a:=x) (l₂:=B)).symm⟩
theorem NF.callR {r:aW} (h:NF S w0 W R L) (hr:r∈R) (hc:∀ R',NF S w0 W (r::R') L→Calls P f args W fun e w'=>e=E∧NF S w0 w' (r::R') L):Calls P f args W fun e w'=>e=E∧NF S w0 w' R L:=by obtain ⟨A,B,rfl⟩:=List.append_of_mem hr;refine (hc (A++B) (h.bP tE)).mono ?_;rintro e w' ⟨rfl,hn⟩;exact ⟨rfl,NF.bP hn (tE (l₁:=A) (a:=r) (l₂:=B)).symm⟩
theorem NF.packS {m:af.bJ} {t':af.Pt} {os:List (List UInt8)} {a:rT} (h:NF S w0 W R ((b,cl (iz a p t) 80)::L)) (hm:m.Wf) (nY:t.messages<18446744073709551616) (hf:t.pack m=(t',os)):Calls Tryz.prog 29 #[vP b 0,.agg (bR m)] W fun e w'=>∃ (oq:Option Addr) (ol oc:Nat),e=.returned (.slice oq ol oc)∧NF S w0 w' (bA (.slice oq ol oc) os::R) ((b,cl (iz a p t') 80)::L):=by refine (NF.pack h hm nY hf).mono ?_;exact aad
theorem C5 (B0:List (Nat×Obj)) (h:NF S w0 W (ah p st::bK p b t::R) (B0++L)):∃ (a:rT) (RR:List aW) (LL:List (Nat×Obj)),a.ok t∧t.Wf∧NF S w0 W (ah p st::bw a.g t.guard t.aj.length::dz a.mb (bU t.begun)::RR) (B0++((b,cl (iz a p t) 80)::(a.rp,cl a.kp 65)::LL)) ∧
 ∀ (A:List aW) (B:List (Nat×Obj)) (w':World) (st':af.Store) (gs:List (Option Nat)) (bg:List (Nat×af.pW)) (se ms:Nat),({t with guard:=gs,begun:=bg,ak:=se,messages:=ms}:af.Pt).Wf→NF S w0 w' (A++(ah p st'::bw a.g gs t.aj.length::dz a.mb (bU bg)::RR)) (B++((b,cl (iz a p {t with guard:=gs,begun:=bg,ak:=se,messages:=ms}) 80)::(a.rp,cl a.kp 65)::LL))→NF S w0 w' (A++(ah p st'::bK p b {t with guard:=gs,begun:=bg,ak:=se,messages:=ms}::R)) (B++L):=by
 obtain ⟨a,ha,hw,h⟩:=cx h
 refine ⟨a,dz a.lb (cu a.la t.live)::((List.zipWith dF a.pa (t.aO.zip t.slots)++t.live.map fun x=>dA p (a.la x.1) x.2)++R),(a.rq,cl a.kq 110)::L,ha,hw,h.perm (List.perm_append_comm_assoc (cN a p b t) B0 L),fun A B w' st' gs bg se ms hw' h'=>?_⟩
 refine vH (a:=a) ⟨ha.cp,ha.cq,ha.kp,ha.kq,ha.pa,ha.aO,ha.slots⟩ hw' (h'.perm ?_)
 exact List.perm_append_comm_assoc B (cN a p b {t with guard:=gs,begun:=bg,ak:=se,messages:=ms}) L
theorem NF.gTake2 {x:aW} {n stamp:Nat} {gs:List (Option Nat)} (h:NF S w0 W (x::bw g gs n::R) L) (hi:i<n) (hr:af.vX (gs.getD i none) stamp=0):Calls Tryz.prog 122 #[vP g 0,vI i,vU stamp] W fun e w'=>e=.returned (vI 0)∧NF S w0 w' (x::bw g (gs.set i (some stamp)) n::R) L:=by refine ((h.bP (List.Perm.swap _ _ _)).gTake hi hr).mono ?_;rintro e w' ⟨rfl,g1⟩;exact ⟨rfl,g1.bP (List.Perm.swap _ _ _)⟩
end
end Go.Proofs.N0
namespace Go.Proofs.N0
open Go.RowKit Go.Maps Go.ChangeMaps
variable {er:Nat} {m:af.bJ} {o:af.eE} {bW d0 d1:Int}
section
variable {S:List Nat} {w0 W:World} {p b w:Nat} {L:List (Nat×Obj)} {R:List aW} {t:af.Pt} {st bO:af.Store}
def gotV (g:af.SN) (v:Value):Value:=.agg (eM g.peer g.text g.yes g.h v g.code)
def cI (S:List Nat) (w0:World) (R:List aW) (L:List (Nat×Obj)) (p b:Nat) (st':af.Store) (t':af.Pt) (g:af.SN) (er:Nat) (e:Ending) (w':World):Prop:=∃ v,e=.returned (.tuple #[gotV g v,vI er])∧NF S w0 w' (bA v g.out::ah p st'::bK p b t'::R) L
def eY (m:af.bJ) (bW:Int) (now:Nat) (d0 d1:Int):Value:=.agg (kj m (m.v 1) (m.v 2) bW now d0 d1)
theorem cI.none {g:af.SN} {w':World} {t':af.Pt} (hg:g.out=[]) (h:NF S w0 w' (ah p st::bK p b t'::R) L):cI S w0 R L p b st t' g er (.returned (.tuple #[gotV g (.slice none 0 0),vI er])) w':=by refine ⟨_,rfl,?_⟩;rw [hg];exact h.lQ (Below.refl _ _) (World.ownsRow_nil _ _ _ _)
theorem Ub {now:Nat} (h:NF S w0 W (ah p st::bK p b t::R) L) (hm:m.Wf) (hf:af.xM st t.me t.aj t.offer m=(bO,o,er)) (hz:er≠0) (h11:er≠11) :
 Calls Tryz.prog 84 #[vP b 0,eY m bW now d0 d1] W (cI S w0 R L p b bO t af.nJ er):=by
 obtain ⟨a,RR,LL,ha,hw,h,hback⟩:=lf h
 obtain ⟨iA,pH⟩:∃ iA,iA=bw a.g t.guard t.aj.length::dz a.mb (bU t.begun)::RR:=⟨_,rfl⟩
 rw [←pH] at h
 have CO:Hid (∀ {W:World} S1,SF S1 W W p st [(a.rp,cl a.kp 65)]→Calls Tryz.prog 117 #[vP p 0,.agg #[vI t.me.dh,vI t.me.cD],vL a.rp 0 t.aj.length a.cp,vS t.offer,.agg (dW m)] W fun e w'=>e=.returned (.tuple #[.agg (iw o o.peer),vI er])∧SF S1 W w' p bO [(a.rp,cl a.kp 65)]) :=
  Hi fun S1 hs=>(nI hs hw.me (.inr ⟨a.rp,a.cp,_,a.kp,rfl,ha.cp.1,ha.cp.2,ud _,ha.kp⟩) (fun q hq=>(hw.aj q hq).2.2) (by have:=hw.offer;unfold maxLen;omega) hm hf).1
 have HOW:Hid o.Wf:=Hi (by
  obtain ⟨S1,hs,-⟩:=NF.sfL (B:=[(a.rp,cl a.kp 65)]) (L:=(b,cl (iz a p t) 80)::LL) (h.perm (List.Perm.swap _ _ _))
  exact (nI hs hw.me (.inr ⟨a.rp,a.cp,_,a.kp,rfl,ha.cp.1,ha.cp.2,ud _,ha.kp⟩) (fun q hq=>(hw.aj q hq).2.2) (by have:=hw.offer;unfold maxLen;omega) hm hf).2)
 unfold iz at h
 unfold eY
 have F0:=Hi ((h.alloc (cl (kj m (m.v 1) (m.v 2) bW now d0 d1) 127)).alloc (cl (dK) 35))
 simp only [World.size_alloc] at F0
 obtain ⟨mZ,uw,HA,HW,HM⟩:=vT hback pH ha hw hm
 have e11:((er:Int)==11)=false:=aR
 have hz2:=hz
 clear h hback pH ha hw hm hf
 have r:=rl F0.out.mem.rules
 go_enter Tryz.func84,Tryz.ntmps84
 go_wp2_with fail
 clear r
 refine sk (n:=138) [21,26] [25] (tb [vP b 0,vP b 0,vP b 0,vP p 0,vP b 0,vP b 0,vP b 1,vP b 1,some (.agg #[vI t.me.dh,vI t.me.cD]),vP b 0,vP b 0,vP b 1,vP b 3,vL a.rp 0 t.aj.length a.cp,vP b 0,vP b 0,vP b 1,vP b 4,vS t.offer,vP W.heap.size 0,some (.agg (dW m)),some (.tuple #[.agg (iw o o.peer),vI er]),some (.tuple #[.agg (iw o o.peer),vI er]),some (.agg (iw o o.peer)),vI er,none,none,vI er]) [(W.heap.size+1,cl (dK) 35),(W.heap.size,cl (kj m (m.v 1) (m.v 2) bW now d0 d1) 127),(b,cl (jt p a t) 80),(a.rp,cl a.kp 65)] (LL) [([(25,cl (qa) 257)],ah p st::iA,[]),
  ([(25,cl (qa) 257)],ah p bO::iA,[]),
  ([(25,cl (iw o o.peer) 257)],ah p bO::iA,[])] (F0.out) ⟨sP,sP,sP,sP,sP,sP,sP,sP,sP,sP,sP,sP,sP,sP,sP,sP,sP,sP,sP,sP,sP,?_,sP,sP,sP,sA 1 (cl (qa) 257),V3,sP,trivial⟩ ?_
 ·exact a984
 ·intro v qq x hF hA h;simp only [SA,SC] at hA h;generalize qq 25=uk at hA h;have F1:=Hi h;simp only [PU,bF,Nat.reduceAdd,gT hF 27,hA];clear hF hA h;clear F0 CO;have e1:((er:Int)==0)=false:=aR;have e2:(er==0)=false:=aR;have e3:((er:Int) != 0)=true:=aR;clear hz hz2 h11;have r:=rl F1.out.mem.rules;have F2:=Hi (F1.out.ou (B:=[_]) (vI 0) (.string ⟨#[]⟩) (.bool false) (vI 0) (.slice none 0 0) (vI 0));simp only [bQ,bG] at F2;have r2:=rl F2.out.mem.rules;have F3:=Hi (F2.out.sub (zq _ _)|>.sub (zq _ _)|>.sub (zq _ _));go_wp2_with fail;exact bodyPost_ret (v:=.tuple #[.agg (dK),vI er]) c983 rfl (cI.none rfl (mZ.out [] [] _ bO t.guard t.begun t.ak t.messages HW.out (by rw [uw.out] at F3;exact F3.out)))
theorem X9 {α:Type} (q g c b:α) (l:List α):(q::g::c::b::l).Perm (b::g::c::q::l):=by exact Mc
theorem Ya {α:Type} (b g c q:α) (l:List α):(b::g::c::q::l).Perm (g::c::q::b::l):=by exact Mc
theorem _root_.af.Pt.Wf.msgs (h:t.Wf):({t with messages:=(t.messages+1) % 18446744073709551616}:af.Pt).Wf :=
 ⟨h.me,h.aj,h.many,h.offer,h.size,h.ak,Nat.mod_lt _ aG,h.stamp,h.begun,h.live,h.ids⟩
theorem _root_.af.rejW (hm:m.Wf):(af.nK (m.v 1) 11).Wf:=by
 refine ⟨fun c hc=>?_,fun c hc=>?_,by simp [af.nK]⟩
 ·simp only [gF,Bp,or_false] at hc;rcases hc with rfl|rfl|rfl|rfl|rfl|rfl|rfl|rfl<;>simp [af.nK]
 ·simp only [gF,Bp,or_false] at hc
  have:=hm.pT 1 aH
  rcases hc with rfl|rfl|rfl|rfl<;>simp [af.nK]<;>exact this
theorem Uc {er now:Nat} (h:NF S w0 W (ah p st::bK p b t::R) L) (hm:m.Wf) (hf:af.xM st t.me t.aj t.offer m=(bO,o,11)) {os:List (List UInt8)} (hos:t.pack (af.nK (m.v 1) 11)=({t with messages:=(t.messages+1) % 18446744073709551616},os)) :
 Calls Tryz.prog 84 #[vP b 0,eY m bW now d0 d1] W (cI S w0 R L p b bO {t with messages:=(t.messages+1) % 18446744073709551616} ⟨bW,[],false,0,os,11⟩ 0):=by
 obtain ⟨a,RR,LL,ha,hw,h,hback⟩:=lf h
 obtain ⟨iA,pH⟩:∃ iA,iA=bw a.g t.guard t.aj.length::dz a.mb (bU t.begun)::RR:=⟨_,rfl⟩
 rw [←pH] at h
 have CO:Hid (∀ {W:World} S1,SF S1 W W p st [(a.rp,cl a.kp 65)]→Calls Tryz.prog 117 #[vP p 0,.agg #[vI t.me.dh,vI t.me.cD],vL a.rp 0 t.aj.length a.cp,vS t.offer,.agg (dW m)] W fun e w'=>e=.returned (.tuple #[.agg (iw o o.peer),vI 11])∧SF S1 W w' p bO [(a.rp,cl a.kp 65)]) :=
  Hi fun S1 hs=>(nI hs hw.me (.inr ⟨a.rp,a.cp,_,a.kp,rfl,ha.cp.1,ha.cp.2,ud _,ha.kp⟩) (fun q hq=>(hw.aj q hq).2.2) (by have:=hw.offer;unfold maxLen;omega) hm hf).1
 have HOW:Hid o.Wf:=Hi (by
  obtain ⟨S1,hs,-⟩:=NF.sfL (B:=[(a.rp,cl a.kp 65)]) (L:=(b,cl (iz a p t) 80)::LL) (h.perm (List.Perm.swap _ _ _))
  exact (nI hs hw.me (.inr ⟨a.rp,a.cp,_,a.kp,rfl,ha.cp.1,ha.cp.2,ud _,ha.kp⟩) (fun q hq=>(hw.aj q hq).2.2) (by have:=hw.offer;unfold maxLen;omega) hm hf).2)
 unfold iz at h
 unfold eY
 have F0:=Hi ((h.alloc (cl (kj m (m.v 1) (m.v 2) bW now d0 d1) 127)).alloc (cl (dK) 35))
 simp only [World.size_alloc] at F0
 obtain ⟨mZ,uw,HA,HW,HM⟩:=vT hback pH ha hw hm
 obtain ⟨n1,G9⟩:∃ n1,(t.messages+1) % 18446744073709551616=n1:=⟨_,rfl⟩
 obtain ⟨Xq,HOS⟩:=hi2 G9 hos
 clear G9 hos
 clear h hback pH ha hw hm hf
 have r:=rl F0.out.mem.rules
 go_enter Tryz.func84,Tryz.ntmps84
 go_wp2_with fail
 clear r
 refine sk (n:=138) [21,26] [25] (tb [vP b 0,vP b 0,vP b 0,vP p 0,vP b 0,vP b 0,vP b 1,vP b 1,some (.agg #[vI t.me.dh,vI t.me.cD]),vP b 0,vP b 0,vP b 1,vP b 3,vL a.rp 0 t.aj.length a.cp,vP b 0,vP b 0,vP b 1,vP b 4,vS t.offer,vP W.heap.size 0,some (.agg (dW m)),some (.tuple #[.agg (iw o o.peer),vI 11]),some (.tuple #[.agg (iw o o.peer),vI 11]),some (.agg (iw o o.peer)),vI 11,none,none,vI 11]) [(W.heap.size+1,cl (dK) 35),(W.heap.size,cl (kj m (m.v 1) (m.v 2) bW now d0 d1) 127),(b,cl (jt p a t) 80),(a.rp,cl a.kp 65)] (LL) [([(25,cl (qa) 257)],ah p st::iA,[]),
  ([(25,cl (qa) 257)],ah p bO::iA,[]),
  ([(25,cl (iw o o.peer) 257)],ah p bO::iA,[])] (F0.out) ⟨sP,sP,sP,sP,sP,sP,sP,sP,sP,sP,sP,sP,sP,sP,sP,sP,sP,sP,sP,sP,sP,?_,sP,sP,sP,sA 1 (cl (qa) 257),V3,sP,trivial⟩ ?_
 ·exact a984
 ·intro v qq x hF hA h;simp only [SA,SC] at hA h;generalize qq 25=uk at hA h;have F1:=Hi h;simp only [PU,bF,Nat.reduceAdd,gT hF 27,hA];clear hF hA h;clear F0 CO;have F2:=Hi (F1.out.perm (L':=(b,cl (jt p a t) 80)::(W.heap.size+1,cl (dK) 35)::(W.heap.size,cl (kj m (m.v 1) (m.v 2) bW now d0 d1) 127)::(uk,cl (iw o o.peer) 257)::(a.rp,cl a.kp 65)::LL) (X9 _ _ _ _ _));have PK:Hid (∀ {x:World} {L9:List (Nat×Obj)},NF S w0 x (ah p bO::iA) ((b,cl (jt p a t) 80)::L9)→Calls Tryz.prog 29 #[vP b 0,.agg #[vI 3,vU 0,vU (m.v 1),.string ⟨#[]⟩,vI 0,vI 11,vI 0,vI 0,vI 0,vI 0,vI 0,vU 0,vU 0]] x fun e w9=>∃ (oq:Option Addr) (ol oc:Nat),e=.returned (.slice oq ol oc)∧NF S w0 w9 (bA (.slice oq ol oc) os::ah p bO::iA) ((b,cl (vN p t.me a.rp t.aj.length a.cp t.offer t.size t.ak n1 t.stamp a.g a.rq a.cq a.mb a.lb) 80)::L9)):=Hi fun h=>NF.packS (a:=a) (t:=t) (m:=af.nK (m.v 1) 11) (t':={ t with messages:=n1}) h (af.rejW HM.out) HW.out.messages (by rw [←Xq.out];exact HOS.out);clear F1;go_wp2_with fail;refine XK (n:=138) [9,10,11] [] (tb [vP W.heap.size 13,vI bW,vI 11,vP b 0,vP W.heap.size 0,vP W.heap.size 1,vU (m.v 1),vI 11,some (.agg #[vI 3,vU 0,vU (m.v 1),.string ⟨#[]⟩,vI 0,vI 11,vI 0,vI 0,vI 0,vI 0,vI 0,vU 0,vU 0]),none,none,none,vI 0]) ((W.heap.size,cl (kj m (m.v 1) (m.v 2) bW now d0 d1) 127)::(uk,cl (iw o o.peer) 257)::[]) [kN S w0 [] (ah p bO::iA) ((b,cl (jt p a t) 80)::(W.heap.size+1,cl (dK) 35)::(W.heap.size,cl (kj m (m.v 1) (m.v 2) bW now d0 d1) 127)::(uk,cl (iw o o.peer) 257)::(a.rp,cl a.kp 65)::LL),
   jW (α:=Option Addr×Nat×Nat×Unit) S w0 (fun ch=>[(9,.slice ch.1 ch.2.1 ch.2.2.1)]) (fun _=>[]) (fun ch=>bA (.slice ch.1 ch.2.1 ch.2.2.1) os::ah p bO::iA) (fun _=>(b,cl (vN p t.me a.rp t.aj.length a.cp t.offer t.size t.ak n1 t.stamp a.g a.rq a.cq a.mb a.lb) 80)::(W.heap.size+1,cl (dK) 35)::(W.heap.size,cl (kj m (m.v 1) (m.v 2) bW now d0 d1) 127)::(uk,cl (iw o o.peer) 257)::(a.rp,cl a.kp 65)::LL),
   jW (α:=Option Addr×Nat×Nat×Unit) S w0 (fun ch=>[(9,.slice ch.1 ch.2.1 ch.2.2.1),(10,.agg #[vI bW,.string ⟨#[]⟩,.bool false,vI 0,.slice ch.1 ch.2.1 ch.2.2.1,vI 11])]) (fun _=>[]) (fun ch=>bA (.slice ch.1 ch.2.1 ch.2.2.1) os::ah p bO::iA) (fun _=>(b,cl (vN p t.me a.rp t.aj.length a.cp t.offer t.size t.ak n1 t.stamp a.g a.rq a.cq a.mb a.lb) 80)::(W.heap.size+1,cl (dK) 35)::(W.heap.size,cl (kj m (m.v 1) (m.v 2) bW now d0 d1) 127)::(uk,cl (iw o o.peer) 257)::(a.rp,cl a.kp 65)::LL),
   jW (α:=Option Addr×Nat×Nat×Unit) S w0 (fun ch=>[(9,.slice ch.1 ch.2.1 ch.2.2.1),(10,.agg #[vI bW,.string ⟨#[]⟩,.bool false,vI 0,.slice ch.1 ch.2.1 ch.2.2.1,vI 11])]) (fun _=>[]) (fun ch=>bA (.slice ch.1 ch.2.1 ch.2.2.1) os::ah p bO::iA) (fun ch=>(b,cl (vN p t.me a.rp t.aj.length a.cp t.offer t.size t.ak n1 t.stamp a.g a.rq a.cq a.mb a.lb) 80)::(W.heap.size+1,cl #[vI bW,.string ⟨#[]⟩,.bool false,vI 0,.slice ch.1 ch.2.1 ch.2.2.1,vI 11] 35)::(W.heap.size,cl (kj m (m.v 1) (m.v 2) bW now d0 d1) 127)::(uk,cl (iw o o.peer) 257)::(a.rp,cl a.kp 65)::LL)] (F2.out) ⟨sP,sP,sP,sP,sP,sP,sP,sP,sP,?_,sY,?_,sP,trivial⟩ ?_
  ·exact Zo
  ·exact ZW
  ·intro v qq x ch hF hS hA h;obtain ⟨oq,ol,oc,_⟩:=ch;simp only [tH,and_true] at hS;simp only [SC] at h;have F3:=Hi h;simp only [PU,bF,Nat.reduceAdd,gT hF 12,hS];clear hF hS hA h;have r:=rl F3.out.mem.rules;have F4:=Hi (F3.out.perm (L':=(W.heap.size+1,cl #[vI bW,.string ⟨#[]⟩,.bool false,vI 0,.slice oq ol oc,vI 11] 35)::(W.heap.size,cl (kj m (m.v 1) (m.v 2) bW now d0 d1) 127)::(uk,cl (iw o o.peer) 257)::(b,cl (vN p t.me a.rp t.aj.length a.cp t.offer t.size t.ak n1 t.stamp a.g a.rq a.cq a.mb a.lb) 80)::(a.rp,cl a.kp 65)::LL) (Ya _ _ _ _ _));have F5:=Hi (F4.out.sub (zq _ _)|>.sub (zq _ _)|>.sub (zq _ _));have js:=mZ.out [bA (.slice oq ol oc) os] [] _ bO t.guard t.begun t.ak n1 (by rw [←Xq.out];exact HW.out.msgs) (by rw [uw.out] at F5;exact F5.out);have HF:=Hi js;clear js;go_wp2_with fail;exact bodyPost_ret (v:=.tuple #[.agg #[vI bW,.string ⟨#[]⟩,.bool false,vI 0,.slice oq ol oc,vI 11],vI 0]) (by simp [results,Tryz.results84,go_sem,r]) rfl ⟨.slice oq ol oc,rfl,by rw [Xq.out];exact HF.out⟩
end
end Go.Proofs.N0
namespace Go.Proofs.N0
open Go.RowKit Go.Maps Go.ChangeMaps
variable {m:af.bJ} {o:af.eE} {bW d0 d1:Int} {pZ:Nat}
section
variable {S:List Nat} {w0 W:World} {p b w:Nat} {L:List (Nat×Obj)} {R:List aW} {t:af.Pt} {st bO nu:af.Store}
theorem Ud {er now:Nat} (h:NF S w0 W (ah p st::bK p b t::R) L) (hm:m.Wf) (hf:af.xM st t.me t.aj t.offer m=(bO,o,0)) (hto:m.v 1=(pZ:Int)) (hop:o.peer=(w:Int)) (hwl:w<t.aj.length) {Yb:Nat} (hgc:af.vX (t.guard.getD w none) o.stamp=Yb) (hz:Yb≠0) :
 Calls Tryz.prog 84 #[vP b 0,eY m bW now d0 d1] W (cI S w0 R L p b bO t af.nJ Yb):=by
 obtain ⟨a,RR,LL,ha,hw,h,hback⟩:=lf h
 obtain ⟨iA,pH⟩:∃ iA,iA=bw a.g t.guard t.aj.length::dz a.mb (bU t.begun)::RR:=⟨_,rfl⟩
 rw [←pH] at h
 have CO:Hid (∀ {W:World} S1,SF S1 W W p st [(a.rp,cl a.kp 65)]→Calls Tryz.prog 117 #[vP p 0,.agg #[vI t.me.dh,vI t.me.cD],vL a.rp 0 t.aj.length a.cp,vS t.offer,.agg (dW m)] W fun e w'=>e=.returned (.tuple #[.agg (iw o o.peer),vI 0])∧SF S1 W w' p bO [(a.rp,cl a.kp 65)]) :=
  Hi fun S1 hs=>(nI hs hw.me (.inr ⟨a.rp,a.cp,_,a.kp,rfl,ha.cp.1,ha.cp.2,ud _,ha.kp⟩) (fun q hq=>(hw.aj q hq).2.2) (by have:=hw.offer;unfold maxLen;omega) hm hf).1
 have HOW:Hid o.Wf:=Hi (by
  obtain ⟨S1,hs,-⟩:=NF.sfL (B:=[(a.rp,cl a.kp 65)]) (L:=(b,cl (iz a p t) 80)::LL) (h.perm (List.Perm.swap _ _ _))
  exact (nI hs hw.me (.inr ⟨a.rp,a.cp,_,a.kp,rfl,ha.cp.1,ha.cp.2,ud _,ha.kp⟩) (fun q hq=>(hw.aj q hq).2.2) (by have:=hw.offer;unfold maxLen;omega) hm hf).2)
 unfold iz at h
 unfold eY
 have F0:=Hi ((h.alloc (cl (kj m (m.v 1) (m.v 2) bW now d0 d1) 127)).alloc (cl (dK) 35))
 simp only [World.size_alloc] at F0
 obtain ⟨mZ,uw,HA,HW,HM⟩:=vT hback pH ha hw hm
 obtain ⟨HTO,HOP,HWI⟩:=ju hto hop hwl
 clear hto hop hwl
 have HGC:=Hi hgc
 clear hgc
 clear h hback pH ha hw hm hf
 have r:=rl F0.out.mem.rules
 go_enter Tryz.func84,Tryz.ntmps84
 go_wp2_with fail
 clear r
 refine sk (n:=138) [21,26] [25] (tb [vP b 0,vP b 0,vP b 0,vP p 0,vP b 0,vP b 0,vP b 1,vP b 1,some (.agg #[vI t.me.dh,vI t.me.cD]),vP b 0,vP b 0,vP b 1,vP b 3,vL a.rp 0 t.aj.length a.cp,vP b 0,vP b 0,vP b 1,vP b 4,vS t.offer,vP W.heap.size 0,some (.agg (dW m)),some (.tuple #[.agg (iw o o.peer),vI 0]),some (.tuple #[.agg (iw o o.peer),vI 0]),some (.agg (iw o o.peer)),vI 0,none,none,vI 0]) [(W.heap.size+1,cl (dK) 35),(W.heap.size,cl (kj m (m.v 1) (m.v 2) bW now d0 d1) 127),(b,cl (jt p a t) 80),(a.rp,cl a.kp 65)] (LL) [([(25,cl (qa) 257)],ah p st::iA,[]),
  ([(25,cl (qa) 257)],ah p bO::iA,[]),
  ([(25,cl (iw o o.peer) 257)],ah p bO::iA,[])] (F0.out) ⟨sP,sP,sP,sP,sP,sP,sP,sP,sP,sP,sP,sP,sP,sP,sP,sP,sP,sP,sP,sP,sP,?_,sP,sP,sP,sA 1 (cl (qa) 257),V3,sP,trivial⟩ ?_
 ·exact a984
 ·intro v qq x hF hA h;simp only [SA,SC] at hA h;generalize qq 25=uk at hA h;have F1:=Hi h;simp only [PU,bF,Nat.reduceAdd,gT hF 27,hA];clear hF hA h;clear F0 CO;have F1':=F1.out;rw [HOP.out,HTO.out] at F1';have F1:=Hi F1';clear F1';go_wp2_with fail;refine sk (n:=138) [8] [] (tb [vP b 0,vP b 0,vP b 9,vP a.g 0,vP uk 4,vI (w:Nat),vP uk 6,vU o.stamp,vI Yb,vI Yb]) [(uk,cl (iw o (w:Nat)) 257),(W.heap.size+1,cl (dK) 35),(W.heap.size,cl (kj m (pZ:Nat) (m.v 2) bW now d0 d1) 127),(b,cl (jt p a t) 80)] ((a.rp,cl a.kp 65)::LL) [([],ah p bO::iA,[]),
   ([],ah p bO::iA,[])] (F1.out) ⟨sP,sP,sP,sP,sP,sP,sP,sP,?_,sP,trivial⟩ ?_
  ·exact a9131
  ·intro v qq x hF hA h;simp only [SC] at h;have F2:=Hi h;simp only [PU,bF,Nat.reduceAdd,gT hF 9];clear hF hA h;clear F1;have e1:((Yb:Int)==0)=false:=aR;have e2:(Yb==0)=false:=aR;have e3:((Yb:Int) != 0)=true:=aR;have r:=rl F2.out.mem.rules;have F3:=Hi (F2.out.ou (B:=[_]) (vI 0) (.string ⟨#[]⟩) (.bool false) (vI 0) (.slice none 0 0) (vI 0));simp only [bQ,bG] at F3;have r2:=rl F3.out.mem.rules;have F4:=Hi (F3.out.sub (zq _ _)|>.sub (zq _ _)|>.sub (zq _ _));clear hz;go_wp2_with fail;exact bodyPost_ret (v:=.tuple #[.agg (dK),vI Yb]) c983 rfl (cI.none rfl (mZ.out [] [] _ bO t.guard t.begun t.ak t.messages HW.out (by rw [uw.out] at F4;exact F4.out)))
theorem Yc {er now:Nat} (h:NF S w0 W (ah p st::bK p b t::R) L) (hm:m.Wf) (hf:af.xM st t.me t.aj t.offer m=(bO,o,0)) (hto:m.v 1=(pZ:Int)) (hop:o.peer=(w:Int)) (hwl:w<t.aj.length) {mx:af.bJ} {z:af.jq} {t2:af.Pt} {os:List (List UInt8)} (hgc:af.vX (t.guard.getD w none) o.stamp=0) (hd:af.Int64 d0∧af.Int64 d1) (hans:af.vA bO o t.ak (m.v 1) d0 d1=(nu,mx,z,0)) (hz:nu.has z.h=true∧nu.has z.send=true∧nu.has z.recv=true) (qc:t.live.length<1000000) (hfl:∀ y∈t.live,y.1≠t.ak) (hj:t.join w ⟨t.ak,pZ,now⟩ (ic z) ((t.slots.getD w af.eL).theirs ⟨t.ak,pZ,now⟩)=t2) (hwj:t2.Wf) (hse:t2.ak<18446744073709551615) (hos:({t2 with guard:=t2.guard.set w (some o.stamp),ak:=t2.ak+1}:af.Pt).pack mx=({t2 with guard:=t2.guard.set w (some o.stamp),ak:=t2.ak+1,messages:=(t2.messages+1) % 18446744073709551616},os)) (hwf:({t2 with guard:=t2.guard.set w (some o.stamp),ak:=t2.ak+1,messages:=(t2.messages+1) % 18446744073709551616}:af.Pt).Wf) :
 Calls Tryz.prog 84 #[vP b 0,eY m bW now d0 d1] W (cI S w0 R L p b nu {t2 with guard:=t2.guard.set w (some o.stamp),ak:=t2.ak+1,messages:=(t2.messages+1) % 18446744073709551616} ⟨(w:Int),[],false,z.h,os,0⟩ 0):=by
 obtain ⟨a,RR,LL,ha,hw,h,hback⟩:=lf h
 obtain ⟨iA,pH⟩:∃ iA,iA=bw a.g t.guard t.aj.length::dz a.mb (bU t.begun)::RR:=⟨_,rfl⟩
 rw [←pH] at h
 have CO:Hid (∀ {W:World} S1,SF S1 W W p st [(a.rp,cl a.kp 65)]→Calls Tryz.prog 117 #[vP p 0,.agg #[vI t.me.dh,vI t.me.cD],vL a.rp 0 t.aj.length a.cp,vS t.offer,.agg (dW m)] W fun e w'=>e=.returned (.tuple #[.agg (iw o o.peer),vI 0])∧SF S1 W w' p bO [(a.rp,cl a.kp 65)]) :=
  Hi fun S1 hs=>(nI hs hw.me (.inr ⟨a.rp,a.cp,_,a.kp,rfl,ha.cp.1,ha.cp.2,ud _,ha.kp⟩) (fun q hq=>(hw.aj q hq).2.2) (by have:=hw.offer;unfold maxLen;omega) hm hf).1
 have HOW:Hid o.Wf:=Hi (by
  obtain ⟨S1,hs,-⟩:=NF.sfL (B:=[(a.rp,cl a.kp 65)]) (L:=(b,cl (iz a p t) 80)::LL) (h.perm (List.Perm.swap _ _ _))
  exact (nI hs hw.me (.inr ⟨a.rp,a.cp,_,a.kp,rfl,ha.cp.1,ha.cp.2,ud _,ha.kp⟩) (fun q hq=>(hw.aj q hq).2.2) (by have:=hw.offer;unfold maxLen;omega) hm hf).2)
 unfold iz at h
 unfold eY
 have F0:=Hi ((h.alloc (cl (kj m (m.v 1) (m.v 2) bW now d0 d1) 127)).alloc (cl (dK) 35))
 simp only [World.size_alloc] at F0
 obtain ⟨mZ,uw,HA,HW,HM⟩:=vT hback pH ha hw hm
 have hwl2:w<t2.aj.length:=by rw [←hj];exact hwl
 have hgc2:af.vX (t2.guard.getD w none) o.stamp=0:=by rw [←hj];exact hgc
 have CA:Hid (∀ {W:World} S1,SF S1 W W p bO []→Calls Tryz.prog 119 #[vP p 0,.agg (iw o (w:Nat)),vU t.ak,vU (pZ:Nat),.agg #[vI d0,vI d1]] W fun e w'=>e=.returned (.tuple #[.agg (dW mx),.agg (iH z),vI 0])∧SF S1 W w' p nu []):=Hi fun S1 hs=>by
  have:=(Cr hs HOW.out ⟨⟨ax,by have:=hw.ak;omega⟩,hm.pT 1 aH⟩ hd hans).1
  rw [hop,hto] at this
  exact this
 obtain ⟨n3,hn3⟩:∃ n3,t2.ak+1=n3:=⟨_,rfl⟩
 obtain ⟨n4,hn4⟩:∃ n4,(t2.messages+1) % 18446744073709551616=n4:=⟨_,rfl⟩
 have hw4:IntKind.u64.wrap ((t2.ak:Int)+1)=(n3:Int):=by rw [←hn3,show ((t2.ak:Int)+1)=((t2.ak+1:Nat):Int) by push_cast;rfl];exact PJ
 have HN3:=Hi hn3;have HN4:=Hi hn4;have HWI2:=Hi hwl2;have HGC2:=Hi hgc2;have HGC:=Hi hgc;have HD:=Hi hd;have HANS:=Hi hans;have HZ:=Hi hz;have Ua:=Hi qc;have HFL:=Hi hfl;have HJ:=Hi hj;have HWJ:=Hi hwj;have HOS:=Hi hos;have tR:=Hi hwf;have Iw:=Hi hwj.messages
 clear hn3 hn4 hwl2 hgc2 hgc hd hans hz qc hfl hj hwj hos hwf hse
 obtain ⟨HTO,HOP,HWI⟩:=ju hto hop hwl
 clear hto hop hwl
 clear h hback pH ha hw hm hf
 have r:=rl F0.out.mem.rules
 go_enter Tryz.func84,Tryz.ntmps84
 go_wp2_with fail
 clear r
 refine sk (n:=138) [21,26] [25] (tb [vP b 0,vP b 0,vP b 0,vP p 0,vP b 0,vP b 0,vP b 1,vP b 1,some (.agg #[vI t.me.dh,vI t.me.cD]),vP b 0,vP b 0,vP b 1,vP b 3,vL a.rp 0 t.aj.length a.cp,vP b 0,vP b 0,vP b 1,vP b 4,vS t.offer,vP W.heap.size 0,some (.agg (dW m)),some (.tuple #[.agg (iw o o.peer),vI 0]),some (.tuple #[.agg (iw o o.peer),vI 0]),some (.agg (iw o o.peer)),vI 0,none,none,vI 0]) [(W.heap.size+1,cl (dK) 35),(W.heap.size,cl (kj m (m.v 1) (m.v 2) bW now d0 d1) 127),(b,cl (jt p a t) 80),(a.rp,cl a.kp 65)] (LL) [([(25,cl (qa) 257)],ah p st::iA,[]),
  ([(25,cl (qa) 257)],ah p bO::iA,[]),
  ([(25,cl (iw o o.peer) 257)],ah p bO::iA,[])] (F0.out) ⟨sP,sP,sP,sP,sP,sP,sP,sP,sP,sP,sP,sP,sP,sP,sP,sP,sP,sP,sP,sP,sP,?_,sP,sP,sP,sA 1 (cl (qa) 257),V3,sP,trivial⟩ ?_
 ·exact a984
 ·intro v qq x hF hA h;simp only [SA,SC] at hA h;generalize qq 25=uk at hA h;have F1:=Hi h;simp only [PU,bF,Nat.reduceAdd,gT hF 27,hA];clear hF hA h;clear F0 CO;obtain ⟨S9,hs9,-⟩:=F1.out.sf;have HMX:=Hi (Cr hs9 HOW.out ⟨⟨ax,by have:=HW.out.ak;omega⟩,HM.out.pT 1 aH⟩ HD.out HANS.out).2.1;clear hs9;have F1':=F1.out;rw [HOP.out,HTO.out] at F1';have F1:=Hi F1';clear F1';go_wp2_with fail;refine sk (n:=138) [8] [] (tb [vP b 0,vP b 0,vP b 9,vP a.g 0,vP uk 4,vI (w:Nat),vP uk 6,vU o.stamp,vI 0,vI 0]) [(uk,cl (iw o (w:Nat)) 257),(W.heap.size+1,cl (dK) 35),(W.heap.size,cl (kj m (pZ:Nat) (m.v 2) bW now d0 d1) 127),(b,cl (jt p a t) 80)] ((a.rp,cl a.kp 65)::LL) [([],ah p bO::iA,[]),
   ([],ah p bO::iA,[])] (F1.out) ⟨sP,sP,sP,sP,sP,sP,sP,sP,?_,sP,trivial⟩ ?_
  ·exact a9131
  ·intro v qq x hF hA h;simp only [SC] at h;have F2:=Hi h;simp only [PU,bF,Nat.reduceAdd,gT hF 9];clear hF hA h;clear F1;go_wp2_with fail;refine sk (n:=138) [14,21,22] [19,20] (tb [vP b 0,vP b 0,vP b 0,vP p 0,some (.agg (iw o (w:Nat))),vP b 0,vP b 0,vP b 6,vU t.ak,vP W.heap.size 0,vP W.heap.size 1,vU (pZ:Nat),vP W.heap.size 15,some (.agg #[vI d0,vI d1]),some (.tuple #[.agg (dW mx),.agg (iH z),vI 0]),some (.tuple #[.agg (dW mx),.agg (iH z),vI 0]),some (.agg (dW mx)),some (.agg (iH z)),vI 0,none,none,none,none,vI 0]) [(uk,cl (iw o (w:Nat)) 257),(W.heap.size+1,cl (dK) 35),(W.heap.size,cl (kj m (pZ:Nat) (m.v 2) bW now d0 d1) 127),(b,cl (jt p a t) 80)] ((a.rp,cl a.kp 65)::LL) [([(19,cl (lF) 82),(20,cl #[vI 0,vI 0,vI 0,vI 0] 113)],ah p bO::iA,[]),
    ([(19,cl (lF) 82),(20,cl #[vI 0,vI 0,vI 0,vI 0] 113)],ah p nu::iA,[]),
    ([(19,cl (dW mx) 82),(20,cl #[vI 0,vI 0,vI 0,vI 0] 113)],ah p nu::iA,[]),
    ([(19,cl (dW mx) 82),(20,cl (iH z) 113)],ah p nu::iA,[])] (F2.out) ⟨sP,sP,sP,sP,sP,sP,sP,sP,sP,sP,sP,sP,sP,sP,?_,sP,sP,sP,sP,sA 1 (cl (lF) 82),sA 2 (cl #[vI 0,vI 0,vI 0,vI 0] 113),QK,Y2,sP,trivial⟩ ?_
   ·refine wC ?_;intro D v qq x h0;exact mo (h0.gL fun S1 hs=>CA.out S1 hs)
   ·intro v qq x hF hA h;simp only [SA,SC] at hA h;generalize qq 19=Ue at hA h;generalize qq 20=P9 at hA h;have F3:=Hi h;simp only [PU,bF,Nat.reduceAdd,gT hF 23,hA];clear hF hA h;clear F2;go_wp2_with fail;refine sk (n:=138) [11] [10] (tb [vP b 0,vP b 0,vP b 6,vU t.ak,vP W.heap.size 0,vP W.heap.size 1,vU (pZ:Nat),vP W.heap.size 14,vU now,some (.agg #[vU t.ak,vU (pZ:Nat),vU now])]) [(Ue,cl (dW mx) 82),(P9,cl (iH z) 113),(uk,cl (iw o (w:Nat)) 257),(W.heap.size+1,cl (dK) 35),(W.heap.size,cl (kj m (pZ:Nat) (m.v 2) bW now d0 d1) 127),(b,cl (jt p a t) 80)] ((a.rp,cl a.kp 65)::LL) [([(10,cl #[vU 0,vU 0,vU 0] 98)],ah p nu::iA,[]),
     ([(10,cl #[vU t.ak,vU (pZ:Nat),vU now] 98)],ah p nu::iA,[])] (F3.out) ⟨sP,sP,sP,sP,sP,sP,sP,sP,sP,sP,sA 0 (cl #[vU 0,vU 0,vU 0] 98),?_,trivial⟩ ?_
    ·refine wM ?_;intro D v qq x h0 yy;first|exact ⟨_,(((h0.ai (B:=_) 0 (vU t.ak)).ai (B:=_) 1 (vU (pZ:Nat))).ai (B:=_) 2 (vU now)),wE⟩|exact ⟨_,(((h0.ai (B:=[]) 0 (vU t.ak)).ai (B:=[]) 1 (vU (pZ:Nat))).ai (B:=[]) 2 (vU now)),wE⟩|exact ⟨_,(((h0.ai (B:=[_]) 0 (vU t.ak)).ai (B:=[_]) 1 (vU (pZ:Nat))).ai (B:=[_]) 2 (vU now)),wE⟩
    ·intro v qq x hF hA h;simp only [SA,SC] at hA h;generalize qq 10=VF at hA h;have F4:=Hi h;simp only [PU,bF,Nat.reduceAdd,hA];clear hF hA h;clear F3;have g0:=mZ.out [] [(VF,cl #[vU t.ak,vU (pZ:Nat),vU now] 98),(Ue,cl (dW mx) 82),(P9,cl (iH z) 113),(uk,cl (iw o (w:Nat)) 257),(W.heap.size+1,cl (dK) 35),(W.heap.size,cl (kj m (pZ:Nat) (m.v 2) bW now d0 d1) 127)] _ nu t.guard t.begun t.ak t.messages HW.out (by rw [uw.out] at F4;exact F4.out);have CJ:=Hi (Hp (w:=w) (sx:=z) (o:=⟨t.ak,pZ,now⟩) g0 HWI.out HZ.out (by have:=HW.out.ak;simp only;omega) (fun y hy=>HFL.out y hy) Ua.out (by rw [HJ.out];exact HWJ.out));rw [HJ.out] at CJ;unfold eV mW at CJ;clear g0 mZ uw;have r:=rl F4.out.mem.rules;go_wp2_with fail;clear r;refine CJ.out.mono ?_;rintro e w5 ⟨rfl,g⟩;obtain ⟨a2,yP,LL2,Hq,hW2,g,AX⟩:=C5 [(VF,cl #[vU t.ak,vU (pZ:Nat),vU now] 98),(Ue,cl (dW mx) 82),(P9,cl (iH z) 113),(uk,cl (iw o (w:Nat)) 257),(W.heap.size+1,cl (dK) 35),(W.heap.size,cl (kj m (pZ:Nat) (m.v 2) bW now d0 d1) 127)] g;clear F4 CJ;obtain ⟨Uf,hRR3⟩:∃ Uf,Uf=dz a2.mb (bU t2.begun)::yP:=⟨_,rfl⟩
     rw [←hRR3] at g;obtain ⟨HBK2,HRR3,VB⟩:=ju AX hRR3 hW2;unfold iz at g;have F6:=Hi g;simp only [bQ,bG] at F6;clear g AX hRR3 Hq hW2;go_wp2_with fail;refine sk (n:=138) [8] [] (tb [vP b 0,vP b 0,vP b 9,vP a2.g 0,vP uk 4,vI (w:Nat),vP uk 6,vU o.stamp,vI 0]) [(VF,cl #[vU t.ak,vU (pZ:Nat),vU now] 98),(Ue,cl (dW mx) 82),(P9,cl (iH z) 113),(uk,cl (iw o (w:Nat)) 257),(W.heap.size+1,cl (dK) 35),(W.heap.size,cl (kj m (pZ:Nat) (m.v 2) bW now d0 d1) 127),(b,cl (jt p a2 t2) 80)] ((a2.rp,cl a2.kp 65)::LL2) [([],ah p nu::bw a2.g t2.guard t2.aj.length::Uf,[]),
      ([],ah p nu::bw a2.g (t2.guard.set w (some o.stamp)) t2.aj.length::Uf,[])] (F6.out) ⟨sP,sP,sP,sP,sP,sP,sP,sP,?_,trivial⟩ ?_
     ·refine wC ?_;intro D v qq x h0;exact mo (h0.gTake2 HWI2.out HGC2.out)
     ·intro v qq x hF hA h;simp only [SC] at h;have F7:=Hi h;simp only [PU,bF,Nat.reduceAdd];clear hF hA h;clear F6;have F7s:=Hi (F7.out.ai (B:=[_,_,_,_,_,_]) 6 (vU n3));simp only [aX,aY,jr,bQ,bG] at F7s;have r:=rl F7.out.mem.rules;have r2:=rl F7s.out.mem.rules;go_wp2_with fail;clear r r2 F7;have F8:=Hi (F7s.out.perm (L':=(b,cl (vN p t2.me a2.rp t2.aj.length a2.cp t2.offer t2.size n3 t2.messages t2.stamp a2.g a2.rq a2.cq a2.mb a2.lb) 80)::(W.heap.size+1,cl (dK) 35)::(VF,cl #[vU t.ak,vU (pZ:Nat),vU now] 98)::(Ue,cl (dW mx) 82)::(P9,cl (iH z) 113)::(uk,cl (iw o (w:Nat)) 257)::(W.heap.size,cl (kj m (pZ:Nat) (m.v 2) bW now d0 d1) 127)::(a2.rp,cl a2.kp 65)::LL2) K3);clear F7s;have PK:Hid (∀ {x:World} {L9:List (Nat×Obj)},NF S w0 x (ah p nu::bw a2.g (t2.guard.set w (some o.stamp)) t2.aj.length::Uf) ((b,cl (vN p t2.me a2.rp t2.aj.length a2.cp t2.offer t2.size n3 t2.messages t2.stamp a2.g a2.rq a2.cq a2.mb a2.lb) 80)::L9)→Calls Tryz.prog 29 #[vP b 0,.agg (dW mx)] x fun e w9=>∃ (oq:Option Addr) (ol oc:Nat),e=.returned (.slice oq ol oc)∧NF S w0 w9 (bA (.slice oq ol oc) os::ah p nu::bw a2.g (t2.guard.set w (some o.stamp)) t2.aj.length::Uf) ((b,cl (vN p t2.me a2.rp t2.aj.length a2.cp t2.offer t2.size n3 n4 t2.stamp a2.g a2.rq a2.cq a2.mb a2.lb) 80)::L9)):=Hi fun h=>NF.packS (a:=a2) (t:={ t2 with guard:=t2.guard.set w (some o.stamp),ak:=n3}) (m:=mx) (t':={ t2 with guard:=t2.guard.set w (some o.stamp),ak:=n3,messages:=n4}) h HMX.out Iw.out (by rw [←HN4.out,←HN3.out];exact HOS.out);refine XK (n:=138) [6,7,8] [] (tb [vP uk 4,vI (w:Nat),vP P9 0,vI z.h,vP b 0,some (.agg (dW mx)),none,none,none,vI 0]) ((VF,cl #[vU t.ak,vU (pZ:Nat),vU now] 98)::(Ue,cl (dW mx) 82)::(P9,cl (iH z) 113)::(uk,cl (iw o (w:Nat)) 257)::(W.heap.size,cl (kj m (pZ:Nat) (m.v 2) bW now d0 d1) 127)::[]) [kN S w0 [] (ah p nu::bw a2.g (t2.guard.set w (some o.stamp)) t2.aj.length::Uf) ((b,cl (vN p t2.me a2.rp t2.aj.length a2.cp t2.offer t2.size n3 t2.messages t2.stamp a2.g a2.rq a2.cq a2.mb a2.lb) 80)::(W.heap.size+1,cl (dK) 35)::(VF,cl #[vU t.ak,vU (pZ:Nat),vU now] 98)::(Ue,cl (dW mx) 82)::(P9,cl (iH z) 113)::(uk,cl (iw o (w:Nat)) 257)::(W.heap.size,cl (kj m (pZ:Nat) (m.v 2) bW now d0 d1) 127)::(a2.rp,cl a2.kp 65)::LL2),
       jW (α:=Option Addr×Nat×Nat×Unit) S w0 (fun ch=>[(6,.slice ch.1 ch.2.1 ch.2.2.1)]) (fun _=>[]) (fun ch=>bA (.slice ch.1 ch.2.1 ch.2.2.1) os::ah p nu::bw a2.g (t2.guard.set w (some o.stamp)) t2.aj.length::Uf) (fun _=>(b,cl (vN p t2.me a2.rp t2.aj.length a2.cp t2.offer t2.size n3 n4 t2.stamp a2.g a2.rq a2.cq a2.mb a2.lb) 80)::(W.heap.size+1,cl (dK) 35)::(VF,cl #[vU t.ak,vU (pZ:Nat),vU now] 98)::(Ue,cl (dW mx) 82)::(P9,cl (iH z) 113)::(uk,cl (iw o (w:Nat)) 257)::(W.heap.size,cl (kj m (pZ:Nat) (m.v 2) bW now d0 d1) 127)::(a2.rp,cl a2.kp 65)::LL2),
       jW (α:=Option Addr×Nat×Nat×Unit) S w0 (fun ch=>[(6,.slice ch.1 ch.2.1 ch.2.2.1),(7,.agg #[vI (w:Nat),.string ⟨#[]⟩,.bool false,vI z.h,.slice ch.1 ch.2.1 ch.2.2.1,vI 0])]) (fun _=>[]) (fun ch=>bA (.slice ch.1 ch.2.1 ch.2.2.1) os::ah p nu::bw a2.g (t2.guard.set w (some o.stamp)) t2.aj.length::Uf) (fun _=>(b,cl (vN p t2.me a2.rp t2.aj.length a2.cp t2.offer t2.size n3 n4 t2.stamp a2.g a2.rq a2.cq a2.mb a2.lb) 80)::(W.heap.size+1,cl (dK) 35)::(VF,cl #[vU t.ak,vU (pZ:Nat),vU now] 98)::(Ue,cl (dW mx) 82)::(P9,cl (iH z) 113)::(uk,cl (iw o (w:Nat)) 257)::(W.heap.size,cl (kj m (pZ:Nat) (m.v 2) bW now d0 d1) 127)::(a2.rp,cl a2.kp 65)::LL2),
       jW (α:=Option Addr×Nat×Nat×Unit) S w0 (fun ch=>[(6,.slice ch.1 ch.2.1 ch.2.2.1),(7,.agg #[vI (w:Nat),.string ⟨#[]⟩,.bool false,vI z.h,.slice ch.1 ch.2.1 ch.2.2.1,vI 0])]) (fun _=>[]) (fun ch=>bA (.slice ch.1 ch.2.1 ch.2.2.1) os::ah p nu::bw a2.g (t2.guard.set w (some o.stamp)) t2.aj.length::Uf) (fun ch=>(b,cl (vN p t2.me a2.rp t2.aj.length a2.cp t2.offer t2.size n3 n4 t2.stamp a2.g a2.rq a2.cq a2.mb a2.lb) 80)::(W.heap.size+1,cl #[vI (w:Nat),.string ⟨#[]⟩,.bool false,vI z.h,.slice ch.1 ch.2.1 ch.2.2.1,vI 0] 35)::(VF,cl #[vU t.ak,vU (pZ:Nat),vU now] 98)::(Ue,cl (dW mx) 82)::(P9,cl (iH z) 113)::(uk,cl (iw o (w:Nat)) 257)::(W.heap.size,cl (kj m (pZ:Nat) (m.v 2) bW now d0 d1) 127)::(a2.rp,cl a2.kp 65)::LL2)] (F8.out) ⟨sP,sP,sP,sP,sP,sP,?_,sY,?_,sP,trivial⟩ ?_
      ·exact Zo
      ·exact ZW
      ·intro v qq x ch hF hS hA h;obtain ⟨oq,ol,oc,_⟩:=ch;simp only [tH,and_true] at hS;simp only [SC] at h;have F9:=Hi h;simp only [PU,bF,Nat.reduceAdd,gT hF 9,hS];clear hF hS hA h;clear F8;have qR:=Hi (F9.out.perm (L':=(W.heap.size+1,cl #[vI (w:Nat),.string ⟨#[]⟩,.bool false,vI z.h,.slice oq ol oc,vI 0] 35)::(VF,cl #[vU t.ak,vU (pZ:Nat),vU now] 98)::(Ue,cl (dW mx) 82)::(P9,cl (iH z) 113)::(uk,cl (iw o (w:Nat)) 257)::(W.heap.size,cl (kj m (pZ:Nat) (m.v 2) bW now d0 d1) 127)::(b,cl (vN p t2.me a2.rp t2.aj.length a2.cp t2.offer t2.size n3 n4 t2.stamp a2.g a2.rq a2.cq a2.mb a2.lb) 80)::(a2.rp,cl a2.kp 65)::LL2) K3);have r:=rl qR.out.mem.rules;have qd:=Hi (qR.out.sub (zq _ _)|>.sub (zq _ _)|>.sub (zq _ _)|>.sub (zq _ _)|>.sub (zq _ _)|>.sub (zq _ _));have js:=HBK2.out [bA (.slice oq ol oc) os] [] _ nu (t2.guard.set w (some o.stamp)) t2.begun n3 n4 (by rw [←HN4.out,←HN3.out];exact tR.out) (by rw [HRR3.out] at qd;exact qd.out);have HF:=Hi js;clear js F9;go_wp2_with fail;exact bodyPost_ret (v:=.tuple #[.agg #[vI (w:Nat),.string ⟨#[]⟩,.bool false,vI z.h,.slice oq ol oc,vI 0],vI 0]) (by simp [results,Tryz.results84,go_sem,r]) rfl ⟨.slice oq ol oc,rfl,by rw [HN3.out,HN4.out];exact HF.out⟩
end
end Go.Proofs.N0
